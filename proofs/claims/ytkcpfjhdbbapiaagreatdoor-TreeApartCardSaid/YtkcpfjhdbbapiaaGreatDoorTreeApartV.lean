/- slices.DeleteFunc and slices.Reverse at rows of numbers of the call's own, out of the shelf's contracts (chapter 06). The walks over the predicates that Go hands to DeleteFunc, and over slices.Contains (chapter 06). The walks over Go, axis by axis (chapter 06). Go along the axes whose regions draw their order (chapter 06). Merge hands back a row of its own (chapter 06): words for its state. The walk over the program's Merge: it hands back a row of its own (chapter 06). The walk over the statement TreeApart (chapter 06). -/
import Derived.Shelf.SlicesE.DeleteFunc
import Derived.Shelf.Slices.Reverse
import Derived.Lib.OwnBridge
import Derived.Test.YtkcpfjhdbbapiaaGreatDoorTreeSeq
import Derived.Test.YtkcpfjhdbbapiaaGreatDoorShelfRev
import Derived.Test.YtkcpfjhdbbapiaaGreatDoorTreePart
import Derived.BigQuiet
import Derived.Laws.OwnMore
import Derived.Laws.AppendOwnNone
import Derived.Deep.RegionHeld3
import Derived.Test.YtkcpfjhdbbapiaaGreatDoorTreeAllP
import Derived.Test.YtkcpfjhdbbapiaaGreatDoorFlatKit
import Derived.Deep.OwnRows
import Derived.Test.YtkcpfjhdbbapiaaGreatDoorTreeGoA
import Derived.Laws.Concat
import Derived.Deep.QuietTactic
import Derived.Test.YtkcpfjhdbbapiaaGreatDoorTreeAwake
import Derived.Test.YtkcpfjhdbbapiaaGreatDoorFlatNI
namespace Go.Proofs.YtkcpfjhdbbapiaaGreatDoor.Wtr
open Go Go.RowKit Go.Shelf Go.Sort Go.Proofs.YtkcpfjhdbbapiaaGreatDoor.Kb Go.Proofs.YtkcpfjhdbbapiaaGreatDoor.Flt

def del_ren : Go.Shelf.Ren := ⟨fun | 6 => 61 | 10 => 39 | n => n, fun | 0 => 0 | 3 => 3 | 4 => 4 | 22 => 27 | 23 => 3 | 25 => 49 | n => n, fun n => n⟩
theorem del_lays : Go.Proofs.SlLaysH.n10 Tryz.prog del_ren := {
  mixed := by kernel_rfl
  f6 := ⟨"slices.IndexFunc[[]int,int]", by decide, Tryz.func61.trans (congrArg some (by kernel_rfl))⟩
  f10 := ⟨"slices.DeleteFunc[[]int,int]", by decide, Tryz.func39.trans (congrArg some (by kernel_rfl))⟩
  t0 := Tryz.underlying0
  a0 := Tryz.isAgg0
  z0 := Tryz.sizeOf0
  v0 := Tryz.zeroValue0
  t3 := Tryz.underlying3
  a3 := Tryz.isAgg3
  z3 := Tryz.sizeOf3
  v3 := Tryz.zeroValue3
  t4 := Tryz.underlying4
  a4 := Tryz.isAgg4
  z4 := Tryz.sizeOf4
  v4 := Tryz.zeroValue4
  t22 := Tryz.underlying27
  a22 := Tryz.isAgg27
  z22 := Tryz.sizeOf27
  v22 := Tryz.zeroValue27
  a23 := Tryz.isAgg3
  z23 := Tryz.sizeOf3
  t25 := Tryz.underlying49
  a25 := Tryz.isAgg49
  z25 := Tryz.sizeOf49
  v25 := Tryz.zeroValue49 }
/-- places below a bound -/
abbrev Fin' (n : Nat) := { x : Nat // x < n }
def encF (n : Nat) (x : Fin' n) : Value := .int .i64 (x.1 : Int)
theorem lift_list {n : Nat} {L : List Nat} (h : ∀ x ∈ L, x < n) : ∃ M : List (Fin' n), M.map (·.1) = L := ⟨L.pmap (fun x hx => ⟨x, hx⟩) h, by
  rw [List.map_pmap]
  simp⟩
theorem enc_ic {n : Nat} (M : List (Fin' n)) : M.map (encF n) = ic (M.map (·.1)) := by
  unfold ic encF
  rw [List.map_map]
  rfl
/-- what a predicate that reads cells below B only is asked: it tells p, and does no more than draw -/
def Pred (B n fn : Nat) (lb : Array Value) (p : Nat → Bool) (w : World) : Prop :=
  ∀ (x : Nat) (W : World), x < n → (∀ a : Addr, a.block < B → W.cell? a = w.cell? a) → Calls Tryz.prog fn (#[.int .i64 (x : Int)] ++ lb) W fun e w' => e = .returned (.bool (p x)) ∧ ∃ q, w' = W.drewN q
set_option maxRecDepth 100000 in
/-- slices.DeleteFunc of a row of the call's own -/
theorem delete_own (n : Nat) (hn : 0 < n) (fn : Nat) (lb : Array Value) (eg : ∀ args w, (callFunc fn args).run Tryz.prog w = .ok (.enter fn args) w) (p : Nat → Bool) (L : List Nat) (hL : ∀ x ∈ L, x < n) (g c B : Nat) (w : World)
    (hO : w.ownsRow B 3 1 (.slice (some ⟨g, 0, none⟩) L.length c) L.length (ic L)) (hp : Pred B n fn lb p w) :
    Calls Tryz.prog 39 #[.slice (some ⟨g, 0, none⟩) L.length c, .func (.func fn) #[] lb] w fun e w' => ∃ v, e = .returned v ∧ w'.ownsRow B 3 1 v (L.filter fun x => !p x).length (ic (L.filter fun x => !p x)) ∧ Below B w w' := by
  obtain ⟨M, rfl⟩ := lift_list hL
  have i0 : Inhabited (Fin' n) := ⟨⟨0, hn⟩⟩
  have hO2 : w.ownsRow B 3 1 (.slice (some ⟨g, 0, none⟩) (M.map (·.1)).length c) (M.map (·.1)).length (M.map (encF n)) := by rw [enc_ic]; exact hO
  obtain ⟨g', c', hv, hB, hg, hnc, hcm, hl, hH⟩ := Lib.holds_of_ownsRow hO2 (by simp)
  obtain ⟨rfl, rfl⟩ : g = g' ∧ c = c' := by simpa using hv
  have hM : M.toArray.size = (M.map (·.1)).length := by simp
  have hcon := AnyE.slices_DeleteFunc del_lays (encF n) (fun _ => rfl) (fun x => p x.1) fn lb eg ⟨0, hn⟩ Tryz.zeroValue3 g 0 c M.toArray w
    (fun W x hb => hp x.1 W x.2 (fun a ha => hb.cell (p := a) (by omega)))
    (fun m os dk x _ => hp x.1 _ x.2 (fun a ha => by
      unfold sortWorld
      rw [cell?_grow _ _ _ (by show a.block < (putRow _ _ _ _ _).heap.size; rw [size_putRow]; show a.block < w.heap.size; omega), cell?_putRow_other _ _ g 0 _ _ (Or.inl (by omega))]
      rfl))
    hH (by rw [hM]; unfold maxLen at hcm; omega) (by rw [hM]; exact hnc)
  rw [hM] at hcon
  refine hcon.mono ?_
  rintro e w' ⟨rfl, q, rfl⟩
  have hfl : ((M.toArray.toList.filter fun x => !p x.1)).map (·.1) = (M.map (·.1)).filter fun x => !p x := by
    rw [List.filter_map]
    rfl
  have hlen : (M.toArray.toList.filter fun x => !p x.1).length ≤ (M.map (·.1)).length := by
    rw [List.length_map]
    exact List.length_filter_le _ _
  refine ⟨_, rfl, ?_, Lib.below_putRow (Below.refl _ _) hB⟩
  have hrow := Lib.ownsRow_putRow (q := q) (k := (M.toArray.toList.filter fun x => !p x.1).length) hO2 (ys := (M.toArray.toList.filter fun x => !p x.1) ++ List.replicate ((M.map (·.1)).length - (M.toArray.toList.filter fun x => !p x.1).length) ⟨0, hn⟩) (by rw [List.length_append, List.length_replicate]; omega) hlen
  rw [List.take_left, enc_ic, hfl] at hrow
  have hl2 : ((M.map (·.1)).filter fun x => !p x).length = (M.toArray.toList.filter fun x => !p x.1).length := by rw [← hfl, List.length_map]
  rw [hl2]
  exact hrow
set_option maxRecDepth 100000 in
/-- slices.Reverse of a row of the call's own -/
theorem reverse_own (L : List Nat) (g c B : Nat) (w : World) (hO : w.ownsRow B 3 1 (.slice (some ⟨g, 0, none⟩) L.length c) L.length (ic L)) :
    Calls Tryz.prog 40 #[.slice (some ⟨g, 0, none⟩) L.length c] w fun e w' => e = .returned (.tuple #[]) ∧ w'.ownsRow B 3 1 (.slice (some ⟨g, 0, none⟩) L.length c) L.length (ic L.reverse) ∧ Below B w w' := by
  have e1 : ∀ M : List Nat, ic M = (M.map fun (x : Nat) => (x : Int)).map (Value.int .i64) := fun M => by unfold ic; rw [List.map_map]; rfl
  rw [e1] at hO
  obtain ⟨g', c', hv, hB, hg, hnc, hcm, hl, hH⟩ := Lib.holds_of_ownsRow hO (by simp)
  obtain ⟨rfl, rfl⟩ : g = g' ∧ c = c' := by simpa using hv
  have hcon := Any.slices_Reverse_int Tryz.lays112 g 0 c (L.map fun (x : Nat) => (x : Int)) w hH (by rw [hl]; unfold maxLen at hcm; omega)
  rw [hl] at hcon
  refine hcon.mono ?_
  rintro e w' ⟨rfl, q, rfl⟩
  have hrow := Lib.ownsRow_putRow (q := q) (k := L.length) hO (ys := (L.map fun (x : Nat) => (x : Int)).reverse) (by simp) (Nat.le_refl _)
  rw [List.take_of_length_le (by simp), ← List.map_reverse, ← e1] at hrow
  exact ⟨rfl, by rw [← List.map_reverse]; exact hrow, Lib.below_putRow (Below.refl _ _) hB⟩
end Go.Proofs.YtkcpfjhdbbapiaaGreatDoor.Wtr
namespace Go.Proofs.YtkcpfjhdbbapiaaGreatDoor.Wtr
open Go Go.RowKit Go.Shelf Go.Proofs.YtkcpfjhdbbapiaaGreatDoor.Kb Go.Proofs.YtkcpfjhdbbapiaaGreatDoor.Flt

theorem rdn_same {w W : World} {b off B : Nat} {l : List Ptr.Nd} (h : RdN w (some ⟨b, off, none⟩) l) (hb : b < B) (hW : ∀ a : Addr, a.block < B → W.cell? a = w.cell? a) : RdN W (some ⟨b, off, none⟩) l := by
  intro hne
  obtain ⟨b', off', e, hc⟩ := h hne
  cases e
  exact ⟨b, off, rfl, fun j x hx => by
    obtain ⟨c0, c1, c2, c3⟩ := hc j x hx
    exact ⟨(hW ⟨b, _, none⟩ hb).trans c0, (hW ⟨b, _, none⟩ hb).trans c1, (hW ⟨b, _, none⟩ hb).trans c2, (hW ⟨b, _, none⟩ hb).trans c3⟩⟩
/-- is a place no sibling's? -/
def sibDel (l : List Ptr.Nd) (i x : Nat) : Bool := (Ptr.kin l i == 3) || (Ptr.par l x != Ptr.par l i)
set_option maxHeartbeats 1000000 in
theorem sib_pred (b off c i Bt Ba B : Nat) (l : List Ptr.Nd) (w : World) (hr : RdN w (some ⟨b, off, none⟩) l) (hb : b < B) (hBt : Bt < B) (hBa : Ba < B) (cT : w.cell? ⟨Bt, 0, none⟩ = some (.slice (some ⟨b, off, none⟩) l.length c)) (cA : w.cell? ⟨Ba, 0, none⟩ = some (.int .i64 (i : Int))) (hi : i < l.length) :
    Pred B l.length 34 #[.pointer (some ⟨Bt, 0, none⟩), .pointer (some ⟨Ba, 0, none⟩)] (sibDel l i) w := by
  intro x W hx hW
  have hr' := rdn_same hr hb hW
  have cT' := (hW ⟨Bt, 0, none⟩ hBt).trans cT
  have cA' := (hW ⟨Ba, 0, none⟩ hBa).trans cA
  obtain ⟨c0, _, _, c3⟩ := hr'.cells hi
  obtain ⟨_, _, _, d3⟩ := hr'.cells hx
  simp only at c0 c3 d3
  have e3 : (((Ptr.kin l i : Nat) : Int) == 3) = (Ptr.kin l i == 3) := beq_i _ 3
  have i0 : (0 : Int) ≤ (i : Int) := by omega
  have i1 : (i : Int) < (l.length : Int) := by omega
  have x0 : (0 : Int) ≤ (x : Int) := by omega
  have x1 : (x : Int) < (l.length : Int) := by omega
  have hS : Kept (sibDel l i x = ((Ptr.kin l i == 3) || (Ptr.par l x != Ptr.par l i))) := ⟨rfl⟩
  generalize sibDel l i x = S at hS ⊢
  generalize Ptr.kin l i = K at c0 e3 hS
  generalize (K == 3) = Z at e3 hS
  generalize Ptr.par l i = P at c3 hS
  generalize Ptr.par l x = Q at d3 hS
  clear hr hr' hW cT cA
  show Calls Tryz.prog 34 #[.int .i64 (x : Int), .pointer (some ⟨Bt, 0, none⟩), .pointer (some ⟨Ba, 0, none⟩)] W _
  cases Z with
  | true =>
    go_enter Tryz.func34, Tryz.ntmps34
    go_wp2
    go_quiet (fail)
    go_wp2
    go_ret
    exact ⟨ret_bool (by rw [hS.out]; rfl), _, rfl⟩
  | false =>
    go_enter Tryz.func34, Tryz.ntmps34
    go_wp2
    go_quiet (fail)
    go_wp2
    go_ret
    exact ⟨ret_bool (by rw [hS.out]; rfl), _, rfl⟩
def IdxR (L : List Nat) (x : Nat) (w : World) (e : Ending) (w' : World) : Prop := ∃ z : Int, e = .returned (.int .i64 z) ∧ (0 ≤ z ↔ x ∈ L) ∧ w = w'
/-- the cells of a row of numbers -/
def RdI (w : World) (A : Option Addr) (L : List Nat) : Prop := L ≠ [] → ∃ b, A = some ⟨b, 0, none⟩ ∧ ∀ j x, L[j]? = some x → w.cell? ⟨b, j, none⟩ = some (.int .i64 ((x : Nat) : Int))
theorem rdi_of_own {w : World} {base n c : Nat} {A : Option Addr} {L : List Nat} (h : w.ownsRow base 3 1 (.slice A n c) n (ic L)) : RdI w A L := by
  intro hne
  have hl := h.1
  rw [ic_length] at hl
  have hp := List.length_pos_iff.2 hne
  obtain ⟨g, c', hv, _⟩ := own_block h (by omega)
  obtain ⟨rfl, rfl⟩ : A = some ⟨g, 0, none⟩ ∧ c = c' := by simpa using hv
  exact ⟨g, rfl, fun j x hx => own_at h j _ (by unfold ic; rw [List.getElem?_map, hx]; rfl)⟩
set_option maxHeartbeats 1000000 in
theorem index_any (L : List Nat) (A : Option Addr) (c x : Nat) (w : World) (h : RdI w A L) (hl : L.length ≤ 100000) :
    Calls Tryz.prog 62 #[.slice A L.length c, .int .i64 x] w (IdxR L x w) := by
  have H := Kept.mk h
  clear h
  go_enter Tryz.func62, Tryz.ntmps62
  go_wp2
  go_loop [5, 8] (fun _ i => ∃ k : Nat, k ≤ L.length ∧ i = .int .i64 (k : Int) ∧ Kept (x ∉ L.take k)) (fun _ i => L.length - (intOf i).toNat)
  case atStart => exact ⟨0, by omega, rfl, ⟨by simp⟩⟩
  case round =>
    obtain ⟨k, hk, rfl, HN⟩ := hrel
    have k0 : (0 : Int) ≤ (k : Int) := by omega
    by_cases hlt : k < L.length
    · have k1 : (k : Int) < (L.length : Int) := by omega
      obtain ⟨b, rfl, hc⟩ := H.out (by intro e; subst e; simp at hlt)
      have hg := hc k _ (List.getElem?_eq_getElem hlt)
      have hmem : L[k]'hlt ∈ L := List.getElem_mem _
      have htk : L.take (k + 1) = L.take k ++ [L[k]'hlt] := List.take_succ_eq_append_getElem hlt
      generalize L[k]'hlt = y at hg hmem htk
      have HT := Kept.mk htk
      clear htk hc
      by_cases e : x = y
      · have e2 : ((x : Int) == (y : Int)) = true := by simp; omega
        have hx : Kept (x ∈ L) := ⟨by rw [e]; exact hmem⟩
        clear e hmem
        go_wp2
        go_ret
        exact ⟨_, rfl, ⟨fun _ => hx.out, fun _ => by omega⟩, rfl⟩
      · have e2 : ((x : Int) == (y : Int)) = false := by simp; omega
        have hx : Kept (x ∉ L.take (k + 1)) := ⟨by rw [HT.out]; simp only [List.mem_append, List.mem_singleton, not_or]; exact ⟨HN.out, e⟩⟩
        clear e hmem
        go_wp2
        go_round
        case rel => exact ⟨k + 1, by omega, by go_num, hx⟩
        case measure => simp [intOf]; omega
    · obtain rfl : k = L.length := by omega
      have hx : Kept (x ∉ L) := ⟨by have := HN.out; rwa [List.take_length] at this⟩
      go_wp2
      go_ret
      exact ⟨-1, rfl, ⟨fun h => absurd h (by omega), fun h => absurd h hx.out⟩, rfl⟩
set_option maxHeartbeats 1000000 in
theorem contains_any (L : List Nat) (A : Option Addr) (c x : Nat) (w : World) (h : RdI w A L) (hl : L.length ≤ 100000) :
    Calls Tryz.prog 42 #[.slice A L.length c, .int .i64 x] w fun e w' => e = .returned (.bool (decide (x ∈ L))) ∧ w = w' := by
  have CI := Kept.mk (index_any L A c x w h hl)
  clear h
  go_enter Tryz.func42, Tryz.ntmps42
  go_wp2_with (go_at_call 62; refine CI.out.mono ?_; rintro e w' ⟨z, rfl, hz, rfl⟩; have HZ := Kept.mk hz; clear hz)
  go_ret
  exact ⟨ret_bool (by rw [decide_eq_decide]; exact HZ.out), rfl⟩
set_option maxHeartbeats 1000000 in
theorem up_pred (L : List Nat) (A : Option Addr) (c n Bu B : Nat) (w : World) (h : ∀ W : World, (∀ a : Addr, a.block < B → W.cell? a = w.cell? a) → RdI W A L) (hl : L.length ≤ 100000) (hBu : Bu < B) (cU : w.cell? ⟨Bu, 0, none⟩ = some (.slice A L.length c)) :
    Pred B n 41 #[.pointer (some ⟨Bu, 0, none⟩)] (fun x => decide (x ∈ L)) w := by
  intro x W _ hW
  have CC := Kept.mk (contains_any L A c x W (h W hW) hl)
  have cU' := (hW ⟨Bu, 0, none⟩ hBu).trans cU
  clear hW h cU
  show Calls Tryz.prog 41 #[.int .i64 (x : Int), .pointer (some ⟨Bu, 0, none⟩)] W _
  go_enter Tryz.func41, Tryz.ntmps41
  go_wp2_with (go_at_call 42; refine CC.out.mono ?_; rintro e w' ⟨rfl, rfl⟩)
  go_ret
  exact ⟨rfl, 0, rfl⟩
set_option maxHeartbeats 1000000 in
theorem delete_nil (fn : Nat) (lb : Array Value) (w : World) :
    Calls Tryz.prog 39 #[.slice none 0 0, .func (.func fn) #[] lb] w fun e w' => e = .returned (.slice none 0 0) ∧ w = w' := by
  have cI : ∀ wx, Calls Tryz.prog 61 #[.slice none 0 0, .func (.func fn) #[] lb] wx fun e w' => e = .returned (.int .i64 (-1)) ∧ wx = w' := fun wx => by
    go_enter Tryz.func61, Tryz.ntmps61
    go_wp2
    go_loop [5, 8] (fun _ i => i = .int .i64 0) (fun _ _ => 0)
    case atStart => rfl
    case round =>
      obtain rfl := hrel
      go_wp2
      go_ret
      exact ⟨rfl, rfl⟩
  have CI := Kept.mk cI
  clear cI
  go_enter Tryz.func39, Tryz.ntmps39
  go_wp2_with (go_at_call 61; refine (CI.out _).mono ?_; rintro e w' ⟨rfl, rfl⟩)
  go_ret
  exact ⟨rfl, rfl⟩
theorem delete_row (n : Nat) (hn : 0 < n) (fn : Nat) (lb : Array Value) (eg : ∀ args w, (callFunc fn args).run Tryz.prog w = .ok (.enter fn args) w) (p : Nat → Bool) (L : List Nat) (hL : ∀ x ∈ L, x < n) (v : Value) (B : Nat) (w : World)
    (hO : w.ownsRow B 3 1 v L.length (ic L)) (hp : Pred B n fn lb p w) :
    Calls Tryz.prog 39 #[v, .func (.func fn) #[] lb] w fun e w' => ∃ v', e = .returned v' ∧ w'.ownsRow B 3 1 v' (L.filter fun x => !p x).length (ic (L.filter fun x => !p x)) ∧ Below B w w' := by
  rcases Joins.ownsRow_forms hO with ⟨rfl, h0⟩ | ⟨g, c, rfl⟩
  · obtain rfl : L = [] := List.length_eq_zero_iff.1 h0
    exact (delete_nil fn lb w).mono fun e w' ⟨he, hw⟩ => ⟨_, he, by subst hw; exact hO, by subst hw; exact Below.refl _ _⟩
  · exact delete_own n hn fn lb eg p L hL g c B w hO hp
theorem reverse_row (L : List Nat) (v : Value) (B : Nat) (w : World) (hO : w.ownsRow B 3 1 v L.length (ic L)) :
    Calls Tryz.prog 40 #[v] w fun e w' => e = .returned (.tuple #[]) ∧ w'.ownsRow B 3 1 v L.reverse.length (ic L.reverse) ∧ Below B w w' := by
  rw [List.length_reverse]
  rcases Joins.ownsRow_forms hO with ⟨rfl, h0⟩ | ⟨g, c, rfl⟩
  · obtain rfl : L = [] := List.length_eq_zero_iff.1 h0
    exact (Any.slices_Reverse_int_empty Tryz.lays112 none 0 w).mono fun e w' ⟨he, hw⟩ => ⟨he, by subst hw; exact hO, by subst hw; exact Below.refl _ _⟩
  · exact reverse_own L g c B w hO
end Go.Proofs.YtkcpfjhdbbapiaaGreatDoor.Wtr
namespace Go.Proofs.YtkcpfjhdbbapiaaGreatDoor.Wtr
open Go Go.RowKit Go.Shelf Go.Proofs.YtkcpfjhdbbapiaaGreatDoor.Kb Go.Proofs.YtkcpfjhdbbapiaaGreatDoor.Flt

/-- where an axis goes from a place -/
def goL (l : List Ptr.Nd) (i : Nat) (X : Int) : List Nat :=
  if X = 1 then Ptr.kidsL l i false (i + 1) (Ptr.endN l i)
  else if X = 9 then Ptr.kidsL l i true (i + 1) (Ptr.endN l i)
  else if X = 10 then [i]
  else if X = 3 then (if 0 ≤ Ptr.par l i then [(Ptr.par l i).toNat] else [])
  else if X = 4 then Ptr.upL l i
  else if X = 12 then i :: Ptr.upL l i
  else if X = 2 then stretchL l (i + 1) (Ptr.endN l i)
  else if X = 11 then i :: stretchL l (i + 1) (Ptr.endN l i)
  else if X = 5 then (stretchL l (Ptr.endN l i) l.length).filter fun x => !sibDel l i x
  else if X = 6 then ((stretchL l 0 i).filter fun x => !sibDel l i x).reverse
  else if X = 7 then stretchL l (Ptr.endN l i) l.length
  else if X = 8 then ((stretchL l 0 i).filter fun x => !decide (x ∈ Ptr.upL l i)).reverse
  else []
theorem own_one (w : World) (z : Nat) : (w.alloc (.cells #[.int .i64 (z : Int)] 3)).ownsRow w.heap.size 3 1 (.slice (some ⟨w.heap.size, 0, none⟩) 1 1) 1 (ic [z]) := by
  have := World.ownsRow_lit (base := w.heap.size) (e := 3) (size := 1) w #[.int .i64 (z : Int)] 1 (Nat.le_refl _) (by unfold maxLen; omega) rfl
  simpa [ic] using this
theorem stretch_mem {l : List Ptr.Nd} {a b x : Nat} (h : x ∈ stretchL l a b) (hb : b ≤ l.length) : x < l.length := by
  unfold stretchL at h
  have := List.mem_range'.1 (List.mem_filter.1 h).1
  omega
theorem blk_lt {w : World} {b off : Nat} {l : List Ptr.Nd} {i : Nat} (h : RdN w (some ⟨b, off, none⟩) l) (hi : i < l.length) : b < w.heap.size := Kb.cell_lt (h.cells hi).1
theorem len_filter (L : List Nat) (p : Nat → Bool) : (L.filter p).length ≤ L.length := List.length_filter_le _ _
set_option maxRecDepth 100000 in
set_option maxHeartbeats 4000000 in
theorem go_1 (A : Option Addr) (l : List Ptr.Nd) (c i : Nat) (w : World) (hr : RdN w A l) (hl : l.length ≤ 100000) (hf : FitP l) (hE : TEnv w) (hi : i < l.length) (hp : placeB l i = true) :
    Calls Tryz.prog 9 #[.slice A l.length c, .int .i64 i, .int .u8 1] w fun e w' => ∃ v, e = .returned v ∧ w'.ownsRow w.heap.size 3 1 v (goL l i 1).length (ic (goL l i 1)) ∧ Below w.heap.size w w' := by
  have hgo : goL l i 1 = Ptr.kidsL l i false (i + 1) (Ptr.endN l i) := rfl
  rw [hgo]
  clear hgo
  have cP := fun wx (hx : Below w.heap.size w wx) => place_any A l c i wx (hr.below hx) hl hf (hE.below hx)
  rw [hp] at cP
  have hrng := (place_rng hp).1
  have cN := fun wx hx => end_any A l c i wx hx hi hl
  rw [endN_same] at cN
  obtain ⟨hn1, hn2, _, _⟩ := Ptr.endN_spec l i hi
  have cK := fun wx w1 hw hx => kids_call A c l i hi false hl wx w1 hw hx
  generalize Ptr.kidsL l i false (i + 1) (Ptr.endN l i) = KL at cK ⊢
  generalize Ptr.endN l i = N at cN hn1 hn2
  have HR := Kept.mk hr
  have CP := Kept.mk cP
  have CN := Kept.mk cN
  have CK := Kept.mk cK
  have hb0 : Below w.heap.size w ((w.alloc (.cells #[.slice A l.length c] 22)).alloc (.cells #[.int .i64 i] 3)) := ((Below.refl _ _).alloc (Nat.le_refl _) _).alloc (by simp) _
  have HB0 := Kept.mk hb0
  have s0 : ((w.alloc (.cells #[.slice A l.length c] 22)).alloc (.cells #[.int .i64 i] 3)).cell? ⟨w.heap.size, 0, none⟩ = some (.slice A l.length c) := cell_keep ((Below.refl _ _).alloc (Nat.le_refl _) _) (by rw [World.cell?_alloc_new]; rfl)
  have s1 : ((w.alloc (.cells #[.slice A l.length c] 22)).alloc (.cells #[.int .i64 i] 3)).cell? ⟨w.heap.size + 1, 0, none⟩ = some (.int .i64 i) := by
    have := World.cell?_alloc_new (w.alloc (.cells #[.slice A l.length c] 22)) #[.int .i64 i] 3 0
    rw [World.size_alloc] at this
    exact this
  have HS0 := Kept.mk s0; have HS1 := Kept.mk s1
  have z0 : w.heap.size + 2 ≤ ((w.alloc (.cells #[.slice A l.length c] 22)).alloc (.cells #[.int .i64 i] 3)).heap.size := by simp
  clear hr hf hE hp cP cN hb0 s0 s1 hrng cK
  go_enter Tryz.func9, Tryz.ntmps9
  go_wp2_with (first | (go_at_call 32; refine (CP.out _ HB0.out).mono ?_; rintro e w1 ⟨rfl, hb1⟩; have c0 := cell_keep hb1 HS0.out; have c1 := cell_keep hb1 HS1.out; have z1 := Nat.le_trans z0 hb1.size; have HB1 := Kept.mk (HB0.out.trans (hb1.mono HB0.out.size)); clear hb1) | (go_at_call 33; refine (CN.out _ (HR.out.below HB1.out)).mono ?_; rintro e w2 ⟨rfl, rfl⟩) | (go_at_call 36; refine (kids_any _ _ _ _ _ _).mono ?_; rintro e w2 ⟨rfl, hw2⟩; have W2 := Kept.mk hw2; clear hw2) | (go_at_call 35; refine (CK.out _ _ W2.out (HR.out.below HB1.out)).mono ?_; rintro e w3 ⟨v, rfl, hO, hb3⟩))
  go_ret
  exact ⟨_, rfl, own_low hO HB1.out.size, HB1.out.trans (hb3.mono HB1.out.size)⟩
set_option maxRecDepth 100000 in
set_option maxHeartbeats 4000000 in
theorem go_9 (A : Option Addr) (l : List Ptr.Nd) (c i : Nat) (w : World) (hr : RdN w A l) (hl : l.length ≤ 100000) (hf : FitP l) (hE : TEnv w) (hi : i < l.length) (hp : placeB l i = true) :
    Calls Tryz.prog 9 #[.slice A l.length c, .int .i64 i, .int .u8 9] w fun e w' => ∃ v, e = .returned v ∧ w'.ownsRow w.heap.size 3 1 v (goL l i 9).length (ic (goL l i 9)) ∧ Below w.heap.size w w' := by
  have hgo : goL l i 9 = Ptr.kidsL l i true (i + 1) (Ptr.endN l i) := rfl
  rw [hgo]
  clear hgo
  have cP := fun wx (hx : Below w.heap.size w wx) => place_any A l c i wx (hr.below hx) hl hf (hE.below hx)
  rw [hp] at cP
  have hrng := (place_rng hp).1
  have cN := fun wx hx => end_any A l c i wx hx hi hl
  rw [endN_same] at cN
  obtain ⟨hn1, hn2, _, _⟩ := Ptr.endN_spec l i hi
  have cK := fun wx w1 hw hx => kids_call A c l i hi true hl wx w1 hw hx
  generalize Ptr.kidsL l i true (i + 1) (Ptr.endN l i) = KL at cK ⊢
  generalize Ptr.endN l i = N at cN hn1 hn2
  have HR := Kept.mk hr
  have CP := Kept.mk cP
  have CN := Kept.mk cN
  have CK := Kept.mk cK
  have hb0 : Below w.heap.size w ((w.alloc (.cells #[.slice A l.length c] 22)).alloc (.cells #[.int .i64 i] 3)) := ((Below.refl _ _).alloc (Nat.le_refl _) _).alloc (by simp) _
  have HB0 := Kept.mk hb0
  have s0 : ((w.alloc (.cells #[.slice A l.length c] 22)).alloc (.cells #[.int .i64 i] 3)).cell? ⟨w.heap.size, 0, none⟩ = some (.slice A l.length c) := cell_keep ((Below.refl _ _).alloc (Nat.le_refl _) _) (by rw [World.cell?_alloc_new]; rfl)
  have s1 : ((w.alloc (.cells #[.slice A l.length c] 22)).alloc (.cells #[.int .i64 i] 3)).cell? ⟨w.heap.size + 1, 0, none⟩ = some (.int .i64 i) := by
    have := World.cell?_alloc_new (w.alloc (.cells #[.slice A l.length c] 22)) #[.int .i64 i] 3 0
    rw [World.size_alloc] at this
    exact this
  have HS0 := Kept.mk s0; have HS1 := Kept.mk s1
  have z0 : w.heap.size + 2 ≤ ((w.alloc (.cells #[.slice A l.length c] 22)).alloc (.cells #[.int .i64 i] 3)).heap.size := by simp
  clear hr hf hE hp cP cN hb0 s0 s1 hrng cK
  go_enter Tryz.func9, Tryz.ntmps9
  go_wp2_with (first | (go_at_call 32; refine (CP.out _ HB0.out).mono ?_; rintro e w1 ⟨rfl, hb1⟩; have c0 := cell_keep hb1 HS0.out; have c1 := cell_keep hb1 HS1.out; have z1 := Nat.le_trans z0 hb1.size; have HB1 := Kept.mk (HB0.out.trans (hb1.mono HB0.out.size)); clear hb1) | (go_at_call 33; refine (CN.out _ (HR.out.below HB1.out)).mono ?_; rintro e w2 ⟨rfl, rfl⟩) | (go_at_call 36; refine (kids_any _ _ _ _ _ _).mono ?_; rintro e w2 ⟨rfl, hw2⟩; have W2 := Kept.mk hw2; clear hw2) | (go_at_call 35; refine (CK.out _ _ W2.out (HR.out.below HB1.out)).mono ?_; rintro e w3 ⟨v, rfl, hO, hb3⟩))
  go_ret
  exact ⟨_, rfl, own_low hO HB1.out.size, HB1.out.trans (hb3.mono HB1.out.size)⟩
set_option maxRecDepth 100000 in
set_option maxHeartbeats 4000000 in
theorem go_10 (A : Option Addr) (l : List Ptr.Nd) (c i : Nat) (w : World) (hr : RdN w A l) (hl : l.length ≤ 100000) (hf : FitP l) (hE : TEnv w) (hi : i < l.length) (hp : placeB l i = true) :
    Calls Tryz.prog 9 #[.slice A l.length c, .int .i64 i, .int .u8 10] w fun e w' => ∃ v, e = .returned v ∧ w'.ownsRow w.heap.size 3 1 v (goL l i 10).length (ic (goL l i 10)) ∧ Below w.heap.size w w' := by
  have hgo : goL l i 10 = [i] := rfl
  rw [hgo]
  clear hgo
  have cP := fun wx (hx : Below w.heap.size w wx) => place_any A l c i wx (hr.below hx) hl hf (hE.below hx)
  rw [hp] at cP
  have hrng := (place_rng hp).1
  have cN := fun wx hx => end_any A l c i wx hx hi hl
  rw [endN_same] at cN
  obtain ⟨hn1, hn2, _, _⟩ := Ptr.endN_spec l i hi
  generalize Ptr.endN l i = N at cN hn1 hn2
  have HR := Kept.mk hr
  have CP := Kept.mk cP
  have CN := Kept.mk cN
  have hb0 : Below w.heap.size w ((w.alloc (.cells #[.slice A l.length c] 22)).alloc (.cells #[.int .i64 i] 3)) := ((Below.refl _ _).alloc (Nat.le_refl _) _).alloc (by simp) _
  have HB0 := Kept.mk hb0
  have s0 : ((w.alloc (.cells #[.slice A l.length c] 22)).alloc (.cells #[.int .i64 i] 3)).cell? ⟨w.heap.size, 0, none⟩ = some (.slice A l.length c) := cell_keep ((Below.refl _ _).alloc (Nat.le_refl _) _) (by rw [World.cell?_alloc_new]; rfl)
  have s1 : ((w.alloc (.cells #[.slice A l.length c] 22)).alloc (.cells #[.int .i64 i] 3)).cell? ⟨w.heap.size + 1, 0, none⟩ = some (.int .i64 i) := by
    have := World.cell?_alloc_new (w.alloc (.cells #[.slice A l.length c] 22)) #[.int .i64 i] 3 0
    rw [World.size_alloc] at this
    exact this
  have HS0 := Kept.mk s0; have HS1 := Kept.mk s1
  have z0 : w.heap.size + 2 ≤ ((w.alloc (.cells #[.slice A l.length c] 22)).alloc (.cells #[.int .i64 i] 3)).heap.size := by simp
  clear hr hf hE hp cP cN hb0 s0 s1 hrng
  go_enter Tryz.func9, Tryz.ntmps9
  go_wp2_with (first | (go_at_call 32; refine (CP.out _ HB0.out).mono ?_; rintro e w1 ⟨rfl, hb1⟩; have c0 := cell_keep hb1 HS0.out; have c1 := cell_keep hb1 HS1.out; have z1 := Nat.le_trans z0 hb1.size; have HB1 := Kept.mk (HB0.out.trans (hb1.mono HB0.out.size)); clear hb1) | (go_at_call 33; refine (CN.out _ (HR.out.below HB1.out)).mono ?_; rintro e w2 ⟨rfl, rfl⟩))
  go_ret
  exact ⟨_, rfl, own_low (own_one w1 i) HB1.out.size, HB1.out.alloc HB1.out.size _⟩
set_option maxRecDepth 100000 in
set_option maxHeartbeats 4000000 in
theorem go_4 (A : Option Addr) (l : List Ptr.Nd) (c i : Nat) (w : World) (hr : RdN w A l) (hl : l.length ≤ 100000) (hf : FitP l) (hE : TEnv w) (hi : i < l.length) (hp : placeB l i = true) :
    Calls Tryz.prog 9 #[.slice A l.length c, .int .i64 i, .int .u8 4] w fun e w' => ∃ v, e = .returned v ∧ w'.ownsRow w.heap.size 3 1 v (goL l i 4).length (ic (goL l i 4)) ∧ Below w.heap.size w w' := by
  have hgo : goL l i 4 = Ptr.upL l i := rfl
  rw [hgo]
  clear hgo
  have cP := fun wx (hx : Below w.heap.size w wx) => place_any A l c i wx (hr.below hx) hl hf (hE.below hx)
  rw [hp] at cP
  have hrng := (place_rng hp).1
  have cN := fun wx hx => end_any A l c i wx hx hi hl
  rw [endN_same] at cN
  obtain ⟨hn1, hn2, _, _⟩ := Ptr.endN_spec l i hi
  have cK := fun wx w1 hw hx => up_call A c l i hi hl hrng wx w1 hw hx
  generalize Ptr.upL l i = KL at cK ⊢
  generalize Ptr.endN l i = N at cN hn1 hn2
  have HR := Kept.mk hr
  have CP := Kept.mk cP
  have CN := Kept.mk cN
  have CK := Kept.mk cK
  have hb0 : Below w.heap.size w ((w.alloc (.cells #[.slice A l.length c] 22)).alloc (.cells #[.int .i64 i] 3)) := ((Below.refl _ _).alloc (Nat.le_refl _) _).alloc (by simp) _
  have HB0 := Kept.mk hb0
  have s0 : ((w.alloc (.cells #[.slice A l.length c] 22)).alloc (.cells #[.int .i64 i] 3)).cell? ⟨w.heap.size, 0, none⟩ = some (.slice A l.length c) := cell_keep ((Below.refl _ _).alloc (Nat.le_refl _) _) (by rw [World.cell?_alloc_new]; rfl)
  have s1 : ((w.alloc (.cells #[.slice A l.length c] 22)).alloc (.cells #[.int .i64 i] 3)).cell? ⟨w.heap.size + 1, 0, none⟩ = some (.int .i64 i) := by
    have := World.cell?_alloc_new (w.alloc (.cells #[.slice A l.length c] 22)) #[.int .i64 i] 3 0
    rw [World.size_alloc] at this
    exact this
  have HS0 := Kept.mk s0; have HS1 := Kept.mk s1
  have z0 : w.heap.size + 2 ≤ ((w.alloc (.cells #[.slice A l.length c] 22)).alloc (.cells #[.int .i64 i] 3)).heap.size := by simp
  clear hr hf hE hp cP cN hb0 s0 s1 hrng cK
  go_enter Tryz.func9, Tryz.ntmps9
  go_wp2_with (first | (go_at_call 32; refine (CP.out _ HB0.out).mono ?_; rintro e w1 ⟨rfl, hb1⟩; have c0 := cell_keep hb1 HS0.out; have c1 := cell_keep hb1 HS1.out; have z1 := Nat.le_trans z0 hb1.size; have HB1 := Kept.mk (HB0.out.trans (hb1.mono HB0.out.size)); clear hb1) | (go_at_call 33; refine (CN.out _ (HR.out.below HB1.out)).mono ?_; rintro e w2 ⟨rfl, rfl⟩) | (go_at_call 37; refine (ancestors_any _ _ _ _ _).mono ?_; rintro e w2 ⟨rfl, hw2⟩; have W2 := Kept.mk hw2; clear hw2) | (go_at_call 35; refine (CK.out _ _ W2.out (HR.out.below HB1.out)).mono ?_; rintro e w3 ⟨v, rfl, hO, hb3⟩))
  go_ret
  exact ⟨_, rfl, own_low hO HB1.out.size, HB1.out.trans (hb3.mono HB1.out.size)⟩
set_option maxRecDepth 100000 in
set_option maxHeartbeats 4000000 in
theorem go_2 (A : Option Addr) (l : List Ptr.Nd) (c i : Nat) (w : World) (hr : RdN w A l) (hl : l.length ≤ 100000) (hf : FitP l) (hE : TEnv w) (hi : i < l.length) (hp : placeB l i = true) :
    Calls Tryz.prog 9 #[.slice A l.length c, .int .i64 i, .int .u8 2] w fun e w' => ∃ v, e = .returned v ∧ w'.ownsRow w.heap.size 3 1 v (goL l i 2).length (ic (goL l i 2)) ∧ Below w.heap.size w w' := by
  have hgo : goL l i 2 = stretchL l (i + 1) (Ptr.endN l i) := rfl
  rw [hgo]
  clear hgo
  have cP := fun wx (hx : Below w.heap.size w wx) => place_any A l c i wx (hr.below hx) hl hf (hE.below hx)
  rw [hp] at cP
  have hrng := (place_rng hp).1
  have cN := fun wx hx => end_any A l c i wx hx hi hl
  rw [endN_same] at cN
  obtain ⟨hn1, hn2, _, _⟩ := Ptr.endN_spec l i hi
  have cS := fun wx hx => stretch_any A l c (i + 1) (Ptr.endN l i) wx hx (by omega) (by omega) hl
  rw [show (((i + 1 : Nat) : Int)) = (i : Int) + 1 from rfl] at cS
  generalize Ptr.endN l i = N at cN hn1 hn2 cS ⊢
  have HR := Kept.mk hr
  have CP := Kept.mk cP
  have CN := Kept.mk cN
  have i0 : (0 : Int) ≤ (i : Int) := by omega
  have i1 : (i : Int) < (l.length : Int) := by omega
  have CS := Kept.mk cS
  have hb0 : Below w.heap.size w ((w.alloc (.cells #[.slice A l.length c] 22)).alloc (.cells #[.int .i64 i] 3)) := ((Below.refl _ _).alloc (Nat.le_refl _) _).alloc (by simp) _
  have HB0 := Kept.mk hb0
  have s0 : ((w.alloc (.cells #[.slice A l.length c] 22)).alloc (.cells #[.int .i64 i] 3)).cell? ⟨w.heap.size, 0, none⟩ = some (.slice A l.length c) := cell_keep ((Below.refl _ _).alloc (Nat.le_refl _) _) (by rw [World.cell?_alloc_new]; rfl)
  have s1 : ((w.alloc (.cells #[.slice A l.length c] 22)).alloc (.cells #[.int .i64 i] 3)).cell? ⟨w.heap.size + 1, 0, none⟩ = some (.int .i64 i) := by
    have := World.cell?_alloc_new (w.alloc (.cells #[.slice A l.length c] 22)) #[.int .i64 i] 3 0
    rw [World.size_alloc] at this
    exact this
  have HS0 := Kept.mk s0; have HS1 := Kept.mk s1
  have z0 : w.heap.size + 2 ≤ ((w.alloc (.cells #[.slice A l.length c] 22)).alloc (.cells #[.int .i64 i] 3)).heap.size := by simp
  clear hr hf hE hp cP cN hb0 s0 s1 hrng cS
  go_enter Tryz.func9, Tryz.ntmps9
  go_wp2_with (first | (go_at_call 32; refine (CP.out _ HB0.out).mono ?_; rintro e w1 ⟨rfl, hb1⟩; have c0 := cell_keep hb1 HS0.out; have c1 := cell_keep hb1 HS1.out; have z1 := Nat.le_trans z0 hb1.size; have HB1 := Kept.mk (HB0.out.trans (hb1.mono HB0.out.size)); clear hb1) | (go_at_call 33; refine (CN.out _ (HR.out.below HB1.out)).mono ?_; rintro e w2 ⟨rfl, rfl⟩) | (go_at_call 38; refine (CS.out _ (HR.out.below HB1.out)).mono ?_; rintro e w3 ⟨v, rfl, hO, hb3⟩))
  go_ret
  exact ⟨_, rfl, own_low hO HB1.out.size, HB1.out.trans (hb3.mono HB1.out.size)⟩
set_option maxRecDepth 100000 in
set_option maxHeartbeats 4000000 in
theorem go_7 (A : Option Addr) (l : List Ptr.Nd) (c i : Nat) (w : World) (hr : RdN w A l) (hl : l.length ≤ 100000) (hf : FitP l) (hE : TEnv w) (hi : i < l.length) (hp : placeB l i = true) :
    Calls Tryz.prog 9 #[.slice A l.length c, .int .i64 i, .int .u8 7] w fun e w' => ∃ v, e = .returned v ∧ w'.ownsRow w.heap.size 3 1 v (goL l i 7).length (ic (goL l i 7)) ∧ Below w.heap.size w w' := by
  have hgo : goL l i 7 = stretchL l (Ptr.endN l i) l.length := rfl
  rw [hgo]
  clear hgo
  have cP := fun wx (hx : Below w.heap.size w wx) => place_any A l c i wx (hr.below hx) hl hf (hE.below hx)
  rw [hp] at cP
  have hrng := (place_rng hp).1
  have cN := fun wx hx => end_any A l c i wx hx hi hl
  rw [endN_same] at cN
  obtain ⟨hn1, hn2, _, _⟩ := Ptr.endN_spec l i hi
  have cS := fun wx hx => stretch_any A l c (Ptr.endN l i) l.length wx hx (by omega) (by omega) hl
  generalize Ptr.endN l i = N at cN hn1 hn2 cS ⊢
  have HR := Kept.mk hr
  have CP := Kept.mk cP
  have CN := Kept.mk cN
  have CS := Kept.mk cS
  have hb0 : Below w.heap.size w ((w.alloc (.cells #[.slice A l.length c] 22)).alloc (.cells #[.int .i64 i] 3)) := ((Below.refl _ _).alloc (Nat.le_refl _) _).alloc (by simp) _
  have HB0 := Kept.mk hb0
  have s0 : ((w.alloc (.cells #[.slice A l.length c] 22)).alloc (.cells #[.int .i64 i] 3)).cell? ⟨w.heap.size, 0, none⟩ = some (.slice A l.length c) := cell_keep ((Below.refl _ _).alloc (Nat.le_refl _) _) (by rw [World.cell?_alloc_new]; rfl)
  have s1 : ((w.alloc (.cells #[.slice A l.length c] 22)).alloc (.cells #[.int .i64 i] 3)).cell? ⟨w.heap.size + 1, 0, none⟩ = some (.int .i64 i) := by
    have := World.cell?_alloc_new (w.alloc (.cells #[.slice A l.length c] 22)) #[.int .i64 i] 3 0
    rw [World.size_alloc] at this
    exact this
  have HS0 := Kept.mk s0; have HS1 := Kept.mk s1
  have z0 : w.heap.size + 2 ≤ ((w.alloc (.cells #[.slice A l.length c] 22)).alloc (.cells #[.int .i64 i] 3)).heap.size := by simp
  clear hr hf hE hp cP cN hb0 s0 s1 hrng cS
  go_enter Tryz.func9, Tryz.ntmps9
  go_wp2_with (first | (go_at_call 32; refine (CP.out _ HB0.out).mono ?_; rintro e w1 ⟨rfl, hb1⟩; have c0 := cell_keep hb1 HS0.out; have c1 := cell_keep hb1 HS1.out; have z1 := Nat.le_trans z0 hb1.size; have HB1 := Kept.mk (HB0.out.trans (hb1.mono HB0.out.size)); clear hb1) | (go_at_call 33; refine (CN.out _ (HR.out.below HB1.out)).mono ?_; rintro e w2 ⟨rfl, rfl⟩) | (go_at_call 38; refine (CS.out _ (HR.out.below HB1.out)).mono ?_; rintro e w3 ⟨v, rfl, hO, hb3⟩))
  go_ret
  exact ⟨_, rfl, own_low hO HB1.out.size, HB1.out.trans (hb3.mono HB1.out.size)⟩
set_option maxRecDepth 100000 in
set_option maxHeartbeats 4000000 in
theorem go_5 (A : Option Addr) (l : List Ptr.Nd) (c i : Nat) (w : World) (hr : RdN w A l) (hl : l.length ≤ 100000) (hf : FitP l) (hE : TEnv w) (hi : i < l.length) (hp : placeB l i = true) :
    Calls Tryz.prog 9 #[.slice A l.length c, .int .i64 i, .int .u8 5] w fun e w' => ∃ v, e = .returned v ∧ w'.ownsRow w.heap.size 3 1 v (goL l i 5).length (ic (goL l i 5)) ∧ Below w.heap.size w w' := by
  have hgo : goL l i 5 = (stretchL l (Ptr.endN l i) l.length).filter fun x => !sibDel l i x := rfl
  rw [hgo]
  clear hgo
  have cP := fun wx (hx : Below w.heap.size w wx) => place_any A l c i wx (hr.below hx) hl hf (hE.below hx)
  rw [hp] at cP
  have hrng := (place_rng hp).1
  have cN := fun wx hx => end_any A l c i wx hx hi hl
  rw [endN_same] at cN
  obtain ⟨hn1, hn2, _, _⟩ := Ptr.endN_spec l i hi
  have cS := fun wx hx => stretch_any A l c (Ptr.endN l i) l.length wx hx (by omega) (by omega) hl
  have hm : ∀ x ∈ stretchL l (Ptr.endN l i) l.length, x < l.length := fun x hx => stretch_mem hx (by omega)
  generalize Ptr.endN l i = N at cN hn1 hn2 cS hm ⊢
  have HR := Kept.mk hr
  have CP := Kept.mk cP
  have CN := Kept.mk cN
  have CS := Kept.mk cS; have HM := Kept.mk hm
  have HI := Kept.mk hi
  have hAb := hr.at_ hi
  obtain ⟨b, off, rfl, _⟩ := hAb
  have hblt := blk_lt hr hi
  have hb0 : Below w.heap.size w ((w.alloc (.cells #[.slice (some ⟨b, off, none⟩) l.length c] 22)).alloc (.cells #[.int .i64 i] 3)) := ((Below.refl _ _).alloc (Nat.le_refl _) _).alloc (by simp) _
  have HB0 := Kept.mk hb0
  have s0 : ((w.alloc (.cells #[.slice (some ⟨b, off, none⟩) l.length c] 22)).alloc (.cells #[.int .i64 i] 3)).cell? ⟨w.heap.size, 0, none⟩ = some (.slice (some ⟨b, off, none⟩) l.length c) := cell_keep ((Below.refl _ _).alloc (Nat.le_refl _) _) (by rw [World.cell?_alloc_new]; rfl)
  have s1 : ((w.alloc (.cells #[.slice (some ⟨b, off, none⟩) l.length c] 22)).alloc (.cells #[.int .i64 i] 3)).cell? ⟨w.heap.size + 1, 0, none⟩ = some (.int .i64 i) := by
    have := World.cell?_alloc_new (w.alloc (.cells #[.slice (some ⟨b, off, none⟩) l.length c] 22)) #[.int .i64 i] 3 0
    rw [World.size_alloc] at this
    exact this
  have HS0 := Kept.mk s0; have HS1 := Kept.mk s1
  have z0 : w.heap.size + 2 ≤ ((w.alloc (.cells #[.slice (some ⟨b, off, none⟩) l.length c] 22)).alloc (.cells #[.int .i64 i] 3)).heap.size := by simp
  clear hr hf hE hp cP cN hb0 s0 s1 hrng cS hm
  go_enter Tryz.func9, Tryz.ntmps9
  go_wp2_with (first | (go_at_call 32; refine (CP.out _ HB0.out).mono ?_; rintro e w1 ⟨rfl, hb1⟩; have c0 := cell_keep hb1 HS0.out; have c1 := cell_keep hb1 HS1.out; have z1 := Nat.le_trans z0 hb1.size; have HB1 := Kept.mk (HB0.out.trans (hb1.mono HB0.out.size)); clear hb1) | (go_at_call 33; refine (CN.out _ (HR.out.below HB1.out)).mono ?_; rintro e w2 ⟨rfl, rfl⟩) | (go_at_call 38; refine (CS.out _ (HR.out.below HB1.out)).mono ?_; rintro e w3 ⟨v, rfl, hO, hb3⟩; have HB3 := Kept.mk (HB1.out.trans (hb3.mono HB1.out.size)); have c03 := cell_keep hb3 c0; have c13 := cell_keep hb3 c1; have O3 := Kept.mk hO; clear hO hb3) | (go_at_call 39; refine (delete_row l.length (by have := HI.out; omega) 34 _ (enters_of Tryz.func34 (by kernel_rfl) rfl) (sibDel l i) _ HM.out v w1.heap.size w3 O3.out (sib_pred b off c i w.heap.size (w.heap.size + 1) w1.heap.size l w3 (HR.out.below HB3.out) (by omega) (by omega) (by omega) c03 c13 HI.out)).mono ?_; rintro e w4 ⟨v4, rfl, hO4, hb4⟩; have O4 := Kept.mk hO4; have HB4 := Kept.mk (HB3.out.trans (hb4.mono HB1.out.size)); clear hO4 hb4))
  go_ret
  exact ⟨_, rfl, own_low O4.out HB1.out.size, HB4.out⟩
set_option maxRecDepth 100000 in
set_option maxHeartbeats 4000000 in
theorem go_6 (A : Option Addr) (l : List Ptr.Nd) (c i : Nat) (w : World) (hr : RdN w A l) (hl : l.length ≤ 100000) (hf : FitP l) (hE : TEnv w) (hi : i < l.length) (hp : placeB l i = true) :
    Calls Tryz.prog 9 #[.slice A l.length c, .int .i64 i, .int .u8 6] w fun e w' => ∃ v, e = .returned v ∧ w'.ownsRow w.heap.size 3 1 v (goL l i 6).length (ic (goL l i 6)) ∧ Below w.heap.size w w' := by
  have hgo : goL l i 6 = ((stretchL l 0 i).filter fun x => !sibDel l i x).reverse := rfl
  rw [hgo]
  clear hgo
  have cP := fun wx (hx : Below w.heap.size w wx) => place_any A l c i wx (hr.below hx) hl hf (hE.below hx)
  rw [hp] at cP
  have hrng := (place_rng hp).1
  have cN := fun wx hx => end_any A l c i wx hx hi hl
  rw [endN_same] at cN
  obtain ⟨hn1, hn2, _, _⟩ := Ptr.endN_spec l i hi
  have cS := fun wx hx => stretch_any A l c 0 i wx hx (by omega) (by omega) hl
  have hm : ∀ x ∈ stretchL l 0 i, x < l.length := fun x hx => stretch_mem hx (by omega)
  generalize Ptr.endN l i = N at cN hn1 hn2
  have HR := Kept.mk hr
  have CP := Kept.mk cP
  have CN := Kept.mk cN
  have CS := Kept.mk cS; have HM := Kept.mk hm
  have HI := Kept.mk hi
  have hAb := hr.at_ hi
  obtain ⟨b, off, rfl, _⟩ := hAb
  have hblt := blk_lt hr hi
  have hb0 : Below w.heap.size w ((w.alloc (.cells #[.slice (some ⟨b, off, none⟩) l.length c] 22)).alloc (.cells #[.int .i64 i] 3)) := ((Below.refl _ _).alloc (Nat.le_refl _) _).alloc (by simp) _
  have HB0 := Kept.mk hb0
  have s0 : ((w.alloc (.cells #[.slice (some ⟨b, off, none⟩) l.length c] 22)).alloc (.cells #[.int .i64 i] 3)).cell? ⟨w.heap.size, 0, none⟩ = some (.slice (some ⟨b, off, none⟩) l.length c) := cell_keep ((Below.refl _ _).alloc (Nat.le_refl _) _) (by rw [World.cell?_alloc_new]; rfl)
  have s1 : ((w.alloc (.cells #[.slice (some ⟨b, off, none⟩) l.length c] 22)).alloc (.cells #[.int .i64 i] 3)).cell? ⟨w.heap.size + 1, 0, none⟩ = some (.int .i64 i) := by
    have := World.cell?_alloc_new (w.alloc (.cells #[.slice (some ⟨b, off, none⟩) l.length c] 22)) #[.int .i64 i] 3 0
    rw [World.size_alloc] at this
    exact this
  have HS0 := Kept.mk s0; have HS1 := Kept.mk s1
  have z0 : w.heap.size + 2 ≤ ((w.alloc (.cells #[.slice (some ⟨b, off, none⟩) l.length c] 22)).alloc (.cells #[.int .i64 i] 3)).heap.size := by simp
  clear hr hf hE hp cP cN hb0 s0 s1 hrng cS hm
  go_enter Tryz.func9, Tryz.ntmps9
  go_wp2_with (first | (go_at_call 32; refine (CP.out _ HB0.out).mono ?_; rintro e w1 ⟨rfl, hb1⟩; have c0 := cell_keep hb1 HS0.out; have c1 := cell_keep hb1 HS1.out; have z1 := Nat.le_trans z0 hb1.size; have HB1 := Kept.mk (HB0.out.trans (hb1.mono HB0.out.size)); clear hb1) | (go_at_call 33; refine (CN.out _ (HR.out.below HB1.out)).mono ?_; rintro e w2 ⟨rfl, rfl⟩) | (go_at_call 38; refine (CS.out _ (HR.out.below HB1.out)).mono ?_; rintro e w3 ⟨v, rfl, hO, hb3⟩; have HB3 := Kept.mk (HB1.out.trans (hb3.mono HB1.out.size)); have c03 := cell_keep hb3 c0; have c13 := cell_keep hb3 c1; have O3 := Kept.mk hO; clear hO hb3) | (go_at_call 39; refine (delete_row l.length (by have := HI.out; omega) 34 _ (enters_of Tryz.func34 (by kernel_rfl) rfl) (sibDel l i) _ HM.out v w1.heap.size w3 O3.out (sib_pred b off c i w.heap.size (w.heap.size + 1) w1.heap.size l w3 (HR.out.below HB3.out) (by omega) (by omega) (by omega) c03 c13 HI.out)).mono ?_; rintro e w4 ⟨v4, rfl, hO4, hb4⟩; have O4 := Kept.mk hO4; have HB4 := Kept.mk (HB3.out.trans (hb4.mono HB1.out.size)); clear hO4 hb4) | (go_at_call 40; refine (reverse_row _ v4 w1.heap.size w4 O4.out).mono ?_; rintro e w5 ⟨rfl, hO5, hb5⟩; have O5 := Kept.mk hO5; have HB5 := Kept.mk (HB4.out.trans (hb5.mono HB1.out.size)); clear hO5 hb5))
  go_ret
  exact ⟨_, rfl, own_low O5.out HB1.out.size, HB5.out⟩
set_option maxRecDepth 100000 in
set_option maxHeartbeats 4000000 in
theorem go_3 (A : Option Addr) (l : List Ptr.Nd) (c i : Nat) (w : World) (hr : RdN w A l) (hl : l.length ≤ 100000) (hf : FitP l) (hE : TEnv w) (hi : i < l.length) (hp : placeB l i = true) :
    Calls Tryz.prog 9 #[.slice A l.length c, .int .i64 i, .int .u8 3] w fun e w' => ∃ v, e = .returned v ∧ w'.ownsRow w.heap.size 3 1 v (goL l i 3).length (ic (goL l i 3)) ∧ Below w.heap.size w w' := by
  have hgo : goL l i 3 = if 0 ≤ Ptr.par l i then [(Ptr.par l i).toNat] else [] := rfl
  rw [hgo]
  clear hgo
  have cP := fun wx (hx : Below w.heap.size w wx) => place_any A l c i wx (hr.below hx) hl hf (hE.below hx)
  rw [hp] at cP
  have hrng := (place_rng hp).1
  have cN := fun wx hx => end_any A l c i wx hx hi hl
  rw [endN_same] at cN
  obtain ⟨hn1, hn2, _, _⟩ := Ptr.endN_spec l i hi
  obtain ⟨b, off, rfl, _, _, _, c3⟩ := hr.at_ hi
  simp only at c3
  have hrk := hrng i hi
  generalize Ptr.par l i = P at c3 hrk ⊢
  generalize Ptr.endN l i = N at cN hn1 hn2
  have HR := Kept.mk hr
  have CP := Kept.mk cP
  have CN := Kept.mk cN
  have i0 : (0 : Int) ≤ (i : Int) := by omega
  have i1 : (i : Int) < (l.length : Int) := by omega
  have HC3 := Kept.mk c3
  have hb0 : Below w.heap.size w ((w.alloc (.cells #[.slice (some ⟨b, off, none⟩) l.length c] 22)).alloc (.cells #[.int .i64 i] 3)) := ((Below.refl _ _).alloc (Nat.le_refl _) _).alloc (by simp) _
  have HB0 := Kept.mk hb0
  have s0 : ((w.alloc (.cells #[.slice (some ⟨b, off, none⟩) l.length c] 22)).alloc (.cells #[.int .i64 i] 3)).cell? ⟨w.heap.size, 0, none⟩ = some (.slice (some ⟨b, off, none⟩) l.length c) := cell_keep ((Below.refl _ _).alloc (Nat.le_refl _) _) (by rw [World.cell?_alloc_new]; rfl)
  have s1 : ((w.alloc (.cells #[.slice (some ⟨b, off, none⟩) l.length c] 22)).alloc (.cells #[.int .i64 i] 3)).cell? ⟨w.heap.size + 1, 0, none⟩ = some (.int .i64 i) := by
    have := World.cell?_alloc_new (w.alloc (.cells #[.slice (some ⟨b, off, none⟩) l.length c] 22)) #[.int .i64 i] 3 0
    rw [World.size_alloc] at this
    exact this
  have HS0 := Kept.mk s0; have HS1 := Kept.mk s1
  have z0 : w.heap.size + 2 ≤ ((w.alloc (.cells #[.slice (some ⟨b, off, none⟩) l.length c] 22)).alloc (.cells #[.int .i64 i] 3)).heap.size := by simp
  clear hr hf hE hp cP cN hb0 s0 s1 hrng c3
  by_cases hP : 0 ≤ P
  · rw [if_pos hP]
    obtain ⟨k, rfl⟩ : ∃ k : Nat, P = k := ⟨P.toNat, by omega⟩
    rw [Int.toNat_natCast]
    go_enter Tryz.func9, Tryz.ntmps9
    go_wp2_with (first | (go_at_call 32; refine (CP.out _ HB0.out).mono ?_; rintro e w1 ⟨rfl, hb1⟩; have c0 := cell_keep hb1 HS0.out; have c1 := cell_keep hb1 HS1.out; have d3 := cell_keep (HB0.out.trans (hb1.mono HB0.out.size)) HC3.out; have z1 := Nat.le_trans z0 hb1.size; have HB1 := Kept.mk (HB0.out.trans (hb1.mono HB0.out.size)); clear hb1) | (go_at_call 33; refine (CN.out _ (HR.out.below HB1.out)).mono ?_; rintro e w2 ⟨rfl, rfl⟩))
    go_ret
    exact ⟨_, rfl, own_low (own_one w1 k) HB1.out.size, HB1.out.alloc HB1.out.size _⟩
  · rw [if_neg hP]
    go_enter Tryz.func9, Tryz.ntmps9
    go_wp2_with (first | (go_at_call 32; refine (CP.out _ HB0.out).mono ?_; rintro e w1 ⟨rfl, hb1⟩; have c0 := cell_keep hb1 HS0.out; have c1 := cell_keep hb1 HS1.out; have d3 := cell_keep (HB0.out.trans (hb1.mono HB0.out.size)) HC3.out; have HB1 := Kept.mk (HB0.out.trans (hb1.mono HB0.out.size)); clear hb1) | (go_at_call 33; refine (CN.out _ (HR.out.below HB1.out)).mono ?_; rintro e w2 ⟨rfl, rfl⟩))
    go_ret
    exact ⟨_, rfl, World.ownsRow_nil _ _ _ _, HB1.out⟩
theorem rdi_keep {w3 w W : World} {A : Option Addr} {L : List Nat} {B : Nat} (h : RdI w3 A L) (hw : Below w3.heap.size w3 w) (hB : w3.heap.size ≤ B) (hW : ∀ a : Addr, a.block < B → W.cell? a = w.cell? a) : RdI W A L := by
  intro hne
  obtain ⟨b, rfl, hc⟩ := h hne
  exact ⟨b, rfl, fun j x hx => by
    have h3 := hc j x hx
    have hb := Kb.cell_lt h3
    exact (hW ⟨b, j, none⟩ (by show b < B; omega)).trans ((hw.cell (p := ⟨b, j, none⟩) hb).trans h3)⟩
theorem up_over {l : List Ptr.Nd} {i : Nat} {AU : Option Addr} {cU : Nat} {w3 w4 : World} {n : Nat} (h : RdI w3 AU (Ptr.upL l i)) (hb : Below (w3.alloc (.cells #[.slice AU (Ptr.upL l i).length cU] 27)).heap.size (w3.alloc (.cells #[.slice AU (Ptr.upL l i).length cU] 27)) w4) (hl : (Ptr.upL l i).length ≤ 100000) :
    Pred (w3.alloc (.cells #[.slice AU (Ptr.upL l i).length cU] 27)).heap.size n 41 #[.pointer (some ⟨w3.heap.size, 0, none⟩)] (fun x => decide (x ∈ Ptr.upL l i)) w4 :=
  up_pred _ AU cU n w3.heap.size _ w4 (fun W hW => rdi_keep h (((Below.refl _ _).alloc (Nat.le_refl _) _).trans (hb.mono (by simp))) (by simp) hW) hl (by simp) (cell_keep hb (by rw [World.cell?_alloc_new]; rfl))
set_option maxRecDepth 100000 in
set_option maxHeartbeats 4000000 in
theorem go_8 (A : Option Addr) (l : List Ptr.Nd) (c i : Nat) (w : World) (hr : RdN w A l) (hl : l.length ≤ 100000) (hf : FitP l) (hE : TEnv w) (hi : i < l.length) (hp : placeB l i = true) :
    Calls Tryz.prog 9 #[.slice A l.length c, .int .i64 i, .int .u8 8] w fun e w' => ∃ v, e = .returned v ∧ w'.ownsRow w.heap.size 3 1 v (goL l i 8).length (ic (goL l i 8)) ∧ Below w.heap.size w w' := by
  have hgo : goL l i 8 = ((stretchL l 0 i).filter fun x => !decide (x ∈ Ptr.upL l i)).reverse := rfl
  rw [hgo]
  clear hgo
  have cP := fun wx (hx : Below w.heap.size w wx) => place_any A l c i wx (hr.below hx) hl hf (hE.below hx)
  rw [hp] at cP
  have hrng := (place_rng hp).1
  have cN := fun wx hx => end_any A l c i wx hx hi hl
  rw [endN_same] at cN
  obtain ⟨hn1, hn2, _, _⟩ := Ptr.endN_spec l i hi
  have cK := fun wx w1 hw hx => up_call A c l i hi hl hrng wx w1 hw hx
  have hUL : (Ptr.upL l i).length ≤ 100000 := by have := upC_len l i (Ptr.par l i); unfold Ptr.upL; omega
  have cS := fun wx hx => stretch_any A l c 0 i wx hx (by omega) (by omega) hl
  have hm : ∀ x ∈ stretchL l 0 i, x < l.length := fun x hx => stretch_mem hx (by omega)
  generalize Ptr.endN l i = N at cN hn1 hn2
  have HR := Kept.mk hr
  have CP := Kept.mk cP
  have CN := Kept.mk cN
  have CK := Kept.mk cK
  have CS := Kept.mk cS; have HM := Kept.mk hm
  have HI := Kept.mk hi
  have hb0 : Below w.heap.size w ((w.alloc (.cells #[.slice A l.length c] 22)).alloc (.cells #[.int .i64 i] 3)) := ((Below.refl _ _).alloc (Nat.le_refl _) _).alloc (by simp) _
  have HB0 := Kept.mk hb0
  have s0 : ((w.alloc (.cells #[.slice A l.length c] 22)).alloc (.cells #[.int .i64 i] 3)).cell? ⟨w.heap.size, 0, none⟩ = some (.slice A l.length c) := cell_keep ((Below.refl _ _).alloc (Nat.le_refl _) _) (by rw [World.cell?_alloc_new]; rfl)
  have s1 : ((w.alloc (.cells #[.slice A l.length c] 22)).alloc (.cells #[.int .i64 i] 3)).cell? ⟨w.heap.size + 1, 0, none⟩ = some (.int .i64 i) := by
    have := World.cell?_alloc_new (w.alloc (.cells #[.slice A l.length c] 22)) #[.int .i64 i] 3 0
    rw [World.size_alloc] at this
    exact this
  have HS0 := Kept.mk s0; have HS1 := Kept.mk s1
  have z0 : w.heap.size + 2 ≤ ((w.alloc (.cells #[.slice A l.length c] 22)).alloc (.cells #[.int .i64 i] 3)).heap.size := by simp
  clear hr hf hE hp cP cN hb0 s0 s1 hrng cS hm cK
  go_enter Tryz.func9, Tryz.ntmps9
  go_wp2_with (first | (go_at_call 32; refine (CP.out _ HB0.out).mono ?_; rintro e w1 ⟨rfl, hb1⟩; have c0 := cell_keep hb1 HS0.out; have c1 := cell_keep hb1 HS1.out; have z1 := Nat.le_trans z0 hb1.size; have HB1 := Kept.mk (HB0.out.trans (hb1.mono HB0.out.size)); clear hb1) | (go_at_call 33; refine (CN.out _ (HR.out.below HB1.out)).mono ?_; rintro e w2 ⟨rfl, rfl⟩) | (go_at_call 37; refine (ancestors_any _ _ _ _ _).mono ?_; rintro e w2 ⟨rfl, hw2⟩; have W2 := Kept.mk hw2; clear hw2) | (go_at_call 35; refine (CK.out _ _ W2.out (HR.out.below HB1.out)).mono ?_; rintro e w3 ⟨v, rfl, hO, hb3⟩; obtain ⟨AU, cU, rfl⟩ := own_shape_i hO; have RU := Kept.mk (rdi_of_own hO); have HB3 := Kept.mk (HB1.out.trans (hb3.mono HB1.out.size)); have c03 := cell_keep hb3 c0; have c13 := cell_keep hb3 c1; have c04 := cell_keep ((Below.refl w3.heap.size w3).alloc (Nat.le_refl _) (.cells #[.slice AU (Ptr.upL l i).length cU] 27)) c03; have c14 := cell_keep ((Below.refl w3.heap.size w3).alloc (Nat.le_refl _) (.cells #[.slice AU (Ptr.upL l i).length cU] 27)) c13; clear hO hb3) | (go_at_call 38; refine (CS.out _ (HR.out.below (HB3.out.alloc HB3.out.size (.cells #[.slice AU (Ptr.upL l i).length cU] 27)))).mono ?_; rintro e w4 ⟨v4, rfl, hO4, hb4⟩; have HB4 := Kept.mk ((HB3.out.alloc HB3.out.size (.cells #[.slice AU (Ptr.upL l i).length cU] 27)).trans (hb4.mono (by have := HB3.out.size; simp; omega))); have PU := Kept.mk (up_over (i := i) (n := l.length) RU.out hb4 hUL); have O4 := Kept.mk hO4; clear hO4 hb4) | (go_at_call 39; refine (delete_row l.length (by have := HI.out; omega) 41 _ (enters_of Tryz.func41 (by kernel_rfl) rfl) (fun x => decide (x ∈ Ptr.upL l i)) _ HM.out v4 _ w4 O4.out PU.out).mono ?_; rintro e w5 ⟨v5, rfl, hO5, hb5⟩; have O5 := Kept.mk hO5; have HB5 := Kept.mk (HB4.out.trans (hb5.mono (by have := HB3.out.size; simp; omega))); clear hO5 hb5) | (go_at_call 40; refine (reverse_row _ v5 _ w5 O5.out).mono ?_; rintro e w6 ⟨rfl, hO6, hb6⟩; have O6 := Kept.mk hO6; have HB6 := Kept.mk (HB5.out.trans (hb6.mono (by have := HB3.out.size; simp; omega))); clear hO6 hb6))
  go_ret
  exact ⟨_, rfl, own_low O6.out (by have := HB3.out.size; simp; omega), HB6.out⟩
end Go.Proofs.YtkcpfjhdbbapiaaGreatDoor.Wtr
namespace Go.Proofs.YtkcpfjhdbbapiaaGreatDoor.Wtr
open Go Go.RowKit Go.Shelf Go.Proofs.YtkcpfjhdbbapiaaGreatDoor.Kb Go.Proofs.YtkcpfjhdbbapiaaGreatDoor.Flt
theorem row_cons {w : World} {base i : Nat} {v : Value} {S : List Nat} (h : w.ownsRow base 3 1 v (1 + S.length) (ic [i] ++ ic S)) : w.ownsRow base 3 1 v (i :: S).length (ic (i :: S)) := by
  rw [← ic_append] at h
  rwa [show (i :: S).length = 1 + S.length by simp; omega]
theorem own_drew {w : World} {base n k : Nat} {e : TypeId} {v : Value} {xs : List Value} (h : w.ownsRow base e k v n xs) : w.drew.ownsRow base e k v n xs := h
theorem t_draw {w wx : World} {a b c d : Nat} {u v : Value} (h : wx.cell? ⟨a, b, none⟩ = some u ∧ wx.cell? ⟨c, d, none⟩ = some v ∧ Below w.heap.size w wx) : wx.drew.cell? ⟨a, b, none⟩ = some u ∧ wx.drew.cell? ⟨c, d, none⟩ = some v ∧ Below w.heap.size w wx.drew := ⟨h.1, h.2.1, h.2.2.trans ⟨rfl, rfl, rfl, Nat.le_refl _, fun _ _ => rfl⟩⟩
theorem t_below {w wx w1 : World} {a b c d : Nat} {u v : Value} (h : wx.cell? ⟨a, b, none⟩ = some u ∧ wx.cell? ⟨c, d, none⟩ = some v ∧ Below w.heap.size w wx) (hb : Below wx.heap.size wx w1) : w1.cell? ⟨a, b, none⟩ = some u ∧ w1.cell? ⟨c, d, none⟩ = some v ∧ Below w.heap.size w w1 := ⟨cell_keep hb h.1, cell_keep hb h.2.1, h.2.2.trans (hb.mono h.2.2.size)⟩
theorem t_alloc {w wx : World} {a b c d : Nat} {u v : Value} (o : Obj) (h : wx.cell? ⟨a, b, none⟩ = some u ∧ wx.cell? ⟨c, d, none⟩ = some v ∧ Below w.heap.size w wx) : (wx.alloc o).cell? ⟨a, b, none⟩ = some u ∧ (wx.alloc o).cell? ⟨c, d, none⟩ = some v ∧ Below w.heap.size w (wx.alloc o) := t_below h ((Below.refl _ _).alloc (Nat.le_refl _) o)
theorem t_grown {w wx w5 : World} {a b c d n : Nat} {u v z : Value} {xs : List Value} (ha : a < w.heap.size) (hc : c < w.heap.size) (h : wx.cell? ⟨a, b, none⟩ = some u ∧ wx.cell? ⟨c, d, none⟩ = some v ∧ Below w.heap.size w wx) (ho : wx.ownsRow w.heap.size 3 1 z n xs) (hg : wx.grownBy w5 z.ownBlock) : w5.cell? ⟨a, b, none⟩ = some u ∧ w5.cell? ⟨c, d, none⟩ = some v ∧ Below w.heap.size w w5 := by
  have h2 : Below w.heap.size w w5 := Below.grown h.2.2 hg h.2.2.size (fun _ hj => (ho.lt _ hj).1)
  exact ⟨by rw [h2.cell (p := ⟨a, b, none⟩) ha, ← h.2.2.cell (p := ⟨a, b, none⟩) ha]; exact h.1, by rw [h2.cell (p := ⟨c, d, none⟩) hc, ← h.2.2.cell (p := ⟨c, d, none⟩) hc]; exact h.2.1, h2⟩
theorem via {w w1 wx : World} {a b c d : Nat} {u v : Value} {A : Option Addr} {l : List Ptr.Nd} (hr : RdN w A l) (h1 : Below w.heap.size w w1) (h : wx.cell? ⟨a, b, none⟩ = some u ∧ wx.cell? ⟨c, d, none⟩ = some v ∧ Below w1.heap.size w1 wx) : RdN wx A l := hr.below (h1.trans (h.2.2.mono h1.size))
/-- 'append(v, y...)' of two rows of numbers of the call's own, at a step of a region that draws its order -/
theorem step_append_two {ops : Array Oper} {o : Oper} {a : Act} {w : World} {K : Act → World → Prop} {Q : Exit → Act → World → Prop} {E : Prop} (hgd : o.guard = none) (s x : Operand)
    (ho : o.op = .call { callee := .builtin .append, args := #[s, x], argTypes := #[27, 27] }) (base base' : Nat) (v y : Value) (n m : Nat) (xs : List Value) (ys : List Nat) (hs : a.eval s = v) (hown : w.ownsRow base 3 1 v n xs)
    (hx : a.eval x = y) (hy : w.ownsRow base' 3 1 y m (ic ys)) (hb : n + m ≤ 1000000) (hbase : base ≤ w.heap.size)
    (h : ∀ v' w', w'.ownsRow base 3 1 v' (n + m) (xs ++ ic ys) → w.grownBy w' v.ownBlock → K (a.put o.dst v') w') : if Region.wanted o (yielded ops a.tmps) = true then Oper.wp Tryz.prog o a w K Q else E := by
  have hw : Region.wanted o (yielded ops a.tmps) = true := by simp [Region.wanted, hgd]
  rw [if_pos hw]
  obtain ⟨i0, hi, hz0, hz1, hz2⟩ := info_parts infoI'
  rcases hy.2 with ⟨rfl, hm⟩ | ⟨g, cap, cur, rfl, _⟩
  · subst hm
    have hys : ys = [] := by
      have := hy.1
      rw [ic_length] at this
      exact List.length_eq_zero_iff.1 (by omega)
    subst hys
    have hrun := run_append_owned_none (P := Tryz.prog) (w := w) base 27 o.type _ i0 1 Tryz.underlying27 hi v n xs hown
    have hk := h v w (by simpa [ic] using hown) (World.grownBy.refl _ _)
    unfold Oper.wp
    simp [execOp, ho, resolve, invoke, builtin, hs, hx, hrun, Result.andThen]
    exact hk
  · have hl := hy.1
    rw [ic_length] at hl
    exact wp_append_own w s x _ ho base _ i0 (.int .i64 0) 1 8 Tryz.underlying27 hi hz0 hz1 hz2 rfl (by decide) v n xs hs hown ⟨g, 0, none⟩ m cap (ic ys) hx (by rw [ic_length]; omega) (hy.cells (g := g) rfl) (by intro u hu; unfold ic at hu; obtain ⟨z, _, rfl⟩ := List.mem_map.1 hu; rfl) (by unfold maxLen; omega) (by omega) hbase (fun v' w' h1 h2 _ => h v' w' h1 h2)
set_option maxRecDepth 100000 in
set_option maxHeartbeats 4000000 in
theorem go_11 (A : Option Addr) (l : List Ptr.Nd) (c i : Nat) (w : World) (hr : RdN w A l) (hl : l.length ≤ 100000) (hf : FitP l) (hE : TEnv w) (hi : i < l.length) (hp : placeB l i = true) :
    Calls Tryz.prog 9 #[.slice A l.length c, .int .i64 i, .int .u8 11] w fun e w' => ∃ v, e = .returned v ∧ w'.ownsRow w.heap.size 3 1 v (goL l i 11).length (ic (goL l i 11)) ∧ Below w.heap.size w w' := by
  have hgo : goL l i 11 = i :: stretchL l (i + 1) (Ptr.endN l i) := rfl
  rw [hgo]
  clear hgo
  have cP := fun wx (hx : Below w.heap.size w wx) => place_any A l c i wx (hr.below hx) hl hf (hE.below hx)
  rw [hp] at cP
  have hrng := (place_rng hp).1
  have cN := fun wx hx => end_any A l c i wx hx hi hl
  rw [endN_same] at cN
  obtain ⟨hn1, hn2, _, _⟩ := Ptr.endN_spec l i hi
  have cS := fun wx hx => stretch_any A l c (i + 1) (Ptr.endN l i) wx hx (by omega) (by omega) hl
  rw [show (((i + 1 : Nat) : Int)) = (i : Int) + 1 from rfl] at cS
  generalize Ptr.endN l i = N at cN hn1 hn2 cS ⊢
  have hSL := stretchL_le l (i + 1) N
  generalize stretchL l (i + 1) N = S at cS hSL ⊢
  have HR := Kept.mk hr
  have CP := Kept.mk cP
  have CN := Kept.mk cN
  have i0 : (0 : Int) ≤ (i : Int) := by omega
  have i1 : (i : Int) < (l.length : Int) := by omega
  have CS := Kept.mk cS
  have hb0 : Below w.heap.size w ((w.alloc (.cells #[.slice A l.length c] 22)).alloc (.cells #[.int .i64 i] 3)) := ((Below.refl _ _).alloc (Nat.le_refl _) _).alloc (by simp) _
  have HB0 := Kept.mk hb0
  have s0 : ((w.alloc (.cells #[.slice A l.length c] 22)).alloc (.cells #[.int .i64 i] 3)).cell? ⟨w.heap.size, 0, none⟩ = some (.slice A l.length c) := cell_keep ((Below.refl _ _).alloc (Nat.le_refl _) _) (by rw [World.cell?_alloc_new]; rfl)
  have s1 : ((w.alloc (.cells #[.slice A l.length c] 22)).alloc (.cells #[.int .i64 i] 3)).cell? ⟨w.heap.size + 1, 0, none⟩ = some (.int .i64 i) := by
    have := World.cell?_alloc_new (w.alloc (.cells #[.slice A l.length c] 22)) #[.int .i64 i] 3 0
    rw [World.size_alloc] at this
    exact this
  have HS0 := Kept.mk s0; have HS1 := Kept.mk s1
  have z0 : w.heap.size + 2 ≤ ((w.alloc (.cells #[.slice A l.length c] 22)).alloc (.cells #[.int .i64 i] 3)).heap.size := by simp
  clear hr hf hE hp cP cN hb0 s0 s1 hrng cS
  go_enter Tryz.func9, Tryz.ntmps9
  go_upto_region 21 with (first | (go_at_call 32; refine (CP.out _ HB0.out).mono ?_; rintro e w1 ⟨rfl, hb1⟩; have c0 := cell_keep hb1 HS0.out; have c1 := cell_keep hb1 HS1.out; have z1 := Nat.le_trans z0 hb1.size; have HB1 := Kept.mk (HB0.out.trans (hb1.mono HB0.out.size)); clear hb1) | (go_at_call 33; refine (CN.out _ (HR.out.below HB1.out)).mono ?_; rintro e w2 ⟨rfl, rfl⟩))
  have hs1 := HB1.out.size
  have hwr : IntKind.i64.wrap ((i : Int) + 1) = (i : Int) + 1 := by rw [IntKind.wrap_i64]; omega
  have CSx := Kept.mk (fun wx (h : wx.cell? ⟨w.heap.size, 0, none⟩ = some (.slice A l.length c) ∧ wx.cell? ⟨w.heap.size + 1, 0, none⟩ = some (.int .i64 (i : Int)) ∧ Below w1.heap.size w1 wx) => by have := CS.out wx (via HR.out HB1.out h); rwa [← hwr] at this)
  clear CS CP CN hwr HS0 HS1
  go_region_held3 (fun wx => wx.cell? ⟨w.heap.size, 0, none⟩ = some (.slice A l.length c) ∧ wx.cell? ⟨w.heap.size + 1, 0, none⟩ = some (.int .i64 (i : Int)) ∧ Below w1.heap.size w1 wx) (first
      | assumption
      | exact t_draw ⟨c0, c1, Below.refl _ _⟩
      | exact t_below (by assumption) (by assumption)
      | exact t_draw (t_alloc _ ⟨c0, c1, Below.refl _ _⟩)
      | exact t_alloc _ (by assumption)) (first
    | (go_at_call 38; refine (CSx.out _ (by assumption)).mono ?_; rintro e w3 ⟨v, rfl, hO, hb3⟩; first
        | (have hbA : Below (w1.alloc (.cells #[.int .i64 (i : Int)] 3)).drew.heap.size (w1.alloc (.cells #[.int .i64 (i : Int)] 3)).drew w3 := (by with_reducible exact hb3); have O1 : w3.ownsRow w1.heap.size 3 1 (.slice (some ⟨w1.heap.size, 0, none⟩) 1 1) 1 (ic [i]) := own_below (own_drew (own_one w1 i)) hbA; have O2 : w3.ownsRow w1.heap.size 3 1 v S.length (ic S) := own_low hO (by show w1.heap.size ≤ (w1.alloc (.cells #[.int .i64 (i : Int)] 3)).heap.size; rw [World.size_alloc]; exact Nat.le_succ _); have hz : w1.heap.size ≤ w3.heap.size := Nat.le_trans (by show w1.heap.size ≤ (w1.alloc (.cells #[.int .i64 (i : Int)] 3)).heap.size; rw [World.size_alloc]; exact Nat.le_succ _) hbA.size)
        | (have O1 : (w3.alloc (.cells #[.int .i64 (i : Int)] 3)).ownsRow w1.heap.size 3 1 (.slice (some ⟨w3.heap.size, 0, none⟩) 1 1) 1 (ic [i]) := own_low (own_one w3 i) hb3.size; have O2 : (w3.alloc (.cells #[.int .i64 (i : Int)] 3)).ownsRow w1.heap.size 3 1 v S.length (ic S) := hO.alloc _; have hz : w1.heap.size ≤ (w3.alloc (.cells #[.int .i64 (i : Int)] 3)).heap.size := (by rw [World.size_alloc]; exact Nat.le_succ_of_le hb3.size)))
    | (refine step_append_two rfl (.tmp 76) (.tmp 81) rfl w1.heap.size w1.heap.size _ _ 1 S.length (ic [i]) S (by rfl) O1 (by rfl) O2 (by omega) hz ?_; intro v5 w5 hO5 hg5; have hS5 := t_grown (w := w1) (a := w.heap.size) (b := 0) (c := w.heap.size + 1) (d := 0) (u := .slice A l.length c) (v := .int .i64 (i : Int)) (by omega) (by omega) (by assumption) O1 hg5))
  all_goals
    go_wp2
    go_ret
    exact ⟨_, rfl, row_cons (own_low hO5 hs1), HB1.out.trans (hS5.2.2.mono hs1)⟩
theorem up_at (Ba Bt : Nat) (A : Option Addr) (c : Nat) (l : List Ptr.Nd) (q : Nat) (hq : q < l.length) (hl : l.length ≤ 100000) (hrng : Ptr.Rng l l.length) (w : World) (hr : RdN w A l) (hA : w.cell? ⟨Ba, 0, none⟩ = some (.int .i64 (q : Int))) (hT : w.cell? ⟨Bt, 0, none⟩ = some (.slice A l.length c)) :
    Calls Tryz.prog 35 #[.func (.func 60) #[] #[.pointer (some ⟨Bt, 0, none⟩), .pointer (some ⟨Ba, 0, none⟩)]] w fun e w' =>
      ∃ v, e = .returned v ∧ w'.ownsRow w.heap.size 3 1 v (Ptr.upL l q).length (ic (Ptr.upL l q)) ∧ Below w.heap.size w w' := by
  refine (callsIn_wide.1 (collect_in Fence.wide 5 trivial trivial rfl (by omega) _ _ trivial (enters_of Tryz.func60 (by kernel_rfl) rfl) _ _ l.length (by omega) _ (up_stops 3 (by omega) _ _ A c l q hq hrng _ hr hA hT))).mono ?_
  rintro e w' ⟨v, xs, rfl, rfl, hO, hb⟩
  exact ⟨v, rfl, hO, hb⟩
theorem anc_at (A : Option Addr) (L c : Nat) (q : Int) (w : World) :
    Calls Tryz.prog 37 #[.slice A L c, .int .i64 q] w fun e w' => e = .returned (.func (.func 60) #[] #[.pointer (some ⟨w.heap.size, 0, none⟩), .pointer (some ⟨w.heap.size + 1, 0, none⟩)]) ∧
      Below w.heap.size w w' ∧ w'.cell? ⟨w.heap.size, 0, none⟩ = some (.slice A L c) ∧ w'.cell? ⟨w.heap.size + 1, 0, none⟩ = some (.int .i64 q) := by
  refine (ancestors_any A L c q w).mono ?_
  rintro e w' ⟨rfl, rfl⟩
  refine ⟨rfl, ((Below.refl _ w).alloc (Nat.le_refl _) _).alloc (by simp) _, cell_keep ((Below.refl _ _).alloc (Nat.le_refl _) _) (by rw [World.cell?_alloc_new]; rfl), ?_⟩
  have := World.cell?_alloc_new (w.alloc (.cells #[.slice A L c] 22)) #[.int .i64 q] 3 0
  rw [World.size_alloc] at this
  exact this
set_option maxRecDepth 100000 in
set_option maxHeartbeats 4000000 in
theorem go_12 (A : Option Addr) (l : List Ptr.Nd) (c i : Nat) (w : World) (hr : RdN w A l) (hl : l.length ≤ 100000) (hf : FitP l) (hE : TEnv w) (hi : i < l.length) (hp : placeB l i = true) :
    Calls Tryz.prog 9 #[.slice A l.length c, .int .i64 i, .int .u8 12] w fun e w' => ∃ v, e = .returned v ∧ w'.ownsRow w.heap.size 3 1 v (goL l i 12).length (ic (goL l i 12)) ∧ Below w.heap.size w w' := by
  have hgo : goL l i 12 = i :: Ptr.upL l i := rfl
  rw [hgo]
  clear hgo
  have cP := fun wx (hx : Below w.heap.size w wx) => place_any A l c i wx (hr.below hx) hl hf (hE.below hx)
  rw [hp] at cP
  have hrng := (place_rng hp).1
  have cN := fun wx hx => end_any A l c i wx hx hi hl
  rw [endN_same] at cN
  obtain ⟨hn1, hn2, _, _⟩ := Ptr.endN_spec l i hi
  have cK := fun Ba Bt wx hx hA hT => up_at Ba Bt A c l i hi hl hrng wx hx hA hT
  have hSL : (Ptr.upL l i).length ≤ 100000 := by have := upC_len l i (Ptr.par l i); unfold Ptr.upL; omega
  generalize Ptr.upL l i = KL at cK hSL ⊢
  generalize Ptr.endN l i = N at cN hn1 hn2
  have HR := Kept.mk hr
  have CP := Kept.mk cP
  have CN := Kept.mk cN
  have CK := Kept.mk cK
  have hb0 : Below w.heap.size w ((w.alloc (.cells #[.slice A l.length c] 22)).alloc (.cells #[.int .i64 i] 3)) := ((Below.refl _ _).alloc (Nat.le_refl _) _).alloc (by simp) _
  have HB0 := Kept.mk hb0
  have s0 : ((w.alloc (.cells #[.slice A l.length c] 22)).alloc (.cells #[.int .i64 i] 3)).cell? ⟨w.heap.size, 0, none⟩ = some (.slice A l.length c) := cell_keep ((Below.refl _ _).alloc (Nat.le_refl _) _) (by rw [World.cell?_alloc_new]; rfl)
  have s1 : ((w.alloc (.cells #[.slice A l.length c] 22)).alloc (.cells #[.int .i64 i] 3)).cell? ⟨w.heap.size + 1, 0, none⟩ = some (.int .i64 i) := by
    have := World.cell?_alloc_new (w.alloc (.cells #[.slice A l.length c] 22)) #[.int .i64 i] 3 0
    rw [World.size_alloc] at this
    exact this
  have HS0 := Kept.mk s0; have HS1 := Kept.mk s1
  have z0 : w.heap.size + 2 ≤ ((w.alloc (.cells #[.slice A l.length c] 22)).alloc (.cells #[.int .i64 i] 3)).heap.size := by simp
  clear hr hf hE hp cP cN hb0 s0 s1 hrng cK
  go_enter Tryz.func9, Tryz.ntmps9
  go_upto_region 17 with (first | (go_at_call 32; refine (CP.out _ HB0.out).mono ?_; rintro e w1 ⟨rfl, hb1⟩; have c0 := cell_keep hb1 HS0.out; have c1 := cell_keep hb1 HS1.out; have z1 := Nat.le_trans z0 hb1.size; have HB1 := Kept.mk (HB0.out.trans (hb1.mono HB0.out.size)); clear hb1) | (go_at_call 33; refine (CN.out _ (HR.out.below HB1.out)).mono ?_; rintro e w2 ⟨rfl, rfl⟩))
  have hs1 := HB1.out.size
  have CAn := Kept.mk (fun wx (h : wx.cell? ⟨w.heap.size, 0, none⟩ = some (.slice A l.length c) ∧ wx.cell? ⟨w.heap.size + 1, 0, none⟩ = some (.int .i64 (i : Int)) ∧ Below w1.heap.size w1 wx) => anc_at A l.length c i wx)
  clear CP CN HS0 HS1
  go_region_held3 (fun wx => wx.cell? ⟨w.heap.size, 0, none⟩ = some (.slice A l.length c) ∧ wx.cell? ⟨w.heap.size + 1, 0, none⟩ = some (.int .i64 (i : Int)) ∧ Below w1.heap.size w1 wx) (first
      | assumption
      | exact t_draw ⟨c0, c1, Below.refl _ _⟩
      | exact t_below (by assumption) (by assumption)
      | exact t_draw (t_alloc _ ⟨c0, c1, Below.refl _ _⟩)
      | exact t_alloc _ (by assumption)) (first
    | (go_at_call 37; refine (anc_at A l.length c i _).mono ?_; rintro e w2 ⟨rfl, hb2, dT, dA⟩; first
        | (have hbA : Below (w1.alloc (.cells #[.int .i64 (i : Int)] 3)).drew.heap.size (w1.alloc (.cells #[.int .i64 (i : Int)] 3)).drew w2 := (by with_reducible exact hb2); have OA : w2.ownsRow w1.heap.size 3 1 (.slice (some ⟨w1.heap.size, 0, none⟩) 1 1) 1 (ic [i]) := own_below (own_drew (own_one w1 i)) hbA; have hsz : (w1.alloc (.cells #[.int .i64 (i : Int)] 3)).drew.heap.size = w1.heap.size + 1 := World.size_alloc w1 _; rw [hsz] at dT dA; have hS2 := t_below (w := w1) (a := w.heap.size) (b := 0) (c := w.heap.size + 1) (d := 0) (u := .slice A l.length c) (v := .int .i64 (i : Int)) (by assumption) hb2; have CX2 := CK.out _ _ w2 (via HR.out HB1.out hS2) dA dT; have hz2 : w1.heap.size ≤ w2.heap.size := hS2.2.2.size)
        | (have hS2 := t_below (w := w1) (a := w.heap.size) (b := 0) (c := w.heap.size + 1) (d := 0) (u := .slice A l.length c) (v := .int .i64 (i : Int)) (by assumption) hb2; have CX2 := CK.out _ _ w2 (via HR.out HB1.out hS2) dA dT; have CX3 := CK.out _ _ (w2.alloc (.cells #[.int .i64 (i : Int)] 3)) (via HR.out HB1.out (t_alloc (.cells #[.int .i64 (i : Int)] 3) hS2)) (cell_keep ((Below.refl _ _).alloc (Nat.le_refl _) _) dA) (cell_keep ((Below.refl _ _).alloc (Nat.le_refl _) _) dT); have hz2 : w1.heap.size ≤ w2.heap.size := hS2.2.2.size))
    | (go_at_call 35; first
        | (refine CX2.mono ?_; rintro e w3 ⟨v, rfl, hO, hb3⟩; first
            | (have O1 : w3.ownsRow w1.heap.size 3 1 (.slice (some ⟨w1.heap.size, 0, none⟩) 1 1) 1 (ic [i]) := own_below OA hb3; have O2 : w3.ownsRow w1.heap.size 3 1 v KL.length (ic KL) := own_low hO hz2; have hz : w1.heap.size ≤ w3.heap.size := Nat.le_trans hz2 hb3.size)
            | (have O1 : (w3.alloc (.cells #[.int .i64 (i : Int)] 3)).ownsRow w1.heap.size 3 1 (.slice (some ⟨w3.heap.size, 0, none⟩) 1 1) 1 (ic [i]) := own_low (own_one w3 i) (Nat.le_trans hz2 hb3.size); have O2 : (w3.alloc (.cells #[.int .i64 (i : Int)] 3)).ownsRow w1.heap.size 3 1 v KL.length (ic KL) := (own_low hO hz2).alloc _; have hz : w1.heap.size ≤ (w3.alloc (.cells #[.int .i64 (i : Int)] 3)).heap.size := (by rw [World.size_alloc]; exact Nat.le_succ_of_le (Nat.le_trans hz2 hb3.size))))
        | (refine CX3.mono ?_; rintro e w3 ⟨v, rfl, hO, hb3⟩; have hz3 : w1.heap.size ≤ (w2.alloc (.cells #[.int .i64 (i : Int)] 3)).heap.size := (by rw [World.size_alloc]; exact Nat.le_succ_of_le hz2); have O1 : w3.ownsRow w1.heap.size 3 1 (.slice (some ⟨w2.heap.size, 0, none⟩) 1 1) 1 (ic [i]) := own_low (own_below (own_one w2 i) hb3) hz2; have O2 : w3.ownsRow w1.heap.size 3 1 v KL.length (ic KL) := own_low hO hz3; have hz : w1.heap.size ≤ w3.heap.size := Nat.le_trans hz3 hb3.size))
    | (refine step_append_two rfl (.tmp 60) (.tmp 64) rfl w1.heap.size w1.heap.size _ _ 1 KL.length (ic [i]) KL (by rfl) O1 (by rfl) O2 (by omega) hz ?_; intro v5 w5 hO5 hg5; have hS5 := t_grown (w := w1) (a := w.heap.size) (b := 0) (c := w.heap.size + 1) (d := 0) (u := .slice A l.length c) (v := .int .i64 (i : Int)) (by omega) (by omega) (by assumption) O1 hg5))
  all_goals
    go_wp2
    go_ret
    exact ⟨_, rfl, row_cons (own_low hO5 hs1), HB1.out.trans (hS5.2.2.mono hs1)⟩
set_option maxRecDepth 100000 in
set_option maxHeartbeats 4000000 in
theorem go_none (X : Int) (hX : X < 1 ∨ 12 < X) (A : Option Addr) (l : List Ptr.Nd) (c i : Nat) (w : World) (hr : RdN w A l) (hl : l.length ≤ 100000) (hf : FitP l) (hE : TEnv w) (hi : i < l.length) (hp : placeB l i = true) :
    Calls Tryz.prog 9 #[.slice A l.length c, .int .i64 i, .int .u8 X] w fun e w' => ∃ v, e = .returned v ∧ w'.ownsRow w.heap.size 3 1 v (goL l i X).length (ic (goL l i X)) ∧ Below w.heap.size w w' := by
  have hgo : goL l i X = [] := by
    unfold goL
    repeat rw [if_neg (by omega)]
  rw [hgo]
  clear hgo
  have cP := fun wx (hx : Below w.heap.size w wx) => place_any A l c i wx (hr.below hx) hl hf (hE.below hx)
  rw [hp] at cP
  have hrng := (place_rng hp).1
  have cN := fun wx hx => end_any A l c i wx hx hi hl
  rw [endN_same] at cN
  obtain ⟨hn1, hn2, _, _⟩ := Ptr.endN_spec l i hi
  generalize Ptr.endN l i = N at cN hn1 hn2
  have HR := Kept.mk hr
  have CP := Kept.mk cP
  have CN := Kept.mk cN
  have hb0 : Below w.heap.size w ((w.alloc (.cells #[.slice A l.length c] 22)).alloc (.cells #[.int .i64 i] 3)) := ((Below.refl _ _).alloc (Nat.le_refl _) _).alloc (by simp) _
  have HB0 := Kept.mk hb0
  have s0 : ((w.alloc (.cells #[.slice A l.length c] 22)).alloc (.cells #[.int .i64 i] 3)).cell? ⟨w.heap.size, 0, none⟩ = some (.slice A l.length c) := cell_keep ((Below.refl _ _).alloc (Nat.le_refl _) _) (by rw [World.cell?_alloc_new]; rfl)
  have s1 : ((w.alloc (.cells #[.slice A l.length c] 22)).alloc (.cells #[.int .i64 i] 3)).cell? ⟨w.heap.size + 1, 0, none⟩ = some (.int .i64 i) := by
    have := World.cell?_alloc_new (w.alloc (.cells #[.slice A l.length c] 22)) #[.int .i64 i] 3 0
    rw [World.size_alloc] at this
    exact this
  have HS0 := Kept.mk s0; have HS1 := Kept.mk s1
  have z0 : w.heap.size + 2 ≤ ((w.alloc (.cells #[.slice A l.length c] 22)).alloc (.cells #[.int .i64 i] 3)).heap.size := by simp
  have qs : (X == 1) = false ∧ (X == 2) = false ∧ (X == 3) = false ∧ (X == 4) = false ∧ (X == 5) = false ∧ (X == 6) = false ∧ (X == 7) = false ∧ (X == 8) = false ∧ (X == 9) = false ∧ (X == 10) = false ∧ (X == 11) = false ∧ (X == 12) = false := by simp; omega
  obtain ⟨q1, q2, q3, q4, q5, q6, q7, q8, q9, q10, q11, q12⟩ := qs
  clear hX hr hf hE hp cP cN hb0 s0 s1 hrng
  go_enter Tryz.func9, Tryz.ntmps9
  go_wp2_with (first | (go_at_call 32; refine (CP.out _ HB0.out).mono ?_; rintro e w1 ⟨rfl, hb1⟩; have c0 := cell_keep hb1 HS0.out; have c1 := cell_keep hb1 HS1.out; have z1 := Nat.le_trans z0 hb1.size; have HB1 := Kept.mk (HB0.out.trans (hb1.mono HB0.out.size)); clear hb1) | (go_at_call 33; refine (CN.out _ (HR.out.below HB1.out)).mono ?_; rintro e w2 ⟨rfl, rfl⟩))
  go_ret
  exact ⟨_, rfl, World.ownsRow_nil _ _ _ _, HB1.out⟩
set_option maxRecDepth 100000 in
set_option maxHeartbeats 4000000 in
theorem go_out (X : Int) (A : Option Addr) (l : List Ptr.Nd) (c : Nat) (a : Int) (w : World) (hr : RdN w A l) (hl : l.length ≤ 100000) (hf : FitP l) (hE : TEnv w) (hp : placeB l a = false) :
    Calls Tryz.prog 9 #[.slice A l.length c, .int .i64 a, .int .u8 X] w fun e w' => ∃ v, e = .returned v ∧ w'.ownsRow w.heap.size 3 1 v ([] : List Nat).length (ic []) ∧ Below w.heap.size w w' := by
  have cP := fun wx (hx : Below w.heap.size w wx) => place_any A l c a wx (hr.below hx) hl hf (hE.below hx)
  rw [hp] at cP
  have CP := Kept.mk cP
  have HB0 := Kept.mk (((Below.refl w.heap.size w).alloc (Nat.le_refl _) (.cells #[.slice A l.length c] 22)).alloc (by simp) (.cells #[.int .i64 a] 3))
  have s0 : ((w.alloc (.cells #[.slice A l.length c] 22)).alloc (.cells #[.int .i64 a] 3)).cell? ⟨w.heap.size, 0, none⟩ = some (.slice A l.length c) := cell_keep ((Below.refl _ _).alloc (Nat.le_refl _) _) (by rw [World.cell?_alloc_new]; rfl)
  have s1 : ((w.alloc (.cells #[.slice A l.length c] 22)).alloc (.cells #[.int .i64 a] 3)).cell? ⟨w.heap.size + 1, 0, none⟩ = some (.int .i64 a) := by
    have := World.cell?_alloc_new (w.alloc (.cells #[.slice A l.length c] 22)) #[.int .i64 a] 3 0
    rw [World.size_alloc] at this
    exact this
  clear hr hf hE hp cP
  go_enter Tryz.func9, Tryz.ntmps9
  go_wp2_with (first | (go_at_call 32; refine (CP.out _ HB0.out).mono ?_; rintro e w1 ⟨rfl, hb1⟩; have HB1 := Kept.mk (HB0.out.trans (hb1.mono HB0.out.size)); clear hb1))
  go_ret
  exact ⟨_, rfl, World.ownsRow_nil _ _ _ _, HB1.out⟩
/-- where Go goes, of any place and any axis -/
def goB (l : List Ptr.Nd) (a X : Int) : List Nat := if placeB l a = true then goL l a.toNat X else []
theorem go_any (A : Option Addr) (l : List Ptr.Nd) (c : Nat) (a X : Int) (w : World) (hr : RdN w A l) (hl : l.length ≤ 100000) (hf : FitP l) (hE : TEnv w) :
    Calls Tryz.prog 9 #[.slice A l.length c, .int .i64 a, .int .u8 X] w fun e w' => ∃ v, e = .returned v ∧ w'.ownsRow w.heap.size 3 1 v (goB l a X).length (ic (goB l a X)) ∧ Below w.heap.size w w' := by
  unfold goB
  cases hp : placeB l a with
  | false => exact go_out X A l c a w hr hl hf hE hp
  | true =>
    rw [if_pos rfl]
    have hb : 0 ≤ a ∧ a < l.length := by
      have := hp
      unfold placeB at this
      simp at this
      omega
    obtain ⟨i, rfl⟩ : ∃ i : Nat, a = i := ⟨a.toNat, by omega⟩
    have hi : i < l.length := by omega
    rw [Int.toNat_natCast]
    by_cases hX : X < 1 ∨ 12 < X
    · exact go_none X hX A l c i w hr hl hf hE hi hp
    · have : X = 1 ∨ X = 2 ∨ X = 3 ∨ X = 4 ∨ X = 5 ∨ X = 6 ∨ X = 7 ∨ X = 8 ∨ X = 9 ∨ X = 10 ∨ X = 11 ∨ X = 12 := by omega
      rcases this with rfl | rfl | rfl | rfl | rfl | rfl | rfl | rfl | rfl | rfl | rfl | rfl
      · exact go_1 A l c i w hr hl hf hE hi hp
      · exact go_2 A l c i w hr hl hf hE hi hp
      · exact go_3 A l c i w hr hl hf hE hi hp
      · exact go_4 A l c i w hr hl hf hE hi hp
      · exact go_5 A l c i w hr hl hf hE hi hp
      · exact go_6 A l c i w hr hl hf hE hi hp
      · exact go_7 A l c i w hr hl hf hE hi hp
      · exact go_8 A l c i w hr hl hf hE hi hp
      · exact go_9 A l c i w hr hl hf hE hi hp
      · exact go_10 A l c i w hr hl hf hE hi hp
      · exact go_11 A l c i w hr hl hf hE hi hp
      · exact go_12 A l c i w hr hl hf hE hi hp
end Go.Proofs.YtkcpfjhdbbapiaaGreatDoor.Wtr
namespace Go.Proofs.YtkcpfjhdbbapiaaGreatDoor.Wtr
open Go Go.RowKit Go.Proofs.YtkcpfjhdbbapiaaGreatDoor.Kb Go.Proofs.YtkcpfjhdbbapiaaGreatDoor.Flt
/-- the state of Merge: the block with the row that came in, where each node is now, the row that is made -/
structure Mg (w : World) (D gt Bo n : Nat) (tv v : Value) (fz : Nat → Int) (M : List Ptr.Nd) (wx : World) : Prop where
  below : Below w.heap.size w wx
  cell : wx.cell? ⟨D, 0, none⟩ = some tv
  row : wx.rowIs gt 3 n fun j => .int .i64 (fz j)
  out : wx.ownsRow Bo 47 4 v M.length (ndsC M)
  lo : w.heap.size ≤ D ∧ w.heap.size ≤ gt ∧ D < Bo ∧ gt < Bo ∧ D ≠ gt ∧ Bo ≤ wx.heap.size
namespace Mg
variable {w wx w' : World} {D gt Bo n : Nat} {tv v v' : Value} {fz : Nat → Int} {M : List Ptr.Nd}
theorem ne (h : Mg w D gt Bo n tv v fz M wx) {q : Nat} (hq : q < Bo) : v.ownBlock ≠ some q := fun e => by
  have := (h.out.lt q e).1
  omega
theorem size (h : Mg w D gt Bo n tv v fz M wx) : w.heap.size ≤ wx.heap.size := h.below.size
theorem later (h : Mg w D gt Bo n tv v fz M wx) (hb : Below wx.heap.size wx w') : Mg w D gt Bo n tv v fz M w' :=
  ⟨h.below.trans (hb.mono h.below.size), cell_keep hb h.cell, h.row.of_block (hb.block _ h.row.lt), own_below h.out hb, h.lo.1, h.lo.2.1, h.lo.2.2.1, h.lo.2.2.2.1, h.lo.2.2.2.2.1, Nat.le_trans h.lo.2.2.2.2.2 hb.size⟩
theorem alloc (h : Mg w D gt Bo n tv v fz M wx) (o : Obj) : Mg w D gt Bo n tv v fz M (wx.alloc o) := h.later (box_below wx o)
theorem setTo (h : Mg w D gt Bo n tv v fz M wx) (k : Nat) (z : Int) : Mg w D gt Bo n tv v (fun j => if j = k then z else fz j) M (wx.setCell ⟨gt, k, none⟩ (.int .i64 z)) := by
  obtain ⟨h1, h2, h3, h4, h5, h6⟩ := h.lo
  refine ⟨h.below.setCell h2 _, set_far h5 h.cell, ?_, own_other h.out (h.ne h4), h1, h2, h3, h4, h5, by simpa using h6⟩
  refine (h.row.set k (.int .i64 z)).congr fun j _ => ?_
  show (if j = k then _ else _) = Value.int .i64 (if j = k then z else fz j)
  split <;> rfl
theorem put (h : Mg w D gt Bo n tv v fz M wx) {x : Ptr.Nd} (ho : w'.ownsRow Bo 47 4 v' (M.length + 1) (ndsC M ++ ndC x)) (hg : wx.grownBy w' v.ownBlock) : Mg w D gt Bo n tv v' fz (M ++ [x]) w' := by
  obtain ⟨h1, h2, h3, h4, h5, h6⟩ := h.lo
  refine ⟨Below.grown h.below hg h.below.size (fun q hq => by have := (h.out.lt q hq).1; omega), ?_, h.row.of_block (hg.block gt h.row.lt (fun e => h.ne h4 e.symm)), ?_, h1, h2, h3, h4, h5, Nat.le_trans h6 hg.size⟩
  · rw [World.cell?_of_block (w := wx) (a := ⟨D, 0, none⟩) (hg.block D (by omega) (fun e => h.ne h3 e.symm))]
    exact h.cell
  · rw [ndsC_append, List.length_append]
    simpa [ndsC] using ho
theorem setV {g c : Nat} {M0 : List Ptr.Nd} {x : Ptr.Nd} (h : Mg w D gt Bo n tv (.slice (some ⟨g, 0, none⟩) (M0 ++ [x]).length c) fz (M0 ++ [x]) wx) (y : List UInt8) : Mg w D gt Bo n tv (.slice (some ⟨g, 0, none⟩) (M0 ++ [(x.1, x.2.1, y, x.2.2.2)]).length c) fz (M0 ++ [(x.1, x.2.1, y, x.2.2.2)]) (wx.setCell ⟨g, M0.length * 4 + 2, none⟩ (.string ⟨y.toArray⟩)) := by
  obtain ⟨h1, h2, h3, h4, h5, h6⟩ := h.lo
  have hgB := (h.out.lt g rfl).1
  refine ⟨h.below.setCell (by show w.heap.size ≤ g; omega) _, set_far (by show D ≠ g; omega) h.cell, h.row.setOther (a := ⟨g, M0.length * 4 + 2, none⟩) (by show gt ≠ g; omega) _, ?_, h1, h2, h3, h4, h5, by simpa using h6⟩
  have ho := own_cell h.out (M0.length * 4 + 2) (.string ⟨y.toArray⟩)
  have e : (ndsC (M0 ++ [x])).set (M0.length * 4 + 2) (.string ⟨y.toArray⟩) = ndsC (M0 ++ [(x.1, x.2.1, y, x.2.2.2)]) := by
    rw [ndsC_append, ndsC_append, List.set_append_right _ _ (by rw [ndsC_length]; omega), ndsC_length, Nat.add_sub_cancel_left]
    rfl
  rw [e] at ho
  simpa using ho
end Mg
theorem mg_start (A : Option Addr) (l : List Ptr.Nd) (c : Nat) (w : World) : Mg w w.heap.size (w.heap.size + 1) (w.heap.size + 2) l.length (.slice A l.length c) (.slice none 0 0) (fun _ => 0) [] ((w.alloc (.cells #[.slice A l.length c, .slice none 0 0, .slice none 0 0, .int .i64 0] 84)).alloc (.cells (madeCells #[.int .i64 0] l.length) 3)) := by
  have r := World.rowIs_made (w.alloc (.cells #[.slice A l.length c, .slice none 0 0, .slice none 0 0, .int .i64 0] 84)) (.int .i64 0) l.length 3
  rw [World.size_alloc] at r
  refine ⟨(box_below w _).alloc (by simp) _, ?_, r, World.ownsRow_nil _ _ _ _, by omega, by omega, by omega, by omega, by omega, by simp⟩
  exact cell_keep (box_below _ _) (by rw [World.cell?_alloc_new]; rfl)
theorem own_lowM {w : World} {base base' n k : Nat} {e : TypeId} {v : Value} {xs : List Value} (h : w.ownsRow base e k v n xs) (hb : base' ≤ base) : w.ownsRow base' e k v n xs := by
  refine ⟨h.1, ?_⟩
  rcases h.2 with h0 | ⟨g, cap, cur, hv, hg, hr⟩
  · exact .inl h0
  · exact .inr ⟨g, cap, cur, hv, Nat.le_trans hb hg, hr⟩
/-- the bytes of all values -/
def tot (M : List Ptr.Nd) : Nat := (M.map fun x => x.2.2.1.length).sum
theorem tot_append (M N : List Ptr.Nd) : tot (M ++ N) = tot M + tot N := by simp [tot]
theorem tot_one (x : Ptr.Nd) : tot [x] = x.2.2.1.length := by simp [tot]
theorem last_cells {w : World} {B g c : Nat} {M M0 : List Ptr.Nd} {x : Ptr.Nd} (h : w.ownsRow B 47 4 (.slice (some ⟨g, 0, none⟩) M.length c) M.length (ndsC M)) (hM : M = M0 ++ [x]) : NdAt w g (M0.length * 4) x := by
  subst hM
  have hx : (M0 ++ [x])[M0.length]? = some x := by simp
  have g := fun i hi => ndsC_get (M0 ++ [x]) M0.length x i hx hi
  refine ⟨own_at h (M0.length * 4) _ ?_, own_at h _ _ ?_, own_at h _ _ ?_, own_at h _ _ ?_⟩
  · have := g 0 (by omega); rw [Nat.add_zero] at this; rw [this]; rfl
  · rw [g 1 (by omega)]; rfl
  · rw [g 2 (by omega)]; rfl
  · rw [g 3 (by omega)]; rfl
end Go.Proofs.YtkcpfjhdbbapiaaGreatDoor.Wtr
namespace Go.Proofs.YtkcpfjhdbbapiaaGreatDoor.Wtr
open Go Go.RowKit Go.Proofs.YtkcpfjhdbbapiaaGreatDoor.Kb Go.Proofs.YtkcpfjhdbbapiaaGreatDoor.Flt
theorem mg_news (wr : World) (cs : List Value) (t : TypeId) : ∀ j u, cs[j]? = some u → (wr.alloc (.cells cs.toArray t)).cell? ((⟨wr.heap.size, 0, none⟩ : Addr).add j) = some u := by
  intro j u hu
  rw [addr_add, Nat.zero_add, World.cell?_alloc_new, List.getElem?_toArray]
  exact hu
theorem mg_drew {w : World} {a : Addr} {v : Value} (h : w.cell? a = some v) (n : Nat) : (w.drewN n).cell? a = some v := by
  have hb := below_drewN (Below.refl w.heap.size w) n
  obtain ⟨g, i, x⟩ := a
  rw [World.cell?_of_block (w := w) (hb.block g (by
    unfold World.cell? at h
    refine Classical.byContradiction fun hn => ?_
    rw [Array.getElem?_eq_none (by show w.heap.size ≤ g; omega)] at h
    cases h))]
  exact h
theorem one_four' (k : Int) (x y : ByteArray) (z : Int) : ∀ u ∈ [Value.int .u8 k, .string x, .string y, .int .i64 z], u.oneCell' = true := by
  intro u hu
  simp only [List.mem_cons, List.mem_nil_iff, or_false] at hu
  rcases hu with rfl | rfl | rfl | rfl <;> rfl
set_option maxRecDepth 100000 in
set_option maxHeartbeats 16000000 in
theorem merge_own (A : Option Addr) (l : List Ptr.Nd) (c : Nat) (w : World) (hr : RdN w A l) (hl : l.length ≤ 300) (hs : ∀ i, (Ptr.val l i).length ≤ 140737488355328) :
    Calls Tryz.prog 15 #[.slice A l.length c] w fun e w' => ∃ v M, e = .returned v ∧ M.length ≤ l.length ∧ w'.ownsRow w.heap.size 47 4 v M.length (ndsC M) ∧ Below w.heap.size w w' := by
  obtain ⟨i0', hi', hz0, hz1, hz2⟩ := info_parts infoN
  have HRD := Kept.mk hr
  have HSZ := Kept.mk hs
  have b1 : ¬ (16384 : Int) < (l.length : Int) := by omega
  have hmk := fun kl kc wx => run_make_row' (P := Tryz.prog) 27 3 (.int .i64 0) 8 Tryz.underlying27 infoI rfl kl kc l.length (by omega) (by omega) wx
  clear hr hs
  go_enter Tryz.func15, Tryz.ntmps15
  go_wp2
  clear hmk
  go_loopw [4, 6, 7, 8, 9, 21] (fun v _i _n _a _k ix wx => ∃ (k : Nat) (M : List Ptr.Nd) (fz : Nat → Int), k ≤ l.length ∧ ix = .int .i64 k ∧ M.length ≤ k ∧ Kept (tot M ≤ k * 140737488355328) ∧ Kept (Ptr.Rng l k) ∧ Kept (Mg w w.heap.size (w.heap.size + 1) (w.heap.size + 2) l.length (.slice A l.length c) v fz M wx)) (fun _ _ _ _ _ ix _ => l.length - (intOf ix).toNat)
  case atStart => exact ⟨0, [], fun _ => 0, by omega, rfl, by simp, ⟨by simp [tot]⟩, ⟨fun j hj => by omega⟩, ⟨mg_start A l c w⟩⟩
  case round =>
    obtain ⟨k, M, fz, hk, rfl, hM, HT, HR, HS⟩ := hrel
    obtain ⟨A4, c4, rfl, _⟩ := own_slice HS.out.out
    have i0 : (0 : Int) ≤ (k : Int) := by omega
    by_cases hlt : k < l.length
    · have i1 : (k : Int) < (l.length : Int) := by omega
      have hS := HS.out
      have hrl := HRD.out.below hS.below
      obtain ⟨b, off, rfl, c0, c1, c2, c3⟩ := hrl.at_ hlt
      simp only at c0 c1 c2 c3
      obtain ⟨X, hX⟩ : ∃ X : ByteArray, X = ⟨(Ptr.nam l k).toArray⟩ := ⟨_, rfl⟩
      obtain ⟨V, hV⟩ : ∃ V : ByteArray, V = ⟨(Ptr.val l k).toArray⟩ := ⟨_, rfl⟩
      rw [← hX] at c1
      rw [← hV] at c2
      have hV2 : (Ptr.val l k).length ≤ 140737488355328 := HSZ.out k
      have HXX := Kept.mk hX; have HVV := Kept.mk hV
      have hSW := hS.alloc (.cells #[.int .u8 (Ptr.kin l k), .string X, .string V, .int .i64 (Ptr.par l k)] 47)
      have cO := open_any w.heap.size (some ⟨b, off, none⟩) l c k _ hSW.cell (HRD.out.below hSW.below) hlt HR.out (by omega)
      have HSW := Kept.mk hSW
      have HRO := Kept.mk (fun ho : Ptr.openB l k = true => (HR.out.succ ho))
      clear hS hrl hX hV hSW
      generalize Ptr.openB l k = O at cO HRO
      go_wp2_with (fail)
      refine cO.mono ?_; rintro e w' ⟨rfl, rfl⟩
      clear c0 c1 c2 c3 cO
      cases O with
      | false =>
        go_wp2
        go_ret
        exact ⟨_, [], rfl, by simp, World.ownsRow_nil _ _ _ _, HSW.out.below⟩
      | true =>
        have hR1 := HRO.out rfl
        have hrk := hR1 k (by omega)
        have HR1 := Kept.mk hR1
        clear hR1 HRO
        generalize hPK : Ptr.par l k = PK at hrk HSW ⊢
        generalize hKK : Ptr.kin l k = K at HSW ⊢
        by_cases hp : 0 ≤ PK
        · obtain ⟨q, rfl⟩ : ∃ q : Nat, PK = q := ⟨PK.toNat, by omega⟩
          have q1 := HSW.out.row.cell (i := q) (by omega)
          have q2 : (q : Int) < (l.length : Int) := by omega
          go_upto_region 13 with (fail)
          clear q1 q2 HSW hrk hp
          generalize fz q = Q
          have hS1 := HS.out.alloc (.cells #[.int .u8 (K : Int), .string X, .string V, .int .i64 Q] 47)
          have f1 := hS1.row.cell hlt
          have f2 := hS1.row.frozen k
          have hS2 := hS1.setTo k M.length
          have hgt : wr.heap.size ≠ w.heap.size + 1 := by have := HS.out.row.lt; omega
          have m0 := far_box wr #[.int .u8 (K : Int), .string X, .string V, .int .i64 Q] 47 (w.heap.size + 1) k 0 (u := .int .i64 (M.length : Int)) (v := .int .u8 (K : Int)) hgt rfl
          have m1 := far_box wr #[.int .u8 (K : Int), .string X, .string V, .int .i64 Q] 47 (w.heap.size + 1) k 1 (u := .int .i64 (M.length : Int)) (v := .string X) hgt rfl
          have m2 := far_box wr #[.int .u8 (K : Int), .string X, .string V, .int .i64 Q] 47 (w.heap.size + 1) k 2 (u := .int .i64 (M.length : Int)) (v := .string V) hgt rfl
          have m3 := far_box wr #[.int .u8 (K : Int), .string X, .string V, .int .i64 Q] 47 (w.heap.size + 1) k 3 (u := .int .i64 (M.length : Int)) (v := .int .i64 Q) hgt rfl
          have HS2 := Kept.mk hS2
          have hMl : M.length ≤ 300 := by omega
          have eK : (((K : Nat) : Int) == 4) = (K == 4) := beq_i _ 4
          clear hS1 hS2 hgt
          cases hK4 : (K == 4) with
          | false =>
            rw [hK4] at eK
            clear hK4
            go_upto_region 17 with (fail)
            go_quiet (fail)
            have hbd := below_drewN (Below.refl wr.heap.size ((wr.alloc (.cells #[.int .u8 (K : Int), .string X, .string V, .int .i64 Q] 47)).setCell ⟨w.heap.size + 1, k, none⟩ (.int .i64 (M.length : Int)))) nq
            have HS3 := Kept.mk (HS2.out.later (below_drewN (Below.refl _ _) nq))
            have p0 := mg_drew m0 nq
            have p1 := mg_drew m1 nq
            have p2 := mg_drew m2 nq
            have p3 := mg_drew m3 nq
            generalize ((wr.alloc (.cells #[.int .u8 (K : Int), .string X, .string V, .int .i64 Q] 47)).setCell ⟨w.heap.size + 1, k, none⟩ (.int .i64 (M.length : Int))).drewN nq = W3 at HS3 p0 p1 p2 p3 ⊢
            clear hbd m0 m1 m2 m3 HS2
            go_wp2_with (at_builtin; refine wpList_append_own _ rfl (.tmp 106) (.tmp 108) 22 rfl (w.heap.size + 2) 47 i0' (.agg #[.int .u8 0, .string ⟨#[]⟩, .string ⟨#[]⟩, .int .i64 0]) 4 48 Tryz.underlying22 hi' hz0 hz1 hz2 rfl (by decide) _ M.length (ndsC M) (by rfl) (HS3.out.out.alloc _) ⟨W3.heap.size, 0, none⟩ 1 1 [.int .u8 (K : Int), .string X, .string V, .int .i64 Q] (by rfl) (by rfl) (mg_news _ _ _) (one_four' _ _ _ _) (by unfold maxLen; omega) (by omega) (HS3.out.alloc _).lo.2.2.2.2.2 ?_; intro v' w5 ho5 hg5 _; have HS5 := Kept.mk ((HS3.out.alloc (.cells #[.int .u8 (K : Int), .string X, .string V, .int .i64 Q] 47)).put (x := (K, Ptr.nam l k, Ptr.val l k, Q)) (by rw [HXX.out, HVV.out] at ho5; exact ho5) hg5); clear ho5 hg5)
            go_roundw
            case rel => exact ⟨k + 1, _, _, by omega, by go_num, by simp; omega, ⟨by have := HT.out; rw [tot_append, tot_one]; show _ + (Ptr.val l k).length ≤ _; omega⟩, HR1, HS5⟩
            case measure => simp [intOf]; omega
          | true =>
            rw [hK4] at eK
            clear hK4
            by_cases hlast : k + 1 = l.length
            · have e1 : ((k : Int) + 1 == (l.length : Int)) = true := by simp; omega
              clear hlast
              by_cases hv : V.toList = []
              · skip
                go_wp2
                go_roundw
                case rel => exact ⟨k + 1, M, _, by omega, by go_num, by omega, ⟨Nat.le_trans HT.out (Nat.mul_le_mul_right _ (Nat.le_succ k))⟩, HR1, HS2⟩
                case measure => simp [intOf]; omega
              · have hv1 : V.toList.isEmpty = false := by cases h : V.toList with | nil => exact absurd h hv | cons _ _ => rfl
                clear hv
                rcases List.eq_nil_or_concat M with hM0 | ⟨M0, ⟨xk, xn, xv, xp⟩, hM0⟩
                · have hM1 : M.length = 0 := by rw [hM0]; rfl
                  clear hM0
                  have hM2 : (M.length : Int) - 1 = -1 := by omega
                  clear hM1
                  go_upto_region 17 with (fail)
                  try rw [hM2]
                  go_quiet (fail)
                  have hbd := below_drewN (Below.refl wr.heap.size ((wr.alloc (.cells #[.int .u8 (K : Int), .string X, .string V, .int .i64 Q] 47)).setCell ⟨w.heap.size + 1, k, none⟩ (.int .i64 (M.length : Int)))) nq
                  have HS3 := Kept.mk (HS2.out.later (below_drewN (Below.refl _ _) nq))
                  have p0 := mg_drew m0 nq
                  have p1 := mg_drew m1 nq
                  have p2 := mg_drew m2 nq
                  have p3 := mg_drew m3 nq
                  generalize ((wr.alloc (.cells #[.int .u8 (K : Int), .string X, .string V, .int .i64 Q] 47)).setCell ⟨w.heap.size + 1, k, none⟩ (.int .i64 (M.length : Int))).drewN nq = W3 at HS3 p0 p1 p2 p3 ⊢
                  clear hbd m0 m1 m2 m3 HS2
                  go_wp2_with (at_builtin; refine wpList_append_own _ rfl (.tmp 106) (.tmp 108) 22 rfl (w.heap.size + 2) 47 i0' (.agg #[.int .u8 0, .string ⟨#[]⟩, .string ⟨#[]⟩, .int .i64 0]) 4 48 Tryz.underlying22 hi' hz0 hz1 hz2 rfl (by decide) _ M.length (ndsC M) (by rfl) (HS3.out.out.alloc _) ⟨W3.heap.size, 0, none⟩ 1 1 [.int .u8 (K : Int), .string X, .string V, .int .i64 Q] (by rfl) (by rfl) (mg_news _ _ _) (one_four' _ _ _ _) (by unfold maxLen; omega) (by omega) (HS3.out.alloc _).lo.2.2.2.2.2 ?_; intro v' w5 ho5 hg5 _; have HS5 := Kept.mk ((HS3.out.alloc (.cells #[.int .u8 (K : Int), .string X, .string V, .int .i64 Q] 47)).put (x := (K, Ptr.nam l k, Ptr.val l k, Q)) (by rw [HXX.out, HVV.out] at ho5; exact ho5) hg5); clear ho5 hg5)
                  go_roundw
                  case rel => exact ⟨k + 1, _, _, by omega, by go_num, by simp; omega, ⟨by have := HT.out; rw [tot_append, tot_one]; show _ + (Ptr.val l k).length ≤ _; omega⟩, HR1, HS5⟩
                  case measure => simp [intOf]; omega
                · rw [List.concat_eq_append] at hM0
                  have HM0 := Kept.mk hM0
                  obtain ⟨g, cc, hgc, _⟩ := own_block HS2.out.out (by rw [hM0]; simp)
                  obtain ⟨rfl, rfl⟩ : A4 = some ⟨g, 0, none⟩ ∧ c4 = cc := by simpa using hgc
                  obtain ⟨x0, _, x2, x3⟩ := last_cells HS2.out.out hM0
                  simp only at x0 x2 x3
                  have hM2 : (M.length : Int) - 1 = (M0.length : Int) := by rw [hM0]; simp
                  have y0 : (0 : Int) ≤ (M0.length : Int) := by omega
                  have y1 : (M0.length : Int) < (M.length : Int) := by omega
                  clear hM0 hgc
                  have eX : (((xk : Nat) : Int) == 4) = (xk == 4) := beq_i _ 4
                  cases hx4 : (xk == 4) with
                  | false =>
                    rw [hx4] at eX
                    clear hx4 x2 x3
                    go_upto_region 17 with (fail)
                    try rw [hM2]
                    go_quiet (fail)
                    have hbd := below_drewN (Below.refl wr.heap.size ((wr.alloc (.cells #[.int .u8 (K : Int), .string X, .string V, .int .i64 Q] 47)).setCell ⟨w.heap.size + 1, k, none⟩ (.int .i64 (M.length : Int)))) nq
                    have HS3 := Kept.mk (HS2.out.later (below_drewN (Below.refl _ _) nq))
                    have p0 := mg_drew m0 nq
                    have p1 := mg_drew m1 nq
                    have p2 := mg_drew m2 nq
                    have p3 := mg_drew m3 nq
                    generalize ((wr.alloc (.cells #[.int .u8 (K : Int), .string X, .string V, .int .i64 Q] 47)).setCell ⟨w.heap.size + 1, k, none⟩ (.int .i64 (M.length : Int))).drewN nq = W3 at HS3 p0 p1 p2 p3 ⊢
                    clear hbd m0 m1 m2 m3 HS2
                    go_wp2_with (at_builtin; refine wpList_append_own _ rfl (.tmp 106) (.tmp 108) 22 rfl (w.heap.size + 2) 47 i0' (.agg #[.int .u8 0, .string ⟨#[]⟩, .string ⟨#[]⟩, .int .i64 0]) 4 48 Tryz.underlying22 hi' hz0 hz1 hz2 rfl (by decide) _ M.length (ndsC M) (by rfl) (HS3.out.out.alloc _) ⟨W3.heap.size, 0, none⟩ 1 1 [.int .u8 (K : Int), .string X, .string V, .int .i64 Q] (by rfl) (by rfl) (mg_news _ _ _) (one_four' _ _ _ _) (by unfold maxLen; omega) (by omega) (HS3.out.alloc _).lo.2.2.2.2.2 ?_; intro v' w5 ho5 hg5 _; have HS5 := Kept.mk ((HS3.out.alloc (.cells #[.int .u8 (K : Int), .string X, .string V, .int .i64 Q] 47)).put (x := (K, Ptr.nam l k, Ptr.val l k, Q)) (by rw [HXX.out, HVV.out] at ho5; exact ho5) hg5); clear ho5 hg5)
                    go_roundw
                    case rel => exact ⟨k + 1, _, _, by omega, by go_num, by simp; omega, ⟨by have := HT.out; rw [tot_append, tot_one]; show _ + (Ptr.val l k).length ≤ _; omega⟩, HR1, HS5⟩
                    case measure => simp [intOf]; omega
                  | true =>
                    rw [hx4] at eX
                    clear hx4
                    cases hxp : (xp == Q) with
                    | false =>
                      go_upto_region 17 with (fail)
                      try rw [hM2]
                      go_quiet (fail)
                      have hbd := below_drewN (Below.refl wr.heap.size ((wr.alloc (.cells #[.int .u8 (K : Int), .string X, .string V, .int .i64 Q] 47)).setCell ⟨w.heap.size + 1, k, none⟩ (.int .i64 (M.length : Int)))) nq
                      have HS3 := Kept.mk (HS2.out.later (below_drewN (Below.refl _ _) nq))
                      have p0 := mg_drew m0 nq
                      have p1 := mg_drew m1 nq
                      have p2 := mg_drew m2 nq
                      have p3 := mg_drew m3 nq
                      generalize ((wr.alloc (.cells #[.int .u8 (K : Int), .string X, .string V, .int .i64 Q] 47)).setCell ⟨w.heap.size + 1, k, none⟩ (.int .i64 (M.length : Int))).drewN nq = W3 at HS3 p0 p1 p2 p3 ⊢
                      clear hbd m0 m1 m2 m3 HS2
                      go_wp2_with (at_builtin; refine wpList_append_own _ rfl (.tmp 106) (.tmp 108) 22 rfl (w.heap.size + 2) 47 i0' (.agg #[.int .u8 0, .string ⟨#[]⟩, .string ⟨#[]⟩, .int .i64 0]) 4 48 Tryz.underlying22 hi' hz0 hz1 hz2 rfl (by decide) _ M.length (ndsC M) (by rfl) (HS3.out.out.alloc _) ⟨W3.heap.size, 0, none⟩ 1 1 [.int .u8 (K : Int), .string X, .string V, .int .i64 Q] (by rfl) (by rfl) (mg_news _ _ _) (one_four' _ _ _ _) (by unfold maxLen; omega) (by omega) (HS3.out.alloc _).lo.2.2.2.2.2 ?_; intro v' w5 ho5 hg5 _; have HS5 := Kept.mk ((HS3.out.alloc (.cells #[.int .u8 (K : Int), .string X, .string V, .int .i64 Q] 47)).put (x := (K, Ptr.nam l k, Ptr.val l k, Q)) (by rw [HXX.out, HVV.out] at ho5; exact ho5) hg5); clear ho5 hg5)
                      go_roundw
                      case rel => exact ⟨k + 1, _, _, by omega, by go_num, by simp; omega, ⟨by have := HT.out; rw [tot_append, tot_one]; show _ + (Ptr.val l k).length ≤ _; omega⟩, HR1, HS5⟩
                      case measure => simp [intOf]; omega
                    | true =>
                      have hT1 := HT.out
                      rw [HM0.out, tot_append, tot_one] at hT1
                      simp only at hT1
                      have hsum : (⟨xv.toArray⟩ : ByteArray).size + V.size ≤ 9223372036854775807 := by rw [HVV.out]; show xv.length + (Ptr.val l k).length ≤ _; omega
                      have hadd := fun W => run_string_add_sum (P := Tryz.prog) W ⟨xv.toArray⟩ V hsum
                      go_upto_region 17 with (fail)
                      try rw [hM2]
                      go_quiet (fail)
                      have HS3 := Kept.mk (HS2.out.later (below_drewN (Below.refl _ _) nq))
                      have p2 := mg_drew m2 nq
                      have z2 := mg_drew x2 nq
                      have z4 := own_unfrozen HS3.out.out (M0.length * 4 + 2)
                      generalize ((wr.alloc (.cells #[.int .u8 (K : Int), .string X, .string V, .int .i64 Q] 47)).setCell ⟨w.heap.size + 1, k, none⟩ (.int .i64 (M.length : Int))).drewN nq = W3 at HS3 p2 z2 z4 ⊢
                      clear m0 m1 m2 m3 HS2 x0 x2 x3 hT1 hsum
                      go_wp2_with (fail)
                      go_region
                      have hS3 := HS3.out
                      rw [HM0.out] at hS3
                      have hS6 := (hS3.setV (xv ++ Ptr.val l k)).later (Below.refl _ _).drew
                      have hcat : (⟨xv.toArray⟩ : ByteArray) ++ V = ⟨(xv ++ Ptr.val l k).toArray⟩ := by rw [HVV.out, ByteArray.mk_append_mk]
                      rw [← hcat] at hS6
                      have hT2 : Kept (tot (M0 ++ [(xk, xn, xv ++ Ptr.val l k, xp)]) ≤ (k + 1) * 140737488355328) := ⟨by have hT1 := HT.out; rw [HM0.out, tot_append, tot_one] at hT1; rw [tot_append, tot_one]; simp only [List.length_append] at hT1 ⊢; omega⟩
                      have hL2 : (M0 ++ [(xk, xn, xv ++ Ptr.val l k, xp)]).length = M.length := by rw [HM0.out]; simp
                      have HS6 := Kept.mk hS6
                      have HL2 := Kept.mk hL2
                      clear hS3 hS6 hcat hL2 hadd
                      go_wp2
                      go_roundw
                      case rel => exact ⟨k + 1, M0 ++ [(xk, xn, xv ++ Ptr.val l k, xp)], _, by omega, by go_num, by rw [HL2.out]; omega, hT2, HR1, ⟨by have h := HS6.out; rw [HL2.out] at h; exact h⟩⟩
                      case measure => simp [intOf]; omega
            · have e1 : ((k : Int) + 1 == (l.length : Int)) = false := by simp; omega
              have k1 : k + 1 < l.length := by omega
              have k2 : (k : Int) + 1 < (l.length : Int) := by omega
              obtain ⟨_, _, _, d3⟩ := (HRD.out.below HS2.out.below).cells k1
              simp only at d3
              generalize Ptr.par l (k + 1) = PN at d3
              clear hlast
              cases hPN : (PN == (k : Int)) with
              | true =>
                have e2 : (PN != (k : Int)) = false := by rw [bne, hPN]; rfl
                go_upto_region 17 with (fail)
                go_quiet (fail)
                have hbd := below_drewN (Below.refl wr.heap.size ((wr.alloc (.cells #[.int .u8 (K : Int), .string X, .string V, .int .i64 Q] 47)).setCell ⟨w.heap.size + 1, k, none⟩ (.int .i64 (M.length : Int)))) nq
                have HS3 := Kept.mk (HS2.out.later (below_drewN (Below.refl _ _) nq))
                have p0 := mg_drew m0 nq
                have p1 := mg_drew m1 nq
                have p2 := mg_drew m2 nq
                have p3 := mg_drew m3 nq
                generalize ((wr.alloc (.cells #[.int .u8 (K : Int), .string X, .string V, .int .i64 Q] 47)).setCell ⟨w.heap.size + 1, k, none⟩ (.int .i64 (M.length : Int))).drewN nq = W3 at HS3 p0 p1 p2 p3 ⊢
                clear hbd m0 m1 m2 m3 HS2
                go_wp2_with (at_builtin; refine wpList_append_own _ rfl (.tmp 106) (.tmp 108) 22 rfl (w.heap.size + 2) 47 i0' (.agg #[.int .u8 0, .string ⟨#[]⟩, .string ⟨#[]⟩, .int .i64 0]) 4 48 Tryz.underlying22 hi' hz0 hz1 hz2 rfl (by decide) _ M.length (ndsC M) (by rfl) (HS3.out.out.alloc _) ⟨W3.heap.size, 0, none⟩ 1 1 [.int .u8 (K : Int), .string X, .string V, .int .i64 Q] (by rfl) (by rfl) (mg_news _ _ _) (one_four' _ _ _ _) (by unfold maxLen; omega) (by omega) (HS3.out.alloc _).lo.2.2.2.2.2 ?_; intro v' w5 ho5 hg5 _; have HS5 := Kept.mk ((HS3.out.alloc (.cells #[.int .u8 (K : Int), .string X, .string V, .int .i64 Q] 47)).put (x := (K, Ptr.nam l k, Ptr.val l k, Q)) (by rw [HXX.out, HVV.out] at ho5; exact ho5) hg5); clear ho5 hg5)
                go_roundw
                case rel => exact ⟨k + 1, _, _, by omega, by go_num, by simp; omega, ⟨by have := HT.out; rw [tot_append, tot_one]; show _ + (Ptr.val l k).length ≤ _; omega⟩, HR1, HS5⟩
                case measure => simp [intOf]; omega
              | false =>
                have e2 : (PN != (k : Int)) = true := by rw [bne, hPN]; rfl
                by_cases hv : V.toList = []
                · skip
                  go_wp2
                  go_roundw
                  case rel => exact ⟨k + 1, M, _, by omega, by go_num, by omega, ⟨Nat.le_trans HT.out (Nat.mul_le_mul_right _ (Nat.le_succ k))⟩, HR1, HS2⟩
                  case measure => simp [intOf]; omega
                · have hv1 : V.toList.isEmpty = false := by cases h : V.toList with | nil => exact absurd h hv | cons _ _ => rfl
                  clear hv
                  rcases List.eq_nil_or_concat M with hM0 | ⟨M0, ⟨xk, xn, xv, xp⟩, hM0⟩
                  · have hM1 : M.length = 0 := by rw [hM0]; rfl
                    clear hM0
                    have hM2 : (M.length : Int) - 1 = -1 := by omega
                    clear hM1
                    go_upto_region 17 with (fail)
                    try rw [hM2]
                    go_quiet (fail)
                    have hbd := below_drewN (Below.refl wr.heap.size ((wr.alloc (.cells #[.int .u8 (K : Int), .string X, .string V, .int .i64 Q] 47)).setCell ⟨w.heap.size + 1, k, none⟩ (.int .i64 (M.length : Int)))) nq
                    have HS3 := Kept.mk (HS2.out.later (below_drewN (Below.refl _ _) nq))
                    have p0 := mg_drew m0 nq
                    have p1 := mg_drew m1 nq
                    have p2 := mg_drew m2 nq
                    have p3 := mg_drew m3 nq
                    generalize ((wr.alloc (.cells #[.int .u8 (K : Int), .string X, .string V, .int .i64 Q] 47)).setCell ⟨w.heap.size + 1, k, none⟩ (.int .i64 (M.length : Int))).drewN nq = W3 at HS3 p0 p1 p2 p3 ⊢
                    clear hbd m0 m1 m2 m3 HS2
                    go_wp2_with (at_builtin; refine wpList_append_own _ rfl (.tmp 106) (.tmp 108) 22 rfl (w.heap.size + 2) 47 i0' (.agg #[.int .u8 0, .string ⟨#[]⟩, .string ⟨#[]⟩, .int .i64 0]) 4 48 Tryz.underlying22 hi' hz0 hz1 hz2 rfl (by decide) _ M.length (ndsC M) (by rfl) (HS3.out.out.alloc _) ⟨W3.heap.size, 0, none⟩ 1 1 [.int .u8 (K : Int), .string X, .string V, .int .i64 Q] (by rfl) (by rfl) (mg_news _ _ _) (one_four' _ _ _ _) (by unfold maxLen; omega) (by omega) (HS3.out.alloc _).lo.2.2.2.2.2 ?_; intro v' w5 ho5 hg5 _; have HS5 := Kept.mk ((HS3.out.alloc (.cells #[.int .u8 (K : Int), .string X, .string V, .int .i64 Q] 47)).put (x := (K, Ptr.nam l k, Ptr.val l k, Q)) (by rw [HXX.out, HVV.out] at ho5; exact ho5) hg5); clear ho5 hg5)
                    go_roundw
                    case rel => exact ⟨k + 1, _, _, by omega, by go_num, by simp; omega, ⟨by have := HT.out; rw [tot_append, tot_one]; show _ + (Ptr.val l k).length ≤ _; omega⟩, HR1, HS5⟩
                    case measure => simp [intOf]; omega
                  · rw [List.concat_eq_append] at hM0
                    have HM0 := Kept.mk hM0
                    obtain ⟨g, cc, hgc, _⟩ := own_block HS2.out.out (by rw [hM0]; simp)
                    obtain ⟨rfl, rfl⟩ : A4 = some ⟨g, 0, none⟩ ∧ c4 = cc := by simpa using hgc
                    obtain ⟨x0, _, x2, x3⟩ := last_cells HS2.out.out hM0
                    simp only at x0 x2 x3
                    have hM2 : (M.length : Int) - 1 = (M0.length : Int) := by rw [hM0]; simp
                    have y0 : (0 : Int) ≤ (M0.length : Int) := by omega
                    have y1 : (M0.length : Int) < (M.length : Int) := by omega
                    clear hM0 hgc
                    have eX : (((xk : Nat) : Int) == 4) = (xk == 4) := beq_i _ 4
                    cases hx4 : (xk == 4) with
                    | false =>
                      rw [hx4] at eX
                      clear hx4 x2 x3
                      go_upto_region 17 with (fail)
                      try rw [hM2]
                      go_quiet (fail)
                      have hbd := below_drewN (Below.refl wr.heap.size ((wr.alloc (.cells #[.int .u8 (K : Int), .string X, .string V, .int .i64 Q] 47)).setCell ⟨w.heap.size + 1, k, none⟩ (.int .i64 (M.length : Int)))) nq
                      have HS3 := Kept.mk (HS2.out.later (below_drewN (Below.refl _ _) nq))
                      have p0 := mg_drew m0 nq
                      have p1 := mg_drew m1 nq
                      have p2 := mg_drew m2 nq
                      have p3 := mg_drew m3 nq
                      generalize ((wr.alloc (.cells #[.int .u8 (K : Int), .string X, .string V, .int .i64 Q] 47)).setCell ⟨w.heap.size + 1, k, none⟩ (.int .i64 (M.length : Int))).drewN nq = W3 at HS3 p0 p1 p2 p3 ⊢
                      clear hbd m0 m1 m2 m3 HS2
                      go_wp2_with (at_builtin; refine wpList_append_own _ rfl (.tmp 106) (.tmp 108) 22 rfl (w.heap.size + 2) 47 i0' (.agg #[.int .u8 0, .string ⟨#[]⟩, .string ⟨#[]⟩, .int .i64 0]) 4 48 Tryz.underlying22 hi' hz0 hz1 hz2 rfl (by decide) _ M.length (ndsC M) (by rfl) (HS3.out.out.alloc _) ⟨W3.heap.size, 0, none⟩ 1 1 [.int .u8 (K : Int), .string X, .string V, .int .i64 Q] (by rfl) (by rfl) (mg_news _ _ _) (one_four' _ _ _ _) (by unfold maxLen; omega) (by omega) (HS3.out.alloc _).lo.2.2.2.2.2 ?_; intro v' w5 ho5 hg5 _; have HS5 := Kept.mk ((HS3.out.alloc (.cells #[.int .u8 (K : Int), .string X, .string V, .int .i64 Q] 47)).put (x := (K, Ptr.nam l k, Ptr.val l k, Q)) (by rw [HXX.out, HVV.out] at ho5; exact ho5) hg5); clear ho5 hg5)
                      go_roundw
                      case rel => exact ⟨k + 1, _, _, by omega, by go_num, by simp; omega, ⟨by have := HT.out; rw [tot_append, tot_one]; show _ + (Ptr.val l k).length ≤ _; omega⟩, HR1, HS5⟩
                      case measure => simp [intOf]; omega
                    | true =>
                      rw [hx4] at eX
                      clear hx4
                      cases hxp : (xp == Q) with
                      | false =>
                        go_upto_region 17 with (fail)
                        try rw [hM2]
                        go_quiet (fail)
                        have hbd := below_drewN (Below.refl wr.heap.size ((wr.alloc (.cells #[.int .u8 (K : Int), .string X, .string V, .int .i64 Q] 47)).setCell ⟨w.heap.size + 1, k, none⟩ (.int .i64 (M.length : Int)))) nq
                        have HS3 := Kept.mk (HS2.out.later (below_drewN (Below.refl _ _) nq))
                        have p0 := mg_drew m0 nq
                        have p1 := mg_drew m1 nq
                        have p2 := mg_drew m2 nq
                        have p3 := mg_drew m3 nq
                        generalize ((wr.alloc (.cells #[.int .u8 (K : Int), .string X, .string V, .int .i64 Q] 47)).setCell ⟨w.heap.size + 1, k, none⟩ (.int .i64 (M.length : Int))).drewN nq = W3 at HS3 p0 p1 p2 p3 ⊢
                        clear hbd m0 m1 m2 m3 HS2
                        go_wp2_with (at_builtin; refine wpList_append_own _ rfl (.tmp 106) (.tmp 108) 22 rfl (w.heap.size + 2) 47 i0' (.agg #[.int .u8 0, .string ⟨#[]⟩, .string ⟨#[]⟩, .int .i64 0]) 4 48 Tryz.underlying22 hi' hz0 hz1 hz2 rfl (by decide) _ M.length (ndsC M) (by rfl) (HS3.out.out.alloc _) ⟨W3.heap.size, 0, none⟩ 1 1 [.int .u8 (K : Int), .string X, .string V, .int .i64 Q] (by rfl) (by rfl) (mg_news _ _ _) (one_four' _ _ _ _) (by unfold maxLen; omega) (by omega) (HS3.out.alloc _).lo.2.2.2.2.2 ?_; intro v' w5 ho5 hg5 _; have HS5 := Kept.mk ((HS3.out.alloc (.cells #[.int .u8 (K : Int), .string X, .string V, .int .i64 Q] 47)).put (x := (K, Ptr.nam l k, Ptr.val l k, Q)) (by rw [HXX.out, HVV.out] at ho5; exact ho5) hg5); clear ho5 hg5)
                        go_roundw
                        case rel => exact ⟨k + 1, _, _, by omega, by go_num, by simp; omega, ⟨by have := HT.out; rw [tot_append, tot_one]; show _ + (Ptr.val l k).length ≤ _; omega⟩, HR1, HS5⟩
                        case measure => simp [intOf]; omega
                      | true =>
                        have hT1 := HT.out
                        rw [HM0.out, tot_append, tot_one] at hT1
                        simp only at hT1
                        have hsum : (⟨xv.toArray⟩ : ByteArray).size + V.size ≤ 9223372036854775807 := by rw [HVV.out]; show xv.length + (Ptr.val l k).length ≤ _; omega
                        have hadd := fun W => run_string_add_sum (P := Tryz.prog) W ⟨xv.toArray⟩ V hsum
                        go_upto_region 17 with (fail)
                        try rw [hM2]
                        go_quiet (fail)
                        have HS3 := Kept.mk (HS2.out.later (below_drewN (Below.refl _ _) nq))
                        have p2 := mg_drew m2 nq
                        have z2 := mg_drew x2 nq
                        have z4 := own_unfrozen HS3.out.out (M0.length * 4 + 2)
                        generalize ((wr.alloc (.cells #[.int .u8 (K : Int), .string X, .string V, .int .i64 Q] 47)).setCell ⟨w.heap.size + 1, k, none⟩ (.int .i64 (M.length : Int))).drewN nq = W3 at HS3 p2 z2 z4 ⊢
                        clear m0 m1 m2 m3 HS2 x0 x2 x3 hT1 hsum
                        go_wp2_with (fail)
                        go_region
                        have hS3 := HS3.out
                        rw [HM0.out] at hS3
                        have hS6 := (hS3.setV (xv ++ Ptr.val l k)).later (Below.refl _ _).drew
                        have hcat : (⟨xv.toArray⟩ : ByteArray) ++ V = ⟨(xv ++ Ptr.val l k).toArray⟩ := by rw [HVV.out, ByteArray.mk_append_mk]
                        rw [← hcat] at hS6
                        have hT2 : Kept (tot (M0 ++ [(xk, xn, xv ++ Ptr.val l k, xp)]) ≤ (k + 1) * 140737488355328) := ⟨by have hT1 := HT.out; rw [HM0.out, tot_append, tot_one] at hT1; rw [tot_append, tot_one]; simp only [List.length_append] at hT1 ⊢; omega⟩
                        have hL2 : (M0 ++ [(xk, xn, xv ++ Ptr.val l k, xp)]).length = M.length := by rw [HM0.out]; simp
                        have HS6 := Kept.mk hS6
                        have HL2 := Kept.mk hL2
                        clear hS3 hS6 hcat hL2 hadd
                        go_wp2
                        go_roundw
                        case rel => exact ⟨k + 1, M0 ++ [(xk, xn, xv ++ Ptr.val l k, xp)], _, by omega, by go_num, by rw [HL2.out]; omega, hT2, HR1, ⟨by have h := HS6.out; rw [HL2.out] at h; exact h⟩⟩
                        case measure => simp [intOf]; omega
        · go_upto_region 13 with (fail)
          clear HSW hrk hp
          generalize PK = Q
          have hS1 := HS.out.alloc (.cells #[.int .u8 (K : Int), .string X, .string V, .int .i64 Q] 47)
          have f1 := hS1.row.cell hlt
          have f2 := hS1.row.frozen k
          have hS2 := hS1.setTo k M.length
          have hgt : wr.heap.size ≠ w.heap.size + 1 := by have := HS.out.row.lt; omega
          have m0 := far_box wr #[.int .u8 (K : Int), .string X, .string V, .int .i64 Q] 47 (w.heap.size + 1) k 0 (u := .int .i64 (M.length : Int)) (v := .int .u8 (K : Int)) hgt rfl
          have m1 := far_box wr #[.int .u8 (K : Int), .string X, .string V, .int .i64 Q] 47 (w.heap.size + 1) k 1 (u := .int .i64 (M.length : Int)) (v := .string X) hgt rfl
          have m2 := far_box wr #[.int .u8 (K : Int), .string X, .string V, .int .i64 Q] 47 (w.heap.size + 1) k 2 (u := .int .i64 (M.length : Int)) (v := .string V) hgt rfl
          have m3 := far_box wr #[.int .u8 (K : Int), .string X, .string V, .int .i64 Q] 47 (w.heap.size + 1) k 3 (u := .int .i64 (M.length : Int)) (v := .int .i64 Q) hgt rfl
          have HS2 := Kept.mk hS2
          have hMl : M.length ≤ 300 := by omega
          have eK : (((K : Nat) : Int) == 4) = (K == 4) := beq_i _ 4
          clear hS1 hS2 hgt
          cases hK4 : (K == 4) with
          | false =>
            rw [hK4] at eK
            clear hK4
            go_upto_region 17 with (fail)
            go_quiet (fail)
            have hbd := below_drewN (Below.refl wr.heap.size ((wr.alloc (.cells #[.int .u8 (K : Int), .string X, .string V, .int .i64 Q] 47)).setCell ⟨w.heap.size + 1, k, none⟩ (.int .i64 (M.length : Int)))) nq
            have HS3 := Kept.mk (HS2.out.later (below_drewN (Below.refl _ _) nq))
            have p0 := mg_drew m0 nq
            have p1 := mg_drew m1 nq
            have p2 := mg_drew m2 nq
            have p3 := mg_drew m3 nq
            generalize ((wr.alloc (.cells #[.int .u8 (K : Int), .string X, .string V, .int .i64 Q] 47)).setCell ⟨w.heap.size + 1, k, none⟩ (.int .i64 (M.length : Int))).drewN nq = W3 at HS3 p0 p1 p2 p3 ⊢
            clear hbd m0 m1 m2 m3 HS2
            go_wp2_with (at_builtin; refine wpList_append_own _ rfl (.tmp 106) (.tmp 108) 22 rfl (w.heap.size + 2) 47 i0' (.agg #[.int .u8 0, .string ⟨#[]⟩, .string ⟨#[]⟩, .int .i64 0]) 4 48 Tryz.underlying22 hi' hz0 hz1 hz2 rfl (by decide) _ M.length (ndsC M) (by rfl) (HS3.out.out.alloc _) ⟨W3.heap.size, 0, none⟩ 1 1 [.int .u8 (K : Int), .string X, .string V, .int .i64 Q] (by rfl) (by rfl) (mg_news _ _ _) (one_four' _ _ _ _) (by unfold maxLen; omega) (by omega) (HS3.out.alloc _).lo.2.2.2.2.2 ?_; intro v' w5 ho5 hg5 _; have HS5 := Kept.mk ((HS3.out.alloc (.cells #[.int .u8 (K : Int), .string X, .string V, .int .i64 Q] 47)).put (x := (K, Ptr.nam l k, Ptr.val l k, Q)) (by rw [HXX.out, HVV.out] at ho5; exact ho5) hg5); clear ho5 hg5)
            go_roundw
            case rel => exact ⟨k + 1, _, _, by omega, by go_num, by simp; omega, ⟨by have := HT.out; rw [tot_append, tot_one]; show _ + (Ptr.val l k).length ≤ _; omega⟩, HR1, HS5⟩
            case measure => simp [intOf]; omega
          | true =>
            rw [hK4] at eK
            clear hK4
            by_cases hlast : k + 1 = l.length
            · have e1 : ((k : Int) + 1 == (l.length : Int)) = true := by simp; omega
              clear hlast
              by_cases hv : V.toList = []
              · skip
                go_wp2
                go_roundw
                case rel => exact ⟨k + 1, M, _, by omega, by go_num, by omega, ⟨Nat.le_trans HT.out (Nat.mul_le_mul_right _ (Nat.le_succ k))⟩, HR1, HS2⟩
                case measure => simp [intOf]; omega
              · have hv1 : V.toList.isEmpty = false := by cases h : V.toList with | nil => exact absurd h hv | cons _ _ => rfl
                clear hv
                rcases List.eq_nil_or_concat M with hM0 | ⟨M0, ⟨xk, xn, xv, xp⟩, hM0⟩
                · have hM1 : M.length = 0 := by rw [hM0]; rfl
                  clear hM0
                  have hM2 : (M.length : Int) - 1 = -1 := by omega
                  clear hM1
                  go_upto_region 17 with (fail)
                  try rw [hM2]
                  go_quiet (fail)
                  have hbd := below_drewN (Below.refl wr.heap.size ((wr.alloc (.cells #[.int .u8 (K : Int), .string X, .string V, .int .i64 Q] 47)).setCell ⟨w.heap.size + 1, k, none⟩ (.int .i64 (M.length : Int)))) nq
                  have HS3 := Kept.mk (HS2.out.later (below_drewN (Below.refl _ _) nq))
                  have p0 := mg_drew m0 nq
                  have p1 := mg_drew m1 nq
                  have p2 := mg_drew m2 nq
                  have p3 := mg_drew m3 nq
                  generalize ((wr.alloc (.cells #[.int .u8 (K : Int), .string X, .string V, .int .i64 Q] 47)).setCell ⟨w.heap.size + 1, k, none⟩ (.int .i64 (M.length : Int))).drewN nq = W3 at HS3 p0 p1 p2 p3 ⊢
                  clear hbd m0 m1 m2 m3 HS2
                  go_wp2_with (at_builtin; refine wpList_append_own _ rfl (.tmp 106) (.tmp 108) 22 rfl (w.heap.size + 2) 47 i0' (.agg #[.int .u8 0, .string ⟨#[]⟩, .string ⟨#[]⟩, .int .i64 0]) 4 48 Tryz.underlying22 hi' hz0 hz1 hz2 rfl (by decide) _ M.length (ndsC M) (by rfl) (HS3.out.out.alloc _) ⟨W3.heap.size, 0, none⟩ 1 1 [.int .u8 (K : Int), .string X, .string V, .int .i64 Q] (by rfl) (by rfl) (mg_news _ _ _) (one_four' _ _ _ _) (by unfold maxLen; omega) (by omega) (HS3.out.alloc _).lo.2.2.2.2.2 ?_; intro v' w5 ho5 hg5 _; have HS5 := Kept.mk ((HS3.out.alloc (.cells #[.int .u8 (K : Int), .string X, .string V, .int .i64 Q] 47)).put (x := (K, Ptr.nam l k, Ptr.val l k, Q)) (by rw [HXX.out, HVV.out] at ho5; exact ho5) hg5); clear ho5 hg5)
                  go_roundw
                  case rel => exact ⟨k + 1, _, _, by omega, by go_num, by simp; omega, ⟨by have := HT.out; rw [tot_append, tot_one]; show _ + (Ptr.val l k).length ≤ _; omega⟩, HR1, HS5⟩
                  case measure => simp [intOf]; omega
                · rw [List.concat_eq_append] at hM0
                  have HM0 := Kept.mk hM0
                  obtain ⟨g, cc, hgc, _⟩ := own_block HS2.out.out (by rw [hM0]; simp)
                  obtain ⟨rfl, rfl⟩ : A4 = some ⟨g, 0, none⟩ ∧ c4 = cc := by simpa using hgc
                  obtain ⟨x0, _, x2, x3⟩ := last_cells HS2.out.out hM0
                  simp only at x0 x2 x3
                  have hM2 : (M.length : Int) - 1 = (M0.length : Int) := by rw [hM0]; simp
                  have y0 : (0 : Int) ≤ (M0.length : Int) := by omega
                  have y1 : (M0.length : Int) < (M.length : Int) := by omega
                  clear hM0 hgc
                  have eX : (((xk : Nat) : Int) == 4) = (xk == 4) := beq_i _ 4
                  cases hx4 : (xk == 4) with
                  | false =>
                    rw [hx4] at eX
                    clear hx4 x2 x3
                    go_upto_region 17 with (fail)
                    try rw [hM2]
                    go_quiet (fail)
                    have hbd := below_drewN (Below.refl wr.heap.size ((wr.alloc (.cells #[.int .u8 (K : Int), .string X, .string V, .int .i64 Q] 47)).setCell ⟨w.heap.size + 1, k, none⟩ (.int .i64 (M.length : Int)))) nq
                    have HS3 := Kept.mk (HS2.out.later (below_drewN (Below.refl _ _) nq))
                    have p0 := mg_drew m0 nq
                    have p1 := mg_drew m1 nq
                    have p2 := mg_drew m2 nq
                    have p3 := mg_drew m3 nq
                    generalize ((wr.alloc (.cells #[.int .u8 (K : Int), .string X, .string V, .int .i64 Q] 47)).setCell ⟨w.heap.size + 1, k, none⟩ (.int .i64 (M.length : Int))).drewN nq = W3 at HS3 p0 p1 p2 p3 ⊢
                    clear hbd m0 m1 m2 m3 HS2
                    go_wp2_with (at_builtin; refine wpList_append_own _ rfl (.tmp 106) (.tmp 108) 22 rfl (w.heap.size + 2) 47 i0' (.agg #[.int .u8 0, .string ⟨#[]⟩, .string ⟨#[]⟩, .int .i64 0]) 4 48 Tryz.underlying22 hi' hz0 hz1 hz2 rfl (by decide) _ M.length (ndsC M) (by rfl) (HS3.out.out.alloc _) ⟨W3.heap.size, 0, none⟩ 1 1 [.int .u8 (K : Int), .string X, .string V, .int .i64 Q] (by rfl) (by rfl) (mg_news _ _ _) (one_four' _ _ _ _) (by unfold maxLen; omega) (by omega) (HS3.out.alloc _).lo.2.2.2.2.2 ?_; intro v' w5 ho5 hg5 _; have HS5 := Kept.mk ((HS3.out.alloc (.cells #[.int .u8 (K : Int), .string X, .string V, .int .i64 Q] 47)).put (x := (K, Ptr.nam l k, Ptr.val l k, Q)) (by rw [HXX.out, HVV.out] at ho5; exact ho5) hg5); clear ho5 hg5)
                    go_roundw
                    case rel => exact ⟨k + 1, _, _, by omega, by go_num, by simp; omega, ⟨by have := HT.out; rw [tot_append, tot_one]; show _ + (Ptr.val l k).length ≤ _; omega⟩, HR1, HS5⟩
                    case measure => simp [intOf]; omega
                  | true =>
                    rw [hx4] at eX
                    clear hx4
                    cases hxp : (xp == Q) with
                    | false =>
                      go_upto_region 17 with (fail)
                      try rw [hM2]
                      go_quiet (fail)
                      have hbd := below_drewN (Below.refl wr.heap.size ((wr.alloc (.cells #[.int .u8 (K : Int), .string X, .string V, .int .i64 Q] 47)).setCell ⟨w.heap.size + 1, k, none⟩ (.int .i64 (M.length : Int)))) nq
                      have HS3 := Kept.mk (HS2.out.later (below_drewN (Below.refl _ _) nq))
                      have p0 := mg_drew m0 nq
                      have p1 := mg_drew m1 nq
                      have p2 := mg_drew m2 nq
                      have p3 := mg_drew m3 nq
                      generalize ((wr.alloc (.cells #[.int .u8 (K : Int), .string X, .string V, .int .i64 Q] 47)).setCell ⟨w.heap.size + 1, k, none⟩ (.int .i64 (M.length : Int))).drewN nq = W3 at HS3 p0 p1 p2 p3 ⊢
                      clear hbd m0 m1 m2 m3 HS2
                      go_wp2_with (at_builtin; refine wpList_append_own _ rfl (.tmp 106) (.tmp 108) 22 rfl (w.heap.size + 2) 47 i0' (.agg #[.int .u8 0, .string ⟨#[]⟩, .string ⟨#[]⟩, .int .i64 0]) 4 48 Tryz.underlying22 hi' hz0 hz1 hz2 rfl (by decide) _ M.length (ndsC M) (by rfl) (HS3.out.out.alloc _) ⟨W3.heap.size, 0, none⟩ 1 1 [.int .u8 (K : Int), .string X, .string V, .int .i64 Q] (by rfl) (by rfl) (mg_news _ _ _) (one_four' _ _ _ _) (by unfold maxLen; omega) (by omega) (HS3.out.alloc _).lo.2.2.2.2.2 ?_; intro v' w5 ho5 hg5 _; have HS5 := Kept.mk ((HS3.out.alloc (.cells #[.int .u8 (K : Int), .string X, .string V, .int .i64 Q] 47)).put (x := (K, Ptr.nam l k, Ptr.val l k, Q)) (by rw [HXX.out, HVV.out] at ho5; exact ho5) hg5); clear ho5 hg5)
                      go_roundw
                      case rel => exact ⟨k + 1, _, _, by omega, by go_num, by simp; omega, ⟨by have := HT.out; rw [tot_append, tot_one]; show _ + (Ptr.val l k).length ≤ _; omega⟩, HR1, HS5⟩
                      case measure => simp [intOf]; omega
                    | true =>
                      have hT1 := HT.out
                      rw [HM0.out, tot_append, tot_one] at hT1
                      simp only at hT1
                      have hsum : (⟨xv.toArray⟩ : ByteArray).size + V.size ≤ 9223372036854775807 := by rw [HVV.out]; show xv.length + (Ptr.val l k).length ≤ _; omega
                      have hadd := fun W => run_string_add_sum (P := Tryz.prog) W ⟨xv.toArray⟩ V hsum
                      go_upto_region 17 with (fail)
                      try rw [hM2]
                      go_quiet (fail)
                      have HS3 := Kept.mk (HS2.out.later (below_drewN (Below.refl _ _) nq))
                      have p2 := mg_drew m2 nq
                      have z2 := mg_drew x2 nq
                      have z4 := own_unfrozen HS3.out.out (M0.length * 4 + 2)
                      generalize ((wr.alloc (.cells #[.int .u8 (K : Int), .string X, .string V, .int .i64 Q] 47)).setCell ⟨w.heap.size + 1, k, none⟩ (.int .i64 (M.length : Int))).drewN nq = W3 at HS3 p2 z2 z4 ⊢
                      clear m0 m1 m2 m3 HS2 x0 x2 x3 hT1 hsum
                      go_wp2_with (fail)
                      go_region
                      have hS3 := HS3.out
                      rw [HM0.out] at hS3
                      have hS6 := (hS3.setV (xv ++ Ptr.val l k)).later (Below.refl _ _).drew
                      have hcat : (⟨xv.toArray⟩ : ByteArray) ++ V = ⟨(xv ++ Ptr.val l k).toArray⟩ := by rw [HVV.out, ByteArray.mk_append_mk]
                      rw [← hcat] at hS6
                      have hT2 : Kept (tot (M0 ++ [(xk, xn, xv ++ Ptr.val l k, xp)]) ≤ (k + 1) * 140737488355328) := ⟨by have hT1 := HT.out; rw [HM0.out, tot_append, tot_one] at hT1; rw [tot_append, tot_one]; simp only [List.length_append] at hT1 ⊢; omega⟩
                      have hL2 : (M0 ++ [(xk, xn, xv ++ Ptr.val l k, xp)]).length = M.length := by rw [HM0.out]; simp
                      have HS6 := Kept.mk hS6
                      have HL2 := Kept.mk hL2
                      clear hS3 hS6 hcat hL2 hadd
                      go_wp2
                      go_roundw
                      case rel => exact ⟨k + 1, M0 ++ [(xk, xn, xv ++ Ptr.val l k, xp)], _, by omega, by go_num, by rw [HL2.out]; omega, hT2, HR1, ⟨by have h := HS6.out; rw [HL2.out] at h; exact h⟩⟩
                      case measure => simp [intOf]; omega
            · have e1 : ((k : Int) + 1 == (l.length : Int)) = false := by simp; omega
              have k1 : k + 1 < l.length := by omega
              have k2 : (k : Int) + 1 < (l.length : Int) := by omega
              obtain ⟨_, _, _, d3⟩ := (HRD.out.below HS2.out.below).cells k1
              simp only at d3
              generalize Ptr.par l (k + 1) = PN at d3
              clear hlast
              cases hPN : (PN == (k : Int)) with
              | true =>
                have e2 : (PN != (k : Int)) = false := by rw [bne, hPN]; rfl
                go_upto_region 17 with (fail)
                go_quiet (fail)
                have hbd := below_drewN (Below.refl wr.heap.size ((wr.alloc (.cells #[.int .u8 (K : Int), .string X, .string V, .int .i64 Q] 47)).setCell ⟨w.heap.size + 1, k, none⟩ (.int .i64 (M.length : Int)))) nq
                have HS3 := Kept.mk (HS2.out.later (below_drewN (Below.refl _ _) nq))
                have p0 := mg_drew m0 nq
                have p1 := mg_drew m1 nq
                have p2 := mg_drew m2 nq
                have p3 := mg_drew m3 nq
                generalize ((wr.alloc (.cells #[.int .u8 (K : Int), .string X, .string V, .int .i64 Q] 47)).setCell ⟨w.heap.size + 1, k, none⟩ (.int .i64 (M.length : Int))).drewN nq = W3 at HS3 p0 p1 p2 p3 ⊢
                clear hbd m0 m1 m2 m3 HS2
                go_wp2_with (at_builtin; refine wpList_append_own _ rfl (.tmp 106) (.tmp 108) 22 rfl (w.heap.size + 2) 47 i0' (.agg #[.int .u8 0, .string ⟨#[]⟩, .string ⟨#[]⟩, .int .i64 0]) 4 48 Tryz.underlying22 hi' hz0 hz1 hz2 rfl (by decide) _ M.length (ndsC M) (by rfl) (HS3.out.out.alloc _) ⟨W3.heap.size, 0, none⟩ 1 1 [.int .u8 (K : Int), .string X, .string V, .int .i64 Q] (by rfl) (by rfl) (mg_news _ _ _) (one_four' _ _ _ _) (by unfold maxLen; omega) (by omega) (HS3.out.alloc _).lo.2.2.2.2.2 ?_; intro v' w5 ho5 hg5 _; have HS5 := Kept.mk ((HS3.out.alloc (.cells #[.int .u8 (K : Int), .string X, .string V, .int .i64 Q] 47)).put (x := (K, Ptr.nam l k, Ptr.val l k, Q)) (by rw [HXX.out, HVV.out] at ho5; exact ho5) hg5); clear ho5 hg5)
                go_roundw
                case rel => exact ⟨k + 1, _, _, by omega, by go_num, by simp; omega, ⟨by have := HT.out; rw [tot_append, tot_one]; show _ + (Ptr.val l k).length ≤ _; omega⟩, HR1, HS5⟩
                case measure => simp [intOf]; omega
              | false =>
                have e2 : (PN != (k : Int)) = true := by rw [bne, hPN]; rfl
                by_cases hv : V.toList = []
                · skip
                  go_wp2
                  go_roundw
                  case rel => exact ⟨k + 1, M, _, by omega, by go_num, by omega, ⟨Nat.le_trans HT.out (Nat.mul_le_mul_right _ (Nat.le_succ k))⟩, HR1, HS2⟩
                  case measure => simp [intOf]; omega
                · have hv1 : V.toList.isEmpty = false := by cases h : V.toList with | nil => exact absurd h hv | cons _ _ => rfl
                  clear hv
                  rcases List.eq_nil_or_concat M with hM0 | ⟨M0, ⟨xk, xn, xv, xp⟩, hM0⟩
                  · have hM1 : M.length = 0 := by rw [hM0]; rfl
                    clear hM0
                    have hM2 : (M.length : Int) - 1 = -1 := by omega
                    clear hM1
                    go_upto_region 17 with (fail)
                    try rw [hM2]
                    go_quiet (fail)
                    have hbd := below_drewN (Below.refl wr.heap.size ((wr.alloc (.cells #[.int .u8 (K : Int), .string X, .string V, .int .i64 Q] 47)).setCell ⟨w.heap.size + 1, k, none⟩ (.int .i64 (M.length : Int)))) nq
                    have HS3 := Kept.mk (HS2.out.later (below_drewN (Below.refl _ _) nq))
                    have p0 := mg_drew m0 nq
                    have p1 := mg_drew m1 nq
                    have p2 := mg_drew m2 nq
                    have p3 := mg_drew m3 nq
                    generalize ((wr.alloc (.cells #[.int .u8 (K : Int), .string X, .string V, .int .i64 Q] 47)).setCell ⟨w.heap.size + 1, k, none⟩ (.int .i64 (M.length : Int))).drewN nq = W3 at HS3 p0 p1 p2 p3 ⊢
                    clear hbd m0 m1 m2 m3 HS2
                    go_wp2_with (at_builtin; refine wpList_append_own _ rfl (.tmp 106) (.tmp 108) 22 rfl (w.heap.size + 2) 47 i0' (.agg #[.int .u8 0, .string ⟨#[]⟩, .string ⟨#[]⟩, .int .i64 0]) 4 48 Tryz.underlying22 hi' hz0 hz1 hz2 rfl (by decide) _ M.length (ndsC M) (by rfl) (HS3.out.out.alloc _) ⟨W3.heap.size, 0, none⟩ 1 1 [.int .u8 (K : Int), .string X, .string V, .int .i64 Q] (by rfl) (by rfl) (mg_news _ _ _) (one_four' _ _ _ _) (by unfold maxLen; omega) (by omega) (HS3.out.alloc _).lo.2.2.2.2.2 ?_; intro v' w5 ho5 hg5 _; have HS5 := Kept.mk ((HS3.out.alloc (.cells #[.int .u8 (K : Int), .string X, .string V, .int .i64 Q] 47)).put (x := (K, Ptr.nam l k, Ptr.val l k, Q)) (by rw [HXX.out, HVV.out] at ho5; exact ho5) hg5); clear ho5 hg5)
                    go_roundw
                    case rel => exact ⟨k + 1, _, _, by omega, by go_num, by simp; omega, ⟨by have := HT.out; rw [tot_append, tot_one]; show _ + (Ptr.val l k).length ≤ _; omega⟩, HR1, HS5⟩
                    case measure => simp [intOf]; omega
                  · rw [List.concat_eq_append] at hM0
                    have HM0 := Kept.mk hM0
                    obtain ⟨g, cc, hgc, _⟩ := own_block HS2.out.out (by rw [hM0]; simp)
                    obtain ⟨rfl, rfl⟩ : A4 = some ⟨g, 0, none⟩ ∧ c4 = cc := by simpa using hgc
                    obtain ⟨x0, _, x2, x3⟩ := last_cells HS2.out.out hM0
                    simp only at x0 x2 x3
                    have hM2 : (M.length : Int) - 1 = (M0.length : Int) := by rw [hM0]; simp
                    have y0 : (0 : Int) ≤ (M0.length : Int) := by omega
                    have y1 : (M0.length : Int) < (M.length : Int) := by omega
                    clear hM0 hgc
                    have eX : (((xk : Nat) : Int) == 4) = (xk == 4) := beq_i _ 4
                    cases hx4 : (xk == 4) with
                    | false =>
                      rw [hx4] at eX
                      clear hx4 x2 x3
                      go_upto_region 17 with (fail)
                      try rw [hM2]
                      go_quiet (fail)
                      have hbd := below_drewN (Below.refl wr.heap.size ((wr.alloc (.cells #[.int .u8 (K : Int), .string X, .string V, .int .i64 Q] 47)).setCell ⟨w.heap.size + 1, k, none⟩ (.int .i64 (M.length : Int)))) nq
                      have HS3 := Kept.mk (HS2.out.later (below_drewN (Below.refl _ _) nq))
                      have p0 := mg_drew m0 nq
                      have p1 := mg_drew m1 nq
                      have p2 := mg_drew m2 nq
                      have p3 := mg_drew m3 nq
                      generalize ((wr.alloc (.cells #[.int .u8 (K : Int), .string X, .string V, .int .i64 Q] 47)).setCell ⟨w.heap.size + 1, k, none⟩ (.int .i64 (M.length : Int))).drewN nq = W3 at HS3 p0 p1 p2 p3 ⊢
                      clear hbd m0 m1 m2 m3 HS2
                      go_wp2_with (at_builtin; refine wpList_append_own _ rfl (.tmp 106) (.tmp 108) 22 rfl (w.heap.size + 2) 47 i0' (.agg #[.int .u8 0, .string ⟨#[]⟩, .string ⟨#[]⟩, .int .i64 0]) 4 48 Tryz.underlying22 hi' hz0 hz1 hz2 rfl (by decide) _ M.length (ndsC M) (by rfl) (HS3.out.out.alloc _) ⟨W3.heap.size, 0, none⟩ 1 1 [.int .u8 (K : Int), .string X, .string V, .int .i64 Q] (by rfl) (by rfl) (mg_news _ _ _) (one_four' _ _ _ _) (by unfold maxLen; omega) (by omega) (HS3.out.alloc _).lo.2.2.2.2.2 ?_; intro v' w5 ho5 hg5 _; have HS5 := Kept.mk ((HS3.out.alloc (.cells #[.int .u8 (K : Int), .string X, .string V, .int .i64 Q] 47)).put (x := (K, Ptr.nam l k, Ptr.val l k, Q)) (by rw [HXX.out, HVV.out] at ho5; exact ho5) hg5); clear ho5 hg5)
                      go_roundw
                      case rel => exact ⟨k + 1, _, _, by omega, by go_num, by simp; omega, ⟨by have := HT.out; rw [tot_append, tot_one]; show _ + (Ptr.val l k).length ≤ _; omega⟩, HR1, HS5⟩
                      case measure => simp [intOf]; omega
                    | true =>
                      rw [hx4] at eX
                      clear hx4
                      cases hxp : (xp == Q) with
                      | false =>
                        go_upto_region 17 with (fail)
                        try rw [hM2]
                        go_quiet (fail)
                        have hbd := below_drewN (Below.refl wr.heap.size ((wr.alloc (.cells #[.int .u8 (K : Int), .string X, .string V, .int .i64 Q] 47)).setCell ⟨w.heap.size + 1, k, none⟩ (.int .i64 (M.length : Int)))) nq
                        have HS3 := Kept.mk (HS2.out.later (below_drewN (Below.refl _ _) nq))
                        have p0 := mg_drew m0 nq
                        have p1 := mg_drew m1 nq
                        have p2 := mg_drew m2 nq
                        have p3 := mg_drew m3 nq
                        generalize ((wr.alloc (.cells #[.int .u8 (K : Int), .string X, .string V, .int .i64 Q] 47)).setCell ⟨w.heap.size + 1, k, none⟩ (.int .i64 (M.length : Int))).drewN nq = W3 at HS3 p0 p1 p2 p3 ⊢
                        clear hbd m0 m1 m2 m3 HS2
                        go_wp2_with (at_builtin; refine wpList_append_own _ rfl (.tmp 106) (.tmp 108) 22 rfl (w.heap.size + 2) 47 i0' (.agg #[.int .u8 0, .string ⟨#[]⟩, .string ⟨#[]⟩, .int .i64 0]) 4 48 Tryz.underlying22 hi' hz0 hz1 hz2 rfl (by decide) _ M.length (ndsC M) (by rfl) (HS3.out.out.alloc _) ⟨W3.heap.size, 0, none⟩ 1 1 [.int .u8 (K : Int), .string X, .string V, .int .i64 Q] (by rfl) (by rfl) (mg_news _ _ _) (one_four' _ _ _ _) (by unfold maxLen; omega) (by omega) (HS3.out.alloc _).lo.2.2.2.2.2 ?_; intro v' w5 ho5 hg5 _; have HS5 := Kept.mk ((HS3.out.alloc (.cells #[.int .u8 (K : Int), .string X, .string V, .int .i64 Q] 47)).put (x := (K, Ptr.nam l k, Ptr.val l k, Q)) (by rw [HXX.out, HVV.out] at ho5; exact ho5) hg5); clear ho5 hg5)
                        go_roundw
                        case rel => exact ⟨k + 1, _, _, by omega, by go_num, by simp; omega, ⟨by have := HT.out; rw [tot_append, tot_one]; show _ + (Ptr.val l k).length ≤ _; omega⟩, HR1, HS5⟩
                        case measure => simp [intOf]; omega
                      | true =>
                        have hT1 := HT.out
                        rw [HM0.out, tot_append, tot_one] at hT1
                        simp only at hT1
                        have hsum : (⟨xv.toArray⟩ : ByteArray).size + V.size ≤ 9223372036854775807 := by rw [HVV.out]; show xv.length + (Ptr.val l k).length ≤ _; omega
                        have hadd := fun W => run_string_add_sum (P := Tryz.prog) W ⟨xv.toArray⟩ V hsum
                        go_upto_region 17 with (fail)
                        try rw [hM2]
                        go_quiet (fail)
                        have HS3 := Kept.mk (HS2.out.later (below_drewN (Below.refl _ _) nq))
                        have p2 := mg_drew m2 nq
                        have z2 := mg_drew x2 nq
                        have z4 := own_unfrozen HS3.out.out (M0.length * 4 + 2)
                        generalize ((wr.alloc (.cells #[.int .u8 (K : Int), .string X, .string V, .int .i64 Q] 47)).setCell ⟨w.heap.size + 1, k, none⟩ (.int .i64 (M.length : Int))).drewN nq = W3 at HS3 p2 z2 z4 ⊢
                        clear m0 m1 m2 m3 HS2 x0 x2 x3 hT1 hsum
                        go_wp2_with (fail)
                        go_region
                        have hS3 := HS3.out
                        rw [HM0.out] at hS3
                        have hS6 := (hS3.setV (xv ++ Ptr.val l k)).later (Below.refl _ _).drew
                        have hcat : (⟨xv.toArray⟩ : ByteArray) ++ V = ⟨(xv ++ Ptr.val l k).toArray⟩ := by rw [HVV.out, ByteArray.mk_append_mk]
                        rw [← hcat] at hS6
                        have hT2 : Kept (tot (M0 ++ [(xk, xn, xv ++ Ptr.val l k, xp)]) ≤ (k + 1) * 140737488355328) := ⟨by have hT1 := HT.out; rw [HM0.out, tot_append, tot_one] at hT1; rw [tot_append, tot_one]; simp only [List.length_append] at hT1 ⊢; omega⟩
                        have hL2 : (M0 ++ [(xk, xn, xv ++ Ptr.val l k, xp)]).length = M.length := by rw [HM0.out]; simp
                        have HS6 := Kept.mk hS6
                        have HL2 := Kept.mk hL2
                        clear hS3 hS6 hcat hL2 hadd
                        go_wp2
                        go_roundw
                        case rel => exact ⟨k + 1, M0 ++ [(xk, xn, xv ++ Ptr.val l k, xp)], _, by omega, by go_num, by rw [HL2.out]; omega, hT2, HR1, ⟨by have h := HS6.out; rw [HL2.out] at h; exact h⟩⟩
                        case measure => simp [intOf]; omega
    · obtain rfl : k = l.length := by omega
      go_wp2
      go_ret
      exact ⟨_, M, rfl, hM, own_lowM HS.out.out (by omega), HS.out.below⟩
end Go.Proofs.YtkcpfjhdbbapiaaGreatDoor.Wtr
namespace Go.Proofs.YtkcpfjhdbbapiaaGreatDoor.Wtr
open Go Go.RowKit Go.Proofs.YtkcpfjhdbbapiaaGreatDoor.Kb Go.Proofs.YtkcpfjhdbbapiaaGreatDoor.Flt
theorem rdn_cells {w : World} {b off : Nat} {fld : _} {l : List Ptr.Nd} (h : RdN w (some ⟨b, off, fld⟩) l) : ∀ j u, (ndsC l)[j]? = some u → w.cell? ((⟨b, off, fld⟩ : Addr).add j) = some u := by
  intro j u hu
  have hj : j < (ndsC l).length := (List.getElem?_eq_some_iff.1 hu).1
  rw [ndsC_length] at hj
  have hne : l ≠ [] := by intro e; subst e; simp at hj
  obtain ⟨b', off', hA, hc⟩ := h hne
  cases hA
  have hq : j / 4 < l.length := by omega
  have hx := List.getElem?_eq_getElem hq
  have hN := hc (j / 4) _ hx
  have hg := ndsC_get l (j / 4) _ (j % 4) hx (Nat.mod_lt _ (by decide))
  rw [show j / 4 * 4 + j % 4 = j by omega, hu] at hg
  rw [addr_add]
  obtain ⟨n0, n1, n2, n3⟩ := hN
  generalize l[j / 4] = x at hg n0 n1 n2 n3
  have hr : j % 4 < 4 := Nat.mod_lt _ (by decide)
  have hjj : off + j = off + j / 4 * 4 + j % 4 := by omega
  rw [hjj]
  generalize off + j / 4 * 4 = o at n0 n1 n2 n3
  generalize j % 4 = r at hg hr
  match r, hr, hg with
  | 0, _, hg => rw [Nat.add_zero, n0, hg]; rfl
  | 1, _, hg => rw [n1, hg]; rfl
  | 2, _, hg => rw [n2, hg]; rfl
  | 3, _, hg => rw [n3, hg]; rfl
set_option maxHeartbeats 1000000 in
theorem copyNodes_any (A : Option Addr) (l : List Ptr.Nd) (c : Nat) (w : World) (hr : RdN w A l) (hc : A = none → c = 0) (hlc : l.length ≤ c) (hl : l.length ≤ 300) :
    Calls Tryz.prog 12 #[.slice A l.length c] w fun e w' => ∃ v, e = .returned v ∧ w'.ownsRow w.heap.size 47 4 v l.length (ndsC l) ∧ Below w.heap.size w w' := by
  obtain ⟨i0', hi', hz0, hz1, hz2⟩ := info_parts infoN
  cases A with
  | none =>
    have hc0 := hc rfl
    have hl0 : l = [] := List.length_eq_zero_iff.1 (by omega)
    subst hl0 hc0
    clear hr hc
    go_enter Tryz.func12, Tryz.ntmps12
    go_wp2_with (at_builtin; refine wpList_append_own_none rfl (.tmp 4) (.tmp 5) 22 rfl w.heap.size 47 i0' 4 Tryz.underlying22 hi' (.slice none 0 0) 0 [] (by rfl) (World.ownsRow_nil _ _ _ _) (by rfl) ?_)
    go_ret
    exact ⟨_, rfl, World.ownsRow_nil _ _ _ _, Below.refl _ _⟩
  | some ad =>
    obtain ⟨b, off, fld⟩ := ad
    have hcell : ∀ j u, (ndsC l)[j]? = some u → w.cell? ((⟨b, off, fld⟩ : Addr).add j) = some u := by
      intro j u hu
      exact rdn_cells hr j u hu
    clear hr hc
    go_enter Tryz.func12, Tryz.ntmps12
    go_wp2_with (at_builtin; refine wpList_append_own _ rfl (.tmp 4) (.tmp 5) 22 rfl w.heap.size 47 i0' (.agg #[.int .u8 0, .string ⟨#[]⟩, .string ⟨#[]⟩, .int .i64 0]) 4 48 Tryz.underlying22 hi' hz0 hz1 hz2 rfl (by decide) (.slice none 0 0) 0 [] (by rfl) (World.ownsRow_nil _ _ _ _) ⟨b, off, fld⟩ l.length c (ndsC l) (by rfl) (ndsC_length l) hcell (ndsC_one l) (by unfold maxLen; omega) (by omega) (Nat.le_refl _) ?_; intro v' w5 ho5 hg5 _; have O5 := Kept.mk ho5; have B5 := Kept.mk (Below.grown (Below.refl w.heap.size w) hg5 (Nat.le_refl _) (fun q hq => by cases hq)); clear ho5 hg5)
    go_ret
    exact ⟨_, rfl, by have h := O5.out; rwa [Nat.zero_add, List.nil_append] at h, B5.out⟩
theorem far_later {w1 w2 : World} {B B' n m s s' : Nat} {e e' : TypeId} {u v : Value} {xs ys : List Value} (hu : w1.ownsRow B e s u n xs) (hv : w2.ownsRow B' e' s' v m ys) (hB : w1.heap.size ≤ B') : Far u v := by
  unfold Far
  cases h : u.ownBlock with
  | none => exact .inl rfl
  | some g =>
    refine .inr fun e => ?_
    have h1 := (hu.lt g h).2
    have h2 := (hv.lt g e.symm).1
    omega
theorem ite_len {c : Prop} [Decidable c] {a b : List Nat} {n : Nat} (h1 : a.length ≤ n) (h2 : b.length ≤ n) : (if c then a else b).length ≤ n := by
  by_cases h : c
  · rw [if_pos h]; exact h1
  · rw [if_neg h]; exact h2
theorem goB_le (l : List Ptr.Nd) (a X : Int) : (goB l a X).length ≤ l.length + 1 := by
  unfold goB
  split
  · rename_i h
    obtain ⟨i, rfl, hi⟩ := place_in h
    rw [Int.toNat_natCast]
    obtain ⟨s1, s2, _, _⟩ := Ptr.endN_spec l i hi
    have k1 := fun at' => Ptr.kidsL_le l i at' (i + 1) (Ptr.endN l i)
    have k2 := k1 true
    have k1 := k1 false
    have u := upC_len l i (Ptr.par l i)
    have t1 := stretchL_le l (i + 1) (Ptr.endN l i)
    have t2 := stretchL_le l (Ptr.endN l i) l.length
    have t3 := stretchL_le l 0 i
    have f1 := List.length_filter_le (fun x => !sibDel l i x) (stretchL l (Ptr.endN l i) l.length)
    have f2 := List.length_filter_le (fun x => !sibDel l i x) (stretchL l 0 i)
    have f3 := List.length_filter_le (fun x => !decide (x ∈ Ptr.upL l i)) (stretchL l 0 i)
    have u2 : (Ptr.upL l i).length ≤ i := u
    unfold goL
    repeat' apply ite_len
    all_goals first | omega | (simp only [List.length_cons, List.length_reverse, List.length_nil]; omega) | (simp only [List.length_cons, List.length_nil]; omega) | simp
  · simp
theorem kidsB_le' (l : List Ptr.Nd) (a : Int) (at' : Bool) : (kidsB l a at').length ≤ l.length := by
  unfold kidsB
  split
  · rename_i h
    obtain ⟨i, rfl, hi⟩ := place_in h
    have h1 := Ptr.kidsL_le l i at' (i + 1) (Ptr.endN l i)
    have h2 := (Ptr.endN_spec l i hi).2.1
    rw [Int.toNat_natCast]
    omega
  · simp
theorem partB_le' (l : List Ptr.Nd) (a : Int) : (partB l a).length ≤ l.length := by
  unfold partB
  split
  · rename_i h
    obtain ⟨i, rfl, hi⟩ := place_in h
    have h2 := (Ptr.endN_spec l i hi).2.1
    rw [Int.toNat_natCast, partN_len]
    omega
  · simp
set_option maxRecDepth 100000 in
set_option maxHeartbeats 4000000 in
theorem law_apart (A : Option Addr) (l : List Ptr.Nd) (c : Nat) (a : Int) (w : World) (hr : RdN w A l) (hc : A = none → c = 0) (hlc : l.length ≤ c) (hp : FitP l) (hs : ∀ i, (Ptr.val l i).length ≤ 140737488355328) (hE : TEnv w) :
    Calls Tryz.prog 4 #[.slice A l.length c, .int .i64 a] w fun e w' => e = .returned (.bool true) ∧ Below w.heap.size w w' := by
  have CA := Kept.mk (awake_any w hE)
  by_cases hl : l.length ≤ 300
  · have b1 : ¬ (300 : Int) < (l.length : Int) := by omega
    have HR := Kept.mk hr; have HE := Kept.mk hE
    have CC := Kept.mk (fun wx hx => copyNodes_any A l c wx hx hc hlc hl)
    have lP := partB_le' l a
    have lK := kidsB_le' l a false
    have CP := Kept.mk (fun A' c' wx hx hc' hy => Part_any A' l c' a wx hx (by omega) hc' hp hy)
    have CM := Kept.mk (fun A' c' wx hx => merge_own A' l c' wx hx hl hs)
    have CK := Kept.mk (fun wx hx hy => Kids_any A l c a wx hx (by omega) hp hy)
    have l1 := goB_le l a 1; have l2 := goB_le l a 2; have l8 := goB_le l a 8
    have CG := Kept.mk (fun X wx hx hy => go_any A l c a X wx hx (by omega) hp hy)
    generalize partB l a = PB at CP lP
    generalize kidsB l a false = KB at CK lK
    clear hr hc hlc hp hs hE
    go_enter Tryz.func4, Tryz.ntmps4
    go_wp2_with (fail)
    refine CA.out.mono ?_; rintro e w1 ⟨rfl, hb1⟩
    have B1 := Kept.mk hb1; clear hb1
    go_wp2_with (fail)
    refine (CC.out _ (HR.out.below B1.out)).mono ?_; rintro e w2 ⟨v0, rfl, ho, hb⟩
    obtain ⟨A0, c0, rfl, hlc0⟩ := own_slice ho
    have O0 := Kept.mk ho
    have R0 := Kept.mk (rdn_of_own ho)
    have B2 := Kept.mk (B1.out.trans (hb.mono B1.out.size)); clear ho hb
    go_wp2_with (fail)
    refine (CP.out _ _ _ R0.out hlc0 (HE.out.below B2.out)).mono ?_; rintro e w3 ⟨v1, rfl, ho, hb⟩
    obtain ⟨A1, c1, rfl, _⟩ := own_slice ho
    have O1 := Kept.mk ho
    have F01 := Kept.mk (far_later O0.out ho (Nat.le_refl _))
    have O0b := Kept.mk (own_below O0.out hb)
    have R0b := Kept.mk (R0.out.below hb)
    have B3 := Kept.mk (B2.out.trans (hb.mono B2.out.size)); clear ho hb
    go_wp2_with (fail)
    refine (CM.out _ _ _ R0b.out).mono ?_; rintro e w4 ⟨v2, M, rfl, hM, ho, hb⟩
    obtain ⟨A2, c2, rfl, _⟩ := own_slice ho
    have O2 := Kept.mk ho
    have F02 := Kept.mk (far_later O0b.out ho (Nat.le_refl _))
    have F12 := Kept.mk (far_later O1.out ho (Nat.le_refl _))
    have O0c := Kept.mk (own_below O0b.out hb)
    have O1c := Kept.mk (own_below O1.out hb)
    have B4 := Kept.mk (B3.out.trans (hb.mono B3.out.size)); clear ho hb
    go_wp2_with (fail)
    have A5 : Kept (Below w4.heap.size w4 (w4.alloc (.cells #[.slice A0 l.length c0, .slice A1 PB.length c1, .slice A2 M.length c2] 22))) := ⟨(Below.refl _ _).alloc (Nat.le_refl _) _⟩
    have B5 := Kept.mk (B4.out.trans (A5.out.mono B4.out.size))
    have hns : ∀ k : Nat, (if k = 0 then l.length else if k = 1 then PB.length else M.length) ≤ 100000 := fun k => by
      repeat' split
      all_goals omega
    have hA := apartNodesList_any w.heap.size 3 w4.heap.size 3 [.slice A0 l.length c0, .slice A1 PB.length c1, .slice A2 M.length c2] (fun j => if j = 0 then l.length else if j = 1 then PB.length else M.length) (fun j => if j = 0 then ndsC l else if j = 1 then ndsC PB else ndsC M) (w4.alloc (.cells #[.slice A0 l.length c0, .slice A1 PB.length c1, .slice A2 M.length c2] 22)) (by omega) (by omega) rfl hns B5.out.size
      (fun j v hv => by
        rw [World.cell?_alloc_new, ← Array.getElem?_toList]
        exact hv)
      (fun j v hv => by
        match j, hv with
        | 0, hv => cases hv; exact own_below (own_lowM O0c.out B1.out.size) A5.out
        | 1, hv => cases hv; exact own_below (own_lowM O1c.out B2.out.size) A5.out
        | 2, hv => cases hv; exact own_below (own_lowM O2.out B3.out.size) A5.out
        | j + 3, hv => simp at hv)
      (fun j k u v hjk hu hv => by
        match j, k, hu, hv, hjk with
        | 0, 0, _, _, h => exact absurd rfl h
        | 1, 1, _, _, h => exact absurd rfl h
        | 2, 2, _, _, h => exact absurd rfl h
        | 0, 1, hu, hv, _ => cases hu; cases hv; exact F01.out
        | 1, 0, hu, hv, _ => cases hu; cases hv; exact F01.out.symm
        | 0, 2, hu, hv, _ => cases hu; cases hv; exact F02.out
        | 2, 0, hu, hv, _ => cases hu; cases hv; exact F02.out.symm
        | 1, 2, hu, hv, _ => cases hu; cases hv; exact F12.out
        | 2, 1, hu, hv, _ => cases hu; cases hv; exact F12.out.symm
        | 0, k + 3, _, hv, _ => simp at hv
        | 1, k + 3, _, hv, _ => simp at hv
        | 2, k + 3, _, hv, _ => simp at hv
        | j + 3, _, hu, _, _ => simp at hu)
    refine hA.mono ?_; rintro e w6 ⟨rfl, hb⟩
    have B6 := Kept.mk (B5.out.trans hb)
    clear hb hA O0 R0 O1 F01 O0b R0b O2 F02 F12 O0c O1c A5
    go_wp2_with (fail)
    refine (CK.out _ (HR.out.below B6.out) (HE.out.below B6.out)).mono ?_; rintro e w7 ⟨x0, rfl, ho, hb⟩
    obtain ⟨E0, k0, rfl, _⟩ := own_slice ho
    have P0 := Kept.mk ho
    have B7 := Kept.mk (B6.out.trans (hb.mono B6.out.size)); clear ho hb
    go_wp2_with (fail)
    refine (CG.out 1 _ (HR.out.below B7.out) (HE.out.below B7.out)).mono ?_; rintro e w8 ⟨x1, rfl, ho, hb⟩
    obtain ⟨E1, k1, rfl, _⟩ := own_slice ho
    have P1 := Kept.mk ho
    have G01 := Kept.mk (far_later P0.out ho (Nat.le_refl _))
    have P0b := Kept.mk (own_below P0.out hb)
    have B8 := Kept.mk (B7.out.trans (hb.mono B7.out.size)); clear ho hb
    go_wp2_with (fail)
    refine (CG.out 2 _ (HR.out.below B8.out) (HE.out.below B8.out)).mono ?_; rintro e w9 ⟨x2, rfl, ho, hb⟩
    obtain ⟨E2, k2, rfl, _⟩ := own_slice ho
    have P2 := Kept.mk ho
    have G02 := Kept.mk (far_later P0b.out ho (Nat.le_refl _))
    have G12 := Kept.mk (far_later P1.out ho (Nat.le_refl _))
    have P0c := Kept.mk (own_below P0b.out hb)
    have P1c := Kept.mk (own_below P1.out hb)
    have B9 := Kept.mk (B8.out.trans (hb.mono B8.out.size)); clear ho hb
    go_wp2_with (fail)
    refine (CG.out 8 _ (HR.out.below B9.out) (HE.out.below B9.out)).mono ?_; rintro e w10 ⟨x3, rfl, ho, hb⟩
    obtain ⟨E3, k3, rfl, _⟩ := own_slice ho
    have P3 := Kept.mk ho
    have G03 := Kept.mk (far_later P0c.out ho (Nat.le_refl _))
    have G13 := Kept.mk (far_later P1c.out ho (Nat.le_refl _))
    have G23 := Kept.mk (far_later P2.out ho (Nat.le_refl _))
    have P0d := Kept.mk (own_below P0c.out hb)
    have P1d := Kept.mk (own_below P1c.out hb)
    have P2d := Kept.mk (own_below P2.out hb)
    have B10 := Kept.mk (B9.out.trans (hb.mono B9.out.size)); clear ho hb
    go_wp2_with (fail)
    have A11 : Kept (Below w10.heap.size w10 (w10.alloc (.cells #[.slice E0 KB.length k0, .slice E1 (goB l a 1).length k1, .slice E2 (goB l a 2).length k2, .slice E3 (goB l a 8).length k3] 27))) := ⟨(Below.refl _ _).alloc (Nat.le_refl _) _⟩
    have B11 := Kept.mk (B10.out.trans (A11.out.mono B10.out.size))
    have hns : ∀ k : Nat, (if k = 0 then KB.length else (goB l a (if k = 1 then 1 else if k = 2 then 2 else 8)).length) ≤ 100000 := fun k => by
      have := goB_le l a (if k = 1 then 1 else if k = 2 then 2 else 8)
      split
      · omega
      · omega
    have hA := Flti.apartIntsList_any w.heap.size 4 w10.heap.size 4 [.slice E0 KB.length k0, .slice E1 (goB l a 1).length k1, .slice E2 (goB l a 2).length k2, .slice E3 (goB l a 8).length k3] (fun j => if j = 0 then KB.length else (goB l a (if j = 1 then 1 else if j = 2 then 2 else 8)).length) (fun j => if j = 0 then ic KB else ic (goB l a (if j = 1 then 1 else if j = 2 then 2 else 8))) (w10.alloc (.cells #[.slice E0 KB.length k0, .slice E1 (goB l a 1).length k1, .slice E2 (goB l a 2).length k2, .slice E3 (goB l a 8).length k3] 27)) (by omega) (by omega) rfl hns B11.out.size
      (fun j v hv => by
        rw [World.cell?_alloc_new, ← Array.getElem?_toList]
        exact hv)
      (fun j v hv => by
        match j, hv with
        | 0, hv => cases hv; exact own_below (own_lowM P0d.out B6.out.size) A11.out
        | 1, hv => cases hv; exact own_below (own_lowM P1d.out B7.out.size) A11.out
        | 2, hv => cases hv; exact own_below (own_lowM P2d.out B8.out.size) A11.out
        | 3, hv => cases hv; exact own_below (own_lowM P3.out B9.out.size) A11.out
        | j + 4, hv => simp at hv)
      (fun j k u v hjk hu hv => by
        match j, k, hu, hv, hjk with
        | 0, 0, _, _, h => exact absurd rfl h
        | 1, 1, _, _, h => exact absurd rfl h
        | 2, 2, _, _, h => exact absurd rfl h
        | 3, 3, _, _, h => exact absurd rfl h
        | 0, 1, hu, hv, _ => cases hu; cases hv; exact G01.out
        | 1, 0, hu, hv, _ => cases hu; cases hv; exact G01.out.symm
        | 0, 2, hu, hv, _ => cases hu; cases hv; exact G02.out
        | 2, 0, hu, hv, _ => cases hu; cases hv; exact G02.out.symm
        | 0, 3, hu, hv, _ => cases hu; cases hv; exact G03.out
        | 3, 0, hu, hv, _ => cases hu; cases hv; exact G03.out.symm
        | 1, 2, hu, hv, _ => cases hu; cases hv; exact G12.out
        | 2, 1, hu, hv, _ => cases hu; cases hv; exact G12.out.symm
        | 1, 3, hu, hv, _ => cases hu; cases hv; exact G13.out
        | 3, 1, hu, hv, _ => cases hu; cases hv; exact G13.out.symm
        | 2, 3, hu, hv, _ => cases hu; cases hv; exact G23.out
        | 3, 2, hu, hv, _ => cases hu; cases hv; exact G23.out.symm
        | 0, k + 4, _, hv, _ => simp at hv
        | 1, k + 4, _, hv, _ => simp at hv
        | 2, k + 4, _, hv, _ => simp at hv
        | 3, k + 4, _, hv, _ => simp at hv
        | j + 4, _, hu, _, _ => simp at hu)
    refine hA.mono ?_; rintro e w12 ⟨rfl, hb⟩
    have B12 := Kept.mk (B11.out.trans hb)
    clear hb hA
    go_wp2_with (fail)
    go_ret
    exact ⟨rfl, B12.out⟩
  · have b1 : (300 : Int) < (l.length : Int) := by omega
    clear hr hc hlc hp hs hE
    go_enter Tryz.func4, Tryz.ntmps4
    go_wp2_with (go_at_call 6; refine CA.out.mono ?_; rintro e w1 ⟨rfl, hb1⟩)
    go_ret
    exact ⟨rfl, hb1⟩
end Go.Proofs.YtkcpfjhdbbapiaaGreatDoor.Wtr
