/- slices.DeleteFunc and slices.Reverse at rows of numbers of the call's own, out of the shelf's contracts (chapter 06). The walks over the predicates that Go hands to DeleteFunc, and over slices.Contains (chapter 06). The walks over Go, axis by axis (chapter 06). Go along the axes whose regions draw their order (chapter 06). Plain: the document's rows of Go (subtree, behind, ahead, siblings) are the program's (chapter 06). The walk over the document's Go (chapter 06). The walk over the statement TreeGoes (chapter 06). -/
import Derived.Shelf.SlicesE.DeleteFunc
import Derived.Shelf.Slices.Reverse
import Derived.Lib.OwnBridge
import Derived.Test.YtkcpfjhdbbapiaaGreatDoorTreeSeq
import Derived.Test.YtkcpfjhdbbapiaaGreatDoorShelfRev
import Derived.Test.YtkcpfjhdbbapiaaGreatDoorTreePart
import Derived.BigQuiet
import Derived.Laws.OwnMore
import Derived.Laws.AppendOwnNone
import Derived.Deep.RegionHeld3
import Derived.Test.YtkcpfjhdbbapiaaGreatDoorTreeRef
import Derived.Maps.AppendAt
import Derived.Deep.QuietTactic
import Derived.Test.YtkcpfjhdbbapiaaGreatDoorTreeAwake
namespace Go.Proofs.YtkcpfjhdbbapiaaGreatDoor.Wtr
open Go Go.RowKit Go.Shelf Go.Sort Go.Proofs.YtkcpfjhdbbapiaaGreatDoor.Kb Go.Proofs.YtkcpfjhdbbapiaaGreatDoor.Flt

def del_ren : Go.Shelf.Ren := ⟨fun | 6 => 61 | 10 => 39 | n => n, fun | 0 => 0 | 3 => 3 | 4 => 4 | 22 => 27 | 23 => 3 | 25 => 49 | n => n, fun n => n⟩
theorem del_lays : Go.Proofs.SlLaysH.n10 Tryz.prog del_ren := {
  mixed := by kernel_rfl
  f6 := ⟨"slices.IndexFunc[[]int,int]", by decide, Tryz.func61.trans (congrArg some (by kernel_rfl))⟩
  f10 := ⟨"slices.DeleteFunc[[]int,int]", by decide, Tryz.func39.trans (congrArg some (by kernel_rfl))⟩
  t0 := Tryz.underlying0
  a0 := Tryz.isAgg0
  z0 := Tryz.sizeOf0
  v0 := Tryz.zeroValue0
  t3 := Tryz.underlying3
  a3 := Tryz.isAgg3
  z3 := Tryz.sizeOf3
  v3 := Tryz.zeroValue3
  t4 := Tryz.underlying4
  a4 := Tryz.isAgg4
  z4 := Tryz.sizeOf4
  v4 := Tryz.zeroValue4
  t22 := Tryz.underlying27
  a22 := Tryz.isAgg27
  z22 := Tryz.sizeOf27
  v22 := Tryz.zeroValue27
  a23 := Tryz.isAgg3
  z23 := Tryz.sizeOf3
  t25 := Tryz.underlying49
  a25 := Tryz.isAgg49
  z25 := Tryz.sizeOf49
  v25 := Tryz.zeroValue49 }
/-- places below a bound -/
abbrev Fin' (n : Nat) := { x : Nat // x < n }
def encF (n : Nat) (x : Fin' n) : Value := .int .i64 (x.1 : Int)
theorem lift_list {n : Nat} {L : List Nat} (h : ∀ x ∈ L, x < n) : ∃ M : List (Fin' n), M.map (·.1) = L := ⟨L.pmap (fun x hx => ⟨x, hx⟩) h, by
  rw [List.map_pmap]
  simp⟩
theorem enc_ic {n : Nat} (M : List (Fin' n)) : M.map (encF n) = ic (M.map (·.1)) := by
  unfold ic encF
  rw [List.map_map]
  rfl
/-- what a predicate that reads cells below B only is asked: it tells p, and does no more than draw -/
def Pred (B n fn : Nat) (lb : Array Value) (p : Nat → Bool) (w : World) : Prop :=
  ∀ (x : Nat) (W : World), x < n → (∀ a : Addr, a.block < B → W.cell? a = w.cell? a) → Calls Tryz.prog fn (#[.int .i64 (x : Int)] ++ lb) W fun e w' => e = .returned (.bool (p x)) ∧ ∃ q, w' = W.drewN q
set_option maxRecDepth 100000 in
/-- slices.DeleteFunc of a row of the call's own -/
theorem delete_own (n : Nat) (hn : 0 < n) (fn : Nat) (lb : Array Value) (eg : ∀ args w, (callFunc fn args).run Tryz.prog w = .ok (.enter fn args) w) (p : Nat → Bool) (L : List Nat) (hL : ∀ x ∈ L, x < n) (g c B : Nat) (w : World)
    (hO : w.ownsRow B 3 1 (.slice (some ⟨g, 0, none⟩) L.length c) L.length (ic L)) (hp : Pred B n fn lb p w) :
    Calls Tryz.prog 39 #[.slice (some ⟨g, 0, none⟩) L.length c, .func (.func fn) #[] lb] w fun e w' => ∃ v, e = .returned v ∧ w'.ownsRow B 3 1 v (L.filter fun x => !p x).length (ic (L.filter fun x => !p x)) ∧ Below B w w' := by
  obtain ⟨M, rfl⟩ := lift_list hL
  have i0 : Inhabited (Fin' n) := ⟨⟨0, hn⟩⟩
  have hO2 : w.ownsRow B 3 1 (.slice (some ⟨g, 0, none⟩) (M.map (·.1)).length c) (M.map (·.1)).length (M.map (encF n)) := by rw [enc_ic]; exact hO
  obtain ⟨g', c', hv, hB, hg, hnc, hcm, hl, hH⟩ := Lib.holds_of_ownsRow hO2 (by simp)
  obtain ⟨rfl, rfl⟩ : g = g' ∧ c = c' := by simpa using hv
  have hM : M.toArray.size = (M.map (·.1)).length := by simp
  have hcon := AnyE.slices_DeleteFunc del_lays (encF n) (fun _ => rfl) (fun x => p x.1) fn lb eg ⟨0, hn⟩ Tryz.zeroValue3 g 0 c M.toArray w
    (fun W x hb => hp x.1 W x.2 (fun a ha => hb.cell (p := a) (by omega)))
    (fun m os dk x _ => hp x.1 _ x.2 (fun a ha => by
      unfold sortWorld
      rw [cell?_grow _ _ _ (by show a.block < (putRow _ _ _ _ _).heap.size; rw [size_putRow]; show a.block < w.heap.size; omega), cell?_putRow_other _ _ g 0 _ _ (Or.inl (by omega))]
      rfl))
    hH (by rw [hM]; unfold maxLen at hcm; omega) (by rw [hM]; exact hnc)
  rw [hM] at hcon
  refine hcon.mono ?_
  rintro e w' ⟨rfl, q, rfl⟩
  have hfl : ((M.toArray.toList.filter fun x => !p x.1)).map (·.1) = (M.map (·.1)).filter fun x => !p x := by
    rw [List.filter_map]
    rfl
  have hlen : (M.toArray.toList.filter fun x => !p x.1).length ≤ (M.map (·.1)).length := by
    rw [List.length_map]
    exact List.length_filter_le _ _
  refine ⟨_, rfl, ?_, Lib.below_putRow (Below.refl _ _) hB⟩
  have hrow := Lib.ownsRow_putRow (q := q) (k := (M.toArray.toList.filter fun x => !p x.1).length) hO2 (ys := (M.toArray.toList.filter fun x => !p x.1) ++ List.replicate ((M.map (·.1)).length - (M.toArray.toList.filter fun x => !p x.1).length) ⟨0, hn⟩) (by rw [List.length_append, List.length_replicate]; omega) hlen
  rw [List.take_left, enc_ic, hfl] at hrow
  have hl2 : ((M.map (·.1)).filter fun x => !p x).length = (M.toArray.toList.filter fun x => !p x.1).length := by rw [← hfl, List.length_map]
  rw [hl2]
  exact hrow
set_option maxRecDepth 100000 in
/-- slices.Reverse of a row of the call's own -/
theorem reverse_own (L : List Nat) (g c B : Nat) (w : World) (hO : w.ownsRow B 3 1 (.slice (some ⟨g, 0, none⟩) L.length c) L.length (ic L)) :
    Calls Tryz.prog 40 #[.slice (some ⟨g, 0, none⟩) L.length c] w fun e w' => e = .returned (.tuple #[]) ∧ w'.ownsRow B 3 1 (.slice (some ⟨g, 0, none⟩) L.length c) L.length (ic L.reverse) ∧ Below B w w' := by
  have e1 : ∀ M : List Nat, ic M = (M.map fun (x : Nat) => (x : Int)).map (Value.int .i64) := fun M => by unfold ic; rw [List.map_map]; rfl
  rw [e1] at hO
  obtain ⟨g', c', hv, hB, hg, hnc, hcm, hl, hH⟩ := Lib.holds_of_ownsRow hO (by simp)
  obtain ⟨rfl, rfl⟩ : g = g' ∧ c = c' := by simpa using hv
  have hcon := Any.slices_Reverse_int Tryz.lays112 g 0 c (L.map fun (x : Nat) => (x : Int)) w hH (by rw [hl]; unfold maxLen at hcm; omega)
  rw [hl] at hcon
  refine hcon.mono ?_
  rintro e w' ⟨rfl, q, rfl⟩
  have hrow := Lib.ownsRow_putRow (q := q) (k := L.length) hO (ys := (L.map fun (x : Nat) => (x : Int)).reverse) (by simp) (Nat.le_refl _)
  rw [List.take_of_length_le (by simp), ← List.map_reverse, ← e1] at hrow
  exact ⟨rfl, by rw [← List.map_reverse]; exact hrow, Lib.below_putRow (Below.refl _ _) hB⟩
end Go.Proofs.YtkcpfjhdbbapiaaGreatDoor.Wtr
namespace Go.Proofs.YtkcpfjhdbbapiaaGreatDoor.Wtr
open Go Go.RowKit Go.Shelf Go.Proofs.YtkcpfjhdbbapiaaGreatDoor.Kb Go.Proofs.YtkcpfjhdbbapiaaGreatDoor.Flt

theorem rdn_same {w W : World} {b off B : Nat} {l : List Ptr.Nd} (h : RdN w (some ⟨b, off, none⟩) l) (hb : b < B) (hW : ∀ a : Addr, a.block < B → W.cell? a = w.cell? a) : RdN W (some ⟨b, off, none⟩) l := by
  intro hne
  obtain ⟨b', off', e, hc⟩ := h hne
  cases e
  exact ⟨b, off, rfl, fun j x hx => by
    obtain ⟨c0, c1, c2, c3⟩ := hc j x hx
    exact ⟨(hW ⟨b, _, none⟩ hb).trans c0, (hW ⟨b, _, none⟩ hb).trans c1, (hW ⟨b, _, none⟩ hb).trans c2, (hW ⟨b, _, none⟩ hb).trans c3⟩⟩
/-- is a place no sibling's? -/
def sibDel (l : List Ptr.Nd) (i x : Nat) : Bool := (Ptr.kin l i == 3) || (Ptr.par l x != Ptr.par l i)
set_option maxHeartbeats 1000000 in
theorem sib_pred (b off c i Bt Ba B : Nat) (l : List Ptr.Nd) (w : World) (hr : RdN w (some ⟨b, off, none⟩) l) (hb : b < B) (hBt : Bt < B) (hBa : Ba < B) (cT : w.cell? ⟨Bt, 0, none⟩ = some (.slice (some ⟨b, off, none⟩) l.length c)) (cA : w.cell? ⟨Ba, 0, none⟩ = some (.int .i64 (i : Int))) (hi : i < l.length) :
    Pred B l.length 34 #[.pointer (some ⟨Bt, 0, none⟩), .pointer (some ⟨Ba, 0, none⟩)] (sibDel l i) w := by
  intro x W hx hW
  have hr' := rdn_same hr hb hW
  have cT' := (hW ⟨Bt, 0, none⟩ hBt).trans cT
  have cA' := (hW ⟨Ba, 0, none⟩ hBa).trans cA
  obtain ⟨c0, _, _, c3⟩ := hr'.cells hi
  obtain ⟨_, _, _, d3⟩ := hr'.cells hx
  simp only at c0 c3 d3
  have e3 : (((Ptr.kin l i : Nat) : Int) == 3) = (Ptr.kin l i == 3) := beq_i _ 3
  have i0 : (0 : Int) ≤ (i : Int) := by omega
  have i1 : (i : Int) < (l.length : Int) := by omega
  have x0 : (0 : Int) ≤ (x : Int) := by omega
  have x1 : (x : Int) < (l.length : Int) := by omega
  have hS : Kept (sibDel l i x = ((Ptr.kin l i == 3) || (Ptr.par l x != Ptr.par l i))) := ⟨rfl⟩
  generalize sibDel l i x = S at hS ⊢
  generalize Ptr.kin l i = K at c0 e3 hS
  generalize (K == 3) = Z at e3 hS
  generalize Ptr.par l i = P at c3 hS
  generalize Ptr.par l x = Q at d3 hS
  clear hr hr' hW cT cA
  show Calls Tryz.prog 34 #[.int .i64 (x : Int), .pointer (some ⟨Bt, 0, none⟩), .pointer (some ⟨Ba, 0, none⟩)] W _
  cases Z with
  | true =>
    go_enter Tryz.func34, Tryz.ntmps34
    go_wp2
    go_quiet (fail)
    go_wp2
    go_ret
    exact ⟨ret_bool (by rw [hS.out]; rfl), _, rfl⟩
  | false =>
    go_enter Tryz.func34, Tryz.ntmps34
    go_wp2
    go_quiet (fail)
    go_wp2
    go_ret
    exact ⟨ret_bool (by rw [hS.out]; rfl), _, rfl⟩
def IdxR (L : List Nat) (x : Nat) (w : World) (e : Ending) (w' : World) : Prop := ∃ z : Int, e = .returned (.int .i64 z) ∧ (0 ≤ z ↔ x ∈ L) ∧ w = w'
/-- the cells of a row of numbers -/
def RdI (w : World) (A : Option Addr) (L : List Nat) : Prop := L ≠ [] → ∃ b, A = some ⟨b, 0, none⟩ ∧ ∀ j x, L[j]? = some x → w.cell? ⟨b, j, none⟩ = some (.int .i64 ((x : Nat) : Int))
theorem rdi_of_own {w : World} {base n c : Nat} {A : Option Addr} {L : List Nat} (h : w.ownsRow base 3 1 (.slice A n c) n (ic L)) : RdI w A L := by
  intro hne
  have hl := h.1
  rw [ic_length] at hl
  have hp := List.length_pos_iff.2 hne
  obtain ⟨g, c', hv, _⟩ := own_block h (by omega)
  obtain ⟨rfl, rfl⟩ : A = some ⟨g, 0, none⟩ ∧ c = c' := by simpa using hv
  exact ⟨g, rfl, fun j x hx => own_at h j _ (by unfold ic; rw [List.getElem?_map, hx]; rfl)⟩
set_option maxHeartbeats 1000000 in
theorem index_any (L : List Nat) (A : Option Addr) (c x : Nat) (w : World) (h : RdI w A L) (hl : L.length ≤ 100000) :
    Calls Tryz.prog 62 #[.slice A L.length c, .int .i64 x] w (IdxR L x w) := by
  have H := Kept.mk h
  clear h
  go_enter Tryz.func62, Tryz.ntmps62
  go_wp2
  go_loop [5, 8] (fun _ i => ∃ k : Nat, k ≤ L.length ∧ i = .int .i64 (k : Int) ∧ Kept (x ∉ L.take k)) (fun _ i => L.length - (intOf i).toNat)
  case atStart => exact ⟨0, by omega, rfl, ⟨by simp⟩⟩
  case round =>
    obtain ⟨k, hk, rfl, HN⟩ := hrel
    have k0 : (0 : Int) ≤ (k : Int) := by omega
    by_cases hlt : k < L.length
    · have k1 : (k : Int) < (L.length : Int) := by omega
      obtain ⟨b, rfl, hc⟩ := H.out (by intro e; subst e; simp at hlt)
      have hg := hc k _ (List.getElem?_eq_getElem hlt)
      have hmem : L[k]'hlt ∈ L := List.getElem_mem _
      have htk : L.take (k + 1) = L.take k ++ [L[k]'hlt] := List.take_succ_eq_append_getElem hlt
      generalize L[k]'hlt = y at hg hmem htk
      have HT := Kept.mk htk
      clear htk hc
      by_cases e : x = y
      · have e2 : ((x : Int) == (y : Int)) = true := by simp; omega
        have hx : Kept (x ∈ L) := ⟨by rw [e]; exact hmem⟩
        clear e hmem
        go_wp2
        go_ret
        exact ⟨_, rfl, ⟨fun _ => hx.out, fun _ => by omega⟩, rfl⟩
      · have e2 : ((x : Int) == (y : Int)) = false := by simp; omega
        have hx : Kept (x ∉ L.take (k + 1)) := ⟨by rw [HT.out]; simp only [List.mem_append, List.mem_singleton, not_or]; exact ⟨HN.out, e⟩⟩
        clear e hmem
        go_wp2
        go_round
        case rel => exact ⟨k + 1, by omega, by go_num, hx⟩
        case measure => simp [intOf]; omega
    · obtain rfl : k = L.length := by omega
      have hx : Kept (x ∉ L) := ⟨by have := HN.out; rwa [List.take_length] at this⟩
      go_wp2
      go_ret
      exact ⟨-1, rfl, ⟨fun h => absurd h (by omega), fun h => absurd h hx.out⟩, rfl⟩
set_option maxHeartbeats 1000000 in
theorem contains_any (L : List Nat) (A : Option Addr) (c x : Nat) (w : World) (h : RdI w A L) (hl : L.length ≤ 100000) :
    Calls Tryz.prog 42 #[.slice A L.length c, .int .i64 x] w fun e w' => e = .returned (.bool (decide (x ∈ L))) ∧ w = w' := by
  have CI := Kept.mk (index_any L A c x w h hl)
  clear h
  go_enter Tryz.func42, Tryz.ntmps42
  go_wp2_with (go_at_call 62; refine CI.out.mono ?_; rintro e w' ⟨z, rfl, hz, rfl⟩; have HZ := Kept.mk hz; clear hz)
  go_ret
  exact ⟨ret_bool (by rw [decide_eq_decide]; exact HZ.out), rfl⟩
set_option maxHeartbeats 1000000 in
theorem up_pred (L : List Nat) (A : Option Addr) (c n Bu B : Nat) (w : World) (h : ∀ W : World, (∀ a : Addr, a.block < B → W.cell? a = w.cell? a) → RdI W A L) (hl : L.length ≤ 100000) (hBu : Bu < B) (cU : w.cell? ⟨Bu, 0, none⟩ = some (.slice A L.length c)) :
    Pred B n 41 #[.pointer (some ⟨Bu, 0, none⟩)] (fun x => decide (x ∈ L)) w := by
  intro x W _ hW
  have CC := Kept.mk (contains_any L A c x W (h W hW) hl)
  have cU' := (hW ⟨Bu, 0, none⟩ hBu).trans cU
  clear hW h cU
  show Calls Tryz.prog 41 #[.int .i64 (x : Int), .pointer (some ⟨Bu, 0, none⟩)] W _
  go_enter Tryz.func41, Tryz.ntmps41
  go_wp2_with (go_at_call 42; refine CC.out.mono ?_; rintro e w' ⟨rfl, rfl⟩)
  go_ret
  exact ⟨rfl, 0, rfl⟩
set_option maxHeartbeats 1000000 in
theorem delete_nil (fn : Nat) (lb : Array Value) (w : World) :
    Calls Tryz.prog 39 #[.slice none 0 0, .func (.func fn) #[] lb] w fun e w' => e = .returned (.slice none 0 0) ∧ w = w' := by
  have cI : ∀ wx, Calls Tryz.prog 61 #[.slice none 0 0, .func (.func fn) #[] lb] wx fun e w' => e = .returned (.int .i64 (-1)) ∧ wx = w' := fun wx => by
    go_enter Tryz.func61, Tryz.ntmps61
    go_wp2
    go_loop [5, 8] (fun _ i => i = .int .i64 0) (fun _ _ => 0)
    case atStart => rfl
    case round =>
      obtain rfl := hrel
      go_wp2
      go_ret
      exact ⟨rfl, rfl⟩
  have CI := Kept.mk cI
  clear cI
  go_enter Tryz.func39, Tryz.ntmps39
  go_wp2_with (go_at_call 61; refine (CI.out _).mono ?_; rintro e w' ⟨rfl, rfl⟩)
  go_ret
  exact ⟨rfl, rfl⟩
theorem delete_row (n : Nat) (hn : 0 < n) (fn : Nat) (lb : Array Value) (eg : ∀ args w, (callFunc fn args).run Tryz.prog w = .ok (.enter fn args) w) (p : Nat → Bool) (L : List Nat) (hL : ∀ x ∈ L, x < n) (v : Value) (B : Nat) (w : World)
    (hO : w.ownsRow B 3 1 v L.length (ic L)) (hp : Pred B n fn lb p w) :
    Calls Tryz.prog 39 #[v, .func (.func fn) #[] lb] w fun e w' => ∃ v', e = .returned v' ∧ w'.ownsRow B 3 1 v' (L.filter fun x => !p x).length (ic (L.filter fun x => !p x)) ∧ Below B w w' := by
  rcases Joins.ownsRow_forms hO with ⟨rfl, h0⟩ | ⟨g, c, rfl⟩
  · obtain rfl : L = [] := List.length_eq_zero_iff.1 h0
    exact (delete_nil fn lb w).mono fun e w' ⟨he, hw⟩ => ⟨_, he, by subst hw; exact hO, by subst hw; exact Below.refl _ _⟩
  · exact delete_own n hn fn lb eg p L hL g c B w hO hp
theorem reverse_row (L : List Nat) (v : Value) (B : Nat) (w : World) (hO : w.ownsRow B 3 1 v L.length (ic L)) :
    Calls Tryz.prog 40 #[v] w fun e w' => e = .returned (.tuple #[]) ∧ w'.ownsRow B 3 1 v L.reverse.length (ic L.reverse) ∧ Below B w w' := by
  rw [List.length_reverse]
  rcases Joins.ownsRow_forms hO with ⟨rfl, h0⟩ | ⟨g, c, rfl⟩
  · obtain rfl : L = [] := List.length_eq_zero_iff.1 h0
    exact (Any.slices_Reverse_int_empty Tryz.lays112 none 0 w).mono fun e w' ⟨he, hw⟩ => ⟨he, by subst hw; exact hO, by subst hw; exact Below.refl _ _⟩
  · exact reverse_own L g c B w hO
end Go.Proofs.YtkcpfjhdbbapiaaGreatDoor.Wtr
namespace Go.Proofs.YtkcpfjhdbbapiaaGreatDoor.Wtr
open Go Go.RowKit Go.Shelf Go.Proofs.YtkcpfjhdbbapiaaGreatDoor.Kb Go.Proofs.YtkcpfjhdbbapiaaGreatDoor.Flt

/-- where an axis goes from a place -/
def goL (l : List Ptr.Nd) (i : Nat) (X : Int) : List Nat :=
  if X = 1 then Ptr.kidsL l i false (i + 1) (Ptr.endN l i)
  else if X = 9 then Ptr.kidsL l i true (i + 1) (Ptr.endN l i)
  else if X = 10 then [i]
  else if X = 3 then (if 0 ≤ Ptr.par l i then [(Ptr.par l i).toNat] else [])
  else if X = 4 then Ptr.upL l i
  else if X = 12 then i :: Ptr.upL l i
  else if X = 2 then stretchL l (i + 1) (Ptr.endN l i)
  else if X = 11 then i :: stretchL l (i + 1) (Ptr.endN l i)
  else if X = 5 then (stretchL l (Ptr.endN l i) l.length).filter fun x => !sibDel l i x
  else if X = 6 then ((stretchL l 0 i).filter fun x => !sibDel l i x).reverse
  else if X = 7 then stretchL l (Ptr.endN l i) l.length
  else if X = 8 then ((stretchL l 0 i).filter fun x => !decide (x ∈ Ptr.upL l i)).reverse
  else []
theorem own_one (w : World) (z : Nat) : (w.alloc (.cells #[.int .i64 (z : Int)] 3)).ownsRow w.heap.size 3 1 (.slice (some ⟨w.heap.size, 0, none⟩) 1 1) 1 (ic [z]) := by
  have := World.ownsRow_lit (base := w.heap.size) (e := 3) (size := 1) w #[.int .i64 (z : Int)] 1 (Nat.le_refl _) (by unfold maxLen; omega) rfl
  simpa [ic] using this
theorem stretch_mem {l : List Ptr.Nd} {a b x : Nat} (h : x ∈ stretchL l a b) (hb : b ≤ l.length) : x < l.length := by
  unfold stretchL at h
  have := List.mem_range'.1 (List.mem_filter.1 h).1
  omega
theorem blk_lt {w : World} {b off : Nat} {l : List Ptr.Nd} {i : Nat} (h : RdN w (some ⟨b, off, none⟩) l) (hi : i < l.length) : b < w.heap.size := Kb.cell_lt (h.cells hi).1
theorem len_filter (L : List Nat) (p : Nat → Bool) : (L.filter p).length ≤ L.length := List.length_filter_le _ _
set_option maxRecDepth 100000 in
set_option maxHeartbeats 4000000 in
theorem go_1 (A : Option Addr) (l : List Ptr.Nd) (c i : Nat) (w : World) (hr : RdN w A l) (hl : l.length ≤ 100000) (hf : FitP l) (hE : TEnv w) (hi : i < l.length) (hp : placeB l i = true) :
    Calls Tryz.prog 9 #[.slice A l.length c, .int .i64 i, .int .u8 1] w fun e w' => ∃ v, e = .returned v ∧ w'.ownsRow w.heap.size 3 1 v (goL l i 1).length (ic (goL l i 1)) ∧ Below w.heap.size w w' := by
  have hgo : goL l i 1 = Ptr.kidsL l i false (i + 1) (Ptr.endN l i) := rfl
  rw [hgo]
  clear hgo
  have cP := fun wx (hx : Below w.heap.size w wx) => place_any A l c i wx (hr.below hx) hl hf (hE.below hx)
  rw [hp] at cP
  have hrng := (place_rng hp).1
  have cN := fun wx hx => end_any A l c i wx hx hi hl
  rw [endN_same] at cN
  obtain ⟨hn1, hn2, _, _⟩ := Ptr.endN_spec l i hi
  have cK := fun wx w1 hw hx => kids_call A c l i hi false hl wx w1 hw hx
  generalize Ptr.kidsL l i false (i + 1) (Ptr.endN l i) = KL at cK ⊢
  generalize Ptr.endN l i = N at cN hn1 hn2
  have HR := Kept.mk hr
  have CP := Kept.mk cP
  have CN := Kept.mk cN
  have CK := Kept.mk cK
  have hb0 : Below w.heap.size w ((w.alloc (.cells #[.slice A l.length c] 22)).alloc (.cells #[.int .i64 i] 3)) := ((Below.refl _ _).alloc (Nat.le_refl _) _).alloc (by simp) _
  have HB0 := Kept.mk hb0
  have s0 : ((w.alloc (.cells #[.slice A l.length c] 22)).alloc (.cells #[.int .i64 i] 3)).cell? ⟨w.heap.size, 0, none⟩ = some (.slice A l.length c) := cell_keep ((Below.refl _ _).alloc (Nat.le_refl _) _) (by rw [World.cell?_alloc_new]; rfl)
  have s1 : ((w.alloc (.cells #[.slice A l.length c] 22)).alloc (.cells #[.int .i64 i] 3)).cell? ⟨w.heap.size + 1, 0, none⟩ = some (.int .i64 i) := by
    have := World.cell?_alloc_new (w.alloc (.cells #[.slice A l.length c] 22)) #[.int .i64 i] 3 0
    rw [World.size_alloc] at this
    exact this
  have HS0 := Kept.mk s0; have HS1 := Kept.mk s1
  have z0 : w.heap.size + 2 ≤ ((w.alloc (.cells #[.slice A l.length c] 22)).alloc (.cells #[.int .i64 i] 3)).heap.size := by simp
  clear hr hf hE hp cP cN hb0 s0 s1 hrng cK
  go_enter Tryz.func9, Tryz.ntmps9
  go_wp2_with (first | (go_at_call 32; refine (CP.out _ HB0.out).mono ?_; rintro e w1 ⟨rfl, hb1⟩; have c0 := cell_keep hb1 HS0.out; have c1 := cell_keep hb1 HS1.out; have z1 := Nat.le_trans z0 hb1.size; have HB1 := Kept.mk (HB0.out.trans (hb1.mono HB0.out.size)); clear hb1) | (go_at_call 33; refine (CN.out _ (HR.out.below HB1.out)).mono ?_; rintro e w2 ⟨rfl, rfl⟩) | (go_at_call 36; refine (kids_any _ _ _ _ _ _).mono ?_; rintro e w2 ⟨rfl, hw2⟩; have W2 := Kept.mk hw2; clear hw2) | (go_at_call 35; refine (CK.out _ _ W2.out (HR.out.below HB1.out)).mono ?_; rintro e w3 ⟨v, rfl, hO, hb3⟩))
  go_ret
  exact ⟨_, rfl, own_low hO HB1.out.size, HB1.out.trans (hb3.mono HB1.out.size)⟩
set_option maxRecDepth 100000 in
set_option maxHeartbeats 4000000 in
theorem go_9 (A : Option Addr) (l : List Ptr.Nd) (c i : Nat) (w : World) (hr : RdN w A l) (hl : l.length ≤ 100000) (hf : FitP l) (hE : TEnv w) (hi : i < l.length) (hp : placeB l i = true) :
    Calls Tryz.prog 9 #[.slice A l.length c, .int .i64 i, .int .u8 9] w fun e w' => ∃ v, e = .returned v ∧ w'.ownsRow w.heap.size 3 1 v (goL l i 9).length (ic (goL l i 9)) ∧ Below w.heap.size w w' := by
  have hgo : goL l i 9 = Ptr.kidsL l i true (i + 1) (Ptr.endN l i) := rfl
  rw [hgo]
  clear hgo
  have cP := fun wx (hx : Below w.heap.size w wx) => place_any A l c i wx (hr.below hx) hl hf (hE.below hx)
  rw [hp] at cP
  have hrng := (place_rng hp).1
  have cN := fun wx hx => end_any A l c i wx hx hi hl
  rw [endN_same] at cN
  obtain ⟨hn1, hn2, _, _⟩ := Ptr.endN_spec l i hi
  have cK := fun wx w1 hw hx => kids_call A c l i hi true hl wx w1 hw hx
  generalize Ptr.kidsL l i true (i + 1) (Ptr.endN l i) = KL at cK ⊢
  generalize Ptr.endN l i = N at cN hn1 hn2
  have HR := Kept.mk hr
  have CP := Kept.mk cP
  have CN := Kept.mk cN
  have CK := Kept.mk cK
  have hb0 : Below w.heap.size w ((w.alloc (.cells #[.slice A l.length c] 22)).alloc (.cells #[.int .i64 i] 3)) := ((Below.refl _ _).alloc (Nat.le_refl _) _).alloc (by simp) _
  have HB0 := Kept.mk hb0
  have s0 : ((w.alloc (.cells #[.slice A l.length c] 22)).alloc (.cells #[.int .i64 i] 3)).cell? ⟨w.heap.size, 0, none⟩ = some (.slice A l.length c) := cell_keep ((Below.refl _ _).alloc (Nat.le_refl _) _) (by rw [World.cell?_alloc_new]; rfl)
  have s1 : ((w.alloc (.cells #[.slice A l.length c] 22)).alloc (.cells #[.int .i64 i] 3)).cell? ⟨w.heap.size + 1, 0, none⟩ = some (.int .i64 i) := by
    have := World.cell?_alloc_new (w.alloc (.cells #[.slice A l.length c] 22)) #[.int .i64 i] 3 0
    rw [World.size_alloc] at this
    exact this
  have HS0 := Kept.mk s0; have HS1 := Kept.mk s1
  have z0 : w.heap.size + 2 ≤ ((w.alloc (.cells #[.slice A l.length c] 22)).alloc (.cells #[.int .i64 i] 3)).heap.size := by simp
  clear hr hf hE hp cP cN hb0 s0 s1 hrng cK
  go_enter Tryz.func9, Tryz.ntmps9
  go_wp2_with (first | (go_at_call 32; refine (CP.out _ HB0.out).mono ?_; rintro e w1 ⟨rfl, hb1⟩; have c0 := cell_keep hb1 HS0.out; have c1 := cell_keep hb1 HS1.out; have z1 := Nat.le_trans z0 hb1.size; have HB1 := Kept.mk (HB0.out.trans (hb1.mono HB0.out.size)); clear hb1) | (go_at_call 33; refine (CN.out _ (HR.out.below HB1.out)).mono ?_; rintro e w2 ⟨rfl, rfl⟩) | (go_at_call 36; refine (kids_any _ _ _ _ _ _).mono ?_; rintro e w2 ⟨rfl, hw2⟩; have W2 := Kept.mk hw2; clear hw2) | (go_at_call 35; refine (CK.out _ _ W2.out (HR.out.below HB1.out)).mono ?_; rintro e w3 ⟨v, rfl, hO, hb3⟩))
  go_ret
  exact ⟨_, rfl, own_low hO HB1.out.size, HB1.out.trans (hb3.mono HB1.out.size)⟩
set_option maxRecDepth 100000 in
set_option maxHeartbeats 4000000 in
theorem go_10 (A : Option Addr) (l : List Ptr.Nd) (c i : Nat) (w : World) (hr : RdN w A l) (hl : l.length ≤ 100000) (hf : FitP l) (hE : TEnv w) (hi : i < l.length) (hp : placeB l i = true) :
    Calls Tryz.prog 9 #[.slice A l.length c, .int .i64 i, .int .u8 10] w fun e w' => ∃ v, e = .returned v ∧ w'.ownsRow w.heap.size 3 1 v (goL l i 10).length (ic (goL l i 10)) ∧ Below w.heap.size w w' := by
  have hgo : goL l i 10 = [i] := rfl
  rw [hgo]
  clear hgo
  have cP := fun wx (hx : Below w.heap.size w wx) => place_any A l c i wx (hr.below hx) hl hf (hE.below hx)
  rw [hp] at cP
  have hrng := (place_rng hp).1
  have cN := fun wx hx => end_any A l c i wx hx hi hl
  rw [endN_same] at cN
  obtain ⟨hn1, hn2, _, _⟩ := Ptr.endN_spec l i hi
  generalize Ptr.endN l i = N at cN hn1 hn2
  have HR := Kept.mk hr
  have CP := Kept.mk cP
  have CN := Kept.mk cN
  have hb0 : Below w.heap.size w ((w.alloc (.cells #[.slice A l.length c] 22)).alloc (.cells #[.int .i64 i] 3)) := ((Below.refl _ _).alloc (Nat.le_refl _) _).alloc (by simp) _
  have HB0 := Kept.mk hb0
  have s0 : ((w.alloc (.cells #[.slice A l.length c] 22)).alloc (.cells #[.int .i64 i] 3)).cell? ⟨w.heap.size, 0, none⟩ = some (.slice A l.length c) := cell_keep ((Below.refl _ _).alloc (Nat.le_refl _) _) (by rw [World.cell?_alloc_new]; rfl)
  have s1 : ((w.alloc (.cells #[.slice A l.length c] 22)).alloc (.cells #[.int .i64 i] 3)).cell? ⟨w.heap.size + 1, 0, none⟩ = some (.int .i64 i) := by
    have := World.cell?_alloc_new (w.alloc (.cells #[.slice A l.length c] 22)) #[.int .i64 i] 3 0
    rw [World.size_alloc] at this
    exact this
  have HS0 := Kept.mk s0; have HS1 := Kept.mk s1
  have z0 : w.heap.size + 2 ≤ ((w.alloc (.cells #[.slice A l.length c] 22)).alloc (.cells #[.int .i64 i] 3)).heap.size := by simp
  clear hr hf hE hp cP cN hb0 s0 s1 hrng
  go_enter Tryz.func9, Tryz.ntmps9
  go_wp2_with (first | (go_at_call 32; refine (CP.out _ HB0.out).mono ?_; rintro e w1 ⟨rfl, hb1⟩; have c0 := cell_keep hb1 HS0.out; have c1 := cell_keep hb1 HS1.out; have z1 := Nat.le_trans z0 hb1.size; have HB1 := Kept.mk (HB0.out.trans (hb1.mono HB0.out.size)); clear hb1) | (go_at_call 33; refine (CN.out _ (HR.out.below HB1.out)).mono ?_; rintro e w2 ⟨rfl, rfl⟩))
  go_ret
  exact ⟨_, rfl, own_low (own_one w1 i) HB1.out.size, HB1.out.alloc HB1.out.size _⟩
set_option maxRecDepth 100000 in
set_option maxHeartbeats 4000000 in
theorem go_4 (A : Option Addr) (l : List Ptr.Nd) (c i : Nat) (w : World) (hr : RdN w A l) (hl : l.length ≤ 100000) (hf : FitP l) (hE : TEnv w) (hi : i < l.length) (hp : placeB l i = true) :
    Calls Tryz.prog 9 #[.slice A l.length c, .int .i64 i, .int .u8 4] w fun e w' => ∃ v, e = .returned v ∧ w'.ownsRow w.heap.size 3 1 v (goL l i 4).length (ic (goL l i 4)) ∧ Below w.heap.size w w' := by
  have hgo : goL l i 4 = Ptr.upL l i := rfl
  rw [hgo]
  clear hgo
  have cP := fun wx (hx : Below w.heap.size w wx) => place_any A l c i wx (hr.below hx) hl hf (hE.below hx)
  rw [hp] at cP
  have hrng := (place_rng hp).1
  have cN := fun wx hx => end_any A l c i wx hx hi hl
  rw [endN_same] at cN
  obtain ⟨hn1, hn2, _, _⟩ := Ptr.endN_spec l i hi
  have cK := fun wx w1 hw hx => up_call A c l i hi hl hrng wx w1 hw hx
  generalize Ptr.upL l i = KL at cK ⊢
  generalize Ptr.endN l i = N at cN hn1 hn2
  have HR := Kept.mk hr
  have CP := Kept.mk cP
  have CN := Kept.mk cN
  have CK := Kept.mk cK
  have hb0 : Below w.heap.size w ((w.alloc (.cells #[.slice A l.length c] 22)).alloc (.cells #[.int .i64 i] 3)) := ((Below.refl _ _).alloc (Nat.le_refl _) _).alloc (by simp) _
  have HB0 := Kept.mk hb0
  have s0 : ((w.alloc (.cells #[.slice A l.length c] 22)).alloc (.cells #[.int .i64 i] 3)).cell? ⟨w.heap.size, 0, none⟩ = some (.slice A l.length c) := cell_keep ((Below.refl _ _).alloc (Nat.le_refl _) _) (by rw [World.cell?_alloc_new]; rfl)
  have s1 : ((w.alloc (.cells #[.slice A l.length c] 22)).alloc (.cells #[.int .i64 i] 3)).cell? ⟨w.heap.size + 1, 0, none⟩ = some (.int .i64 i) := by
    have := World.cell?_alloc_new (w.alloc (.cells #[.slice A l.length c] 22)) #[.int .i64 i] 3 0
    rw [World.size_alloc] at this
    exact this
  have HS0 := Kept.mk s0; have HS1 := Kept.mk s1
  have z0 : w.heap.size + 2 ≤ ((w.alloc (.cells #[.slice A l.length c] 22)).alloc (.cells #[.int .i64 i] 3)).heap.size := by simp
  clear hr hf hE hp cP cN hb0 s0 s1 hrng cK
  go_enter Tryz.func9, Tryz.ntmps9
  go_wp2_with (first | (go_at_call 32; refine (CP.out _ HB0.out).mono ?_; rintro e w1 ⟨rfl, hb1⟩; have c0 := cell_keep hb1 HS0.out; have c1 := cell_keep hb1 HS1.out; have z1 := Nat.le_trans z0 hb1.size; have HB1 := Kept.mk (HB0.out.trans (hb1.mono HB0.out.size)); clear hb1) | (go_at_call 33; refine (CN.out _ (HR.out.below HB1.out)).mono ?_; rintro e w2 ⟨rfl, rfl⟩) | (go_at_call 37; refine (ancestors_any _ _ _ _ _).mono ?_; rintro e w2 ⟨rfl, hw2⟩; have W2 := Kept.mk hw2; clear hw2) | (go_at_call 35; refine (CK.out _ _ W2.out (HR.out.below HB1.out)).mono ?_; rintro e w3 ⟨v, rfl, hO, hb3⟩))
  go_ret
  exact ⟨_, rfl, own_low hO HB1.out.size, HB1.out.trans (hb3.mono HB1.out.size)⟩
set_option maxRecDepth 100000 in
set_option maxHeartbeats 4000000 in
theorem go_2 (A : Option Addr) (l : List Ptr.Nd) (c i : Nat) (w : World) (hr : RdN w A l) (hl : l.length ≤ 100000) (hf : FitP l) (hE : TEnv w) (hi : i < l.length) (hp : placeB l i = true) :
    Calls Tryz.prog 9 #[.slice A l.length c, .int .i64 i, .int .u8 2] w fun e w' => ∃ v, e = .returned v ∧ w'.ownsRow w.heap.size 3 1 v (goL l i 2).length (ic (goL l i 2)) ∧ Below w.heap.size w w' := by
  have hgo : goL l i 2 = stretchL l (i + 1) (Ptr.endN l i) := rfl
  rw [hgo]
  clear hgo
  have cP := fun wx (hx : Below w.heap.size w wx) => place_any A l c i wx (hr.below hx) hl hf (hE.below hx)
  rw [hp] at cP
  have hrng := (place_rng hp).1
  have cN := fun wx hx => end_any A l c i wx hx hi hl
  rw [endN_same] at cN
  obtain ⟨hn1, hn2, _, _⟩ := Ptr.endN_spec l i hi
  have cS := fun wx hx => stretch_any A l c (i + 1) (Ptr.endN l i) wx hx (by omega) (by omega) hl
  rw [show (((i + 1 : Nat) : Int)) = (i : Int) + 1 from rfl] at cS
  generalize Ptr.endN l i = N at cN hn1 hn2 cS ⊢
  have HR := Kept.mk hr
  have CP := Kept.mk cP
  have CN := Kept.mk cN
  have i0 : (0 : Int) ≤ (i : Int) := by omega
  have i1 : (i : Int) < (l.length : Int) := by omega
  have CS := Kept.mk cS
  have hb0 : Below w.heap.size w ((w.alloc (.cells #[.slice A l.length c] 22)).alloc (.cells #[.int .i64 i] 3)) := ((Below.refl _ _).alloc (Nat.le_refl _) _).alloc (by simp) _
  have HB0 := Kept.mk hb0
  have s0 : ((w.alloc (.cells #[.slice A l.length c] 22)).alloc (.cells #[.int .i64 i] 3)).cell? ⟨w.heap.size, 0, none⟩ = some (.slice A l.length c) := cell_keep ((Below.refl _ _).alloc (Nat.le_refl _) _) (by rw [World.cell?_alloc_new]; rfl)
  have s1 : ((w.alloc (.cells #[.slice A l.length c] 22)).alloc (.cells #[.int .i64 i] 3)).cell? ⟨w.heap.size + 1, 0, none⟩ = some (.int .i64 i) := by
    have := World.cell?_alloc_new (w.alloc (.cells #[.slice A l.length c] 22)) #[.int .i64 i] 3 0
    rw [World.size_alloc] at this
    exact this
  have HS0 := Kept.mk s0; have HS1 := Kept.mk s1
  have z0 : w.heap.size + 2 ≤ ((w.alloc (.cells #[.slice A l.length c] 22)).alloc (.cells #[.int .i64 i] 3)).heap.size := by simp
  clear hr hf hE hp cP cN hb0 s0 s1 hrng cS
  go_enter Tryz.func9, Tryz.ntmps9
  go_wp2_with (first | (go_at_call 32; refine (CP.out _ HB0.out).mono ?_; rintro e w1 ⟨rfl, hb1⟩; have c0 := cell_keep hb1 HS0.out; have c1 := cell_keep hb1 HS1.out; have z1 := Nat.le_trans z0 hb1.size; have HB1 := Kept.mk (HB0.out.trans (hb1.mono HB0.out.size)); clear hb1) | (go_at_call 33; refine (CN.out _ (HR.out.below HB1.out)).mono ?_; rintro e w2 ⟨rfl, rfl⟩) | (go_at_call 38; refine (CS.out _ (HR.out.below HB1.out)).mono ?_; rintro e w3 ⟨v, rfl, hO, hb3⟩))
  go_ret
  exact ⟨_, rfl, own_low hO HB1.out.size, HB1.out.trans (hb3.mono HB1.out.size)⟩
set_option maxRecDepth 100000 in
set_option maxHeartbeats 4000000 in
theorem go_7 (A : Option Addr) (l : List Ptr.Nd) (c i : Nat) (w : World) (hr : RdN w A l) (hl : l.length ≤ 100000) (hf : FitP l) (hE : TEnv w) (hi : i < l.length) (hp : placeB l i = true) :
    Calls Tryz.prog 9 #[.slice A l.length c, .int .i64 i, .int .u8 7] w fun e w' => ∃ v, e = .returned v ∧ w'.ownsRow w.heap.size 3 1 v (goL l i 7).length (ic (goL l i 7)) ∧ Below w.heap.size w w' := by
  have hgo : goL l i 7 = stretchL l (Ptr.endN l i) l.length := rfl
  rw [hgo]
  clear hgo
  have cP := fun wx (hx : Below w.heap.size w wx) => place_any A l c i wx (hr.below hx) hl hf (hE.below hx)
  rw [hp] at cP
  have hrng := (place_rng hp).1
  have cN := fun wx hx => end_any A l c i wx hx hi hl
  rw [endN_same] at cN
  obtain ⟨hn1, hn2, _, _⟩ := Ptr.endN_spec l i hi
  have cS := fun wx hx => stretch_any A l c (Ptr.endN l i) l.length wx hx (by omega) (by omega) hl
  generalize Ptr.endN l i = N at cN hn1 hn2 cS ⊢
  have HR := Kept.mk hr
  have CP := Kept.mk cP
  have CN := Kept.mk cN
  have CS := Kept.mk cS
  have hb0 : Below w.heap.size w ((w.alloc (.cells #[.slice A l.length c] 22)).alloc (.cells #[.int .i64 i] 3)) := ((Below.refl _ _).alloc (Nat.le_refl _) _).alloc (by simp) _
  have HB0 := Kept.mk hb0
  have s0 : ((w.alloc (.cells #[.slice A l.length c] 22)).alloc (.cells #[.int .i64 i] 3)).cell? ⟨w.heap.size, 0, none⟩ = some (.slice A l.length c) := cell_keep ((Below.refl _ _).alloc (Nat.le_refl _) _) (by rw [World.cell?_alloc_new]; rfl)
  have s1 : ((w.alloc (.cells #[.slice A l.length c] 22)).alloc (.cells #[.int .i64 i] 3)).cell? ⟨w.heap.size + 1, 0, none⟩ = some (.int .i64 i) := by
    have := World.cell?_alloc_new (w.alloc (.cells #[.slice A l.length c] 22)) #[.int .i64 i] 3 0
    rw [World.size_alloc] at this
    exact this
  have HS0 := Kept.mk s0; have HS1 := Kept.mk s1
  have z0 : w.heap.size + 2 ≤ ((w.alloc (.cells #[.slice A l.length c] 22)).alloc (.cells #[.int .i64 i] 3)).heap.size := by simp
  clear hr hf hE hp cP cN hb0 s0 s1 hrng cS
  go_enter Tryz.func9, Tryz.ntmps9
  go_wp2_with (first | (go_at_call 32; refine (CP.out _ HB0.out).mono ?_; rintro e w1 ⟨rfl, hb1⟩; have c0 := cell_keep hb1 HS0.out; have c1 := cell_keep hb1 HS1.out; have z1 := Nat.le_trans z0 hb1.size; have HB1 := Kept.mk (HB0.out.trans (hb1.mono HB0.out.size)); clear hb1) | (go_at_call 33; refine (CN.out _ (HR.out.below HB1.out)).mono ?_; rintro e w2 ⟨rfl, rfl⟩) | (go_at_call 38; refine (CS.out _ (HR.out.below HB1.out)).mono ?_; rintro e w3 ⟨v, rfl, hO, hb3⟩))
  go_ret
  exact ⟨_, rfl, own_low hO HB1.out.size, HB1.out.trans (hb3.mono HB1.out.size)⟩
set_option maxRecDepth 100000 in
set_option maxHeartbeats 4000000 in
theorem go_5 (A : Option Addr) (l : List Ptr.Nd) (c i : Nat) (w : World) (hr : RdN w A l) (hl : l.length ≤ 100000) (hf : FitP l) (hE : TEnv w) (hi : i < l.length) (hp : placeB l i = true) :
    Calls Tryz.prog 9 #[.slice A l.length c, .int .i64 i, .int .u8 5] w fun e w' => ∃ v, e = .returned v ∧ w'.ownsRow w.heap.size 3 1 v (goL l i 5).length (ic (goL l i 5)) ∧ Below w.heap.size w w' := by
  have hgo : goL l i 5 = (stretchL l (Ptr.endN l i) l.length).filter fun x => !sibDel l i x := rfl
  rw [hgo]
  clear hgo
  have cP := fun wx (hx : Below w.heap.size w wx) => place_any A l c i wx (hr.below hx) hl hf (hE.below hx)
  rw [hp] at cP
  have hrng := (place_rng hp).1
  have cN := fun wx hx => end_any A l c i wx hx hi hl
  rw [endN_same] at cN
  obtain ⟨hn1, hn2, _, _⟩ := Ptr.endN_spec l i hi
  have cS := fun wx hx => stretch_any A l c (Ptr.endN l i) l.length wx hx (by omega) (by omega) hl
  have hm : ∀ x ∈ stretchL l (Ptr.endN l i) l.length, x < l.length := fun x hx => stretch_mem hx (by omega)
  generalize Ptr.endN l i = N at cN hn1 hn2 cS hm ⊢
  have HR := Kept.mk hr
  have CP := Kept.mk cP
  have CN := Kept.mk cN
  have CS := Kept.mk cS; have HM := Kept.mk hm
  have HI := Kept.mk hi
  have hAb := hr.at_ hi
  obtain ⟨b, off, rfl, _⟩ := hAb
  have hblt := blk_lt hr hi
  have hb0 : Below w.heap.size w ((w.alloc (.cells #[.slice (some ⟨b, off, none⟩) l.length c] 22)).alloc (.cells #[.int .i64 i] 3)) := ((Below.refl _ _).alloc (Nat.le_refl _) _).alloc (by simp) _
  have HB0 := Kept.mk hb0
  have s0 : ((w.alloc (.cells #[.slice (some ⟨b, off, none⟩) l.length c] 22)).alloc (.cells #[.int .i64 i] 3)).cell? ⟨w.heap.size, 0, none⟩ = some (.slice (some ⟨b, off, none⟩) l.length c) := cell_keep ((Below.refl _ _).alloc (Nat.le_refl _) _) (by rw [World.cell?_alloc_new]; rfl)
  have s1 : ((w.alloc (.cells #[.slice (some ⟨b, off, none⟩) l.length c] 22)).alloc (.cells #[.int .i64 i] 3)).cell? ⟨w.heap.size + 1, 0, none⟩ = some (.int .i64 i) := by
    have := World.cell?_alloc_new (w.alloc (.cells #[.slice (some ⟨b, off, none⟩) l.length c] 22)) #[.int .i64 i] 3 0
    rw [World.size_alloc] at this
    exact this
  have HS0 := Kept.mk s0; have HS1 := Kept.mk s1
  have z0 : w.heap.size + 2 ≤ ((w.alloc (.cells #[.slice (some ⟨b, off, none⟩) l.length c] 22)).alloc (.cells #[.int .i64 i] 3)).heap.size := by simp
  clear hr hf hE hp cP cN hb0 s0 s1 hrng cS hm
  go_enter Tryz.func9, Tryz.ntmps9
  go_wp2_with (first | (go_at_call 32; refine (CP.out _ HB0.out).mono ?_; rintro e w1 ⟨rfl, hb1⟩; have c0 := cell_keep hb1 HS0.out; have c1 := cell_keep hb1 HS1.out; have z1 := Nat.le_trans z0 hb1.size; have HB1 := Kept.mk (HB0.out.trans (hb1.mono HB0.out.size)); clear hb1) | (go_at_call 33; refine (CN.out _ (HR.out.below HB1.out)).mono ?_; rintro e w2 ⟨rfl, rfl⟩) | (go_at_call 38; refine (CS.out _ (HR.out.below HB1.out)).mono ?_; rintro e w3 ⟨v, rfl, hO, hb3⟩; have HB3 := Kept.mk (HB1.out.trans (hb3.mono HB1.out.size)); have c03 := cell_keep hb3 c0; have c13 := cell_keep hb3 c1; have O3 := Kept.mk hO; clear hO hb3) | (go_at_call 39; refine (delete_row l.length (by have := HI.out; omega) 34 _ (enters_of Tryz.func34 (by kernel_rfl) rfl) (sibDel l i) _ HM.out v w1.heap.size w3 O3.out (sib_pred b off c i w.heap.size (w.heap.size + 1) w1.heap.size l w3 (HR.out.below HB3.out) (by omega) (by omega) (by omega) c03 c13 HI.out)).mono ?_; rintro e w4 ⟨v4, rfl, hO4, hb4⟩; have O4 := Kept.mk hO4; have HB4 := Kept.mk (HB3.out.trans (hb4.mono HB1.out.size)); clear hO4 hb4))
  go_ret
  exact ⟨_, rfl, own_low O4.out HB1.out.size, HB4.out⟩
set_option maxRecDepth 100000 in
set_option maxHeartbeats 4000000 in
theorem go_6 (A : Option Addr) (l : List Ptr.Nd) (c i : Nat) (w : World) (hr : RdN w A l) (hl : l.length ≤ 100000) (hf : FitP l) (hE : TEnv w) (hi : i < l.length) (hp : placeB l i = true) :
    Calls Tryz.prog 9 #[.slice A l.length c, .int .i64 i, .int .u8 6] w fun e w' => ∃ v, e = .returned v ∧ w'.ownsRow w.heap.size 3 1 v (goL l i 6).length (ic (goL l i 6)) ∧ Below w.heap.size w w' := by
  have hgo : goL l i 6 = ((stretchL l 0 i).filter fun x => !sibDel l i x).reverse := rfl
  rw [hgo]
  clear hgo
  have cP := fun wx (hx : Below w.heap.size w wx) => place_any A l c i wx (hr.below hx) hl hf (hE.below hx)
  rw [hp] at cP
  have hrng := (place_rng hp).1
  have cN := fun wx hx => end_any A l c i wx hx hi hl
  rw [endN_same] at cN
  obtain ⟨hn1, hn2, _, _⟩ := Ptr.endN_spec l i hi
  have cS := fun wx hx => stretch_any A l c 0 i wx hx (by omega) (by omega) hl
  have hm : ∀ x ∈ stretchL l 0 i, x < l.length := fun x hx => stretch_mem hx (by omega)
  generalize Ptr.endN l i = N at cN hn1 hn2
  have HR := Kept.mk hr
  have CP := Kept.mk cP
  have CN := Kept.mk cN
  have CS := Kept.mk cS; have HM := Kept.mk hm
  have HI := Kept.mk hi
  have hAb := hr.at_ hi
  obtain ⟨b, off, rfl, _⟩ := hAb
  have hblt := blk_lt hr hi
  have hb0 : Below w.heap.size w ((w.alloc (.cells #[.slice (some ⟨b, off, none⟩) l.length c] 22)).alloc (.cells #[.int .i64 i] 3)) := ((Below.refl _ _).alloc (Nat.le_refl _) _).alloc (by simp) _
  have HB0 := Kept.mk hb0
  have s0 : ((w.alloc (.cells #[.slice (some ⟨b, off, none⟩) l.length c] 22)).alloc (.cells #[.int .i64 i] 3)).cell? ⟨w.heap.size, 0, none⟩ = some (.slice (some ⟨b, off, none⟩) l.length c) := cell_keep ((Below.refl _ _).alloc (Nat.le_refl _) _) (by rw [World.cell?_alloc_new]; rfl)
  have s1 : ((w.alloc (.cells #[.slice (some ⟨b, off, none⟩) l.length c] 22)).alloc (.cells #[.int .i64 i] 3)).cell? ⟨w.heap.size + 1, 0, none⟩ = some (.int .i64 i) := by
    have := World.cell?_alloc_new (w.alloc (.cells #[.slice (some ⟨b, off, none⟩) l.length c] 22)) #[.int .i64 i] 3 0
    rw [World.size_alloc] at this
    exact this
  have HS0 := Kept.mk s0; have HS1 := Kept.mk s1
  have z0 : w.heap.size + 2 ≤ ((w.alloc (.cells #[.slice (some ⟨b, off, none⟩) l.length c] 22)).alloc (.cells #[.int .i64 i] 3)).heap.size := by simp
  clear hr hf hE hp cP cN hb0 s0 s1 hrng cS hm
  go_enter Tryz.func9, Tryz.ntmps9
  go_wp2_with (first | (go_at_call 32; refine (CP.out _ HB0.out).mono ?_; rintro e w1 ⟨rfl, hb1⟩; have c0 := cell_keep hb1 HS0.out; have c1 := cell_keep hb1 HS1.out; have z1 := Nat.le_trans z0 hb1.size; have HB1 := Kept.mk (HB0.out.trans (hb1.mono HB0.out.size)); clear hb1) | (go_at_call 33; refine (CN.out _ (HR.out.below HB1.out)).mono ?_; rintro e w2 ⟨rfl, rfl⟩) | (go_at_call 38; refine (CS.out _ (HR.out.below HB1.out)).mono ?_; rintro e w3 ⟨v, rfl, hO, hb3⟩; have HB3 := Kept.mk (HB1.out.trans (hb3.mono HB1.out.size)); have c03 := cell_keep hb3 c0; have c13 := cell_keep hb3 c1; have O3 := Kept.mk hO; clear hO hb3) | (go_at_call 39; refine (delete_row l.length (by have := HI.out; omega) 34 _ (enters_of Tryz.func34 (by kernel_rfl) rfl) (sibDel l i) _ HM.out v w1.heap.size w3 O3.out (sib_pred b off c i w.heap.size (w.heap.size + 1) w1.heap.size l w3 (HR.out.below HB3.out) (by omega) (by omega) (by omega) c03 c13 HI.out)).mono ?_; rintro e w4 ⟨v4, rfl, hO4, hb4⟩; have O4 := Kept.mk hO4; have HB4 := Kept.mk (HB3.out.trans (hb4.mono HB1.out.size)); clear hO4 hb4) | (go_at_call 40; refine (reverse_row _ v4 w1.heap.size w4 O4.out).mono ?_; rintro e w5 ⟨rfl, hO5, hb5⟩; have O5 := Kept.mk hO5; have HB5 := Kept.mk (HB4.out.trans (hb5.mono HB1.out.size)); clear hO5 hb5))
  go_ret
  exact ⟨_, rfl, own_low O5.out HB1.out.size, HB5.out⟩
set_option maxRecDepth 100000 in
set_option maxHeartbeats 4000000 in
theorem go_3 (A : Option Addr) (l : List Ptr.Nd) (c i : Nat) (w : World) (hr : RdN w A l) (hl : l.length ≤ 100000) (hf : FitP l) (hE : TEnv w) (hi : i < l.length) (hp : placeB l i = true) :
    Calls Tryz.prog 9 #[.slice A l.length c, .int .i64 i, .int .u8 3] w fun e w' => ∃ v, e = .returned v ∧ w'.ownsRow w.heap.size 3 1 v (goL l i 3).length (ic (goL l i 3)) ∧ Below w.heap.size w w' := by
  have hgo : goL l i 3 = if 0 ≤ Ptr.par l i then [(Ptr.par l i).toNat] else [] := rfl
  rw [hgo]
  clear hgo
  have cP := fun wx (hx : Below w.heap.size w wx) => place_any A l c i wx (hr.below hx) hl hf (hE.below hx)
  rw [hp] at cP
  have hrng := (place_rng hp).1
  have cN := fun wx hx => end_any A l c i wx hx hi hl
  rw [endN_same] at cN
  obtain ⟨hn1, hn2, _, _⟩ := Ptr.endN_spec l i hi
  obtain ⟨b, off, rfl, _, _, _, c3⟩ := hr.at_ hi
  simp only at c3
  have hrk := hrng i hi
  generalize Ptr.par l i = P at c3 hrk ⊢
  generalize Ptr.endN l i = N at cN hn1 hn2
  have HR := Kept.mk hr
  have CP := Kept.mk cP
  have CN := Kept.mk cN
  have i0 : (0 : Int) ≤ (i : Int) := by omega
  have i1 : (i : Int) < (l.length : Int) := by omega
  have HC3 := Kept.mk c3
  have hb0 : Below w.heap.size w ((w.alloc (.cells #[.slice (some ⟨b, off, none⟩) l.length c] 22)).alloc (.cells #[.int .i64 i] 3)) := ((Below.refl _ _).alloc (Nat.le_refl _) _).alloc (by simp) _
  have HB0 := Kept.mk hb0
  have s0 : ((w.alloc (.cells #[.slice (some ⟨b, off, none⟩) l.length c] 22)).alloc (.cells #[.int .i64 i] 3)).cell? ⟨w.heap.size, 0, none⟩ = some (.slice (some ⟨b, off, none⟩) l.length c) := cell_keep ((Below.refl _ _).alloc (Nat.le_refl _) _) (by rw [World.cell?_alloc_new]; rfl)
  have s1 : ((w.alloc (.cells #[.slice (some ⟨b, off, none⟩) l.length c] 22)).alloc (.cells #[.int .i64 i] 3)).cell? ⟨w.heap.size + 1, 0, none⟩ = some (.int .i64 i) := by
    have := World.cell?_alloc_new (w.alloc (.cells #[.slice (some ⟨b, off, none⟩) l.length c] 22)) #[.int .i64 i] 3 0
    rw [World.size_alloc] at this
    exact this
  have HS0 := Kept.mk s0; have HS1 := Kept.mk s1
  have z0 : w.heap.size + 2 ≤ ((w.alloc (.cells #[.slice (some ⟨b, off, none⟩) l.length c] 22)).alloc (.cells #[.int .i64 i] 3)).heap.size := by simp
  clear hr hf hE hp cP cN hb0 s0 s1 hrng c3
  by_cases hP : 0 ≤ P
  · rw [if_pos hP]
    obtain ⟨k, rfl⟩ : ∃ k : Nat, P = k := ⟨P.toNat, by omega⟩
    rw [Int.toNat_natCast]
    go_enter Tryz.func9, Tryz.ntmps9
    go_wp2_with (first | (go_at_call 32; refine (CP.out _ HB0.out).mono ?_; rintro e w1 ⟨rfl, hb1⟩; have c0 := cell_keep hb1 HS0.out; have c1 := cell_keep hb1 HS1.out; have d3 := cell_keep (HB0.out.trans (hb1.mono HB0.out.size)) HC3.out; have z1 := Nat.le_trans z0 hb1.size; have HB1 := Kept.mk (HB0.out.trans (hb1.mono HB0.out.size)); clear hb1) | (go_at_call 33; refine (CN.out _ (HR.out.below HB1.out)).mono ?_; rintro e w2 ⟨rfl, rfl⟩))
    go_ret
    exact ⟨_, rfl, own_low (own_one w1 k) HB1.out.size, HB1.out.alloc HB1.out.size _⟩
  · rw [if_neg hP]
    go_enter Tryz.func9, Tryz.ntmps9
    go_wp2_with (first | (go_at_call 32; refine (CP.out _ HB0.out).mono ?_; rintro e w1 ⟨rfl, hb1⟩; have c0 := cell_keep hb1 HS0.out; have c1 := cell_keep hb1 HS1.out; have d3 := cell_keep (HB0.out.trans (hb1.mono HB0.out.size)) HC3.out; have HB1 := Kept.mk (HB0.out.trans (hb1.mono HB0.out.size)); clear hb1) | (go_at_call 33; refine (CN.out _ (HR.out.below HB1.out)).mono ?_; rintro e w2 ⟨rfl, rfl⟩))
    go_ret
    exact ⟨_, rfl, World.ownsRow_nil _ _ _ _, HB1.out⟩
theorem rdi_keep {w3 w W : World} {A : Option Addr} {L : List Nat} {B : Nat} (h : RdI w3 A L) (hw : Below w3.heap.size w3 w) (hB : w3.heap.size ≤ B) (hW : ∀ a : Addr, a.block < B → W.cell? a = w.cell? a) : RdI W A L := by
  intro hne
  obtain ⟨b, rfl, hc⟩ := h hne
  exact ⟨b, rfl, fun j x hx => by
    have h3 := hc j x hx
    have hb := Kb.cell_lt h3
    exact (hW ⟨b, j, none⟩ (by show b < B; omega)).trans ((hw.cell (p := ⟨b, j, none⟩) hb).trans h3)⟩
theorem up_over {l : List Ptr.Nd} {i : Nat} {AU : Option Addr} {cU : Nat} {w3 w4 : World} {n : Nat} (h : RdI w3 AU (Ptr.upL l i)) (hb : Below (w3.alloc (.cells #[.slice AU (Ptr.upL l i).length cU] 27)).heap.size (w3.alloc (.cells #[.slice AU (Ptr.upL l i).length cU] 27)) w4) (hl : (Ptr.upL l i).length ≤ 100000) :
    Pred (w3.alloc (.cells #[.slice AU (Ptr.upL l i).length cU] 27)).heap.size n 41 #[.pointer (some ⟨w3.heap.size, 0, none⟩)] (fun x => decide (x ∈ Ptr.upL l i)) w4 :=
  up_pred _ AU cU n w3.heap.size _ w4 (fun W hW => rdi_keep h (((Below.refl _ _).alloc (Nat.le_refl _) _).trans (hb.mono (by simp))) (by simp) hW) hl (by simp) (cell_keep hb (by rw [World.cell?_alloc_new]; rfl))
set_option maxRecDepth 100000 in
set_option maxHeartbeats 4000000 in
theorem go_8 (A : Option Addr) (l : List Ptr.Nd) (c i : Nat) (w : World) (hr : RdN w A l) (hl : l.length ≤ 100000) (hf : FitP l) (hE : TEnv w) (hi : i < l.length) (hp : placeB l i = true) :
    Calls Tryz.prog 9 #[.slice A l.length c, .int .i64 i, .int .u8 8] w fun e w' => ∃ v, e = .returned v ∧ w'.ownsRow w.heap.size 3 1 v (goL l i 8).length (ic (goL l i 8)) ∧ Below w.heap.size w w' := by
  have hgo : goL l i 8 = ((stretchL l 0 i).filter fun x => !decide (x ∈ Ptr.upL l i)).reverse := rfl
  rw [hgo]
  clear hgo
  have cP := fun wx (hx : Below w.heap.size w wx) => place_any A l c i wx (hr.below hx) hl hf (hE.below hx)
  rw [hp] at cP
  have hrng := (place_rng hp).1
  have cN := fun wx hx => end_any A l c i wx hx hi hl
  rw [endN_same] at cN
  obtain ⟨hn1, hn2, _, _⟩ := Ptr.endN_spec l i hi
  have cK := fun wx w1 hw hx => up_call A c l i hi hl hrng wx w1 hw hx
  have hUL : (Ptr.upL l i).length ≤ 100000 := by have := upC_len l i (Ptr.par l i); unfold Ptr.upL; omega
  have cS := fun wx hx => stretch_any A l c 0 i wx hx (by omega) (by omega) hl
  have hm : ∀ x ∈ stretchL l 0 i, x < l.length := fun x hx => stretch_mem hx (by omega)
  generalize Ptr.endN l i = N at cN hn1 hn2
  have HR := Kept.mk hr
  have CP := Kept.mk cP
  have CN := Kept.mk cN
  have CK := Kept.mk cK
  have CS := Kept.mk cS; have HM := Kept.mk hm
  have HI := Kept.mk hi
  have hb0 : Below w.heap.size w ((w.alloc (.cells #[.slice A l.length c] 22)).alloc (.cells #[.int .i64 i] 3)) := ((Below.refl _ _).alloc (Nat.le_refl _) _).alloc (by simp) _
  have HB0 := Kept.mk hb0
  have s0 : ((w.alloc (.cells #[.slice A l.length c] 22)).alloc (.cells #[.int .i64 i] 3)).cell? ⟨w.heap.size, 0, none⟩ = some (.slice A l.length c) := cell_keep ((Below.refl _ _).alloc (Nat.le_refl _) _) (by rw [World.cell?_alloc_new]; rfl)
  have s1 : ((w.alloc (.cells #[.slice A l.length c] 22)).alloc (.cells #[.int .i64 i] 3)).cell? ⟨w.heap.size + 1, 0, none⟩ = some (.int .i64 i) := by
    have := World.cell?_alloc_new (w.alloc (.cells #[.slice A l.length c] 22)) #[.int .i64 i] 3 0
    rw [World.size_alloc] at this
    exact this
  have HS0 := Kept.mk s0; have HS1 := Kept.mk s1
  have z0 : w.heap.size + 2 ≤ ((w.alloc (.cells #[.slice A l.length c] 22)).alloc (.cells #[.int .i64 i] 3)).heap.size := by simp
  clear hr hf hE hp cP cN hb0 s0 s1 hrng cS hm cK
  go_enter Tryz.func9, Tryz.ntmps9
  go_wp2_with (first | (go_at_call 32; refine (CP.out _ HB0.out).mono ?_; rintro e w1 ⟨rfl, hb1⟩; have c0 := cell_keep hb1 HS0.out; have c1 := cell_keep hb1 HS1.out; have z1 := Nat.le_trans z0 hb1.size; have HB1 := Kept.mk (HB0.out.trans (hb1.mono HB0.out.size)); clear hb1) | (go_at_call 33; refine (CN.out _ (HR.out.below HB1.out)).mono ?_; rintro e w2 ⟨rfl, rfl⟩) | (go_at_call 37; refine (ancestors_any _ _ _ _ _).mono ?_; rintro e w2 ⟨rfl, hw2⟩; have W2 := Kept.mk hw2; clear hw2) | (go_at_call 35; refine (CK.out _ _ W2.out (HR.out.below HB1.out)).mono ?_; rintro e w3 ⟨v, rfl, hO, hb3⟩; obtain ⟨AU, cU, rfl⟩ := own_shape_i hO; have RU := Kept.mk (rdi_of_own hO); have HB3 := Kept.mk (HB1.out.trans (hb3.mono HB1.out.size)); have c03 := cell_keep hb3 c0; have c13 := cell_keep hb3 c1; have c04 := cell_keep ((Below.refl w3.heap.size w3).alloc (Nat.le_refl _) (.cells #[.slice AU (Ptr.upL l i).length cU] 27)) c03; have c14 := cell_keep ((Below.refl w3.heap.size w3).alloc (Nat.le_refl _) (.cells #[.slice AU (Ptr.upL l i).length cU] 27)) c13; clear hO hb3) | (go_at_call 38; refine (CS.out _ (HR.out.below (HB3.out.alloc HB3.out.size (.cells #[.slice AU (Ptr.upL l i).length cU] 27)))).mono ?_; rintro e w4 ⟨v4, rfl, hO4, hb4⟩; have HB4 := Kept.mk ((HB3.out.alloc HB3.out.size (.cells #[.slice AU (Ptr.upL l i).length cU] 27)).trans (hb4.mono (by have := HB3.out.size; simp; omega))); have PU := Kept.mk (up_over (i := i) (n := l.length) RU.out hb4 hUL); have O4 := Kept.mk hO4; clear hO4 hb4) | (go_at_call 39; refine (delete_row l.length (by have := HI.out; omega) 41 _ (enters_of Tryz.func41 (by kernel_rfl) rfl) (fun x => decide (x ∈ Ptr.upL l i)) _ HM.out v4 _ w4 O4.out PU.out).mono ?_; rintro e w5 ⟨v5, rfl, hO5, hb5⟩; have O5 := Kept.mk hO5; have HB5 := Kept.mk (HB4.out.trans (hb5.mono (by have := HB3.out.size; simp; omega))); clear hO5 hb5) | (go_at_call 40; refine (reverse_row _ v5 _ w5 O5.out).mono ?_; rintro e w6 ⟨rfl, hO6, hb6⟩; have O6 := Kept.mk hO6; have HB6 := Kept.mk (HB5.out.trans (hb6.mono (by have := HB3.out.size; simp; omega))); clear hO6 hb6))
  go_ret
  exact ⟨_, rfl, own_low O6.out (by have := HB3.out.size; simp; omega), HB6.out⟩
end Go.Proofs.YtkcpfjhdbbapiaaGreatDoor.Wtr
namespace Go.Proofs.YtkcpfjhdbbapiaaGreatDoor.Wtr
open Go Go.RowKit Go.Shelf Go.Proofs.YtkcpfjhdbbapiaaGreatDoor.Kb Go.Proofs.YtkcpfjhdbbapiaaGreatDoor.Flt
theorem row_cons {w : World} {base i : Nat} {v : Value} {S : List Nat} (h : w.ownsRow base 3 1 v (1 + S.length) (ic [i] ++ ic S)) : w.ownsRow base 3 1 v (i :: S).length (ic (i :: S)) := by
  rw [← ic_append] at h
  rwa [show (i :: S).length = 1 + S.length by simp; omega]
theorem own_drew {w : World} {base n k : Nat} {e : TypeId} {v : Value} {xs : List Value} (h : w.ownsRow base e k v n xs) : w.drew.ownsRow base e k v n xs := h
theorem t_draw {w wx : World} {a b c d : Nat} {u v : Value} (h : wx.cell? ⟨a, b, none⟩ = some u ∧ wx.cell? ⟨c, d, none⟩ = some v ∧ Below w.heap.size w wx) : wx.drew.cell? ⟨a, b, none⟩ = some u ∧ wx.drew.cell? ⟨c, d, none⟩ = some v ∧ Below w.heap.size w wx.drew := ⟨h.1, h.2.1, h.2.2.trans ⟨rfl, rfl, rfl, Nat.le_refl _, fun _ _ => rfl⟩⟩
theorem t_below {w wx w1 : World} {a b c d : Nat} {u v : Value} (h : wx.cell? ⟨a, b, none⟩ = some u ∧ wx.cell? ⟨c, d, none⟩ = some v ∧ Below w.heap.size w wx) (hb : Below wx.heap.size wx w1) : w1.cell? ⟨a, b, none⟩ = some u ∧ w1.cell? ⟨c, d, none⟩ = some v ∧ Below w.heap.size w w1 := ⟨cell_keep hb h.1, cell_keep hb h.2.1, h.2.2.trans (hb.mono h.2.2.size)⟩
theorem t_alloc {w wx : World} {a b c d : Nat} {u v : Value} (o : Obj) (h : wx.cell? ⟨a, b, none⟩ = some u ∧ wx.cell? ⟨c, d, none⟩ = some v ∧ Below w.heap.size w wx) : (wx.alloc o).cell? ⟨a, b, none⟩ = some u ∧ (wx.alloc o).cell? ⟨c, d, none⟩ = some v ∧ Below w.heap.size w (wx.alloc o) := t_below h ((Below.refl _ _).alloc (Nat.le_refl _) o)
theorem t_grown {w wx w5 : World} {a b c d n : Nat} {u v z : Value} {xs : List Value} (ha : a < w.heap.size) (hc : c < w.heap.size) (h : wx.cell? ⟨a, b, none⟩ = some u ∧ wx.cell? ⟨c, d, none⟩ = some v ∧ Below w.heap.size w wx) (ho : wx.ownsRow w.heap.size 3 1 z n xs) (hg : wx.grownBy w5 z.ownBlock) : w5.cell? ⟨a, b, none⟩ = some u ∧ w5.cell? ⟨c, d, none⟩ = some v ∧ Below w.heap.size w w5 := by
  have h2 : Below w.heap.size w w5 := Below.grown h.2.2 hg h.2.2.size (fun _ hj => (ho.lt _ hj).1)
  exact ⟨by rw [h2.cell (p := ⟨a, b, none⟩) ha, ← h.2.2.cell (p := ⟨a, b, none⟩) ha]; exact h.1, by rw [h2.cell (p := ⟨c, d, none⟩) hc, ← h.2.2.cell (p := ⟨c, d, none⟩) hc]; exact h.2.1, h2⟩
theorem via {w w1 wx : World} {a b c d : Nat} {u v : Value} {A : Option Addr} {l : List Ptr.Nd} (hr : RdN w A l) (h1 : Below w.heap.size w w1) (h : wx.cell? ⟨a, b, none⟩ = some u ∧ wx.cell? ⟨c, d, none⟩ = some v ∧ Below w1.heap.size w1 wx) : RdN wx A l := hr.below (h1.trans (h.2.2.mono h1.size))
/-- 'append(v, y...)' of two rows of numbers of the call's own, at a step of a region that draws its order -/
theorem step_append_two {ops : Array Oper} {o : Oper} {a : Act} {w : World} {K : Act → World → Prop} {Q : Exit → Act → World → Prop} {E : Prop} (hgd : o.guard = none) (s x : Operand)
    (ho : o.op = .call { callee := .builtin .append, args := #[s, x], argTypes := #[27, 27] }) (base base' : Nat) (v y : Value) (n m : Nat) (xs : List Value) (ys : List Nat) (hs : a.eval s = v) (hown : w.ownsRow base 3 1 v n xs)
    (hx : a.eval x = y) (hy : w.ownsRow base' 3 1 y m (ic ys)) (hb : n + m ≤ 1000000) (hbase : base ≤ w.heap.size)
    (h : ∀ v' w', w'.ownsRow base 3 1 v' (n + m) (xs ++ ic ys) → w.grownBy w' v.ownBlock → K (a.put o.dst v') w') : if Region.wanted o (yielded ops a.tmps) = true then Oper.wp Tryz.prog o a w K Q else E := by
  have hw : Region.wanted o (yielded ops a.tmps) = true := by simp [Region.wanted, hgd]
  rw [if_pos hw]
  obtain ⟨i0, hi, hz0, hz1, hz2⟩ := info_parts infoI'
  rcases hy.2 with ⟨rfl, hm⟩ | ⟨g, cap, cur, rfl, _⟩
  · subst hm
    have hys : ys = [] := by
      have := hy.1
      rw [ic_length] at this
      exact List.length_eq_zero_iff.1 (by omega)
    subst hys
    have hrun := run_append_owned_none (P := Tryz.prog) (w := w) base 27 o.type _ i0 1 Tryz.underlying27 hi v n xs hown
    have hk := h v w (by simpa [ic] using hown) (World.grownBy.refl _ _)
    unfold Oper.wp
    simp [execOp, ho, resolve, invoke, builtin, hs, hx, hrun, Result.andThen]
    exact hk
  · have hl := hy.1
    rw [ic_length] at hl
    exact wp_append_own w s x _ ho base _ i0 (.int .i64 0) 1 8 Tryz.underlying27 hi hz0 hz1 hz2 rfl (by decide) v n xs hs hown ⟨g, 0, none⟩ m cap (ic ys) hx (by rw [ic_length]; omega) (hy.cells (g := g) rfl) (by intro u hu; unfold ic at hu; obtain ⟨z, _, rfl⟩ := List.mem_map.1 hu; rfl) (by unfold maxLen; omega) (by omega) hbase (fun v' w' h1 h2 _ => h v' w' h1 h2)
set_option maxRecDepth 100000 in
set_option maxHeartbeats 4000000 in
theorem go_11 (A : Option Addr) (l : List Ptr.Nd) (c i : Nat) (w : World) (hr : RdN w A l) (hl : l.length ≤ 100000) (hf : FitP l) (hE : TEnv w) (hi : i < l.length) (hp : placeB l i = true) :
    Calls Tryz.prog 9 #[.slice A l.length c, .int .i64 i, .int .u8 11] w fun e w' => ∃ v, e = .returned v ∧ w'.ownsRow w.heap.size 3 1 v (goL l i 11).length (ic (goL l i 11)) ∧ Below w.heap.size w w' := by
  have hgo : goL l i 11 = i :: stretchL l (i + 1) (Ptr.endN l i) := rfl
  rw [hgo]
  clear hgo
  have cP := fun wx (hx : Below w.heap.size w wx) => place_any A l c i wx (hr.below hx) hl hf (hE.below hx)
  rw [hp] at cP
  have hrng := (place_rng hp).1
  have cN := fun wx hx => end_any A l c i wx hx hi hl
  rw [endN_same] at cN
  obtain ⟨hn1, hn2, _, _⟩ := Ptr.endN_spec l i hi
  have cS := fun wx hx => stretch_any A l c (i + 1) (Ptr.endN l i) wx hx (by omega) (by omega) hl
  rw [show (((i + 1 : Nat) : Int)) = (i : Int) + 1 from rfl] at cS
  generalize Ptr.endN l i = N at cN hn1 hn2 cS ⊢
  have hSL := stretchL_le l (i + 1) N
  generalize stretchL l (i + 1) N = S at cS hSL ⊢
  have HR := Kept.mk hr
  have CP := Kept.mk cP
  have CN := Kept.mk cN
  have i0 : (0 : Int) ≤ (i : Int) := by omega
  have i1 : (i : Int) < (l.length : Int) := by omega
  have CS := Kept.mk cS
  have hb0 : Below w.heap.size w ((w.alloc (.cells #[.slice A l.length c] 22)).alloc (.cells #[.int .i64 i] 3)) := ((Below.refl _ _).alloc (Nat.le_refl _) _).alloc (by simp) _
  have HB0 := Kept.mk hb0
  have s0 : ((w.alloc (.cells #[.slice A l.length c] 22)).alloc (.cells #[.int .i64 i] 3)).cell? ⟨w.heap.size, 0, none⟩ = some (.slice A l.length c) := cell_keep ((Below.refl _ _).alloc (Nat.le_refl _) _) (by rw [World.cell?_alloc_new]; rfl)
  have s1 : ((w.alloc (.cells #[.slice A l.length c] 22)).alloc (.cells #[.int .i64 i] 3)).cell? ⟨w.heap.size + 1, 0, none⟩ = some (.int .i64 i) := by
    have := World.cell?_alloc_new (w.alloc (.cells #[.slice A l.length c] 22)) #[.int .i64 i] 3 0
    rw [World.size_alloc] at this
    exact this
  have HS0 := Kept.mk s0; have HS1 := Kept.mk s1
  have z0 : w.heap.size + 2 ≤ ((w.alloc (.cells #[.slice A l.length c] 22)).alloc (.cells #[.int .i64 i] 3)).heap.size := by simp
  clear hr hf hE hp cP cN hb0 s0 s1 hrng cS
  go_enter Tryz.func9, Tryz.ntmps9
  go_upto_region 21 with (first | (go_at_call 32; refine (CP.out _ HB0.out).mono ?_; rintro e w1 ⟨rfl, hb1⟩; have c0 := cell_keep hb1 HS0.out; have c1 := cell_keep hb1 HS1.out; have z1 := Nat.le_trans z0 hb1.size; have HB1 := Kept.mk (HB0.out.trans (hb1.mono HB0.out.size)); clear hb1) | (go_at_call 33; refine (CN.out _ (HR.out.below HB1.out)).mono ?_; rintro e w2 ⟨rfl, rfl⟩))
  have hs1 := HB1.out.size
  have hwr : IntKind.i64.wrap ((i : Int) + 1) = (i : Int) + 1 := by rw [IntKind.wrap_i64]; omega
  have CSx := Kept.mk (fun wx (h : wx.cell? ⟨w.heap.size, 0, none⟩ = some (.slice A l.length c) ∧ wx.cell? ⟨w.heap.size + 1, 0, none⟩ = some (.int .i64 (i : Int)) ∧ Below w1.heap.size w1 wx) => by have := CS.out wx (via HR.out HB1.out h); rwa [← hwr] at this)
  clear CS CP CN hwr HS0 HS1
  go_region_held3 (fun wx => wx.cell? ⟨w.heap.size, 0, none⟩ = some (.slice A l.length c) ∧ wx.cell? ⟨w.heap.size + 1, 0, none⟩ = some (.int .i64 (i : Int)) ∧ Below w1.heap.size w1 wx) (first
      | assumption
      | exact t_draw ⟨c0, c1, Below.refl _ _⟩
      | exact t_below (by assumption) (by assumption)
      | exact t_draw (t_alloc _ ⟨c0, c1, Below.refl _ _⟩)
      | exact t_alloc _ (by assumption)) (first
    | (go_at_call 38; refine (CSx.out _ (by assumption)).mono ?_; rintro e w3 ⟨v, rfl, hO, hb3⟩; first
        | (have hbA : Below (w1.alloc (.cells #[.int .i64 (i : Int)] 3)).drew.heap.size (w1.alloc (.cells #[.int .i64 (i : Int)] 3)).drew w3 := (by with_reducible exact hb3); have O1 : w3.ownsRow w1.heap.size 3 1 (.slice (some ⟨w1.heap.size, 0, none⟩) 1 1) 1 (ic [i]) := own_below (own_drew (own_one w1 i)) hbA; have O2 : w3.ownsRow w1.heap.size 3 1 v S.length (ic S) := own_low hO (by show w1.heap.size ≤ (w1.alloc (.cells #[.int .i64 (i : Int)] 3)).heap.size; rw [World.size_alloc]; exact Nat.le_succ _); have hz : w1.heap.size ≤ w3.heap.size := Nat.le_trans (by show w1.heap.size ≤ (w1.alloc (.cells #[.int .i64 (i : Int)] 3)).heap.size; rw [World.size_alloc]; exact Nat.le_succ _) hbA.size)
        | (have O1 : (w3.alloc (.cells #[.int .i64 (i : Int)] 3)).ownsRow w1.heap.size 3 1 (.slice (some ⟨w3.heap.size, 0, none⟩) 1 1) 1 (ic [i]) := own_low (own_one w3 i) hb3.size; have O2 : (w3.alloc (.cells #[.int .i64 (i : Int)] 3)).ownsRow w1.heap.size 3 1 v S.length (ic S) := hO.alloc _; have hz : w1.heap.size ≤ (w3.alloc (.cells #[.int .i64 (i : Int)] 3)).heap.size := (by rw [World.size_alloc]; exact Nat.le_succ_of_le hb3.size)))
    | (refine step_append_two rfl (.tmp 76) (.tmp 81) rfl w1.heap.size w1.heap.size _ _ 1 S.length (ic [i]) S (by rfl) O1 (by rfl) O2 (by omega) hz ?_; intro v5 w5 hO5 hg5; have hS5 := t_grown (w := w1) (a := w.heap.size) (b := 0) (c := w.heap.size + 1) (d := 0) (u := .slice A l.length c) (v := .int .i64 (i : Int)) (by omega) (by omega) (by assumption) O1 hg5))
  all_goals
    go_wp2
    go_ret
    exact ⟨_, rfl, row_cons (own_low hO5 hs1), HB1.out.trans (hS5.2.2.mono hs1)⟩
theorem up_at (Ba Bt : Nat) (A : Option Addr) (c : Nat) (l : List Ptr.Nd) (q : Nat) (hq : q < l.length) (hl : l.length ≤ 100000) (hrng : Ptr.Rng l l.length) (w : World) (hr : RdN w A l) (hA : w.cell? ⟨Ba, 0, none⟩ = some (.int .i64 (q : Int))) (hT : w.cell? ⟨Bt, 0, none⟩ = some (.slice A l.length c)) :
    Calls Tryz.prog 35 #[.func (.func 60) #[] #[.pointer (some ⟨Bt, 0, none⟩), .pointer (some ⟨Ba, 0, none⟩)]] w fun e w' =>
      ∃ v, e = .returned v ∧ w'.ownsRow w.heap.size 3 1 v (Ptr.upL l q).length (ic (Ptr.upL l q)) ∧ Below w.heap.size w w' := by
  refine (callsIn_wide.1 (collect_in Fence.wide 5 trivial trivial rfl (by omega) _ _ trivial (enters_of Tryz.func60 (by kernel_rfl) rfl) _ _ l.length (by omega) _ (up_stops 3 (by omega) _ _ A c l q hq hrng _ hr hA hT))).mono ?_
  rintro e w' ⟨v, xs, rfl, rfl, hO, hb⟩
  exact ⟨v, rfl, hO, hb⟩
theorem anc_at (A : Option Addr) (L c : Nat) (q : Int) (w : World) :
    Calls Tryz.prog 37 #[.slice A L c, .int .i64 q] w fun e w' => e = .returned (.func (.func 60) #[] #[.pointer (some ⟨w.heap.size, 0, none⟩), .pointer (some ⟨w.heap.size + 1, 0, none⟩)]) ∧
      Below w.heap.size w w' ∧ w'.cell? ⟨w.heap.size, 0, none⟩ = some (.slice A L c) ∧ w'.cell? ⟨w.heap.size + 1, 0, none⟩ = some (.int .i64 q) := by
  refine (ancestors_any A L c q w).mono ?_
  rintro e w' ⟨rfl, rfl⟩
  refine ⟨rfl, ((Below.refl _ w).alloc (Nat.le_refl _) _).alloc (by simp) _, cell_keep ((Below.refl _ _).alloc (Nat.le_refl _) _) (by rw [World.cell?_alloc_new]; rfl), ?_⟩
  have := World.cell?_alloc_new (w.alloc (.cells #[.slice A L c] 22)) #[.int .i64 q] 3 0
  rw [World.size_alloc] at this
  exact this
set_option maxRecDepth 100000 in
set_option maxHeartbeats 4000000 in
theorem go_12 (A : Option Addr) (l : List Ptr.Nd) (c i : Nat) (w : World) (hr : RdN w A l) (hl : l.length ≤ 100000) (hf : FitP l) (hE : TEnv w) (hi : i < l.length) (hp : placeB l i = true) :
    Calls Tryz.prog 9 #[.slice A l.length c, .int .i64 i, .int .u8 12] w fun e w' => ∃ v, e = .returned v ∧ w'.ownsRow w.heap.size 3 1 v (goL l i 12).length (ic (goL l i 12)) ∧ Below w.heap.size w w' := by
  have hgo : goL l i 12 = i :: Ptr.upL l i := rfl
  rw [hgo]
  clear hgo
  have cP := fun wx (hx : Below w.heap.size w wx) => place_any A l c i wx (hr.below hx) hl hf (hE.below hx)
  rw [hp] at cP
  have hrng := (place_rng hp).1
  have cN := fun wx hx => end_any A l c i wx hx hi hl
  rw [endN_same] at cN
  obtain ⟨hn1, hn2, _, _⟩ := Ptr.endN_spec l i hi
  have cK := fun Ba Bt wx hx hA hT => up_at Ba Bt A c l i hi hl hrng wx hx hA hT
  have hSL : (Ptr.upL l i).length ≤ 100000 := by have := upC_len l i (Ptr.par l i); unfold Ptr.upL; omega
  generalize Ptr.upL l i = KL at cK hSL ⊢
  generalize Ptr.endN l i = N at cN hn1 hn2
  have HR := Kept.mk hr
  have CP := Kept.mk cP
  have CN := Kept.mk cN
  have CK := Kept.mk cK
  have hb0 : Below w.heap.size w ((w.alloc (.cells #[.slice A l.length c] 22)).alloc (.cells #[.int .i64 i] 3)) := ((Below.refl _ _).alloc (Nat.le_refl _) _).alloc (by simp) _
  have HB0 := Kept.mk hb0
  have s0 : ((w.alloc (.cells #[.slice A l.length c] 22)).alloc (.cells #[.int .i64 i] 3)).cell? ⟨w.heap.size, 0, none⟩ = some (.slice A l.length c) := cell_keep ((Below.refl _ _).alloc (Nat.le_refl _) _) (by rw [World.cell?_alloc_new]; rfl)
  have s1 : ((w.alloc (.cells #[.slice A l.length c] 22)).alloc (.cells #[.int .i64 i] 3)).cell? ⟨w.heap.size + 1, 0, none⟩ = some (.int .i64 i) := by
    have := World.cell?_alloc_new (w.alloc (.cells #[.slice A l.length c] 22)) #[.int .i64 i] 3 0
    rw [World.size_alloc] at this
    exact this
  have HS0 := Kept.mk s0; have HS1 := Kept.mk s1
  have z0 : w.heap.size + 2 ≤ ((w.alloc (.cells #[.slice A l.length c] 22)).alloc (.cells #[.int .i64 i] 3)).heap.size := by simp
  clear hr hf hE hp cP cN hb0 s0 s1 hrng cK
  go_enter Tryz.func9, Tryz.ntmps9
  go_upto_region 17 with (first | (go_at_call 32; refine (CP.out _ HB0.out).mono ?_; rintro e w1 ⟨rfl, hb1⟩; have c0 := cell_keep hb1 HS0.out; have c1 := cell_keep hb1 HS1.out; have z1 := Nat.le_trans z0 hb1.size; have HB1 := Kept.mk (HB0.out.trans (hb1.mono HB0.out.size)); clear hb1) | (go_at_call 33; refine (CN.out _ (HR.out.below HB1.out)).mono ?_; rintro e w2 ⟨rfl, rfl⟩))
  have hs1 := HB1.out.size
  have CAn := Kept.mk (fun wx (h : wx.cell? ⟨w.heap.size, 0, none⟩ = some (.slice A l.length c) ∧ wx.cell? ⟨w.heap.size + 1, 0, none⟩ = some (.int .i64 (i : Int)) ∧ Below w1.heap.size w1 wx) => anc_at A l.length c i wx)
  clear CP CN HS0 HS1
  go_region_held3 (fun wx => wx.cell? ⟨w.heap.size, 0, none⟩ = some (.slice A l.length c) ∧ wx.cell? ⟨w.heap.size + 1, 0, none⟩ = some (.int .i64 (i : Int)) ∧ Below w1.heap.size w1 wx) (first
      | assumption
      | exact t_draw ⟨c0, c1, Below.refl _ _⟩
      | exact t_below (by assumption) (by assumption)
      | exact t_draw (t_alloc _ ⟨c0, c1, Below.refl _ _⟩)
      | exact t_alloc _ (by assumption)) (first
    | (go_at_call 37; refine (anc_at A l.length c i _).mono ?_; rintro e w2 ⟨rfl, hb2, dT, dA⟩; first
        | (have hbA : Below (w1.alloc (.cells #[.int .i64 (i : Int)] 3)).drew.heap.size (w1.alloc (.cells #[.int .i64 (i : Int)] 3)).drew w2 := (by with_reducible exact hb2); have OA : w2.ownsRow w1.heap.size 3 1 (.slice (some ⟨w1.heap.size, 0, none⟩) 1 1) 1 (ic [i]) := own_below (own_drew (own_one w1 i)) hbA; have hsz : (w1.alloc (.cells #[.int .i64 (i : Int)] 3)).drew.heap.size = w1.heap.size + 1 := World.size_alloc w1 _; rw [hsz] at dT dA; have hS2 := t_below (w := w1) (a := w.heap.size) (b := 0) (c := w.heap.size + 1) (d := 0) (u := .slice A l.length c) (v := .int .i64 (i : Int)) (by assumption) hb2; have CX2 := CK.out _ _ w2 (via HR.out HB1.out hS2) dA dT; have hz2 : w1.heap.size ≤ w2.heap.size := hS2.2.2.size)
        | (have hS2 := t_below (w := w1) (a := w.heap.size) (b := 0) (c := w.heap.size + 1) (d := 0) (u := .slice A l.length c) (v := .int .i64 (i : Int)) (by assumption) hb2; have CX2 := CK.out _ _ w2 (via HR.out HB1.out hS2) dA dT; have CX3 := CK.out _ _ (w2.alloc (.cells #[.int .i64 (i : Int)] 3)) (via HR.out HB1.out (t_alloc (.cells #[.int .i64 (i : Int)] 3) hS2)) (cell_keep ((Below.refl _ _).alloc (Nat.le_refl _) _) dA) (cell_keep ((Below.refl _ _).alloc (Nat.le_refl _) _) dT); have hz2 : w1.heap.size ≤ w2.heap.size := hS2.2.2.size))
    | (go_at_call 35; first
        | (refine CX2.mono ?_; rintro e w3 ⟨v, rfl, hO, hb3⟩; first
            | (have O1 : w3.ownsRow w1.heap.size 3 1 (.slice (some ⟨w1.heap.size, 0, none⟩) 1 1) 1 (ic [i]) := own_below OA hb3; have O2 : w3.ownsRow w1.heap.size 3 1 v KL.length (ic KL) := own_low hO hz2; have hz : w1.heap.size ≤ w3.heap.size := Nat.le_trans hz2 hb3.size)
            | (have O1 : (w3.alloc (.cells #[.int .i64 (i : Int)] 3)).ownsRow w1.heap.size 3 1 (.slice (some ⟨w3.heap.size, 0, none⟩) 1 1) 1 (ic [i]) := own_low (own_one w3 i) (Nat.le_trans hz2 hb3.size); have O2 : (w3.alloc (.cells #[.int .i64 (i : Int)] 3)).ownsRow w1.heap.size 3 1 v KL.length (ic KL) := (own_low hO hz2).alloc _; have hz : w1.heap.size ≤ (w3.alloc (.cells #[.int .i64 (i : Int)] 3)).heap.size := (by rw [World.size_alloc]; exact Nat.le_succ_of_le (Nat.le_trans hz2 hb3.size))))
        | (refine CX3.mono ?_; rintro e w3 ⟨v, rfl, hO, hb3⟩; have hz3 : w1.heap.size ≤ (w2.alloc (.cells #[.int .i64 (i : Int)] 3)).heap.size := (by rw [World.size_alloc]; exact Nat.le_succ_of_le hz2); have O1 : w3.ownsRow w1.heap.size 3 1 (.slice (some ⟨w2.heap.size, 0, none⟩) 1 1) 1 (ic [i]) := own_low (own_below (own_one w2 i) hb3) hz2; have O2 : w3.ownsRow w1.heap.size 3 1 v KL.length (ic KL) := own_low hO hz3; have hz : w1.heap.size ≤ w3.heap.size := Nat.le_trans hz3 hb3.size))
    | (refine step_append_two rfl (.tmp 60) (.tmp 64) rfl w1.heap.size w1.heap.size _ _ 1 KL.length (ic [i]) KL (by rfl) O1 (by rfl) O2 (by omega) hz ?_; intro v5 w5 hO5 hg5; have hS5 := t_grown (w := w1) (a := w.heap.size) (b := 0) (c := w.heap.size + 1) (d := 0) (u := .slice A l.length c) (v := .int .i64 (i : Int)) (by omega) (by omega) (by assumption) O1 hg5))
  all_goals
    go_wp2
    go_ret
    exact ⟨_, rfl, row_cons (own_low hO5 hs1), HB1.out.trans (hS5.2.2.mono hs1)⟩
set_option maxRecDepth 100000 in
set_option maxHeartbeats 4000000 in
theorem go_none (X : Int) (hX : X < 1 ∨ 12 < X) (A : Option Addr) (l : List Ptr.Nd) (c i : Nat) (w : World) (hr : RdN w A l) (hl : l.length ≤ 100000) (hf : FitP l) (hE : TEnv w) (hi : i < l.length) (hp : placeB l i = true) :
    Calls Tryz.prog 9 #[.slice A l.length c, .int .i64 i, .int .u8 X] w fun e w' => ∃ v, e = .returned v ∧ w'.ownsRow w.heap.size 3 1 v (goL l i X).length (ic (goL l i X)) ∧ Below w.heap.size w w' := by
  have hgo : goL l i X = [] := by
    unfold goL
    repeat rw [if_neg (by omega)]
  rw [hgo]
  clear hgo
  have cP := fun wx (hx : Below w.heap.size w wx) => place_any A l c i wx (hr.below hx) hl hf (hE.below hx)
  rw [hp] at cP
  have hrng := (place_rng hp).1
  have cN := fun wx hx => end_any A l c i wx hx hi hl
  rw [endN_same] at cN
  obtain ⟨hn1, hn2, _, _⟩ := Ptr.endN_spec l i hi
  generalize Ptr.endN l i = N at cN hn1 hn2
  have HR := Kept.mk hr
  have CP := Kept.mk cP
  have CN := Kept.mk cN
  have hb0 : Below w.heap.size w ((w.alloc (.cells #[.slice A l.length c] 22)).alloc (.cells #[.int .i64 i] 3)) := ((Below.refl _ _).alloc (Nat.le_refl _) _).alloc (by simp) _
  have HB0 := Kept.mk hb0
  have s0 : ((w.alloc (.cells #[.slice A l.length c] 22)).alloc (.cells #[.int .i64 i] 3)).cell? ⟨w.heap.size, 0, none⟩ = some (.slice A l.length c) := cell_keep ((Below.refl _ _).alloc (Nat.le_refl _) _) (by rw [World.cell?_alloc_new]; rfl)
  have s1 : ((w.alloc (.cells #[.slice A l.length c] 22)).alloc (.cells #[.int .i64 i] 3)).cell? ⟨w.heap.size + 1, 0, none⟩ = some (.int .i64 i) := by
    have := World.cell?_alloc_new (w.alloc (.cells #[.slice A l.length c] 22)) #[.int .i64 i] 3 0
    rw [World.size_alloc] at this
    exact this
  have HS0 := Kept.mk s0; have HS1 := Kept.mk s1
  have z0 : w.heap.size + 2 ≤ ((w.alloc (.cells #[.slice A l.length c] 22)).alloc (.cells #[.int .i64 i] 3)).heap.size := by simp
  have qs : (X == 1) = false ∧ (X == 2) = false ∧ (X == 3) = false ∧ (X == 4) = false ∧ (X == 5) = false ∧ (X == 6) = false ∧ (X == 7) = false ∧ (X == 8) = false ∧ (X == 9) = false ∧ (X == 10) = false ∧ (X == 11) = false ∧ (X == 12) = false := by simp; omega
  obtain ⟨q1, q2, q3, q4, q5, q6, q7, q8, q9, q10, q11, q12⟩ := qs
  clear hX hr hf hE hp cP cN hb0 s0 s1 hrng
  go_enter Tryz.func9, Tryz.ntmps9
  go_wp2_with (first | (go_at_call 32; refine (CP.out _ HB0.out).mono ?_; rintro e w1 ⟨rfl, hb1⟩; have c0 := cell_keep hb1 HS0.out; have c1 := cell_keep hb1 HS1.out; have z1 := Nat.le_trans z0 hb1.size; have HB1 := Kept.mk (HB0.out.trans (hb1.mono HB0.out.size)); clear hb1) | (go_at_call 33; refine (CN.out _ (HR.out.below HB1.out)).mono ?_; rintro e w2 ⟨rfl, rfl⟩))
  go_ret
  exact ⟨_, rfl, World.ownsRow_nil _ _ _ _, HB1.out⟩
set_option maxRecDepth 100000 in
set_option maxHeartbeats 4000000 in
theorem go_out (X : Int) (A : Option Addr) (l : List Ptr.Nd) (c : Nat) (a : Int) (w : World) (hr : RdN w A l) (hl : l.length ≤ 100000) (hf : FitP l) (hE : TEnv w) (hp : placeB l a = false) :
    Calls Tryz.prog 9 #[.slice A l.length c, .int .i64 a, .int .u8 X] w fun e w' => ∃ v, e = .returned v ∧ w'.ownsRow w.heap.size 3 1 v ([] : List Nat).length (ic []) ∧ Below w.heap.size w w' := by
  have cP := fun wx (hx : Below w.heap.size w wx) => place_any A l c a wx (hr.below hx) hl hf (hE.below hx)
  rw [hp] at cP
  have CP := Kept.mk cP
  have HB0 := Kept.mk (((Below.refl w.heap.size w).alloc (Nat.le_refl _) (.cells #[.slice A l.length c] 22)).alloc (by simp) (.cells #[.int .i64 a] 3))
  have s0 : ((w.alloc (.cells #[.slice A l.length c] 22)).alloc (.cells #[.int .i64 a] 3)).cell? ⟨w.heap.size, 0, none⟩ = some (.slice A l.length c) := cell_keep ((Below.refl _ _).alloc (Nat.le_refl _) _) (by rw [World.cell?_alloc_new]; rfl)
  have s1 : ((w.alloc (.cells #[.slice A l.length c] 22)).alloc (.cells #[.int .i64 a] 3)).cell? ⟨w.heap.size + 1, 0, none⟩ = some (.int .i64 a) := by
    have := World.cell?_alloc_new (w.alloc (.cells #[.slice A l.length c] 22)) #[.int .i64 a] 3 0
    rw [World.size_alloc] at this
    exact this
  clear hr hf hE hp cP
  go_enter Tryz.func9, Tryz.ntmps9
  go_wp2_with (first | (go_at_call 32; refine (CP.out _ HB0.out).mono ?_; rintro e w1 ⟨rfl, hb1⟩; have HB1 := Kept.mk (HB0.out.trans (hb1.mono HB0.out.size)); clear hb1))
  go_ret
  exact ⟨_, rfl, World.ownsRow_nil _ _ _ _, HB1.out⟩
/-- where Go goes, of any place and any axis -/
def goB (l : List Ptr.Nd) (a X : Int) : List Nat := if placeB l a = true then goL l a.toNat X else []
theorem go_any (A : Option Addr) (l : List Ptr.Nd) (c : Nat) (a X : Int) (w : World) (hr : RdN w A l) (hl : l.length ≤ 100000) (hf : FitP l) (hE : TEnv w) :
    Calls Tryz.prog 9 #[.slice A l.length c, .int .i64 a, .int .u8 X] w fun e w' => ∃ v, e = .returned v ∧ w'.ownsRow w.heap.size 3 1 v (goB l a X).length (ic (goB l a X)) ∧ Below w.heap.size w w' := by
  unfold goB
  cases hp : placeB l a with
  | false => exact go_out X A l c a w hr hl hf hE hp
  | true =>
    rw [if_pos rfl]
    have hb : 0 ≤ a ∧ a < l.length := by
      have := hp
      unfold placeB at this
      simp at this
      omega
    obtain ⟨i, rfl⟩ : ∃ i : Nat, a = i := ⟨a.toNat, by omega⟩
    have hi : i < l.length := by omega
    rw [Int.toNat_natCast]
    by_cases hX : X < 1 ∨ 12 < X
    · exact go_none X hX A l c i w hr hl hf hE hi hp
    · have : X = 1 ∨ X = 2 ∨ X = 3 ∨ X = 4 ∨ X = 5 ∨ X = 6 ∨ X = 7 ∨ X = 8 ∨ X = 9 ∨ X = 10 ∨ X = 11 ∨ X = 12 := by omega
      rcases this with rfl | rfl | rfl | rfl | rfl | rfl | rfl | rfl | rfl | rfl | rfl | rfl
      · exact go_1 A l c i w hr hl hf hE hi hp
      · exact go_2 A l c i w hr hl hf hE hi hp
      · exact go_3 A l c i w hr hl hf hE hi hp
      · exact go_4 A l c i w hr hl hf hE hi hp
      · exact go_5 A l c i w hr hl hf hE hi hp
      · exact go_6 A l c i w hr hl hf hE hi hp
      · exact go_7 A l c i w hr hl hf hE hi hp
      · exact go_8 A l c i w hr hl hf hE hi hp
      · exact go_9 A l c i w hr hl hf hE hi hp
      · exact go_10 A l c i w hr hl hf hE hi hp
      · exact go_11 A l c i w hr hl hf hE hi hp
      · exact go_12 A l c i w hr hl hf hE hi hp
end Go.Proofs.YtkcpfjhdbbapiaaGreatDoor.Wtr
namespace Go.Proofs.YtkcpfjhdbbapiaaGreatDoor.Wtr
open Go Go.RowKit Go.Proofs.YtkcpfjhdbbapiaaGreatDoor.Kb Go.Proofs.YtkcpfjhdbbapiaaGreatDoor.Flt
/-- the places ahead of n at which something holds -/
def pk (P : Nat → Bool) (n : Nat) : List Nat := (List.range n).filter P
theorem pk_step (P : Nat → Bool) (n : Nat) : pk P (n + 1) = pk P n ++ (if P n = true then [n] else []) := by
  unfold pk
  rw [List.range_succ, List.filter_append]
  congr 1
  cases h : P n <;> simp [h]
theorem pk_le (P : Nat → Bool) (n : Nat) : (pk P n).length ≤ n := by
  unfold pk
  refine Nat.le_trans (List.length_filter_le _ _) ?_
  rw [List.length_range]
  exact Nat.le_refl _
theorem pk_mid (P Q : Nat → Bool) (n a b : Nat) (h1 : a ≤ b) (h2 : b ≤ n) (h : ∀ j, j < n → P j = (decide (a ≤ j) && decide (j < b) && Q j)) : pk P n = (List.range' a (b - a)).filter Q := by
  unfold pk
  obtain ⟨c, rfl⟩ : ∃ c, b = a + c := ⟨b - a, by omega⟩
  obtain ⟨d, rfl⟩ : ∃ d, n = a + c + d := ⟨n - (a + c), by omega⟩
  rw [List.range_eq_range', Nat.add_assoc, ← List.range'_append_1, ← List.range'_append_1, List.filter_append, List.filter_append, Nat.zero_add, Nat.add_sub_cancel_left]
  have e1 : (List.range' 0 a).filter P = [] := List.filter_eq_nil_iff.2 fun j hj => by
    have := List.mem_range'_1.1 hj
    rw [h j (by omega), decide_eq_false (by omega)]
    simp
  have e3 : (List.range' (a + c) d).filter P = [] := List.filter_eq_nil_iff.2 fun j hj => by
    have := List.mem_range'_1.1 hj
    rw [h j (by omega), decide_eq_false (p := j < a + c) (by omega)]
    simp
  have e2 : (List.range' a c).filter P = (List.range' a c).filter Q := List.filter_congr fun j hj => by
    have := List.mem_range'_1.1 hj
    rw [h j (by omega), decide_eq_true (p := a ≤ j) (by omega), decide_eq_true (p := j < a + c) (by omega)]
    simp
  rw [e1, e2, e3]
  simp
def belP (l : List Ptr.Nd) (a j : Nat) : Bool := !(Ptr.kin l j == 3) && (decide (a < j) && Ptr.belB l j a)
def behP (l : List Ptr.Nd) (a j : Nat) : Bool := !(Ptr.kin l j == 3) && (decide (a < j) && !Ptr.belB l j a)
def aftP (l : List Ptr.Nd) (a j : Nat) : Bool := behP l a j && !sibDel l a j
def aheP (l : List Ptr.Nd) (a j : Nat) : Bool := !(Ptr.kin l j == 3) && (decide (j < a) && !Ptr.belB l a j)
def befP (l : List Ptr.Nd) (a j : Nat) : Bool := aheP l a j && !sibDel l a j
section
variable {l : List Ptr.Nd} {a : Nat} (hg : Ptr.Rng l l.length) (ho : ∀ k, k < l.length → Ptr.openB l k = true) (ha : a < l.length)
include hg ho ha
theorem bel_dec (j : Nat) (hj : j < l.length) (h : a < j) : Ptr.belB l j a = decide (j < Ptr.endN l a) := by
  rw [Bool.eq_iff_iff, Ptr.belB_iff hg ho a ha j hj, decide_eq_true_iff]
  omega
theorem bel_all : pk (belP l a) l.length = stretchL l (a + 1) (Ptr.endN l a) := by
  obtain ⟨s1, s2, _, _⟩ := Ptr.endN_spec l a ha
  refine pk_mid _ _ _ _ _ s1 s2 fun j hj => ?_
  unfold belP
  by_cases h : a < j
  · rw [bel_dec hg ho ha j hj h, decide_eq_true h, decide_eq_true (p := a + 1 ≤ j) h]
    simp [Bool.and_comm]
  · rw [decide_eq_false h, decide_eq_false (p := a + 1 ≤ j) h]
    simp
theorem beh_mid (Q : Nat → Bool) : pk (fun j => behP l a j && Q j) l.length = (stretchL l (Ptr.endN l a) l.length).filter Q := by
  obtain ⟨s1, s2, _, _⟩ := Ptr.endN_spec l a ha
  unfold stretchL
  rw [List.filter_filter]
  refine pk_mid _ _ _ _ _ s2 (Nat.le_refl _) fun j hj => ?_
  unfold behP
  by_cases h : a < j
  · rw [bel_dec hg ho ha j hj h, decide_eq_true h, decide_eq_true hj]
    by_cases h2 : j < Ptr.endN l a
    · rw [decide_eq_true h2, decide_eq_false (p := Ptr.endN l a ≤ j) (by omega)]; simp
    · rw [decide_eq_false h2, decide_eq_true (p := Ptr.endN l a ≤ j) (by omega)]; simp [Bool.and_comm]
  · rw [decide_eq_false h, decide_eq_false (p := Ptr.endN l a ≤ j) (by omega)]
    simp
theorem beh_all : pk (behP l a) l.length = stretchL l (Ptr.endN l a) l.length := by
  have := beh_mid hg ho ha fun _ => true
  rw [List.filter_eq_self.2 (fun _ _ => rfl)] at this
  rw [← this]
  congr 1
  funext j
  rw [Bool.and_true]
theorem aft_all : pk (aftP l a) l.length = (stretchL l (Ptr.endN l a) l.length).filter fun x => !sibDel l a x := beh_mid hg ho ha fun x => !sibDel l a x
theorem ahe_all : pk (aheP l a) l.length = (stretchL l 0 a).filter fun x => !decide (x ∈ Ptr.upL l a) := by
  have _ := ho
  unfold stretchL
  rw [List.filter_filter]
  refine pk_mid _ _ _ _ _ (Nat.zero_le _) (by omega) fun j hj => ?_
  unfold aheP
  by_cases h : j < a
  · have : Ptr.belB l a j = decide (j ∈ Ptr.upL l a) := by
      rw [Bool.eq_iff_iff, decide_eq_true_iff, Ptr.upL_mem hg a j ha h]
    rw [this, decide_eq_true h]
    simp [Bool.and_comm]
  · rw [decide_eq_false h]; simp
theorem bef_all : pk (befP l a) l.length = (stretchL l 0 a).filter fun x => !sibDel l a x := by
  unfold stretchL
  rw [List.filter_filter]
  refine pk_mid _ _ _ _ _ (Nat.zero_le _) (by omega) fun j hj => ?_
  unfold befP aheP
  by_cases h : j < a
  · rw [decide_eq_true h]
    by_cases hs : sibDel l a j = true
    · rw [hs]; simp
    · have hs : sibDel l a j = false := by simpa using hs
      have hb : Ptr.belB l a j = false := by
        cases hx : Ptr.belB l a j with
        | false => rfl
        | true =>
          obtain ⟨h1, h2⟩ := (Ptr.belB_iff hg ho j hj a ha).1 hx
          obtain ⟨_, _, s3, _⟩ := Ptr.endN_spec l j hj
          have h3 := s3 a h h2
          have h4 := hg j hj
          unfold sibDel at hs
          simp at hs
          omega
      rw [hs, hb]
      simp
  · rw [decide_eq_false h]; simp
theorem up_take : (Ptr.upL l a).take 1 = if 0 ≤ Ptr.par l a then [(Ptr.par l a).toNat] else [] := by
  have hr := hg a ha
  have _ := ho
  unfold Ptr.upL
  by_cases h : 0 ≤ Ptr.par l a
  · rw [if_pos h]
    obtain ⟨f, rfl⟩ : ∃ f, a = f + 1 := ⟨a - 1, by omega⟩
    rw [Ptr.upC_at, if_neg (by omega)]
    rfl
  · rw [if_neg h]
    cases a with
    | zero => rfl
    | succ f => rw [Ptr.upC_at, if_pos (by omega)]; rfl
end
section
variable {l : List Ptr.Nd} {a k : Nat}
theorem pks_attr (hZ : (Ptr.kin l k == 3) = true) : belP l a k = false ∧ befP l a k = false ∧ behP l a k = false ∧ aheP l a k = false ∧ aftP l a k = false := by
  simp [belP, befP, behP, aheP, aftP, hZ]
theorem pks_self (l : List Ptr.Nd) (a : Nat) : belP l a a = false ∧ befP l a a = false ∧ behP l a a = false ∧ aheP l a a = false ∧ aftP l a a = false := by
  simp [belP, befP, behP, aheP, aftP]
theorem pks_up_in (hZ : (Ptr.kin l k == 3) = false) (h : a < k) (hT : Ptr.belB l k a = true) : belP l a k = true ∧ befP l a k = false ∧ behP l a k = false ∧ aheP l a k = false ∧ aftP l a k = false := by
  have h2 : ¬ k < a := by omega
  simp [belP, befP, behP, aheP, aftP, hZ, h, h2, hT]
theorem pks_up_out (hZ : (Ptr.kin l k == 3) = false) (h : a < k) (hT : Ptr.belB l k a = false) : belP l a k = false ∧ befP l a k = false ∧ behP l a k = true ∧ aheP l a k = false ∧ aftP l a k = !sibDel l a k := by
  have h2 : ¬ k < a := by omega
  simp [belP, befP, behP, aheP, aftP, hZ, h, h2, hT]
theorem pks_dn_in (hZ : (Ptr.kin l k == 3) = false) (h : k < a) (hT : Ptr.belB l a k = true) : belP l a k = false ∧ befP l a k = false ∧ behP l a k = false ∧ aheP l a k = false ∧ aftP l a k = false := by
  have h2 : ¬ a < k := by omega
  simp [belP, befP, behP, aheP, aftP, hZ, h, h2, hT]
theorem pks_dn_out (hZ : (Ptr.kin l k == 3) = false) (h : k < a) (hT : Ptr.belB l a k = false) : belP l a k = false ∧ befP l a k = (!sibDel l a k) ∧ behP l a k = false ∧ aheP l a k = true ∧ aftP l a k = false := by
  have h2 : ¬ a < k := by omega
  simp [belP, befP, behP, aheP, aftP, hZ, h, h2, hT]
theorem sib_cases (l : List Ptr.Nd) (a k : Nat) : ((Ptr.par l k == Ptr.par l a) = true ∧ (Ptr.kin l a == 3) = false ∧ sibDel l a k = false) ∨ ((Ptr.par l k == Ptr.par l a) = true ∧ (Ptr.kin l a == 3) = true ∧ sibDel l a k = true) ∨ ((Ptr.par l k == Ptr.par l a) = false ∧ sibDel l a k = true) := by
  unfold sibDel
  rw [bne]
  cases (Ptr.par l k == Ptr.par l a) <;> cases (Ptr.kin l a == 3) <;> simp
end
/-- rows of numbers of the call's own, each in a block of its own -/
def Own (w : World) (B : Nat) (vs : List (Value × List Nat)) : Prop :=
  (∀ (j : Nat) (p : Value × List Nat), vs[j]? = some p → w.ownsRow B 3 1 p.1 p.2.length (ic p.2)) ∧ ∀ (j k : Nat) (p q : Value × List Nat) (g : Nat), vs[j]? = some p → vs[k]? = some q → j ≠ k → p.1.ownBlock = some g → q.1.ownBlock = some g → False
theorem Own.nil (w : World) (B n : Nat) : Own w B (List.replicate n (.slice none 0 0, [])) := by
  refine ⟨fun j p h => ?_, fun j k p q g h _ _ hp _ => ?_⟩
  · have := List.eq_of_mem_replicate (List.mem_of_getElem? h)
    subst this
    exact World.ownsRow_nil _ _ _ _
  · have := List.eq_of_mem_replicate (List.mem_of_getElem? h)
    subst this
    cases hp
theorem Own.alloc {w : World} {B : Nat} {vs : List (Value × List Nat)} (h : Own w B vs) (o : Obj) : Own (w.alloc o) B vs := ⟨fun j p hj => (h.1 j p hj).alloc o, h.2⟩
theorem Own.put {w w' : World} {B : Nat} {vs : List (Value × List Nat)} (h : Own w B vs) (j x : Nat) (v v' : Value) (L : List Nat) (hj : vs[j]? = some (v, L)) (ho : w'.ownsRow B 3 1 v' (L.length + 1) (ic L ++ [.int .i64 (x : Int)])) (hgr : w.grownBy w' v.ownBlock) (hat : v'.ownBlock = v.ownBlock ∨ v'.ownBlock = some w.heap.size) : Own w' B (vs.set j (v', L ++ [x])) := by
  obtain ⟨h1, h2⟩ := h
  have h0 : w'.ownsRow B 3 1 v' (L ++ [x]).length (ic (L ++ [x])) := by
    rw [ic_append, List.length_append]
    exact ho
  -- another row lies apart from the new one
  have apart : ∀ k q g, vs[k]? = some q → j ≠ k → v'.ownBlock = some g → q.1.ownBlock = some g → False := by
    intro k q g hk hne hv hq
    rcases hat with h | h
    · exact h2 j k (v, L) q g hj hk hne (by rw [← h]; exact hv) hq
    · have := ((h1 k q hk).lt g hq).2
      rw [h] at hv
      cases hv
      omega
  refine ⟨fun k p hk => ?_, fun k m p q g hk hm hne hp hq => ?_⟩
  · rw [List.getElem?_set] at hk
    split at hk
    · rename_i e
      split at hk
      · cases hk
        exact h0
      · cases hk
    · rename_i e
      refine (h1 k p hk).kept hgr ?_
      cases hb : p.1.ownBlock with
      | none => exact .inl rfl
      | some g => exact .inr fun e2 => h2 j k (v, L) p g hj hk e e2.symm hb
  · rw [List.getElem?_set] at hk hm
    split at hk
    · split at hk
      · cases hk
        split at hm
        · omega
        · rename_i e1 _ e2
          exact apart m q g hm e2 hp hq
      · cases hk
    · split at hm
      · split at hm
        · cases hm
          rename_i e1 _ _
          exact apart k p g hk e1 hq hp
        · cases hm
      · exact h2 k m p q g hk hm hne hp hq
end Go.Proofs.YtkcpfjhdbbapiaaGreatDoor.Wtr
namespace Go.Proofs.YtkcpfjhdbbapiaaGreatDoor.Wtr
open Go Go.RowKit Go.Proofs.YtkcpfjhdbbapiaaGreatDoor.Kb Go.Proofs.YtkcpfjhdbbapiaaGreatDoor.Flt
theorem drop_rev (L : List Nat) (k : Nat) (h : k < L.length) : (L.drop k).reverse = (L.drop (k + 1)).reverse ++ [L[k]] := by
  rw [List.drop_eq_getElem_cons h, List.reverse_cons]
set_option maxHeartbeats 2000000 in
theorem turned_any (L : List Nat) (A : Option Addr) (c : Nat) (w : World) (h : RdI w A L) (hl : L.length ≤ 100000) :
    Calls Tryz.prog 46 #[.slice A L.length c] w fun e w' => ∃ v', e = .returned v' ∧ w'.ownsRow w.heap.size 3 1 v' L.reverse.length (ic L.reverse) ∧ Below w.heap.size w w' := by
  obtain ⟨i0', hi, hz0, hz1, hz2⟩ := info_parts infoI'
  have HR := Kept.mk h
  clear h
  go_enter Tryz.func46, Tryz.ntmps46
  go_wp2
  go_loopw [3, 4] (fun v i wx => ∃ (m : Nat) (z : Int), m ≤ L.length ∧ z = (m : Int) - 1 ∧ i = .int .i64 z ∧ Kept (wx.ownsRow w.heap.size 3 1 v (L.drop m).reverse.length (ic (L.drop m).reverse)) ∧ Kept (Below w.heap.size w wx)) (fun _ i _ => (intOf i + 1).toNat)
  case atStart => exact ⟨L.length, _, Nat.le_refl _, rfl, by go_num, ⟨by rw [List.drop_length]; exact World.ownsRow_nil _ _ _ _⟩, ⟨Below.refl _ _⟩⟩
  case round =>
    obtain ⟨m, z, hm, hz, rfl, HO, HB⟩ := hrel
    have s3 := HB.out.size
    cases m with
    | zero =>
      obtain rfl : z = -1 := by omega
      clear hz hm
      go_wp2
      go_ret
      exact ⟨_, rfl, by simpa using HO.out, HB.out⟩
    | succ k =>
      obtain rfl : z = (k : Int) := by omega
      clear hz
      have hk : k < L.length := by omega
      have hd := drop_rev L k hk
      obtain ⟨b, rfl, hb⟩ := HR.out (by intro e; rw [e] at hk; exact absurd hk (by simp))
      have q := cell_keep HB.out (hb k _ (List.getElem?_eq_getElem hk))
      have k0 : (0 : Int) ≤ (k : Int) := by omega
      have k1 : (k : Int) < (L.length : Int) := by omega
      have hlen : (L.drop (k + 1)).reverse.length ≤ 100000 := by simp; omega
      generalize (L.drop (k + 1)).reverse = M at HO hd hlen
      generalize L[k] = x at q hd
      go_wp2_with (at_builtin; refine wpList_append_own _ rfl (.tmp 12) (.tmp 17) 27 rfl w.heap.size 3 i0' (.int .i64 0) 1 8 Tryz.underlying27 hi hz0 hz1 hz2 rfl (by decide) _ _ _ (by rfl) (HO.out.alloc _) ⟨wr.heap.size, 0, none⟩ 1 1 [.int .i64 (x : Int)] (by rfl) (by rfl) (cell_one_new _ _ _) (by intro u hu; simp at hu; subst hu; rfl) (by unfold maxLen; omega) (by omega) (by simp; omega) ?_; intro v' w5 hown5 hgrow5 _; have hb5 := Below.grown (HB.out.alloc s3 _) hgrow5 (by simp; omega) (fun q hq => (HO.out.lt q hq).1); have O5 := Kept.mk hown5; have B5 := Kept.mk hb5; clear hown5 hgrow5 hb5)
      go_roundw
      case rel => exact ⟨k, (k : Int) - 1, by omega, rfl, by go_num, ⟨by rw [hd, ic_append, List.length_append]; exact O5.out⟩, B5⟩
      case measure => simp [intOf]
theorem pk_same {P : Nat → Bool} {n : Nat} (h : P n = false) : pk P (n + 1) = pk P n := by rw [pk_step, h]; simp
theorem pk_more {P : Nat → Bool} {n : Nat} (h : P n = true) : pk P (n + 1) = pk P n ++ [n] := by rw [pk_step, h]; simp
theorem Own.below {w w' : World} {B : Nat} {vs : List (Value × List Nat)} (h : Own w B vs) (hb : Below w.heap.size w w') : Own w' B vs := ⟨fun j p hj => own_below (h.1 j p hj) hb, h.2⟩
/-- 'append(v, k)' onto one of the rows of the call's own -/
theorem app_own {ops : Array Oper} {rest : List Oper} {o : Oper} {a : Act} {Q : Exit → Act → World → Prop} (w0 w : World) (hgd : o.guard = none) (s x : Operand)
    (ho : o.op = .call { callee := .builtin .append, args := #[s, x], argTypes := #[27, 27] }) (B : Nat) (vs : List (Value × List Nat)) (j k : Nat) (v : Value) (L : List Nat) (hs : a.eval s = v) (hw : w = w0.alloc (.cells #[.int .i64 (k : Int)] 3)) (hown : Own w0 B vs) (hj : vs[j]? = some (v, L))
    (hx : a.eval x = .slice (some ⟨w0.heap.size, 0, none⟩) 1 1) (hL : L.length ≤ 100000) (hB : B ≤ w0.heap.size)
    (h : ∀ v' w', Own w' B (vs.set j (v', L ++ [k])) → Below B w0 w' → wpList Tryz.prog ops Q rest (a.put o.dst v') w') : wpList Tryz.prog ops Q (o :: rest) a w := by
  obtain ⟨i0', hi, hz0, hz1, hz2⟩ := info_parts infoI'
  have hO := hown.alloc (.cells #[.int .i64 (k : Int)] 3)
  rw [← hw] at hO
  have hr := hO.1 j _ hj
  have hsz : B ≤ w.heap.size := by rw [hw]; simp; omega
  refine wpList_append_own_at w hgd s x 27 ho B 3 i0' (.int .i64 0) 1 8 Tryz.underlying27 hi hz0 hz1 hz2 rfl (by decide) v L.length (ic L) hs hr ⟨w0.heap.size, 0, none⟩ 1 1 [.int .i64 (k : Int)] hx rfl (by rw [hw]; exact cell_one_new _ _ _) (by intro u hu; simp at hu; subst hu; rfl) (by unfold maxLen; omega) (by omega) hsz ?_
  intro v' w' h1 h2 _ h4
  refine h v' w' (hO.put j k v v' L hj h1 h2 h4) ?_
  refine Below.grown ?_ h2 hsz (fun q hq => (hr.lt q hq).1)
  rw [hw]
  exact (Below.refl _ _).alloc hB _
theorem upC_neg {l : List Ptr.Nd} {f : Nat} {z : Int} (h : z < 0) : Ptr.upC l f z = [] := by
  cases f with
  | zero => rfl
  | succ g => rw [Ptr.upC_at, if_pos h]
theorem Own.start {w : World} {B n : Nat} {v : Value} {L : List Nat} (h : w.ownsRow B 3 1 v L.length (ic L)) : Own w B ((v, L) :: List.replicate n (.slice none 0 0, [])) := by
  obtain ⟨h1, h2⟩ := Own.nil w B n
  have hn : ∀ (j : Nat) (p : Value × List Nat) (g : Nat), (List.replicate n ((.slice none 0 0 : Value), ([] : List Nat)))[j]? = some p → p.1.ownBlock = some g → False := by
    intro j p g hj hp
    have := List.eq_of_mem_replicate (List.mem_of_getElem? hj)
    subst this
    cases hp
  refine ⟨fun j p hj => ?_, fun j k p q g hj hk hne hp hq => ?_⟩
  · cases j with
    | zero => rw [List.getElem?_cons_zero] at hj; cases hj; exact h
    | succ j => rw [List.getElem?_cons_succ] at hj; exact h1 j p hj
  · cases j with
    | succ j => rw [List.getElem?_cons_succ] at hj; exact hn j p g hj hp
    | zero =>
      cases k with
      | zero => omega
      | succ k => rw [List.getElem?_cons_succ] at hk; exact hn k q g hk hq
theorem own_take {w : World} {B n c : Nat} {A : Option Addr} {L : List Nat} (h : w.ownsRow B 3 1 (.slice A (n + 1) c) (n + 1) (ic L)) (m : Nat) (hm : m ≤ n + 1) : w.ownsRow B 3 1 (.slice A m c) m (ic (L.take m)) := by
  obtain ⟨h1, h2⟩ := h
  rcases h2 with ⟨_, h0⟩ | ⟨g, cap, cur, hv, hb, hh, hn, hc, hs, ht⟩
  · omega
  · cases hv
    rw [ic_length] at h1
    refine ⟨by rw [ic_length, List.length_take]; omega, .inr ⟨g, c, cur, rfl, hb, hh, by omega, hc, hs, ?_⟩⟩
    rw [show ic (L.take m) = (ic L).take m by unfold ic; rw [List.map_take], ← ht, List.take_take]
    congr 1
    omega
theorem wpList_append_ints {ops : Array Oper} {rest : List Oper} {o : Oper} {a : Act} {Q : Exit → Act → World → Prop} {w : World} (hgd : o.guard = none) (s x : Operand)
    (ho : o.op = .call { callee := .builtin .append, args := #[s, x], argTypes := #[27, 27] }) (base base' : Nat) (v y : Value) (n m : Nat) (xs : List Value) (ys : List Nat) (hs : a.eval s = v) (hown : w.ownsRow base 3 1 v n xs)
    (hx : a.eval x = y) (hy : w.ownsRow base' 3 1 y m (ic ys)) (hb : n + m ≤ 1000000) (hbase : base ≤ w.heap.size)
    (h : ∀ v' w', w'.ownsRow base 3 1 v' (n + m) (xs ++ ic ys) → w.grownBy w' v.ownBlock → wpList Tryz.prog ops Q rest (a.put o.dst v') w') : wpList Tryz.prog ops Q (o :: rest) a w := by
  obtain ⟨i0, hi, hz0, hz1, hz2⟩ := info_parts infoI'
  rcases hy.2 with ⟨rfl, hm⟩ | ⟨g, cap, cur, rfl, _⟩
  · subst hm
    have hys : ys = [] := by
      have := hy.1
      rw [ic_length] at this
      exact List.length_eq_zero_iff.1 (by omega)
    subst hys
    exact wpList_append_own_none hgd s x _ ho base _ i0 1 Tryz.underlying27 hi v n xs hs hown hx (h v w (by simpa [ic] using hown) (World.grownBy.refl _ _))
  · have hl := hy.1
    rw [ic_length] at hl
    exact wpList_append_own _ hgd s x _ ho base _ i0 (.int .i64 0) 1 8 Tryz.underlying27 hi hz0 hz1 hz2 rfl (by decide) v n xs hs hown ⟨g, 0, none⟩ m cap (ic ys) hx (by rw [ic_length]; omega) (hy.cells (g := g) rfl) (by intro u hu; unfold ic at hu; obtain ⟨z, _, rfl⟩ := List.mem_map.1 hu; rfl) (by unfold maxLen; omega) (by omega) hbase (fun v' w' h1 h2 _ => h v' w' h1 h2)

set_option maxRecDepth 100000 in
set_option maxHeartbeats 16000000 in
theorem refGo_in (A : Option Addr) (l : List Ptr.Nd) (c a : Nat) (X : Int) (w : World) (hr : RdN w A l) (hl : l.length ≤ 100000) (hf : FitL l) (ha : a < l.length) (hp : placeB l a = true) :
    Calls Tryz.prog 10 #[.slice A l.length c, .int .i64 a, .int .u8 X] w fun e w' => ∃ v, e = .returned v ∧ w'.ownsRow w.heap.size 3 1 v (goL l a X).length (ic (goL l a X)) ∧ Below w.heap.size w w' := by
  have cP := refPlace_any A l c a w hr hl hf
  rw [hp] at cP
  have CP := Kept.mk cP
  obtain ⟨hg, ho⟩ := place_rng hp
  have HG := Kept.mk hg
  have HOP := Kept.mk ho
  have hUL : (Ptr.upL l a).length ≤ 100000 := by have := upC_len l a (Ptr.par l a); unfold Ptr.upL; omega
  have hra := hg a ha
  obtain ⟨i0', hi, hz0, hz1, hz2⟩ := info_parts infoI'
  obtain ⟨b, off, rfl, _, _, _, c3⟩ := hr.at_ (i := a) ha
  simp only at c3
  have CB := Kept.mk (fun (i q : Nat) wx hx hi => refBelow_any (some ⟨b, off, none⟩) l c i q wx hx hg hi)
  have CW := Kept.mk (fun at' wx hx => refwith_any (some ⟨b, off, none⟩) l c a at' wx hx hl)
  have HR := Kept.mk hr
  have a0 : (0 : Int) ≤ (a : Int) := by omega
  have a1 : (a : Int) < (l.length : Int) := by omega
  have HU : Kept (Ptr.upC l a (Ptr.par l a) = Ptr.upL l a) := ⟨rfl⟩
  generalize hPA : Ptr.par l a = PA at c3 hra HU
  have HPA := Kept.mk hPA
  clear hr hf hp cP hg ho hPA
  go_enter Tryz.func10, Tryz.ntmps10
  go_wp2_with (fail)
  refine CP.out.mono ?_; rintro e w1 ⟨rfl, hb1⟩
  have HB1 := Kept.mk hb1
  have c3' := cell_keep hb1 c3
  clear hb1
  go_wp2_with (fail)
  go_loopw [7, 13] (fun v p wx => ∃ (M : List Nat) (f : Nat) (z : Int), p = .int .i64 z ∧ -1 ≤ z ∧ z < l.length ∧ z < f ∧ Kept (M ++ Ptr.upC l f z = Ptr.upL l a) ∧ Kept (wx.ownsRow w.heap.size 3 1 v M.length (ic M)) ∧ Kept (Below w.heap.size w wx)) (fun _ p _ => (intOf p + 1).toNat)
  case atStart => exact ⟨[], a, PA, rfl, by omega, by omega, by omega, ⟨HU.out⟩, ⟨World.ownsRow_nil _ _ _ _⟩, HB1⟩
  case round =>
    obtain ⟨M, f, z, rfl, z0, z1, z2, HM, HO, HB⟩ := hrel
    have s3 := HB.out.size
    by_cases hz : 0 ≤ z
    · obtain ⟨k, rfl⟩ : ∃ k : Nat, z = k := ⟨z.toNat, by omega⟩
      obtain ⟨g, rfl⟩ : ∃ g, f = g + 1 := ⟨f - 1, by omega⟩
      have h := HM.out
      have hlen : M.length ≤ 100000 := by have := congrArg List.length h; rw [List.length_append] at this; omega
      rw [Ptr.upC_at, if_neg (by omega), Int.toNat_natCast, ← List.singleton_append, ← List.append_assoc] at h
      have hk : k < l.length := by omega
      have hrk := HG.out k hk
      have HPK : Kept (∃ PK, PK = Ptr.par l k) := ⟨_, rfl⟩
      obtain ⟨PK, hPK⟩ := HPK.out
      rw [← hPK] at h hrk
      have HP := Kept.mk hPK
      have H2 := Kept.mk h
      clear h HM hPK HPK
      go_wp2_with (at_builtin; refine wpList_append_own _ rfl (.tmp 32) (.tmp 34) 27 rfl w.heap.size 3 i0' (.int .i64 0) 1 8 Tryz.underlying27 hi hz0 hz1 hz2 rfl (by decide) _ _ _ (by rfl) (HO.out.alloc _) ⟨wr.heap.size, 0, none⟩ 1 1 [.int .i64 (k : Int)] (by rfl) (by rfl) (cell_one_new _ _ _) (by intro u hu; simp at hu; subst hu; rfl) (by unfold maxLen; omega) (by omega) (by simp; omega) ?_; intro v' w5 hown5 hgrow5 _; have hb5 := Below.grown (HB.out.alloc s3 _) hgrow5 (by simp; omega) (fun q hq => (HO.out.lt q hq).1); have O5 := Kept.mk hown5; have B5 := Kept.mk hb5; have q3 := ((HR.out.below hb5).cells hk).2.2.2; simp only at q3; rw [← HP.out] at q3; clear hown5 hgrow5 hb5)
      go_roundw
      case rel => exact ⟨M ++ [k], g, PK, rfl, by omega, by omega, by omega, H2, ⟨by rw [ic_append, List.length_append]; exact O5.out⟩, B5⟩
      case measure => simp [intOf]; omega
    · have h := HM.out
      rw [upC_neg (by omega), List.append_nil] at h
      subst h
      obtain rfl : z = -1 := by omega
      clear HM
      go_wp2_with (fail)
      obtain ⟨AU, cU, rfl⟩ := own_shape_i HO.out
      have HS := Kept.mk (Own.start (n := 6) HO.out)
      go_loopw [8, 9, 10, 11, 12, 14, 15] (fun v8 v9 v10 v11 v12 i _s wx => ∃ k : Nat, k ≤ l.length ∧ i = .int .i64 k ∧ Kept (Own wx w.heap.size [(.slice AU (Ptr.upL l a).length cU, Ptr.upL l a), (v8, pk (belP l a) (k)), (v9, pk (befP l a) (k)), (v10, pk (behP l a) (k)), (v11, pk (aheP l a) (k)), (v12, pk (aftP l a) (k)), (.slice none 0 0, [])]) ∧ Kept (Below w.heap.size w wx)) (fun _ _ _ _ _ i _ _ => l.length - (intOf i).toNat)
      case atStart => exact ⟨0, by omega, by go_num, HS, HB⟩
      case round =>
        clear HS HO HB s3 z0 z1 z2 hz
        obtain ⟨k, hkb, rfl, HO2, HB2⟩ := hrel
        have s2 := HB2.out.size
        have k0 : (0 : Int) ≤ (k : Int) := by omega
        by_cases hlt : k < l.length
        · have k1 : (k : Int) < (l.length : Int) := by omega
          obtain ⟨d0, _, _, d3⟩ := (HR.out.below HB2.out).cells hlt
          obtain ⟨e0, _, _, e3⟩ := (HR.out.below HB2.out).cells ha
          simp only at d0 d3 e0 e3
          cases hZ : (Ptr.kin l k == 3) with
          | true =>
            have HF := Kept.mk (pks_attr (a := a) hZ)
            have eK : (((Ptr.kin l k : Nat) : Int) == 3) = true := (beq_i _ 3).trans hZ
            generalize Ptr.kin l k = K at d0 eK
            clear hZ d3 e0 e3
            go_wp2
            go_roundw
            case rel => exact ⟨k + 1, by omega, by go_num, ⟨by rw [pk_same HF.out.1, pk_same HF.out.2.1, pk_same HF.out.2.2.1, pk_same HF.out.2.2.2.1, pk_same HF.out.2.2.2.2]; exact HO2.out⟩, HB2⟩
            case measure => simp [intOf]; omega
          | false =>
            have eK : (((Ptr.kin l k : Nat) : Int) == 3) = false := (beq_i _ 3).trans hZ
            have eSib : ((Ptr.par l k == Ptr.par l a) = true ∧ (Ptr.kin l a == 3) = false ∧ sibDel l a k = false) ∨ ((Ptr.par l k == Ptr.par l a) = true ∧ (Ptr.kin l a == 3) = true ∧ sibDel l a k = true) ∨ ((Ptr.par l k == Ptr.par l a) = false ∧ sibDel l a k = true) := sib_cases l a k
            rcases Nat.lt_trichotomy a k with hak | hak | hak
            · have q1 : (k : Int) > (a : Int) := by omega
              have q2 : ¬ (k : Int) < (a : Int) := by omega
              have q3 : ((k : Int) == (a : Int)) = false := by simp; omega
              cases hT : Ptr.belB l k a with
              | true =>
                have HF := Kept.mk (pks_up_in hZ hak hT)
                have CT := Kept.mk (fun wx hx => (by have h := CB.out k a wx hx hlt; rwa [hT] at h : Calls _ _ _ _ _))
                clear hT
                rcases eSib with ⟨p1, p2, p3⟩ | ⟨p1, p2, p3⟩ | ⟨p1, p3⟩
                · have p4 : (((Ptr.kin l a : Nat) : Int) != 3) = true := by rw [bne, show (((Ptr.kin l a : Nat) : Int) == 3) = _ from (beq_i _ 3).trans p2]; rfl
                  generalize Ptr.kin l k = K at d0 eK; generalize Ptr.par l k = PK at d3 p1; generalize Ptr.par l a = PA2 at e3 p1
                  generalize Ptr.kin l a = KA at e0 p4
                  clear hZ p3 p2
                  go_upto_region 13 with (fail)
                  go_quiet (fail)
                  have HO3 := Kept.mk (HO2.out.below (below_drewN (Below.refl _ _) nq))
                  have HB3 := Kept.mk (below_drewN HB2.out nq)
                  generalize wr.drewN nq = wq at HO3 HB3 ⊢
                  clear d0 d3 e0 e3 HO2 HB2 s2
                  go_wp2_with (first | (go_at_call 44; refine (CT.out _ (HR.out.below HB3.out)).mono ?_; rintro e w7 ⟨rfl, rfl⟩) | (at_builtin; refine app_own _ _ rfl (.tmp 81) (.tmp 83) rfl w.heap.size _ 1 k _ _ (by rfl) rfl HO3.out rfl (by rfl) (Nat.le_trans (pk_le _ _) (by omega)) HB3.out.size ?_; intro y1 wy1 hO1 hB1; have O1 := Kept.mk hO1; have B1 := Kept.mk (HB3.out.trans hB1); clear hO1 hB1) | (go_at_call 44; refine (CT.out _ (HR.out.below B1.out)).mono ?_; rintro e w7 ⟨rfl, rfl⟩))
                  go_roundw
                  case rel => exact ⟨k + 1, by omega, by go_num, ⟨by rw [pk_more HF.out.1, pk_same HF.out.2.1, pk_same HF.out.2.2.1, pk_same HF.out.2.2.2.1, pk_same HF.out.2.2.2.2]; exact O1.out⟩, B1⟩
                  case measure => simp [intOf]; omega
                · have p4 : (((Ptr.kin l a : Nat) : Int) != 3) = false := by rw [bne, show (((Ptr.kin l a : Nat) : Int) == 3) = _ from (beq_i _ 3).trans p2]; rfl
                  generalize Ptr.kin l k = K at d0 eK; generalize Ptr.par l k = PK at d3 p1; generalize Ptr.par l a = PA2 at e3 p1
                  generalize Ptr.kin l a = KA at e0 p4
                  clear hZ p3 p2
                  go_upto_region 13 with (fail)
                  go_quiet (fail)
                  have HO3 := Kept.mk (HO2.out.below (below_drewN (Below.refl _ _) nq))
                  have HB3 := Kept.mk (below_drewN HB2.out nq)
                  generalize wr.drewN nq = wq at HO3 HB3 ⊢
                  clear d0 d3 e0 e3 HO2 HB2 s2
                  go_wp2_with (first | (go_at_call 44; refine (CT.out _ (HR.out.below HB3.out)).mono ?_; rintro e w7 ⟨rfl, rfl⟩) | (at_builtin; refine app_own _ _ rfl (.tmp 81) (.tmp 83) rfl w.heap.size _ 1 k _ _ (by rfl) rfl HO3.out rfl (by rfl) (Nat.le_trans (pk_le _ _) (by omega)) HB3.out.size ?_; intro y1 wy1 hO1 hB1; have O1 := Kept.mk hO1; have B1 := Kept.mk (HB3.out.trans hB1); clear hO1 hB1) | (go_at_call 44; refine (CT.out _ (HR.out.below B1.out)).mono ?_; rintro e w7 ⟨rfl, rfl⟩))
                  go_roundw
                  case rel => exact ⟨k + 1, by omega, by go_num, ⟨by rw [pk_more HF.out.1, pk_same HF.out.2.1, pk_same HF.out.2.2.1, pk_same HF.out.2.2.2.1, pk_same HF.out.2.2.2.2]; exact O1.out⟩, B1⟩
                  case measure => simp [intOf]; omega
                · skip
                  generalize Ptr.kin l k = K at d0 eK; generalize Ptr.par l k = PK at d3 p1; generalize Ptr.par l a = PA2 at e3 p1
                  skip
                  clear hZ p3
                  go_upto_region 13 with (fail)
                  go_quiet (fail)
                  have HO3 := Kept.mk (HO2.out.below (below_drewN (Below.refl _ _) nq))
                  have HB3 := Kept.mk (below_drewN HB2.out nq)
                  generalize wr.drewN nq = wq at HO3 HB3 ⊢
                  clear d0 d3 e0 e3 HO2 HB2 s2
                  go_wp2_with (first | (go_at_call 44; refine (CT.out _ (HR.out.below HB3.out)).mono ?_; rintro e w7 ⟨rfl, rfl⟩) | (at_builtin; refine app_own _ _ rfl (.tmp 81) (.tmp 83) rfl w.heap.size _ 1 k _ _ (by rfl) rfl HO3.out rfl (by rfl) (Nat.le_trans (pk_le _ _) (by omega)) HB3.out.size ?_; intro y1 wy1 hO1 hB1; have O1 := Kept.mk hO1; have B1 := Kept.mk (HB3.out.trans hB1); clear hO1 hB1) | (go_at_call 44; refine (CT.out _ (HR.out.below B1.out)).mono ?_; rintro e w7 ⟨rfl, rfl⟩))
                  go_roundw
                  case rel => exact ⟨k + 1, by omega, by go_num, ⟨by rw [pk_more HF.out.1, pk_same HF.out.2.1, pk_same HF.out.2.2.1, pk_same HF.out.2.2.2.1, pk_same HF.out.2.2.2.2]; exact O1.out⟩, B1⟩
                  case measure => simp [intOf]; omega
              | false =>
                have HF0 := pks_up_out hZ hak hT
                have CT := Kept.mk (fun wx hx => (by have h := CB.out k a wx hx hlt; rwa [hT] at h : Calls _ _ _ _ _))
                clear hT
                rcases eSib with ⟨p1, p2, p3⟩ | ⟨p1, p2, p3⟩ | ⟨p1, p3⟩
                · have p4 : (((Ptr.kin l a : Nat) : Int) != 3) = true := by rw [bne, show (((Ptr.kin l a : Nat) : Int) == 3) = _ from (beq_i _ 3).trans p2]; rfl
                  rw [p3] at HF0
                  have HF := Kept.mk HF0
                  generalize Ptr.kin l k = K at d0 eK; generalize Ptr.par l k = PK at d3 p1; generalize Ptr.par l a = PA2 at e3 p1
                  generalize Ptr.kin l a = KA at e0 p4
                  clear hZ HF0 p3 p2
                  go_upto_region 13 with (fail)
                  go_quiet (fail)
                  have HO3 := Kept.mk (HO2.out.below (below_drewN (Below.refl _ _) nq))
                  have HB3 := Kept.mk (below_drewN HB2.out nq)
                  generalize wr.drewN nq = wq at HO3 HB3 ⊢
                  clear d0 d3 e0 e3 HO2 HB2 s2
                  go_wp2_with (first | (go_at_call 44; refine (CT.out _ (HR.out.below HB3.out)).mono ?_; rintro e w7 ⟨rfl, rfl⟩) | (at_builtin; refine app_own _ _ rfl (.tmp 95) (.tmp 97) rfl w.heap.size _ 3 k _ _ (by rfl) rfl HO3.out rfl (by rfl) (Nat.le_trans (pk_le _ _) (by omega)) HB3.out.size ?_; intro y1 wy1 hO1 hB1; have O1 := Kept.mk hO1; have B1 := Kept.mk (HB3.out.trans hB1); clear hO1 hB1) | (at_builtin; refine app_own _ _ rfl (.tmp 100) (.tmp 102) rfl w.heap.size _ 5 k _ _ (by rfl) rfl O1.out rfl (by rfl) (Nat.le_trans (pk_le _ _) (by omega)) B1.out.size ?_; intro y2 wy2 hO2 hB2; have O2 := Kept.mk hO2; have B2 := Kept.mk (B1.out.trans hB2); clear hO2 hB2))
                  go_roundw
                  case rel => exact ⟨k + 1, by omega, by go_num, ⟨by rw [pk_same HF.out.1, pk_same HF.out.2.1, pk_more HF.out.2.2.1, pk_same HF.out.2.2.2.1, pk_more HF.out.2.2.2.2]; exact O2.out⟩, B2⟩
                  case measure => simp [intOf]; omega
                · have p4 : (((Ptr.kin l a : Nat) : Int) != 3) = false := by rw [bne, show (((Ptr.kin l a : Nat) : Int) == 3) = _ from (beq_i _ 3).trans p2]; rfl
                  rw [p3] at HF0
                  have HF := Kept.mk HF0
                  generalize Ptr.kin l k = K at d0 eK; generalize Ptr.par l k = PK at d3 p1; generalize Ptr.par l a = PA2 at e3 p1
                  generalize Ptr.kin l a = KA at e0 p4
                  clear hZ HF0 p3 p2
                  go_upto_region 13 with (fail)
                  go_quiet (fail)
                  have HO3 := Kept.mk (HO2.out.below (below_drewN (Below.refl _ _) nq))
                  have HB3 := Kept.mk (below_drewN HB2.out nq)
                  generalize wr.drewN nq = wq at HO3 HB3 ⊢
                  clear d0 d3 e0 e3 HO2 HB2 s2
                  go_wp2_with (first | (go_at_call 44; refine (CT.out _ (HR.out.below HB3.out)).mono ?_; rintro e w7 ⟨rfl, rfl⟩) | (at_builtin; refine app_own _ _ rfl (.tmp 95) (.tmp 97) rfl w.heap.size _ 3 k _ _ (by rfl) rfl HO3.out rfl (by rfl) (Nat.le_trans (pk_le _ _) (by omega)) HB3.out.size ?_; intro y1 wy1 hO1 hB1; have O1 := Kept.mk hO1; have B1 := Kept.mk (HB3.out.trans hB1); clear hO1 hB1))
                  go_roundw
                  case rel => exact ⟨k + 1, by omega, by go_num, ⟨by rw [pk_same HF.out.1, pk_same HF.out.2.1, pk_more HF.out.2.2.1, pk_same HF.out.2.2.2.1, pk_same HF.out.2.2.2.2]; exact O1.out⟩, B1⟩
                  case measure => simp [intOf]; omega
                · skip
                  rw [p3] at HF0
                  have HF := Kept.mk HF0
                  generalize Ptr.kin l k = K at d0 eK; generalize Ptr.par l k = PK at d3 p1; generalize Ptr.par l a = PA2 at e3 p1
                  skip
                  clear hZ HF0 p3
                  go_upto_region 13 with (fail)
                  go_quiet (fail)
                  have HO3 := Kept.mk (HO2.out.below (below_drewN (Below.refl _ _) nq))
                  have HB3 := Kept.mk (below_drewN HB2.out nq)
                  generalize wr.drewN nq = wq at HO3 HB3 ⊢
                  clear d0 d3 e0 e3 HO2 HB2 s2
                  go_wp2_with (first | (go_at_call 44; refine (CT.out _ (HR.out.below HB3.out)).mono ?_; rintro e w7 ⟨rfl, rfl⟩) | (at_builtin; refine app_own _ _ rfl (.tmp 95) (.tmp 97) rfl w.heap.size _ 3 k _ _ (by rfl) rfl HO3.out rfl (by rfl) (Nat.le_trans (pk_le _ _) (by omega)) HB3.out.size ?_; intro y1 wy1 hO1 hB1; have O1 := Kept.mk hO1; have B1 := Kept.mk (HB3.out.trans hB1); clear hO1 hB1))
                  go_roundw
                  case rel => exact ⟨k + 1, by omega, by go_num, ⟨by rw [pk_same HF.out.1, pk_same HF.out.2.1, pk_more HF.out.2.2.1, pk_same HF.out.2.2.2.1, pk_same HF.out.2.2.2.2]; exact O1.out⟩, B1⟩
                  case measure => simp [intOf]; omega
            · subst hak
              have q3 : ((a : Int) == (a : Int)) = true := by simp
              have HF := Kept.mk (pks_self l a)
              generalize Ptr.kin l a = K at d0 eK
              clear hZ d3 e0 e3 eSib
              go_wp2
              go_roundw
              case rel => exact ⟨a + 1, by omega, by go_num, ⟨by rw [pk_same HF.out.1, pk_same HF.out.2.1, pk_same HF.out.2.2.1, pk_same HF.out.2.2.2.1, pk_same HF.out.2.2.2.2]; exact HO2.out⟩, HB2⟩
              case measure => simp [intOf]; omega
            · have q1 : ¬ (k : Int) > (a : Int) := by omega
              have q2 : (k : Int) < (a : Int) := by omega
              have q3 : ((k : Int) == (a : Int)) = false := by simp; omega
              cases hT : Ptr.belB l a k with
              | true =>
                have HF := Kept.mk (pks_dn_in hZ hak hT)
                have CT := Kept.mk (fun wx hx => (by have h := CB.out a k wx hx ha; rwa [hT] at h : Calls _ _ _ _ _))
                clear hT
                rcases eSib with ⟨p1, p2, p3⟩ | ⟨p1, p2, p3⟩ | ⟨p1, p3⟩
                · have p4 : (((Ptr.kin l a : Nat) : Int) != 3) = true := by rw [bne, show (((Ptr.kin l a : Nat) : Int) == 3) = _ from (beq_i _ 3).trans p2]; rfl
                  generalize Ptr.kin l k = K at d0 eK; generalize Ptr.par l k = PK at d3 p1; generalize Ptr.par l a = PA2 at e3 p1
                  generalize Ptr.kin l a = KA at e0 p4
                  clear hZ p3 p2
                  go_upto_region 13 with (fail)
                  go_quiet (fail)
                  have HO3 := Kept.mk (HO2.out.below (below_drewN (Below.refl _ _) nq))
                  have HB3 := Kept.mk (below_drewN HB2.out nq)
                  generalize wr.drewN nq = wq at HO3 HB3 ⊢
                  clear d0 d3 e0 e3 HO2 HB2 s2
                  go_wp2_with ((go_at_call 44; refine (CT.out _ (HR.out.below HB3.out)).mono ?_; rintro e w7 ⟨rfl, rfl⟩))
                  go_roundw
                  case rel => exact ⟨k + 1, by omega, by go_num, ⟨by rw [pk_same HF.out.1, pk_same HF.out.2.1, pk_same HF.out.2.2.1, pk_same HF.out.2.2.2.1, pk_same HF.out.2.2.2.2]; exact HO3.out⟩, HB3⟩
                  case measure => simp [intOf]; omega
                · have p4 : (((Ptr.kin l a : Nat) : Int) != 3) = false := by rw [bne, show (((Ptr.kin l a : Nat) : Int) == 3) = _ from (beq_i _ 3).trans p2]; rfl
                  generalize Ptr.kin l k = K at d0 eK; generalize Ptr.par l k = PK at d3 p1; generalize Ptr.par l a = PA2 at e3 p1
                  generalize Ptr.kin l a = KA at e0 p4
                  clear hZ p3 p2
                  go_upto_region 13 with (fail)
                  go_quiet (fail)
                  have HO3 := Kept.mk (HO2.out.below (below_drewN (Below.refl _ _) nq))
                  have HB3 := Kept.mk (below_drewN HB2.out nq)
                  generalize wr.drewN nq = wq at HO3 HB3 ⊢
                  clear d0 d3 e0 e3 HO2 HB2 s2
                  go_wp2_with ((go_at_call 44; refine (CT.out _ (HR.out.below HB3.out)).mono ?_; rintro e w7 ⟨rfl, rfl⟩))
                  go_roundw
                  case rel => exact ⟨k + 1, by omega, by go_num, ⟨by rw [pk_same HF.out.1, pk_same HF.out.2.1, pk_same HF.out.2.2.1, pk_same HF.out.2.2.2.1, pk_same HF.out.2.2.2.2]; exact HO3.out⟩, HB3⟩
                  case measure => simp [intOf]; omega
                · skip
                  generalize Ptr.kin l k = K at d0 eK; generalize Ptr.par l k = PK at d3 p1; generalize Ptr.par l a = PA2 at e3 p1
                  skip
                  clear hZ p3
                  go_upto_region 13 with (fail)
                  go_quiet (fail)
                  have HO3 := Kept.mk (HO2.out.below (below_drewN (Below.refl _ _) nq))
                  have HB3 := Kept.mk (below_drewN HB2.out nq)
                  generalize wr.drewN nq = wq at HO3 HB3 ⊢
                  clear d0 d3 e0 e3 HO2 HB2 s2
                  go_wp2_with ((go_at_call 44; refine (CT.out _ (HR.out.below HB3.out)).mono ?_; rintro e w7 ⟨rfl, rfl⟩))
                  go_roundw
                  case rel => exact ⟨k + 1, by omega, by go_num, ⟨by rw [pk_same HF.out.1, pk_same HF.out.2.1, pk_same HF.out.2.2.1, pk_same HF.out.2.2.2.1, pk_same HF.out.2.2.2.2]; exact HO3.out⟩, HB3⟩
                  case measure => simp [intOf]; omega
              | false =>
                have HF0 := pks_dn_out hZ hak hT
                have CT := Kept.mk (fun wx hx => (by have h := CB.out a k wx hx ha; rwa [hT] at h : Calls _ _ _ _ _))
                clear hT
                rcases eSib with ⟨p1, p2, p3⟩ | ⟨p1, p2, p3⟩ | ⟨p1, p3⟩
                · have p4 : (((Ptr.kin l a : Nat) : Int) != 3) = true := by rw [bne, show (((Ptr.kin l a : Nat) : Int) == 3) = _ from (beq_i _ 3).trans p2]; rfl
                  rw [p3] at HF0
                  have HF := Kept.mk HF0
                  generalize Ptr.kin l k = K at d0 eK; generalize Ptr.par l k = PK at d3 p1; generalize Ptr.par l a = PA2 at e3 p1
                  generalize Ptr.kin l a = KA at e0 p4
                  clear hZ HF0 p3 p2
                  go_upto_region 13 with (fail)
                  go_quiet (fail)
                  have HO3 := Kept.mk (HO2.out.below (below_drewN (Below.refl _ _) nq))
                  have HB3 := Kept.mk (below_drewN HB2.out nq)
                  generalize wr.drewN nq = wq at HO3 HB3 ⊢
                  clear d0 d3 e0 e3 HO2 HB2 s2
                  go_wp2_with (first | (go_at_call 44; refine (CT.out _ (HR.out.below HB3.out)).mono ?_; rintro e w7 ⟨rfl, rfl⟩) | (at_builtin; refine app_own _ _ rfl (.tmp 114) (.tmp 116) rfl w.heap.size _ 4 k _ _ (by rfl) rfl HO3.out rfl (by rfl) (Nat.le_trans (pk_le _ _) (by omega)) HB3.out.size ?_; intro y1 wy1 hO1 hB1; have O1 := Kept.mk hO1; have B1 := Kept.mk (HB3.out.trans hB1); clear hO1 hB1) | (at_builtin; refine app_own _ _ rfl (.tmp 119) (.tmp 121) rfl w.heap.size _ 2 k _ _ (by rfl) rfl O1.out rfl (by rfl) (Nat.le_trans (pk_le _ _) (by omega)) B1.out.size ?_; intro y2 wy2 hO2 hB2; have O2 := Kept.mk hO2; have B2 := Kept.mk (B1.out.trans hB2); clear hO2 hB2))
                  go_roundw
                  case rel => exact ⟨k + 1, by omega, by go_num, ⟨by rw [pk_same HF.out.1, pk_more HF.out.2.1, pk_same HF.out.2.2.1, pk_more HF.out.2.2.2.1, pk_same HF.out.2.2.2.2]; exact O2.out⟩, B2⟩
                  case measure => simp [intOf]; omega
                · have p4 : (((Ptr.kin l a : Nat) : Int) != 3) = false := by rw [bne, show (((Ptr.kin l a : Nat) : Int) == 3) = _ from (beq_i _ 3).trans p2]; rfl
                  rw [p3] at HF0
                  have HF := Kept.mk HF0
                  generalize Ptr.kin l k = K at d0 eK; generalize Ptr.par l k = PK at d3 p1; generalize Ptr.par l a = PA2 at e3 p1
                  generalize Ptr.kin l a = KA at e0 p4
                  clear hZ HF0 p3 p2
                  go_upto_region 13 with (fail)
                  go_quiet (fail)
                  have HO3 := Kept.mk (HO2.out.below (below_drewN (Below.refl _ _) nq))
                  have HB3 := Kept.mk (below_drewN HB2.out nq)
                  generalize wr.drewN nq = wq at HO3 HB3 ⊢
                  clear d0 d3 e0 e3 HO2 HB2 s2
                  go_wp2_with (first | (go_at_call 44; refine (CT.out _ (HR.out.below HB3.out)).mono ?_; rintro e w7 ⟨rfl, rfl⟩) | (at_builtin; refine app_own _ _ rfl (.tmp 114) (.tmp 116) rfl w.heap.size _ 4 k _ _ (by rfl) rfl HO3.out rfl (by rfl) (Nat.le_trans (pk_le _ _) (by omega)) HB3.out.size ?_; intro y1 wy1 hO1 hB1; have O1 := Kept.mk hO1; have B1 := Kept.mk (HB3.out.trans hB1); clear hO1 hB1))
                  go_roundw
                  case rel => exact ⟨k + 1, by omega, by go_num, ⟨by rw [pk_same HF.out.1, pk_same HF.out.2.1, pk_same HF.out.2.2.1, pk_more HF.out.2.2.2.1, pk_same HF.out.2.2.2.2]; exact O1.out⟩, B1⟩
                  case measure => simp [intOf]; omega
                · skip
                  rw [p3] at HF0
                  have HF := Kept.mk HF0
                  generalize Ptr.kin l k = K at d0 eK; generalize Ptr.par l k = PK at d3 p1; generalize Ptr.par l a = PA2 at e3 p1
                  skip
                  clear hZ HF0 p3
                  go_upto_region 13 with (fail)
                  go_quiet (fail)
                  have HO3 := Kept.mk (HO2.out.below (below_drewN (Below.refl _ _) nq))
                  have HB3 := Kept.mk (below_drewN HB2.out nq)
                  generalize wr.drewN nq = wq at HO3 HB3 ⊢
                  clear d0 d3 e0 e3 HO2 HB2 s2
                  go_wp2_with (first | (go_at_call 44; refine (CT.out _ (HR.out.below HB3.out)).mono ?_; rintro e w7 ⟨rfl, rfl⟩) | (at_builtin; refine app_own _ _ rfl (.tmp 114) (.tmp 116) rfl w.heap.size _ 4 k _ _ (by rfl) rfl HO3.out rfl (by rfl) (Nat.le_trans (pk_le _ _) (by omega)) HB3.out.size ?_; intro y1 wy1 hO1 hB1; have O1 := Kept.mk hO1; have B1 := Kept.mk (HB3.out.trans hB1); clear hO1 hB1))
                  go_roundw
                  case rel => exact ⟨k + 1, by omega, by go_num, ⟨by rw [pk_same HF.out.1, pk_same HF.out.2.1, pk_same HF.out.2.2.1, pk_more HF.out.2.2.2.1, pk_same HF.out.2.2.2.2]; exact O1.out⟩, B1⟩
                  case measure => simp [intOf]; omega
        · obtain rfl : k = l.length := by omega
          have h := HO2.out
          rw [bel_all HG.out HOP.out ha, bef_all HG.out HOP.out ha, beh_all HG.out HOP.out ha, ahe_all HG.out HOP.out ha, aft_all HG.out HOP.out ha] at h
          have HO3 := Kept.mk h
          have hU := h.1 0 _ rfl; have h8 := h.1 1 _ rfl; have h9 := h.1 2 _ rfl; have h10 := h.1 3 _ rfl; have h11 := h.1 4 _ rfl; have h12 := h.1 5 _ rfl
          simp only at hU h8 h9 h10 h11 h12
          have HOU := Kept.mk hU; have HO8 := Kept.mk h8; have HO10 := Kept.mk h10; have HO12 := Kept.mk h12
          clear h HO2
          have hl1 := stretchL_le l (a + 1) (Ptr.endN l a)
          have hl2 := (Ptr.endN_spec l a ha).2.1
          rcases (show X = 1 ∨ X = 9 ∨ X = 10 ∨ X = 3 ∨ X = 4 ∨ X = 12 ∨ X = 2 ∨ X = 11 ∨ X = 5 ∨ X = 6 ∨ X = 7 ∨ X = 8 ∨ (X < 1 ∨ 12 < X) by omega) with rfl | rfl | rfl | rfl | rfl | rfl | rfl | rfl | rfl | rfl | rfl | rfl | hX
          rotate_left 3
          · have hgo : goL l a 3 = (Ptr.upL l a).take 1 := (up_take HG.out HOP.out ha).symm
            have HGO := Kept.mk hgo
            clear hgo h8 h9 h10 h11 h12
            clear HO3 HOU HO8 HO10 HO12 HU
            generalize Ptr.upL l a = UL at hU hUL HGO ⊢
            have HOU := Kept.mk hU
            generalize hn : UL.length = n at hU hUL ⊢
            rcases hU.2 with ⟨hv, h0⟩ | ⟨g, cap, cur, hv, hv2⟩
            · subst h0
              have : UL = [] := List.length_eq_zero_iff.1 hn
              subst this
              obtain ⟨rfl, rfl⟩ : AU = none ∧ cU = 0 := by simpa using hv
              clear hU
              go_wp2
              go_ret
              exact ⟨_, rfl, by rw [HGO.out]; exact World.ownsRow_nil _ _ _ _, HB2.out⟩
            · obtain ⟨rfl, rfl⟩ : AU = some ⟨g, 0, none⟩ ∧ cU = cap := by simpa using hv
              cases n with
              | zero =>
                have : UL = [] := List.length_eq_zero_iff.1 hn
                subst this
                clear hU hv hv2
                go_wp2
                go_ret
                exact ⟨_, rfl, by rw [HGO.out]; exact HOU.out, HB2.out⟩
              | succ m =>
                have hc2 : m + 1 ≤ cU := hv2.2.2.1
                have hc3 : cU ≤ maxLen := hv2.2.2.2.1
                have hT := own_take hU 1 (by omega)
                have h1 : min (((m + 1 : Nat) : Int)) 1 = 1 := by omega
                have h2 : (UL.take 1).length = 1 := by rw [List.length_take, hn]; omega
                have HT : Kept _ := Kept.mk hT
                clear hU hv hv2 hT
                go_wp2
                go_ret
                exact ⟨_, rfl, by rw [HGO.out, h2]; show World.ownsRow _ _ _ _ (.slice (some ⟨g, 0, none⟩) (min ((m : Int) + 1) 1).toNat cU) _ _; rw [show (min ((m : Int) + 1) 1).toNat = 1 by omega]; exact HT.out, HB2.out⟩
          · go_wp2
            go_ret
            exact ⟨_, rfl, HOU.out, HB2.out⟩
          · go_wp2_with (at_builtin; refine wpList_append_ints rfl (.tmp 151) (.tmp 152) rfl w.heap.size w.heap.size _ _ 1 (Ptr.upL l a).length (ic [a]) (Ptr.upL l a) (by rfl) (own_low (own_one _ a) s2) (by rfl) (HOU.out.alloc _) (by omega) (by simp; omega) ?_; intro v5 w5 hO5 hg5; have O5 := Kept.mk hO5; have B5 := Kept.mk (Below.grown (HB2.out.alloc s2 _) hg5 (by simp; omega) (fun q hq => ((own_low (own_one _ a) s2 : World.ownsRow _ w.heap.size 3 1 _ 1 (ic [a])).lt q hq).1)); clear hO5 hg5)
            go_ret
            exact ⟨_, rfl, row_cons O5.out, B5.out⟩
          · go_wp2
            go_ret
            exact ⟨_, rfl, HO8.out, HB2.out⟩
          · go_wp2_with (at_builtin; refine wpList_append_ints rfl (.tmp 160) (.tmp 161) rfl w.heap.size w.heap.size _ _ 1 (stretchL l (a + 1) (Ptr.endN l a)).length (ic [a]) (stretchL l (a + 1) (Ptr.endN l a)) (by rfl) (own_low (own_one _ a) s2) (by rfl) (HO8.out.alloc _) (by omega) (by simp; omega) ?_; intro v5 w5 hO5 hg5; have O5 := Kept.mk hO5; have B5 := Kept.mk (Below.grown (HB2.out.alloc s2 _) hg5 (by simp; omega) (fun q hq => ((own_low (own_one _ a) s2 : World.ownsRow _ w.heap.size 3 1 _ 1 (ic [a])).lt q hq).1)); clear hO5 hg5)
            go_ret
            exact ⟨_, rfl, row_cons O5.out, B5.out⟩
          · go_wp2
            go_ret
            exact ⟨_, rfl, HO12.out, HB2.out⟩
          · obtain ⟨A9, c9, rfl⟩ := own_shape_i h9
            have HT := Kept.mk (turned_any _ A9 c9 _ (rdi_of_own h9) (Nat.le_trans (List.length_filter_le _ _) (Nat.le_trans (stretchL_le l 0 a) (by omega))))
            clear h8 h9 h10 h11 h12 hU
            go_wp2_with (fail)
            refine HT.out.mono ?_; rintro e w9 ⟨v9', rfl, hO9, hb9⟩
            go_wp2
            go_ret
            exact ⟨_, rfl, own_low hO9 s2, HB2.out.trans (hb9.mono s2)⟩
          · go_wp2
            go_ret
            exact ⟨_, rfl, HO10.out, HB2.out⟩
          · obtain ⟨A9, c9, rfl⟩ := own_shape_i h11
            have HT := Kept.mk (turned_any _ A9 c9 _ (rdi_of_own h11) (Nat.le_trans (List.length_filter_le _ _) (Nat.le_trans (stretchL_le l 0 a) (by omega))))
            clear h8 h9 h10 h11 h12 hU
            go_wp2_with (fail)
            refine HT.out.mono ?_; rintro e w9 ⟨v9', rfl, hO9, hb9⟩
            go_wp2
            go_ret
            exact ⟨_, rfl, own_low hO9 s2, HB2.out.trans (hb9.mono s2)⟩
          · have hgo : goL l a X = [] := by
              unfold goL
              repeat rw [if_neg (by omega)]
            have HGO := Kept.mk hgo
            have qs : (X == 1) = false ∧ (X == 2) = false ∧ (X == 3) = false ∧ (X == 4) = false ∧ (X == 5) = false ∧ (X == 6) = false ∧ (X == 7) = false ∧ (X == 8) = false ∧ (X == 9) = false ∧ (X == 10) = false ∧ (X == 11) = false ∧ (X == 12) = false := by simp; omega
            obtain ⟨q1, q2, q3, q4, q5, q6, q7, q8, q9, q10, q11, q12⟩ := qs
            clear hX hgo h8 h9 h10 h11 h12 hU
            go_wp2
            go_ret
            exact ⟨_, rfl, by rw [HGO.out]; exact World.ownsRow_nil _ _ _ _, HB2.out⟩
          · clear h8 h9 h10 h11 h12 hU
            go_wp2_with (fail)
            refine (CW.out false _ (HR.out.below HB2.out)).mono ?_; rintro e w9 ⟨v9', rfl, hO9, hb9⟩
            rw [Ptr.kidsL_eq HG.out HOP.out a ha] at hO9
            go_wp2
            go_ret
            exact ⟨_, rfl, own_low hO9 s2, HB2.out.trans (hb9.mono s2)⟩
          · clear h8 h9 h10 h11 h12 hU
            go_wp2_with (fail)
            refine (CW.out true _ (HR.out.below HB2.out)).mono ?_; rintro e w9 ⟨v9', rfl, hO9, hb9⟩
            rw [Ptr.kidsL_eq HG.out HOP.out a ha] at hO9
            go_wp2
            go_ret
            exact ⟨_, rfl, own_low hO9 s2, HB2.out.trans (hb9.mono s2)⟩
          · clear h8 h9 h10 h11 h12 hU
            go_wp2
            go_ret
            exact ⟨_, rfl, own_low (own_one _ a) s2, HB2.out.alloc s2 _⟩
set_option maxRecDepth 100000 in
set_option maxHeartbeats 4000000 in
theorem refGo_any (A : Option Addr) (l : List Ptr.Nd) (c : Nat) (a X : Int) (w : World) (hr : RdN w A l) (hl : l.length ≤ 100000) (hf : FitL l) :
    Calls Tryz.prog 10 #[.slice A l.length c, .int .i64 a, .int .u8 X] w fun e w' => ∃ v, e = .returned v ∧ w'.ownsRow w.heap.size 3 1 v (goB l a X).length (ic (goB l a X)) ∧ Below w.heap.size w w' := by
  unfold goB
  cases hp : placeB l a with
  | false =>
    have cP := refPlace_any A l c a w hr hl hf
    rw [hp] at cP
    have CP := Kept.mk cP
    clear cP hr hf hp
    go_enter Tryz.func10, Tryz.ntmps10
    go_wp2_with (fail)
    refine CP.out.mono ?_; rintro e w1 ⟨rfl, hb1⟩
    go_wp2
    go_ret
    exact ⟨_, rfl, World.ownsRow_nil _ _ _ _, hb1⟩
  | true =>
    obtain ⟨i, rfl, hi⟩ := place_in hp
    rw [if_pos rfl, Int.toNat_natCast]
    exact refGo_in A l c i X w hr hl hf hi hp
end Go.Proofs.YtkcpfjhdbbapiaaGreatDoor.Wtr
namespace Go.Proofs.YtkcpfjhdbbapiaaGreatDoor.Wtr
open Go Go.RowKit Go.Proofs.YtkcpfjhdbbapiaaGreatDoor.Kb Go.Proofs.YtkcpfjhdbbapiaaGreatDoor.Flt

theorem ite_len {c : Prop} [Decidable c] {a b : List Nat} {n : Nat} (h1 : a.length ≤ n) (h2 : b.length ≤ n) : (if c then a else b).length ≤ n := by
  by_cases h : c
  · rw [if_pos h]; exact h1
  · rw [if_neg h]; exact h2
theorem goB_le (l : List Ptr.Nd) (a X : Int) : (goB l a X).length ≤ l.length + 1 := by
  unfold goB
  split
  · rename_i h
    obtain ⟨i, rfl, hi⟩ := place_in h
    rw [Int.toNat_natCast]
    obtain ⟨s1, s2, _, _⟩ := Ptr.endN_spec l i hi
    have k1 := fun at' => Ptr.kidsL_le l i at' (i + 1) (Ptr.endN l i)
    have k2 := k1 true
    have k1 := k1 false
    have u := upC_len l i (Ptr.par l i)
    have t1 := stretchL_le l (i + 1) (Ptr.endN l i)
    have t2 := stretchL_le l (Ptr.endN l i) l.length
    have t3 := stretchL_le l 0 i
    have f1 := List.length_filter_le (fun x => !sibDel l i x) (stretchL l (Ptr.endN l i) l.length)
    have f2 := List.length_filter_le (fun x => !sibDel l i x) (stretchL l 0 i)
    have f3 := List.length_filter_le (fun x => !decide (x ∈ Ptr.upL l i)) (stretchL l 0 i)
    have u2 : (Ptr.upL l i).length ≤ i := u
    unfold goL
    repeat' apply ite_len
    all_goals first | omega | (simp only [List.length_cons, List.length_reverse, List.length_nil]; omega) | (simp only [List.length_cons, List.length_nil]; omega) | simp
  · simp
set_option maxRecDepth 100000 in
set_option maxHeartbeats 4000000 in
theorem law_goes (A : Option Addr) (l : List Ptr.Nd) (c : Nat) (a X : Int) (w : World) (hr : RdN w A l) (hc : A = none → c = 0) (hp : FitP l) (hf : FitL l) (hE : TEnv w) :
    Calls Tryz.prog 3 #[.slice A l.length c, .int .i64 a, .int .u8 X] w fun e w' => e = .returned (.bool true) ∧ Below w.heap.size w w' := by
  have CA := Kept.mk (awake_any w hE)
  by_cases hl : l.length ≤ 300
  · have b1 : ¬ (300 : Int) < (l.length : Int) := by omega
    have HR := Kept.mk hr; have HE := Kept.mk hE
    have CL := Kept.mk (fun wx hx => lentNodes_any A l c wx hx hc (by omega))
    have lG := goB_le l a X
    have CG := Kept.mk (fun g wx hx hy => go_any (some ⟨g, 0, none⟩) l (l.length + 12) a X wx hx (by omega) hp hy)
    have CRG := Kept.mk (fun wx hx => refGo_any A l c a X wx hx (by omega) hf)
    have CKN := Kept.mk (fun g wx hx hy => keptNodes_any g A l c wx hx hy (by omega))
    generalize goB l a X = GL at lG CG CRG
    clear hr hc hp hf hE
    go_enter Tryz.func3, Tryz.ntmps3
    go_wp2_with (first | (go_at_call 6; refine CA.out.mono ?_; rintro e w1 ⟨rfl, hb1⟩; have B1 := Kept.mk hb1; clear hb1) | (go_at_call 7; refine (CL.out _ (HR.out.below B1.out)).mono ?_; rintro e w2 ⟨rfl, hO, hb2⟩; have RM := Kept.mk (rdn_lent hO); have RL := Kept.mk (rdn_left RM.out); have B2 := Kept.mk (B1.out.trans (hb2.mono B1.out.size)); clear hO hb2) | (go_at_call 9; refine (CG.out _ _ RL.out (HE.out.below B2.out)).mono ?_; rintro e w3 ⟨v1, rfl, hO, hb⟩; have O3 := Kept.mk hO; have X3 := Kept.mk hb; clear hO hb) | (go_at_call 10; refine (CRG.out _ (HR.out.below (B2.out.trans (X3.out.mono B2.out.size)))).mono ?_; rintro e w4 ⟨v2, rfl, hO, hb⟩; have O4 := Kept.mk hO; have O3' := Kept.mk (own_below O3.out hb); have X4 := Kept.mk (X3.out.trans (hb.mono X3.out.size)); clear hO hb) | (go_at_call 8; refine (sameInts_any GL _ _ _ _ _ O3'.out O4.out (by omega)).mono ?_; rintro e w5 ⟨rfl, hb⟩; have X5 := Kept.mk (X4.out.trans (hb.mono X4.out.size)); clear hb) | (go_at_call 11; refine (CKN.out _ _ (RM.out.below X5.out) (HR.out.below (B2.out.trans (X5.out.mono B2.out.size)))).mono ?_; rintro e w6 ⟨rfl, hb⟩; have X6 := Kept.mk (X5.out.trans (hb.mono X5.out.size)); clear hb))
    go_ret
    exact ⟨rfl, B2.out.trans (X6.out.mono B2.out.size)⟩
  · have b1 : (300 : Int) < (l.length : Int) := by omega
    clear hr hc hp hf hE
    go_enter Tryz.func3, Tryz.ntmps3
    go_wp2_with (go_at_call 6; refine CA.out.mono ?_; rintro e w1 ⟨rfl, hb1⟩)
    go_ret
    exact ⟨rfl, hb1⟩
end Go.Proofs.YtkcpfjhdbbapiaaGreatDoor.Wtr
