/- Joined texts: PrintW, PrintN, PrintNd, PrintPr. -/
import Derived.Test.YtemfmidhekdekaaGreatDoorPsA
import Derived.Test.YtemfmidhekdekaaGreatDoorPrA
import Derived.Test.YtemfmidhekdekaaGreatDoorPsB
import Derived.Deep.RegionHeld3
import Derived.Deep.QuietTactic
import Derived.BigQuiet
import Derived.Test.YtemfmidhekdekaaGreatDoorTreeVd
namespace Go.Proofs.YtemfmidhekdekaaGreatDoor.Wpr
open Go Go.RowKit Go.Proofs.YtemfmidhekdekaaGreatDoor.Kb Go.Proofs.YtemfmidhekdekaaGreatDoor.Emk

theorem size_len (s : ByteArray) : s.data.toList.length = s.size := by rw [Array.length_toList]; rfl
theorem byte_get (s : ByteArray) (k : Nat) (h : k < s.size) : s.data.toList[k]? = some s[k] := by
  rw [Array.getElem?_toList]
  show s.data[k]? = some s.data[k]
  exact Array.getElem?_eq_getElem h
theorem lies_own : liesAt Tryz.prog Tryz.prog.depth 52 ((([] : List Value).length + 2 + ([] : List Value).length) / Tryz.prog.cellsOf 52) ([] : List Value).length 52 1 = true := by kernel_rfl
theorem bld_ne : 52 ≠ 5 := by decide
theorem bld_fresh (w : World) : Is 52 [] [] w.heap.size w.heap.size [] (w.alloc (.cells #[.pointer none, .slice none 0 0] 52)) :=
  .inl ⟨.slice none 0 0, heap_alloc_new w _, World.ownsRow_nil _ _ _ _, by simp [Value.ownBlock]⟩

set_option maxRecDepth 100000 in
theorem text_any (c : UInt8) (w : World) : Calls Tryz.prog 26 #[.int .u8 (c.toNat : Int)] w fun e w' => e = .returned (.string ⟨(Ppr.textC c).toArray⟩) ∧ w = w' := by
  by_cases d38 : c.toNat = 38
  · have g : ((c.toNat : Nat) : Int) = 38 := by omega
    have hd : c = 38 := UInt8.toNat_inj.1 (by rw [d38]; rfl)
    subst hd
    go_enter Tryz.func26, Tryz.ntmps26
    go_wp2
    go_ret
    exact ⟨rfl, rfl⟩
  have g38 : (((c.toNat : Nat) : Int) == 38) = false := by simp; omega
  have n38 : ¬ c = 38 := fun e => d38 (by rw [e]; rfl)
  by_cases d60 : c.toNat = 60
  · have g : ((c.toNat : Nat) : Int) = 60 := by omega
    have hd : c = 60 := UInt8.toNat_inj.1 (by rw [d60]; rfl)
    subst hd
    go_enter Tryz.func26, Tryz.ntmps26
    go_wp2
    go_ret
    exact ⟨rfl, rfl⟩
  have g60 : (((c.toNat : Nat) : Int) == 60) = false := by simp; omega
  have n60 : ¬ c = 60 := fun e => d60 (by rw [e]; rfl)
  by_cases d62 : c.toNat = 62
  · have g : ((c.toNat : Nat) : Int) = 62 := by omega
    have hd : c = 62 := UInt8.toNat_inj.1 (by rw [d62]; rfl)
    subst hd
    go_enter Tryz.func26, Tryz.ntmps26
    go_wp2
    go_ret
    exact ⟨rfl, rfl⟩
  have g62 : (((c.toNat : Nat) : Int) == 62) = false := by simp; omega
  have n62 : ¬ c = 62 := fun e => d62 (by rw [e]; rfl)
  by_cases d13 : c.toNat = 13
  · have g : ((c.toNat : Nat) : Int) = 13 := by omega
    have hd : c = 13 := UInt8.toNat_inj.1 (by rw [d13]; rfl)
    subst hd
    go_enter Tryz.func26, Tryz.ntmps26
    go_wp2
    go_ret
    exact ⟨rfl, rfl⟩
  have g13 : (((c.toNat : Nat) : Int) == 13) = false := by simp; omega
  have n13 : ¬ c = 13 := fun e => d13 (by rw [e]; rfl)
  have h : Ppr.textC c = [] := by unfold Ppr.textC; rw [if_neg n38, if_neg n60, if_neg n62, if_neg n13]
  rw [h]
  go_enter Tryz.func26, Tryz.ntmps26
  go_wp2
  go_ret
  exact ⟨rfl, rfl⟩
set_option maxRecDepth 100000 in
theorem value_any (c : UInt8) (w : World) : Calls Tryz.prog 25 #[.int .u8 (c.toNat : Int)] w fun e w' => e = .returned (.string ⟨(Ppr.valueC c).toArray⟩) ∧ w = w' := by
  by_cases d34 : c.toNat = 34
  · have g : ((c.toNat : Nat) : Int) = 34 := by omega
    have hd : c = 34 := UInt8.toNat_inj.1 (by rw [d34]; rfl)
    subst hd
    go_enter Tryz.func25, Tryz.ntmps25
    go_wp2
    go_ret
    exact ⟨rfl, rfl⟩
  have g34 : (((c.toNat : Nat) : Int) == 34) = false := by simp; omega
  have n34 : ¬ c = 34 := fun e => d34 (by rw [e]; rfl)
  by_cases d9 : c.toNat = 9
  · have g : ((c.toNat : Nat) : Int) = 9 := by omega
    have hd : c = 9 := UInt8.toNat_inj.1 (by rw [d9]; rfl)
    subst hd
    go_enter Tryz.func25, Tryz.ntmps25
    go_wp2
    go_ret
    exact ⟨rfl, rfl⟩
  have g9 : (((c.toNat : Nat) : Int) == 9) = false := by simp; omega
  have n9 : ¬ c = 9 := fun e => d9 (by rw [e]; rfl)
  by_cases d10 : c.toNat = 10
  · have g : ((c.toNat : Nat) : Int) = 10 := by omega
    have hd : c = 10 := UInt8.toNat_inj.1 (by rw [d10]; rfl)
    subst hd
    go_enter Tryz.func25, Tryz.ntmps25
    go_wp2
    go_ret
    exact ⟨rfl, rfl⟩
  have g10 : (((c.toNat : Nat) : Int) == 10) = false := by simp; omega
  have n10 : ¬ c = 10 := fun e => d10 (by rw [e]; rfl)
  by_cases d62 : c.toNat = 62
  · have g : ((c.toNat : Nat) : Int) = 62 := by omega
    have hd : c = 62 := UInt8.toNat_inj.1 (by rw [d62]; rfl)
    subst hd
    go_enter Tryz.func25, Tryz.ntmps25
    go_wp2
    go_ret
    exact ⟨rfl, rfl⟩
  have g62 : (((c.toNat : Nat) : Int) == 62) = false := by simp; omega
  have n62 : ¬ c = 62 := fun e => d62 (by rw [e]; rfl)
  have h : Ppr.valueC c = Ppr.textC c := by unfold Ppr.valueC; rw [if_neg n34, if_neg n9, if_neg n10, if_neg n62]
  rw [h]
  go_enter Tryz.func25, Tryz.ntmps25
  go_wp2_with (go_at_call 26; refine (text_any c _).mono ?_; rintro e w1 ⟨rfl, rfl⟩)
  go_ret
  exact ⟨rfl, rfl⟩
set_option maxRecDepth 100000 in
set_option maxHeartbeats 2000000 in
theorem written_text (s : ByteArray) (w : World) (hs : s.size ≤ 10000000000) : Calls Tryz.prog 24 #[.string s, .func (.func 26) #[] #[]] w fun e w' => e = .returned (.string ⟨(Ppr.putL Ppr.textC s.data.toList).toArray⟩) ∧ Below w.heap.size w w' := by
  have HX := Kept.mk (fun k h => byte_get s k h)
  have hl := size_len s
  obtain ⟨L, hL⟩ : ∃ L, s.data.toList = L := ⟨_, rfl⟩
  rw [hL] at HX hl ⊢
  clear hL
  have HF := Kept.mk (bld_fresh w)
  have HA : Kept (Below w.heap.size w (w.alloc (.cells #[.pointer none, .slice none 0 0] 52))) := ⟨(Below.refl _ _).alloc (Nat.le_refl _) _⟩
  go_enter Tryz.func24, Tryz.ntmps24
  go_wp2
  go_loopw [10] (fun i wx => ∃ k : Nat, k ≤ s.size ∧ i = .int .i64 (k : Int) ∧ Kept (Is 52 [] [] w.heap.size w.heap.size (Ppr.putL Ppr.textC (L.take k)) wx) ∧ Kept (Below w.heap.size w wx)) (fun i _ => s.size - (intOf i).toNat)
  case atStart => exact ⟨0, by omega, rfl, HF, HA⟩
  case round =>
    clear HF HA
    obtain ⟨k, hk, rfl, HO, HB⟩ := hrel
    have k0 : (0 : Int) ≤ (k : Int) := by omega
    by_cases hlt : k < s.size
    · have k1 : (k : Int) < (s.size : Int) := by omega
      have hx := HX.out k hlt
      generalize hcc : s[k] = c at hx
      have htk : Ppr.putL Ppr.textC (L.take (k + 1)) = Ppr.putL Ppr.textC (L.take k) ++ Ppr.putC Ppr.textC c := by
        rw [List.take_add_one, hx]
        exact Ppr.putL_snoc _ _ _
      have hln := Ppr.putL_len Ppr.textC_len (L.take k)
      rw [List.length_take] at hln
      have hal : (Ppr.putL Ppr.textC (L.take k)).length ≤ 60000000000 := by omega
      have CT := Kept.mk (text_any c)
      have hR6 := Ppr.textC_len c
      have hput : Ppr.putC Ppr.textC c = if Ppr.textC c = [] then [c] else Ppr.textC c := rfl
      rw [hput] at htk
      generalize Ppr.putL Ppr.textC (L.take k) = acc at HO htk hal
      generalize Ppr.textC c = R at CT htk hR6
      have HTK := Kept.mk htk
      clear htk hput hln hx
      cases R with
      | nil =>
        have CB := Kept.mk (fun wx (h : Is 52 [] [] w.heap.size w.heap.size acc wx) => byte_any (B := w.heap.size) c bld_ne (Nat.le_refl _) h lies_own (by omega))
        go_wp2_with (first
          | (go_at_call 26; refine (CT.out _).mono ?_; rintro e w5 ⟨rfl, rfl⟩)
          | (go_at_call 44; refine (CB.out _ HO.out).mono ?_; rintro e w6 ⟨rfl, h6, hb6, _⟩; have O6 := Kept.mk h6; have B6 := Kept.mk (HB.out.trans hb6); clear h6 hb6))
        go_roundw
        case rel => exact ⟨k + 1, by omega, by go_num, ⟨by rw [HTK.out]; simpa using O6.out⟩, B6⟩
        case measure => simp [intOf]; omega
      | cons r0 R =>
        have CS := Kept.mk (fun wx (h : Is 52 [] [] w.heap.size w.heap.size acc wx) => write_any (B := w.heap.size) ⟨(r0 :: R).toArray⟩ bld_ne (Nat.le_refl _) h lies_own (by rw [Lib.size_mk]; omega))
        go_wp2_with (first
          | (go_at_call 26; refine (CT.out _).mono ?_; rintro e w5 ⟨rfl, rfl⟩)
          | (go_at_call 43; refine (CS.out _ HO.out).mono ?_; rintro e w6 ⟨rfl, h6, hb6, _⟩; have O6 := Kept.mk h6; have B6 := Kept.mk (HB.out.trans hb6); clear h6 hb6))
        go_roundw
        case rel => exact ⟨k + 1, by omega, by go_num, ⟨by rw [HTK.out]; simpa using O6.out⟩, B6⟩
        case measure => simp [intOf]; omega
    · obtain rfl : k = s.size := by omega
      rw [List.take_of_length_le (by omega)] at HO
      have CS := Kept.mk (string_any (Nat.le_refl _) HO.out)
      go_wp2_with (go_at_call 30; refine CS.out.mono ?_; rintro e w5 ⟨rfl, _, hb5, _⟩; have B5 := Kept.mk (HB.out.trans hb5); clear hb5)
      go_ret
      exact ⟨rfl, B5.out⟩
set_option maxRecDepth 100000 in
set_option maxHeartbeats 2000000 in
theorem written_value (s : ByteArray) (w : World) (hs : s.size ≤ 10000000000) : Calls Tryz.prog 24 #[.string s, .func (.func 25) #[] #[]] w fun e w' => e = .returned (.string ⟨(Ppr.putL Ppr.valueC s.data.toList).toArray⟩) ∧ Below w.heap.size w w' := by
  have HX := Kept.mk (fun k h => byte_get s k h)
  have hl := size_len s
  obtain ⟨L, hL⟩ : ∃ L, s.data.toList = L := ⟨_, rfl⟩
  rw [hL] at HX hl ⊢
  clear hL
  have HF := Kept.mk (bld_fresh w)
  have HA : Kept (Below w.heap.size w (w.alloc (.cells #[.pointer none, .slice none 0 0] 52))) := ⟨(Below.refl _ _).alloc (Nat.le_refl _) _⟩
  go_enter Tryz.func24, Tryz.ntmps24
  go_wp2
  go_loopw [10] (fun i wx => ∃ k : Nat, k ≤ s.size ∧ i = .int .i64 (k : Int) ∧ Kept (Is 52 [] [] w.heap.size w.heap.size (Ppr.putL Ppr.valueC (L.take k)) wx) ∧ Kept (Below w.heap.size w wx)) (fun i _ => s.size - (intOf i).toNat)
  case atStart => exact ⟨0, by omega, rfl, HF, HA⟩
  case round =>
    clear HF HA
    obtain ⟨k, hk, rfl, HO, HB⟩ := hrel
    have k0 : (0 : Int) ≤ (k : Int) := by omega
    by_cases hlt : k < s.size
    · have k1 : (k : Int) < (s.size : Int) := by omega
      have hx := HX.out k hlt
      generalize hcc : s[k] = c at hx
      have htk : Ppr.putL Ppr.valueC (L.take (k + 1)) = Ppr.putL Ppr.valueC (L.take k) ++ Ppr.putC Ppr.valueC c := by
        rw [List.take_add_one, hx]
        exact Ppr.putL_snoc _ _ _
      have hln := Ppr.putL_len Ppr.valueC_len (L.take k)
      rw [List.length_take] at hln
      have hal : (Ppr.putL Ppr.valueC (L.take k)).length ≤ 60000000000 := by omega
      have CT := Kept.mk (value_any c)
      have hR6 := Ppr.valueC_len c
      have hput : Ppr.putC Ppr.valueC c = if Ppr.valueC c = [] then [c] else Ppr.valueC c := rfl
      rw [hput] at htk
      generalize Ppr.putL Ppr.valueC (L.take k) = acc at HO htk hal
      generalize Ppr.valueC c = R at CT htk hR6
      have HTK := Kept.mk htk
      clear htk hput hln hx
      cases R with
      | nil =>
        have CB := Kept.mk (fun wx (h : Is 52 [] [] w.heap.size w.heap.size acc wx) => byte_any (B := w.heap.size) c bld_ne (Nat.le_refl _) h lies_own (by omega))
        go_wp2_with (first
          | (go_at_call 25; refine (CT.out _).mono ?_; rintro e w5 ⟨rfl, rfl⟩)
          | (go_at_call 44; refine (CB.out _ HO.out).mono ?_; rintro e w6 ⟨rfl, h6, hb6, _⟩; have O6 := Kept.mk h6; have B6 := Kept.mk (HB.out.trans hb6); clear h6 hb6))
        go_roundw
        case rel => exact ⟨k + 1, by omega, by go_num, ⟨by rw [HTK.out]; simpa using O6.out⟩, B6⟩
        case measure => simp [intOf]; omega
      | cons r0 R =>
        have CS := Kept.mk (fun wx (h : Is 52 [] [] w.heap.size w.heap.size acc wx) => write_any (B := w.heap.size) ⟨(r0 :: R).toArray⟩ bld_ne (Nat.le_refl _) h lies_own (by rw [Lib.size_mk]; omega))
        go_wp2_with (first
          | (go_at_call 25; refine (CT.out _).mono ?_; rintro e w5 ⟨rfl, rfl⟩)
          | (go_at_call 43; refine (CS.out _ HO.out).mono ?_; rintro e w6 ⟨rfl, h6, hb6, _⟩; have O6 := Kept.mk h6; have B6 := Kept.mk (HB.out.trans hb6); clear h6 hb6))
        go_roundw
        case rel => exact ⟨k + 1, by omega, by go_num, ⟨by rw [HTK.out]; simpa using O6.out⟩, B6⟩
        case measure => simp [intOf]; omega
    · obtain rfl : k = s.size := by omega
      rw [List.take_of_length_le (by omega)] at HO
      have CS := Kept.mk (string_any (Nat.le_refl _) HO.out)
      go_wp2_with (go_at_call 30; refine CS.out.mono ?_; rintro e w5 ⟨rfl, _, hb5, _⟩; have B5 := Kept.mk (HB.out.trans hb5); clear hb5)
      go_ret
      exact ⟨rfl, B5.out⟩
set_option maxRecDepth 100000 in
theorem Escape_any (s : ByteArray) (w : World) (hs : s.size ≤ 10000000000) : Calls Tryz.prog 9 #[.string s] w fun e w' => e = .returned (.string ⟨(Ppr.escL s.data.toList).toArray⟩) ∧ Below w.heap.size w w' := by
  have CW := Kept.mk (written_text s w hs)
  unfold Ppr.escL
  go_enter Tryz.func9, Tryz.ntmps9
  go_wp2_with (go_at_call 24; refine CW.out.mono ?_; rintro e w1 ⟨rfl, hb1⟩)
  go_ret
  exact ⟨rfl, hb1⟩
theorem quo_cat (l : List UInt8) : (⟨#[34]⟩ : ByteArray) ++ ⟨l.toArray⟩ ++ ⟨#[34]⟩ = ⟨(34 :: (l ++ [34])).toArray⟩ := by
  apply ByteArray.ext
  apply Array.ext'
  simp
set_option maxRecDepth 100000 in
theorem Quote_any (s : ByteArray) (w : World) (hs : s.size ≤ 10000000000) : Calls Tryz.prog 8 #[.string s] w fun e w' => e = .returned (.string ⟨(Ppr.quoL s.data.toList).toArray⟩) ∧ Below w.heap.size w w' := by
  have hln := Ppr.putL_len Ppr.valueC_len s.data.toList
  rw [size_len] at hln
  have hcat := quo_cat (Ppr.putL Ppr.valueC s.data.toList)
  have hv := written_value s w hs
  unfold Ppr.quoL
  rw [← hcat]
  have hz : (⟨(Ppr.putL Ppr.valueC s.data.toList).toArray⟩ : ByteArray).size ≤ 60000000000 := by rw [Lib.size_mk]; omega
  generalize (⟨(Ppr.putL Ppr.valueC s.data.toList).toArray⟩ : ByteArray) = D at hv hz
  have CW := Kept.mk hv
  have z1 : ¬ 9223372036854775807 < 1 + D.size := by omega
  have z2 : ¬ 9223372036854775807 < 1 + D.size + 1 := by omega
  clear hcat hv hln
  go_enter Tryz.func8, Tryz.ntmps8
  go_wp2_with (go_at_call 24; refine CW.out.mono ?_; rintro e w1 ⟨rfl, hb1⟩)
  go_ret
  exact ⟨rfl, hb1⟩
end Go.Proofs.YtemfmidhekdekaaGreatDoor.Wpr
namespace Go.Proofs.YtemfmidhekdekaaGreatDoor.Wpr
open Go Go.RowKit Go.Proofs.YtemfmidhekdekaaGreatDoor.Kb Go.Proofs.YtemfmidhekdekaaGreatDoor.Emk Go.Proofs.YtemfmidhekdekaaGreatDoor.Wtr

/-- the writer in block b: these bytes are written, and it knows its tree -/
def Wr (A : Option Addr) (n c b : Nat) (acc : List UInt8) (w : World) : Prop := Is 61 [] [.slice A n c] b b acc w
theorem lies_wr (A : Option Addr) (n c : Nat) : liesAt Tryz.prog Tryz.prog.depth 61 ((([] : List Value).length + 2 + [Value.slice A n c].length) / Tryz.prog.cellsOf 61) ([] : List Value).length 52 1 = true := by kernel_rfl
theorem wr_ne : 61 ≠ 5 := by decide
theorem Wr.tree {A : Option Addr} {n c b : Nat} {acc : List UInt8} {w : World} (h : Wr A n c b acc w) : w.cell? ⟨b, 2, none⟩ = some (.slice A n c) := by
  obtain ⟨p, _, v, h1, _⟩ := h.any
  rw [cell_of_row w b _ _ _ _ h1]
  rfl
theorem _root_.Go.Proofs.YtemfmidhekdekaaGreatDoor.Ppr.putL_ge (h : UInt8 → List UInt8) (s : List UInt8) : s.length ≤ (Ppr.putL h s).length := by
  induction s with
  | nil => exact Nat.le_refl _
  | cons c s ih =>
    have h1 : 1 ≤ (Ppr.putC h c).length := by
      unfold Ppr.putC
      split
      · simp
      · rename_i hn
        exact List.length_pos_iff.2 hn
    unfold Ppr.putL at ih ⊢
    rw [List.flatMap_cons, List.length_append, List.length_cons]
    omega
theorem _root_.Go.Proofs.YtemfmidhekdekaaGreatDoor.Ppr.escL_ge (s : List UInt8) : s.length ≤ (Ppr.escL s).length := Ppr.putL_ge _ s
/-- what stands in a block that is no row of bytes, nor the writer's, stays -/
abbrev Kp (b : Nat) (w w' : World) : Prop := Lib.OthersKept 5 (some b) w w'
theorem kp_below {b : Nat} {w w' : World} (h : Below w.heap.size w w') : Kp b w w' := fun k o hk _ _ => by
  rw [h.block k (Array.getElem?_eq_some_iff.1 hk).1]
  exact hk
theorem kp_cells {b k : Nat} {w w' : World} {cs : Array Value} {t : TypeId} {fr : Nat × Nat} (h : Kp b w w') (hk : w.heap[k]? = some (.cells cs t fr)) (hb : k ≠ b) (ht : t ≠ 5) : w'.heap[k]? = some (.cells cs t fr) :=
  h k _ hk (fun e => hb (Option.some.inj e)) (fun c fz e => ht (by injection e))
set_option maxRecDepth 100000 in
set_option maxHeartbeats 2000000 in
theorem put_any (b : Nat) (A : Option Addr) (m c : Nat) (acc : List UInt8) (L : List ByteArray) (g n : Nat) (fr : Nat × Nat) (w : World) (h : Wr A m c b acc w) (hg : w.heap[g]? = some (.cells (L.map Value.string).toArray 9 fr)) (hgb : g ≠ b) (hn : L.length = n) (hL : L.length ≤ 10) (hz : acc.length + (L.flatMap fun s => s.data.toList).length ≤ 100000000000) :
    Calls Tryz.prog 47 #[.pointer (some ⟨b, 0, none⟩), .slice (some ⟨g, 0, none⟩) n n] w fun e w' => e = .returned (.tuple #[]) ∧ Wr A m c b (acc ++ L.flatMap fun s => s.data.toList) w' ∧ Below b w w' ∧ Kp b w w' := by
  subst hn
  have H0 : Kept (Wr A m c b (acc ++ (L.take 0).flatMap fun s => s.data.toList) w) := ⟨by simpa using h⟩
  have HG := Kept.mk hg
  clear h hg
  go_enter Tryz.func47, Tryz.ntmps47
  go_wp2
  go_loopw [8] (fun i wx => ∃ k : Nat, k ≤ L.length ∧ i = .int .i64 (k : Int) ∧ Kept (Wr A m c b (acc ++ (L.take k).flatMap fun s => s.data.toList) wx) ∧ Kept (Below b w wx) ∧ Kept (Kp b w wx)) (fun i _ => L.length - (intOf i).toNat)
  case atStart => exact ⟨0, by omega, rfl, H0, ⟨Below.refl _ _⟩, ⟨Lib.OthersKept.refl _ _ _⟩⟩
  case round =>
    clear H0
    obtain ⟨k, hk, rfl, HO, HB, HK⟩ := hrel
    have k0 : (0 : Int) ≤ (k : Int) := by omega
    by_cases hlt : k < L.length
    · have k1 : (k : Int) < (L.length : Int) := by omega
      obtain ⟨s, hs⟩ : ∃ s, L[k]? = some s := ⟨_, List.getElem?_eq_getElem hlt⟩
      have hc : wr.cell? ⟨g, k, none⟩ = some (.string s) := by
        rw [cell_of_row wr g k _ _ _ (kp_cells HK.out HG.out hgb (by decide))]
        simp [hs]
      have htk : (acc ++ (L.take (k + 1)).flatMap fun s => s.data.toList) = (acc ++ (L.take k).flatMap fun s => s.data.toList) ++ s.data.toList := by
        rw [List.take_add_one, hs, List.flatMap_append]
        simp
      have hln : (acc ++ (L.take (k + 1)).flatMap fun s => s.data.toList).length ≤ 100000000000 := by
        have e : L.flatMap (fun s => s.data.toList) = (L.take (k + 1)).flatMap (fun s => s.data.toList) ++ (L.drop (k + 1)).flatMap (fun s => s.data.toList) := by rw [← List.flatMap_append, List.take_append_drop]
        rw [e, List.length_append] at hz
        rw [List.length_append]
        omega
      rw [htk, List.length_append, size_len] at hln
      have HTK := Kept.mk htk
      generalize (acc ++ (L.take k).flatMap fun s => s.data.toList) = M at HO HTK hln
      have CW := Kept.mk (write_any s wr_ne (Nat.le_refl b) HO.out (lies_wr A m c) (by omega))
      clear htk hs
      go_wp2_with (go_at_call 43; refine CW.out.mono ?_; rintro e w5 ⟨rfl, h5, hb5, hk5⟩; have O5 := Kept.mk h5; have B5 := Kept.mk (HB.out.trans hb5); have K5 := Kept.mk (HK.out.trans hk5); clear h5 hb5 hk5)
      go_roundw
      case rel => exact ⟨k + 1, by omega, by go_num, ⟨by rw [HTK.out]; exact O5.out⟩, B5, K5⟩
      case measure => simp [intOf]; omega
    · obtain rfl : k = L.length := by omega
      rw [List.take_of_length_le (Nat.le_refl _)] at HO
      go_wp2
      go_end0
      exact ⟨rfl, HO.out, HB.out, HK.out⟩
/-- what the walk over a node shows; w0: the world in which the writer was laid -/
def NodeOk (A : Option Addr) (l : List Ptr.Nd) (c : Nat) (w0 : World) (j : Nat) : Prop := ∀ (acc : List UInt8) (w : World), Wr A l.length c w0.heap.size acc w → Below w0.heap.size w0 w → acc.length + (Ppr.prN l j).length ≤ 10000000000 →
  Calls Tryz.prog 29 #[.pointer (some ⟨w0.heap.size, 0, none⟩), .int .i64 (j : Int)] w fun e w' => e = .returned (.int .i64 (Ptr.endN l j : Int)) ∧ Wr A l.length c w0.heap.size (acc ++ Ppr.prN l j) w' ∧ Below w0.heap.size w0 w' ∧ Kp w0.heap.size w w'
theorem flat_snoc {α : Type} (f : α → List UInt8) (V : List α) (k : α) : (V ++ [k]).flatMap f = V.flatMap f ++ f k := by simp
theorem ret_nat {x y : Nat} (h : x = y) : Ending.returned (.int .i64 (x : Int)) = .returned (.int .i64 (y : Int)) := by rw [h]
set_option maxRecDepth 100000 in
set_option maxHeartbeats 2000000 in
theorem kids_any (A : Option Addr) (l : List Ptr.Nd) (c : Nat) (root : Bool) (hA : Ptr.allB l root l.length = true) (w0 : World) (hr : RdN w0 A l) (i k0 : Nat) (hN : ∀ j, i < j → j < l.length → NodeOk A l c w0 j) (hK : Ppr.Kid l i k0 []) (acc : List UInt8) (w : World)
    (hW : Wr A l.length c w0.heap.size acc w) (hB : Below w0.heap.size w0 w) (hz : acc.length + ((Ppr.childs l i).flatMap (Ppr.prN l)).length ≤ 10000000000) :
    Calls Tryz.prog 48 #[.pointer (some ⟨w0.heap.size, 0, none⟩), .int .i64 (i : Int), .int .i64 (k0 : Int)] w fun e w' => e = .returned (.int .i64 (Ptr.endN l i : Int)) ∧ Wr A l.length c w0.heap.size (acc ++ (Ppr.childs l i).flatMap (Ppr.prN l)) w' ∧ Below w0.heap.size w0 w' ∧ Kp w0.heap.size w w' := by
  have HR := Kept.mk hr
  have HN := Kept.mk hN
  have HA := Kept.mk hA
  have H0 : Kept (Ppr.Kid l i k0 [] ∧ Wr A l.length c w0.heap.size (acc ++ ([] : List Nat).flatMap (Ppr.prN l)) w ∧ Below w0.heap.size w0 w ∧ Kp w0.heap.size w w) := ⟨hK, by simpa using hW, hB, Lib.OthersKept.refl _ _ _⟩
  have HZ := Kept.mk hz
  clear hr hN hA hK hW hB hz
  go_enter Tryz.func48, Tryz.ntmps48
  go_wp2
  go_loopw [2] (fun v wx => ∃ (k : Nat) (V : List Nat), v = .int .i64 (k : Int) ∧ Kept (Ppr.Kid l i k V ∧ Wr A l.length c w0.heap.size (acc ++ V.flatMap (Ppr.prN l)) wx ∧ Below w0.heap.size w0 wx ∧ Kp w0.heap.size w wx)) (fun v _ => l.length - (intOf v).toNat)
  case atStart => exact ⟨k0, [], rfl, H0⟩
  case round =>
    clear H0
    obtain ⟨k, V, rfl, H⟩ := hrel
    obtain ⟨hK, hW, hB, hP⟩ := H.out
    have ct := hW.tree
    have hkl := hK.hi
    have hik := hK.lo
    have k0 : (0 : Int) ≤ (k : Int) := by omega
    have HH := Kept.mk (And.intro hK (And.intro hW (And.intro hB hP)))
    clear hK hW hP H
    by_cases hlt : k < l.length
    · have k1 : (k : Int) < (l.length : Int) := by omega
      obtain ⟨g, off, rfl, _, _, _, c3⟩ := (HR.out.below hB).at_ hlt
      simp only at c3
      by_cases hp : Ptr.par l k = i
      · rw [hp] at c3
        have hs : Ppr.childs l i = (V ++ [k]) ++ Ppr.kidsFrom l i (Ptr.endN l k) := (Ppr.kid_step HA.out HH.out.1 hlt hp).rest
        have hzz := HZ.out
        rw [hs, List.flatMap_append, flat_snoc] at hzz
        simp only [List.length_append] at hzz
        have hen : (Ptr.endN l k) ≤ l.length := (Ptr.endN_spec l k hlt).2.1
        have hen2 : k < Ptr.endN l k := (Ptr.endN_spec l k hlt).1
        have CN := Kept.mk (HN.out k hik hlt (acc ++ V.flatMap (Ppr.prN l)) wr HH.out.2.1 HH.out.2.2.1 (by rw [List.length_append]; omega))
        clear hs hzz hB
        go_wp2_with (go_at_call 29; refine CN.out.mono ?_; rintro e w5 ⟨rfl, h5, hb5, hk5⟩; have O5 := Kept.mk (And.intro h5 (And.intro hb5 (HH.out.2.2.2.trans hk5))); clear h5 hb5 hk5)
        go_roundw
        case rel => exact ⟨Ptr.endN l k, V ++ [k], rfl, ⟨Ppr.kid_step HA.out HH.out.1 hlt hp, by rw [flat_snoc, ← List.append_assoc]; exact O5.out.1, O5.out.2.1, O5.out.2.2⟩⟩
        case measure => simp [intOf]; omega
      · have hpb : (Ptr.par l k == (i : Int)) = false := by simpa using hp
        obtain ⟨e1, e2⟩ := Ppr.kid_stop HA.out HH.out.1 (.inr hp)
        have E1 := Kept.mk e1
        have E2 := Kept.mk e2
        clear e1 e2 hB
        go_wp2
        go_ret
        exact ⟨ret_nat E2.out.symm, by rw [E1.out]; exact HH.out.2.1, HH.out.2.2.1, HH.out.2.2.2⟩
    · obtain rfl : k = l.length := by omega
      obtain ⟨e1, e2⟩ := Ppr.kid_stop HA.out HH.out.1 (.inl rfl)
      have E1 := Kept.mk e1
      have E2 := Kept.mk e2
      clear e1 e2 hB
      go_wp2
      go_ret
      exact ⟨ret_nat E2.out.symm, by rw [E1.out]; exact HH.out.2.1, HH.out.2.2.1, HH.out.2.2.2⟩
/-- the texts that put is handed, in a block of their own -/
theorem put_new (b : Nat) (A : Option Addr) (m c : Nat) (acc : List UInt8) (L : List ByteArray) (n : Nat) (w : World) (h : Wr A m c b acc w) (hn : L.length = n) (hL : L.length ≤ 10) (hz : acc.length + (L.flatMap fun s => s.data.toList).length ≤ 100000000000) :
    Calls Tryz.prog 47 #[.pointer (some ⟨b, 0, none⟩), .slice (some ⟨w.heap.size, 0, none⟩) n n] (w.alloc (.cells (L.map Value.string).toArray 9)) fun e w' => e = .returned (.tuple #[]) ∧ Wr A m c b (acc ++ L.flatMap fun s => s.data.toList) w' ∧ Below b w w' ∧ Kp b w w' := by
  have hb := Below.refl w.heap.size w
  have hlt := h.lt
  have ha := hb.alloc (Nat.le_refl _) (.cells (L.map Value.string).toArray 9)
  refine (put_any b A m c acc L w.heap.size n (0, 0) _ (h.below ha) (heap_alloc_new _ _) (by omega) hn hL hz).mono ?_
  rintro e w' ⟨he, h1, h2, h3⟩
  exact ⟨he, h1, (ha.mono (Nat.le_of_lt hlt)).trans h2, (kp_below ha).trans h3⟩
end Go.Proofs.YtemfmidhekdekaaGreatDoor.Wpr
namespace Go.Proofs.YtemfmidhekdekaaGreatDoor.Wpr
open Go Go.RowKit Go.Proofs.YtemfmidhekdekaaGreatDoor.Kb Go.Proofs.YtemfmidhekdekaaGreatDoor.Emk Go.Proofs.YtemfmidhekdekaaGreatDoor.Wtr

theorem next_i {i : Nat} (h : i ≤ 100000) : IntKind.i64.wrap ((i : Int) + 1) = (i : Int) + 1 := by rw [IntKind.wrap_i64]; omega
theorem ret_end {i N : Nat} (h : N = i + 1) : Ending.returned (.int .i64 ((i : Int) + 1)) = .returned (.int .i64 (N : Int)) := by subst h; rfl

set_option maxRecDepth 100000 in
set_option maxHeartbeats 4000000 in
theorem node_comment (A : Option Addr) (l : List Ptr.Nd) (c : Nat) (root : Bool) (hA : Ptr.allB l root l.length = true) (w0 : World) (hr : RdN w0 A l) (i : Nat) (hi : i < l.length) (hl : l.length ≤ 100000) (hk : Ptr.kin l i = 5) : NodeOk A l c w0 i := by
  intro acc w hW hB hz
  have ct := hW.tree
  have HR := Kept.mk hr
  obtain ⟨g, off, rfl, c0, c1, c2, c3⟩ := (hr.below hB).at_ hi
  simp only at c0 c1 c2 c3
  rw [hk] at c0
  have hprt : Ppr.prN l i = [60, 33, 45, 45] ++ Ptr.val l i ++ [45, 45, 62] := by rw [Ppr.prN_at (Ppr.tree_rng hA) hi]; simp [hk]
  have i0 : (0 : Int) ≤ (i : Int) := by omega
  have i1 : (i : Int) < (l.length : Int) := by omega
  have hlt := hW.lt
  obtain ⟨nm, hnm⟩ : ∃ nm : ByteArray, nm = ⟨(Ptr.nam l i).toArray⟩ := ⟨_, rfl⟩
  obtain ⟨vl, hvl⟩ : ∃ vl : ByteArray, vl = ⟨(Ptr.val l i).toArray⟩ := ⟨_, rfl⟩
  rw [← hnm] at c1
  rw [← hvl] at c2
  have hn2 : nm.data.toList = Ptr.nam l i := by rw [hnm]
  have hv2 : vl.data.toList = Ptr.val l i := by rw [hvl]
  rw [hprt] at hz ⊢
  rw [← hv2] at hz ⊢
  obtain ⟨P, hP⟩ : ∃ P : Int, P = Ptr.par l i := ⟨_, rfl⟩
  rw [← hP] at c3
  have hab := (Below.refl w.heap.size w).alloc (Nat.le_refl _) (.cells #[.int .u8 5, .string nm, .string vl, .int .i64 P] 32)
  have hal := heap_alloc_new w (.cells #[.int .u8 5, .string nm, .string vl, .int .i64 P] 32)
  have HW := Kept.mk (hW.below hab)
  have HB := Kept.mk (hB.trans (hab.mono hB.size))
  have HK := Kept.mk (kp_below (b := w0.heap.size) hab)
  have hqb : w.heap.size ≠ w0.heap.size := by omega
  have hwr := next_i (i := i) (by omega)
  have HZ := Kept.mk hz
  clear hW hB hz hnm hvl hprt hab hn2 hv2 hP
  have HEND := Kept.mk (Ppr.end_leaf hA hi (by omega) (by omega))
  go_enter Tryz.func29, Tryz.ntmps29
  go_upto_region 3 with (fail)
  obtain ⟨q, hq⟩ : ∃ q, q = w.heap.size := ⟨_, rfl⟩
  rw [← hq] at hal hqb ⊢
  generalize w.alloc (.cells #[.int .u8 5, .string nm, .string vl, .int .i64 P] 32) = W1 at HW HB HK hal ⊢
  have n0 : W1.cell? ⟨q, 0, none⟩ = some (.int .u8 5) := by rw [cell_of_row W1 q _ _ _ _ hal]; rfl
  have n1 : W1.cell? ⟨q, 1, none⟩ = some (.string nm) := by rw [cell_of_row W1 q _ _ _ _ hal]; rfl
  have n2 : W1.cell? ⟨q, 2, none⟩ = some (.string vl) := by rw [cell_of_row W1 q _ _ _ _ hal]; rfl
  have HAL := Kept.mk hal
  clear hal hq c0 c1 c2 c3 ct
  have hzz := HZ.out
  simp only [List.length_append, List.length_cons, List.length_nil] at hzz
  have CP := Kept.mk (put_new w0.heap.size (some ⟨g, off, none⟩) l.length c acc [⟨#[60, 33, 45, 45]⟩, vl, ⟨#[45, 45, 62]⟩] 3 W1 HW.out rfl (by show 3 ≤ 10; decide) (by simp only [List.flatMap_cons, List.flatMap_nil, List.append_nil, List.length_append, List.length_cons, List.length_nil]; show acc.length + (4 + (vl.data.toList.length + 3)) ≤ _; omega))
  go_wp2_with (go_at_call 47; refine CP.out.mono ?_; rintro e w5 ⟨rfl, h5, hb5, hk5⟩)
  go_ret
  exact ⟨ret_end HEND.out, by simpa using h5, HB.out.trans hb5, HK.out.trans hk5⟩
set_option maxRecDepth 100000 in
set_option maxHeartbeats 4000000 in
theorem node_text (A : Option Addr) (l : List Ptr.Nd) (c : Nat) (root : Bool) (hA : Ptr.allB l root l.length = true) (w0 : World) (hr : RdN w0 A l) (i : Nat) (hi : i < l.length) (hl : l.length ≤ 100000) (hk : Ptr.kin l i = 4) : NodeOk A l c w0 i := by
  intro acc w hW hB hz
  have ct := hW.tree
  have HR := Kept.mk hr
  obtain ⟨g, off, rfl, c0, c1, c2, c3⟩ := (hr.below hB).at_ hi
  simp only at c0 c1 c2 c3
  rw [hk] at c0
  have hprt : Ppr.prN l i = Ppr.escL (Ptr.val l i) := by rw [Ppr.prN_at (Ppr.tree_rng hA) hi]; simp [hk]
  have i0 : (0 : Int) ≤ (i : Int) := by omega
  have i1 : (i : Int) < (l.length : Int) := by omega
  have hlt := hW.lt
  obtain ⟨nm, hnm⟩ : ∃ nm : ByteArray, nm = ⟨(Ptr.nam l i).toArray⟩ := ⟨_, rfl⟩
  obtain ⟨vl, hvl⟩ : ∃ vl : ByteArray, vl = ⟨(Ptr.val l i).toArray⟩ := ⟨_, rfl⟩
  rw [← hnm] at c1
  rw [← hvl] at c2
  have hn2 : nm.data.toList = Ptr.nam l i := by rw [hnm]
  have hv2 : vl.data.toList = Ptr.val l i := by rw [hvl]
  rw [hprt] at hz ⊢
  rw [← hv2] at hz ⊢
  obtain ⟨P, hP⟩ : ∃ P : Int, P = Ptr.par l i := ⟨_, rfl⟩
  rw [← hP] at c3
  have hab := (Below.refl w.heap.size w).alloc (Nat.le_refl _) (.cells #[.int .u8 4, .string nm, .string vl, .int .i64 P] 32)
  have hal := heap_alloc_new w (.cells #[.int .u8 4, .string nm, .string vl, .int .i64 P] 32)
  have HW := Kept.mk (hW.below hab)
  have HB := Kept.mk (hB.trans (hab.mono hB.size))
  have HK := Kept.mk (kp_below (b := w0.heap.size) hab)
  have hqb : w.heap.size ≠ w0.heap.size := by omega
  have hwr := next_i (i := i) (by omega)
  have HZ := Kept.mk hz
  clear hW hB hz hnm hvl hprt hab hn2 hv2 hP
  have HEND := Kept.mk (Ppr.end_leaf hA hi (by omega) (by omega))
  go_enter Tryz.func29, Tryz.ntmps29
  go_upto_region 3 with (fail)
  obtain ⟨q, hq⟩ : ∃ q, q = w.heap.size := ⟨_, rfl⟩
  rw [← hq] at hal hqb ⊢
  generalize w.alloc (.cells #[.int .u8 4, .string nm, .string vl, .int .i64 P] 32) = W1 at HW HB HK hal ⊢
  have n0 : W1.cell? ⟨q, 0, none⟩ = some (.int .u8 4) := by rw [cell_of_row W1 q _ _ _ _ hal]; rfl
  have n1 : W1.cell? ⟨q, 1, none⟩ = some (.string nm) := by rw [cell_of_row W1 q _ _ _ _ hal]; rfl
  have n2 : W1.cell? ⟨q, 2, none⟩ = some (.string vl) := by rw [cell_of_row W1 q _ _ _ _ hal]; rfl
  have HAL := Kept.mk hal
  clear hal hq c0 c1 c2 c3 ct
  have hzz := HZ.out
  obtain ⟨D, hD⟩ : ∃ D : ByteArray, D = ⟨(Ppr.escL vl.data.toList).toArray⟩ := ⟨_, rfl⟩
  have hD2 : D.data.toList = Ppr.escL vl.data.toList := by rw [hD]
  have hvs : vl.size ≤ 10000000000 := by
    have h := Ppr.escL_ge vl.data.toList
    rw [size_len] at h
    omega
  have CE : Kept (Calls Tryz.prog 9 #[.string vl] W1 fun e w' => e = .returned (.string D) ∧ Below W1.heap.size W1 w') := ⟨by rw [hD]; exact Escape_any vl W1 hvs⟩
  rw [← hD2] at hzz
  have HD := Kept.mk hD2
  clear hD hD2
  have CP := Kept.mk (fun w2 (h : Below W1.heap.size W1 w2) => put_new w0.heap.size (some ⟨g, off, none⟩) l.length c acc [D] 1 w2 (HW.out.below h) rfl (by show 1 ≤ 10; decide) (by simp only [List.flatMap_cons, List.flatMap_nil, List.append_nil]; omega))
  go_wp2_with (first
    | (go_at_call 9; refine CE.out.mono ?_; rintro e w4 ⟨rfl, hb4⟩; have H4 := Kept.mk hb4; clear hb4)
    | (go_at_call 47; refine (CP.out w4 H4.out).mono ?_; rintro e w5 ⟨rfl, h5, hb5, hk5⟩))
  have hlw : w0.heap.size ≤ W1.heap.size := HB.out.size
  go_ret
  exact ⟨ret_end HEND.out, by rw [← HD.out]; simpa using h5, (HB.out.trans (H4.out.mono hlw)).trans hb5, (HK.out.trans (kp_below H4.out)).trans hk5⟩
theorem nd_cells {w : World} {q : Nat} {a b c d : Value} {t : TypeId} {fr : Nat × Nat} (h : w.heap[q]? = some (.cells #[a, b, c, d] t fr)) : w.cell? ⟨q, 1, none⟩ = some b ∧ w.cell? ⟨q, 2, none⟩ = some c := ⟨by rw [cell_of_row w q _ _ _ _ h]; rfl, by rw [cell_of_row w q _ _ _ _ h]; rfl⟩
theorem two_keep {w w' : World} {q : Nat} {a b : Value} (h : w.cell? ⟨q, 1, none⟩ = some a ∧ w.cell? ⟨q, 2, none⟩ = some b) (hb : Below w.heap.size w w') : w'.cell? ⟨q, 1, none⟩ = some a ∧ w'.cell? ⟨q, 2, none⟩ = some b := ⟨cell_keep hb h.1, cell_keep hb h.2⟩
theorem two_alloc {w : World} {q : Nat} {a b : Value} (o : Obj) (h : w.cell? ⟨q, 1, none⟩ = some a ∧ w.cell? ⟨q, 2, none⟩ = some b) : (w.alloc o).cell? ⟨q, 1, none⟩ = some a ∧ (w.alloc o).cell? ⟨q, 2, none⟩ = some b := two_keep h ((Below.refl _ _).alloc (Nat.le_refl _) o)
theorem nd_ne : 32 ≠ 5 := by decide
set_option maxRecDepth 100000 in
set_option maxHeartbeats 4000000 in
theorem node_attr (A : Option Addr) (l : List Ptr.Nd) (c : Nat) (root : Bool) (hA : Ptr.allB l root l.length = true) (w0 : World) (hr : RdN w0 A l) (i : Nat) (hi : i < l.length) (hl : l.length ≤ 100000) (hk : Ptr.kin l i = 3) : NodeOk A l c w0 i := by
  intro acc w hW hB hz
  have ct := hW.tree
  have HR := Kept.mk hr
  obtain ⟨g, off, rfl, c0, c1, c2, c3⟩ := (hr.below hB).at_ hi
  simp only at c0 c1 c2 c3
  rw [hk] at c0
  have hprt : Ppr.prN l i = Ptr.nam l i ++ 61 :: Ppr.quoL (Ptr.val l i) := by rw [Ppr.prN_at (Ppr.tree_rng hA) hi]; simp [hk]
  have i0 : (0 : Int) ≤ (i : Int) := by omega
  have i1 : (i : Int) < (l.length : Int) := by omega
  have hlt := hW.lt
  obtain ⟨nm, hnm⟩ : ∃ nm : ByteArray, nm = ⟨(Ptr.nam l i).toArray⟩ := ⟨_, rfl⟩
  obtain ⟨vl, hvl⟩ : ∃ vl : ByteArray, vl = ⟨(Ptr.val l i).toArray⟩ := ⟨_, rfl⟩
  rw [← hnm] at c1
  rw [← hvl] at c2
  have hn2 : nm.data.toList = Ptr.nam l i := by rw [hnm]
  have hv2 : vl.data.toList = Ptr.val l i := by rw [hvl]
  rw [hprt] at hz ⊢
  rw [← hn2, ← hv2] at hz ⊢
  obtain ⟨P, hP⟩ : ∃ P : Int, P = Ptr.par l i := ⟨_, rfl⟩
  rw [← hP] at c3
  have hab := (Below.refl w.heap.size w).alloc (Nat.le_refl _) (.cells #[.int .u8 3, .string nm, .string vl, .int .i64 P] 32)
  have hal := heap_alloc_new w (.cells #[.int .u8 3, .string nm, .string vl, .int .i64 P] 32)
  have HW := Kept.mk (hW.below hab)
  have HB := Kept.mk (hB.trans (hab.mono hB.size))
  have HK := Kept.mk (kp_below (b := w0.heap.size) hab)
  have hqb : w.heap.size ≠ w0.heap.size := by omega
  have hwr := next_i (i := i) (by omega)
  have HZ := Kept.mk hz
  clear hW hB hz hnm hvl hprt hab hn2 hv2 hP
  have HEND := Kept.mk (Ppr.end_leaf hA hi (by omega) (by omega))
  go_enter Tryz.func29, Tryz.ntmps29
  go_upto_region 3 with (fail)
  obtain ⟨q, hq⟩ : ∃ q, q = w.heap.size := ⟨_, rfl⟩
  rw [← hq] at hal hqb ⊢
  generalize w.alloc (.cells #[.int .u8 3, .string nm, .string vl, .int .i64 P] 32) = W1 at HW HB HK hal ⊢
  have n0 : W1.cell? ⟨q, 0, none⟩ = some (.int .u8 3) := by rw [cell_of_row W1 q _ _ _ _ hal]; rfl
  have n1 : W1.cell? ⟨q, 1, none⟩ = some (.string nm) := by rw [cell_of_row W1 q _ _ _ _ hal]; rfl
  have n2 : W1.cell? ⟨q, 2, none⟩ = some (.string vl) := by rw [cell_of_row W1 q _ _ _ _ hal]; rfl
  have HAL := Kept.mk hal
  clear hal hq c0 c1 c2 c3 ct
  have hzz := HZ.out
  simp only [List.length_append, List.length_cons] at hzz
  obtain ⟨D, hD⟩ : ∃ D : ByteArray, D = ⟨(Ppr.quoL vl.data.toList).toArray⟩ := ⟨_, rfl⟩
  have hD2 : D.data.toList = Ppr.quoL vl.data.toList := by rw [hD]
  have hvs : vl.size ≤ 10000000000 := by
    have h := Ppr.putL_ge Ppr.valueC vl.data.toList
    rw [size_len] at h
    unfold Ppr.quoL at hzz
    simp only [List.length_append, List.length_cons] at hzz
    omega
  have CE : Kept (Calls Tryz.prog 8 #[.string vl] W1.drew fun e w' => e = .returned (.string D) ∧ Below W1.drew.heap.size W1.drew w') := ⟨by rw [hD]; exact Quote_any vl W1.drew hvs⟩
  rw [← hD2] at hzz
  have HD := Kept.mk hD2
  clear hD hD2
  have CP := Kept.mk (fun w2 (h : Below W1.heap.size W1 w2) => put_new w0.heap.size (some ⟨g, off, none⟩) l.length c acc [nm, ⟨#[61]⟩, D] 3 w2 (HW.out.below h) rfl (by show 3 ≤ 10; decide) (by simp only [List.flatMap_cons, List.flatMap_nil, List.append_nil, List.length_append]; show acc.length + (nm.data.toList.length + (1 + D.data.toList.length)) ≤ _; omega))
  have S0 : W1.cell? ⟨q, 1, none⟩ = some (.string nm) ∧ W1.cell? ⟨q, 2, none⟩ = some (.string vl) := ⟨n1, n2⟩
  go_upto_region 4 with (fail)
  go_region_held3 (fun wx => wx.cell? ⟨q, 1, none⟩ = some (.string nm) ∧ wx.cell? ⟨q, 2, none⟩ = some (.string vl)) (first
      | assumption
      | exact S0
      | exact two_keep (by assumption) (by assumption)
      | exact two_alloc _ (by assumption)) (first
    | (go_at_call 8; refine CE.out.mono ?_; rintro e w4 ⟨rfl, hb4⟩; have H4 := ((Below.refl W1.heap.size W1).drew).trans (hb4.mono (Nat.le_refl _)))
    | (go_at_call 47; refine (CP.out w4 H4).mono ?_; rintro e w5 ⟨rfl, h5, hb5, hk5⟩; have hS5 := nd_cells (kp_cells ((kp_below H4).trans hk5) HAL.out hqb nd_ne)))
  all_goals
    go_wp2
    go_ret
    exact ⟨ret_end HEND.out, by rw [← HD.out]; simpa using h5, (HB.out.trans (H4.mono HB.out.size)).trans hb5, (HK.out.trans (kp_below H4)).trans hk5⟩
set_option maxRecDepth 100000 in
set_option maxHeartbeats 4000000 in
theorem node_instr (A : Option Addr) (l : List Ptr.Nd) (c : Nat) (root : Bool) (hA : Ptr.allB l root l.length = true) (w0 : World) (hr : RdN w0 A l) (i : Nat) (hi : i < l.length) (hl : l.length ≤ 100000) (hk : Ptr.kin l i = 6) : NodeOk A l c w0 i := by
  intro acc w hW hB hz
  have ct := hW.tree
  have HR := Kept.mk hr
  obtain ⟨g, off, rfl, c0, c1, c2, c3⟩ := (hr.below hB).at_ hi
  simp only at c0 c1 c2 c3
  rw [hk] at c0
  have hprt : Ppr.prN l i = [60, 63] ++ Ptr.nam l i ++ (if Ptr.val l i = [] then [] else 32 :: Ptr.val l i) ++ [63, 62] := by rw [Ppr.prN_at (Ppr.tree_rng hA) hi]; simp [hk]
  have i0 : (0 : Int) ≤ (i : Int) := by omega
  have i1 : (i : Int) < (l.length : Int) := by omega
  have hlt := hW.lt
  obtain ⟨nm, hnm⟩ : ∃ nm : ByteArray, nm = ⟨(Ptr.nam l i).toArray⟩ := ⟨_, rfl⟩
  obtain ⟨vl, hvl⟩ : ∃ vl : ByteArray, vl = ⟨(Ptr.val l i).toArray⟩ := ⟨_, rfl⟩
  rw [← hnm] at c1
  rw [← hvl] at c2
  have hn2 : nm.data.toList = Ptr.nam l i := by rw [hnm]
  have hv2 : vl.data.toList = Ptr.val l i := by rw [hvl]
  rw [hprt] at hz ⊢
  rw [← hn2, ← hv2] at hz ⊢
  obtain ⟨P, hP⟩ : ∃ P : Int, P = Ptr.par l i := ⟨_, rfl⟩
  rw [← hP] at c3
  have hab := (Below.refl w.heap.size w).alloc (Nat.le_refl _) (.cells #[.int .u8 6, .string nm, .string vl, .int .i64 P] 32)
  have hal := heap_alloc_new w (.cells #[.int .u8 6, .string nm, .string vl, .int .i64 P] 32)
  have HW := Kept.mk (hW.below hab)
  have HB := Kept.mk (hB.trans (hab.mono hB.size))
  have HK := Kept.mk (kp_below (b := w0.heap.size) hab)
  have hqb : w.heap.size ≠ w0.heap.size := by omega
  have hwr := next_i (i := i) (by omega)
  have HZ := Kept.mk hz
  clear hW hB hz hnm hvl hprt hab hn2 hv2 hP
  have HEND := Kept.mk (Ppr.end_leaf hA hi (by omega) (by omega))
  go_enter Tryz.func29, Tryz.ntmps29
  go_upto_region 3 with (fail)
  obtain ⟨q, hq⟩ : ∃ q, q = w.heap.size := ⟨_, rfl⟩
  rw [← hq] at hal hqb ⊢
  generalize w.alloc (.cells #[.int .u8 6, .string nm, .string vl, .int .i64 P] 32) = W1 at HW HB HK hal ⊢
  have n0 : W1.cell? ⟨q, 0, none⟩ = some (.int .u8 6) := by rw [cell_of_row W1 q _ _ _ _ hal]; rfl
  have n1 : W1.cell? ⟨q, 1, none⟩ = some (.string nm) := by rw [cell_of_row W1 q _ _ _ _ hal]; rfl
  have n2 : W1.cell? ⟨q, 2, none⟩ = some (.string vl) := by rw [cell_of_row W1 q _ _ _ _ hal]; rfl
  have HAL := Kept.mk hal
  clear hal hq c0 c1 c2 c3 ct
  have hzz := HZ.out
  simp only [List.length_append, List.length_cons, List.length_nil] at hzz
  have C1 := Kept.mk (put_new w0.heap.size (some ⟨g, off, none⟩) l.length c acc [⟨#[60, 63]⟩, nm] 2 W1 HW.out rfl (by show 2 ≤ 10; decide) (by simp only [List.flatMap_cons, List.flatMap_nil, List.append_nil, List.length_append]; show acc.length + (2 + nm.data.toList.length) ≤ _; omega))
  have hend : ∀ (acc2 : List UInt8) (w2 : World), Wr (some ⟨g, off, none⟩) l.length c w0.heap.size acc2 w2 → acc2.length + 2 ≤ 100000000000 → Calls Tryz.prog 47 #[.pointer (some ⟨w0.heap.size, 0, none⟩), .slice (some ⟨w2.heap.size, 0, none⟩) 1 1] (w2.alloc (.cells #[.string ⟨#[63, 62]⟩] 9)) fun e w' => e = .returned (.tuple #[]) ∧ Wr (some ⟨g, off, none⟩) l.length c w0.heap.size (acc2 ++ [63, 62]) w' ∧ Below w0.heap.size w2 w' ∧ Kp w0.heap.size w2 w' := fun acc2 w2 h2 hz2 => put_new w0.heap.size (some ⟨g, off, none⟩) l.length c acc2 [⟨#[63, 62]⟩] 1 w2 h2 rfl (by show 1 ≤ 10; decide) hz2
  have CEND := Kept.mk hend
  clear hend
  go_wp2_with (fail)
  refine C1.out.mono ?_; rintro e w5 ⟨rfl, h5, hb5, hk5⟩
  have h5 : Wr (some ⟨g, off, none⟩) l.length c w0.heap.size (acc ++ ([60, 63] ++ nm.data.toList)) w5 := by simpa using h5
  obtain ⟨s1, s2⟩ := nd_cells (kp_cells hk5 HAL.out hqb nd_ne)
  have H5 := Kept.mk h5; have B5 := Kept.mk (HB.out.trans hb5); have K5 := Kept.mk (HK.out.trans hk5)
  clear C1 h5 hb5 hk5 n0 n1 n2 HAL
  by_cases hv : vl.data.toList = []
  · have hvl : vl = ⟨#[]⟩ := by
      apply ByteArray.ext
      apply Array.ext'
      exact hv
    subst hvl
    go_wp2_with (fail)
    refine (CEND.out _ w5 H5.out (by simp only [List.length_append, List.length_cons, List.length_nil]; omega)).mono ?_; rintro e w6 ⟨rfl, h6, hb6, hk6⟩
    have H6 := Kept.mk h6; have B6 := Kept.mk (B5.out.trans hb6); have K6 := Kept.mk (K5.out.trans hk6)
    clear h6 hb6 hk6
    go_wp2
    go_ret
    exact ⟨ret_end HEND.out, by simpa using H6.out, B6.out, K6.out⟩
  · rw [if_neg hv] at hzz
    simp only [List.length_cons] at hzz
    obtain ⟨x, r, hxr⟩ : ∃ x r, vl.data.toList = x :: r := by
      cases h : vl.data.toList with
      | nil => exact absurd h hv
      | cons x r => exact ⟨x, r, rfl⟩
    rw [hxr, List.length_cons] at hzz
    have hvl : vl = ⟨(x :: r).toArray⟩ := by
      apply ByteArray.ext
      apply Array.ext'
      exact hxr
    subst hvl
    have C2 := Kept.mk (put_new w0.heap.size (some ⟨g, off, none⟩) l.length c (acc ++ ([60, 63] ++ nm.data.toList)) [⟨#[32]⟩, ⟨(x :: r).toArray⟩] 2 w5 H5.out rfl (by show 2 ≤ 10; decide) (by simp only [List.flatMap_cons, List.flatMap_nil, List.append_nil, List.length_append]; show acc.length + (2 + nm.data.toList.length) + (1 + (r.length + 1)) ≤ _; omega))
    go_wp2_with (fail)
    refine C2.out.mono ?_; rintro e w6 ⟨rfl, h6, hb6, hk6⟩
    have h6 : Wr (some ⟨g, off, none⟩) l.length c w0.heap.size (acc ++ ([60, 63] ++ nm.data.toList) ++ 32 :: (x :: r)) w6 := by simpa using h6
    have H6 := Kept.mk h6; have B6 := Kept.mk (B5.out.trans hb6); have K6 := Kept.mk (K5.out.trans hk6)
    clear C2 h6 hb6 hk6
    go_wp2_with (fail)
    refine (CEND.out _ w6 H6.out (by simp only [List.length_append, List.length_cons, List.length_nil]; omega)).mono ?_; rintro e w7 ⟨rfl, h7, hb7, hk7⟩
    have H7 := Kept.mk h7; have B7 := Kept.mk (B6.out.trans hb7); have K7 := Kept.mk (K6.out.trans hk7)
    clear h7 hb7 hk7
    go_wp2
    go_ret
    exact ⟨ret_end HEND.out, by simpa [hv] using H7.out, B7.out, K7.out⟩
set_option maxRecDepth 100000 in
set_option maxHeartbeats 4000000 in
theorem node_root (A : Option Addr) (l : List Ptr.Nd) (c : Nat) (root : Bool) (hA : Ptr.allB l root l.length = true) (w0 : World) (hr : RdN w0 A l) (i : Nat) (hi : i < l.length) (hl : l.length ≤ 100000) (hk : Ptr.kin l i = 1) (hN : ∀ j, i < j → j < l.length → NodeOk A l c w0 j) : NodeOk A l c w0 i := by
  intro acc w hW hB hz
  have ct := hW.tree
  have HR := Kept.mk hr
  obtain ⟨g, off, rfl, c0, c1, c2, c3⟩ := (hr.below hB).at_ hi
  simp only at c0 c1 c2 c3
  rw [hk] at c0
  have hprt : Ppr.prN l i = (Ppr.childs l i).flatMap (Ppr.prN l) := by rw [Ppr.prN_at (Ppr.tree_rng hA) hi]; simp [hk]
  have i0 : (0 : Int) ≤ (i : Int) := by omega
  have i1 : (i : Int) < (l.length : Int) := by omega
  have hlt := hW.lt
  obtain ⟨nm, hnm⟩ : ∃ nm : ByteArray, nm = ⟨(Ptr.nam l i).toArray⟩ := ⟨_, rfl⟩
  obtain ⟨vl, hvl⟩ : ∃ vl : ByteArray, vl = ⟨(Ptr.val l i).toArray⟩ := ⟨_, rfl⟩
  rw [← hnm] at c1
  rw [← hvl] at c2
  have hn2 : nm.data.toList = Ptr.nam l i := by rw [hnm]
  have hv2 : vl.data.toList = Ptr.val l i := by rw [hvl]
  rw [hprt] at hz ⊢
  
  obtain ⟨P, hP⟩ : ∃ P : Int, P = Ptr.par l i := ⟨_, rfl⟩
  rw [← hP] at c3
  have hab := (Below.refl w.heap.size w).alloc (Nat.le_refl _) (.cells #[.int .u8 1, .string nm, .string vl, .int .i64 P] 32)
  have hal := heap_alloc_new w (.cells #[.int .u8 1, .string nm, .string vl, .int .i64 P] 32)
  have HW := Kept.mk (hW.below hab)
  have HB := Kept.mk (hB.trans (hab.mono hB.size))
  have HK := Kept.mk (kp_below (b := w0.heap.size) hab)
  have hqb : w.heap.size ≠ w0.heap.size := by omega
  have hwr := next_i (i := i) (by omega)
  have HZ := Kept.mk hz
  clear hW hB hz hnm hvl hprt hab hn2 hv2 hP
  go_enter Tryz.func29, Tryz.ntmps29
  go_upto_region 3 with (fail)
  obtain ⟨q, hq⟩ : ∃ q, q = w.heap.size := ⟨_, rfl⟩
  rw [← hq] at hal hqb ⊢
  generalize w.alloc (.cells #[.int .u8 1, .string nm, .string vl, .int .i64 P] 32) = W1 at HW HB HK hal ⊢
  have n0 : W1.cell? ⟨q, 0, none⟩ = some (.int .u8 1) := by rw [cell_of_row W1 q _ _ _ _ hal]; rfl
  have n1 : W1.cell? ⟨q, 1, none⟩ = some (.string nm) := by rw [cell_of_row W1 q _ _ _ _ hal]; rfl
  have n2 : W1.cell? ⟨q, 2, none⟩ = some (.string vl) := by rw [cell_of_row W1 q _ _ _ _ hal]; rfl
  have HAL := Kept.mk hal
  clear hal hq c0 c1 c2 c3 ct
  have ei : ((i + 1 : Nat) : Int) = (i : Int) + 1 := by omega
  have cK := kids_any (some ⟨g, off, none⟩) l c root hA w0 hr i (i + 1) hN (Ppr.kid_root hA hi (by omega)) acc W1 HW.out HB.out HZ.out
  rw [ei] at cK
  have CK := Kept.mk cK
  clear cK ei hN
  go_wp2_with (fail)
  refine CK.out.mono ?_; rintro e w5 ⟨rfl, h5, hb5, hk5⟩
  have H5 := Kept.mk (And.intro h5 (And.intro hb5 (HK.out.trans hk5)))
  clear CK h5 hb5 hk5
  go_wp2
  go_ret
  exact ⟨rfl, H5.out⟩
set_option maxRecDepth 100000 in
set_option maxHeartbeats 4000000 in
theorem node_elem (A : Option Addr) (l : List Ptr.Nd) (c : Nat) (root : Bool) (hA : Ptr.allB l root l.length = true) (w0 : World) (hr : RdN w0 A l) (i : Nat) (hi : i < l.length) (hl : l.length ≤ 100000) (hk : Ptr.kin l i = 2) (hN : ∀ j, i < j → j < l.length → NodeOk A l c w0 j) : NodeOk A l c w0 i := by
  intro acc w hW hB hz
  have ct := hW.tree
  have HR := Kept.mk hr
  obtain ⟨g, off, rfl, c0, c1, c2, c3⟩ := (hr.below hB).at_ hi
  simp only at c0 c1 c2 c3
  rw [hk] at c0
  have hprt : Ppr.prN l i = 60 :: Ptr.nam l i ++ (List.range' (i + 1) (Ppr.runN l i - (i + 1))).flatMap (fun j => 32 :: Ppr.prN l j) ++ (if Ppr.childs l i = [] then [47, 62] else 62 :: ((Ppr.childs l i).flatMap (Ppr.prN l) ++ ([60, 47] ++ Ptr.nam l i ++ [62]))) := by rw [Ppr.prN_at (Ppr.tree_rng hA) hi]; simp [hk]
  have i0 : (0 : Int) ≤ (i : Int) := by omega
  have i1 : (i : Int) < (l.length : Int) := by omega
  have hlt := hW.lt
  obtain ⟨nm, hnm⟩ : ∃ nm : ByteArray, nm = ⟨(Ptr.nam l i).toArray⟩ := ⟨_, rfl⟩
  obtain ⟨vl, hvl⟩ : ∃ vl : ByteArray, vl = ⟨(Ptr.val l i).toArray⟩ := ⟨_, rfl⟩
  rw [← hnm] at c1
  rw [← hvl] at c2
  have hn2 : nm.data.toList = Ptr.nam l i := by rw [hnm]
  have hv2 : vl.data.toList = Ptr.val l i := by rw [hvl]
  rw [hprt] at hz ⊢
  rw [← hn2] at hz ⊢
  obtain ⟨P, hP⟩ : ∃ P : Int, P = Ptr.par l i := ⟨_, rfl⟩
  rw [← hP] at c3
  have hab := (Below.refl w.heap.size w).alloc (Nat.le_refl _) (.cells #[.int .u8 2, .string nm, .string vl, .int .i64 P] 32)
  have hal := heap_alloc_new w (.cells #[.int .u8 2, .string nm, .string vl, .int .i64 P] 32)
  have HW := Kept.mk (hW.below hab)
  have HB := Kept.mk (hB.trans (hab.mono hB.size))
  have HK := Kept.mk (kp_below (b := w0.heap.size) hab)
  have hqb : w.heap.size ≠ w0.heap.size := by omega
  have hwr := next_i (i := i) (by omega)
  have HZ := Kept.mk hz
  clear hW hB hz hnm hvl hprt hab hn2 hv2 hP
  obtain ⟨R1, R2, R3, R4⟩ := Ppr.runN_spec l i hi
  have K0 := Kept.mk (Ppr.kid_attrs hA hi)
  have HN := Kept.mk hN
  have HAA := Kept.mk hA
  have R3 := Kept.mk R3
  have R4 := Kept.mk R4
  generalize Ppr.runN l i = R at R1 R2 R3 R4 K0 HZ ⊢
  clear hN
  obtain ⟨T, hT⟩ : ∃ T, T = 60 :: nm.data.toList ++ (List.range' (i + 1) (R - (i + 1))).flatMap (fun j => 32 :: Ppr.prN l j) ++ (if Ppr.childs l i = [] then [47, 62] else 62 :: ((Ppr.childs l i).flatMap (Ppr.prN l) ++ ([60, 47] ++ nm.data.toList ++ [62]))) := ⟨_, rfl⟩
  rw [← hT]
  have HT := Kept.mk hT
  clear hT
  go_enter Tryz.func29, Tryz.ntmps29
  go_upto_region 3 with (fail)
  obtain ⟨q, hq⟩ : ∃ q, q = w.heap.size := ⟨_, rfl⟩
  rw [← hq] at hal hqb ⊢
  generalize w.alloc (.cells #[.int .u8 2, .string nm, .string vl, .int .i64 P] 32) = W1 at HW HB HK hal ⊢
  have n0 : W1.cell? ⟨q, 0, none⟩ = some (.int .u8 2) := by rw [cell_of_row W1 q _ _ _ _ hal]; rfl
  have n1 : W1.cell? ⟨q, 1, none⟩ = some (.string nm) := by rw [cell_of_row W1 q _ _ _ _ hal]; rfl
  have n2 : W1.cell? ⟨q, 2, none⟩ = some (.string vl) := by rw [cell_of_row W1 q _ _ _ _ hal]; rfl
  have HAL := Kept.mk hal
  clear hal hq c0 c1 c2 c3 ct
  have h1 := HZ.out
  have C1 := Kept.mk (put_new w0.heap.size (some ⟨g, off, none⟩) l.length c acc [⟨#[60]⟩, nm] 2 W1 HW.out rfl (by show 2 ≤ 10; decide) (by simp only [List.flatMap_cons, List.flatMap_nil, List.append_nil, List.length_append, List.length_cons] at h1 ⊢; show acc.length + (1 + nm.data.toList.length) ≤ _; omega))
  clear h1
  go_wp2_with (fail)
  refine C1.out.mono ?_; rintro e w5 ⟨rfl, h5, hb5, hk5⟩
  have h5 : Wr (some ⟨g, off, none⟩) l.length c w0.heap.size (acc ++ (60 :: nm.data.toList)) w5 := by simpa using h5
  have H0 : Kept (Wr (some ⟨g, off, none⟩) l.length c w0.heap.size (acc ++ (60 :: nm.data.toList) ++ (List.range' (i + 1) (i + 1 - (i + 1))).flatMap (fun j => 32 :: Ppr.prN l j)) w5 ∧ Below w0.heap.size w0 w5 ∧ Kp w0.heap.size W1 w5) := ⟨by simpa using h5, HB.out.trans hb5, hk5⟩
  clear C1 h5 hb5 hk5 n0 n1 n2
  go_wp2
  go_loopw [6] (fun v wx => ∃ k : Nat, v = .int .i64 (k : Int) ∧ i + 1 ≤ k ∧ k ≤ R ∧ Kept (Wr (some ⟨g, off, none⟩) l.length c w0.heap.size (acc ++ (60 :: nm.data.toList) ++ (List.range' (i + 1) (k - (i + 1))).flatMap (fun j => 32 :: Ppr.prN l j)) wx ∧ Below w0.heap.size w0 wx ∧ Kp w0.heap.size W1 wx)) (fun v _ => l.length - (intOf v).toNat)
  case atStart => exact ⟨i + 1, rfl, by omega, by omega, H0⟩
  case round =>
    clear H0
    obtain ⟨k, rfl, hk1, hk2, HH⟩ := hrel
    have ct := HH.out.1.tree
    have k0 : (0 : Int) ≤ (k : Int) := by omega
    by_cases hlt : k < R
    · have hkl : k < l.length := by omega
      have k1 : (k : Int) < (l.length : Int) := by omega
      obtain ⟨g', off', eA, d0, _, _, d3⟩ := (HR.out.below HH.out.2.1).at_ hkl
      cases eA
      simp only at d0 d3
      obtain ⟨e3, ep⟩ := R3.out k (by omega) hlt
      rw [e3] at d0
      rw [ep] at d3
      have hstep : (List.range' (i + 1) (k + 1 - (i + 1))).flatMap (fun j => 32 :: Ppr.prN l j) = (List.range' (i + 1) (k - (i + 1))).flatMap (fun j => 32 :: Ppr.prN l j) ++ 32 :: Ppr.prN l k := by
        rw [show k + 1 - (i + 1) = (k - (i + 1)) + 1 by omega, List.range'_concat, List.flatMap_append, show i + 1 + 1 * (k - (i + 1)) = k by omega]
        simp
      have hsz : (acc ++ (60 :: nm.data.toList) ++ ((List.range' (i + 1) (k - (i + 1))).flatMap (fun j => 32 :: Ppr.prN l j) ++ 32 :: Ppr.prN l k)).length ≤ 10000000000 := by
        have h := HZ.out
        have hs2 : (List.range' (i + 1) (R - (i + 1))).flatMap (fun j => 32 :: Ppr.prN l j) = (List.range' (i + 1) (k + 1 - (i + 1))).flatMap (fun j => 32 :: Ppr.prN l j) ++ (List.range' (k + 1) (R - (k + 1))).flatMap (fun j => 32 :: Ppr.prN l j) := by
          rw [← List.flatMap_append, show R - (i + 1) = (k + 1 - (i + 1)) + (R - (k + 1)) by omega, ← List.range'_append_1, show i + 1 + (k + 1 - (i + 1)) = k + 1 by omega]
        rw [hs2, hstep] at h
        simp only [List.length_append, List.length_cons] at h ⊢
        omega
      have hend : Ptr.endN l k = k + 1 := Ppr.end_leaf HAA.out hkl (by omega) (by omega)
      have HST := Kept.mk hstep
      have HEN := Kept.mk hend
      simp only [List.length_append, List.length_cons] at hsz
      obtain ⟨M, hM⟩ : ∃ M, M = acc ++ (60 :: nm.data.toList) ++ (List.range' (i + 1) (k - (i + 1))).flatMap (fun j => 32 :: Ppr.prN l j) := ⟨_, rfl⟩
      have hMl : M.length + 1 + (Ppr.prN l k).length ≤ 10000000000 := by rw [hM]; simp only [List.length_append, List.length_cons]; omega
      have hH2 := HH.out
      rw [← hM] at hH2
      have HH2 := Kept.mk hH2
      have HM := Kept.mk hM
      have C2 := Kept.mk (put_new w0.heap.size (some ⟨g, off, none⟩) l.length c M [⟨#[32]⟩] 1 wr hH2.1 rfl (by show 1 ≤ 10; decide) (by show M.length + 1 ≤ _; omega))
      have C3 := Kept.mk (HN.out k (by omega) hkl (M ++ [32]))
      clear hstep hend hsz hM hH2 HH e3 ep
      go_wp2_with (fail)
      refine C2.out.mono ?_; rintro e w6 ⟨rfl, h6, hb6, hk6⟩
      have h6 : Wr (some ⟨g, off, none⟩) l.length c w0.heap.size (M ++ [32]) w6 := by simpa using h6
      have H6 := Kept.mk (And.intro h6 (And.intro (HH2.out.2.1.trans hb6) (HH2.out.2.2.trans hk6)))
      clear C2 h6 hb6 hk6
      go_wp2_with (fail)
      refine (C3.out w6 H6.out.1 H6.out.2.1 (by rw [List.length_append]; show M.length + 1 + _ ≤ _; omega)).mono ?_; rintro e w7 ⟨rfl, h7, hb7, hk7⟩
      have H7 := Kept.mk (And.intro h7 (And.intro hb7 (H6.out.2.2.trans hk7)))
      clear C3 h7 hb7 hk7
      go_wp2
      go_roundw
      case rel => exact ⟨k + 1, by rw [HEN.out], by omega, by omega, ⟨by rw [HST.out, ← List.append_assoc, ← HM.out]; simpa using H7.out.1, H7.out.2⟩⟩
      case measure => rw [HEN.out]; simp [intOf]; omega
    · obtain rfl : k = R := by omega
      by_cases hend : k = l.length ∨ Ptr.par l k ≠ i
      · obtain ⟨e1, e2⟩ := Ppr.kid_stop HAA.out K0.out hend
        by_cases hkl : k < l.length
        · have k1 : (k : Int) < (l.length : Int) := by omega
          have k2 : ((k : Int) == (l.length : Int)) = false := by simp; omega
          have hp : (Ptr.par l k == (i : Int)) = false := hend.elim (fun h => absurd h (by omega)) (fun h => by simpa using h)
          obtain ⟨g', off', eA, d0, _, _, d3⟩ := (HR.out.below HH.out.2.1).at_ hkl
          cases eA
          simp only at d0 d3
          by_cases h3 : Ptr.kin l k = 3
          · rw [h3] at d0
            have E1 := Kept.mk e1
            have E2 := Kept.mk e2
            clear e1 e2
            have hz2 : (acc ++ (60 :: nm.data.toList) ++ (List.range' (i + 1) (k - (i + 1))).flatMap (fun j => 32 :: Ppr.prN l j)).length + 2 ≤ 100000000000 := by
              have h := HZ.out
              simp only [List.length_append, List.length_cons] at h ⊢
              omega
            have CP := Kept.mk (put_new w0.heap.size (some ⟨g, off, none⟩) l.length c (acc ++ (60 :: nm.data.toList) ++ (List.range' (i + 1) (k - (i + 1))).flatMap (fun j => 32 :: Ppr.prN l j)) [⟨#[47, 62]⟩] 1 wr HH.out.1 rfl (by show 1 ≤ 10; decide) hz2)
            clear hz2
            go_wp2_with (fail)
            refine CP.out.mono ?_; rintro e w6 ⟨rfl, h6, hb6, hk6⟩
            have H6 := Kept.mk (And.intro h6 (And.intro (HH.out.2.1.trans hb6) (HH.out.2.2.trans hk6)))
            clear CP h6 hb6 hk6
            go_wp2
            go_ret
            exact ⟨ret_nat E2.out.symm, by rw [HT.out, E1.out, if_pos rfl]; simpa using H6.out.1, H6.out.2.1, HK.out.trans H6.out.2.2⟩
          have h3b : ((Ptr.kin l k : Int) == 3) = false := by simp; omega
          have E1 := Kept.mk e1
          have E2 := Kept.mk e2
          clear e1 e2
          have hz2 : (acc ++ (60 :: nm.data.toList) ++ (List.range' (i + 1) (k - (i + 1))).flatMap (fun j => 32 :: Ppr.prN l j)).length + 2 ≤ 100000000000 := by
            have h := HZ.out
            simp only [List.length_append, List.length_cons] at h ⊢
            omega
          have CP := Kept.mk (put_new w0.heap.size (some ⟨g, off, none⟩) l.length c (acc ++ (60 :: nm.data.toList) ++ (List.range' (i + 1) (k - (i + 1))).flatMap (fun j => 32 :: Ppr.prN l j)) [⟨#[47, 62]⟩] 1 wr HH.out.1 rfl (by show 1 ≤ 10; decide) hz2)
          clear hz2
          go_wp2_with (fail)
          refine CP.out.mono ?_; rintro e w6 ⟨rfl, h6, hb6, hk6⟩
          have H6 := Kept.mk (And.intro h6 (And.intro (HH.out.2.1.trans hb6) (HH.out.2.2.trans hk6)))
          clear CP h6 hb6 hk6
          go_wp2
          go_ret
          exact ⟨ret_nat E2.out.symm, by rw [HT.out, E1.out, if_pos rfl]; simpa using H6.out.1, H6.out.2.1, HK.out.trans H6.out.2.2⟩
        have k1 : ¬ (k : Int) < (l.length : Int) := by omega
        have k2 : ((k : Int) == (l.length : Int)) = true := by simp; omega
        have E1 := Kept.mk e1
        have E2 := Kept.mk e2
        clear e1 e2
        have hz2 : (acc ++ (60 :: nm.data.toList) ++ (List.range' (i + 1) (k - (i + 1))).flatMap (fun j => 32 :: Ppr.prN l j)).length + 2 ≤ 100000000000 := by
          have h := HZ.out
          simp only [List.length_append, List.length_cons] at h ⊢
          omega
        have CP := Kept.mk (put_new w0.heap.size (some ⟨g, off, none⟩) l.length c (acc ++ (60 :: nm.data.toList) ++ (List.range' (i + 1) (k - (i + 1))).flatMap (fun j => 32 :: Ppr.prN l j)) [⟨#[47, 62]⟩] 1 wr HH.out.1 rfl (by show 1 ≤ 10; decide) hz2)
        clear hz2
        go_wp2_with (fail)
        refine CP.out.mono ?_; rintro e w6 ⟨rfl, h6, hb6, hk6⟩
        have H6 := Kept.mk (And.intro h6 (And.intro (HH.out.2.1.trans hb6) (HH.out.2.2.trans hk6)))
        clear CP h6 hb6 hk6
        go_wp2
        go_ret
        exact ⟨ret_nat E2.out.symm, by rw [HT.out, E1.out, if_pos rfl]; simpa using H6.out.1, H6.out.2.1, HK.out.trans H6.out.2.2⟩
      obtain ⟨hkl, hp⟩ : k < l.length ∧ Ptr.par l k = i := ⟨by have := R2; omega, Classical.byContradiction fun h => hend (.inr h)⟩
      have h3 : ((Ptr.kin l k : Int) == 3) = false := by have := R4.out hkl; simp; omega
      have k1 : (k : Int) < (l.length : Int) := by omega
      have k2 : ((k : Int) == (l.length : Int)) = false := by simp; omega
      obtain ⟨g', off', eA, d0, _, _, d3⟩ := (HR.out.below HH.out.2.1).at_ hkl
      cases eA
      simp only at d0 d3
      rw [hp] at d3
      have hne : Ppr.childs l i ≠ [] := by rw [K0.out.rest, List.nil_append, Ppr.kidsFrom_at HAA.out hkl hp]; simp
      have hz2 := HZ.out
      rw [if_neg hne] at hz2
      have HNE := Kept.mk hne
      obtain ⟨M, hM⟩ : ∃ M, M = acc ++ (60 :: nm.data.toList) ++ (List.range' (i + 1) (k - (i + 1))).flatMap (fun j => 32 :: Ppr.prN l j) := ⟨_, rfl⟩
      have hMl : M.length + 1 + ((Ppr.childs l i).flatMap (Ppr.prN l)).length + (2 + nm.data.toList.length + 1) ≤ 10000000000 := by rw [hM]; simp only [List.length_append, List.length_cons, List.length_nil] at hz2 ⊢; omega
      have hH2 := HH.out
      rw [← hM] at hH2
      have HH2 := Kept.mk hH2
      have HM := Kept.mk hM
      have C2 := Kept.mk (put_new w0.heap.size (some ⟨g, off, none⟩) l.length c M [⟨#[62]⟩] 1 wr hH2.1 rfl (by show 1 ≤ 10; decide) (by show M.length + 1 ≤ _; omega))
      clear hz2 hM hH2 HH hne
      go_wp2_with (fail)
      refine C2.out.mono ?_; rintro e w6 ⟨rfl, h6, hb6, hk6⟩
      have h6 : Wr (some ⟨g, off, none⟩) l.length c w0.heap.size (M ++ [62]) w6 := by simpa using h6
      have H6 := Kept.mk (And.intro h6 (And.intro (HH2.out.2.1.trans hb6) (HH2.out.2.2.trans hk6)))
      clear C2 h6 hb6 hk6
      have C3 := Kept.mk (kids_any (some ⟨g, off, none⟩) l c root HAA.out w0 HR.out i k HN.out K0.out (M ++ [62]) w6 H6.out.1 H6.out.2.1 (by rw [List.length_append]; show M.length + 1 + _ ≤ _; omega))
      go_wp2_with (fail)
      refine C3.out.mono ?_; rintro e w7 ⟨rfl, h7, hb7, hk7⟩
      have H7 := Kept.mk (And.intro h7 (And.intro hb7 (H6.out.2.2.trans hk7)))
      obtain ⟨s1, s2⟩ := nd_cells (kp_cells H7.out.2.2 HAL.out hqb nd_ne)
      clear C3 h7 hb7 hk7
      have C4 := Kept.mk (put_new w0.heap.size (some ⟨g, off, none⟩) l.length c (M ++ [62] ++ (Ppr.childs l i).flatMap (Ppr.prN l)) [⟨#[60, 47]⟩, nm, ⟨#[62]⟩] 3 w7 H7.out.1 rfl (by show 3 ≤ 10; decide) (by simp only [List.flatMap_cons, List.flatMap_nil, List.append_nil, List.length_append]; show M.length + 1 + _ + (2 + (nm.data.toList.length + 1)) ≤ _; omega))
      go_wp2_with (fail)
      refine C4.out.mono ?_; rintro e w8 ⟨rfl, h8, hb8, hk8⟩
      have H8 := Kept.mk (And.intro h8 (And.intro (H7.out.2.1.trans hb8) (H7.out.2.2.trans hk8)))
      clear C4 h8 hb8 hk8
      go_wp2
      go_ret
      exact ⟨rfl, by have h := H8.out.1; rw [HM.out] at h; rw [HT.out, if_neg HNE.out]; simpa using h, H8.out.2.1, HK.out.trans H8.out.2.2⟩
end Go.Proofs.YtemfmidhekdekaaGreatDoor.Wpr
namespace Go.Proofs.YtemfmidhekdekaaGreatDoor.Ppr
open Go Go.Proofs.YtemfmidhekdekaaGreatDoor.Ptr

/-- what is printed of a tree -/
def prR (l : List Nd) : List UInt8 × Int := if chk l true = 0 then (prN l 0, 0) else ([], 4)
/-- what is printed of a node -/
def ndR (l : List Nd) (a : Int) : List UInt8 × Int := if ¬ chk l true = 0 ∧ ¬ chk l false = 0 then ([], 4) else if a < 0 ∨ (l.length : Int) ≤ a then ([], 2) else (prN l a.toNat, 0)
theorem chk_all {l : List Nd} {root : Bool} (h : chk l root = 0) : allB l root l.length = true := by
  unfold chk at h
  split at h
  · cases h
  · split at h
    · cases h
    · rename_i h2
      simpa using h2
theorem chk_pos {l : List Nd} (h : chk l true = 0) : 0 < l.length := by
  apply Classical.byContradiction
  intro hn
  have h0 : l = [] := List.length_eq_zero_iff.1 (by omega)
  subst h0
  revert h
  decide
theorem kin_cases {l : List Nd} {root : Bool} (hA : allB l root l.length = true) {i : Nat} (hi : i < l.length) : kin l i = 1 ∨ kin l i = 2 ∨ kin l i = 3 ∨ kin l i = 4 ∨ kin l i = 5 ∨ kin l i = 6 := by
  have hg := allB_good hA i hi
  unfold good at hg
  rw [Bool.and_eq_true] at hg
  have hg := hg.2
  split at hg
  · unfold headB at hg
    simp only [Bool.and_eq_true, decide_eq_true_eq] at hg
    omega
  · unfold fitsB at hg
    rw [Bool.and_eq_true] at hg
    have hk := hg.2
    unfold fitsK at hk
    by_cases h2 : kin l i = 2; · omega
    by_cases h3 : kin l i = 3; · omega
    by_cases h4 : kin l i = 4; · omega
    by_cases h5 : kin l i = 5; · omega
    by_cases h6 : kin l i = 6; · omega
    rw [if_neg h2, if_neg h3, if_neg h4, if_neg h5, if_neg h6] at hk
    cases hk
theorem wt_in (l : List Nd) {a b : Nat} (h1 : a ≤ b) (h2 : b ≤ l.length) : wt l a b ≤ wt l 0 l.length := by
  have e1 := wt_split l 0 a l.length (by omega) (by omega)
  have e2 := wt_split l a b l.length h1 h2
  omega
theorem pr_wt {l : List Nd} {root : Bool} (hA : allB l root l.length = true) {i : Nat} (hi : i < l.length) : (prN l i).length ≤ wt l 0 l.length := by
  obtain ⟨s1, s2, _, _⟩ := endN_spec l i hi
  exact Nat.le_trans (pr_len hA l.length i (by omega) hi) (wt_in l (by omega) s2)
end Go.Proofs.YtemfmidhekdekaaGreatDoor.Ppr
namespace Go.Proofs.YtemfmidhekdekaaGreatDoor.Wpr
open Go Go.RowKit Go.Proofs.YtemfmidhekdekaaGreatDoor.Kb Go.Proofs.YtemfmidhekdekaaGreatDoor.Emk Go.Proofs.YtemfmidhekdekaaGreatDoor.Wtr

theorem node_all (A : Option Addr) (l : List Ptr.Nd) (c : Nat) (root : Bool) (hA : Ptr.allB l root l.length = true) (hl : l.length ≤ 100000) (w0 : World) (hr : RdN w0 A l) : ∀ n i, l.length - i ≤ n → i < l.length → NodeOk A l c w0 i := by
  intro n
  induction n with
  | zero => intro i h hi; omega
  | succ n ih =>
    intro i h hi
    have hN : ∀ j, i < j → j < l.length → NodeOk A l c w0 j := fun j h1 h2 => ih j (by omega) h2
    rcases Ppr.kin_cases hA hi with hk | hk | hk | hk | hk | hk
    · exact node_root A l c root hA w0 hr i hi hl hk hN
    · exact node_elem A l c root hA w0 hr i hi hl hk hN
    · exact node_attr A l c root hA w0 hr i hi hl hk
    · exact node_text A l c root hA w0 hr i hi hl hk
    · exact node_comment A l c root hA w0 hr i hi hl hk
    · exact node_instr A l c root hA w0 hr i hi hl hk
theorem wr_new (A : Option Addr) (n c : Nat) (w : World) : Wr A n c w.heap.size [] (w.alloc (.cells #[.pointer none, .slice none 0 0, .slice A n c] 61)) :=
  .inl ⟨.slice none 0 0, heap_alloc_new w _, World.ownsRow_nil _ _ _ _, by simp [Value.ownBlock]⟩
set_option maxRecDepth 100000 in
set_option maxHeartbeats 2000000 in
theorem Print_any (A : Option Addr) (l : List Ptr.Nd) (c : Nat) (w : World) (hr : RdN w A l) (hl : l.length ≤ 100000) (hf : FitP l) (hE : TEnv w) (hz : Ppr.wt l 0 l.length ≤ 1000000000) :
    Calls Tryz.prog 15 #[.slice A l.length c] w fun e w' => e = .returned (.tuple #[.string ⟨(Ppr.prR l).1.toArray⟩, .int .i64 (Ppr.prR l).2]) ∧ Below w.heap.size w w' := by
  have CC := Kept.mk (check_any A l c w hr hl hf hE)
  have HR := Kept.mk hr
  clear hr hf hE
  by_cases h0 : Ptr.chk l true = 0
  · have hp : Ppr.prR l = (Ppr.prN l 0, 0) := if_pos h0
    rw [hp]
    rw [h0] at CC
    have hA := Ppr.chk_all h0
    have hpos := Ppr.chk_pos h0
    have CN := Kept.mk (fun w0 (hr : RdN w0 A l) => node_all A l c true hA hl w0 hr l.length 0 (by omega) hpos [] (w0.alloc (.cells #[.pointer none, .slice none 0 0, .slice A l.length c] 61)) (wr_new A l.length c w0) ((Below.refl _ _).alloc (Nat.le_refl _) _) (by have := Ppr.pr_wt hA hpos; show 0 + _ ≤ _; omega))
    clear hp h0
    go_enter Tryz.func15, Tryz.ntmps15
    go_wp2_with (fail)
    refine CC.out.mono ?_; rintro e w1 ⟨rfl, hb1⟩
    have H1 := Kept.mk hb1
    have C1 := Kept.mk (CN.out w1 (HR.out.below hb1))
    clear CN CC hb1
    go_wp2_with (fail)
    refine C1.out.mono ?_; rintro e w2 ⟨rfl, h2, hb2, _⟩
    have C2 := Kept.mk (string_any (Nat.le_refl _) h2)
    have H2 := Kept.mk (H1.out.trans (hb2.mono H1.out.size))
    have hs := hb2.size
    clear C1 h2
    go_wp2_with (fail)
    refine C2.out.mono ?_; rintro e w3 ⟨rfl, _, hb3, _⟩
    have H3 := Kept.mk (H2.out.trans (hb3.mono H1.out.size))
    clear C2 hb3 hb2
    go_wp2
    go_ret2
    exact ⟨by simp, H3.out⟩
  · have hp : Ppr.prR l = ([], 4) := if_neg h0
    rw [hp]
    have hn : ((Ptr.chk l true : Nat) : Int) ≠ 0 := by omega
    have hn2 : (((Ptr.chk l true : Nat) : Int) != 0) = true := by simp; omega
    clear hp
    go_enter Tryz.func15, Tryz.ntmps15
    go_wp2_with (fail)
    refine CC.out.mono ?_; rintro e w1 ⟨rfl, hb1⟩
    go_wp2
    go_ret2
    exact ⟨rfl, hb1⟩
set_option maxRecDepth 100000 in
set_option maxHeartbeats 2000000 in
theorem Node_any (A : Option Addr) (l : List Ptr.Nd) (c : Nat) (a : Int) (w : World) (hr : RdN w A l) (hl : l.length ≤ 100000) (hf : FitP l) (hE : TEnv w) (hz : Ppr.wt l 0 l.length ≤ 1000000000) :
    Calls Tryz.prog 13 #[.slice A l.length c, .int .i64 a] w fun e w' => e = .returned (.tuple #[.string ⟨(Ppr.ndR l a).1.toArray⟩, .int .i64 (Ppr.ndR l a).2]) ∧ Below w.heap.size w w' := by
  have CC := Kept.mk (check_any A l c w hr hl hf hE)
  have CF := Kept.mk (fun w1 (hb : Below w.heap.size w w1) => fragment_any A l c w1 (hr.below hb) hl hf (hE.below hb))
  have HR := Kept.mk hr
  clear hr hf hE
  -- what is done with a right row, behind the checks
  have fin : ∀ (root : Bool), Ptr.allB l root l.length = true → ¬ (a < 0 ∨ (l.length : Int) ≤ a) → Kept (∀ w0, RdN w0 A l → Calls Tryz.prog 29 #[.pointer (some ⟨w0.heap.size, 0, none⟩), .int .i64 a] (w0.alloc (.cells #[.pointer none, .slice none 0 0, .slice A l.length c] 61)) fun e w' => (∃ n : Int, e = .returned (.int .i64 n)) ∧ Wr A l.length c w0.heap.size (Ppr.prN l a.toNat) w' ∧ Below w0.heap.size w0 w') := fun root hA ha => ⟨fun w0 hr0 => by
    obtain ⟨m, rfl⟩ : ∃ m : Nat, a = m := ⟨a.toNat, by omega⟩
    have hm : m < l.length := by omega
    refine (node_all A l c root hA hl w0 hr0 l.length m (by omega) hm [] _ (wr_new A l.length c w0) ((Below.refl _ _).alloc (Nat.le_refl _) _) (by have := Ppr.pr_wt hA hm; show 0 + _ ≤ _; omega)).mono ?_
    rintro e w' ⟨he, h1, h2, _⟩
    exact ⟨⟨_, he⟩, h1, h2⟩⟩
  obtain ⟨R, hR⟩ : ∃ R, Ppr.ndR l a = R := ⟨_, rfl⟩
  rw [hR]
  unfold Ppr.ndR at hR
  have hbt : ∀ b, (((Ptr.chk l b : Nat) : Int) != 0) = !decide (Ptr.chk l b = 0) := fun b => by
    by_cases h : Ptr.chk l b = 0
    · simp [h]
    · have : ((Ptr.chk l b : Nat) : Int) ≠ 0 := by omega
      simp [h]
  by_cases h1 : Ptr.chk l true = 0
  · rw [if_neg (by simp [h1])] at hR
    rw [h1] at CC
    clear CF
    by_cases ha : a < 0 ∨ (l.length : Int) ≤ a
    · rw [if_pos ha] at hR
      subst hR
      clear fin
      rcases Classical.em (a < 0) with ha0 | ha0
      · go_enter Tryz.func13, Tryz.ntmps13
        go_wp2_with (fail)
        refine CC.out.mono ?_; rintro e w1 ⟨rfl, hb1⟩
        go_wp2
        go_ret2
        exact ⟨rfl, hb1⟩
      · have ha1 : (l.length : Int) ≤ a := by omega
        go_enter Tryz.func13, Tryz.ntmps13
        go_wp2_with (fail)
        refine CC.out.mono ?_; rintro e w1 ⟨rfl, hb1⟩
        go_wp2
        go_ret2
        exact ⟨rfl, hb1⟩
    · rw [if_neg ha] at hR
      subst hR
      have CN := fin true (Ppr.chk_all h1) ha
      have ha0 : ¬ a < 0 := by omega
      have ha1 : ¬ (l.length : Int) ≤ a := by omega
      clear fin
      go_enter Tryz.func13, Tryz.ntmps13
      go_wp2_with (fail)
      refine CC.out.mono ?_; rintro e w1 ⟨rfl, hb1⟩
      have H1 := Kept.mk hb1
      have C1 := Kept.mk (CN.out w1 (HR.out.below hb1))
      clear CN CC hb1
      go_wp2_with (fail)
      refine C1.out.mono ?_; rintro e w2 ⟨⟨n, rfl⟩, h2, hb2⟩
      have C2 := Kept.mk (string_any (Nat.le_refl _) h2)
      have H2 := Kept.mk (H1.out.trans (hb2.mono H1.out.size))
      clear C1 h2
      go_wp2_with (fail)
      refine C2.out.mono ?_; rintro e w3 ⟨rfl, _, hb3, _⟩
      have H3 := Kept.mk (H2.out.trans (hb3.mono H1.out.size))
      clear C2 hb3 hb2
      go_wp2
      go_ret2
      exact ⟨rfl, H3.out⟩
  · by_cases h2 : Ptr.chk l false = 0
    · rw [if_neg (by simp [h2])] at hR
      have CF : Kept (∀ w1, Below w.heap.size w w1 → Calls Tryz.prog 28 #[.slice A l.length c] w1 fun e w' => e = .returned (.int .i64 0) ∧ Below w1.heap.size w1 w') := ⟨fun w1 hb => by have h := CF.out w1 hb; rw [h2] at h; exact h⟩
      have hn := hbt true
      rw [decide_eq_false h1] at hn
      simp only [Bool.not_false] at hn
      have hnn : ¬ ((Ptr.chk l true : Nat) : Int) = 0 := by omega
      by_cases ha : a < 0 ∨ (l.length : Int) ≤ a
      · rw [if_pos ha] at hR
        subst hR
        clear fin
        rcases Classical.em (a < 0) with ha0 | ha0
        · go_enter Tryz.func13, Tryz.ntmps13
          go_wp2_with (fail)
          refine CC.out.mono ?_; rintro e w1 ⟨rfl, hb1⟩
          go_wp2_with (fail)
          refine (CF.out w1 hb1).mono ?_; rintro e w2 ⟨rfl, hb2⟩
          have H2 := Kept.mk (hb1.trans (hb2.mono hb1.size))
          go_wp2
          go_ret2
          exact ⟨rfl, H2.out⟩
        · have ha1 : (l.length : Int) ≤ a := by omega
          go_enter Tryz.func13, Tryz.ntmps13
          go_wp2_with (fail)
          refine CC.out.mono ?_; rintro e w1 ⟨rfl, hb1⟩
          go_wp2_with (fail)
          refine (CF.out w1 hb1).mono ?_; rintro e w2 ⟨rfl, hb2⟩
          have H2 := Kept.mk (hb1.trans (hb2.mono hb1.size))
          go_wp2
          go_ret2
          exact ⟨rfl, H2.out⟩
      · rw [if_neg ha] at hR
        subst hR
        have CN := fin false (Ppr.chk_all h2) ha
        have ha0 : ¬ a < 0 := by omega
        have ha1 : ¬ (l.length : Int) ≤ a := by omega
        clear fin
        go_enter Tryz.func13, Tryz.ntmps13
        go_wp2_with (fail)
        refine CC.out.mono ?_; rintro e w0 ⟨rfl, hb0⟩
        go_wp2_with (fail)
        refine (CF.out w0 hb0).mono ?_; rintro e w1 ⟨rfl, hb9⟩
        have hb1 := hb0.trans (hb9.mono hb0.size)
        have H1 := Kept.mk hb1
        have C1 := Kept.mk (CN.out w1 (HR.out.below hb1))
        clear CN CC hb1
        go_wp2_with (fail)
        refine C1.out.mono ?_; rintro e w2 ⟨⟨n, rfl⟩, h2, hb2⟩
        have C2 := Kept.mk (string_any (Nat.le_refl _) h2)
        have H2 := Kept.mk (H1.out.trans (hb2.mono H1.out.size))
        clear C1 h2
        go_wp2_with (fail)
        refine C2.out.mono ?_; rintro e w3 ⟨rfl, _, hb3, _⟩
        have H3 := Kept.mk (H2.out.trans (hb3.mono H1.out.size))
        clear C2 hb3 hb2
        go_wp2
        go_ret2
        exact ⟨rfl, H3.out⟩
    · rw [if_pos ⟨h1, h2⟩] at hR
      subst hR
      have hn := hbt true
      rw [decide_eq_false h1] at hn
      have hn2 := hbt false
      rw [decide_eq_false h2] at hn2
      simp only [Bool.not_false] at hn hn2
      have hnn : ¬ ((Ptr.chk l true : Nat) : Int) = 0 := by omega
      have hnn2 : ¬ ((Ptr.chk l false : Nat) : Int) = 0 := by omega
      clear fin
      go_enter Tryz.func13, Tryz.ntmps13
      go_wp2_with (fail)
      refine CC.out.mono ?_; rintro e w1 ⟨rfl, hb1⟩
      go_wp2_with (fail)
      refine (CF.out w1 hb1).mono ?_; rintro e w2 ⟨rfl, hb2⟩
      have H2 := Kept.mk (hb1.trans (hb2.mono hb1.size))
      go_wp2
      go_ret2
      exact ⟨rfl, H2.out⟩
end Go.Proofs.YtemfmidhekdekaaGreatDoor.Wpr
