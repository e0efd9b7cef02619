/- The walks over Shown and over the kit's SameTexts, SameFates, SameCommand (chapter 31). -/
import Derived.Test.YtakccaldcolbmaaGreatDoorLinesSh
namespace Go.Proofs.YtakccaldcolbmaaGreatDoor.Wln
open Go Go.RowKit Go.Proofs.YtakccaldcolbmaaGreatDoor.Kb

/-- a row of fates, readable from A on -/
def RdF (w : World) (A : Option Addr) (F : List (Int × Int)) : Prop := ∀ (i : Nat) (x : Int × Int), F[i]? = some x → ∃ g off, A = some ⟨g, off, none⟩ ∧ w.cell? ⟨g, off + i * 2, none⟩ = some (.int .i64 x.1) ∧ w.cell? ⟨g, off + i * 2 + 1, none⟩ = some (.int .u8 x.2)
theorem RdF.below {w w' : World} {A : Option Addr} {F : List (Int × Int)} (h : RdF w A F) (hb : Below w.heap.size w w') : RdF w' A F := by
  intro i x hx
  obtain ⟨g, off, e, h0, h1⟩ := h i x hx
  exact ⟨g, off, e, by rw [hb.cell (p := ⟨g, off + i * 2, none⟩) (cell_lt h0)]; exact h0, by rw [hb.cell (p := ⟨g, off + i * 2 + 1, none⟩) (cell_lt h1)]; exact h1⟩
theorem fatesC_at : ∀ (F : List (Int × Int)) (i : Nat) (x : Int × Int), F[i]? = some x → (fatesC F)[i * 2]? = some (.int .i64 x.1) ∧ (fatesC F)[i * 2 + 1]? = some (.int .u8 x.2)
  | [], i, x, h => by cases h
  | y :: F, 0, x, h => by
    simp only [List.getElem?_cons_zero, Option.some.injEq] at h
    subst h
    exact ⟨rfl, rfl⟩
  | y :: F, i + 1, x, h => by
    have := fatesC_at F i x (by simpa using h)
    have e : fatesC (y :: F) = .int .i64 y.1 :: .int .u8 y.2 :: fatesC F := rfl
    rw [e, show (i + 1) * 2 = i * 2 + 1 + 1 by omega, show i * 2 + 1 + 1 + 1 = (i * 2 + 1) + 1 + 1 by omega]
    exact this
theorem rdf_own {w : World} {base n c : Nat} {A : Option Addr} {F : List (Int × Int)} (h : w.ownsRow base 42 2 (.slice A n c) n (fatesC F)) (hn : F.length = n) : RdF w A F := by
  intro i x hx
  have hi : i < F.length := (List.getElem?_eq_some_iff.1 hx).1
  rcases h.2 with ⟨e, h0⟩ | ⟨g, cap, cur, e, _⟩
  · omega
  · cases e
    obtain ⟨a, b⟩ := fatesC_at F i x hx
    have hadd : ∀ j, (⟨g, 0, none⟩ : Addr).add j = ⟨g, j, none⟩ := fun j => by unfold Addr.add; split <;> simp_all
    have h1 := h.cells (g := g) rfl _ _ a
    have h2 := h.cells (g := g) rfl _ _ b
    rw [hadd] at h1 h2
    exact ⟨g, 0, rfl, by rw [Nat.zero_add]; exact h1, by rw [Nat.zero_add]; exact h2⟩
theorem eql_fate (a b : Int) (w : World) : (binOp .eql 42 (.agg #[.int .i64 a, .int .u8 b]) (.agg #[.int .i64 a, .int .u8 b])).run Tryz.prog w = .ok (.bool true) w := by
  have u0 := Tryz.underlying3
  have u1 := Tryz.underlying5
  have a0 := Tryz.isAgg3
  have a1 := Tryz.isAgg5
  have hS : Tryz.prog.underlying 42 = some (.struct (Tryz.prog.fieldsOf 42)) := by kernel_rfl
  rw [run_eql_struct, show (10000 : Nat) = 9999 + 1 from rfl, run_equalIn_agg w 9999 42 _ _ hS (by kernel_rfl)]
  simp only [Program.fieldsOf, Tryz.underlying42]
  go_simp
  try simp
theorem neq_fate (a b : Int) (w : World) : (binOp .neq 42 (.agg #[.int .i64 a, .int .u8 b]) (.agg #[.int .i64 a, .int .u8 b])).run Tryz.prog w = .ok (.bool false) w := by
  have h := eql_fate a b w
  rw [run_eql_struct] at h
  rw [run_neq_struct]
  revert h
  cases (Op.equalIn 10000 42 (.agg #[.int .i64 a, .int .u8 b]) (.agg #[.int .i64 a, .int .u8 b])).run Tryz.prog w with
  | ok b w' => intro h; simp at h ⊢; exact ⟨by simpa using h.1, h.2⟩
  | halt x w' => intro h; simp at h
theorem drewN_below (w : World) (n : Nat) : Below w.heap.size w (w.drewN n) := Bl.drewN w n
set_option maxRecDepth 100000 in
set_option maxHeartbeats 1000000 in
theorem sameFates_any (F : List (Int × Int)) (A1 A2 : Option Addr) (c1 c2 : Nat) (w : World) (h1 : RdF w A1 F) (h2 : RdF w A2 F) (hl : F.length ≤ 1000000) :
    Calls Tryz.prog 58 #[.slice A1 F.length c1, .slice A2 F.length c2] w fun e w' => e = .returned (.bool true) ∧ Below w.heap.size w w' := by
  have H1 := Kept.mk h1
  have H2 := Kept.mk h2
  clear h1 h2
  go_enter Tryz.func58, Tryz.ntmps58
  go_wp2
  go_loopw [5] (fun i wx => ∃ k : Nat, k ≤ F.length ∧ i = .int .i64 (k : Int) ∧ ∃ d, wx = w.drewN d) (fun i _ => F.length - (intOf i).toNat)
  case atStart => exact ⟨0, by omega, rfl, 0, rfl⟩
  case round =>
    obtain ⟨k, hk, rfl, d, rfl⟩ := hrel
    have k0 : (0 : Int) ≤ (k : Int) := by omega
    by_cases hlt : k < F.length
    · have k1 : (k : Int) < (F.length : Int) := by omega
      obtain ⟨x, hx⟩ : ∃ x, F[k]? = some x := ⟨_, List.getElem?_eq_getElem hlt⟩
      obtain ⟨g1, o1, rfl, x0, x1⟩ := H1.out k x hx
      obtain ⟨g2, o2, rfl, y0, y1⟩ := H2.out k x hx
      have hE := neq_fate x.1 x.2
      clear hx
      go_wp2
      go_quiet (fail)
      go_wp2
      go_roundw
      case rel => exact ⟨k + 1, by omega, by go_num, d + nq, rfl⟩
      case measure => simp [intOf]; omega
    · obtain rfl : k = F.length := by omega
      go_wp2
      go_ret
      exact ⟨rfl, drewN_below _ _⟩
set_option maxRecDepth 100000 in
set_option maxHeartbeats 1000000 in
theorem sameTexts_any (L : List (List UInt8)) (A1 A2 : Option Addr) (c1 c2 : Nat) (w : World) (h1 : RdS w A1 L) (h2 : RdS w A2 L) (hl : L.length ≤ 1000000) :
    Calls Tryz.prog 10 #[.slice A1 L.length c1, .slice A2 L.length c2] w fun e w' => e = .returned (.bool true) ∧ Below w.heap.size w w' := by
  have H1 := Kept.mk h1
  have H2 := Kept.mk h2
  clear h1 h2
  go_enter Tryz.func10, Tryz.ntmps10
  go_wp2
  go_loopw [5] (fun i wx => ∃ k : Nat, k ≤ L.length ∧ i = .int .i64 (k : Int) ∧ ∃ d, wx = w.drewN d) (fun i _ => L.length - (intOf i).toNat)
  case atStart => exact ⟨0, by omega, rfl, 0, rfl⟩
  case round =>
    obtain ⟨k, hk, rfl, d, rfl⟩ := hrel
    have k0 : (0 : Int) ≤ (k : Int) := by omega
    by_cases hlt : k < L.length
    · have k1 : (k : Int) < (L.length : Int) := by omega
      obtain ⟨x, hx⟩ : ∃ x, L[k]? = some x := ⟨_, List.getElem?_eq_getElem hlt⟩
      obtain ⟨g1, o1, rfl, x0⟩ := H1.out k x hx
      obtain ⟨g2, o2, rfl, y0⟩ := H2.out k x hx
      clear hx
      go_wp2
      go_quiet (fail)
      go_wp2
      go_roundw
      case rel => exact ⟨k + 1, by omega, by go_num, d + nq, rfl⟩
      case measure => simp [intOf]; omega
    · obtain rfl : k = L.length := by omega
      go_wp2
      go_ret
      exact ⟨rfl, drewN_below _ _⟩
set_option maxRecDepth 100000 in
set_option maxHeartbeats 1000000 in
theorem sameCommand_any (k : Int) (t : List UInt8) (n : Int) (F : List (Int × Int)) (A1 A2 : Option Addr) (c1 c2 : Nat) (w : World) (h1 : RdF w A1 F) (h2 : RdF w A2 F) (hl : F.length ≤ 1000000) :
    Calls Tryz.prog 28 #[cmdV k t n (.slice A1 F.length c1), cmdV k t n (.slice A2 F.length c2)] w fun e w' => e = .returned (.bool true) ∧ Below w.heap.size w w' := by
  unfold cmdV
  have hb : Below w.heap.size w ((w.alloc (.cells #[.int .u8 k, .string ⟨t.toArray⟩, .int .i64 n, .slice A1 F.length c1] 40)).alloc (.cells #[.int .u8 k, .string ⟨t.toArray⟩, .int .i64 n, .slice A2 F.length c2] 40)) := ((Below.refl _ _).alloc (Nat.le_refl _) _).alloc (by simp) _
  have cF := sameFates_any F A1 A2 c1 c2 _ (h1.below hb) (h2.below hb) hl
  have CF := Kept.mk cF
  have HB := Kept.mk hb
  clear cF hb h1 h2
  go_enter Tryz.func28, Tryz.ntmps28
  go_wp2_with (go_at_call 58; refine CF.out.mono ?_; rintro e w5 ⟨rfl, hb5⟩; have H5 := Kept.mk hb5; clear hb5)
  go_ret
  exact ⟨rfl, HB.out.trans (H5.out.mono HB.out.size)⟩
/-- a row of items, readable from A on -/
def RdI (w : World) (A : Option Addr) (l : List It) : Prop := ∀ (i : Nat) (x : It), l[i]? = some x → ∃ g off, A = some ⟨g, off, none⟩ ∧ w.cell? ⟨g, off + i * 5, none⟩ = some (.int .u8 (x.1 : Int)) ∧ w.cell? ⟨g, off + i * 5 + 1, none⟩ = some (.int .u8 (x.2.1 : Int)) ∧ w.cell? ⟨g, off + i * 5 + 2, none⟩ = some (.string ⟨x.2.2.1.toArray⟩) ∧ w.cell? ⟨g, off + i * 5 + 3, none⟩ = some (.string ⟨x.2.2.2.1.toArray⟩) ∧ w.cell? ⟨g, off + i * 5 + 4, none⟩ = some (.int .i64 x.2.2.2.2)
theorem RdI.below {w w' : World} {A : Option Addr} {l : List It} (h : RdI w A l) (hb : Below w.heap.size w w') : RdI w' A l := by
  intro i x hx
  obtain ⟨g, off, e, h0, h1, h2, h3, h4⟩ := h i x hx
  exact ⟨g, off, e, by rw [hb.cell (p := ⟨g, _, none⟩) (cell_lt h0)]; exact h0, by rw [hb.cell (p := ⟨g, _, none⟩) (cell_lt h1)]; exact h1, by rw [hb.cell (p := ⟨g, _, none⟩) (cell_lt h2)]; exact h2, by rw [hb.cell (p := ⟨g, _, none⟩) (cell_lt h3)]; exact h3, by rw [hb.cell (p := ⟨g, _, none⟩) (cell_lt h4)]; exact h4⟩
/-- an item that fits -/
def FitI (x : It) : Prop := x.1 < 256 ∧ x.2.1 < 256 ∧ x.2.2.1.length ≤ 100000 ∧ x.2.2.2.1.length ≤ 100000 ∧ -9223372036854775808 ≤ x.2.2.2.2 ∧ x.2.2.2.2 ≤ 9223372036854775807
set_option maxRecDepth 100000 in
set_option maxHeartbeats 4000000 in
theorem Shown_any (A : Option Addr) (c : Nat) (l : List It) (w : World) (hE : LEnv w) (hr : RdI w A l) (hl : l.length ≤ 1000000) (hf : ∀ x ∈ l, FitI x) :
    Calls Tryz.prog 7 #[.slice A l.length c] w fun e w' => ∃ v, e = .returned v ∧ w'.ownsRow w.heap.size 9 1 v l.length (stC (l.map showL)) ∧ Below w.heap.size w w' := by
  obtain ⟨i0', hi, hz0, hz1, hz2⟩ := info_parts infoT
  have HR := Kept.mk hr
  have HE := Kept.mk hE
  have HF := Kept.mk hf
  clear hr hE hf
  go_enter Tryz.func7, Tryz.ntmps7
  go_wp2
  go_loopw [3, 5, 8] (fun v _ i wx => ∃ k : Nat, i = .int .i64 (k : Int) ∧ k ≤ l.length ∧ Kept (wx.ownsRow w.heap.size 9 1 v k (stC ((l.take k).map showL))) ∧ Kept (Below w.heap.size w wx)) (fun _ _ i _ => l.length - (intOf i).toNat)
  case atStart => exact ⟨0, rfl, by omega, ⟨World.ownsRow_nil _ _ _ _⟩, ⟨Below.refl _ _⟩⟩
  case round =>
    obtain ⟨k, rfl, hk, HO, HB⟩ := hrel
    have k0 : (0 : Int) ≤ (k : Int) := by omega
    by_cases hlt : k < l.length
    · have k1 : (k : Int) < (l.length : Int) := by omega
      obtain ⟨x, hx⟩ : ∃ x, l[k]? = some x := ⟨_, List.getElem?_eq_getElem hlt⟩
      obtain ⟨g, off, rfl, x0, x1, x2, x3, x4⟩ := (HR.out.below HB.out) k x hx
      obtain ⟨a, b, nm, tx, n⟩ := x
      obtain ⟨f1, f2, f3, f4, f5, f6⟩ := HF.out _ (List.mem_of_getElem? hx)
      simp only at x0 x1 x2 x3 x4 f1 f2 f3 f4 f5 f6
      have htk : (l.take (k + 1)).map showL = (l.take k).map showL ++ [showL (a, b, nm, tx, n)] := by
        rw [List.take_add_one, hx, List.map_append]
        rfl
      have hBI : Below wr.heap.size wr (wr.alloc (.cells #[.int .u8 (a : Int), .int .u8 (b : Int), .string ⟨nm.toArray⟩, .string ⟨tx.toArray⟩, .int .i64 n] 26)) := (Below.refl _ _).alloc (Nat.le_refl _) _
      have cS := shown_any a b nm tx n _ ((HE.out.below HB.out).below hBI) f1 f2 f3 f4 f5 f6
      have CS := Kept.mk cS
      have HTK := Kept.mk htk
      have HBW := Kept.mk (HB.out.trans (hBI.mono HB.out.size))
      have HOW := Kept.mk (HO.out.kept (row := none) ⟨hBI.os, hBI.tape, hBI.output, hBI.size, fun k hk _ => hBI.block k hk⟩ (Classical.em _))
      clear hx cS htk hBI f1 f2 f3 f4 f5 f6
      generalize showL (a, b, nm, tx, n) = sl at CS HTK
      go_wp2_with (first
        | (go_at_call 20; refine CS.out.mono ?_; rintro e w6 ⟨rfl, hb6⟩; have HO6 := Kept.mk (HOW.out.kept (row := none) ⟨hb6.os, hb6.tape, hb6.output, hb6.size, fun k hk _ => hb6.block k hk⟩ (Classical.em _)); have HB6 := Kept.mk (HBW.out.trans (hb6.mono HBW.out.size)); clear hb6)
        | (at_builtin; refine wpList_append_own _ rfl (.tmp 12) (.tmp 15) 29 rfl w.heap.size 9 i0' (.string ⟨#[]⟩) 1 16 Tryz.underlying29 hi hz0 hz1 hz2 rfl (by decide) _ _ _ (by rfl) (HO6.out.alloc _) ⟨w6.heap.size, 0, none⟩ 1 1 [.string ⟨sl.toArray⟩] (by rfl) (by rfl) (cell_one_new _ _ _) (by intro u hu; simp at hu; subst hu; rfl) (by unfold maxLen; omega) (by omega) (by have := HB6.out.size; simp; omega) ?_; intro v' w7 hown7 hgrow7 _; have hb7 := Below.grown (HB6.out.alloc HB6.out.size _) hgrow7 (by have := HB6.out.size; simp; omega) (fun q hq => (HO6.out.lt q hq).1); have O7 := Kept.mk hown7; have B7 := Kept.mk hb7; clear hown7 hgrow7 hb7))
      go_roundw
      case rel => exact ⟨k + 1, by go_num, by omega, ⟨by rw [HTK.out, stC_append]; exact O7.out⟩, B7⟩
      case measure => simp [intOf]; omega
    · obtain rfl : k = l.length := by omega
      have ho := HO.out
      rw [List.take_of_length_le (Nat.le_refl _)] at ho
      have HO2 := Kept.mk ho
      clear ho
      go_wp2
      go_ret
      exact ⟨_, rfl, HO2.out, HB.out⟩
end Go.Proofs.YtakccaldcolbmaaGreatDoor.Wln
