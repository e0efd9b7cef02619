/- The walk over the document's crash (chapter 31). -/
import Derived.Test.YtakccaldcolbmaaGreatDoorLinesRefF
namespace Go.Proofs.YtakccaldcolbmaaGreatDoor.Wln
open Go Go.RowKit Go.Proofs.YtakccaldcolbmaaGreatDoor.Kb

theorem CrB.alloc {w W : World} {C base k : Nat} {n : Int} {v : Value} {G : List (Int × Int)} (h : CrB w W C base n v k G) (o : Obj) : CrB w (W.alloc o) C base n v k G :=
  h.below ((Below.refl _ _).alloc (Nat.le_refl _) o)
set_option maxRecDepth 100000 in
set_option maxHeartbeats 8000000 in
theorem refcrash_any (A : Option Addr) (c : Nat) (L : List (List UInt8)) (w : World) (hr : RdS w A L) (hc : L.length ≤ c) (hL : L.length ≤ 65536) (hsz : ∀ x ∈ L, x.length ≤ 65536) :
    Calls Tryz.prog 94 #[.slice A L.length c] w (CmdIs w (Pln.crashL L)) := by
  cases L with
  | nil =>
    clear hr hsz
    go_enter Tryz.func94, Tryz.ntmps94
    go_wp2
    refine bodyPost_ret (v := .tuple #[cmdV 0 [] 0 (.slice none 0 0), .bool false]) (by simp [results, Tryz.results94, go_sem, cmdV]) rfl ⟨(Below.refl _ _).alloc (Nat.le_refl _) _, 0, [], 0, none, 0, 0, rfl⟩
  | cons x r =>
    obtain ⟨g, off, rfl, hx0⟩ := hr 0 x rfl
    rw [Nat.add_zero] at hx0
    have hgw := cell_lt hx0
    have hR := Kept.mk hr
    have hlr : (x :: r).length = r.length + 1 := rfl
    rw [hlr] at hc hL ⊢
    have hxs : x.length ≤ 65536 := hsz x (by simp)
    have hrs := Kept.mk (fun y (hy : y ∈ r) => hsz y (List.mem_cons_of_mem x hy))
    have hB0 : Below w.heap.size w (w.alloc (.cells #[.int .u8 0, .string ⟨#[]⟩, .int .i64 0, .slice none 0 0] 40)) := (Below.refl _ _).alloc (Nat.le_refl _) _
    have hn0 := World.alloc_heap_new w (.cells #[.int .u8 0, .string ⟨#[]⟩, .int .i64 0, .slice none 0 0] 40)
    have cN := refnum_any ⟨x.toArray⟩ (w.alloc (.cells #[.int .u8 0, .string ⟨#[]⟩, .int .i64 0, .slice none 0 0] 40)) (by rw [Lib.size_mk]; omega)
    have CN := Kept.mk cN
    have HB0 := Kept.mk (And.intro hB0 hn0)
    obtain ⟨i0, hi, hz0, hz1, hz2⟩ := info_parts infoF
    clear hB0 hn0 cN hr hsz hlr
    go_enter Tryz.func94, Tryz.ntmps94
    go_wp2_with (go_at_call 116; refine CN.out.mono ?_; rintro e w1 hn; obtain ⟨hb1, n, z0, rfl, HZ⟩ := num_parts hn; have HB1 := Kept.mk hb1; clear hn hb1)
    have hb1 := HB1.out
    have hsz1 := hb1.size
    have hcb : CrB w (w1.alloc (.cells #[.int .u8 6, .string ⟨#[]⟩, .int .i64 n, .slice none 0 0] 40)) w1.heap.size (w1.heap.size + 1) n (.slice none 0 0) 0 [] := ⟨(Below.heap_alloc _ _ _ (Nat.lt_of_lt_of_le (Array.getElem?_eq_some_iff.1 HB0.out.2).1 hsz1)).trans ((hb1.block _ (Array.getElem?_eq_some_iff.1 HB0.out.2).1).trans HB0.out.2), World.alloc_heap_new _ _, World.ownsRow_nil _ _ _ _, (HB0.out.1.trans (hb1.mono HB0.out.1.size)).alloc (Nat.le_trans HB0.out.1.size hsz1) _⟩
    have hcs := crS_start (r := r) HZ.out.1 HZ.out.2
    have HB := Kept.mk hcb
    have HS := Kept.mk hcs
    have HCw := Kept.mk (show w.heap.size < w1.heap.size from Nat.lt_of_lt_of_le (Array.getElem?_eq_some_iff.1 HB0.out.2).1 hsz1)
    clear hcb hcs hb1 hsz1 HB1 HB0 HZ hx0 hgw CN
    generalize hC : w1.heap.size = C at HB HCw ⊢
    generalize w1.alloc (.cells #[.int .u8 6, .string ⟨#[]⟩, .int .i64 n, .slice none 0 0] 40) = W2 at HB ⊢
    clear hC
    go_loopw [5, 7, 8, 9] (fun ok i _ _ wx => ∃ (k : Nat) (G : List (Int × Int)) (A2 : Option Addr) (cv : Nat) (z : Bool), i = .int .i64 ((k : Int) + 1) ∧ k ≤ r.length ∧ G.length = k ∧ ok = .bool z ∧ Kept (CrS (x :: r) n (r.drop k) G z) ∧ Kept (CrB w wx C (C + 1) n (.slice A2 k cv) k G)) (fun _ i _ _ _ => r.length + 1 - (intOf i).toNat)
    case atStart => exact ⟨0, [], none, 0, z0, rfl, by omega, rfl, rfl, HS, HB⟩
    case round =>
      clear HS HB
      obtain ⟨k, G, A2, cv, z, rfl, hk, hG, rfl, HS, HB⟩ := hrel
      have hCw := HCw.out
      have hGK := Kept.mk hG
      clear hG
      have k0 : (0 : Int) ≤ (k : Int) := by omega
      by_cases hlt : k < r.length ∧ z = true
      · obtain ⟨hlt, rfl⟩ := hlt
        have k1 : (k : Int) + 1 < (r.length : Int) + 1 := by omega
        have kt : ((k : Int) + 1).toNat = k + 1 := by omega
        obtain ⟨y, hy⟩ : ∃ y, r[k]? = some y := ⟨_, List.getElem?_eq_getElem hlt⟩
        have hd : r.drop k = y :: r.drop (k + 1) := by
          obtain ⟨h1, h2⟩ := List.getElem?_eq_some_iff.1 hy
          rw [List.drop_eq_getElem_cons h1, h2]
        have hs1 := HS.out
        rw [hd] at hs1
        have HS1 := Kept.mk hs1
        obtain ⟨g', off', eA, hyc⟩ := (hR.out.below HB.out.2.2.2) (k + 1) y (by simpa using hy)
        cases eA
        have hys : y.length ≤ 65536 := hrs.out y (List.mem_of_getElem? hy)
        have cF := fate_any ⟨y.toArray⟩ wr (by rw [Lib.size_mk]; omega)
        have CF := Kept.mk cF
        clear hs1 HS hd hy hys cF HCw
        go_wp2_with (first
          | (go_at_call 117; refine CF.out.mono ?_; rintro e wn hn; obtain ⟨hb1, n1, n2, z2, rfl, HZ⟩ := hn; have HBc := Kept.mk ((HB.out.below hb1).alloc (.cells #[.int .i64 n1, .int .u8 n2] 42)); have C3 := crb_cell HBc.out; clear hb1)
          | (at_builtin; refine wpList_append_own _ rfl (.tmp 42) (.tmp 44) 38 rfl (C + 1) 42 i0 (.agg #[.int .i64 0, .int .u8 0]) 2 16 Tryz.underlying38 hi hz0 hz1 hz2 rfl (by decide) _ _ _ (by rfl) (HBc.out.2.2.1.alloc _) ⟨wn.heap.size + 1, 0, none⟩ 1 1 [.int .i64 n1, .int .u8 n2] (by rfl) (by rfl) (by have h := World.news_of_block (World.alloc_heap_new (wn.alloc (.cells #[.int .i64 n1, .int .u8 n2] 42)) (.cells #[.int .i64 n1, .int .u8 n2] 42)); rwa [World.size_alloc] at h) (by intro u hu; simp at hu; rcases hu with rfl | rfl <;> rfl) (by unfold maxLen; omega) (by omega) (by have := (Array.getElem?_eq_some_iff.1 HBc.out.2.1).1; simp at this ⊢; omega) ?_; intro v' w5 hown5 hgrow5 _; obtain ⟨g5, cap5, rfl⟩ := ownsRow_succ hown5; have hap := CrB.appended (f := (n1, n2)) HBc.out hCw (Nat.lt_succ_self _) (Array.getElem?_eq_some_iff.1 HBc.out.2.1).1 hown5 hgrow5; have c5 := hap.2.1; have f5 := hap.2.2.1; have HA5 := Kept.mk hap.1; clear hap hown5 hgrow5))
        go_roundw
        case rel => exact ⟨k + 1, G ++ [(n1, n2)], _, _, z2, by go_num, by omega, by rw [List.length_append, hGK.out]; rfl, rfl, ⟨by
          cases z2 with
          | true => exact crS_good HS1.out (HZ.out.1 rfl)
          | false => exact crS_bad HS1.out (fun _ => HZ.out.2 rfl)⟩, HA5⟩
        case measure => simp [intOf]; omega
      · have hcell := HB.out.2.1
        have e0 := cell_of_row wr C 0 _ _ _ hcell
        have e1 := cell_of_row wr C 1 _ _ _ hcell
        have e2 := cell_of_row wr C 2 _ _ _ hcell
        have e3 := cell_of_row wr C 3 _ _ _ hcell
        have hres := HB.out.1
        have d0 := cell_of_row wr w.heap.size 0 _ _ _ hres
        have d1 := cell_of_row wr w.heap.size 1 _ _ _ hres
        have d2 := cell_of_row wr w.heap.size 2 _ _ _ hres
        have d3 := cell_of_row wr w.heap.size 3 _ _ _ hres
        have f0 := fun i => frozen_of_row wr w.heap.size i hres
        have hz4 := set4 (.int .u8 6) (.string ⟨#[]⟩) (.int .i64 n) (.slice A2 k cv) HB.out.1
        have r0 := cell_of_row _ w.heap.size 0 _ _ _ hz4
        have r1 := cell_of_row _ w.heap.size 1 _ _ _ hz4
        have r2 := cell_of_row _ w.heap.size 2 _ _ _ hz4
        have r3 := cell_of_row _ w.heap.size 3 _ _ _ hz4
        have HRR := Kept.mk (And.intro r0 (And.intro r1 (And.intro r2 r3)))
        clear hcell hres hz4 r0 r1 r2 r3
        cases z with
        | true =>
          have hkr : k = r.length := by
            have : ¬ k < r.length := fun e => hlt ⟨e, rfl⟩
            omega
          have k1 : ¬ (k : Int) + 1 < (r.length : Int) + 1 := by omega
          have hs := HS.out
          rw [hkr, List.drop_length] at hs
          have HS3 := Kept.mk hs
          clear hs hlt hkr HS
          go_wp2
          obtain ⟨r0, r1, r2, r3⟩ := HRR.out
          refine bodyPost_ret (v := .tuple #[cmdV 6 [] n (.slice A2 k cv), .bool true]) (by simp [results, Tryz.results94, go_sem, cmdV, r0, r1, r2, r3]) rfl ?_
          exact cr_done HB.out HS3.out hGK.out hCw (Nat.lt_succ_self _)
        | false =>
          have HS3 : Kept (CrS (x :: r) n [] G false) := ⟨HS.out⟩
          clear hlt HS
          by_cases k1 : (k : Int) + 1 < (r.length : Int) + 1
          · go_wp2
            obtain ⟨r0, r1, r2, r3⟩ := HRR.out
            refine bodyPost_ret (v := .tuple #[cmdV 6 [] n (.slice A2 k cv), .bool false]) (by simp [results, Tryz.results94, go_sem, cmdV, r0, r1, r2, r3]) rfl ?_
            exact cr_done HB.out HS3.out hGK.out hCw (Nat.lt_succ_self _)
          · go_wp2
            obtain ⟨r0, r1, r2, r3⟩ := HRR.out
            refine bodyPost_ret (v := .tuple #[cmdV 6 [] n (.slice A2 k cv), .bool false]) (by simp [results, Tryz.results94, go_sem, cmdV, r0, r1, r2, r3]) rfl ?_
            exact cr_done HB.out HS3.out hGK.out hCw (Nat.lt_succ_self _)
end Go.Proofs.YtakccaldcolbmaaGreatDoor.Wln
