/- The walk over the kit's flatNodes. -/
import Derived.Test.YtmdbjoebcolcfaaGreatDoorFlatKit
import Derived.Test.YtmdbjoebcolcfaaGreatDoorLentNodes
import Derived.Deep.RegionHeld3
import Derived.Deep.RegionWith
import Derived.BigQuiet
import Derived.Deep.QuietTactic
import Derived.IntWalk
import Derived.Laws.StructEq
namespace Go.Proofs.YtmdbjoebcolcfaaGreatDoor.Flt
open Go Go.RowKit Go.Proofs.YtmdbjoebcolcfaaGreatDoor.Kb

theorem eqlM_Nodes (m : Int) (w : World) : (binOp .eql 39 (.agg #[.int .u8 0, .string ⟨#[]⟩, .string ⟨#[]⟩, .int .i64 m]) (.agg #[.int .u8 0, .string ⟨#[]⟩, .string ⟨#[]⟩, .int .i64 m])).run Tryz.prog w = .ok (.bool true) w := eql_node 0 ⟨#[]⟩ ⟨#[]⟩ m w
def mkNodes (k i : Nat) : List Value := [.int .u8 0, .string ⟨#[]⟩, .string ⟨#[]⟩, .int .i64 (mkI k i)]
theorem lenNodes (k i : Nat) : (mkNodes k i).length = 4 := rfl
theorem oneNodes : ∀ (n k : Nat), ∀ u ∈ marks mkNodes k n, u.oneCell' = true := by
  intro n k u hu
  obtain ⟨i, _, hi⟩ := List.mem_flatMap.1 hu
  simp only [mkNodes, List.mem_cons, List.mem_nil_iff, or_false] at hi
  rcases hi with rfl | rfl | rfl | rfl <;> rfl
theorem infoNodes : (Tryz.prog.info? 39).map (fun i => (i.zero, i.size, i.bytes)) = some (some (.agg #[.int .u8 0, .string ⟨#[]⟩, .string ⟨#[]⟩, .int .i64 0]), 4, 48) := by kernel_rfl
theorem infoSNodes : (Tryz.prog.info? 23).map (fun i => (i.zero, i.size, i.bytes)) = some (some (.slice none 0 0), 1, 24) := by kernel_rfl
theorem cxNodes_ne : 39 ≠ 23 := by decide
def cxNodes (B0 K : Nat) (lsv : Value) (vs : List Value) (ns : Nat → Nat) (w : World) : Ctx := ⟨39, 23, 4, mkNodes, B0, K, lsv, vs, ns, w⟩
set_option maxRecDepth 200000 in
set_option maxHeartbeats 8000000 in
theorem flatNodes_any (B0 K B C : Nat) (vs : List Value) (ns : Nat → Nat) (xs0 : Nat → List Value) (w : World) (hK : K ≤ 100) (hn : ∀ k, ns k ≤ 100000)
    (hc : (cxNodes B0 K (.slice (some ⟨B, 0, none⟩) K C) vs ns w).Ok) (hB : Bas (cxNodes B0 K (.slice (some ⟨B, 0, none⟩) K C) vs ns w) w) (hF : Fam (cxNodes B0 K (.slice (some ⟨B, 0, none⟩) K C) vs ns w) xs0 w) :
    Calls Tryz.prog 68 #[.slice (some ⟨B, 0, none⟩) K C] w fun e w' => e = .returned (.bool true) ∧ Kpt (cxNodes B0 K (.slice (some ⟨B, 0, none⟩) K C) vs ns w) w' := by
  have HC := Kept.mk hc
  have HS := Kept.mk (F1.start hB hF)
  obtain ⟨c, hcx⟩ : ∃ c, c = cxNodes B0 K (.slice (some ⟨B, 0, none⟩) K C) vs ns w := ⟨_, rfl⟩
  rw [← hcx] at HC HS
  have eK : c.K = K := by rw [hcx]; rfl
  have eL : c.lsv = .slice (some ⟨B, 0, none⟩) c.K C := by rw [hcx]; rfl
  have eN : ∀ k, c.ns k ≤ 100000 := by intro k; rw [hcx]; exact hn k
  have eZ : c.sz = 4 := by rw [hcx]; rfl
  have eM : c.mq = mkNodes := by rw [hcx]; rfl
  have eW : c.w = w := by rw [hcx]; rfl
  have eB : c.B0 = B0 := by rw [hcx]; rfl
  have eE : c.E = 39 := by rw [hcx]; rfl
  have eS : c.S = 23 := by rw [hcx]; rfl
  have LS : Kept (∀ (wx : World) (j : Nat) (v : Value), Bas c wx → c.vs[j]? = some v → wx.cell? ⟨B, j, none⟩ = some v) := ⟨fun wx j v h hv => h.ls eL hv⟩
  have HL := Kept.mk eL
  have HN := Kept.mk eN
  have HCX := Kept.mk hcx
  have HZ := Kept.mk eZ
  have HM := Kept.mk eM
  have HK := Kept.mk eK
  have HE := Kept.mk eE
  have HSS := Kept.mk eS
  have HB0 := Kept.mk eB
  have HW := Kept.mk eW
  have hB0 : B0 ≤ w.heap.size := hc.low
  clear hc hB hF hcx eK eL eN eZ eM eB eE eS eW hn
  go_enter Tryz.func68, Tryz.ntmps68
  go_wp2
  go_loopw [3] (fun k wx => ∃ k' : Nat, k' ≤ K ∧ k = .int .i64 k' ∧ F1 c k' 0 wx) (fun k _ => K - (intOf k).toNat)
  case atStart => exact ⟨0, by omega, rfl, HS.out⟩
  case round =>
    obtain ⟨k, hk, rfl, hR⟩ := hrel
    have HR := Kept.mk hR
    clear hR
    by_cases hlt : k < K
    · obtain ⟨v, hv⟩ := HR.out.1.get (j := k) (by rw [HK.out]; exact hlt)
      obtain ⟨A, cc, rfl, _⟩ : ∃ A cc, v = .slice A (c.ns k) cc ∧ c.ns k ≤ cc := by
        obtain ⟨_, xs, h1, _⟩ := HR.out
        exact own_slice (h1 k v hv)
      have HV := Kept.mk hv
      have hnk := HN.out k
      have l0 : wr.cell? ⟨B, k, none⟩ = some (.slice A (c.ns k) cc) := LS.out _ _ _ HR.out.1 hv
      have i0 : (0 : Int) ≤ (k : Int) := by omega
      have i1 : (k : Int) < (K : Int) := by omega
      clear hv
      obtain ⟨wo, rfl⟩ : ∃ wo : World, wo = wr := ⟨_, rfl⟩
      go_wp2
      go_loopw [4] (fun i wx => ∃ i' : Nat, i' ≤ c.ns k ∧ i = .int .i64 i' ∧ F1 c k i' wx) (fun i _ => c.ns k - (intOf i).toNat)
      case atStart => exact ⟨0, by omega, rfl, HR.out⟩
      case round =>
        obtain ⟨i, hi, rfl, hR2⟩ := hrel
        have HR2 := Kept.mk hR2
        have l1 : wr.cell? ⟨B, k, none⟩ = some (.slice A (c.ns k) cc) := LS.out _ _ _ hR2.1 HV.out
        clear hR2
        by_cases hlt2 : i < c.ns k
        · as_aux_lemma =>
          obtain ⟨g, cc', e, hg0, hg1, hcl, hfz, hgl⟩ := HR2.out.row HC.out HV.out hlt2
          cases e
          have hgB : g ≠ B := fun e => hgl (by rw [HL.out, e]; rfl)
          clear hgl
          rw [HZ.out] at hcl
          have i2 : (0 : Int) ≤ (i : Int) := by omega
          have i3 : (i : Int) < ((c.ns k : Nat) : Int) := by omega
          obtain ⟨u0, z0⟩ := hcl 0 (by omega)
          obtain ⟨u1, z1⟩ := hcl 1 (by omega)
          obtain ⟨u2, z2⟩ := hcl 2 (by omega)
          obtain ⟨u3, z3⟩ := hcl 3 (by omega)
          simp only [Nat.add_zero] at z0 z1 z2 z3
          have f0 : wr.frozen? ⟨g, i * 4, none⟩ = false := hfz _
          have f1 : wr.frozen? ⟨g, i * 4 + 1, none⟩ = false := hfz _
          have f2 : wr.frozen? ⟨g, i * 4 + 2, none⟩ = false := hfz _
          have f3 : wr.frozen? ⟨g, i * 4 + 3, none⟩ = false := hfz _
          clear hcl hfz
          go_wp2_with (fail)
          go_region_held3 (fun wx => wx.cell? ⟨B, k, none⟩ = some (.slice (some ⟨g, 0, none⟩) (c.ns k) cc)) (first | exact l1 | exact cel_keep (bel_drew hb1) l1 | (rw [World.cell?_setCell_far _ _ _ _ hgB, World.cell?_setCell_far _ _ _ _ hgB, World.cell?_setCell_far _ _ _ _ hgB, World.cell?_setCell_far _ _ _ _ hgB]; exact cel_keep (bel_drew hb1) l1)) (first | (go_at_call 119; refine (markNodes_any (k) (i) _ (by omega) (by omega) (by omega) (by omega)).mono ?_; rintro e w1 ⟨rfl, hb1⟩; have z0 := cel_keep (bel_drew hb1) z0; have f0 := fro_keep (bel_drew hb1) hg1 f0; have z1 := cel_keep (bel_drew hb1) z1; have f1 := fro_keep (bel_drew hb1) hg1 f1; have z2 := cel_keep (bel_drew hb1) z2; have f2 := fro_keep (bel_drew hb1) hg1 f2; have z3 := cel_keep (bel_drew hb1) z3; have f3 := fro_keep (bel_drew hb1) hg1 f3))
          go_wp2
          have hst := F1.store HC.out (HR2.out.below HC.out (bel_drew hb1)) HV.out hlt2
          rw [HZ.out, HM.out] at hst
          have HST := Kept.mk hst
          clear hst
          go_roundw
          case rel => exact ⟨i + 1, by omega, by go_num, HST.out⟩
          case measure => simp [intOf]; omega
        · obtain rfl : i = c.ns k := by omega
          have H1 := Kept.mk (HR2.out.next HC.out HV.out)
          go_wp2
          go_roundw
          case rel => exact ⟨k + 1, by omega, by go_num, H1.out⟩
          case measure => simp [intOf]; omega
    · obtain rfl : k = K := by omega
      have hM : Mar c wr := F1.done (by rw [HK.out]; exact HR.out)
      obtain ⟨iS, hiS, hzS, hsS, hbS⟩ := info_parts infoSNodes
      have hlow : B0 ≤ wr.heap.size := by have h1 := hM.1.1.size; rw [HW.out] at h1; exact Nat.le_trans hB0 h1
      have M0 := Kept.mk hM
      clear hM HR HS
      go_wp2_with (at_make; refine wpList_make_full _ rfl _ _ 34 rfl B0 23 iS (.slice none 0 0) 1 Tryz.underlying34 hiS hzS hsS .i64 .i64 _ _ k (by rfl) (by rfl) rfl rfl (by rw [hbS]; omega) (by unfold maxLen; omega) hlow ?_; intro w2 hown2 hgrow2; have hGs := gs_new (m := 64) (ys := fun j => marks c.mq j (c.ns j + 64)) M0.out.1 (by rw [HB0.out, HSS.out, HK.out]; exact hown2); have M2 := Kept.mk (M0.out.below HC.out (below_of_grown hgrow2)); have G2 := Kept.mk hGs; clear hown2 hgrow2 hGs)
      obtain ⟨G, hGe⟩ : ∃ G, G = wr.heap.size := ⟨_, rfl⟩
      rw [← hGe] at G2 ⊢
      clear hGe hlow
      obtain ⟨iE, hiE, hzE, hsE, hbE⟩ := info_parts infoNodes
      go_wp2
      go_loopw [6] (fun n wx => ∃ (n' : Nat) (us : List Value), n' ≤ k ∧ n = .int .i64 n' ∧ Mar c wx ∧ Gs c G us n' 64 (fun j => marks c.mq j (c.ns j + 64)) wx) (fun n _ => k - (intOf n).toNat)
      case atStart => exact ⟨0, _, by omega, rfl, M2.out, G2.out⟩
      case round =>
        obtain ⟨n, us, hnk, rfl, hM, hG⟩ := hrel
        have M3 := Kept.mk hM
        have G3 := Kept.mk hG
        clear hM hG
        by_cases hlt : n < k
        · obtain ⟨v, hv⟩ := M3.out.1.get (j := n) (by rw [HK.out]; exact hlt)
          obtain ⟨A, cc, rfl, _⟩ := own_slice (M3.out.2 n v hv)
          have HV := Kept.mk hv
          have hnn := HN.out n
          have l0 : wr.cell? ⟨B, n, none⟩ = some (.slice A (c.ns n) cc) := LS.out _ _ _ M3.out.1 hv
          have i0 : (0 : Int) ≤ (n : Int) := by omega
          have i1 : (n : Int) < (k : Int) := by omega
          clear hv
          obtain ⟨wo, rfl⟩ : ∃ wo : World, wo = wr := ⟨_, rfl⟩
          go_wp2
          go_loopw [7, 8] (fun u i wx => ∃ i' : Nat, i' ≤ 64 ∧ i = .int .i64 i' ∧ Mar c wx ∧ Gs c G us n 64 (fun j => marks c.mq j (c.ns j + 64)) wx ∧ Now c us n u ∧ wx.ownsRow c.B0 c.E c.sz u (c.ns n + i') (marks c.mq n (c.ns n + i'))) (fun _ i _ => 64 - (intOf i).toNat)
          case atStart => exact ⟨0, by omega, rfl, M3.out, G3.out, Now.first HC.out G3.out HV.out, M3.out.2 n _ HV.out⟩
          case round =>
            obtain ⟨i, hi, rfl, hM, hG, hNow, hU⟩ := hrel
            have M4 := Kept.mk hM
            have G4 := Kept.mk hG
            have N4 := Kept.mk hNow
            have U4 := Kept.mk hU
            have l1 : wr.cell? ⟨B, n, none⟩ = some (.slice A (c.ns n) cc) := LS.out _ _ _ hM.1 HV.out
            clear hM hG hNow hU
            by_cases hlt2 : i < 64
            · as_aux_lemma =>
              have i2 : (0 : Int) ≤ (i : Int) := by omega
              have i3 : (i : Int) < 64 := by omega
              have i4 : (i : Int) ≤ 64 := by omega
              go_wp2_with (fail)
              refine (markNodes_any (n) ((c.ns n : Int) + i) _ (by omega) (by omega) (by omega) (by omega)).mono ?_; rintro e w1 ⟨rfl, hb1⟩
              have M5 := Kept.mk (M4.out.below HC.out hb1)
              have G5 := Kept.mk (G4.out.below hb1)
              have U5 := Kept.mk (own_below U4.out hb1)
              have hlow : B0 ≤ w1.heap.size + 1 := by have h1 := M5.out.1.1.size; rw [HW.out] at h1; omega
              clear hb1
              have A5 : Kept (Below w1.heap.size w1 (w1.alloc (.cells #[.int .u8 0, .string ⟨#[]⟩, .string ⟨#[]⟩, .int .i64 (mkI n ((c.ns n : Int) + i))] 39))) := ⟨(Below.refl _ _).alloc (Nat.le_refl _) _⟩
              have M6 := Kept.mk (M5.out.below HC.out A5.out)
              have G6 := Kept.mk (G5.out.below A5.out)
              have U6 := Kept.mk (own_below U5.out A5.out)
              have U7 : Kept ((w1.alloc (.cells #[.int .u8 0, .string ⟨#[]⟩, .string ⟨#[]⟩, .int .i64 (mkI n ((c.ns n : Int) + i))] 39)).ownsRow B0 39 4 u7 (c.ns n + i) (marks c.mq n (c.ns n + i))) := ⟨by have h := U6.out; rw [HB0.out, HE.out, HZ.out] at h; exact h⟩
              go_wp2_with (at_builtin; refine wpList_append_share _ rfl (.tmp 57) (.tmp 67) 23 rfl B0 39 iE (.agg #[.int .u8 0, .string ⟨#[]⟩, .string ⟨#[]⟩, .int .i64 0]) 4 48 Tryz.underlying23 hiE hzE hsE hbE rfl (by decide) u7 (c.ns n + i) (marks c.mq n (c.ns n + i)) (by rfl) U7.out ⟨w1.heap.size, 0, none⟩ 1 1 [.int .u8 0, .string ⟨#[]⟩, .string ⟨#[]⟩, .int .i64 (mkI n ((c.ns n : Int) + i))] (by rfl) (by rfl) (World.news_of_block (heap_alloc_new _ _)) (by intro u hu; simp at hu; rcases hu with rfl | rfl | rfl | rfl <;> rfl) (by unfold maxLen; omega) (by omega) (by simp; omega) ?_; intro v5 w5 hown5 hgrow5 hat5 hsh5; have hX := gather HC.out M6.out G6.out N4.out U6.out (by omega) hgrow5 hat5 (by rw [HE.out, HZ.out]; exact hsh5); have hY : w5.ownsRow c.B0 c.E c.sz v5 (c.ns n + (i + 1)) (marks c.mq n (c.ns n + (i + 1))) := (by rw [HB0.out, HE.out, HZ.out, ← Nat.add_assoc, marks_succ]; have hq : c.mq n (c.ns n + i) = [.int .u8 0, .string ⟨#[]⟩, .string ⟨#[]⟩, .int .i64 (mkI n ((c.ns n : Int) + i))] := (by rw [HM.out]; rfl); rw [hq]; exact hown5); have HX := Kept.mk hX; have HY := Kept.mk hY; clear hX hY hown5 hgrow5 hat5 hsh5)
              go_roundw
              case rel => exact ⟨i + 1, by omega, by go_num, HX.out.1, HX.out.2.1, HX.out.2.2, HY.out⟩
              case measure => simp [intOf]; omega
            · obtain rfl : i = 64 := by omega
              obtain ⟨A7, c7, rfl, _⟩ := own_slice U4.out
              obtain ⟨_, hus, l2⟩ := G4.out.get (j := n) (by rw [HK.out]; exact hlt)
              have f2 : wr.frozen? ⟨G, n, none⟩ = false := own_unfrozen G4.out.own n
              have hst := gs_store HC.out M4.out.1 M4.out.2 G4.out.lt.1 G4.out U4.out N4.out
              have ST := Kept.mk hst
              clear hst hus
              go_wp2
              go_roundw
              case rel => exact ⟨n + 1, _, by omega, by go_num, ⟨ST.out.1, ST.out.2.1⟩, ST.out.2.2⟩
              case measure => simp [intOf]; omega
        · obtain rfl : k = n := by omega
          clear M0 M2 G2
          go_wp2
          go_loopw [9] (fun n wx => ∃ n' : Nat, n' ≤ k ∧ n = .int .i64 n' ∧ Mar c wx ∧ Gs c G us k 64 (fun j => marks c.mq j (c.ns j + 64)) wx) (fun n _ => k - (intOf n).toNat)
          case atStart => exact ⟨0, by omega, rfl, M3.out, G3.out⟩
          case round =>
            obtain ⟨p, hp, rfl, hM, hG⟩ := hrel
            have M3 := Kept.mk hM
            have G3 := Kept.mk hG
            clear hM hG
            by_cases hlt : p < k
            · obtain ⟨v, hv⟩ := M3.out.1.get (j := p) (by rw [HK.out]; exact hlt)
              obtain ⟨A, cc, rfl, _⟩ := own_slice (M3.out.2 p v hv)
              obtain ⟨u, hu, l2⟩ := G3.out.get (j := p) (by rw [HK.out]; exact hlt)
              obtain ⟨A2, c2, rfl, _⟩ := own_slice (G3.out.row p u hlt hu)
              have HV := Kept.mk hv
              have HU := Kept.mk hu
              have hnn := HN.out p
              have l0 : wr.cell? ⟨B, p, none⟩ = some (.slice A (c.ns p) cc) := LS.out _ _ _ M3.out.1 hv
              have i0 : (0 : Int) ≤ (p : Int) := by omega
              have i1 : (p : Int) < (k : Int) := by omega
              clear hv hu
              obtain ⟨wo, rfl⟩ : ∃ wo : World, wo = wr := ⟨_, rfl⟩
              go_wp2
              go_loopw [10] (fun i wx => ∃ i' : Nat, i' ≤ c.ns p + 64 ∧ i = .int .i64 i' ∧ Mar c wx ∧ Gs c G us k 64 (fun j => marks c.mq j (c.ns j + 64)) wx) (fun i _ => c.ns p + 64 - (intOf i).toNat)
              case atStart => exact ⟨0, by omega, rfl, M3.out, G3.out⟩
              case round =>
                obtain ⟨i, hi, rfl, hM, hG⟩ := hrel
                have M4 := Kept.mk hM
                have G4 := Kept.mk hG
                have l1 : wr.cell? ⟨B, p, none⟩ = some (.slice A (c.ns p) cc) := LS.out _ _ _ hM.1 HV.out
                have l3 : wr.cell? ⟨G, p, none⟩ = some (.slice A2 (c.ns p + 64) c2) := own_at hG.own p _ HU.out
                clear hM hG l0 l2
                by_cases hlt2 : i < c.ns p + 64
                · have hlen : ∀ k i, (c.mq k i).length = 4 := fun a b => by rw [HM.out]; rfl
                  have hrow := G4.out.row p _ hlt HU.out
                  rw [HZ.out] at hrow
                  obtain ⟨g2, c2', e, hq⟩ := row_cells (i := i) (ys := []) hlen (by rw [List.append_nil]; exact hrow) hlt2 (by omega)
                  cases e
                  rw [HM.out] at hq
                  have q0 : wr.cell? ⟨g2, i * 4, none⟩ = some (.int .u8 0) := hq 0 _ rfl
                  have q1 : wr.cell? ⟨g2, i * 4 + 1, none⟩ = some (.string ⟨#[]⟩) := hq 1 _ rfl
                  have q2 : wr.cell? ⟨g2, i * 4 + 2, none⟩ = some (.string ⟨#[]⟩) := hq 2 _ rfl
                  have q3 : wr.cell? ⟨g2, i * 4 + 3, none⟩ = some (.int .i64 (mkI p i)) := hq 3 _ rfl
                  clear hq hrow
                  have i2 : (0 : Int) ≤ (i : Int) := by omega
                  have i3 : (i : Int) < ((c.ns p + 64 : Nat) : Int) := by omega
                  have i5 : (i : Int) < ((c.ns p : Nat) : Int) + 64 := by omega
                  have hE := fun wx => eqlM_Nodes (mkI p i) wx
                  by_cases hin : i < c.ns p
                  · as_aux_lemma =>
                    obtain ⟨g, cc', e, hr⟩ := row_cells (i := i) (ys := []) hlen (by rw [List.append_nil]; have := M4.out.2 p _ HV.out; rw [HZ.out] at this; exact this) hin (by omega)
                    cases e
                    rw [HM.out] at hr
                    have r0 : wr.cell? ⟨g, i * 4, none⟩ = some (.int .u8 0) := hr 0 _ rfl
                    have r1 : wr.cell? ⟨g, i * 4 + 1, none⟩ = some (.string ⟨#[]⟩) := hr 1 _ rfl
                    have r2 : wr.cell? ⟨g, i * 4 + 2, none⟩ = some (.string ⟨#[]⟩) := hr 2 _ rfl
                    have r3 : wr.cell? ⟨g, i * 4 + 3, none⟩ = some (.int .i64 (mkI p i)) := hr 3 _ rfl
                    clear hr
                    have i4 : (i : Int) < ((c.ns p : Nat) : Int) := by omega
                    go_wp2_with (fail)
                    refine wp_region_noPanic ?_
                    refine wp_region_held_drew (S := fun wx => wx.cell? ⟨B, p, none⟩ = some (.slice (some ⟨g, 0, none⟩) (c.ns p) cc) ∧ wx.cell? ⟨G, p, none⟩ = some (.slice (some ⟨g2, 0, none⟩) (c.ns p + 64) c2) ∧ wx.cell? ⟨g2, i * 4, none⟩ = some (.int .u8 0) ∧ wx.cell? ⟨g2, i * 4 + 1, none⟩ = some (.string ⟨#[]⟩) ∧ wx.cell? ⟨g2, i * 4 + 2, none⟩ = some (.string ⟨#[]⟩) ∧ wx.cell? ⟨g2, i * 4 + 3, none⟩ = some (.int .i64 (mkI p i)) ∧ wx.cell? ⟨g, i * 4, none⟩ = some (.int .u8 0) ∧ wx.cell? ⟨g, i * 4 + 1, none⟩ = some (.string ⟨#[]⟩) ∧ wx.cell? ⟨g, i * 4 + 2, none⟩ = some (.string ⟨#[]⟩) ∧ wx.cell? ⟨g, i * 4 + 3, none⟩ = some (.int .i64 (mkI p i))) (by as_aux_lemma => kernel_rfl) ⟨l1, l3, q0, q1, q2, q3, r0, r1, r2, r3⟩ (fun hHeld => ?_)
                    refine wpAnyH_take (i := 0) (oi := ⟨_, _, _, _, _, _⟩) (v := ?_) rfl (by as_aux_lemma => kernel_rfl) (by as_aux_lemma => kernel_rfl) (by as_aux_lemma => kernel_rfl) (fun _ _ _ h => h) (Or.inl ⟨by rfl, ?_⟩) (by assumption) ?_
                    rotate_left
                    · (intro w hSw; (try dsimp only at hSw); go_simp; try (with_reducible rfl))
                    try simp only [Act.put, List.setIfInBounds_toArray, List.set_cons_zero, List.set_cons_succ]
                    refine wpAnyH_take (i := 1) (oi := ⟨_, _, _, _, _, _⟩) (v := ?_) rfl (by as_aux_lemma => kernel_rfl) (by as_aux_lemma => kernel_rfl) (by as_aux_lemma => kernel_rfl) (fun _ _ _ h => h) (Or.inl ⟨by rfl, ?_⟩) (by assumption) ?_
                    rotate_left
                    · (intro w hSw; (try dsimp only at hSw); go_simp; try (with_reducible rfl))
                    try simp only [Act.put, List.setIfInBounds_toArray, List.set_cons_zero, List.set_cons_succ]
                    refine wpAnyH_take (i := 2) (oi := ⟨_, _, _, _, _, _⟩) (v := ?_) rfl (by as_aux_lemma => kernel_rfl) (by as_aux_lemma => kernel_rfl) (by as_aux_lemma => kernel_rfl) (fun _ _ _ h => h) (Or.inl ⟨by rfl, ?_⟩) (by assumption) ?_
                    rotate_left
                    · (intro w hSw; (try dsimp only at hSw); go_simp; try (with_reducible rfl))
                    try simp only [Act.put, List.setIfInBounds_toArray, List.set_cons_zero, List.set_cons_succ]
                    refine wpAnyH_take (i := 3) (oi := ⟨_, _, _, _, _, _⟩) (v := ?_) rfl (by as_aux_lemma => kernel_rfl) (by as_aux_lemma => kernel_rfl) (by as_aux_lemma => kernel_rfl) (fun _ _ _ h => h) (Or.inl ⟨by rfl, ?_⟩) (by assumption) ?_
                    rotate_left
                    · (intro w hSw; (try dsimp only at hSw); go_simp; try (with_reducible rfl))
                    try simp only [Act.put, List.setIfInBounds_toArray, List.set_cons_zero, List.set_cons_succ]
                    refine wpAnyH_take (i := 4) (oi := ⟨_, _, _, _, _, _⟩) (v := ?_) rfl (by as_aux_lemma => kernel_rfl) (by as_aux_lemma => kernel_rfl) (by as_aux_lemma => kernel_rfl) (fun _ _ _ h => h) (Or.inl ⟨by rfl, ?_⟩) (by assumption) ?_
                    rotate_left
                    · (intro w hSw; (try dsimp only at hSw); go_simp; try (with_reducible rfl))
                    try simp only [Act.put, List.setIfInBounds_toArray, List.set_cons_zero, List.set_cons_succ]
                    refine wpAnyH_take (i := 5) (oi := ⟨_, _, _, _, _, _⟩) (v := ?_) rfl (by as_aux_lemma => kernel_rfl) (by as_aux_lemma => kernel_rfl) (by as_aux_lemma => kernel_rfl) (fun _ _ _ h => h) (Or.inl ⟨by rfl, ?_⟩) (by assumption) ?_
                    rotate_left
                    · (intro w hSw; (try dsimp only at hSw); go_simp; try (with_reducible rfl))
                    try simp only [Act.put, List.setIfInBounds_toArray, List.set_cons_zero, List.set_cons_succ]
                    refine wpAnyH_take (i := 6) (oi := ⟨_, _, _, _, _, _⟩) (v := ?_) rfl (by as_aux_lemma => kernel_rfl) (by as_aux_lemma => kernel_rfl) (by as_aux_lemma => kernel_rfl) (fun _ _ _ h => h) (Or.inl ⟨by rfl, ?_⟩) (by assumption) ?_
                    rotate_left
                    · (intro w hSw; (try dsimp only at hSw); go_simp; try (with_reducible rfl))
                    try simp only [Act.put, List.setIfInBounds_toArray, List.set_cons_zero, List.set_cons_succ]
                    refine wpAnyH_take (i := 7) (oi := ⟨_, _, _, _, _, _⟩) (v := ?_) rfl (by as_aux_lemma => kernel_rfl) (by as_aux_lemma => kernel_rfl) (by as_aux_lemma => kernel_rfl) (fun _ _ _ h => h) (Or.inl ⟨by rfl, ?_⟩) (by assumption) ?_
                    rotate_left
                    · (intro w hSw; (try dsimp only at hSw); go_simp; try (with_reducible rfl))
                    try simp only [Act.put, List.setIfInBounds_toArray, List.set_cons_zero, List.set_cons_succ]
                    refine wpAnyH_take (i := 8) (oi := ⟨_, _, _, _, _, _⟩) (v := ?_) rfl (by as_aux_lemma => kernel_rfl) (by as_aux_lemma => kernel_rfl) (by as_aux_lemma => kernel_rfl) (fun _ _ _ h => h) (Or.inl ⟨by rfl, ?_⟩) (by assumption) ?_
                    rotate_left
                    · (intro w hSw; (try dsimp only at hSw); go_simp; try (with_reducible rfl))
                    try simp only [Act.put, List.setIfInBounds_toArray, List.set_cons_zero, List.set_cons_succ]
                    refine wpAnyH_ready (rs := [9]) (by as_aux_lemma => kernel_rfl) (by simp) ?_
                    refine AllReadyH.cons (o := ⟨_, _, _, _, _, _⟩) rfl (fun K hK => ?_) AllReadyH.nil
                    go_simp
                    go_at_call 119; refine (markNodes_any (p) (i) _ (by omega) (by omega) (by omega) (by omega)).mono ?_; rintro e w1 ⟨rfl, hb1⟩
                    refine hK.out _ _ ?_ (fun hHeld1 => ?_)
                    · exact ⟨cel_keep (bel_drew hb1) l1, cel_keep (bel_drew hb1) l3, cel_keep (bel_drew hb1) q0, cel_keep (bel_drew hb1) q1, cel_keep (bel_drew hb1) q2, cel_keep (bel_drew hb1) q3, cel_keep (bel_drew hb1) r0, cel_keep (bel_drew hb1) r1, cel_keep (bel_drew hb1) r2, cel_keep (bel_drew hb1) r3⟩
                    clear hK K
                    try simp only [Act.put, List.setIfInBounds_toArray, List.set_cons_zero, List.set_cons_succ]
                    refine wpAnyH_take (i := 10) (oi := ⟨_, _, _, _, _, _⟩) (v := .bool true) rfl (by as_aux_lemma => kernel_rfl) (by as_aux_lemma => kernel_rfl) (by as_aux_lemma => kernel_rfl) (fun _ _ _ h => h) (Or.inl ⟨by rfl, fun w _ => exec_eql _ _ _ _ rfl _ _ _ w rfl rfl eqgM_Nodes (hE w)⟩) (by assumption) ?_
                    try simp only [Act.put, List.setIfInBounds_toArray, List.set_cons_zero, List.set_cons_succ]
                    refine wpAnyH_take (i := 11) (oi := ⟨_, _, _, _, _, _⟩) (v := ?_) rfl (by as_aux_lemma => kernel_rfl) (by as_aux_lemma => kernel_rfl) (by as_aux_lemma => kernel_rfl) (fun _ _ _ h => h) (Or.inl ⟨by rfl, ?_⟩) (by assumption) ?_
                    rotate_left
                    · (intro w hSw; (try dsimp only at hSw); go_simp; try (with_reducible rfl))
                    try simp only [Act.put, List.setIfInBounds_toArray, List.set_cons_zero, List.set_cons_succ]
                    refine wpAnyH_take (i := 12) (oi := ⟨_, _, _, _, _, _⟩) (v := ?_) rfl (by as_aux_lemma => kernel_rfl) (by as_aux_lemma => kernel_rfl) (by as_aux_lemma => kernel_rfl) (fun _ _ _ h => h) (Or.inl ⟨by rfl, ?_⟩) (by assumption) ?_
                    rotate_left
                    · (intro w hSw; (try dsimp only at hSw); go_simp; try (with_reducible rfl))
                    try simp only [Act.put, List.setIfInBounds_toArray, List.set_cons_zero, List.set_cons_succ]
                    refine wpAnyH_take (i := 13) (oi := ⟨_, _, _, _, _, _⟩) (v := ?_) rfl (by as_aux_lemma => kernel_rfl) (by as_aux_lemma => kernel_rfl) (by as_aux_lemma => kernel_rfl) (fun _ _ _ h => h) (Or.inl ⟨by rfl, ?_⟩) (by assumption) ?_
                    rotate_left
                    · (intro w hSw; (try dsimp only at hSw); go_simp; try (with_reducible rfl))
                    try simp only [Act.put, List.setIfInBounds_toArray, List.set_cons_zero, List.set_cons_succ]
                    refine wpAnyH_take (i := 14) (oi := ⟨_, _, _, _, _, _⟩) (v := ?_) rfl (by as_aux_lemma => kernel_rfl) (by as_aux_lemma => kernel_rfl) (by as_aux_lemma => kernel_rfl) (fun _ _ _ h => h) (Or.inl ⟨by rfl, ?_⟩) (by assumption) ?_
                    rotate_left
                    · (intro w hSw; (try dsimp only at hSw); go_simp; try (with_reducible rfl))
                    try simp only [Act.put, List.setIfInBounds_toArray, List.set_cons_zero, List.set_cons_succ]
                    refine wpAnyH_take (i := 15) (oi := ⟨_, _, _, _, _, _⟩) (v := ?_) rfl (by as_aux_lemma => kernel_rfl) (by as_aux_lemma => kernel_rfl) (by as_aux_lemma => kernel_rfl) (fun _ _ _ h => h) (Or.inl ⟨by rfl, ?_⟩) (by assumption) ?_
                    rotate_left
                    · (intro w hSw; (try dsimp only at hSw); go_simp; try (with_reducible rfl))
                    try simp only [Act.put, List.setIfInBounds_toArray, List.set_cons_zero, List.set_cons_succ]
                    refine wpAnyH_take (i := 16) (oi := ⟨_, _, _, _, _, _⟩) (v := ?_) rfl (by as_aux_lemma => kernel_rfl) (by as_aux_lemma => kernel_rfl) (by as_aux_lemma => kernel_rfl) (fun _ _ _ h => h) (Or.inl ⟨by rfl, ?_⟩) (by assumption) ?_
                    rotate_left
                    · (intro w hSw; (try dsimp only at hSw); go_simp; try (with_reducible rfl))
                    try simp only [Act.put, List.setIfInBounds_toArray, List.set_cons_zero, List.set_cons_succ]
                    refine wpAnyH_take (i := 17) (oi := ⟨_, _, _, _, _, _⟩) (v := ?_) rfl (by as_aux_lemma => kernel_rfl) (by as_aux_lemma => kernel_rfl) (by as_aux_lemma => kernel_rfl) (fun _ _ _ h => h) (Or.inl ⟨by rfl, ?_⟩) (by assumption) ?_
                    rotate_left
                    · (intro w hSw; (try dsimp only at hSw); go_simp; try (with_reducible rfl))
                    try simp only [Act.put, List.setIfInBounds_toArray, List.set_cons_zero, List.set_cons_succ]
                    refine wpAnyH_take (i := 18) (oi := ⟨_, _, _, _, _, _⟩) (v := ?_) rfl (by as_aux_lemma => kernel_rfl) (by as_aux_lemma => kernel_rfl) (by as_aux_lemma => kernel_rfl) (fun _ _ _ h => h) (Or.inl ⟨by rfl, ?_⟩) (by assumption) ?_
                    rotate_left
                    · (intro w hSw; (try dsimp only at hSw); go_simp; try (with_reducible rfl))
                    try simp only [Act.put, List.setIfInBounds_toArray, List.set_cons_zero, List.set_cons_succ]
                    refine wpAnyH_take (i := 19) (oi := ⟨_, _, _, _, _, _⟩) (v := ?_) rfl (by as_aux_lemma => kernel_rfl) (by as_aux_lemma => kernel_rfl) (by as_aux_lemma => kernel_rfl) (fun _ _ _ h => h) (Or.inl ⟨by rfl, ?_⟩) (by assumption) ?_
                    rotate_left
                    · (intro w hSw; (try dsimp only at hSw); go_simp; try (with_reducible rfl))
                    try simp only [Act.put, List.setIfInBounds_toArray, List.set_cons_zero, List.set_cons_succ]
                    refine wpAnyH_take (i := 20) (oi := ⟨_, _, _, _, _, _⟩) (v := ?_) rfl (by as_aux_lemma => kernel_rfl) (by as_aux_lemma => kernel_rfl) (by as_aux_lemma => kernel_rfl) (fun _ _ _ h => h) (Or.inl ⟨by rfl, ?_⟩) (by assumption) ?_
                    rotate_left
                    · (intro w hSw; (try dsimp only at hSw); go_simp; try (with_reducible rfl))
                    try simp only [Act.put, List.setIfInBounds_toArray, List.set_cons_zero, List.set_cons_succ]
                    refine wpAnyH_take (i := 21) (oi := ⟨_, _, _, _, _, _⟩) (v := ?_) rfl (by as_aux_lemma => kernel_rfl) (by as_aux_lemma => kernel_rfl) (by as_aux_lemma => kernel_rfl) (fun _ _ _ h => h) (Or.inl ⟨by rfl, ?_⟩) (by assumption) ?_
                    rotate_left
                    · (intro w hSw; (try dsimp only at hSw); go_simp; try (with_reducible rfl))
                    try simp only [Act.put, List.setIfInBounds_toArray, List.set_cons_zero, List.set_cons_succ]
                    refine wpAnyH_take (i := 22) (oi := ⟨_, _, _, _, _, _⟩) (v := ?_) rfl (by as_aux_lemma => kernel_rfl) (by as_aux_lemma => kernel_rfl) (by as_aux_lemma => kernel_rfl) (fun _ _ _ h => h) (Or.inl ⟨by rfl, ?_⟩) (by assumption) ?_
                    rotate_left
                    · (intro w hSw; (try dsimp only at hSw); go_simp; try (with_reducible rfl))
                    try simp only [Act.put, List.setIfInBounds_toArray, List.set_cons_zero, List.set_cons_succ]
                    refine wpAnyH_take (i := 23) (oi := ⟨_, _, _, _, _, _⟩) (v := ?_) rfl (by as_aux_lemma => kernel_rfl) (by as_aux_lemma => kernel_rfl) (by as_aux_lemma => kernel_rfl) (fun _ _ _ h => h) (Or.inl ⟨by rfl, ?_⟩) (by assumption) ?_
                    rotate_left
                    · (intro w hSw; (try dsimp only at hSw); go_simp; try (with_reducible rfl))
                    try simp only [Act.put, List.setIfInBounds_toArray, List.set_cons_zero, List.set_cons_succ]
                    refine wpAnyH_take (i := 24) (oi := ⟨_, _, _, _, _, _⟩) (v := ?_) rfl (by as_aux_lemma => kernel_rfl) (by as_aux_lemma => kernel_rfl) (by as_aux_lemma => kernel_rfl) (fun _ _ _ h => h) (Or.inl ⟨by rfl, ?_⟩) (by assumption) ?_
                    rotate_left
                    · (intro w hSw; (try dsimp only at hSw); go_simp; try (with_reducible rfl))
                    try simp only [Act.put, List.setIfInBounds_toArray, List.set_cons_zero, List.set_cons_succ]
                    refine wpAnyH_take (i := 25) (oi := ⟨_, _, _, _, _, _⟩) (v := ?_) rfl (by as_aux_lemma => kernel_rfl) (by as_aux_lemma => kernel_rfl) (by as_aux_lemma => kernel_rfl) (fun _ _ _ h => h) (Or.inl ⟨by rfl, ?_⟩) (by assumption) ?_
                    rotate_left
                    · (intro w hSw; (try dsimp only at hSw); go_simp; try (with_reducible rfl))
                    try simp only [Act.put, List.setIfInBounds_toArray, List.set_cons_zero, List.set_cons_succ]
                    refine wpAnyH_take (i := 26) (oi := ⟨_, _, _, _, _, _⟩) (v := ?_) rfl (by as_aux_lemma => kernel_rfl) (by as_aux_lemma => kernel_rfl) (by as_aux_lemma => kernel_rfl) (fun _ _ _ h => h) (Or.inl ⟨by rfl, ?_⟩) (by assumption) ?_
                    rotate_left
                    · (intro w hSw; (try dsimp only at hSw); go_simp; try (with_reducible rfl))
                    try simp only [Act.put, List.setIfInBounds_toArray, List.set_cons_zero, List.set_cons_succ]
                    refine wpAnyH_take (i := 27) (oi := ⟨_, _, _, _, _, _⟩) (v := ?_) rfl (by as_aux_lemma => kernel_rfl) (by as_aux_lemma => kernel_rfl) (by as_aux_lemma => kernel_rfl) (fun _ _ _ h => h) (Or.inl ⟨by rfl, ?_⟩) (by assumption) ?_
                    rotate_left
                    · (intro w hSw; (try dsimp only at hSw); go_simp; try (with_reducible rfl))
                    try simp only [Act.put, List.setIfInBounds_toArray, List.set_cons_zero, List.set_cons_succ]
                    refine wpAnyH_take (i := 28) (oi := ⟨_, _, _, _, _, _⟩) (v := ?_) rfl (by as_aux_lemma => kernel_rfl) (by as_aux_lemma => kernel_rfl) (by as_aux_lemma => kernel_rfl) (fun _ _ _ h => h) (Or.inl ⟨by rfl, ?_⟩) (by assumption) ?_
                    rotate_left
                    · (intro w hSw; (try dsimp only at hSw); go_simp; try (with_reducible rfl))
                    try simp only [Act.put, List.setIfInBounds_toArray, List.set_cons_zero, List.set_cons_succ]
                    refine wpAnyH_take (i := 29) (oi := ⟨_, _, _, _, _, _⟩) (v := ?_) rfl (by as_aux_lemma => kernel_rfl) (by as_aux_lemma => kernel_rfl) (by as_aux_lemma => kernel_rfl) (fun _ _ _ h => h) (Or.inl ⟨by rfl, ?_⟩) (by assumption) ?_
                    rotate_left
                    · (intro w hSw; (try dsimp only at hSw); go_simp; try (with_reducible rfl))
                    try simp only [Act.put, List.setIfInBounds_toArray, List.set_cons_zero, List.set_cons_succ]
                    refine wpAnyH_ready (rs := [30]) (by as_aux_lemma => kernel_rfl) (by simp) ?_
                    refine AllReadyH.cons (o := ⟨_, _, _, _, _, _⟩) rfl (fun K hK => ?_) AllReadyH.nil
                    go_simp
                    go_at_call 119; refine (markNodes_any (p) (i) _ (by omega) (by omega) (by omega) (by omega)).mono ?_; rintro e w2 ⟨rfl, hb2⟩
                    refine hK.out _ _ ?_ (fun hHeld2 => ?_)
                    · exact ⟨cel_keep hb2 hHeld1.1, cel_keep hb2 hHeld1.2.1, cel_keep hb2 hHeld1.2.2.1, cel_keep hb2 hHeld1.2.2.2.1, cel_keep hb2 hHeld1.2.2.2.2.1, cel_keep hb2 hHeld1.2.2.2.2.2.1, cel_keep hb2 hHeld1.2.2.2.2.2.2.1, cel_keep hb2 hHeld1.2.2.2.2.2.2.2.1, cel_keep hb2 hHeld1.2.2.2.2.2.2.2.2.1, cel_keep hb2 hHeld1.2.2.2.2.2.2.2.2.2⟩
                    clear hK K
                    try simp only [Act.put, List.setIfInBounds_toArray, List.set_cons_zero, List.set_cons_succ]
                    refine wpAnyH_take (i := 31) (oi := ⟨_, _, _, _, _, _⟩) (v := .bool true) rfl (by as_aux_lemma => kernel_rfl) (by as_aux_lemma => kernel_rfl) (by as_aux_lemma => kernel_rfl) (fun _ _ _ h => h) (Or.inl ⟨by rfl, fun w _ => exec_eql _ _ _ _ rfl _ _ _ w rfl rfl eqgM_Nodes (hE w)⟩) (by assumption) ?_
                    try simp only [Act.put, List.setIfInBounds_toArray, List.set_cons_zero, List.set_cons_succ]
                    refine wpAnyH_take (i := 32) (oi := ⟨_, _, _, _, _, _⟩) (v := ?_) rfl (by as_aux_lemma => kernel_rfl) (by as_aux_lemma => kernel_rfl) (by as_aux_lemma => kernel_rfl) (fun _ _ _ h => h) (Or.inl ⟨by rfl, ?_⟩) (by assumption) ?_
                    rotate_left
                    · (intro w hSw; (try dsimp only at hSw); go_simp; try (with_reducible rfl))
                    try simp only [Act.put, List.setIfInBounds_toArray, List.set_cons_zero, List.set_cons_succ]
                    refine wpAnyH_take (i := 33) (oi := ⟨_, _, _, _, _, _⟩) (v := ?_) rfl (by as_aux_lemma => kernel_rfl) (by as_aux_lemma => kernel_rfl) (by as_aux_lemma => kernel_rfl) (fun _ _ _ h => h) (Or.inl ⟨by rfl, ?_⟩) (by assumption) ?_
                    rotate_left
                    · (intro w hSw; (try dsimp only at hSw); go_simp; try (with_reducible rfl))
                    try simp only [Act.put, List.setIfInBounds_toArray, List.set_cons_zero, List.set_cons_succ]
                    refine wpAnyH_take (i := 34) (oi := ⟨_, _, _, _, _, _⟩) (v := ?_) rfl (by as_aux_lemma => kernel_rfl) (by as_aux_lemma => kernel_rfl) (by as_aux_lemma => kernel_rfl) (fun _ _ _ h => h) (Or.inl ⟨by rfl, ?_⟩) (by assumption) ?_
                    rotate_left
                    · (intro w hSw; (try dsimp only at hSw); go_simp; try (with_reducible rfl))
                    try simp only [Act.put, List.setIfInBounds_toArray, List.set_cons_zero, List.set_cons_succ]
                    refine wpAnyH_done (by as_aux_lemma => kernel_rfl) ?_ _
                    refine NoPanic.normal ?_
                    have hS : Below wr.heap.size wr w2 := bel_step (bel_drew hb1) hb2
                    have M5 := Kept.mk (M4.out.below HC.out hS)
                    have G5 := Kept.mk (G4.out.below hS)
                    clear hS hb1
                    go_wp2
                    go_roundw
                    case rel => exact ⟨i + 1, by omega, by go_num, M5.out, G5.out⟩
                    case measure => simp [intOf]; omega
                  · as_aux_lemma =>
                    have i4 : decide ((i : Int) < ((c.ns p : Nat) : Int)) = false := decide_eq_false (by omega)
                    go_wp2_with (fail)
                    refine wp_region_noPanic ?_
                    refine wp_region_held_drew (S := fun wx => wx.cell? ⟨B, p, none⟩ = some (.slice A (c.ns p) cc) ∧ wx.cell? ⟨G, p, none⟩ = some (.slice (some ⟨g2, 0, none⟩) (c.ns p + 64) c2) ∧ wx.cell? ⟨g2, i * 4, none⟩ = some (.int .u8 0) ∧ wx.cell? ⟨g2, i * 4 + 1, none⟩ = some (.string ⟨#[]⟩) ∧ wx.cell? ⟨g2, i * 4 + 2, none⟩ = some (.string ⟨#[]⟩) ∧ wx.cell? ⟨g2, i * 4 + 3, none⟩ = some (.int .i64 (mkI p i))) (by as_aux_lemma => kernel_rfl) ⟨l1, l3, q0, q1, q2, q3⟩ (fun hHeld => ?_)
                    refine wpAnyH_take (i := 0) (oi := ⟨_, _, _, _, _, _⟩) (v := ?_) rfl (by as_aux_lemma => kernel_rfl) (by as_aux_lemma => kernel_rfl) (by as_aux_lemma => kernel_rfl) (fun _ _ _ h => h) (Or.inl ⟨by rfl, ?_⟩) (by assumption) ?_
                    rotate_left
                    · (intro w hSw; (try dsimp only at hSw); go_simp; try (with_reducible rfl))
                    try simp only [Act.put, List.setIfInBounds_toArray, List.set_cons_zero, List.set_cons_succ]
                    refine wpAnyH_take (i := 1) (oi := ⟨_, _, _, _, _, _⟩) (v := ?_) rfl (by as_aux_lemma => kernel_rfl) (by as_aux_lemma => kernel_rfl) (by as_aux_lemma => kernel_rfl) (fun _ _ _ h => h) (Or.inl ⟨by rfl, ?_⟩) (by assumption) ?_
                    rotate_left
                    · (intro w hSw; (try dsimp only at hSw); go_simp; try (with_reducible rfl))
                    try simp only [Act.put, List.setIfInBounds_toArray, List.set_cons_zero, List.set_cons_succ]
                    refine wpAnyH_take (i := 2) (oi := ⟨_, _, _, _, _, _⟩) (v := ?_) rfl (by as_aux_lemma => kernel_rfl) (by as_aux_lemma => kernel_rfl) (by as_aux_lemma => kernel_rfl) (fun _ _ _ h => h) (Or.inl ⟨by rfl, ?_⟩) (by assumption) ?_
                    rotate_left
                    · (intro w hSw; (try dsimp only at hSw); go_simp; try (with_reducible rfl))
                    try simp only [Act.put, List.setIfInBounds_toArray, List.set_cons_zero, List.set_cons_succ]
                    refine wpAnyH_take (i := 3) (oi := ⟨_, _, _, _, _, _⟩) (v := ?_) rfl (by as_aux_lemma => kernel_rfl) (by as_aux_lemma => kernel_rfl) (by as_aux_lemma => kernel_rfl) (fun _ _ _ h => h) (Or.inl ⟨by rfl, ?_⟩) (by assumption) ?_
                    rotate_left
                    · (intro w hSw; (try dsimp only at hSw); go_simp; try (with_reducible rfl))
                    try simp only [Act.put, List.setIfInBounds_toArray, List.set_cons_zero, List.set_cons_succ]
                    refine wpAnyH_take (i := 4) (oi := ⟨_, _, _, _, _, _⟩) (v := ?_) rfl (by as_aux_lemma => kernel_rfl) (by as_aux_lemma => kernel_rfl) (by as_aux_lemma => kernel_rfl) (fun _ _ _ h => h) (Or.inl ⟨by rfl, ?_⟩) (by assumption) ?_
                    rotate_left
                    · (intro w hSw; (try dsimp only at hSw); go_simp; try (with_reducible rfl))
                    try simp only [Act.put, List.setIfInBounds_toArray, List.set_cons_zero, List.set_cons_succ]
                    refine wpAnyH_take (i := 5) (oi := ⟨_, _, _, _, _, _⟩) (v := ?_) rfl (by as_aux_lemma => kernel_rfl) (by as_aux_lemma => kernel_rfl) (by as_aux_lemma => kernel_rfl) (fun _ _ _ h => h) (Or.inl ⟨by rfl, ?_⟩) (by assumption) ?_
                    rotate_left
                    · (intro w hSw; (try dsimp only at hSw); go_simp; try (with_reducible rfl))
                    try simp only [Act.put, List.setIfInBounds_toArray, List.set_cons_zero, List.set_cons_succ]
                    refine wpAnyH_take (i := 6) (oi := ⟨_, _, _, _, _, _⟩) (v := ?_) rfl (by as_aux_lemma => kernel_rfl) (by as_aux_lemma => kernel_rfl) (by as_aux_lemma => kernel_rfl) (fun _ _ _ h => h) (Or.inl ⟨by rfl, ?_⟩) (by assumption) ?_
                    rotate_left
                    · (intro w hSw; (try dsimp only at hSw); go_simp; try (with_reducible rfl))
                    try simp only [Act.put, List.setIfInBounds_toArray, List.set_cons_zero, List.set_cons_succ]
                    refine wpAnyH_take (i := 7) (oi := ⟨_, _, _, _, _, _⟩) (v := ?_) rfl (by as_aux_lemma => kernel_rfl) (by as_aux_lemma => kernel_rfl) (by as_aux_lemma => kernel_rfl) (fun _ _ _ h => h) (Or.inl ⟨by rfl, ?_⟩) (by assumption) ?_
                    rotate_left
                    · (intro w hSw; (try dsimp only at hSw); go_simp; try (with_reducible rfl))
                    try simp only [Act.put, List.setIfInBounds_toArray, List.set_cons_zero, List.set_cons_succ]
                    refine wpAnyH_take (i := 8) (oi := ⟨_, _, _, _, _, _⟩) (v := ?_) rfl (by as_aux_lemma => kernel_rfl) (by as_aux_lemma => kernel_rfl) (by as_aux_lemma => kernel_rfl) (fun _ _ _ h => h) (Or.inl ⟨by rfl, ?_⟩) (by assumption) ?_
                    rotate_left
                    · (intro w hSw; (try dsimp only at hSw); go_simp; try (with_reducible rfl))
                    try simp only [Act.put, List.setIfInBounds_toArray, List.set_cons_zero, List.set_cons_succ]
                    refine wpAnyH_ready (rs := [9]) (by as_aux_lemma => kernel_rfl) (by simp) ?_
                    refine AllReadyH.cons (o := ⟨_, _, _, _, _, _⟩) rfl (fun K hK => ?_) AllReadyH.nil
                    go_simp
                    go_at_call 119; refine (markNodes_any (p) (i) _ (by omega) (by omega) (by omega) (by omega)).mono ?_; rintro e w1 ⟨rfl, hb1⟩
                    refine hK.out _ _ ?_ (fun hHeld1 => ?_)
                    · exact ⟨cel_keep (bel_drew hb1) l1, cel_keep (bel_drew hb1) l3, cel_keep (bel_drew hb1) q0, cel_keep (bel_drew hb1) q1, cel_keep (bel_drew hb1) q2, cel_keep (bel_drew hb1) q3⟩
                    clear hK K
                    try simp only [Act.put, List.setIfInBounds_toArray, List.set_cons_zero, List.set_cons_succ]
                    refine wpAnyH_take (i := 10) (oi := ⟨_, _, _, _, _, _⟩) (v := .bool true) rfl (by as_aux_lemma => kernel_rfl) (by as_aux_lemma => kernel_rfl) (by as_aux_lemma => kernel_rfl) (fun _ _ _ h => h) (Or.inl ⟨by rfl, fun w _ => exec_eql _ _ _ _ rfl _ _ _ w rfl rfl eqgM_Nodes (hE w)⟩) (by assumption) ?_
                    try simp only [Act.put, List.setIfInBounds_toArray, List.set_cons_zero, List.set_cons_succ]
                    refine wpAnyH_take (i := 11) (oi := ⟨_, _, _, _, _, _⟩) (v := ?_) rfl (by as_aux_lemma => kernel_rfl) (by as_aux_lemma => kernel_rfl) (by as_aux_lemma => kernel_rfl) (fun _ _ _ h => h) (Or.inl ⟨by rfl, ?_⟩) (by assumption) ?_
                    rotate_left
                    · (intro w hSw; (try dsimp only at hSw); go_simp; try (with_reducible rfl))
                    try simp only [Act.put, List.setIfInBounds_toArray, List.set_cons_zero, List.set_cons_succ]
                    refine wpAnyH_take (i := 12) (oi := ⟨_, _, _, _, _, _⟩) (v := ?_) rfl (by as_aux_lemma => kernel_rfl) (by as_aux_lemma => kernel_rfl) (by as_aux_lemma => kernel_rfl) (fun _ _ _ h => h) (Or.inl ⟨by rfl, ?_⟩) (by assumption) ?_
                    rotate_left
                    · (intro w hSw; (try dsimp only at hSw); go_simp; try (with_reducible rfl))
                    try simp only [Act.put, List.setIfInBounds_toArray, List.set_cons_zero, List.set_cons_succ]
                    refine wpAnyH_take (i := 13) (oi := ⟨_, _, _, _, _, _⟩) (v := ?_) rfl (by as_aux_lemma => kernel_rfl) (by as_aux_lemma => kernel_rfl) (by as_aux_lemma => kernel_rfl) (fun _ _ _ h => h) (Or.inl ⟨by rfl, ?_⟩) (by assumption) ?_
                    rotate_left
                    · (intro w hSw; (try dsimp only at hSw); go_simp; try (with_reducible rfl))
                    try simp only [Act.put, List.setIfInBounds_toArray, List.set_cons_zero, List.set_cons_succ]
                    refine wpAnyH_take (i := 14) (oi := ⟨_, _, _, _, _, _⟩) (v := ?_) rfl (by as_aux_lemma => kernel_rfl) (by as_aux_lemma => kernel_rfl) (by as_aux_lemma => kernel_rfl) (fun _ _ _ h => h) (Or.inl ⟨by rfl, ?_⟩) (by assumption) ?_
                    rotate_left
                    · (intro w hSw; (try dsimp only at hSw); go_simp; try (with_reducible rfl))
                    try simp only [Act.put, List.setIfInBounds_toArray, List.set_cons_zero, List.set_cons_succ]
                    refine wpAnyH_take (i := 15) (oi := ⟨_, _, _, _, _, _⟩) (v := ?_) rfl (by as_aux_lemma => kernel_rfl) (by as_aux_lemma => kernel_rfl) (by as_aux_lemma => kernel_rfl) (fun _ _ _ h => h) (Or.inl ⟨by rfl, ?_⟩) (by assumption) ?_
                    rotate_left
                    · (intro w hSw; (try dsimp only at hSw); go_simp; try (with_reducible rfl))
                    try simp only [Act.put, List.setIfInBounds_toArray, List.set_cons_zero, List.set_cons_succ]
                    refine wpAnyH_take (i := 16) (oi := ⟨_, _, _, _, _, _⟩) (v := ?_) rfl (by as_aux_lemma => kernel_rfl) (by as_aux_lemma => kernel_rfl) (by as_aux_lemma => kernel_rfl) (fun _ _ _ h => h) (Or.inl ⟨by rfl, ?_⟩) (by assumption) ?_
                    rotate_left
                    · (intro w hSw; (try dsimp only at hSw); go_simp; try (with_reducible rfl))
                    try simp only [Act.put, List.setIfInBounds_toArray, List.set_cons_zero, List.set_cons_succ]
                    refine wpAnyH_take (i := 17) (oi := ⟨_, _, _, _, _, _⟩) (v := ?_) rfl (by as_aux_lemma => kernel_rfl) (by as_aux_lemma => kernel_rfl) (by as_aux_lemma => kernel_rfl) (fun _ _ _ h => h) (Or.inl ⟨by rfl, ?_⟩) (by assumption) ?_
                    rotate_left
                    · (intro w hSw; (try dsimp only at hSw); go_simp; try (with_reducible rfl))
                    try simp only [Act.put, List.setIfInBounds_toArray, List.set_cons_zero, List.set_cons_succ]
                    refine wpAnyH_take (i := 18) (oi := ⟨_, _, _, _, _, _⟩) (v := ?_) rfl (by as_aux_lemma => kernel_rfl) (by as_aux_lemma => kernel_rfl) (by as_aux_lemma => kernel_rfl) (fun _ _ _ h => h) (Or.inl ⟨by rfl, ?_⟩) (by assumption) ?_
                    rotate_left
                    · (intro w hSw; (try dsimp only at hSw); go_simp; try (with_reducible rfl))
                    try simp only [Act.put, List.setIfInBounds_toArray, List.set_cons_zero, List.set_cons_succ]
                    refine wpAnyH_take (i := 19) (oi := ⟨_, _, _, _, _, _⟩) (v := ?_) rfl (by as_aux_lemma => kernel_rfl) (by as_aux_lemma => kernel_rfl) (by as_aux_lemma => kernel_rfl) (fun _ _ _ h => h) (Or.inl ⟨by rfl, ?_⟩) (by assumption) ?_
                    rotate_left
                    · (intro w hSw; (try dsimp only at hSw); go_simp; try (with_reducible rfl))
                    try simp only [Act.put, List.setIfInBounds_toArray, List.set_cons_zero, List.set_cons_succ]
                    refine wpAnyH_take (i := 20) (oi := ⟨_, _, _, _, _, _⟩) (v := ?_) rfl (by as_aux_lemma => kernel_rfl) (by as_aux_lemma => kernel_rfl) (by as_aux_lemma => kernel_rfl) (fun _ _ _ h => h) (Or.inl ⟨by rfl, ?_⟩) (by assumption) ?_
                    rotate_left
                    · (intro w hSw; (try dsimp only at hSw); go_simp; try (with_reducible rfl))
                    try simp only [Act.put, List.setIfInBounds_toArray, List.set_cons_zero, List.set_cons_succ]
                    refine wpAnyH_take (i := 21) (oi := ⟨_, _, _, _, _, _⟩) (v := undef) rfl (by as_aux_lemma => kernel_rfl) (by as_aux_lemma => kernel_rfl) (by as_aux_lemma => kernel_rfl) (fun _ _ _ h => h) (Or.inr ⟨by rfl, rfl⟩) (by assumption) ?_
                    try simp only [Act.put, List.setIfInBounds_toArray, List.set_cons_zero, List.set_cons_succ]
                    refine wpAnyH_take (i := 22) (oi := ⟨_, _, _, _, _, _⟩) (v := undef) rfl (by as_aux_lemma => kernel_rfl) (by as_aux_lemma => kernel_rfl) (by as_aux_lemma => kernel_rfl) (fun _ _ _ h => h) (Or.inr ⟨by rfl, rfl⟩) (by assumption) ?_
                    try simp only [Act.put, List.setIfInBounds_toArray, List.set_cons_zero, List.set_cons_succ]
                    refine wpAnyH_take (i := 23) (oi := ⟨_, _, _, _, _, _⟩) (v := undef) rfl (by as_aux_lemma => kernel_rfl) (by as_aux_lemma => kernel_rfl) (by as_aux_lemma => kernel_rfl) (fun _ _ _ h => h) (Or.inr ⟨by rfl, rfl⟩) (by assumption) ?_
                    try simp only [Act.put, List.setIfInBounds_toArray, List.set_cons_zero, List.set_cons_succ]
                    refine wpAnyH_take (i := 24) (oi := ⟨_, _, _, _, _, _⟩) (v := undef) rfl (by as_aux_lemma => kernel_rfl) (by as_aux_lemma => kernel_rfl) (by as_aux_lemma => kernel_rfl) (fun _ _ _ h => h) (Or.inr ⟨by rfl, rfl⟩) (by assumption) ?_
                    try simp only [Act.put, List.setIfInBounds_toArray, List.set_cons_zero, List.set_cons_succ]
                    refine wpAnyH_take (i := 25) (oi := ⟨_, _, _, _, _, _⟩) (v := undef) rfl (by as_aux_lemma => kernel_rfl) (by as_aux_lemma => kernel_rfl) (by as_aux_lemma => kernel_rfl) (fun _ _ _ h => h) (Or.inr ⟨by rfl, rfl⟩) (by assumption) ?_
                    try simp only [Act.put, List.setIfInBounds_toArray, List.set_cons_zero, List.set_cons_succ]
                    refine wpAnyH_take (i := 26) (oi := ⟨_, _, _, _, _, _⟩) (v := undef) rfl (by as_aux_lemma => kernel_rfl) (by as_aux_lemma => kernel_rfl) (by as_aux_lemma => kernel_rfl) (fun _ _ _ h => h) (Or.inr ⟨by rfl, rfl⟩) (by assumption) ?_
                    try simp only [Act.put, List.setIfInBounds_toArray, List.set_cons_zero, List.set_cons_succ]
                    refine wpAnyH_take (i := 27) (oi := ⟨_, _, _, _, _, _⟩) (v := undef) rfl (by as_aux_lemma => kernel_rfl) (by as_aux_lemma => kernel_rfl) (by as_aux_lemma => kernel_rfl) (fun _ _ _ h => h) (Or.inr ⟨by rfl, rfl⟩) (by assumption) ?_
                    try simp only [Act.put, List.setIfInBounds_toArray, List.set_cons_zero, List.set_cons_succ]
                    refine wpAnyH_take (i := 28) (oi := ⟨_, _, _, _, _, _⟩) (v := undef) rfl (by as_aux_lemma => kernel_rfl) (by as_aux_lemma => kernel_rfl) (by as_aux_lemma => kernel_rfl) (fun _ _ _ h => h) (Or.inr ⟨by rfl, rfl⟩) (by assumption) ?_
                    try simp only [Act.put, List.setIfInBounds_toArray, List.set_cons_zero, List.set_cons_succ]
                    refine wpAnyH_take (i := 29) (oi := ⟨_, _, _, _, _, _⟩) (v := undef) rfl (by as_aux_lemma => kernel_rfl) (by as_aux_lemma => kernel_rfl) (by as_aux_lemma => kernel_rfl) (fun _ _ _ h => h) (Or.inr ⟨by rfl, rfl⟩) (by assumption) ?_
                    try simp only [Act.put, List.setIfInBounds_toArray, List.set_cons_zero, List.set_cons_succ]
                    refine wpAnyH_take (i := 30) (oi := ⟨_, _, _, _, _, _⟩) (v := undef) rfl (by as_aux_lemma => kernel_rfl) (by as_aux_lemma => kernel_rfl) (by as_aux_lemma => kernel_rfl) (fun _ _ _ h => h) (Or.inr ⟨by rfl, rfl⟩) (by assumption) ?_
                    try simp only [Act.put, List.setIfInBounds_toArray, List.set_cons_zero, List.set_cons_succ]
                    refine wpAnyH_take (i := 31) (oi := ⟨_, _, _, _, _, _⟩) (v := undef) rfl (by as_aux_lemma => kernel_rfl) (by as_aux_lemma => kernel_rfl) (by as_aux_lemma => kernel_rfl) (fun _ _ _ h => h) (Or.inr ⟨by rfl, rfl⟩) (by assumption) ?_
                    try simp only [Act.put, List.setIfInBounds_toArray, List.set_cons_zero, List.set_cons_succ]
                    refine wpAnyH_take (i := 32) (oi := ⟨_, _, _, _, _, _⟩) (v := undef) rfl (by as_aux_lemma => kernel_rfl) (by as_aux_lemma => kernel_rfl) (by as_aux_lemma => kernel_rfl) (fun _ _ _ h => h) (Or.inr ⟨by rfl, rfl⟩) (by assumption) ?_
                    try simp only [Act.put, List.setIfInBounds_toArray, List.set_cons_zero, List.set_cons_succ]
                    refine wpAnyH_take (i := 33) (oi := ⟨_, _, _, _, _, _⟩) (v := ?_) rfl (by as_aux_lemma => kernel_rfl) (by as_aux_lemma => kernel_rfl) (by as_aux_lemma => kernel_rfl) (fun _ _ _ h => h) (Or.inl ⟨by rfl, ?_⟩) (by assumption) ?_
                    rotate_left
                    · (intro w hSw; (try dsimp only at hSw); go_simp; try (with_reducible rfl))
                    try simp only [Act.put, List.setIfInBounds_toArray, List.set_cons_zero, List.set_cons_succ]
                    refine wpAnyH_take (i := 34) (oi := ⟨_, _, _, _, _, _⟩) (v := ?_) rfl (by as_aux_lemma => kernel_rfl) (by as_aux_lemma => kernel_rfl) (by as_aux_lemma => kernel_rfl) (fun _ _ _ h => h) (Or.inl ⟨by rfl, ?_⟩) (by assumption) ?_
                    rotate_left
                    · (intro w hSw; (try dsimp only at hSw); go_simp; try (with_reducible rfl))
                    try simp only [Act.put, List.setIfInBounds_toArray, List.set_cons_zero, List.set_cons_succ]
                    refine wpAnyH_done (by as_aux_lemma => kernel_rfl) ?_ _
                    refine NoPanic.normal ?_
                    have hS : Below wr.heap.size wr w1 := bel_drew hb1
                    have M5 := Kept.mk (M4.out.below HC.out hS)
                    have G5 := Kept.mk (G4.out.below hS)
                    clear hS hb1
                    go_wp2
                    go_roundw
                    case rel => exact ⟨i + 1, by omega, by go_num, M5.out, G5.out⟩
                    case measure => simp [intOf]; omega
                · obtain rfl : i = c.ns p + 64 := by omega
                  go_wp2
                  go_roundw
                  case rel => exact ⟨p + 1, by omega, by go_num, M4.out, G4.out⟩
                  case measure => simp [intOf]; omega
            · obtain rfl : k = p := by omega
              have G4 := Kept.mk (G3.out.reset (m' := 64) (ys' := fun j => marks c.mq j (c.ns j) ++ marks c.mq (j + k) 64))
              clear G3
              -- MARK4
              go_wp2
              go_loopw [11] (fun n wx => ∃ (n' : Nat) (us : List Value), n' ≤ k ∧ n = .int .i64 n' ∧ Mar c wx ∧ Gs c G us n' 64 (fun j => marks c.mq j (c.ns j) ++ marks c.mq (j + k) 64) wx) (fun n _ => k - (intOf n).toNat)
              case atStart => exact ⟨0, _, by omega, rfl, M3.out, G4.out⟩
              case round =>
                obtain ⟨n, us, hnk, rfl, hM, hG⟩ := hrel
                have M3 := Kept.mk hM
                have G3 := Kept.mk hG
                clear hM hG
                by_cases hlt : n < k
                · obtain ⟨v, hv⟩ := M3.out.1.get (j := n) (by rw [HK.out]; exact hlt)
                  obtain ⟨A, cc, rfl, _⟩ := own_slice (M3.out.2 n v hv)
                  have HV := Kept.mk hv
                  have hnn := HN.out n
                  have l0 : wr.cell? ⟨B, n, none⟩ = some (.slice A (c.ns n) cc) := LS.out _ _ _ M3.out.1 hv
                  have i0 : (0 : Int) ≤ (n : Int) := by omega
                  have i1 : (n : Int) < (k : Int) := by omega
                  have hlow : B0 ≤ wr.heap.size := by have h1 := M3.out.1.1.size; rw [HW.out] at h1; exact Nat.le_trans hB0 h1
                  have FR := Kept.mk (Free.new HC.out M3.out G3.out)
                  clear hv
                  obtain ⟨wo, rfl⟩ : ∃ wo : World, wo = wr := ⟨_, rfl⟩
                  go_wp2_with (at_make; refine wpList_make_full _ rfl _ _ 23 rfl B0 39 iE (.agg #[.int .u8 0, .string ⟨#[]⟩, .string ⟨#[]⟩, .int .i64 0]) 4 Tryz.underlying23 hiE hzE hsE .i64 .i64 _ _ 64 (by rfl) (by rfl) (by rfl) (by rfl) (by rw [hbE]; omega) (by decide) hlow ?_; intro w2 hown2 hgrow2; have hb2 := below_of_grown hgrow2; have M4 := Kept.mk (M3.out.below HC.out hb2); have G4 := Kept.mk (G3.out.below hb2); have O4 := Kept.mk hown2; clear hown2 hgrow2 hb2)
                  obtain ⟨X, hXe⟩ : ∃ X, X = wo.heap.size := ⟨_, rfl⟩
                  rw [← hXe] at FR O4 ⊢
                  clear hXe hlow l0
                  have hlen : ∀ k i, (c.mq k i).length = 4 := fun a b => by rw [HM.out]; rfl
                  go_wp2
                  go_loopw [13] (fun i wx => ∃ i' : Nat, i' ≤ 64 ∧ i = .int .i64 i' ∧ Mar c wx ∧ Gs c G us n 64 (fun j => marks c.mq j (c.ns j) ++ marks c.mq (j + k) 64) wx ∧ ∃ rest, wx.ownsRow B0 39 4 (.slice (some ⟨X, 0, none⟩) 64 64) 64 (marks c.mq (n + k) i' ++ rest)) (fun i _ => 64 - (intOf i).toNat)
                  case atStart => exact ⟨0, by omega, rfl, M4.out, G4.out, _, O4.out⟩
                  case round =>
                    obtain ⟨i, hi, rfl, hM, hG, rest, hO⟩ := hrel
                    have M5 := Kept.mk hM
                    have G5 := Kept.mk hG
                    have O5 := Kept.mk hO
                    have l1 : wr.cell? ⟨B, n, none⟩ = some (.slice A (c.ns n) cc) := LS.out _ _ _ hM.1 HV.out
                    clear hM hG hO
                    by_cases hlt2 : i < 64
                    · as_aux_lemma =>
                      have i2 : (0 : Int) ≤ (i : Int) := by omega
                      have i3 : (i : Int) < 64 := by omega
                      go_wp2_with (fail)
                      refine (markNodes_any ((n : Int) + k) (i) _ (by omega) (by omega) (by omega) (by omega)).mono ?_; rintro e w1 ⟨rfl, hb1⟩
                      have M6 := Kept.mk (M5.out.below HC.out hb1)
                      have G6 := Kept.mk (G5.out.below hb1)
                      have O6 := Kept.mk (own_below O5.out hb1)
                      have hcl := fun j (hj : j < 4) => own_at O6.out (i * 4 + j) _ (List.getElem?_eq_getElem (by have h1 := O6.out.1; omega))
                      obtain ⟨y0, z0⟩ : ∃ y, w1.cell? ⟨X, i * 4 + 0, none⟩ = some y := ⟨_, hcl 0 (by omega)⟩
                      have f0 : w1.frozen? ⟨X, i * 4, none⟩ = false := own_unfrozen O6.out _
                      obtain ⟨y1, z1⟩ : ∃ y, w1.cell? ⟨X, i * 4 + 1, none⟩ = some y := ⟨_, hcl 1 (by omega)⟩
                      have f1 : w1.frozen? ⟨X, i * 4 + 1, none⟩ = false := own_unfrozen O6.out _
                      obtain ⟨y2, z2⟩ : ∃ y, w1.cell? ⟨X, i * 4 + 2, none⟩ = some y := ⟨_, hcl 2 (by omega)⟩
                      have f2 : w1.frozen? ⟨X, i * 4 + 2, none⟩ = false := own_unfrozen O6.out _
                      obtain ⟨y3, z3⟩ : ∃ y, w1.cell? ⟨X, i * 4 + 3, none⟩ = some y := ⟨_, hcl 3 (by omega)⟩
                      have f3 : w1.frozen? ⟨X, i * 4 + 3, none⟩ = false := own_unfrozen O6.out _
                      clear hcl hb1
                      simp only [Nat.add_zero] at z0 z1 z2 z3
                      have hst := FR.out.store M6.out G6.out (i * 4) (c.mq (n + k) i)
                      have hms := many_store hlen hlt2 O6.out
                      have hq : c.mq (n + k) i = [.int .u8 0, .string ⟨#[]⟩, .string ⟨#[]⟩, .int .i64 (mkI ((n : Int) + k) i)] := by rw [HM.out]; rfl
                      rw [hq] at hst hms
                      have ST := Kept.mk hst
                      have MS := Kept.mk hms
                      clear hst hms hq
                      go_wp2_with (fail)
                      go_roundw
                      case rel => exact ⟨i + 1, by omega, by go_num, ST.out.1, ST.out.2, MS.out⟩
                      case measure => simp [intOf]; omega
                    · as_aux_lemma =>
                      obtain rfl : i = 64 := by omega
                      have hnews := many_done O5.out
                      have HNW := Kept.mk hnews
                      have N5 := Kept.mk (Now.first HC.out G5.out HV.out)
                      have U5 := Kept.mk (M5.out.2 n _ HV.out)
                      have U6 : Kept (wr.ownsRow B0 39 4 (.slice A (c.ns n) cc) (c.ns n) (marks c.mq n (c.ns n))) := ⟨by have h := U5.out; rw [HB0.out, HE.out, HZ.out] at h; exact h⟩
                      have hl5 : B0 ≤ wr.heap.size := by have h1 := M5.out.1.1.size; rw [HW.out] at h1; exact Nat.le_trans hB0 h1
                      have hone : Kept (∀ u ∈ marks c.mq (n + k) 64, u.oneCell' = true) := ⟨by rw [HM.out]; exact oneNodes 64 (n + k)⟩
                      have hml : Kept ((marks c.mq (n + k) 64).length = 64 * 4) := ⟨marks_length hlen _ _⟩
                      clear hnews hlen
                      go_wp2_with (at_builtin; refine wpList_append_share _ rfl (.tmp 148) (.tmp 149) 23 rfl B0 39 iE (.agg #[.int .u8 0, .string ⟨#[]⟩, .string ⟨#[]⟩, .int .i64 0]) 4 48 Tryz.underlying23 hiE hzE hsE hbE rfl (by decide) (.slice A (c.ns n) cc) (c.ns n) (marks c.mq n (c.ns n)) (by rfl) U6.out ⟨X, 0, none⟩ 64 64 (marks c.mq (n + k) 64) (by rfl) hml.out HNW.out hone.out (by unfold maxLen; omega) (by omega) hl5 ?_; intro v5 w5 hown5 hgrow5 hat5 hsh5; have hX := gather HC.out M5.out G5.out N5.out U5.out (Nat.le_refl _) hgrow5 hat5 (by rw [HE.out, HZ.out]; exact hsh5); have hY : w5.ownsRow c.B0 c.E c.sz v5 (c.ns n + 64) (marks c.mq n (c.ns n) ++ marks c.mq (n + k) 64) := (by rw [HB0.out, HE.out, HZ.out]; exact hown5); obtain ⟨A7, c7, rfl, _⟩ := own_slice hY; obtain ⟨_, _, l2⟩ := hX.2.1.get (j := n) (by rw [HK.out]; exact hlt); have f2 : w5.frozen? ⟨G, n, none⟩ = false := own_unfrozen hX.2.1.own n; have hst := gs_store HC.out hX.1.1 hX.1.2 hX.2.1.lt.1 hX.2.1 hY hX.2.2; have ST := Kept.mk hst; clear hst hX hY hown5 hgrow5 hat5 hsh5)
                      go_roundw
                      case rel => exact ⟨n + 1, _, by omega, by go_num, ⟨ST.out.1, ST.out.2.1⟩, ST.out.2.2⟩
                      case measure => simp [intOf]; omega
                · obtain rfl : k = n := by omega
                  -- MARK5
                  go_wp2
                  go_loopw [14] (fun n wx => ∃ n' : Nat, n' ≤ k ∧ n = .int .i64 n' ∧ Mar c wx ∧ Gs c G us k 64 (fun j => marks c.mq j (c.ns j) ++ marks c.mq (j + k) 64) wx) (fun n _ => k - (intOf n).toNat)
                  case atStart => exact ⟨0, by omega, rfl, M3.out, G3.out⟩
                  case round =>
                    obtain ⟨p, hp, rfl, hM, hG⟩ := hrel
                    have M3 := Kept.mk hM
                    have G3 := Kept.mk hG
                    clear hM hG
                    by_cases hlt : p < k
                    · obtain ⟨v, hv⟩ := M3.out.1.get (j := p) (by rw [HK.out]; exact hlt)
                      obtain ⟨A, cc, rfl, _⟩ := own_slice (M3.out.2 p v hv)
                      obtain ⟨u, hu, l2⟩ := G3.out.get (j := p) (by rw [HK.out]; exact hlt)
                      obtain ⟨A2, c2, rfl, _⟩ := own_slice (G3.out.row p u hlt hu)
                      have HV := Kept.mk hv
                      have HU := Kept.mk hu
                      have hnn := HN.out p
                      have l0 : wr.cell? ⟨B, p, none⟩ = some (.slice A (c.ns p) cc) := LS.out _ _ _ M3.out.1 hv
                      have i0 : (0 : Int) ≤ (p : Int) := by omega
                      have i1 : (p : Int) < (k : Int) := by omega
                      clear hv hu
                      obtain ⟨wo, rfl⟩ : ∃ wo : World, wo = wr := ⟨_, rfl⟩
                      go_wp2
                      go_loopw [15] (fun i wx => ∃ i' : Nat, i' ≤ c.ns p ∧ i = .int .i64 i' ∧ Mar c wx ∧ Gs c G us k 64 (fun j => marks c.mq j (c.ns j) ++ marks c.mq (j + k) 64) wx) (fun i _ => c.ns p - (intOf i).toNat)
                      case atStart => exact ⟨0, by omega, rfl, M3.out, G3.out⟩
                      case round =>
                        obtain ⟨i, hi, rfl, hM, hG⟩ := hrel
                        have M4 := Kept.mk hM
                        have G4 := Kept.mk hG
                        have l1 : wr.cell? ⟨B, p, none⟩ = some (.slice A (c.ns p) cc) := LS.out _ _ _ hM.1 HV.out
                        have l3 : wr.cell? ⟨G, p, none⟩ = some (.slice A2 (c.ns p + 64) c2) := own_at hG.own p _ HU.out
                        clear hM hG l0 l2
                        by_cases hlt2 : i < c.ns p
                        · have hlen : ∀ k i, (c.mq k i).length = 4 := fun a b => by rw [HM.out]; rfl
                          have hrow := G4.out.row p _ hlt HU.out
                          rw [HZ.out] at hrow
                          obtain ⟨g2, c2', e, hq⟩ := row_cells (i := i) hlen hrow hlt2 (by omega)
                          cases e
                          rw [HM.out] at hq
                          have q0 : wr.cell? ⟨g2, i * 4, none⟩ = some (.int .u8 0) := hq 0 _ rfl
                          have q1 : wr.cell? ⟨g2, i * 4 + 1, none⟩ = some (.string ⟨#[]⟩) := hq 1 _ rfl
                          have q2 : wr.cell? ⟨g2, i * 4 + 2, none⟩ = some (.string ⟨#[]⟩) := hq 2 _ rfl
                          have q3 : wr.cell? ⟨g2, i * 4 + 3, none⟩ = some (.int .i64 (mkI p i)) := hq 3 _ rfl
                          clear hq hrow
                          have i2 : (0 : Int) ≤ (i : Int) := by omega
                          have i3 : (i : Int) < ((c.ns p + 64 : Nat) : Int) := by omega
                          have i5 : (i : Int) < ((c.ns p : Nat) : Int) + 64 := by omega
                          have hE := fun wx => eqlM_Nodes (mkI p i) wx
                          as_aux_lemma =>
                          have hin : i < c.ns p := hlt2
                          obtain ⟨g, cc', e, hr⟩ := row_cells (i := i) (ys := []) hlen (by rw [List.append_nil]; have := M4.out.2 p _ HV.out; rw [HZ.out] at this; exact this) hin (by omega)
                          cases e
                          rw [HM.out] at hr
                          have r0 : wr.cell? ⟨g, i * 4, none⟩ = some (.int .u8 0) := hr 0 _ rfl
                          have r1 : wr.cell? ⟨g, i * 4 + 1, none⟩ = some (.string ⟨#[]⟩) := hr 1 _ rfl
                          have r2 : wr.cell? ⟨g, i * 4 + 2, none⟩ = some (.string ⟨#[]⟩) := hr 2 _ rfl
                          have r3 : wr.cell? ⟨g, i * 4 + 3, none⟩ = some (.int .i64 (mkI p i)) := hr 3 _ rfl
                          clear hr
                          have i4 : (i : Int) < ((c.ns p : Nat) : Int) := by omega
                          go_wp2_with (fail)
                          refine wp_region_noPanic ?_
                          refine wp_region_held_drew (S := fun wx => wx.cell? ⟨B, p, none⟩ = some (.slice (some ⟨g, 0, none⟩) (c.ns p) cc) ∧ wx.cell? ⟨G, p, none⟩ = some (.slice (some ⟨g2, 0, none⟩) (c.ns p + 64) c2) ∧ wx.cell? ⟨g2, i * 4, none⟩ = some (.int .u8 0) ∧ wx.cell? ⟨g2, i * 4 + 1, none⟩ = some (.string ⟨#[]⟩) ∧ wx.cell? ⟨g2, i * 4 + 2, none⟩ = some (.string ⟨#[]⟩) ∧ wx.cell? ⟨g2, i * 4 + 3, none⟩ = some (.int .i64 (mkI p i)) ∧ wx.cell? ⟨g, i * 4, none⟩ = some (.int .u8 0) ∧ wx.cell? ⟨g, i * 4 + 1, none⟩ = some (.string ⟨#[]⟩) ∧ wx.cell? ⟨g, i * 4 + 2, none⟩ = some (.string ⟨#[]⟩) ∧ wx.cell? ⟨g, i * 4 + 3, none⟩ = some (.int .i64 (mkI p i))) (by as_aux_lemma => kernel_rfl) ⟨l1, l3, q0, q1, q2, q3, r0, r1, r2, r3⟩ (fun hHeld => ?_)
                          refine wpAnyH_take (i := 0) (oi := ⟨_, _, _, _, _, _⟩) (v := ?_) rfl (by as_aux_lemma => kernel_rfl) (by as_aux_lemma => kernel_rfl) (by as_aux_lemma => kernel_rfl) (fun _ _ _ h => h) (Or.inl ⟨by rfl, ?_⟩) (by assumption) ?_
                          rotate_left
                          · (intro w hSw; (try dsimp only at hSw); go_simp; try (with_reducible rfl))
                          try simp only [Act.put, List.setIfInBounds_toArray, List.set_cons_zero, List.set_cons_succ]
                          refine wpAnyH_take (i := 1) (oi := ⟨_, _, _, _, _, _⟩) (v := ?_) rfl (by as_aux_lemma => kernel_rfl) (by as_aux_lemma => kernel_rfl) (by as_aux_lemma => kernel_rfl) (fun _ _ _ h => h) (Or.inl ⟨by rfl, ?_⟩) (by assumption) ?_
                          rotate_left
                          · (intro w hSw; (try dsimp only at hSw); go_simp; try (with_reducible rfl))
                          try simp only [Act.put, List.setIfInBounds_toArray, List.set_cons_zero, List.set_cons_succ]
                          refine wpAnyH_take (i := 2) (oi := ⟨_, _, _, _, _, _⟩) (v := ?_) rfl (by as_aux_lemma => kernel_rfl) (by as_aux_lemma => kernel_rfl) (by as_aux_lemma => kernel_rfl) (fun _ _ _ h => h) (Or.inl ⟨by rfl, ?_⟩) (by assumption) ?_
                          rotate_left
                          · (intro w hSw; (try dsimp only at hSw); go_simp; try (with_reducible rfl))
                          try simp only [Act.put, List.setIfInBounds_toArray, List.set_cons_zero, List.set_cons_succ]
                          refine wpAnyH_take (i := 3) (oi := ⟨_, _, _, _, _, _⟩) (v := ?_) rfl (by as_aux_lemma => kernel_rfl) (by as_aux_lemma => kernel_rfl) (by as_aux_lemma => kernel_rfl) (fun _ _ _ h => h) (Or.inl ⟨by rfl, ?_⟩) (by assumption) ?_
                          rotate_left
                          · (intro w hSw; (try dsimp only at hSw); go_simp; try (with_reducible rfl))
                          try simp only [Act.put, List.setIfInBounds_toArray, List.set_cons_zero, List.set_cons_succ]
                          refine wpAnyH_take (i := 4) (oi := ⟨_, _, _, _, _, _⟩) (v := ?_) rfl (by as_aux_lemma => kernel_rfl) (by as_aux_lemma => kernel_rfl) (by as_aux_lemma => kernel_rfl) (fun _ _ _ h => h) (Or.inl ⟨by rfl, ?_⟩) (by assumption) ?_
                          rotate_left
                          · (intro w hSw; (try dsimp only at hSw); go_simp; try (with_reducible rfl))
                          try simp only [Act.put, List.setIfInBounds_toArray, List.set_cons_zero, List.set_cons_succ]
                          refine wpAnyH_take (i := 5) (oi := ⟨_, _, _, _, _, _⟩) (v := ?_) rfl (by as_aux_lemma => kernel_rfl) (by as_aux_lemma => kernel_rfl) (by as_aux_lemma => kernel_rfl) (fun _ _ _ h => h) (Or.inl ⟨by rfl, ?_⟩) (by assumption) ?_
                          rotate_left
                          · (intro w hSw; (try dsimp only at hSw); go_simp; try (with_reducible rfl))
                          try simp only [Act.put, List.setIfInBounds_toArray, List.set_cons_zero, List.set_cons_succ]
                          refine wpAnyH_take (i := 6) (oi := ⟨_, _, _, _, _, _⟩) (v := ?_) rfl (by as_aux_lemma => kernel_rfl) (by as_aux_lemma => kernel_rfl) (by as_aux_lemma => kernel_rfl) (fun _ _ _ h => h) (Or.inl ⟨by rfl, ?_⟩) (by assumption) ?_
                          rotate_left
                          · (intro w hSw; (try dsimp only at hSw); go_simp; try (with_reducible rfl))
                          try simp only [Act.put, List.setIfInBounds_toArray, List.set_cons_zero, List.set_cons_succ]
                          refine wpAnyH_take (i := 7) (oi := ⟨_, _, _, _, _, _⟩) (v := ?_) rfl (by as_aux_lemma => kernel_rfl) (by as_aux_lemma => kernel_rfl) (by as_aux_lemma => kernel_rfl) (fun _ _ _ h => h) (Or.inl ⟨by rfl, ?_⟩) (by assumption) ?_
                          rotate_left
                          · (intro w hSw; (try dsimp only at hSw); go_simp; try (with_reducible rfl))
                          try simp only [Act.put, List.setIfInBounds_toArray, List.set_cons_zero, List.set_cons_succ]
                          refine wpAnyH_take (i := 8) (oi := ⟨_, _, _, _, _, _⟩) (v := ?_) rfl (by as_aux_lemma => kernel_rfl) (by as_aux_lemma => kernel_rfl) (by as_aux_lemma => kernel_rfl) (fun _ _ _ h => h) (Or.inl ⟨by rfl, ?_⟩) (by assumption) ?_
                          rotate_left
                          · (intro w hSw; (try dsimp only at hSw); go_simp; try (with_reducible rfl))
                          try simp only [Act.put, List.setIfInBounds_toArray, List.set_cons_zero, List.set_cons_succ]
                          refine wpAnyH_ready (rs := [9]) (by as_aux_lemma => kernel_rfl) (by simp) ?_
                          refine AllReadyH.cons (o := ⟨_, _, _, _, _, _⟩) rfl (fun K hK => ?_) AllReadyH.nil
                          go_simp
                          go_at_call 119; refine (markNodes_any (p) (i) _ (by omega) (by omega) (by omega) (by omega)).mono ?_; rintro e w1 ⟨rfl, hb1⟩
                          refine hK.out _ _ ?_ (fun hHeld1 => ?_)
                          · exact ⟨cel_keep (bel_drew hb1) l1, cel_keep (bel_drew hb1) l3, cel_keep (bel_drew hb1) q0, cel_keep (bel_drew hb1) q1, cel_keep (bel_drew hb1) q2, cel_keep (bel_drew hb1) q3, cel_keep (bel_drew hb1) r0, cel_keep (bel_drew hb1) r1, cel_keep (bel_drew hb1) r2, cel_keep (bel_drew hb1) r3⟩
                          clear hK K
                          try simp only [Act.put, List.setIfInBounds_toArray, List.set_cons_zero, List.set_cons_succ]
                          refine wpAnyH_take (i := 10) (oi := ⟨_, _, _, _, _, _⟩) (v := .bool true) rfl (by as_aux_lemma => kernel_rfl) (by as_aux_lemma => kernel_rfl) (by as_aux_lemma => kernel_rfl) (fun _ _ _ h => h) (Or.inl ⟨by rfl, fun w _ => exec_eql _ _ _ _ rfl _ _ _ w rfl rfl eqgM_Nodes (hE w)⟩) (by assumption) ?_
                          try simp only [Act.put, List.setIfInBounds_toArray, List.set_cons_zero, List.set_cons_succ]
                          refine wpAnyH_take (i := 11) (oi := ⟨_, _, _, _, _, _⟩) (v := ?_) rfl (by as_aux_lemma => kernel_rfl) (by as_aux_lemma => kernel_rfl) (by as_aux_lemma => kernel_rfl) (fun _ _ _ h => h) (Or.inl ⟨by rfl, ?_⟩) (by assumption) ?_
                          rotate_left
                          · (intro w hSw; (try dsimp only at hSw); go_simp; try (with_reducible rfl))
                          try simp only [Act.put, List.setIfInBounds_toArray, List.set_cons_zero, List.set_cons_succ]
                          refine wpAnyH_take (i := 12) (oi := ⟨_, _, _, _, _, _⟩) (v := ?_) rfl (by as_aux_lemma => kernel_rfl) (by as_aux_lemma => kernel_rfl) (by as_aux_lemma => kernel_rfl) (fun _ _ _ h => h) (Or.inl ⟨by rfl, ?_⟩) (by assumption) ?_
                          rotate_left
                          · (intro w hSw; (try dsimp only at hSw); go_simp; try (with_reducible rfl))
                          try simp only [Act.put, List.setIfInBounds_toArray, List.set_cons_zero, List.set_cons_succ]
                          refine wpAnyH_take (i := 13) (oi := ⟨_, _, _, _, _, _⟩) (v := ?_) rfl (by as_aux_lemma => kernel_rfl) (by as_aux_lemma => kernel_rfl) (by as_aux_lemma => kernel_rfl) (fun _ _ _ h => h) (Or.inl ⟨by rfl, ?_⟩) (by assumption) ?_
                          rotate_left
                          · (intro w hSw; (try dsimp only at hSw); go_simp; try (with_reducible rfl))
                          try simp only [Act.put, List.setIfInBounds_toArray, List.set_cons_zero, List.set_cons_succ]
                          refine wpAnyH_take (i := 14) (oi := ⟨_, _, _, _, _, _⟩) (v := ?_) rfl (by as_aux_lemma => kernel_rfl) (by as_aux_lemma => kernel_rfl) (by as_aux_lemma => kernel_rfl) (fun _ _ _ h => h) (Or.inl ⟨by rfl, ?_⟩) (by assumption) ?_
                          rotate_left
                          · (intro w hSw; (try dsimp only at hSw); go_simp; try (with_reducible rfl))
                          try simp only [Act.put, List.setIfInBounds_toArray, List.set_cons_zero, List.set_cons_succ]
                          refine wpAnyH_take (i := 15) (oi := ⟨_, _, _, _, _, _⟩) (v := ?_) rfl (by as_aux_lemma => kernel_rfl) (by as_aux_lemma => kernel_rfl) (by as_aux_lemma => kernel_rfl) (fun _ _ _ h => h) (Or.inl ⟨by rfl, ?_⟩) (by assumption) ?_
                          rotate_left
                          · (intro w hSw; (try dsimp only at hSw); go_simp; try (with_reducible rfl))
                          try simp only [Act.put, List.setIfInBounds_toArray, List.set_cons_zero, List.set_cons_succ]
                          refine wpAnyH_take (i := 16) (oi := ⟨_, _, _, _, _, _⟩) (v := ?_) rfl (by as_aux_lemma => kernel_rfl) (by as_aux_lemma => kernel_rfl) (by as_aux_lemma => kernel_rfl) (fun _ _ _ h => h) (Or.inl ⟨by rfl, ?_⟩) (by assumption) ?_
                          rotate_left
                          · (intro w hSw; (try dsimp only at hSw); go_simp; try (with_reducible rfl))
                          try simp only [Act.put, List.setIfInBounds_toArray, List.set_cons_zero, List.set_cons_succ]
                          refine wpAnyH_take (i := 17) (oi := ⟨_, _, _, _, _, _⟩) (v := ?_) rfl (by as_aux_lemma => kernel_rfl) (by as_aux_lemma => kernel_rfl) (by as_aux_lemma => kernel_rfl) (fun _ _ _ h => h) (Or.inl ⟨by rfl, ?_⟩) (by assumption) ?_
                          rotate_left
                          · (intro w hSw; (try dsimp only at hSw); go_simp; try (with_reducible rfl))
                          try simp only [Act.put, List.setIfInBounds_toArray, List.set_cons_zero, List.set_cons_succ]
                          refine wpAnyH_take (i := 18) (oi := ⟨_, _, _, _, _, _⟩) (v := ?_) rfl (by as_aux_lemma => kernel_rfl) (by as_aux_lemma => kernel_rfl) (by as_aux_lemma => kernel_rfl) (fun _ _ _ h => h) (Or.inl ⟨by rfl, ?_⟩) (by assumption) ?_
                          rotate_left
                          · (intro w hSw; (try dsimp only at hSw); go_simp; try (with_reducible rfl))
                          try simp only [Act.put, List.setIfInBounds_toArray, List.set_cons_zero, List.set_cons_succ]
                          refine wpAnyH_take (i := 19) (oi := ⟨_, _, _, _, _, _⟩) (v := ?_) rfl (by as_aux_lemma => kernel_rfl) (by as_aux_lemma => kernel_rfl) (by as_aux_lemma => kernel_rfl) (fun _ _ _ h => h) (Or.inl ⟨by rfl, ?_⟩) (by assumption) ?_
                          rotate_left
                          · (intro w hSw; (try dsimp only at hSw); go_simp; try (with_reducible rfl))
                          try simp only [Act.put, List.setIfInBounds_toArray, List.set_cons_zero, List.set_cons_succ]
                          refine wpAnyH_take (i := 20) (oi := ⟨_, _, _, _, _, _⟩) (v := ?_) rfl (by as_aux_lemma => kernel_rfl) (by as_aux_lemma => kernel_rfl) (by as_aux_lemma => kernel_rfl) (fun _ _ _ h => h) (Or.inl ⟨by rfl, ?_⟩) (by assumption) ?_
                          rotate_left
                          · (intro w hSw; (try dsimp only at hSw); go_simp; try (with_reducible rfl))
                          try simp only [Act.put, List.setIfInBounds_toArray, List.set_cons_zero, List.set_cons_succ]
                          refine wpAnyH_take (i := 21) (oi := ⟨_, _, _, _, _, _⟩) (v := ?_) rfl (by as_aux_lemma => kernel_rfl) (by as_aux_lemma => kernel_rfl) (by as_aux_lemma => kernel_rfl) (fun _ _ _ h => h) (Or.inl ⟨by rfl, ?_⟩) (by assumption) ?_
                          rotate_left
                          · (intro w hSw; (try dsimp only at hSw); go_simp; try (with_reducible rfl))
                          try simp only [Act.put, List.setIfInBounds_toArray, List.set_cons_zero, List.set_cons_succ]
                          refine wpAnyH_ready (rs := [22]) (by as_aux_lemma => kernel_rfl) (by simp) ?_
                          refine AllReadyH.cons (o := ⟨_, _, _, _, _, _⟩) rfl (fun K hK => ?_) AllReadyH.nil
                          go_simp
                          go_at_call 119; refine (markNodes_any (p) (i) _ (by omega) (by omega) (by omega) (by omega)).mono ?_; rintro e w2 ⟨rfl, hb2⟩
                          refine hK.out _ _ ?_ (fun hHeld2 => ?_)
                          · exact ⟨cel_keep hb2 hHeld1.1, cel_keep hb2 hHeld1.2.1, cel_keep hb2 hHeld1.2.2.1, cel_keep hb2 hHeld1.2.2.2.1, cel_keep hb2 hHeld1.2.2.2.2.1, cel_keep hb2 hHeld1.2.2.2.2.2.1, cel_keep hb2 hHeld1.2.2.2.2.2.2.1, cel_keep hb2 hHeld1.2.2.2.2.2.2.2.1, cel_keep hb2 hHeld1.2.2.2.2.2.2.2.2.1, cel_keep hb2 hHeld1.2.2.2.2.2.2.2.2.2⟩
                          clear hK K
                          try simp only [Act.put, List.setIfInBounds_toArray, List.set_cons_zero, List.set_cons_succ]
                          refine wpAnyH_take (i := 23) (oi := ⟨_, _, _, _, _, _⟩) (v := .bool true) rfl (by as_aux_lemma => kernel_rfl) (by as_aux_lemma => kernel_rfl) (by as_aux_lemma => kernel_rfl) (fun _ _ _ h => h) (Or.inl ⟨by rfl, fun w _ => exec_eql _ _ _ _ rfl _ _ _ w rfl rfl eqgM_Nodes (hE w)⟩) (by assumption) ?_
                          try simp only [Act.put, List.setIfInBounds_toArray, List.set_cons_zero, List.set_cons_succ]
                          refine wpAnyH_take (i := 24) (oi := ⟨_, _, _, _, _, _⟩) (v := ?_) rfl (by as_aux_lemma => kernel_rfl) (by as_aux_lemma => kernel_rfl) (by as_aux_lemma => kernel_rfl) (fun _ _ _ h => h) (Or.inl ⟨by rfl, ?_⟩) (by assumption) ?_
                          rotate_left
                          · (intro w hSw; (try dsimp only at hSw); go_simp; try (with_reducible rfl))
                          try simp only [Act.put, List.setIfInBounds_toArray, List.set_cons_zero, List.set_cons_succ]
                          refine wpAnyH_take (i := 25) (oi := ⟨_, _, _, _, _, _⟩) (v := ?_) rfl (by as_aux_lemma => kernel_rfl) (by as_aux_lemma => kernel_rfl) (by as_aux_lemma => kernel_rfl) (fun _ _ _ h => h) (Or.inl ⟨by rfl, ?_⟩) (by assumption) ?_
                          rotate_left
                          · (intro w hSw; (try dsimp only at hSw); go_simp; try (with_reducible rfl))
                          try simp only [Act.put, List.setIfInBounds_toArray, List.set_cons_zero, List.set_cons_succ]
                          refine wpAnyH_done (by as_aux_lemma => kernel_rfl) ?_ _
                          refine NoPanic.normal ?_
                          have hS : Below wr.heap.size wr w2 := bel_step (bel_drew hb1) hb2
                          have M5 := Kept.mk (M4.out.below HC.out hS)
                          have G5 := Kept.mk (G4.out.below hS)
                          clear hS hb1
                          go_wp2
                          go_roundw
                          case rel => exact ⟨i + 1, by omega, by go_num, M5.out, G5.out⟩
                          case measure => simp [intOf]; omega
                        · obtain rfl : i = c.ns p := by omega
                          go_wp2
                          go_roundw
                          case rel => exact ⟨p + 1, by omega, by go_num, M4.out, G4.out⟩
                          case measure => simp [intOf]; omega
                    · obtain rfl : k = p := by omega
                      have hend := Kept.mk (HCX.out ▸ M3.out.1.1)
                      go_wp2
                      go_ret
                      exact ⟨rfl, hend.out⟩
end Go.Proofs.YtmdbjoebcolcfaaGreatDoor.Flt
