/- The walk over the statement TreeMany (chapter 06). -/
import Derived.Test.YtkcpfjhdbbapiaaDoorTreeAwake
import Derived.Test.YtkcpfjhdbbapiaaDoorTreeManyP
import Derived.Deep.DeepCutAuto
import Derived.Laws.OwnMore
namespace Go.Proofs.YtkcpfjhdbbapiaaDoor.Wtr
open Go Go.RowKit Go.Proofs.YtkcpfjhdbbapiaaDoor.Kb Go.Proofs.YtkcpfjhdbbapiaaDoor.Flt

def PickR3 (w : World) (e : Ending) (w' : World) : Prop := ∃ p : Nat, p < 3 ∧ e = .returned (.int .i64 p) ∧ w = w'
theorem tmod3 (x : Int) : -3 < x.tmod 3 ∧ x.tmod 3 < 3 := ⟨Int.lt_tmod_of_pos x (by decide), Int.tmod_lt_of_pos x (by decide)⟩
set_option maxHeartbeats 1000000 in
theorem pick3_any (x : Int) (w : World) : Calls Tryd.prog 14 #[.int .i64 x, .int .i64 3] w (PickR3 w) := by
  have hb := tmod3 x
  by_cases hn : x.tmod 3 < 0
  · go_enter Tryd.func14, Tryd.ntmps14
    go_wp2
    go_ret
    exact ⟨(x.tmod 3 + 3).toNat, by omega, ret_i64 (by rw [Int.toNat_of_nonneg (by omega)]), rfl⟩
  · go_enter Tryd.func14, Tryd.ntmps14
    go_wp2
    go_ret
    exact ⟨(x.tmod 3).toNat, by omega, ret_i64 (by rw [Int.toNat_of_nonneg (by omega)]), rfl⟩
theorem fit_of {l : List Ptr.Nd} (h : ∀ x ∈ l, x.2.1.length ≤ 9223372036854775807 ∧ x.2.2.1.length ≤ 9223372036854775807 ∧ x.1 ≤ 255) : FitP l := fun i => by
  unfold Ptr.nam Ptr.val Ptr.kin
  rw [List.getD_eq_getElem?_getD]
  cases e : l[i]? with
  | none => simp [Ptr.nd0]
  | some x => exact h x (List.mem_of_getElem? e)
theorem fit_wide (m : Nat) : FitP (Ptr.wide m) := fit_of fun x hx => by
  unfold Ptr.wide at hx
  simp only [List.mem_cons, List.mem_replicate] at hx
  rcases hx with rfl | rfl | ⟨_, rfl⟩ <;> simp
theorem fit_nest (d : Nat) : FitP (Ptr.nest d) := fit_of fun x hx => by
  unfold Ptr.nest at hx
  simp only [List.mem_cons, List.mem_map] at hx
  rcases hx with rfl | ⟨i, _, rfl⟩ <;> simp
theorem fit_long (n : Nat) (h : n ≤ 100000) : FitP (Ptr.long n) := fit_of fun x hx => by
  unfold Ptr.long at hx
  simp only [List.mem_cons, List.mem_nil_iff, or_false] at hx
  rcases hx with rfl | rfl | rfl <;> simp
  omega
theorem bcell1 (x : Ptr.Nd) : ∀ u ∈ ndC x, u.oneCell' = true := fun u hu => ndsC_one [x] u (by simpa [ndsC] using hu)
theorem ndsC_sing (x : Ptr.Nd) : ndsC [x] = ndC x := by simp [ndsC]
theorem own_lit (w : World) (L : List Ptr.Nd) (hL : L.length ≤ maxLen) : (w.alloc (.cells (ndsC L).toArray 32)).ownsRow w.heap.size 32 4 (.slice (some ⟨w.heap.size, 0, none⟩) L.length L.length) L.length (ndsC L) := by
  have := World.ownsRow_lit (base := w.heap.size) (e := 32) (size := 4) w (ndsC L).toArray L.length (Nat.le_refl _) hL (by simp [ndsC_length])
  simpa using this
theorem conv_own {w : World} {base g n c : Nat} (l : List UInt8) (h : w.ownsRow base 5 1 (.slice (some ⟨g, 0, none⟩) n c) n (bc l)) (hn : l.length = n) : (convert 33 9 (.slice (some ⟨g, 0, none⟩) n c)).run Tryd.prog w = .ok (.string ⟨l.toArray⟩) w := by
  subst hn
  refine run_convert_bytes_back _ _ _ 5 _ c l Tryd.underlying33 Tryd.underlying5 Tryd.underlying9 (fun j hj => ?_)
  exact h.cells (g := g) rfl j _ (by simp [bc, List.getElem?_eq_getElem hj])
theorem infoU : (Tryd.prog.info? 5).map (fun i => (i.zero, i.size, i.bytes)) = some (some (.int .u8 0), 1, 1) := by kernel_rfl
/-- so many letters, then noughts -/
def fillL (k n : Nat) : List UInt8 := List.replicate k 120 ++ List.replicate (n - k) 0
theorem fillL_len (k n : Nat) (h : k ≤ n) : (fillL k n).length = n := by simp [fillL]; omega
theorem fill_step (k n : Nat) (h : k < n) : (bc (fillL k n)).set k (.int .u8 120) = bc (fillL (k + 1) n) := by
  unfold fillL bc
  obtain ⟨m, hm⟩ : ∃ m, n - k = m + 1 := ⟨n - k - 1, by omega⟩
  rw [hm, show n - (k + 1) = m by omega]
  simp only [List.map_append, List.map_replicate]
  rw [List.set_append_right _ _ (by simp), List.length_replicate, Nat.sub_self, List.replicate_succ (n := m), List.set_cons_zero, List.replicate_succ' (n := k)]
  simp
theorem fill_all (n : Nat) : fillL n n = List.replicate n 120 := by simp [fillL]
theorem own_shape_n {w : World} {base n k : Nat} {e : TypeId} {v : Value} {xs : List Value} (h : w.ownsRow base e k v n xs) : ∃ A c, v = .slice A n c := by
  rcases h.2 with ⟨rfl, hn⟩ | ⟨g, cap, cur, rfl, _⟩
  · subst hn; exact ⟨none, 0, rfl⟩
  · exact ⟨_, cap, rfl⟩
/-- what Check tells of a row that was built -/
theorem check_of {l : List Ptr.Nd} {n : Nat} {E : Int} (hn : l.length = n) (hl : n ≤ 100000) (hf : FitP l) (hE : (Ptr.chk l true : Int) = E) (A : Option Addr) (c : Nat) (wx : World) (hx : RdN wx A l) (hy : TEnv wx) :
    Calls Tryd.prog 9 #[.slice A n c] wx fun e w' => e = .returned (.int .i64 E) ∧ Below wx.heap.size wx w' := by
  subst hn; subst hE
  exact check_any A l c wx hx hl hf hy
set_option maxRecDepth 100000 in
set_option maxHeartbeats 4000000 in
theorem law_many (x1 x2 x3 : Int) (w : World) (hE : TEnv w) :
    Calls Tryd.prog 4 #[.int .i64 x1, .int .i64 x2, .int .i64 x3] w fun e w' => e = .returned (.bool true) ∧ Below w.heap.size w w' := by
  obtain ⟨i0', hi, hz0, hz1, hz2⟩ := info_parts infoN
  obtain ⟨iu, hiu, hu0, hu1, hu2⟩ := info_parts infoU
  have CA := Kept.mk (awake_any w hE)
  have HE := Kept.mk hE
  clear hE
  go_enter Tryd.func4, Tryd.ntmps4
  go_wp2_with (first | (go_at_call 7; refine CA.out.mono ?_; rintro e w1 ⟨rfl, hb1⟩; have B1 := Kept.mk hb1; have s1 := hb1.size; clear hb1) | (go_at_call 14; refine (pick3_any _ _).mono ?_; rintro e w' ⟨p, hp, rfl, rfl⟩))
  go_loopw [8, 9] (fun v i wx => ∃ m : Nat, m + 2 ≤ 16383 + p ∧ i = .int .i64 ((m : Int) + 2) ∧ Kept (wx.ownsRow w.heap.size 32 4 v (m + 2) (ndsC (Ptr.wide m))) ∧ Kept (Below w.heap.size w wx)) (fun _ i _ => 16383 + p - (intOf i).toNat)
  case atStart => exact ⟨0, by omega, rfl, ⟨own_lower (own_lit w1 (Ptr.wide 0) (by rw [Ptr.wide_len]; unfold maxLen; omega)) s1⟩, ⟨B1.out.alloc s1 _⟩⟩
  case round =>
    obtain ⟨m, hm, rfl, HO, HB⟩ := hrel
    obtain ⟨A1, c1, rfl⟩ := own_shape_n HO.out
    have s3 := HB.out.size
    have k0 : (0 : Int) ≤ (m : Int) := by omega
    by_cases hlt : m + 2 < 16383 + p
    · have k1 : (m : Int) + 2 < 16383 + (p : Int) := by omega
      go_wp2_with (at_builtin; refine wpList_append_own _ rfl (.tmp 28) (.tmp 30) 22 rfl w.heap.size 32 i0' (.agg #[.int .u8 0, .string ⟨#[]⟩, .string ⟨#[]⟩, .int .i64 0]) 4 48 Tryd.underlying22 hi hz0 hz1 hz2 rfl (by decide) _ (m + 2) (ndsC (Ptr.wide m)) (by rfl) (HO.out.alloc _) ⟨wr.heap.size, 0, none⟩ 1 1 (ndC (5, [], [], 1)) (by rfl) (by rfl) (World.news_of_block (heap_alloc_new _ _)) (bcell1 _) (by unfold maxLen; omega) (by omega) (by simp; omega) ?_; intro v' w5 hown5 hgrow5 _; have hb5 := Below.grown (HB.out.alloc s3 _) hgrow5 (by simp; omega) (fun q hq => (HO.out.lt q hq).1); have O5 := Kept.mk hown5; have B5 := Kept.mk hb5; clear hown5 hgrow5 hb5)
      go_roundw
      case rel => exact ⟨m + 1, by omega, by go_num, ⟨by rw [Ptr.wide_succ, ndsC_append, ndsC_sing]; exact O5.out⟩, B5⟩
      case measure => simp [intOf]; omega
    · have hme : m + 2 = 16383 + p := by omega
      have k2 : ¬ (m : Int) + 2 < 16383 + (p : Int) := by omega
      obtain ⟨E, hE'⟩ : ∃ E : Int, (Ptr.chk (Ptr.wide m) true : Int) = E := ⟨_, rfl⟩
      have CC := Kept.mk (check_of (Ptr.wide_len m) (by omega) (fit_wide m) hE' A1 c1 wr (rdn_of_own HO.out) (HE.out.below HB.out))
      rw [Ptr.chk_wide] at hE'
      have HX := Kept.mk hE'
      have HM := Kept.mk hme
      clear hE' hme
      go_upto_region 10 with (go_at_call 9; with_reducible refine CC.out.mono ?_; rintro e w3 ⟨rfl, hb3⟩; have B3 := Kept.mk (HB.out.trans (hb3.mono HB.out.size)); clear hb3)
      go_cut [47] (fun c wx => c = .bool false ∧ Kept (Below w.heap.size w wx))
      case first =>
        by_cases hN : p ≤ 1
        · have hx := HX.out
          rw [if_neg (by have := HM.out; omega)] at hx
          obtain rfl : (0 : Int) = E := by simpa using hx
          have q1 : 16383 + (p : Int) ≤ 16384 := by omega
          clear hx HX
          go_wp2
          go_meet
          case rel => exact ⟨rfl, B3⟩
        · have hx := HX.out
          rw [if_pos (by have := HM.out; omega)] at hx
          obtain rfl : (3 : Int) = E := by simpa using hx
          have q1 : (16384 : Int) < 16383 + (p : Int) := by omega
          clear hx HX
          go_wp2
          go_meet
          case rel => exact ⟨rfl, B3⟩
      case rest =>
        obtain ⟨rfl, B4⟩ := hcut
        have s4 := B4.out.size
        clear CC HX HM HO HB k0 k2 s3
        go_wp2_with (go_at_call 14; refine (pick3_any _ _).mono ?_; rintro e w' ⟨p2, hp2, rfl, rfl⟩)
        go_loopw [8, 12] (fun v i wx => ∃ d : Nat, d ≤ 59 + p2 ∧ i = .int .i64 (d : Int) ∧ Kept (wx.ownsRow w.heap.size 32 4 v (d + 1) (ndsC (Ptr.nest d))) ∧ Kept (Below w.heap.size w wx)) (fun _ i _ => 59 + p2 - (intOf i).toNat)
        case atStart => exact ⟨0, by omega, rfl, ⟨own_lower (own_lit _ (Ptr.nest 0) (by rw [Ptr.nest_len]; unfold maxLen; omega)) s4⟩, ⟨B4.out.alloc s4 _⟩⟩
        case round =>
          obtain ⟨d, hd, rfl, HO, HB⟩ := hrel
          obtain ⟨A2, c2, rfl⟩ := own_shape_n HO.out
          have s5 := HB.out.size
          have k0 : (0 : Int) ≤ (d : Int) := by omega
          by_cases hlt2 : d < 59 + p2
          · have k1 : (d : Int) < 59 + (p2 : Int) := by omega
            go_wp2_with (at_builtin; refine wpList_append_own _ rfl (.tmp 58) (.tmp 61) 22 rfl w.heap.size 32 i0' (.agg #[.int .u8 0, .string ⟨#[]⟩, .string ⟨#[]⟩, .int .i64 0]) 4 48 Tryd.underlying22 hi hz0 hz1 hz2 rfl (by decide) _ (d + 1) (ndsC (Ptr.nest d)) (by rfl) (HO.out.alloc _) ⟨wr.heap.size, 0, none⟩ 1 1 (ndC (2, [97], [], (d : Int))) (by rfl) (by rfl) (World.news_of_block (heap_alloc_new _ _)) (bcell1 _) (by unfold maxLen; omega) (by omega) (by simp; omega) ?_; intro v' w5 hown5 hgrow5 _; have hb5 := Below.grown (HB.out.alloc s5 _) hgrow5 (by simp; omega) (fun q hq => (HO.out.lt q hq).1); have O5 := Kept.mk hown5; have B5 := Kept.mk hb5; clear hown5 hgrow5 hb5)
            go_roundw
            case rel => exact ⟨d + 1, by omega, by go_num, ⟨by rw [Ptr.nest_succ, ndsC_append, ndsC_sing]; exact O5.out⟩, B5⟩
            case measure => simp [intOf]; omega
          · have hde : d = 59 + p2 := by omega
            have k2 : ¬ (d : Int) < 59 + (p2 : Int) := by omega
            obtain ⟨E, hE'⟩ : ∃ E : Int, (Ptr.chk (Ptr.nest d) true : Int) = E := ⟨_, rfl⟩
            have CC := Kept.mk (check_of (Ptr.nest_len d) (by omega) (fit_nest d) hE' A2 c2 wr (rdn_of_own HO.out) (HE.out.below HB.out))
            have HX : Kept ((p2 ≤ 1 → E = 0) ∧ (¬ p2 ≤ 1 → E = 131)) := ⟨by
              rw [← hE', hde]
              have h3 : p2 = 0 ∨ p2 = 1 ∨ p2 = 2 := by omega
              rcases h3 with rfl | rfl | rfl
              · rw [Ptr.chk_nest59]; exact ⟨fun _ => rfl, fun h => absurd (by omega) h⟩
              · rw [Ptr.chk_nest60]; exact ⟨fun _ => rfl, fun h => absurd (by omega) h⟩
              · rw [Ptr.chk_nest61]; exact ⟨fun h => absurd h (by omega), fun _ => rfl⟩⟩
            clear hE' hde
            go_upto_region 19 with (go_at_call 9; with_reducible refine CC.out.mono ?_; rintro e w3 ⟨rfl, hb3⟩; have B3 := Kept.mk (HB.out.trans (hb3.mono HB.out.size)); clear hb3)
            go_cut [78] (fun c wx => c = .bool false ∧ Kept (Below w.heap.size w wx))
            case first =>
              by_cases hN : p2 ≤ 1
              · obtain rfl := HX.out.1 hN
                have q1 : 59 + (p2 : Int) ≤ 60 := by omega
                clear HX
                go_wp2
                go_meet
                case rel => exact ⟨rfl, B3⟩
              · obtain rfl := HX.out.2 hN
                have q1 : (60 : Int) < 59 + (p2 : Int) := by omega
                clear HX
                go_wp2
                go_meet
                case rel => exact ⟨rfl, B3⟩
            case rest =>
              obtain ⟨rfl, B6⟩ := hcut
              have s6 := B6.out.size
              clear CC HX HO HB k0 k2 s5
              go_wp2_with (first | (go_at_call 14; refine (pick3_any _ _).mono ?_; rintro e w' ⟨p3, hp3, rfl, rfl⟩) | (at_make; refine wpList_make_full _ rfl _ _ 33 rfl w.heap.size 5 iu (.int .u8 0) 1 Tryd.underlying33 hiu hu0 hu1 .i64 .i64 _ _ (65535 + p3) (by rfl) (by rfl) (by omega) (by omega) (by rw [hu2]; omega) (by unfold maxLen; omega) s6 ?_; intro w7 hown7 hgrow7; rw [Nat.mul_one, show (Value.int .u8 0).cells = #[Value.int .u8 0] from rfl, toList_madeCells_one, show List.replicate (65535 + p3) (Value.int .u8 0) = bc (fillL 0 (65535 + p3)) by simp [fillL, bc]] at hown7; have O7 := Kept.mk hown7; have B7 := Kept.mk (B6.out.grown hgrow7 s6 (fun k e => by cases e)); clear hown7 hgrow7))
              go_loopw [14] (fun i wx => ∃ k : Nat, k ≤ 65535 + p3 ∧ i = .int .i64 (k : Int) ∧ Kept (wx.ownsRow w.heap.size 5 1 (.slice (some ⟨wc.heap.size, 0, none⟩) (65535 + p3) (65535 + p3)) (65535 + p3) (bc (fillL k (65535 + p3)))) ∧ Kept (Below w.heap.size w wx)) (fun i _ => 65535 + p3 - (intOf i).toNat)
              case atStart => exact ⟨0, by omega, rfl, O7, B7⟩
              case round =>
                obtain ⟨k, hk, rfl, HO, HB⟩ := hrel
                have s8 := HB.out.size
                have k0 : (0 : Int) ≤ (k : Int) := by omega
                by_cases hlt3 : k < 65535 + p3
                · have k1 : (k : Int) < 65535 + (p3 : Int) := by omega
                  have cK := HO.out.cellAt k (by omega)
                  have cF := HO.out.frozenAt k
                  rw [show (bc (fillL k (65535 + p3)))[k]? = some (.int .u8 0) by
                    unfold fillL
                    obtain ⟨m, hm⟩ : ∃ m, 65535 + p3 - k = m + 1 := ⟨65535 + p3 - k - 1, by omega⟩
                    rw [hm]
                    simp only [bc, List.map_append, List.map_replicate]
                    rw [List.getElem?_append_right (by simp), List.length_replicate, Nat.sub_self]
                    rfl] at cK
                  have hst := HO.out.stored k (.int .u8 120)
                  rw [fill_step k _ hlt3] at hst
                  have O9 := Kept.mk hst.1
                  have B9 := Kept.mk (HB.out.setCell (p := ⟨wc.heap.size, k, none⟩) s6 (.int .u8 120))
                  clear hst
                  go_wp2
                  go_roundw
                  case rel => exact ⟨k + 1, by omega, by go_num, O9, B9⟩
                  case measure => simp [intOf]; omega
                · obtain rfl : k = 65535 + p3 := by omega
                  have hcv := conv_own _ HO.out (fillL_len _ _ (Nat.le_refl _))
                  rw [fill_all] at hcv
                  obtain ⟨y, hy⟩ : ∃ y : ByteArray, y = ⟨(List.replicate (65535 + p3) (120 : UInt8)).toArray⟩ := ⟨_, rfl⟩
                  rw [← hy] at hcv
                  obtain ⟨E, hE'⟩ : ∃ E : Int, (Ptr.chk (Ptr.long (65535 + p3)) true : Int) = E := ⟨_, rfl⟩
                  have cC : Calls Tryd.prog 9 #[.slice (some ⟨wr.heap.size, 0, none⟩) 3 3] (wr.alloc (.cells #[.int .u8 1, .string ⟨#[]⟩, .string ⟨#[]⟩, .int .i64 (-1), .int .u8 2, .string ⟨#[97]⟩, .string ⟨#[]⟩, .int .i64 0, .int .u8 4, .string ⟨#[]⟩, .string y, .int .i64 1] 32)) fun e w' => e = .returned (.int .i64 E) ∧ Below (wr.alloc (.cells #[.int .u8 1, .string ⟨#[]⟩, .string ⟨#[]⟩, .int .i64 (-1), .int .u8 2, .string ⟨#[97]⟩, .string ⟨#[]⟩, .int .i64 0, .int .u8 4, .string ⟨#[]⟩, .string y, .int .i64 1] 32)).heap.size (wr.alloc (.cells #[.int .u8 1, .string ⟨#[]⟩, .string ⟨#[]⟩, .int .i64 (-1), .int .u8 2, .string ⟨#[97]⟩, .string ⟨#[]⟩, .int .i64 0, .int .u8 4, .string ⟨#[]⟩, .string y, .int .i64 1] 32)) w' := by
                    rw [hy]
                    exact check_of (l := Ptr.long (65535 + p3)) (n := 3) rfl (by omega) (fit_long _ (by omega)) hE' _ _ _ (rdn_lit wr (Ptr.long (65535 + p3)) 32) (HE.out.below (HB.out.alloc s8 _))
                  have B8 := Kept.mk (HB.out.alloc s8 (.cells #[.int .u8 1, .string ⟨#[]⟩, .string ⟨#[]⟩, .int .i64 (-1), .int .u8 2, .string ⟨#[97]⟩, .string ⟨#[]⟩, .int .i64 0, .int .u8 4, .string ⟨#[]⟩, .string y, .int .i64 1] 32))
                  have CC := Kept.mk cC
                  rw [Ptr.chk_long _ (by omega)] at hE'
                  have HX := Kept.mk hE'
                  clear hE' cC hy HO HB O7 B7
                  by_cases hN : p3 ≤ 1
                  · have hx := HX.out
                    rw [if_pos (by omega)] at hx
                    obtain rfl : (0 : Int) = E := by simpa using hx
                    have q1 : 65535 + (p3 : Int) ≤ 65536 := by omega
                    clear hx HX
                    go_wp2_with (go_at_call 9; with_reducible refine CC.out.mono ?_; rintro e w9 ⟨rfl, hb9⟩; have B9 := Kept.mk (B8.out.trans (hb9.mono B8.out.size)); clear hb9)
                    go_ret
                    exact ⟨rfl, B9.out⟩
                  · have hx := HX.out
                    rw [if_neg (by omega)] at hx
                    obtain rfl : (4 : Int) = E := by simpa using hx
                    have q1 : decide (65535 + (p3 : Int) ≤ 65536) = false := by simp; omega
                    clear hx HX
                    go_wp2_with (go_at_call 9; with_reducible refine CC.out.mono ?_; rintro e w9 ⟨rfl, hb9⟩; have B9 := Kept.mk (B8.out.trans (hb9.mono B8.out.size)); clear hb9)
                    go_ret
                    exact ⟨rfl, B9.out⟩
end Go.Proofs.YtkcpfjhdbbapiaaDoor.Wtr
