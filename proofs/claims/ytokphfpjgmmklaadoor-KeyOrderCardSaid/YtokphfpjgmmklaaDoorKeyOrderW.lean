/- The walk over KeyOrder. -/
import Derived.Test.YtokphfpjgmmklaaDoorKeyOrderP
import Derived.Test.YtokphfpjgmmklaaDoorKeyBackW
import Derived.Laws.BytesArg
import Derived.Deep.DeepCutAuto
namespace Go.Proofs.YtokphfpjgmmklaaDoor.Wk
open Go Go.RowKit Go.Proofs.YtokphfpjgmmklaaDoor.Kb

def str (l : List UInt8) : ByteArray := ⟨l.toArray⟩
set_option maxRecDepth 100000 in
theorem conv_rd {w : World} {A : Option Addr} {l : List UInt8} (h : Rd w A l) (n c : Nat) (hn : l.length = n) : (convert 22 9 (.slice A n c)).run Tryd.prog w = .ok (.string (str l)) w := by
  subst hn
  by_cases hl : l = []
  · subst hl
    cases A with
    | none => exact run_convert_bytes_nil (P := Tryd.prog) (w := w) _ _ Tryd.underlying22 Tryd.underlying5 0 c _ Tryd.underlying9
    | some ad =>
      rw [run_convert_bytes_string w _ _ _ _ _ _ Tryd.underlying22 Tryd.underlying5 Tryd.underlying9]
      exact run_bytesToString w ad 0 c [] (by simp [loadCells, loadCellsFrom, Sem.run_pure])
  · obtain ⟨b, off, rfl, hc⟩ := h hl
    have e := run_convert_bytes_arg (P := Tryd.prog) (w := w) 22 5 Tryd.underlying22 Tryd.underlying5 b off l.length c (l.map fun x => (x.toNat : Int)) (by simp) (fun i hi => by
      have := hc i l[i] (by simp [hi])
      rw [this]
      simp [List.getD, hi]) 9 Tryd.underlying9
    rw [e]
    congr 2
    unfold strOfNums str
    congr 2
    rw [List.map_map]
    refine (List.map_congr_left fun x _ => ?_).trans (List.map_id _)
    simp
theorem str_append (x y : List UInt8) : str x ++ str y = str (x ++ y) := by
  apply ByteArray.ext
  rw [ByteArray.data_append]
  apply Array.toList_inj.1
  simp [str]
theorem pre_no {a b : List UInt8} (h : a ≠ b) (w : World) : Calls Tryd.prog 27 #[.string (str (Pk.putL a)), .string (str (Pk.putL b))] w fun e w' => e = .returned (.bool false) ∧ w = w' :=
  (Any.strings_HasPrefix Tryd.lays99 (str (Pk.putL a)) (str (Pk.putL b)) w).mono fun e w' ⟨he, hw⟩ => ⟨by
    rw [he]
    have : Lib.hasPrefix (str (Pk.putL a)).data.toList (str (Pk.putL b)).data.toList = false := Pk.not_prefix (fun e => h e.symm)
    first | rw [this] | (congr 2), hw.symm⟩
theorem below_any {w w1 w2 : World} (h : Below w.heap.size w w1) (h' : Below w1.heap.size w1 w2) : Below w.heap.size w w2 := h.trans (h'.mono h.size)
theorem conv_from {w : World} {A : Option Addr} {l : List UInt8} (h : Rd w A l) (n c : Nat) (hn : l.length = n) : ∀ wx, Below w.heap.size w wx → (convert 22 9 (.slice A n c)).run Tryd.prog wx = .ok (.string (str l)) wx :=
  fun _ hx => conv_rd (h.below hx) n c hn
set_option maxRecDepth 100000 in
set_option maxHeartbeats 4000000 in
theorem law_order (A B M O : Option Addr) (a b m o : List UInt8) (ca cb cm co : Nat) (n k : Int) (w : World) (ht : Env w) (ra : Rd w A a) (rb : Rd w B b) (rm : Rd w M m) (ro : Rd w O o)
    (la : a.length ≤ 140737488355328) (lb : b.length ≤ 140737488355328) (lm : m.length ≤ 140737488355328) (lo : o.length ≤ 140737488355328)
    (n0 : -9223372036854775808 ≤ n) (n1 : n ≤ 9223372036854775807) (k0 : -9223372036854775808 ≤ k) (k1 : k ≤ 9223372036854775807) :
    Calls Tryd.prog 9 #[.slice A a.length ca, .slice B b.length cb, .slice M m.length cm, .slice O o.length co, .int .i64 n, .int .i64 k] w fun e w' => e = .returned (.bool true) ∧ Below w.heap.size w w' := by
  have HT := Kept.mk ht
  have HA := Kept.mk ra
  have HB := Kept.mk rb
  have HM := Kept.mk rm
  have HO := Kept.mk ro
  clear ht ra rb rm ro
  by_cases hbig : 20000 < a.length + b.length + m.length + o.length
  · go_enter Tryd.func9, Tryd.ntmps9
    go_wp2_with (fail)
    refine (awake_any w HT.out).mono ?_; rintro e w1 ⟨rfl, hb1⟩
    go_wp2_with (fail)
    all_goals (go_ret; exact ⟨rfl, hb1⟩)
  have PA : Kept (∀ wx, Below w.heap.size w wx → Calls Tryd.prog 18 #[.slice A a.length ca] wx (Slice wx (Pk.putL a))) := ⟨fun wx hx => (putBytes_any A a ca wx (HA.out.below hx) (by omega)).mono fun _ _ h => slice_of_made h⟩
  have PB : Kept (∀ wx, Below w.heap.size w wx → Calls Tryd.prog 18 #[.slice B b.length cb] wx (Slice wx (Pk.putL b))) := ⟨fun wx hx => (putBytes_any B b cb wx (HB.out.below hx) (by omega)).mono fun _ _ h => slice_of_made h⟩
  have la' : a.length ≤ 20000 := by omega
  go_enter Tryd.func9, Tryd.ntmps9
  go_wp2_with (fail)
  refine (awake_any w HT.out).mono ?_; rintro e w1 ⟨rfl, g1⟩
  go_upto_region 5 with (fail)
  go_cut [13, 14] (fun x y wx => x = .string (str (Pk.putL a)) ∧ y = .string (str (Pk.putL b)) ∧ Below w.heap.size w wx)
  case first =>
    generalize Pk.putL a = p at *
    generalize Pk.putL b = q at *
    go_region_with (first
      | (go_at_call_of 18 (Value.slice A a.length ca); refine (PA.out _ (by first | with_reducible assumption | exact below_draw (by with_reducible assumption))).mono ?_; rintro e w2 ⟨A2, c2, rfl, hr2, hb2⟩; have kc2 := conv_from hr2 p.length c2 rfl; have kd2 := conv_rd hr2 p.length c2 rfl; have g2 := below_any (by first | with_reducible assumption | exact below_draw (by with_reducible assumption)) hb2)
      | (go_at_call_of 18 (Value.slice B b.length cb); refine (PB.out _ (by first | with_reducible assumption | exact below_draw (by with_reducible assumption))).mono ?_; rintro e w3 ⟨A3, c3, rfl, hr3, hb3⟩; have kc3 := conv_from hr3 q.length c3 rfl; have kd3 := conv_rd hr3 q.length c3 rfl; have g3 := below_any (by first | with_reducible assumption | exact below_draw (by with_reducible assumption)) hb3))
    all_goals
      go_wp2
      go_meet
      case rel => exact ⟨rfl, rfl, by with_reducible assumption⟩
  case rest =>
    obtain ⟨rfl, rfl, g5⟩ := hcut
    have hpl := Pk.putL_length a
    have hql := Pk.putL_length b
    have ts : ∀ l, (str l).toList = l := fun l => by rw [ByteArray.toList_eq]; rfl
    have zs : ∀ l, (str l).size = l.length := fun l => rfl
    have aps : ∀ x y, str x ++ str y = str (x ++ y) := str_append
    have kA : ∀ j, (convert 22 9 (.slice A a.length ca)).run Tryd.prog (wc.drewN j) = .ok (.string (str a)) (wc.drewN j) := fun j => conv_rd (HA.out.below (below_drewN g5 j)) _ _ rfl
    have kB : ∀ j, (convert 22 9 (.slice B b.length cb)).run Tryd.prog (wc.drewN j) = .ok (.string (str b)) (wc.drewN j) := fun j => conv_rd (HB.out.below (below_drewN g5 j)) _ _ rfl
    go_upto_region 6 with (fail)
    go_quiet (fail)
    have g6 := below_drewN g5 nq
    clear kA kB
    generalize wc.drewN nq = w6 at g6
    go_upto_region 7 with (fail)
    go_cut [73] (fun c wx => c = .bool false ∧ Below w.heap.size w wx)
    case first =>
      by_cases hab : a = b
      · subst hab
        have E1 := Pk.less_irrefl
        clear hpl hql zs aps la lb lm lo la' hbig PA PB HT HA HB HM HO
        go_wp2_with (fail)
        all_goals
          go_meet
          case rel => exact ⟨rfl, by with_reducible assumption⟩
      · have E1 := Pk.less_rows a b
        have E2 : (Pk.putL a == Pk.putL b) = false := by rw [Pk.eq_rows]; exact beq_eq_false_iff_ne.2 hab
        have E3 : (a == b) = false := beq_eq_false_iff_ne.2 hab
        have X1 := Kept.mk fun wx => pre_no hab wx
        have X2 := Kept.mk fun wx => pre_no (fun e => hab e.symm : b ≠ a) wx
        clear hpl hql zs aps la lb lm lo la' hbig PA PB HT HA HB HM HO
        generalize Pk.putL a = p at *
        generalize Pk.putL b = q at *
        go_wp2_with (first
          | (go_at_call_of 27 (Value.string (str p)); refine (X1.out _).mono ?_; rintro e w' ⟨rfl, rfl⟩)
          | (go_at_call_of 27 (Value.string (str q)); refine (X2.out _).mono ?_; rintro e w' ⟨rfl, rfl⟩))
        all_goals
          go_meet
          case rel => exact ⟨rfl, by with_reducible assumption⟩
    case rest =>
      obtain ⟨rfl, g7⟩ := hcut
      clear g6 g5 g1
      go_upto_region 9 with (fail)
      go_cut [91] (fun c wx => c = .bool false ∧ Below w.heap.size w wx)
      case first =>
        by_cases hab : a = b
        · subst hab
          clear hpl hql zs aps la lb lm lo la' hbig PA PB HT HA HB HM HO
          go_wp2_with (fail)
          all_goals
            go_meet
            case rel => exact ⟨rfl, by with_reducible assumption⟩
        · have E4 := Pk.less_putL a b m o hab
          have E3 : (a == b) = false := beq_eq_false_iff_ne.2 hab
          have kM := conv_rd (HM.out.below g7) m.length cm rfl
          have kO := conv_rd (HO.out.below g7) o.length co rfl
          have s1 : (str (Pk.putL a)).size ≤ 50000 := by rw [zs]; omega
          have s2 : (str (Pk.putL b)).size ≤ 50000 := by rw [zs]; omega
          have s3 : (str m).size ≤ 50000 := by rw [zs]; omega
          have s4 : (str o).size ≤ 50000 := by rw [zs]; omega
          clear hpl hql la lb lm lo la' hbig PA PB HT HA HB HM HO zs
          generalize Pk.putL a = p at *
          generalize Pk.putL b = q at *
          go_wp2_with (fail)
          all_goals
            go_meet
            case rel => exact ⟨rfl, by with_reducible assumption⟩
      case rest =>
        obtain ⟨rfl, g9⟩ := hcut
        clear g7
        have I1 := Kept.mk fun wx => putInt_slice n wx n0 n1
        have I2 := Kept.mk fun wx => putInt_slice k wx k0 k1
        go_upto_region 11 with (fail)
        go_cut [17, 18] (fun x y wx => x = .string (str (Pk.putInt n)) ∧ y = .string (str (Pk.putInt k)) ∧ Below w.heap.size w wx)
        case first =>
          clear hpl hql la lb lm lo la' hbig PA PB HT HA HB HM HO zs aps
          go_region_with (first
            | (go_at_call_of 14 (Value.int IntKind.i64 n); refine (I1.out _).mono ?_; rintro e w2 ⟨A2, c2, rfl, hr2, hb2⟩; have kc2 := conv_from hr2 8 c2 rfl; have kd2 := conv_rd hr2 8 c2 rfl; have g2 := below_any (by first | with_reducible assumption | exact below_draw (by with_reducible assumption)) hb2)
            | (go_at_call_of 14 (Value.int IntKind.i64 k); refine (I2.out _).mono ?_; rintro e w3 ⟨A3, c3, rfl, hr3, hb3⟩; have kc3 := conv_from hr3 8 c3 rfl; have kd3 := conv_rd hr3 8 c3 rfl; have g3 := below_any (by first | with_reducible assumption | exact below_draw (by with_reducible assumption)) hb3))
          all_goals
            go_wp2
            go_meet
            case rel => exact ⟨rfl, rfl, by with_reducible assumption⟩
        case rest =>
          obtain ⟨rfl, rfl, g11⟩ := hcut
          clear g9
          by_cases hnk : n = k
          · subst hnk
            have E1 := Pk.less_irrefl
            clear hpl hql la lb lm lo la' hbig PA PB HT HA HB HM HO zs aps I1 I2
            go_wp2_with (fail)
            all_goals (go_ret; exact ⟨rfl, g11⟩)
          · have E1 := Pk.less_nums n0 n1 k0 k1
            have E2 : (Pk.putInt n == Pk.putInt k) = false := by rw [Pk.eq_nums n0 n1 k0 k1]; exact beq_eq_false_iff_ne.2 hnk
            have E3 : (n == k) = false := beq_eq_false_iff_ne.2 hnk
            have E4 := Pk.less_ints m o n0 n1 k0 k1 hnk
            have kM := conv_rd (HM.out.below g11) m.length cm rfl
            have kO := conv_rd (HO.out.below g11) o.length co rfl
            have s1 : (str (Pk.putInt n)).size ≤ 50000 := by rw [zs]; have : (Pk.putInt n).length = 8 := rfl; omega
            have s2 : (str (Pk.putInt k)).size ≤ 50000 := by rw [zs]; have : (Pk.putInt k).length = 8 := rfl; omega
            have s3 : (str m).size ≤ 50000 := by rw [zs]; omega
            have s4 : (str o).size ≤ 50000 := by rw [zs]; omega
            clear hpl hql la lb lm lo la' hbig PA PB HT HA HB HM HO zs I1 I2
            generalize Pk.putInt n = i at *
            generalize Pk.putInt k = j at *
            go_wp2_with (fail)
            all_goals (go_ret; exact ⟨rfl, g11⟩)
end Go.Proofs.YtokphfpjgmmklaaDoor.Wk
