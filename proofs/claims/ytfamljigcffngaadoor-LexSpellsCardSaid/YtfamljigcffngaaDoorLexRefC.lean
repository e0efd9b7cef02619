/- The walks over the document's Spell (chapter 22): strings and signs. -/
import Derived.Test.YtfamljigcffngaaDoorLexRefB
import Derived.Laws.OwnMore
namespace Go.Proofs.YtfamljigcffngaaDoor.Wlx
open Go Go.RowKit Go.Proofs.YtfamljigcffngaaDoor.Wch

/-- bytes as cells -/
def bcL (l : List UInt8) : List Value := l.map fun b => Value.int .u8 (b.toNat : Int)
theorem bcL_append (l m : List UInt8) : bcL (l ++ m) = bcL l ++ bcL m := by simp [bcL]
theorem infoU : (Tryd.prog.info? 5).map (fun i => (i.zero, i.size, i.bytes)) = some (some (.int .u8 0), 1, 1) := by kernel_rfl
theorem conv_own {w : World} {base g n c : Nat} (l : List UInt8) (h : w.ownsRow base 5 1 (.slice (some ⟨g, 0, none⟩) n c) n (bcL l)) (hn : l.length = n) : (convert 46 9 (.slice (some ⟨g, 0, none⟩) n c)).run Tryd.prog w = .ok (.string ⟨l.toArray⟩) w := by
  subst hn
  refine run_convert_bytes_back _ _ _ 5 _ c l Tryd.underlying46 Tryd.underlying5 Tryd.underlying9 (fun j hj => ?_)
  exact h.cells (g := g) rfl j _ (by simp [bcL, List.getElem?_eq_getElem hj])
theorem signs_any (w : World) : Calls Tryd.prog 21 #[] w fun e w' => e = .returned (.slice (some ⟨w.heap.size, 0, none⟩) 24 24) ∧ w' = w.alloc (.cells signsA 9) := by
  go_enter Tryd.func21, Tryd.ntmps21
  go_wp2
  go_ret
  exact ⟨rfl, rfl⟩
theorem signsA_at (j : Nat) (x : List UInt8) (h : Plx.signsL[j]? = some x) : signsA[j]? = some (.string ⟨x.toArray⟩) := by simp [signsA, h]
set_option maxRecDepth 100000 in
set_option maxHeartbeats 2000000 in
theorem ref_5 (x : ByteArray) (N A : Int) (w : World) (hN : (N != 0) = false) (r : Bool) (hr : decide (x.data.toList ∈ Plx.signsL) = r) :
    Calls Tryd.prog 8 #[.agg #[.int .u8 5, .string x, .int .i64 N, .int .i64 A]] w fun e w' => e = .returned (.tuple #[.string (if r = true then x else ⟨#[]⟩), .bool r]) ∧ Below w.heap.size w w' := by
  have HR := Kept.mk hr
  clear hr
  go_enter Tryd.func8, Tryd.ntmps8
  go_wp2_with (fail)
  refine (signs_any _).mono ?_; rintro e w2 ⟨rfl, rfl⟩
  have hb2 : Below (w.alloc (.cells #[.int .u8 5, .string x, .int .i64 N, .int .i64 A] 24)).heap.size (w.alloc (.cells #[.int .u8 5, .string x, .int .i64 N, .int .i64 A] 24)) ((w.alloc (.cells #[.int .u8 5, .string x, .int .i64 N, .int .i64 A] 24)).alloc (.cells signsA 9)) := (Below.refl _ _).alloc (Nat.le_refl _) _
  have c1 : ((w.alloc (.cells #[.int .u8 5, .string x, .int .i64 N, .int .i64 A] 24)).alloc (.cells signsA 9)).cell? ⟨w.heap.size, 1, none⟩ = some (.string x) := cell_keep hb2 (by rw [World.cell?_alloc_new]; rfl)
  have cs : ∀ j y, Plx.signsL[j]? = some y → ((w.alloc (.cells #[.int .u8 5, .string x, .int .i64 N, .int .i64 A] 24)).alloc (.cells signsA 9)).cell? ⟨w.heap.size + 1, j, none⟩ = some (.string ⟨y.toArray⟩) := fun j y hy => by
    have e : w.heap.size + 1 = (w.alloc (.cells #[.int .u8 5, .string x, .int .i64 N, .int .i64 A] 24)).heap.size := by rw [World.size_alloc]
    rw [e, World.cell?_alloc_new, signsA_at j y hy]
  have g2 := below_any (box_below w (.cells #[.int .u8 5, .string x, .int .i64 N, .int .i64 A] 24)) hb2
  have CS := Kept.mk cs
  have G2 := Kept.mk g2
  clear hb2 cs g2
  generalize (w.alloc (.cells #[.int .u8 5, .string x, .int .i64 N, .int .i64 A] 24)).alloc (.cells signsA 9) = W at c1 CS G2 ⊢
  have C1 := Kept.mk c1
  clear c1
  go_wp2_with (fail)
  go_loopw [7] (fun i wx => ∃ k : Nat, k ≤ 24 ∧ i = .int .i64 k ∧ Below W.heap.size W wx ∧ Hid (x.data.toList ∉ Plx.signsL.take k)) (fun i _ => 24 - (intOf i).toNat)
  case atStart => exact ⟨0, by omega, rfl, Below.refl _ _, by show _ ∉ _; simp⟩
  case round =>
    obtain ⟨k, hk, rfl, hb, H⟩ := hrel
    by_cases hlt : k < 24
    · obtain ⟨y, hy⟩ : ∃ y, Plx.signsL[k]? = some y := ⟨Plx.signsL[k]'hlt, List.getElem?_eq_getElem hlt⟩
      have c1 := cell_keep hb C1.out
      have c2 := cell_keep hb (CS.out k y hy)
      have htk : Plx.signsL.take (k + 1) = Plx.signsL.take k ++ [y] := by rw [List.take_add_one, hy]; rfl
      have i0 : (0 : Int) ≤ (k : Int) := by omega
      have i1 : (k : Int) < 24 := by omega
      by_cases hyx : y = x.data.toList
      · have hm : r = true := by rw [← HR.out, decide_eq_true (by rw [← hyx]; exact List.mem_of_getElem? hy)]
        have hxy : (⟨y.toArray⟩ : ByteArray) = x := by rw [hyx]
        rw [hxy] at c2
        subst hm
        have HB := Kept.mk hb
        clear hy htk hyx hxy H HR hb
        go_wp2
        go_quiet (fail)
        go_wp2
        go_ret2
        exact ⟨rfl, below_any G2.out (below_drewN HB.out _)⟩
      · have H2 : Hid (x.data.toList ∉ Plx.signsL.take (k + 1)) := by
          show _ ∉ _
          rw [htk, List.mem_append]
          rintro (h | h)
          · exact H.out h
          · exact hyx (List.mem_singleton.1 h).symm
        have hyx2 : (y == x.toList) = false := by rw [ByteArray.toList_eq, beq_eq_false_iff_ne]; exact hyx
        have HB := Kept.mk hb
        clear hy htk hyx H hb
        go_wp2
        go_quiet (fail)
        go_wp2
        go_roundw
        case rel => exact ⟨k + 1, by omega, by go_num, below_drewN HB.out _, H2.out⟩
        case measure => simp [intOf]; omega
    · obtain rfl : k = 24 := by omega
      have hm : r = false := by rw [← HR.out, decide_eq_false (show x.data.toList ∉ Plx.signsL from H.out)]
      subst hm
      clear H HR
      go_wp2
      go_ret2
      exact ⟨rfl, below_any G2.out hb⟩
/-- behind an append onto bytes of the call's own: the token's box stands -/
theorem after_app {w wr w3 : World} {N A : Int} {x : ByteArray} {v : Value} {n : Nat} {xs : List Value} {o : Obj} (hb : Below (w.heap.size + 1) (w.alloc (.cells #[.int .u8 3, .string x, .int .i64 N, .int .i64 A] 24)) wr) (hown : wr.ownsRow (w.heap.size + 1) 5 1 v n xs) (hg : (wr.alloc o).grownBy w3 v.ownBlock) :
    Below (w.heap.size + 1) (w.alloc (.cells #[.int .u8 3, .string x, .int .i64 N, .int .i64 A] 24)) w3 ∧ w3.cell? ⟨w.heap.size, 1, none⟩ = some (.string x) ∧ w.heap.size + 1 ≤ w3.heap.size := by
  have hz := hb.size
  rw [World.size_alloc] at hz
  have h3 : Below (w.heap.size + 1) (w.alloc (.cells #[.int .u8 3, .string x, .int .i64 N, .int .i64 A] 24)) w3 := Below.grown (hb.alloc hz _) hg (by rw [World.size_alloc]; omega) (fun _ hj => (hown.lt _ hj).1)
  have hz3 := h3.size
  rw [World.size_alloc] at hz3
  refine ⟨h3, ?_, hz3⟩
  rw [(below1 h3).1 _ _ (by omega), World.cell?_alloc_new]
  rfl
theorem dbl_snoc (l : List UInt8) (c : UInt8) : Plx.dbl (l ++ [c]) = Plx.dbl l ++ (if c = 34 then [34, 34] else [c]) := by simp [Plx.dbl]
set_option maxRecDepth 100000 in
set_option maxHeartbeats 2000000 in
theorem ref_3 (x : ByteArray) (N A : Int) (w : World) (hxs : x.size ≤ 65536) (hN : (N != 0) = false) (htx : Pch.textsL x.data.toList = true) :
    Calls Tryd.prog 8 #[.agg #[.int .u8 3, .string x, .int .i64 N, .int .i64 A]] w fun e w' => e = .returned (.tuple #[.string ⟨(34 :: (Plx.dbl x.data.toList ++ [34])).toArray⟩, .bool true]) ∧ Below w.heap.size w w' := by
  have cN := fun wx => refTexts_any x wx (by omega)
  rw [htx] at cN
  have CN := Kept.mk cN
  have HL := Kept.mk (size_len x)
  obtain ⟨i0', hi', hz0', hz1', hz2'⟩ := info_parts infoU
  clear cN htx
  go_enter Tryd.func8, Tryd.ntmps8
  go_wp2_with (fail)
  refine (CN.out _).mono ?_; rintro e w2 ⟨rfl, rfl⟩
  go_wp2_with (fail)
  go_loopw [4, 5] (fun v i wx => ∃ (k : Nat) (acc : List UInt8), k ≤ x.size ∧ i = .int .i64 k ∧ Below (w.heap.size + 1) (w.alloc (.cells #[.int .u8 3, .string x, .int .i64 N, .int .i64 A] 24)) wx ∧ wx.ownsRow (w.heap.size + 1) 5 1 v acc.length (bcL acc) ∧ acc.length ≤ 2 * k + 1 ∧ Hid (acc = 34 :: Plx.dbl (x.data.toList.take k))) (fun _ i _ => x.size - (intOf i).toNat)
  case atStart =>
    refine ⟨0, [34], by omega, rfl, (Below.refl _ _).alloc (by simp) _, ?_, by simp, rfl⟩
    have h := World.ownsRow_lit (base := w.heap.size + 1) (e := 5) (size := 1) (w.alloc (.cells #[.int .u8 3, .string x, .int .i64 N, .int .i64 A] 24)) #[.int .u8 34] 1 (by simp) (by unfold maxLen; omega) rfl
    rw [World.size_alloc] at h
    exact h
  case round =>
    obtain ⟨k, acc, hk, rfl, hb, hown, hal, H⟩ := hrel
    have HB := Kept.mk hb
    have HO := Kept.mk hown
    have hz := hb.size
    simp only [World.size_alloc] at hz
    clear hb hown
    by_cases hlt : k < x.size
    · have hd := drop_at x k hlt
      have htk : x.data.toList.take (k + 1) = x.data.toList.take k ++ [x[k]] := by
        rw [List.take_succ_eq_append_getElem (by rw [HL.out]; exact hlt)]
        rfl
      have H1 : Hid (34 :: Plx.dbl (x.data.toList.take (k + 1)) = acc ++ (if x[k] = 34 then [34, 34] else [x[k]])) := by
        show _ = _
        rw [htk, dbl_snoc, H.out]
        rfl
      have i0 : (0 : Int) ≤ (k : Int) := by omega
      have c1 : wr.cell? ⟨w.heap.size, 1, none⟩ = some (.string x) := by
        rw [(below1 HB.out).1 _ _ (by omega), World.cell?_alloc_new]
        rfl
      clear hd htk H
      have c1' : ∀ o, (wr.alloc o).cell? ⟨w.heap.size, 1, none⟩ = some (.string x) := fun o => cell_keep (box_below _ _) c1
      by_cases hq : x[k] = 34
      · have e1 : ((x[k].toNat : Int) == 34) = true := by rw [hq]; rfl
        rw [if_pos hq] at H1
        have HQ := Kept.mk hq
        clear hq
        go_wp2_with (first
          | (at_builtin; refine wpList_append_lies _ rfl (.tmp 78) (.tmp 83) 46 rfl (w.heap.size + 1) 5 i0' (.int .u8 0) 1 1 Tryd.underlying46 hi' hz0' hz1' hz2' rfl (by decide) _ _ _ rfl (HO.out.alloc _) ⟨wr.heap.size, 0, none⟩ 1 1 [.int .u8 (x[k].toNat : Int)] rfl rfl (World.news_of_block (heap_alloc_new _ _)) (by intro u hu; simp at hu; subst hu; rfl) (by decide) (by unfold maxLen; omega) (by omega) (by simp; omega) _ rfl ?_; intro g3 cap3 w3 hown3 hgrow3 _ _; obtain ⟨hB3, d1, hz3⟩ := after_app HB.out HO.out hgrow3; have HB3 := Kept.mk hB3; have HO3 := Kept.mk hown3; clear hB3 hown3 hgrow3)
          | (at_builtin; refine wpList_append_lies _ rfl (.tmp 90) (.tmp 91) 46 rfl (w.heap.size + 1) 5 i0' (.int .u8 0) 1 1 Tryd.underlying46 hi' hz0' hz1' hz2' rfl (by decide) _ _ _ rfl (HO3.out.alloc _) ⟨w3.heap.size, 0, none⟩ 1 1 [.int .u8 34] rfl rfl (World.news_of_block (heap_alloc_new _ _)) (by intro u hu; simp at hu; subst hu; rfl) (by decide) (by unfold maxLen; omega) (by omega) (by simp; omega) _ rfl ?_; intro g4 cap4 w4 hown4 hgrow4 _ _; obtain ⟨hB4, _, _⟩ := after_app HB3.out HO3.out hgrow4; have HB4 := Kept.mk hB4; have HO4 := Kept.mk hown4; clear hB4 hown4 hgrow4))
        go_roundw
        case rel =>
          refine ⟨k + 1, acc ++ [34, 34], by omega, by go_num, HB4.out, ?_, by rw [List.length_append]; simp; omega, H1.out.symm⟩
          have h := HO4.out
          rw [HQ.out] at h
          rw [List.length_append, bcL_append]
          rw [List.append_assoc] at h
          exact h
        case measure => simp [intOf]; omega
      · have e1 : ((x[k].toNat : Int) == 34) = false := by
          rw [beq_eq_false_iff_ne]
          intro h
          exact hq (UInt8.toNat_inj.1 (by show x[k].toNat = 34; omega))
        rw [if_neg hq] at H1
        clear hq
        go_wp2_with ((at_builtin; refine wpList_append_lies _ rfl (.tmp 78) (.tmp 83) 46 rfl (w.heap.size + 1) 5 i0' (.int .u8 0) 1 1 Tryd.underlying46 hi' hz0' hz1' hz2' rfl (by decide) _ _ _ rfl (HO.out.alloc _) ⟨wr.heap.size, 0, none⟩ 1 1 [.int .u8 (x[k].toNat : Int)] rfl rfl (World.news_of_block (heap_alloc_new _ _)) (by intro u hu; simp at hu; subst hu; rfl) (by decide) (by unfold maxLen; omega) (by omega) (by simp; omega) _ rfl ?_; intro g3 cap3 w3 hown3 hgrow3 _ _; obtain ⟨hB3, d1, hz3⟩ := after_app HB.out HO.out hgrow3; have HB3 := Kept.mk hB3; have HO3 := Kept.mk hown3; clear hB3 hown3 hgrow3))
        go_roundw
        case rel =>
          refine ⟨k + 1, acc ++ [x[k]], by omega, by go_num, HB3.out, ?_, by rw [List.length_append]; simp; omega, H1.out.symm⟩
          rw [List.length_append, bcL_append]
          exact HO3.out
        case measure => simp [intOf]; omega
    · obtain rfl : k = x.size := by omega
      have hacc : acc = 34 :: Plx.dbl x.data.toList := by
        have h := H.out
        rw [List.take_of_length_le (by rw [HL.out]; exact Nat.le_refl _)] at h
        exact h
      have c1 : wr.cell? ⟨w.heap.size, 1, none⟩ = some (.string x) := by
        rw [(below1 HB.out).1 _ _ (by omega), World.cell?_alloc_new]
        rfl
      have HA := Kept.mk hacc
      clear hacc H
      go_wp2_with (at_builtin; refine wpList_append_lies _ rfl (.tmp 93) (.tmp 94) 46 rfl (w.heap.size + 1) 5 i0' (.int .u8 0) 1 1 Tryd.underlying46 hi' hz0' hz1' hz2' rfl (by decide) _ _ _ rfl (HO.out.alloc _) ⟨wr.heap.size, 0, none⟩ 1 1 [.int .u8 34] rfl rfl (World.news_of_block (heap_alloc_new _ _)) (by intro u hu; simp at hu; subst hu; rfl) (by decide) (by unfold maxLen; omega) (by omega) (by simp; omega) _ rfl ?_; intro g3 cap3 w3 hown3 hgrow3 _ _; obtain ⟨hB3, _, _⟩ := after_app HB.out HO.out hgrow3; have HB3 := Kept.mk hB3; have hcv := conv_own (acc ++ [34]) (by rw [bcL_append]; exact hown3) (by rw [List.length_append]; rfl); clear hB3 hown3 hgrow3)
      go_ret2
      exact ⟨ret_sp (by rw [HA.out]; rfl) rfl, below_tok1 HB3.out⟩
end Go.Proofs.YtfamljigcffngaaDoor.Wlx
