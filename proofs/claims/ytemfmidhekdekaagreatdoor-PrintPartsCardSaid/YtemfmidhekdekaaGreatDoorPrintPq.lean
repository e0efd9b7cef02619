/- Plain: a node's text alone, read as a fragment, is its part of the tree, but for line ends (chapter 08). -/
import Derived.Test.YtemfmidhekdekaaGreatDoorPrA
namespace Go.Proofs.YtemfmidhekdekaaGreatDoor.Ppa
open Go Go.Lib Go.Proofs.YtemfmidhekdekaaGreatDoor.Ptr Go.Proofs.YtemfmidhekdekaaGreatDoor.Wps Go.Proofs.YtemfmidhekdekaaGreatDoor.Ppr

/-- a node's part of the tree, with one kind of line ends -/
def fragN (l : List Nd) (i : Nat) : List Nd := (kin l i, nam l i, linV (kin l i) (val l i), -1) :: seg l i (i + 1) (endN l i)
section
variable {l : List Nd} (hA : allB l true l.length = true)
include hA
theorem part_kinds (ht : tops l l.length = 1) {k : Nat} (hk : k < l.length) (h1 : kin l k ≠ 1) (h3 : kin l k ≠ 3) : (kin l k = 2 ∧ Pch.nameL (nam l k) = true ∧ val l k = []) ∨ (kin l k = 4 ∧ nam l k = [] ∧ val l k ≠ []) ∨ (kin l k = 5 ∧ nam l k = [] ∧ has2 45 45 (val l k) = false ∧ (val l k).getLast? ≠ some 45) ∨ (kin l k = 6 ∧ Pch.nameL (nam l k) = true ∧ isXml (nam l k) = false ∧ has2 63 62 (val l k) = false ∧ noBlank (val l k) = true) := by
  have hr := tree_rng hA k hk
  have hne : k ≠ 0 := fun e => h1 (by rw [e]; exact root_one hA (by omega))
  have hp0 : 0 ≤ par l k := by
    rcases Int.lt_or_le (par l k) 0 with h | h
    · exact absurd (one_top (tree_rng hA) ht k hk h) hne
    · exact h
  obtain ⟨p, hp⟩ : ∃ p : Nat, par l k = p := ⟨(par l k).toNat, by omega⟩
  have hpk : p < k := by omega
  obtain ⟨s1, s2, s3, s4⟩ := runN_spec l p (by omega)
  have hrun : Ppr.runN l p ≤ k := by
    apply Classical.byContradiction
    intro hc
    exact h3 (s3 k (by omega) (by omega)).1
  exact kid_kinds hA (by omega) hk hp hrun
end
theorem frag_pr {l : List Nd} (h : chk l true = 0) {i : Nat} (hi : i < l.length) (h1 : kin l i ≠ 1) (h3 : kin l i ≠ 3) (hs : (prN l i).length ≤ 65536) : fragmentL (prN l i) = (fragN l i, 0, 0) := by
  obtain ⟨hl, hA, hr, hd⟩ := chk_inv h
  have htx : Pch.textsL (prN l i) = true := pr_texts hA _ _ hi
  have hend := endN_spec l i hi
  have hsl : (fragN l i).length ≤ 16384 := by
    unfold fragN
    rw [List.length_cons, seg_len]
    omega
  have key : ∃ f r, contF (prN l i).length f (-1) 0 0 (prN l i) st0 = some (.ok (r, ⟨fragN l i, [], -1, -1⟩)) := by
    generalize (prN l i).length = N
    have fin : ∀ s2 : St, s2.text = [] → contF N 1 (-1) 0 0 [] s2 = some (.ok ([], s2)) := fun s2 h => by
      rw [cont_end (by decide), flush_id h]
    have mk : ∀ (u : Bs) (g : Nat) (s1 : St), s1.text = [] → markF N g (-1) 0 u st0 = some (.ok ([], s1)) → ∃ f r, contF N f (-1) 0 0 (60 :: u) st0 = some (.ok (r, s1)) := by
      intro u g s1 h1 hm
      refine ⟨max g 1 + 1, [], ?_⟩
      rw [cont_mark (by rintro ⟨h, _⟩; exact absurd h (by decide)), mark_up hm (Nat.le_max_left _ _)]
      exact cont_up (fin s1 h1) (Nat.le_max_right _ _)
    rcases part_kinds hA (hr rfl).1 hi h1 h3 with ⟨k2, hnm, hv⟩ | ⟨k4, hnm, hv⟩ | ⟨k5, hnm, hv1, hv2⟩ | ⟨k6, hnm, hx, hv1, hv2⟩
    · obtain ⟨f, hf⟩ := elem_rt hA (fun k => deepest_mem _ hd k) _ i (Nat.le_refl _) hi k2 N i (-1) 1 st0 [] (by show ((0 : Nat) : Int) = _; omega) (by
        rw [depN_step (tree_rng hA) i hi, if_pos k2]
        split <;> omega)
      rw [List.append_nil] at hf
      obtain ⟨c, t, hct, _, c47, _, c63, c33, _⟩ := name_head hnm
      have hhd : ∀ z : UInt8, z ≠ c → (elT l i).head? ≠ some z := by
        intro z hz
        unfold elT
        rw [hct]
        simpa using fun e => hz e.symm
      rw [pr_elem hA hi k2]
      refine mk (elT l i) (f + 1) _ rfl ?_
      rw [mark_elem (hhd 63 (fun e => c63 e.symm)) (hhd 33 (fun e => c33 e.symm))]
      rw [show (0 : Nat) + 1 = 1 from rfl, hf]
      unfold fragN linV
      rw [k2, hv]
      rfl
    · have hlf := end_leaf hA hi (by omega) (by omega)
      have hpr : prN l i = escL (val l i) ++ [] := by
        rw [prN_at (tree_rng hA) hi, if_neg (by omega), if_pos k4, List.append_nil]
      rw [hpr]
      have hc := cr_esc (N := N) (p := -1) (d := 0) (r := []) (o := .ok ([], ⟨fragN l i, [], -1, -1⟩)) (val l i) st0 (fun run => ⟨1, by
        rw [cont_end (by decide)]
        unfold fragN flush linV
        rw [k4, hnm, hlf, seg_nil, if_neg (by simpa [st0] using hv)]
        rfl⟩)
      obtain ⟨f, hf⟩ := hc 0
      exact ⟨f, [], hf⟩
    · have hlf := end_leaf hA hi (by omega) (by omega)
      have hpr : prN l i = 60 :: (33 :: 45 :: (45 :: (val l i ++ 45 :: 45 :: 62 :: []))) := by
        rw [prN_at (tree_rng hA) hi, if_neg (by omega), if_neg (by omega), if_pos k5]
        simp
      rw [hpr]
      refine mk _ 1 _ ?_ (by
        rw [mark_comm, comm_write hv1 hv2, add_st (x := (5, [], said (val l i), -1)) (by simp)]
        unfold fragN linV
        rw [k5, hnm, hlf, seg_nil]
        rfl)
      rfl
    · have hlf := end_leaf hA hi (by omega) (by omega)
      have hpr : prN l i = 60 :: (63 :: (nam l i ++ (if val l i = [] then [] else 32 :: val l i) ++ [63, 62] ++ [])) := by
        rw [prN_at (tree_rng hA) hi, if_neg (by omega), if_neg (by omega), if_neg (by omega), if_pos k6]
        simp
      rw [hpr]
      refine mk _ 1 _ ?_ (by
        rw [mark_instr, instr_write hnm hx hv1 hv2, add_st (x := (6, nam l i, said (val l i), -1)) (by simp)]
        unfold fragN linV
        rw [k6, hlf, seg_nil]
        rfl)
      rfl
  obtain ⟨f, r, hf⟩ := key
  exact frag_told_of hs htx hf (by show (-1 : Int) < 0; decide) (by show (-1 : Int) < 0; decide) hsl
end Go.Proofs.YtemfmidhekdekaaGreatDoor.Ppa
