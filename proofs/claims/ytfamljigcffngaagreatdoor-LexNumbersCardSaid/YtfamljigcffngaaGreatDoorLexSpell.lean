/- The program's Spell, whatever the token. -/
import Derived.Test.YtfamljigcffngaaGreatDoorLexSpellW
import Derived.Test.YtfamljigcffngaaGreatDoorLexSpellP
namespace Go.Proofs.YtfamljigcffngaaGreatDoor.Wlx
open Go Go.RowKit Go.Proofs.YtfamljigcffngaaGreatDoor.Wch

theorem mk_of {a : ByteArray} {l : List UInt8} (h : a.data.toList = l) : a = ⟨l.toArray⟩ := by
  subst h
  cases a
  simp
theorem sl0 (l : List UInt8) (n : Int) : Plx.spellL (0, l, n) = if l = [] ∧ n = 0 then some [] else none := rfl
theorem sl2 (l : List UInt8) (n : Int) : Plx.spellL (2, l, n) = if 0 ≤ n ∧ l = [] then some (Lib.itoa n) else none := rfl
theorem sl3 (l : List UInt8) (n : Int) : Plx.spellL (3, l, n) = if Pch.textsL l = true ∧ l.length ≤ 65536 ∧ n = 0 then some (34 :: (Plx.dbl l ++ [34])) else none := rfl
theorem sl5 (l : List UInt8) (n : Int) : Plx.spellL (5, l, n) = if l ∈ Plx.signsL ∧ n = 0 then some l else none := rfl
theorem sl6 (k : Nat) (l : List UInt8) (n : Int) (e0 : ¬ k = 0) (e1 : ¬ k = 1) (e2 : ¬ k = 2) (e3 : ¬ k = 3) (e4 : ¬ k = 4) (e5 : ¬ k = 5) : Plx.spellL (k, l, n) = none := by simp [Plx.spellL, *]
theorem sp_if (b z : Bool) (N : Int) (v : ByteArray) (r : List UInt8) (hz : (N == 0) = z) (hv : v.data.toList = r) : Ending.returned (.tuple #[.string (if (b && z) = true then v else ⟨#[]⟩), .bool (b && z)]) = .returned (spR (if b = true ∧ N = 0 then some r else none)) := by
  cases b
  · rw [if_neg (show ¬ (false && z) = true by simp), if_neg (show ¬ (false = true ∧ N = 0) by simp)]
    rfl
  · cases z
    · rw [beq_eq_false_iff_ne] at hz
      rw [if_neg (show ¬ (true && false) = true by decide), if_neg (fun h => hz h.2)]
      rfl
    · rw [beq_iff_eq] at hz
      rw [if_pos (show (true && true) = true by decide), if_pos ⟨rfl, hz⟩]
      exact ret_sp (mk_of hv) rfl
theorem spell_any (k : Nat) (x : ByteArray) (N A : Int) (w : World) (hx : x.size ≤ 65536) (ht : Env w) (h0 : -9223372036854775808 ≤ N) (h1 : N ≤ 9223372036854775807) :
    Calls Tryz.prog 12 #[.agg #[.int .u8 k, .string x, .int .i64 N, .int .i64 A]] w fun e w' => e = .returned (spR (Plx.spellL (k, x.data.toList, N))) ∧ Below w.heap.size w w' := by
  have hn : ((N == 0) = true ↔ N = 0) := beq_iff_eq
  have hn' : ((N == 0) = false ↔ ¬ N = 0) := beq_eq_false_iff_ne
  by_cases e0 : k = 0
  · subst e0
    refine (spell_0 x N A w).mono fun e w' ⟨he, hb⟩ => ⟨?_, hb⟩
    rw [he, sl0, ByteArray.toList_eq]
    by_cases hc : x.data.toList = [] ∧ N = 0
    · rw [if_pos hc, decide_eq_true hc]; rfl
    · rw [if_neg hc, decide_eq_false hc]; rfl
  by_cases e1 : k = 1
  · subst e1
    refine (spell_1 x N A w (by omega) ht _ _ rfl rfl).mono fun e w' ⟨he, hb⟩ => ⟨?_, hb⟩
    rw [he]
    exact sp_if _ _ N x _ rfl rfl
  by_cases e2 : k = 2
  · subst e2
    rw [sl2]
    by_cases hp : 0 ≤ N
    · by_cases hc : x.data.toList = []
      · refine (spell_2a x N A w ht h0 h1 hp (by rw [ByteArray.toList_eq]; exact hc) _ rfl).mono fun e w' ⟨he, hb⟩ => ⟨?_, hb⟩
        rw [he, if_pos ⟨hp, hc⟩]
        rfl
      · refine (spell_2b x N A w ht h0 h1 hp (by rw [ByteArray.toList_eq]; simpa using hc) _ rfl).mono fun e w' ⟨he, hb⟩ => ⟨?_, hb⟩
        rw [he, if_neg fun h => hc h.2]
        rfl
    · refine (spell_2c x N A w ht h0 h1 (by omega) _ rfl).mono fun e w' ⟨he, hb⟩ => ⟨?_, hb⟩
      rw [he, if_neg fun h => hp h.1]
      rfl
  by_cases e3 : k = 3
  · subst e3
    rw [sl3]
    have hlen : x.data.toList.length ≤ 65536 := by rw [size_len]; exact hx
    have hD : (⟨(Lib.replaceAll x.data.toList [34] [34, 34]).toArray⟩ : ByteArray).size ≤ 1000000 := by
      have := Plx.dbl_length x.data.toList
      rw [Plx.replaceAll_dbl, ← size_len]
      simp only
      omega
    cases hc : Pch.textsL x.data.toList
    · refine (spell_3d x N A w (by omega) ht hc _ rfl hD).mono fun e w' ⟨he, hb⟩ => ⟨?_, hb⟩
      rw [he, if_neg (by simp)]
      rfl
    · cases hz : (N == 0)
      · refine (spell_3b x N A w (by omega) ht hc (by omega) hz _ rfl hD).mono fun e w' ⟨he, hb⟩ => ⟨?_, hb⟩
        rw [he, if_neg (by rw [hn'] at hz; simp [hz])]
        rfl
      · refine (spell_3a x N A w (by omega) ht hc (by omega) hz _ rfl hD).mono fun e w' ⟨he, hb⟩ => ⟨?_, hb⟩
        rw [he, if_pos ⟨rfl, hlen, hn.1 hz⟩]
        refine ret_sp (mk_of ?_) rfl
        rw [Joins.data_append, Joins.data_append, Plx.replaceAll_dbl]
        rfl
  by_cases e4 : k = 4
  · subst e4
    refine (spell_4 x N A w (by omega) ht _ _ rfl rfl).mono fun e w' ⟨he, hb⟩ => ⟨?_, hb⟩
    rw [he]
    exact sp_if _ _ N _ _ rfl (by rw [Joins.data_append]; rfl)
  by_cases e5 : k = 5
  · subst e5
    rw [sl5]
    cases hz : (N == 0)
    · refine (spell_5a x N A w ht hz).mono fun e w' ⟨he, hb⟩ => ⟨?_, hb⟩
      rw [he, if_neg (by rw [hn'] at hz; simp [hz])]
      rfl
    · refine (spell_5b x N A w ht hz _ rfl).mono fun e w' ⟨he, hb⟩ => ⟨?_, hb⟩
      rw [he]
      by_cases hm : x.data.toList ∈ Plx.signsL
      · rw [decide_eq_true hm, if_pos (rfl : true = true), if_pos (And.intro hm (hn.1 hz))]
        exact ret_sp (mk_of rfl) rfl
      · rw [decide_eq_false hm, if_neg (show ¬ (false = true) by decide), if_neg (fun h : x.data.toList ∈ Plx.signsL ∧ N = 0 => hm h.1)]
        rfl
  · rw [sl6 k _ _ e0 e1 e2 e3 e4 e5]
    exact spell_6 k x N A w (by simp; omega) (by simp; omega) (by simp; omega) (by simp; omega) (by simp; omega) (by simp; omega)
end Go.Proofs.YtfamljigcffngaaGreatDoor.Wlx
