/- The walk over PrintRead (chapter 08). -/
import Derived.Test.YtemfmidhekdekaaGreatDoorPrintAw
import Derived.Test.YtemfmidhekdekaaGreatDoorPrintRa
namespace Go.Proofs.YtemfmidhekdekaaGreatDoor.Wps
open Go Go.RowKit Go.Proofs.YtemfmidhekdekaaGreatDoor.Kb Go.Proofs.YtemfmidhekdekaaGreatDoor.Wch Go.Proofs.YtemfmidhekdekaaGreatDoor.Wtr Go.Proofs.YtemfmidhekdekaaGreatDoor.Flt

theorem tenv8 {w : World} (h : Ev w) (hR : Wtr.Rules w) : Wtr.TEnv w := ⟨h.env, hR, h.fold, h.mx⟩
theorem cat8 (a b : ByteArray) : (a ++ b).data.toList = a.data.toList ++ b.data.toList := by simp
theorem own_some8 {w : World} {B n c : Nat} {A : Option Addr} {xs : List Value} (h : w.ownsRow B 32 4 (.slice A n c) n xs) (hn : 0 < n) : ∃ gN, A = some ⟨gN, 0, none⟩ ∧ n ≤ c ∧ gN < w.heap.size := own_some h hn
set_option maxRecDepth 100000 in
set_option maxHeartbeats 8000000 in
theorem law_read (s : ByteArray) (w : World) (he : Ev w) (hR : Wtr.Rules w) :
    Calls Tryz.prog 3 #[.string s] w fun e w' => e = .returned (.bool true) ∧ Below w.heap.size w w' := by
  have HT := Kept.mk he
  have HR := Kept.mk (tenv8 he hR)
  clear he hR
  by_cases hs : 5000 < s.size
  · have hs' : (5000 : Int) < (s.size : Int) := by omega
    go_enter Tryz.func3, Tryz.ntmps3
    go_wp2_with (fail)
    refine (Wpr.awake_any _ HR.out).mono ?_; rintro e w1 ⟨rfl, hb1⟩
    go_wp2_with (fail)
    go_ret
    exact ⟨rfl, hb1⟩
  have hs' : ¬ (5000 : Int) < (s.size : Int) := by omega
  have hsz := size_len s
  have hlq := Ppr.quoL_len s.data.toList
  have hle := Ppr.escL_len s.data.toList
  have CQ : Kept (∀ wx, Calls Tryz.prog 8 #[.string s] wx fun e w' => ∃ Q : ByteArray, e = .returned (.string Q) ∧ Kept (Q.data.toList = Ppr.quoL s.data.toList) ∧ Q.size ≤ 40000 ∧ Below wx.heap.size wx w') := ⟨fun wx => (Wpr.Quote_any s wx (by omega)).mono fun e w' ⟨h1, h2⟩ => ⟨_, h1, ⟨rfl⟩, by rw [Lib.size_mk]; omega, h2⟩⟩
  have CE : Kept (∀ wx, Calls Tryz.prog 9 #[.string s] wx fun e w' => ∃ Q : ByteArray, e = .returned (.string Q) ∧ Kept (Q.data.toList = Ppr.escL s.data.toList) ∧ Q.size ≤ 40000 ∧ Below wx.heap.size wx w') := ⟨fun wx => (Wpr.Escape_any s wx (by omega)).mono fun e w' ⟨h1, h2⟩ => ⟨_, h1, ⟨rfl⟩, by rw [Lib.size_mk]; omega, h2⟩⟩
  have hread : ∀ Q E : ByteArray, Q.data.toList = Ppr.quoL s.data.toList → E.data.toList = Ppr.escL s.data.toList → ((⟨#[60, 97, 32, 120, 61]⟩ : ByteArray) ++ Q ++ ⟨#[62]⟩ ++ E ++ ⟨#[60, 47, 97, 62]⟩).data.toList = Ppa.readT s.data.toList := fun Q E h1 h2 => by
    rw [cat8, cat8, cat8, cat8, h1, h2]
    rfl
  have hcsz : ∀ Q E : ByteArray, Q.size ≤ 40000 → E.size ≤ 40000 → ((⟨#[60, 97, 32, 120, 61]⟩ : ByteArray) ++ Q ++ ⟨#[62]⟩ ++ E ++ ⟨#[60, 47, 97, 62]⟩).size ≤ 1000000 := fun Q E h1 h2 => by
    simp only [ByteArray.size_append]
    have e1 : (⟨#[60, 97, 32, 120, 61]⟩ : ByteArray).size = 5 := rfl
    have e2 : (⟨#[62]⟩ : ByteArray).size = 1 := rfl
    have e3 : (⟨#[60, 47, 97, 62]⟩ : ByteArray).size = 4 := rfl
    omega
  have KR := Kept.mk (And.intro hread hcsz)
  clear hread hcsz hlq hle
  cases ht : Pch.textsL s.data.toList with
  | false =>
    obtain ⟨k, hk⟩ := Ppa.read_no ht (by omega)
    have HK := Kept.mk hk
    clear hk ht
    go_enter Tryz.func3, Tryz.ntmps3
    go_wp2_with (fail)
    refine (Wpr.awake_any _ HR.out).mono ?_; rintro e w1 ⟨rfl, hb1⟩
    have B1 := Kept.mk hb1
    clear hb1
    go_wp2_with (fail)
    refine (CQ.out _).mono ?_; rintro e w2 ⟨Q, rfl, hQ, hQz, hb2⟩
    have B2 := Kept.mk (below_step B1.out hb2)
    have s1 : ¬ 9223372036854775807 < 5 + Q.size := by omega
    have s2 : ¬ 9223372036854775807 < 5 + Q.size + 1 := by omega
    clear hb2
    go_wp2_with (fail)
    refine (CE.out _).mono ?_; rintro e w3 ⟨E, rfl, hE, hEz, hb3⟩
    have B3 := Kept.mk (below_step B2.out hb3)
    have s3 : ¬ 9223372036854775807 < 5 + Q.size + 1 + E.size := by omega
    have s4 : ¬ 9223372036854775807 < 5 + Q.size + 1 + E.size + 4 := by omega
    have CF := Kept.mk (fragment_any _ w3 (HT.out.below B3.out) (KR.out.2 Q E hQz hEz))
    rw [KR.out.1 Q E hQ.out hE.out, HK.out] at CF
    clear hb3
    go_wp2_with (fail)
    refine CF.out.mono ?_; rintro e w4 ⟨hb4, A, c, rfl, _⟩
    have V := Fv.make w4 120 k
    have v0 := V.c0
    have B4 := Kept.mk (below_step (below_step B3.out hb4) ((Below.refl w4.heap.size w4).alloc (Nat.le_refl _) (.cells #[.int .i64 120, .int .i64 k] 26)))
    clear hb4
    go_wp2_with (fail)
    go_ret
    exact ⟨rfl, B4.out⟩
  | true =>
    have hk := Ppa.read_ok ht (by omega)
    have hsb : (⟨s.data.toList.toArray⟩ : ByteArray) = s := by simp
    by_cases h0 : s.data.toList = []
    · have hN : Ppa.readN s.data.toList = [(2, [97], [], -1), (3, [120], s.data.toList, 0)] := by unfold Ppa.readN; rw [if_pos h0]; rfl
      rw [hN] at hk
      have HK := Kept.mk hk
      have q1 : (s.toList == ([] : List UInt8)) = true := by
        rw [ByteArray.toList_eq, h0]
        rfl
      clear hk ht hN h0 hsb
      go_enter Tryz.func3, Tryz.ntmps3
      go_wp2_with (fail)
      refine (Wpr.awake_any _ HR.out).mono ?_; rintro e w1 ⟨rfl, hb1⟩
      have B1 := Kept.mk hb1
      clear hb1
      go_wp2_with (fail)
      refine (CQ.out _).mono ?_; rintro e w2 ⟨Q, rfl, hQ, hQz, hb2⟩
      have B2 := Kept.mk (below_step B1.out hb2)
      have s1 : ¬ 9223372036854775807 < 5 + Q.size := by omega
      have s2 : ¬ 9223372036854775807 < 5 + Q.size + 1 := by omega
      clear hb2
      go_wp2_with (fail)
      refine (CE.out _).mono ?_; rintro e w3 ⟨E, rfl, hE, hEz, hb3⟩
      have B3 := Kept.mk (below_step B2.out hb3)
      have s3 : ¬ 9223372036854775807 < 5 + Q.size + 1 + E.size := by omega
      have s4 : ¬ 9223372036854775807 < 5 + Q.size + 1 + E.size + 4 := by omega
      have CF := Kept.mk (fragment_any _ w3 (HT.out.below B3.out) (KR.out.2 Q E hQz hEz))
      rw [KR.out.1 Q E hQ.out hE.out, HK.out] at CF
      clear hb3
      go_wp2_with (fail)
      refine CF.out.mono ?_; rintro e w4 ⟨hb4, A, c, rfl, ho⟩
      have V := Fv.make w4 0 0
      have v0 := V.c0
      have D4 := (Below.refl w4.heap.size w4).alloc (Nat.le_refl _) (.cells #[.int .i64 0, .int .i64 0] 26)
      have B4 := Kept.mk (below_step (below_step B3.out hb4) D4)
      have O4 := own_below ho D4
      obtain ⟨g, hA, hcn, hgl⟩ := own_some8 O4 (Nat.succ_pos _)
      subst hA
      have c6 := own_at O4 6 (.string ⟨s.data.toList.toArray⟩) rfl
      rw [show (⟨s.data.toList.toArray⟩ : ByteArray) = s by simp] at c6
      clear hb4 ho O4 D4
      go_wp2_with (fail)
      go_ret
      exact ⟨rfl, B4.out⟩
    · have hN : Ppa.readN s.data.toList = [(2, [97], [], -1), (3, [120], s.data.toList, 0), (4, [], s.data.toList, 0)] := by unfold Ppa.readN; rw [if_neg h0]; rfl
      rw [hN] at hk
      have HK := Kept.mk hk
      have hz : ¬ s.size = 0 := fun e => h0 (List.eq_nil_of_length_eq_zero (by rw [size_len]; exact e))
      have q1 : (s.toList == ([] : List UInt8)) = false := by
        rw [ByteArray.toList_eq]
        simpa using h0
      clear hk ht hN h0 hsb
      go_enter Tryz.func3, Tryz.ntmps3
      go_wp2_with (fail)
      refine (Wpr.awake_any _ HR.out).mono ?_; rintro e w1 ⟨rfl, hb1⟩
      have B1 := Kept.mk hb1
      clear hb1
      go_wp2_with (fail)
      refine (CQ.out _).mono ?_; rintro e w2 ⟨Q, rfl, hQ, hQz, hb2⟩
      have B2 := Kept.mk (below_step B1.out hb2)
      have s1 : ¬ 9223372036854775807 < 5 + Q.size := by omega
      have s2 : ¬ 9223372036854775807 < 5 + Q.size + 1 := by omega
      clear hb2
      go_wp2_with (fail)
      refine (CE.out _).mono ?_; rintro e w3 ⟨E, rfl, hE, hEz, hb3⟩
      have B3 := Kept.mk (below_step B2.out hb3)
      have s3 : ¬ 9223372036854775807 < 5 + Q.size + 1 + E.size := by omega
      have s4 : ¬ 9223372036854775807 < 5 + Q.size + 1 + E.size + 4 := by omega
      have CF := Kept.mk (fragment_any _ w3 (HT.out.below B3.out) (KR.out.2 Q E hQz hEz))
      rw [KR.out.1 Q E hQ.out hE.out, HK.out] at CF
      clear hb3
      go_wp2_with (fail)
      refine CF.out.mono ?_; rintro e w4 ⟨hb4, A, c, rfl, ho⟩
      have V := Fv.make w4 0 0
      have v0 := V.c0
      have D4 := (Below.refl w4.heap.size w4).alloc (Nat.le_refl _) (.cells #[.int .i64 0, .int .i64 0] 26)
      have B4 := Kept.mk (below_step (below_step B3.out hb4) D4)
      have O4 := own_below ho D4
      obtain ⟨g, hA, hcn, hgl⟩ := own_some8 O4 (Nat.succ_pos _)
      subst hA
      have c6 := own_at O4 6 (.string ⟨s.data.toList.toArray⟩) rfl
      have c10 := own_at O4 10 (.string ⟨s.data.toList.toArray⟩) rfl
      rw [show (⟨s.data.toList.toArray⟩ : ByteArray) = s by simp] at c6 c10
      clear hb4 ho O4 D4
      go_wp2_with (fail)
      go_ret
      exact ⟨rfl, B4.out⟩
end Go.Proofs.YtemfmidhekdekaaGreatDoor.Wps
