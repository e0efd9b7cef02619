/- The walk over LinesNumbers (chapter 31). -/
import Derived.Test.YtakccaldcolbmaaGreatDoorLinesSw
import Derived.Test.YtakccaldcolbmaaGreatDoorLinesNp
import Derived.Test.YtakccaldcolbmaaGreatDoorShelfRep
import Derived.Deep.CutBlock
namespace Go.Proofs.YtakccaldcolbmaaGreatDoor.Wln
open Go Go.RowKit Go.Proofs.YtakccaldcolbmaaGreatDoor.Kb

/-- a command's cells; A: where its fates lie -/
def cmdC (A : Nat) (p : Pln.Cmd) : List Value := [.int .u8 (p.1 : Int), .string ⟨p.2.1.toArray⟩, .int .i64 p.2.2.1, match p.2.2.2 with | [] => .slice none 0 0 | F => .slice (some ⟨A, 0, none⟩) F.length F.length]
def cmdsC (A : Nat) : List Value := (Pln.yesP.map fun p => cmdC A p.2).flatten
theorem yes_cells (A : Nat) : ∀ k, k < 10 → ∃ p, Pln.yesP[k]? = some p ∧ p ∈ Pln.yesP ∧ (stC Pln.yesL)[k]? = some (.string ⟨p.1.toArray⟩) ∧ (cmdsC A)[k * 4]? = some (.int .u8 (p.2.1 : Int)) ∧ (cmdsC A)[k * 4 + 1]? = some (.string ⟨p.2.2.1.toArray⟩) ∧ (cmdsC A)[k * 4 + 2]? = some (.int .i64 p.2.2.2.1) ∧
    ((p.2.2.2.2 = [] ∧ (cmdsC A)[k * 4 + 3]? = some (.slice none 0 0)) ∨ (p.2.2.2.2 = [(-1, 0), (0, 255)] ∧ (cmdsC A)[k * 4 + 3]? = some (.slice (some ⟨A, 0, none⟩) 2 2))) := by
  intro k hk
  rcases (by omega : k = 0 ∨ k = 1 ∨ k = 2 ∨ k = 3 ∨ k = 4 ∨ k = 5 ∨ k = 6 ∨ k = 7 ∨ k = 8 ∨ k = 9) with rfl | rfl | rfl | rfl | rfl | rfl | rfl | rfl | rfl | rfl
  all_goals first
    | exact ⟨_, rfl, by simp [Pln.yesP], rfl, rfl, rfl, rfl, .inl ⟨rfl, rfl⟩⟩
    | exact ⟨_, rfl, by simp [Pln.yesP], rfl, rfl, rfl, rfl, .inr ⟨rfl, rfl⟩⟩
theorem catA (a : ByteArray) (b : List UInt8) : (a ++ ⟨b.toArray⟩ : ByteArray).data.toList = a.data.toList ++ b := by simp
theorem catB (a : List UInt8) (b : ByteArray) : ((⟨a.toArray⟩ : ByteArray) ++ b).data.toList = a ++ b.data.toList := by simp
/-- the fates of the line that has some -/
def ftL : List (Int × Int) := [(-1, 0), (0, 255)]
/-- the line as the walk meets it, with the command that it says -/
theorem yes_call (A k : Nat) (hk : k < 10) : ∃ (x : List UInt8) (kd : Nat) (t : List UInt8) (n : Int) (sl : Value), (stC Pln.yesL)[k]? = some (.string ⟨x.toArray⟩) ∧ (cmdsC A)[k * 4]? = some (.int .u8 (kd : Int)) ∧ (cmdsC A)[k * 4 + 1]? = some (.string ⟨t.toArray⟩) ∧ (cmdsC A)[k * 4 + 2]? = some (.int .i64 n) ∧ (cmdsC A)[k * 4 + 3]? = some sl ∧
    x.length ≤ 100 ∧ Pln.lineL (x ++ [32, 120]) = none ∧ Pln.lineL (x ++ [32, 34, 97, 34]) = none ∧ Pln.lineL ([120, 32] ++ x) = none ∧
    ∀ w, LEnv w → RdF w (some ⟨A, 0, none⟩) ftL → Calls Tryz.prog 14 #[.string ⟨x.toArray⟩, .agg #[.int .u8 (kd : Int), .string ⟨t.toArray⟩, .int .i64 n, sl]] w fun e w' => e = .returned (.bool true) ∧ Below w.heap.size w w' := by
  obtain ⟨⟨x, kd, t, n, F⟩, h0, hm, h1, h2, h3, h4, h5⟩ := yes_cells A k hk
  have a1 := Pln.yes_1 _ hm
  obtain ⟨b1, b2⟩ := Pln.yes_5 _ hm
  have c2 := Pln.yes_2 _ hm
  have c3 := Pln.yes_3 _ hm
  have c4 := Pln.yes_4 _ hm
  simp only at h1 h2 h3 h4 h5 a1 b1 b2 c2 c3 c4
  have hx : (⟨x.toArray⟩ : ByteArray).size ≤ 65536 := by rw [Lib.size_mk]; omega
  rcases h5 with ⟨rfl, h5⟩ | ⟨rfl, h5⟩
  · exact ⟨x, kd, t, n, _, h1, h2, h3, h4, h5, b1, c2, c3, c4, fun w hE _ => is_any ⟨x.toArray⟩ kd t n [] none 0 0 w hE a1 hx rfl (by decide) (rdf_nil _ _)⟩
  · exact ⟨x, kd, t, n, _, h1, h2, h3, h4, h5, b1, c2, c3, c4, fun w hE hr => is_any ⟨x.toArray⟩ kd t n [(-1, 0), (0, 255)] _ 2 2 w hE a1 hx rfl (by decide) hr⟩
/-- a line that is refused -/
structure Rfs (s : ByteArray) : Prop where
  out : ∀ w, LEnv w → Calls Tryz.prog 15 #[.string s] w fun e w' => e = .returned (.bool true) ∧ Below w.heap.size w w'
theorem refused_at (s : ByteArray) (l : List UInt8) (hs : s.data.toList = l) (h : Pln.lineL l = none) (hl : l.length ≤ 65536) : Rfs s := by
  refine ⟨fun w hE => ?_⟩
  subst hs
  rw [size_len] at hl
  exact refused_any s w hE h hl
theorem load_list (x : UInt8) (Q : ByteArray) (hQ : (⟨(Pln.quoL [x]).toArray⟩ : ByteArray) = Q) : ((⟨#[108, 111, 97, 100, 32]⟩ : ByteArray) ++ Q).data.toList = Pln.wLoad ++ 32 :: Pln.quoL [x] := by
  rw [catB [108, 111, 97, 100, 32] Q, ← hQ]
  rfl
theorem is_load (x : UInt8) (Q : ByteArray) (hQ : (⟨(Pln.quoL [x]).toArray⟩ : ByteArray) = Q) (hQz : Q.size ≤ 100) (wx : World) (hE : LEnv wx) :
    Calls Tryz.prog 14 #[.string (⟨#[108, 111, 97, 100, 32]⟩ ++ Q), .agg #[.int .u8 1, .string ⟨#[x]⟩, .int .i64 0, .slice none 0 0]] wx fun e w' => e = .returned (.bool true) ∧ Below wx.heap.size wx w' := by
  have hl := load_list x Q hQ
  have hs : ((⟨#[108, 111, 97, 100, 32]⟩ : ByteArray) ++ Q).size ≤ 65536 := by
    rw [ByteArray.size_append]
    have : (⟨#[108, 111, 97, 100, 32]⟩ : ByteArray).size = 5 := rfl
    omega
  generalize (⟨#[108, 111, 97, 100, 32]⟩ : ByteArray) ++ Q = S at hl hs ⊢
  exact is_any S 1 [x] 0 [] none 0 0 wx hE (by rw [hl]; exact Pln.line_load1 [x]) hs rfl (by decide) (rdf_nil _ _)
/-- LinesShows at two items -/
theorem shows_two (k n : Nat) (hk : k < 256) (hn : n < 256) (w : World) (hE : LEnv (w.alloc (.cells #[.int .u8 (k : Int), .int .u8 (n : Int), .string ⟨#[120]⟩, .string ⟨#[121, 10]⟩, .int .i64 ((n : Int) - 1), .int .u8 (k : Int), .int .u8 0, .string ⟨#[]⟩, .string ⟨#[]⟩, .int .i64 (-9223372036854775808)] 26))) :
    Calls Tryz.prog 3 #[.slice (some ⟨w.heap.size, 0, none⟩) 2 2, .string ⟨#[]⟩] (w.alloc (.cells #[.int .u8 (k : Int), .int .u8 (n : Int), .string ⟨#[120]⟩, .string ⟨#[121, 10]⟩, .int .i64 ((n : Int) - 1), .int .u8 (k : Int), .int .u8 0, .string ⟨#[]⟩, .string ⟨#[]⟩, .int .i64 (-9223372036854775808)] 26)) fun e w' => e = .returned (.bool true) ∧ Below (w.alloc (.cells #[.int .u8 (k : Int), .int .u8 (n : Int), .string ⟨#[120]⟩, .string ⟨#[121, 10]⟩, .int .i64 ((n : Int) - 1), .int .u8 (k : Int), .int .u8 0, .string ⟨#[]⟩, .string ⟨#[]⟩, .int .i64 (-9223372036854775808)] 26)).heap.size (w.alloc (.cells #[.int .u8 (k : Int), .int .u8 (n : Int), .string ⟨#[120]⟩, .string ⟨#[121, 10]⟩, .int .i64 ((n : Int) - 1), .int .u8 (k : Int), .int .u8 0, .string ⟨#[]⟩, .string ⟨#[]⟩, .int .i64 (-9223372036854775808)] 26)) w' := by
  have hr := rdi_new w 26 [(k, n, [120], [121, 10], (n : Int) - 1), (k, 0, [], [], -9223372036854775808)]
  refine law_shows (some ⟨w.heap.size, 0, none⟩) [(k, n, [120], [121, 10], (n : Int) - 1), (k, 0, [], [], -9223372036854775808)] 2 ⟨#[]⟩ _ hE hr (fun h => by cases h) (by show 2 ≤ _; decide) (fun x hx => ?_) (by show 0 ≤ _; decide)
  simp only [List.mem_cons, List.mem_nil_iff, or_false] at hx
  rcases hx with rfl | rfl
  · exact ⟨hk, hn, by show 1 ≤ _; decide, by show 2 ≤ _; decide, by show _ ≤ (n : Int) - 1; omega, by show (n : Int) - 1 ≤ _; omega⟩
  · exact ⟨hk, by show 0 < 256; decide, by show 0 ≤ _; decide, by show 0 ≤ _; decide, by show (-9223372036854775808 : Int) ≤ -9223372036854775808; decide, by show (-9223372036854775808 : Int) ≤ _; decide⟩
theorem rep_x (n : Nat) : Lib.repeatL [120] n = List.replicate n (120 : UInt8) := by
  induction n with
  | zero => rfl
  | succ n ih => rw [List.replicate_succ, ← ih]; rfl
theorem rep_full (w : World) : Calls Tryz.prog 17 #[.string ⟨#[120]⟩, .int .i64 65529] w fun e w' => ∃ (Y : ByteArray) (N : Nat), e = .returned (.string Y) ∧ N = 65529 ∧ Y.data.toList = List.replicate N 120 ∧ Below w.heap.size w w' := by
  have h := Any.strings_Repeat Tryz.lays105 Tryz.Builder_Extra_105 ⟨#[120]⟩ 65529 w (by decide) (by decide)
  exact h.mono fun e w' ⟨he, hb⟩ => ⟨_, 65529, he, rfl, rep_x _, hb⟩
theorem full_list (Y : ByteArray) (N : Nat) (hY : Y.data.toList = List.replicate N 120) : ((⟨#[108, 111, 97, 100, 32, 34]⟩ : ByteArray) ++ Y ++ ⟨#[34]⟩).data.toList = Pln.wLoad ++ 32 :: 34 :: (List.replicate N 120 ++ [34]) := by
  rw [catA ((⟨#[108, 111, 97, 100, 32, 34]⟩ : ByteArray) ++ Y) [34], catB [108, 111, 97, 100, 32, 34] Y, hY]
  simp [Pln.wLoad]
theorem cmd_full (Y : ByteArray) (N : Nat) (hN : N = 65529) (hY : Y.data.toList = List.replicate N 120) (w : World) (hE : LEnv w) :
    Calls Tryz.prog 18 #[.string ((⟨#[108, 111, 97, 100, 32, 34]⟩ : ByteArray) ++ Y ++ ⟨#[34]⟩)] w fun e w' => (∃ A c, e = .returned (.tuple #[.agg #[.int .u8 1, .string Y, .int .i64 0, .slice A 0 c], .int .i64 0])) ∧ Below w.heap.size w w' := by
  have hl := full_list Y N hY
  have hs : ((⟨#[108, 111, 97, 100, 32, 34]⟩ : ByteArray) ++ Y ++ ⟨#[34]⟩).size = 65536 := by
    rw [← size_len, hl]
    simp [Pln.wLoad]
    omega
  have hY2 : Y = ⟨(List.replicate N 120).toArray⟩ := by rw [← hY]
  generalize (⟨#[108, 111, 97, 100, 32, 34]⟩ : ByteArray) ++ Y ++ ⟨#[34]⟩ = S at hl hs ⊢
  have h := Command_any S w hE (by omega)
  have hr : lineR S.data.toList = some (some (1, List.replicate N 120, 0, [])) := by
    unfold lineR
    rw [if_neg (by rw [size_len]; omega), hl, Pln.line_full]
  rw [hr] at h
  refine h.mono ?_
  rintro e w' ⟨hb, A, c, he, _⟩
  refine ⟨⟨A, c, ?_⟩, hb⟩
  rw [he, hY2]
  rfl
theorem cmd_over (S : ByteArray) (hs : S.size = 65537) (w : World) (hE : LEnv w) :
    Calls Tryz.prog 18 #[.string S] w fun e w' => e = .returned (.tuple #[.agg #[.int .u8 0, .string ⟨#[]⟩, .int .i64 0, .slice none 0 0], .int .i64 3]) ∧ Below w.heap.size w w' := by
  have h := Command_any S w hE (by omega)
  have hr : lineR S.data.toList = none := by
    unfold lineR
    rw [if_pos (by rw [size_len]; omega)]
  rw [hr] at h
  exact h.mono fun e w' ⟨hb, he⟩ => ⟨he, hb⟩
set_option maxRecDepth 100000 in
set_option maxHeartbeats 4000000 in
theorem law_numbers (w : World) (hE : LEnv w) :
    Calls Tryz.prog 4 #[] w fun e w' => e = .returned (.bool true) ∧ Below w.heap.size w w' := by
  have HE := Kept.mk hE
  clear hE
  go_enter Tryz.func4, Tryz.ntmps4
  go_upto_region 3 with (fail)
  have hB0 : Below w.heap.size w (((w.alloc (.cells (stC Pln.yesL).toArray 9)).alloc (.cells (fatesC ftL).toArray 42)).alloc (.cells (cmdsC (w.heap.size + 1)).toArray 40)) := (((Below.refl _ _).alloc (Nat.le_refl _) _).alloc (by simp) _).alloc (by simp; omega) _
  have hY : ∀ k v, (stC Pln.yesL)[k]? = some v → (((w.alloc (.cells (stC Pln.yesL).toArray 9)).alloc (.cells (fatesC ftL).toArray 42)).alloc (.cells (cmdsC (w.heap.size + 1)).toArray 40)).cell? ⟨w.heap.size, k, none⟩ = some v := fun k v h => by
    have h0 : (w.alloc (.cells (stC Pln.yesL).toArray 9)).cell? ⟨w.heap.size, k, none⟩ = some v := by rw [World.cell?_alloc_new]; simpa using h
    have hb : Below (w.alloc (.cells (stC Pln.yesL).toArray 9)).heap.size (w.alloc (.cells (stC Pln.yesL).toArray 9)) (((w.alloc (.cells (stC Pln.yesL).toArray 9)).alloc (.cells (fatesC ftL).toArray 42)).alloc (.cells (cmdsC (w.heap.size + 1)).toArray 40)) := ((Below.refl _ _).alloc (Nat.le_refl _) _).alloc (by simp) _
    rw [hb.cell (p := ⟨w.heap.size, k, none⟩) (cell_lt h0)]
    exact h0
  have hF : RdF (((w.alloc (.cells (stC Pln.yesL).toArray 9)).alloc (.cells (fatesC ftL).toArray 42)).alloc (.cells (cmdsC (w.heap.size + 1)).toArray 40)) (some ⟨w.heap.size + 1, 0, none⟩) ftL := by
    have h := rdf_new (w.alloc (.cells (stC Pln.yesL).toArray 9)) 42 ftL
    rw [World.size_alloc] at h
    exact h.below ((Below.refl _ _).alloc (Nat.le_refl _) _)
  have hC : ∀ k v, (cmdsC (w.heap.size + 1))[k]? = some v → (((w.alloc (.cells (stC Pln.yesL).toArray 9)).alloc (.cells (fatesC ftL).toArray 42)).alloc (.cells (cmdsC (w.heap.size + 1)).toArray 40)).cell? ⟨w.heap.size + 1 + 1, k, none⟩ = some v := fun k v h => by
    have h0 := World.cell?_alloc_new ((w.alloc (.cells (stC Pln.yesL).toArray 9)).alloc (.cells (fatesC ftL).toArray 42)) (cmdsC (w.heap.size + 1)).toArray 40 k
    rw [World.size_alloc, World.size_alloc] at h0
    rw [h0]
    simpa using h
  change Code.wp _ _ _ _ (((w.alloc (.cells (stC Pln.yesL).toArray 9)).alloc (.cells (fatesC ftL).toArray 42)).alloc (.cells (cmdsC (w.heap.size + 1)).toArray 40))
  generalize ((w.alloc (.cells (stC Pln.yesL).toArray 9)).alloc (.cells (fatesC ftL).toArray 42)).alloc (.cells (cmdsC (w.heap.size + 1)).toArray 40) = W0 at hB0 hY hF hC ⊢
  have hyc := yes_call (w.heap.size + 1)
  generalize hg : w.heap.size + 1 + 1 = g2 at hC ⊢
  have HY := Kept.mk hY
  have HF := Kept.mk hF
  have HC := Kept.mk hC
  have HB0 := Kept.mk hB0
  have YC := Kept.mk hyc
  clear hY hF hC hB0 hyc
  go_wp2
  go_loopw [3] (fun i wx => ∃ k : Nat, k ≤ 10 ∧ i = .int .i64 (k : Int) ∧ Kept (Below W0.heap.size W0 wx)) (fun i _ => 10 - (intOf i).toNat)
  case atStart => exact ⟨0, by omega, rfl, ⟨Below.refl _ _⟩⟩
  case round =>
    obtain ⟨k, hk, rfl, HB⟩ := hrel
    have k0 : (0 : Int) ≤ (k : Int) := by omega
    have hz0 := HB0.out.size
    by_cases hlt : k < 10
    · have k1 : (k : Int) < 10 := by omega
      obtain ⟨x, kd, t, n, sl, h1, h2, h3, h4, h5, hx, n1, n2, n3, hI⟩ := YC.out k hlt
      have BW := Kept.mk (HB0.out.trans (HB.out.mono hz0))
      have q1 := HY.out _ _ h1
      have q2 := HC.out _ _ h2
      have q3 := HC.out _ _ h3
      have q4 := HC.out _ _ h4
      have q5 := HC.out _ _ h5
      clear h1 h2 h3 h4 h5
      obtain ⟨X, hX⟩ : ∃ X : ByteArray, (⟨x.toArray⟩ : ByteArray) = X := ⟨_, rfl⟩
      rw [hX] at q1 hI
      have hXs : X.size ≤ 100 := by rw [← hX, Lib.size_mk]; exact hx
      have m1 : ¬ 9223372036854775807 < X.size + 2 := by omega
      have m2 : ¬ 9223372036854775807 < X.size + 4 := by omega
      have m3 : ¬ 9223372036854775807 < 2 + X.size := by omega
      have C1 := refused_at (X ++ ⟨#[32, 120]⟩) (x ++ [32, 120]) (by rw [← hX]; simp) n1 (by simp; omega)
      have C2 := refused_at (X ++ ⟨#[32, 34, 97, 34]⟩) (x ++ [32, 34, 97, 34]) (by rw [← hX]; simp) n2 (by simp; omega)
      have C3 := refused_at (⟨#[120, 32]⟩ ++ X) ([120, 32] ++ x) (by rw [← hX]; simp) n3 (by simp; omega)
      have CI := Kept.mk hI
      clear n1 n2 n3 hI hX hx
      have r1 : wr.cell? ⟨w.heap.size, k, none⟩ = some (.string X) := by rw [HB.out.cell (p := ⟨w.heap.size, k, none⟩) (cell_lt q1)]; exact q1
      have r2 : wr.cell? ⟨g2, k * 4, none⟩ = some (.int .u8 (kd : Int)) := by rw [HB.out.cell (p := ⟨g2, k * 4, none⟩) (cell_lt q2)]; exact q2
      have r3 : wr.cell? ⟨g2, k * 4 + 1, none⟩ = some (.string ⟨t.toArray⟩) := by rw [HB.out.cell (p := ⟨g2, k * 4 + 1, none⟩) (cell_lt q3)]; exact q3
      have r4 : wr.cell? ⟨g2, k * 4 + 2, none⟩ = some (.int .i64 n) := by rw [HB.out.cell (p := ⟨g2, k * 4 + 2, none⟩) (cell_lt q4)]; exact q4
      have r5 : wr.cell? ⟨g2, k * 4 + 3, none⟩ = some sl := by rw [HB.out.cell (p := ⟨g2, k * 4 + 3, none⟩) (cell_lt q5)]; exact q5
      clear q2 q3 q4 q5
      have x1 := beh_cell r1
      have x2 := beh_cell r2
      have x3 := beh_cell r3
      have x4 := beh_cell r4
      have x5 := beh_cell r5
      have EW := Kept.mk (HE.out.below BW.out)
      have FW := Kept.mk (HF.out.below HB.out)
      have cI := Kept.mk (fun (x : Beh wr) => CI.out x.fin (EW.out.below x.ok) (FW.out.below x.ok))
      have cR := Kept.mk (fun s (h : Rfs s) (x : Beh wr) => h.out x.fin (EW.out.below x.ok))
      clear r1 r2 r3 r4 r5 q1 CI
      go_wp2
      refine wp_region_beh (by kernel_rfl) (by kernel_rfl) ?_
      repeat
        (refine Qw_step (fun K hK => ?_)
         go_simp
         first
           | (refine hK _ ?_; clear hK K)
           | (apply Exists.intro
              refine ⟨fun _ => ?_, hK _ ?_⟩
              (first
                | (go_at_call 14; exact Calls.beh_of (cI.out _))
                | (go_at_call 15; exact Calls.beh_of (cR.out _ (by with_reducible first | exact C1 | exact C2 | exact C3) _)))
              clear hK K))
      refine Qw_nil ?_
      rintro _ ⟨⟨w5, hb5⟩, rfl⟩
      go_wp2
      go_roundw
      case rel => exact ⟨k + 1, by omega, by go_num, ⟨HB.out.trans (hb5.mono HB.out.size)⟩⟩
      case measure => simp [intOf]; omega
    · obtain rfl : k = 10 := by omega
      have B1 := Kept.mk (HB0.out.trans (HB.out.mono hz0))
      clear HB HB0 HY HF HC YC k0 hk hlt hg hz0
      have HV := Kept.mk (rds_new wr 9 Pln.noL)
      have BN := Kept.mk (B1.out.trans (((Below.refl wr.heap.size wr).alloc (Nat.le_refl _) (.cells (stC Pln.noL).toArray 9)).mono B1.out.size))
      clear B1
      rw [show ((10 : Nat) : Int) = 10 from rfl]
      obtain ⟨w2, rfl⟩ : ∃ w2 : World, w2 = wr := ⟨_, rfl⟩
      go_wp2
      go_loopw [5] (fun i wx => ∃ k : Nat, k ≤ 32 ∧ i = .int .i64 (k : Int) ∧ Kept (Below (w2.alloc (.cells (stC Pln.noL).toArray 9)).heap.size (w2.alloc (.cells (stC Pln.noL).toArray 9)) wx)) (fun i _ => 32 - (intOf i).toNat)
      case atStart => exact ⟨0, by omega, rfl, ⟨Below.refl _ _⟩⟩
      case round =>
        obtain ⟨k, hk, rfl, HB⟩ := hrel
        have k0 : (0 : Int) ≤ (k : Int) := by omega
        have hz0 := BN.out.size
        by_cases hlt : k < 32
        · have k1 : (k : Int) < 32 := by omega
          obtain ⟨x, hx⟩ : ∃ x, Pln.noL[k]? = some x := ⟨_, List.getElem?_eq_getElem (show k < Pln.noL.length from hlt)⟩
          obtain ⟨g, off, e, hc⟩ := (HV.out.below HB.out) k x hx
          cases e
          rw [Nat.zero_add] at hc
          obtain ⟨X, hX⟩ : ∃ X : ByteArray, (⟨x.toArray⟩ : ByteArray) = X := ⟨_, rfl⟩
          rw [hX] at hc
          have C1 := refused_at X x (by rw [← hX]) (Pln.no_1 x (List.mem_of_getElem? hx)) (Nat.le_trans (Pln.no_2 x (List.mem_of_getElem? hx)) (by decide))
          have EW := Kept.mk ((HE.out.below BN.out).below HB.out)
          clear hx hX
          go_wp2_with (go_at_call 15; refine (C1.out _ EW.out).mono ?_; rintro e w5 ⟨rfl, hb5⟩; have B5 := Kept.mk (HB.out.trans (hb5.mono HB.out.size)); clear hb5)
          go_roundw
          case rel => exact ⟨k + 1, by omega, by go_num, B5⟩
          case measure => simp [intOf]; omega
        · obtain rfl : k = 32 := by omega
          have B1 := Kept.mk (BN.out.trans (HB.out.mono hz0))
          clear HB HV BN k0 hk hlt hz0
          rw [show ((32 : Nat) : Int) = 32 from rfl]
          obtain ⟨w3, rfl⟩ : ∃ w3 : World, w3 = wr := ⟨_, rfl⟩
          go_wp2
          go_loopw [6] (fun i wx => ∃ k : Nat, k ≤ 256 ∧ i = .int .i64 (k : Int) ∧ Kept (Below w.heap.size w wx)) (fun i _ => 256 - (intOf i).toNat)
          case atStart => exact ⟨0, by omega, rfl, B1⟩
          case round =>
            obtain ⟨k, hk, rfl, HB⟩ := hrel
            have k0 : (0 : Int) ≤ (k : Int) := by omega
            by_cases hlt : k < 256
            · have k1 : (k : Int) < 256 := by omega
              obtain ⟨x, hx⟩ : ∃ x : UInt8, x.toNat = k := ⟨UInt8.ofNat k, by rw [UInt8.toNat_ofNat']; omega⟩
              have hcv := conv_ownB [x] (own_lit wr [x] (by show 1 ≤ 1000; decide)) rfl
              have hcv : (convert 46 9 (.slice (some ⟨wr.heap.size, 0, none⟩) 1 1)).run Tryz.prog (wr.alloc (.cells #[.int .u8 (k : Int)] 5)) = .ok (.string ⟨#[x]⟩) (wr.alloc (.cells #[.int .u8 (k : Int)] 5)) := by rw [← hx]; exact hcv
              have BL := Kept.mk (HB.out.alloc HB.out.size (.cells #[.int .u8 (k : Int)] 5))
              obtain ⟨Q, hQ⟩ : ∃ Q : ByteArray, (⟨(Pln.quoL [x]).toArray⟩ : ByteArray) = Q := ⟨_, rfl⟩
              have hQz : Q.size ≤ 100 := by rw [← hQ, Lib.size_mk]; have := quoL_len [x]; simp at this; omega
              have hQ1 : ¬ 9223372036854775807 < 5 + Q.size := by omega
              have CQ : Kept (∀ wx, Calls Tryz.prog 11 #[.string ⟨#[x]⟩] wx fun e w' => e = .returned (.string Q) ∧ Below wx.heap.size wx w') := ⟨fun wx => by rw [← hQ]; exact Quote_any ⟨#[x]⟩ wx (by show 1 ≤ _; decide)⟩
              have CI := Kept.mk (is_load x Q hQ hQz)
              clear hQ hx
              go_wp2_with (fail)
              refine (law_shows none [] 0 _ _ (HE.out.below BL.out) (fun i y h => by cases h) (fun _ => rfl) (by decide) (fun y h => by cases h) (by show ((⟨#[97]⟩ : ByteArray) ++ ⟨#[x]⟩).size ≤ _; rw [ByteArray.size_append]; show 1 + 1 ≤ 140737488355328; decide)).mono ?_; rintro e w4 ⟨rfl, hb4⟩
              have H4 := Kept.mk (BL.out.trans (hb4.mono BL.out.size))
              clear hb4
              go_wp2_with (fail)
              refine (law_commands _ _ (HE.out.below H4.out)).mono ?_; rintro e w5 ⟨rfl, hb5⟩
              have H5 := Kept.mk (H4.out.trans (hb5.mono H4.out.size))
              clear hb5
              go_wp2_with (fail)
              refine (law_commands _ _ (HE.out.below H5.out)).mono ?_; rintro e w6 ⟨rfl, hb6⟩
              have H6 := Kept.mk (H5.out.trans (hb6.mono H5.out.size))
              clear hb6
              go_wp2_with (fail)
              refine (law_commands _ _ (HE.out.below H6.out)).mono ?_; rintro e w7 ⟨rfl, hb7⟩
              have H7 := Kept.mk (H6.out.trans (hb7.mono H6.out.size))
              clear hb7
              go_wp2_with (fail)
              refine (law_commands _ _ (HE.out.below H7.out)).mono ?_; rintro e w8 ⟨rfl, hb8⟩
              have H8 := Kept.mk (H7.out.trans (hb8.mono H7.out.size))
              clear hb8
              go_wp2_with (fail)
              refine (CQ.out _).mono ?_; rintro e w9 ⟨rfl, hb9⟩
              have H9 := Kept.mk (H8.out.trans (hb9.mono H8.out.size))
              clear hb9
              go_wp2_with (fail)
              refine (CI.out _ (HE.out.below H9.out)).mono ?_; rintro e w10 ⟨rfl, hb10⟩
              have H10 := Kept.mk (H9.out.trans (hb10.mono H9.out.size))
              clear hb10
              go_wp2
              go_roundw
              case rel => exact ⟨k + 1, by omega, by go_num, H10⟩
              case measure => simp [intOf]; omega
            · obtain rfl : k = 256 := by omega
              clear k0 hk hlt
              rw [show ((256 : Nat) : Int) = 256 from rfl]
              obtain ⟨w4, rfl⟩ : ∃ w4 : World, w4 = wr := ⟨_, rfl⟩
              go_wp2
              go_loopw [8] (fun i wx => ∃ k : Nat, k ≤ 6 ∧ i = .int .i64 (k : Int) ∧ Kept (Below w.heap.size w wx)) (fun i _ => 6 - (intOf i).toNat)
              case atStart => exact ⟨0, by omega, rfl, HB⟩
              case round =>
                clear HB
                obtain ⟨k, hk, rfl, HB⟩ := hrel
                have k0 : (0 : Int) ≤ (k : Int) := by omega
                by_cases hlt : k < 6
                · have k1 : (k : Int) < 6 := by omega
                  obtain ⟨w5, rfl⟩ : ∃ w5 : World, w5 = wr := ⟨_, rfl⟩
                  go_wp2
                  go_loopw [9] (fun i wx => ∃ n : Nat, n ≤ 8 ∧ i = .int .i64 (n : Int) ∧ Kept (Below w.heap.size w wx)) (fun i _ => 8 - (intOf i).toNat)
                  case atStart => exact ⟨0, by omega, rfl, HB⟩
                  case round =>
                    clear HB
                    obtain ⟨n, hn, rfl, HB⟩ := hrel
                    have n0 : (0 : Int) ≤ (n : Int) := by omega
                    by_cases hlt2 : n < 8
                    · have n1 : (n : Int) < 8 := by omega
                      have BL := Kept.mk (HB.out.alloc HB.out.size (.cells #[.int .u8 (k : Int), .int .u8 (n : Int), .string ⟨#[120]⟩, .string ⟨#[121, 10]⟩, .int .i64 ((n : Int) - 1), .int .u8 (k : Int), .int .u8 0, .string ⟨#[]⟩, .string ⟨#[]⟩, .int .i64 (-9223372036854775808)] 26))
                      have CS := Kept.mk (shows_two k n (by omega) (by omega) wr (HE.out.below BL.out))
                      go_wp2_with (fail)
                      refine CS.out.mono ?_; rintro e w6 ⟨rfl, hb6⟩
                      have H6 := Kept.mk (BL.out.trans (hb6.mono BL.out.size))
                      clear hb6 CS BL
                      go_wp2
                      go_roundw
                      case rel => exact ⟨n + 1, by omega, by go_num, H6⟩
                      case measure => simp [intOf]; omega
                    · obtain rfl : n = 8 := by omega
                      go_wp2
                      go_roundw
                      case rel => exact ⟨k + 1, by omega, by go_num, HB⟩
                      case measure => simp [intOf]; omega
                · obtain rfl : k = 6 := by omega
                  clear k0 hk hlt
                  rw [show ((6 : Nat) : Int) = 6 from rfl]
                  go_wp2_with (fail)
                  refine (rep_full wr).mono ?_; rintro e w7 ⟨Y, N, rfl, hN, hY, hb7⟩
                  have H7 := Kept.mk (HB.out.trans (hb7.mono HB.out.size))
                  have hYz : Y.size = 65529 := by rw [← size_len, hY, List.length_replicate]; exact hN
                  have z1 : ¬ 9223372036854775807 < 6 + Y.size := by omega
                  have z2 : ¬ 9223372036854775807 < 6 + Y.size + 1 := by omega
                  have z3 : ¬ 9223372036854775807 < 6 + Y.size + 1 + 1 := by omega
                  have CC := Kept.mk (fun wx hE => cmd_full Y N hN hY wx hE)
                  have CO := Kept.mk (fun wx hE => cmd_over ((⟨#[108, 111, 97, 100, 32, 34]⟩ : ByteArray) ++ Y ++ ⟨#[34]⟩ ++ ⟨#[32]⟩) (by
                    simp only [ByteArray.size_append]
                    have e1 : (⟨#[108, 111, 97, 100, 32, 34]⟩ : ByteArray).size = 6 := rfl
                    have e2 : (⟨#[34]⟩ : ByteArray).size = 1 := rfl
                    have e3 : (⟨#[32]⟩ : ByteArray).size = 1 := rfl
                    omega) wx hE)
                  have HYZ : ((Y.size : Nat) : Int) = 65529 := by omega
                  clear hb7 hY hN
                  go_wp2_with (fail)
                  refine (CC.out _ (HE.out.below H7.out)).mono ?_; rintro e w8 ⟨⟨A8, c8, rfl⟩, hb8⟩
                  have H8 := Kept.mk (H7.out.trans (hb8.mono H7.out.size))
                  clear hb8
                  have H8a := Kept.mk (H8.out.alloc H8.out.size (.cells #[.int .u8 1, .string Y, .int .i64 0, .slice A8 0 c8] 40))
                  have hal := World.alloc_heap_new w8 (.cells #[.int .u8 1, .string Y, .int .i64 0, .slice A8 0 c8] 40)
                  have hsz : w8.heap.size < (w8.alloc (.cells #[.int .u8 1, .string Y, .int .i64 0, .slice A8 0 c8] 40)).heap.size := by simp
                  go_wp2_with (fail)
                  refine (CO.out _ (HE.out.below H8a.out)).mono ?_; rintro e w9 ⟨rfl, hb9⟩
                  have hz9 := (hb9.block w8.heap.size hsz).trans hal
                  have r1 := cell_of_row _ w8.heap.size 1 _ _ _ hz9
                  have l9 : w8.heap.size < w9.heap.size := (Array.getElem?_eq_some_iff.1 hz9).1
                  have H9 := Kept.mk (H8a.out.trans (hb9.mono H8a.out.size))
                  clear hb9 hz9 hal hsz
                  simp only [List.getElem?_toArray, List.getElem?_cons_zero, List.getElem?_cons_succ] at r1
                  have CA := Kept.mk (fun wx (h : Below w.heap.size w wx) => awake_any wx (HE.out.below h))
                  have CAX := Kept.mk (awake_any _ (HE.out.below (H9.out.alloc H9.out.size (.cells #[.int .u8 0, .string ⟨#[]⟩, .int .i64 0, .slice none 0 0] 40))))
                  go_wp2_with (fail)
                  refine CAX.out.mono ?_; rintro e w10 ⟨rfl, hb10⟩
                  have H10 := Kept.mk (((H9.out.alloc H9.out.size (.cells #[.int .u8 0, .string ⟨#[]⟩, .int .i64 0, .slice none 0 0] 40))).trans (hb10.mono (H9.out.alloc H9.out.size (.cells #[.int .u8 0, .string ⟨#[]⟩, .int .i64 0, .slice none 0 0] 40)).size))
                  clear hb10
                  go_wp2_with (fail)
                  go_ret
                  exact ⟨rfl, H10.out⟩
end Go.Proofs.YtakccaldcolbmaaGreatDoor.Wln
