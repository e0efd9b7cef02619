/- The walk over the program's text (chapter 31). -/
import Derived.Test.YtakccaldcolbmaaGreatDoorLinesHex
import Derived.Test.YtakccaldcolbmaaGreatDoorBuildShelf
import Derived.Shelf.Strings.SlTrimAscii
namespace Go.Proofs.YtakccaldcolbmaaGreatDoor.Wln
open Go Go.RowKit Go.Proofs.YtakccaldcolbmaaGreatDoor.Kb

/-- the builder in block b holds these bytes; nothing below block b has turned -/
def Bld (b : Nat) (acc : List UInt8) (w : World) : Prop := Lib.IsBuilderF 57 5 b b (Lib.byteCells acc) w ∧ b < w.heap.size
theorem bld_fresh (w : World) : Bld w.heap.size [] (w.alloc (.cells #[.pointer none, .slice none 0 0] 57)) := ⟨Lib.IsBuilderF.of (Lib.fresh_isBuilder _ _ w), by simp⟩
theorem bldAt_below {b : Nat} {p : Value} {bs : List Value} {w w' : World} (h : Lib.BuilderAtF 57 5 b b p bs w) (hb : Below w.heap.size w w') : Lib.BuilderAtF 57 5 b b p bs w' := by
  obtain ⟨hB, v, hv, hown, hne⟩ := h
  exact ⟨hB, v, (hb.block b (Array.getElem?_eq_some_iff.1 hv).1).trans hv, hown.kept (row := none) ⟨hb.os, hb.tape, hb.output, hb.size, fun k hk _ => hb.block k hk⟩ (Classical.em _), hne⟩
theorem Bld.below {b : Nat} {acc : List UInt8} {w w' : World} (h : Bld b acc w) (hb : Below w.heap.size w w') : Bld b acc w' :=
  ⟨h.1.elim (fun x => .inl (bldAt_below x hb)) (fun x => .inr (bldAt_below x hb)), Nat.lt_of_lt_of_le h.2 hb.size⟩
theorem write_byte (b : Nat) (acc : List UInt8) (c : UInt8) (z : Int) (hz : z = (c.toNat : Int)) (w : World) (h : Bld b acc w) (hl : acc.length ≤ 1000000) :
    Calls Tryz.prog 23 #[.pointer (some ⟨b, 0, none⟩), .int .u8 z] w fun e w' => e = .returned .nilIface ∧ Bld b (acc ++ [c]) w' ∧ Below b w w' := by
  subst hz
  refine (Any.Builder_WriteByte_k Tryz.lays167 Tryz.Builder_Extra_167 b b _ _ w h.1 (by rw [Lib.byteCells_length]; omega) (Nat.le_of_lt h.2)).mono ?_
  rintro e w' ⟨he, h1, h2, _⟩
  refine ⟨he, ⟨?_, Nat.lt_of_lt_of_le h.2 h2.size⟩, h2⟩
  rw [Lib.byteCells_append]
  exact .inr h1
theorem build_string (b : Nat) (acc : List UInt8) (w : World) (h : Bld b acc w) :
    Calls Tryz.prog 25 #[.pointer (some ⟨b, 0, none⟩)] w fun e w' => e = .returned (.string ⟨acc.toArray⟩) ∧ Below b w w' :=
  (Any.Builder_String_any_k Tryz.lays169 Tryz.Builder_Extra_169 b b acc w h.1 (Nat.le_of_lt h.2)).mono fun _ _ ⟨he, _, hb, _⟩ => ⟨he, hb⟩
theorem parse_hex (a b : UInt8) (x y : Nat) (ha : HexB a x) (hb : HexB b y) (w : World) :
    Calls Tryz.prog 108 #[.string ⟨#[a, b]⟩, .int .i64 16, .int .i64 8] w fun e w' => e = .returned (.tuple #[.int .u64 ((16 * x + y : Nat) : Int), .nilIface]) ∧ Below w.heap.size w w' := by
  have cU := uint_hex a b x y ha hb w
  have CU := Kept.mk cU
  clear cU
  go_enter Tryz.func108, Tryz.ntmps108
  go_wp2_with (go_at_call 128; refine CU.out.mono ?_; rintro e w1 ⟨rfl, hb1⟩)
  go_ret2
  exact ⟨rfl, hb1⟩
theorem info116 : (Tryz.prog.info? (Tryz.lays160_ren.t 116)).map (fun i => (i.zero, i.size)) = some (some (.agg (Array.replicate 256 (.bool false))), 256) := by kernel_rfl
theorem trim_hex (s : ByteArray) (w : World) (hs : s.size ≤ 1000000) :
    Calls Tryz.prog 66 #[.string s, .string ⟨#[48, 49, 50, 51, 52, 53, 54, 55, 56, 57, 97, 98, 99, 100, 101, 102]⟩] w fun e w' => e = .returned (.string ⟨(Lib.trimS s.data.toList Pln.hexs).toArray⟩) ∧ Below w.heap.size w w' :=
  Any.strings_Trim_laid Tryz.lays160 info116 s ⟨#[48, 49, 50, 51, 52, 53, 54, 55, 56, 57, 97, 98, 99, 100, 101, 102]⟩ w (by omega) (by show 16 < 4294967281; omega) (ascii_of_all (by decide))
/-- what a reader of a text hands back -/
def TextIs (w : World) (r : Option (List UInt8)) (e : Ending) (w' : World) : Prop :=
  Below w.heap.size w w' ∧ match r with
  | some t => e = .returned (.tuple #[.string ⟨t.toArray⟩, .bool true])
  | none => e = .returned (.tuple #[.string ⟨#[]⟩, .bool false])
theorem two_at {u : ByteArray} {k : Nat} (hk : k + 2 < u.size) (hl : k + 3 < u.size) : u.extract (k + 2) (k + 4) = ⟨#[u[k + 2], u[k + 3]]⟩ := by
  rw [extract_drop]
  have h1 := byte_get u (k + 2) hk
  have h2 := byte_get u (k + 3) hl
  have d1 : u.data.toList.drop (k + 2) = u[k + 2] :: u.data.toList.drop (k + 3) := Pln.drop_at h1
  have d2 : u.data.toList.drop (k + 3) = u[k + 3] :: u.data.toList.drop (k + 4) := Pln.drop_at h2
  rw [d1, d2, show k + 4 - (k + 2) = 2 by omega]
  rfl
set_option maxRecDepth 100000 in
set_option maxHeartbeats 8000000 in
theorem text_in (s v u : ByteArray) (U : List UInt8) (w : World) (hs : s.size ≤ 1000000) (hv : s.data.toList = 34 :: v.data.toList) (h1 : 1 ≤ v.size) (hu : v.extract 0 (v.size - 1) = u) (hU : u.data.toList = U) :
    Calls Tryz.prog 70 #[.string s] w (TextIs w (Pln.textF U)) := by
  have hsv : s.size = v.size + 1 := by rw [← size_len s, ← size_len v, hv]; rfl
  have hl := size_len u
  have hus : u.size = v.size - 1 := by rw [← hu]; simp
  rw [hU] at hl
  have HX := Kept.mk (fun (k : Nat) (h : k < u.size) => (by have := byte_get u k h; rwa [hU] at this : U[k]? = some (u[k]'h)))
  have HT : Kept ((Pln.textF (U.drop 0)).map (([] : List UInt8) ++ ·) = Pln.textF U) := ⟨by rw [List.drop_zero]; cases Pln.textF U <;> rfl⟩
  generalize Pln.textF U = T at HT ⊢
  have cC := (Any.strings_CutPrefix Tryz.lays103 s ⟨#[34]⟩ w).mono (R' := fun e w' => e = .returned (.tuple #[.string v, .bool true]) ∧ w = w') (by
    rintro e w' ⟨he, hw⟩
    refine ⟨?_, hw.symm⟩
    rw [he, hv]
    have e1 : Lib.trimPrefix (34 :: v.data.toList) (⟨#[34]⟩ : ByteArray).data.toList = v.data.toList := by
      show Lib.trimPrefix (34 :: v.data.toList) [34] = _
      unfold Lib.trimPrefix Lib.hasPrefix
      simp [List.isPrefixOf]
    have e2 : Lib.hasPrefix (34 :: v.data.toList) (⟨#[34]⟩ : ByteArray).data.toList = true := by
      show Lib.hasPrefix (34 :: v.data.toList) [34] = true
      unfold Lib.hasPrefix
      simp [List.isPrefixOf]
    rw [e1, e2])
  have CC := Kept.mk cC
  have y1 : (0 : Int) ≤ (v.size : Int) - 1 := by omega
  have y2 : (v.size : Int) - 1 ≤ (v.size : Int) := by omega
  have hsl : v.extract 0 ((v.size : Int) - 1).toNat = u := by rw [← hu]; congr 1; omega
  have hu2 : v.extract 0 (v.size - 1) = u := hu
  have HU : Kept (u.size ≤ 1000000) := ⟨by omega⟩
  have hvb : v.size ≤ 1000000 := by omega
  clear hu hU hus cC hsv hv h1 hs
  have hB0 : Below w.heap.size w (w.alloc (.cells #[.pointer none, .slice none 0 0] 57)) := (Below.refl _ _).alloc (Nat.le_refl _) _
  have HBl := Kept.mk (And.intro (bld_fresh w) hB0)
  clear hB0
  go_enter Tryz.func70, Tryz.ntmps70
  go_wp2_with (go_at_call 107; refine CC.out.mono ?_; rintro e w1 ⟨rfl, rfl⟩)
  go_loopw [7, 8, 9, 10] (fun i _c _n _e wx => ∃ (k : Nat) (M : List UInt8), i = .int .i64 k ∧ k ≤ u.size ∧ M.length ≤ k ∧ Kept ((Pln.textF (U.drop k)).map (M ++ ·) = T) ∧ Kept (Bld w.heap.size M wx) ∧ Kept (Below w.heap.size w wx)) (fun i _ _ _ _ => u.size - (intOf i).toNat)
  case atStart => exact ⟨0, [], rfl, by omega, by simp, HT, ⟨HBl.out.1⟩, ⟨HBl.out.2⟩⟩
  case round =>
    clear HT hsl hu2 y1 y2 HBl CC
    obtain ⟨k, M, rfl, hk, hM, HT, HO, HB⟩ := hrel
    have k0 : (0 : Int) ≤ (k : Int) := by omega
    have hub : u.size ≤ 1000000 := HU.out
    by_cases hlt : k < u.size
    · have k1 : (k : Int) < (u.size : Int) := by omega
      have hx := HX.out k hlt
      by_cases c1 : u[k].toNat < 32
      · have f : ((u[k].toNat : Nat) : Int) < 32 := by omega
        have ht := HT.out
        rw [Pln.text_bad hx (.inl (UInt8.lt_iff_toNat_lt.2 c1))] at ht
        obtain rfl : T = none := by rw [← ht]; rfl
        clear ht HT
        go_wp2
        go_ret2
        exact ⟨HB.out, rfl⟩
      have f1 : ¬ ((u[k].toNat : Nat) : Int) < 32 := by omega
      by_cases c2 : 126 < u[k].toNat
      · have f : (126 : Int) < ((u[k].toNat : Nat) : Int) := by omega
        have ht := HT.out
        rw [Pln.text_bad hx (.inr (.inl (UInt8.lt_iff_toNat_lt.2 c2)))] at ht
        obtain rfl : T = none := by rw [← ht]; rfl
        clear ht HT
        go_wp2
        go_ret2
        exact ⟨HB.out, rfl⟩
      have f2 : ¬ (126 : Int) < ((u[k].toNat : Nat) : Int) := by omega
      by_cases c3 : u[k].toNat = 34
      · have f : ((u[k].toNat : Nat) : Int) = 34 := by omega
        have ht := HT.out
        rw [Pln.text_bad hx (.inr (.inr (UInt8.toNat_inj.1 (by rw [c3]; rfl))))] at ht
        obtain rfl : T = none := by rw [← ht]; rfl
        clear ht HT
        go_wp2
        go_ret2
        exact ⟨HB.out, rfl⟩
      have f3 : (((u[k].toNat : Nat) : Int) == 34) = false := by simp; omega
      have hok : ¬ (u[k] < 32 ∨ 126 < u[k] ∨ u[k] = 34) := fun e => e.elim (fun e => c1 (UInt8.lt_iff_toNat_lt.1 e)) (fun e => e.elim (fun e => c2 (UInt8.lt_iff_toNat_lt.1 e)) (fun e => c3 (by rw [e]; rfl)))
      by_cases c4 : u[k].toNat = 92
      · have f4 : (((u[k].toNat : Nat) : Int) != 92) = false := by simp; omega
        have hc : u[k] = 92 := UInt8.toNat_inj.1 (by rw [c4]; rfl)
        rw [hc] at hx
        clear hok hc c1 c2 c3 c4
        by_cases hl2 : k + 1 < u.size
        · have k2 : (k : Int) + 1 < (u.size : Int) := by omega
          have k3 : (((k : Int) + 1) == (u.size : Int)) = false := by simp; omega
          have k33 : ¬ (k : Int) + 1 = (u.size : Int) := by omega
          have hy := HX.out (k + 1) hl2
          by_cases d34 : u[k + 1].toNat = 34
          · have g34 : ((u[k + 1].toNat : Nat) : Int) = 34 := by omega
            have hd : u[k + 1] = 34 := UInt8.toNat_inj.1 (by rw [d34]; rfl)
            rw [hd] at hy
            have HT2 : Kept ((Pln.textF (U.drop (k + 2))).map ((M ++ [34]) ++ ·) = T) := ⟨by rw [← HT.out, Pln.text_esc hx hy (.inl rfl), Option.map_map]; congr 1; funext x; simp⟩
            clear hx HT
            have cW := fun wx (hx : Bld w.heap.size M wx) => write_byte w.heap.size M 34 34 rfl wx hx (by omega)
            have CW := Kept.mk cW
            clear cW
            go_wp2_with (go_at_call 23; refine (CW.out _ HO.out).mono ?_; rintro e w5 ⟨rfl, hbl5, hb5⟩; have O5 := Kept.mk hbl5; have B5 := Kept.mk (HB.out.trans hb5); clear hbl5 hb5)
            go_roundw
            case rel => exact ⟨k + 2, M ++ [34], by go_num, by omega, by rw [List.length_append]; simp; omega, HT2, O5, B5⟩
            case measure => simp [intOf]; omega
          have g34 : (((u[k + 1].toNat : Nat) : Int) == 34) = false := by simp; omega
          by_cases d92 : u[k + 1].toNat = 92
          · have g92 : ((u[k + 1].toNat : Nat) : Int) = 92 := by omega
            have hd : u[k + 1] = 92 := UInt8.toNat_inj.1 (by rw [d92]; rfl)
            rw [hd] at hy
            have HT2 : Kept ((Pln.textF (U.drop (k + 2))).map ((M ++ [92]) ++ ·) = T) := ⟨by rw [← HT.out, Pln.text_esc hx hy (.inr rfl), Option.map_map]; congr 1; funext x; simp⟩
            clear hx HT
            have cW := fun wx (hx : Bld w.heap.size M wx) => write_byte w.heap.size M 92 92 rfl wx hx (by omega)
            have CW := Kept.mk cW
            clear cW
            go_wp2_with (go_at_call 23; refine (CW.out _ HO.out).mono ?_; rintro e w5 ⟨rfl, hbl5, hb5⟩; have O5 := Kept.mk hbl5; have B5 := Kept.mk (HB.out.trans hb5); clear hbl5 hb5)
            go_roundw
            case rel => exact ⟨k + 2, M ++ [92], by go_num, by omega, by rw [List.length_append]; simp; omega, HT2, O5, B5⟩
            case measure => simp [intOf]; omega
          have g92 : (((u[k + 1].toNat : Nat) : Int) == 92) = false := by simp; omega
          by_cases d110 : u[k + 1].toNat = 110
          · have g110 : ((u[k + 1].toNat : Nat) : Int) = 110 := by omega
            have hd : u[k + 1] = 110 := UInt8.toNat_inj.1 (by rw [d110]; rfl)
            rw [hd] at hy
            have HT2 : Kept ((Pln.textF (U.drop (k + 2))).map ((M ++ [10]) ++ ·) = T) := ⟨by rw [← HT.out, Pln.text_n hx hy, Option.map_map]; congr 1; funext x; simp⟩
            clear hx HT
            have cW := fun wx (hx : Bld w.heap.size M wx) => write_byte w.heap.size M 10 10 rfl wx hx (by omega)
            have CW := Kept.mk cW
            clear cW
            go_wp2_with (go_at_call 23; refine (CW.out _ HO.out).mono ?_; rintro e w5 ⟨rfl, hbl5, hb5⟩; have O5 := Kept.mk hbl5; have B5 := Kept.mk (HB.out.trans hb5); clear hbl5 hb5)
            go_roundw
            case rel => exact ⟨k + 2, M ++ [10], by go_num, by omega, by rw [List.length_append]; simp; omega, HT2, O5, B5⟩
            case measure => simp [intOf]; omega
          have g110 : (((u[k + 1].toNat : Nat) : Int) == 110) = false := by simp; omega
          by_cases d116 : u[k + 1].toNat = 116
          · have g116 : ((u[k + 1].toNat : Nat) : Int) = 116 := by omega
            have hd : u[k + 1] = 116 := UInt8.toNat_inj.1 (by rw [d116]; rfl)
            rw [hd] at hy
            have HT2 : Kept ((Pln.textF (U.drop (k + 2))).map ((M ++ [9]) ++ ·) = T) := ⟨by rw [← HT.out, Pln.text_t hx hy, Option.map_map]; congr 1; funext x; simp⟩
            clear hx HT
            have cW := fun wx (hx : Bld w.heap.size M wx) => write_byte w.heap.size M 9 9 rfl wx hx (by omega)
            have CW := Kept.mk cW
            clear cW
            go_wp2_with (go_at_call 23; refine (CW.out _ HO.out).mono ?_; rintro e w5 ⟨rfl, hbl5, hb5⟩; have O5 := Kept.mk hbl5; have B5 := Kept.mk (HB.out.trans hb5); clear hbl5 hb5)
            go_roundw
            case rel => exact ⟨k + 2, M ++ [9], by go_num, by omega, by rw [List.length_append]; simp; omega, HT2, O5, B5⟩
            case measure => simp [intOf]; omega
          have g116 : (((u[k + 1].toNat : Nat) : Int) == 116) = false := by simp; omega
          by_cases d120 : u[k + 1].toNat = 120
          · have g120 : ((u[k + 1].toNat : Nat) : Int) = 120 := by omega
            have hd : u[k + 1] = 120 := UInt8.toNat_inj.1 (by rw [d120]; rfl)
            rw [hd] at hy
            by_cases hl4 : k + 3 < u.size
            · have k4 : ¬ (u.size : Int) < (k : Int) + 1 + 3 := by omega
              have k5 : (k : Int) + 1 + 1 ≤ (k : Int) + 1 + 3 := by omega
              have k6 : (k : Int) + 1 + 3 ≤ (u.size : Int) := by omega
              have k7 : (0 : Int) ≤ (k : Int) + 1 + 1 := by omega
              have ha := HX.out (k + 2) (by omega)
              have hb := HX.out (k + 3) hl4
              have e2 : ((k : Int) + 1 + 1).toNat = k + 2 := by omega
              have e3 : ((k : Int) + 1 + 3).toNat = k + 4 := by omega
              have hxe : u.extract (k + 2) (k + 4) = ⟨#[u[k + 2], u[k + 3]]⟩ := two_at (by omega) hl4
              generalize u[k + 2] = a at ha hxe
              generalize u[k + 3] = b at hb hxe
              have cT := fun wx => trim_hex ⟨#[a, b]⟩ wx (by show 2 ≤ 1000000; omega)
              have htr := Pln.trim_two a b
              have CT : Kept (∀ wx, Calls Tryz.prog 66 #[.string ⟨#[a, b]⟩, .string ⟨#[48, 49, 50, 51, 52, 53, 54, 55, 56, 57, 97, 98, 99, 100, 101, 102]⟩] wx fun e w' => e = .returned (.string ⟨(Lib.trimS [a, b] Pln.hexs).toArray⟩) ∧ Below wx.heap.size wx w') := ⟨cT⟩
              clear cT
              generalize Lib.trimS [a, b] Pln.hexs = Z at htr CT
              cases qa : Pln.digit a with
              | none =>
                have hz : Z.isEmpty = false := by rw [htr, qa]; rfl
                clear htr
                have ht := HT.out
                rw [Pln.text_x_bad hx hy (.inr (.inl ⟨_, ha, qa⟩))] at ht
                obtain rfl : T = none := by rw [← ht]; rfl
                clear ht HT
                go_wp2_with (go_at_call 66; refine (CT.out _).mono ?_; rintro e w5 ⟨rfl, hb5⟩)
                go_ret2
                exact ⟨HB.out.trans (hb5.mono HB.out.size), rfl⟩
              | some x =>
                cases qb : Pln.digit b with
                | none =>
                  have hz : Z.isEmpty = false := by rw [htr, qa, qb]; rfl
                  clear htr
                  have ht := HT.out
                  rw [Pln.text_x_bad hx hy (.inr (.inr ⟨_, hb, qb⟩))] at ht
                  obtain rfl : T = none := by rw [← ht]; rfl
                  clear ht HT
                  go_wp2_with (go_at_call 66; refine (CT.out _).mono ?_; rintro e w5 ⟨rfl, hb5⟩)
                  go_ret2
                  exact ⟨HB.out.trans (hb5.mono HB.out.size), rfl⟩
                | some y =>
                  have hz : Z = [] := by
                    have : Z.isEmpty = true := by rw [htr, qa, qb]; rfl
                    simpa using this
                  subst hz
                  have hxy : x < 16 ∧ y < 16 := ⟨(Pln.digit_cases qa).1, (Pln.digit_cases qb).1⟩
                  have HD := Kept.mk hxy
                  have xb : ((16 * x + y : Nat) : Int) ≤ 255 := by omega
                  have xb0 : (0 : Int) ≤ ((16 * x + y : Nat) : Int) := by omega
                  have HT2 : Kept ((Pln.textF (U.drop (k + 4))).map ((M ++ [UInt8.ofNat (16 * x + y)]) ++ ·) = T) := ⟨by rw [← HT.out, Pln.text_x hx hy ha hb qa qb, Option.map_map]; congr 1; funext z; simp⟩
                  have hcell : ((16 * x + y : Nat) : Int) = (((UInt8.ofNat (16 * x + y)).toNat : Nat) : Int) := by rw [UInt8.toNat_ofNat', Nat.mod_eq_of_lt (by omega)]
                  have cP := fun wx => parse_hex a b x y (hexB_of qa) (hexB_of qb) wx
                  have cW := fun wx (hx : Bld w.heap.size M wx) => write_byte w.heap.size M (UInt8.ofNat (16 * x + y)) ((16 * x + y : Nat) : Int) hcell wx hx (by omega)
                  have CP := Kept.mk cP
                  have CW := Kept.mk cW
                  clear hx HT ha hb qa qb hxy htr cP cW hcell
                  generalize (UInt8.ofNat (16 * x + y)) = cc at HT2 CW
                  generalize ((16 * x + y : Nat) : Int) = zz at xb xb0 CP CW
                  go_wp2_with (first
                    | (go_at_call 66; refine (CT.out _).mono ?_; rintro e w5 ⟨rfl, hb5⟩; have H5 := Kept.mk hb5; clear hb5)
                    | (go_at_call 108; refine (CP.out _).mono ?_; rintro e w6 ⟨rfl, hb6⟩; have H6 := Kept.mk hb6; clear hb6)
                    | (go_at_call 23; refine (CW.out _ ((HO.out.below H5.out).below H6.out)).mono ?_; rintro e w7 ⟨rfl, hbl7, hb7⟩; have O7 := Kept.mk hbl7; have B7 := Kept.mk (((HB.out.trans (H5.out.mono HB.out.size)).trans (H6.out.mono (Nat.le_trans HB.out.size H5.out.size))).trans hb7); clear hbl7 hb7))
                  go_roundw
                  case rel => exact ⟨k + 4, M ++ [cc], by go_num, by omega, by rw [List.length_append]; simp; omega, HT2, O7, B7⟩
                  case measure => simp [intOf]; omega
            · have k4 : (u.size : Int) < (k : Int) + 1 + 3 := by omega
              have ht := HT.out
              rw [Pln.text_x_bad hx hy (.inl (by omega))] at ht
              obtain rfl : T = none := by rw [← ht]; rfl
              clear ht HT
              go_wp2
              go_ret2
              exact ⟨HB.out, rfl⟩
          have g120 : (((u[k + 1].toNat : Nat) : Int) == 120) = false := by simp; omega
          have ht := HT.out
          rw [Pln.text_other hx hy (fun e => e.elim (fun e => d34 (by rw [e]; rfl)) (fun e => d92 (by rw [e]; rfl))) (fun e => d110 (by rw [e]; rfl)) (fun e => d116 (by rw [e]; rfl)) (fun e => d120 (by rw [e]; rfl))] at ht
          obtain rfl : T = none := by rw [← ht]; rfl
          clear ht HT
          go_wp2
          go_ret2
          exact ⟨HB.out, rfl⟩
        · have k3 : (((k : Int) + 1) == (u.size : Int)) = true := by simp; omega
          have k33 : (k : Int) + 1 = (u.size : Int) := by omega
          have ht := HT.out
          rw [Pln.text_last hx (by omega)] at ht
          obtain rfl : T = none := by rw [← ht]; rfl
          clear ht HT
          go_wp2
          go_ret2
          exact ⟨HB.out, rfl⟩
      · have f4 : (((u[k].toNat : Nat) : Int) != 92) = true := by simp; omega
        have n4 : u[k] ≠ 92 := fun e => c4 (by rw [e]; rfl)
        have HT2 : Kept ((Pln.textF (U.drop (k + 1))).map ((M ++ [u[k]]) ++ ·) = T) := ⟨by rw [← HT.out, Pln.text_plain hx hok n4, Option.map_map]; congr 1; funext x; simp⟩
        clear hx HT
        have cW := fun wx (hx : Bld w.heap.size M wx) => write_byte w.heap.size M u[k] (u[k].toNat : Int) rfl wx hx (by omega)
        have CW := Kept.mk cW
        clear cW
        go_wp2_with (go_at_call 23; refine (CW.out _ HO.out).mono ?_; rintro e w5 ⟨rfl, hbl5, hb5⟩; have O5 := Kept.mk hbl5; have B5 := Kept.mk (HB.out.trans hb5); clear hbl5 hb5)
        go_roundw
        case rel => exact ⟨k + 1, M ++ [u[k]], by go_num, by omega, by rw [List.length_append]; simp; omega, HT2, O5, B5⟩
        case measure => simp [intOf]; omega
    · obtain rfl : k = u.size := by omega
      have ht := HT.out
      rw [Pln.text_end (by omega)] at ht
      obtain rfl : T = some M := by rw [← ht]; simp
      have cS := build_string w.heap.size M wr HO.out
      have CS := Kept.mk cS
      clear ht HT cS
      go_wp2_with (go_at_call 25; refine CS.out.mono ?_; rintro e w5 ⟨rfl, hb5⟩)
      go_ret2
      exact ⟨HB.out.trans hb5, rfl⟩
theorem text_any (s : ByteArray) (w : World) (hs : s.size ≤ 1000000) (hq : s.data.toList.head? = some 34 → 2 ≤ s.size) :
    Calls Tryz.prog 70 #[.string s] w (TextIs w (Pln.textL s.data.toList)) := by
  by_cases h : s.data.toList.head? = some 34
  · have h2 := hq h
    have hl := size_len s
    cases hL : s.data.toList with
    | nil => rw [hL] at h; cases h
    | cons c r =>
      rw [hL] at h hl
      obtain rfl : c = 34 := by simpa using h
      have hr : r ≠ [] := by intro e; rw [e] at hl; simp at hl; omega
      rw [Pln.textL_cons, if_pos ⟨rfl, hr⟩]
      have hr1 : 1 ≤ r.length := List.length_pos_iff.2 hr
      refine text_in s ⟨r.toArray⟩ ((⟨r.toArray⟩ : ByteArray).extract 0 ((⟨r.toArray⟩ : ByteArray).size - 1)) r.dropLast w hs hL (by rw [Lib.size_mk]; exact hr1) rfl ?_
      rw [Lib.extract_mk, Lib.size_mk, List.drop_zero, List.dropLast_eq_take, Nat.sub_zero]
  · have hn : Pln.textL s.data.toList = none := by
      cases hL : s.data.toList with
      | nil => rfl
      | cons c r =>
        rw [hL] at h
        rw [Pln.textL_cons, if_neg]
        intro e
        exact h (by rw [e.1]; rfl)
    rw [hn]
    have cC := (Any.strings_CutPrefix Tryz.lays103 s ⟨#[34]⟩ w).mono (R' := fun e w' => ∃ v : ByteArray, e = .returned (.tuple #[.string v, .bool false]) ∧ w = w') (by
      rintro e w' ⟨he, hw⟩
      have e2 : Lib.hasPrefix s.data.toList (⟨#[34]⟩ : ByteArray).data.toList = false := by
        show Lib.hasPrefix s.data.toList [34] = false
        unfold Lib.hasPrefix
        cases hL : s.data.toList with
        | nil => rfl
        | cons c r =>
          rw [hL] at h
          have : ¬ c = 34 := by simpa using h
          simp [List.isPrefixOf]
          exact fun e => this e.symm
      rw [e2] at he
      exact ⟨_, he, hw.symm⟩)
    have CC := Kept.mk cC
    clear cC h hn hq hs
    go_enter Tryz.func70, Tryz.ntmps70
    go_wp2_with (go_at_call 107; refine CC.out.mono ?_; rintro e w1 ⟨v, rfl, rfl⟩)
    go_ret2
    exact ⟨Below.refl _ _, rfl⟩
end Go.Proofs.YtakccaldcolbmaaGreatDoor.Wln
