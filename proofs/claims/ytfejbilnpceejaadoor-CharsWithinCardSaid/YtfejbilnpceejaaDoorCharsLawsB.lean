/- The walks over CharsJoined and CharsWithin. -/
import Derived.Test.YtfejbilnpceejaaDoorCharsLaws
import Derived.Deep.DeepCutAuto
import Derived.Deep.RegionWith
import Derived.Lib.SmallJoins
import Derived.Deep.Light
namespace Go.Proofs.YtfejbilnpceejaaDoor.Wch
open Go Go.RowKit

/-- what holds of the world all along a law -/
def Ok (w0 w : World) : Prop := Below w0.heap.size w0 w ∧ Env w
theorem Ok.start {w : World} (h : Env w) : Ok w w := ⟨Below.refl _ _, h⟩
theorem Ok.step {w0 w w' : World} (h : Ok w0 w) (hb : Below w.heap.size w w') : Ok w0 w' := ⟨h.1.trans (hb.mono h.1.size), h.2.below hb⟩
theorem lift {f : FuncId} {args : Array Value} {v : Value} {w0 : World} (c : ∀ w, Env w → Calls Tryd.prog f args w fun e w' => e = .returned v ∧ Below w.heap.size w w') :
    ∀ w, Ok w0 w → Calls Tryd.prog f args w fun e w' => e = .returned v ∧ Ok w0 w' :=
  fun w h => (c w h.2).mono fun _ _ ⟨a, b⟩ => ⟨a, h.step b⟩
theorem lift0 {f : FuncId} {args : Array Value} {v : Value} {w0 : World} (c : ∀ w, Calls Tryd.prog f args w fun e w' => e = .returned v ∧ w = w') :
    ∀ w, Ok w0 w → Calls Tryd.prog f args w fun e w' => e = .returned v ∧ Ok w0 w' :=
  fun w h => (c w).mono fun _ _ ⟨a, b⟩ => ⟨a, b ▸ h⟩

set_option maxRecDepth 100000 in
set_option maxHeartbeats 2000000 in
theorem law_joined (s t : ByteArray) (w : World) (ht : Env w) (hs : s.size ≤ 140737488355328) (htz : t.size ≤ 140737488355328) :
    Calls Tryd.prog 6 #[.string s, .string t] w fun e w' => e = .returned (.bool true) ∧ Below w.heap.size w w' := by
  have ok0 : Ok w w := Ok.start ht
  have cA : ∀ wx, Ok w wx → Calls Tryd.prog 14 #[] wx fun e w' => e = .returned (.bool true) ∧ Ok w w' := lift fun wx h => awake_any wx h
  have CA := Lib.hid cA
  clear ht cA
  by_cases hl : 100000 < s.size + t.size
  · go_enter Tryd.func6, Tryd.ntmps6
    go_wp2_with (go_at_call 14; refine (CA.out _ (by assumption)).mono ?_; rintro e w1 ⟨rfl, ok1⟩)
    go_ret
    exact ⟨rfl, ok1.1⟩
  have he : (s ++ t).data.toList = s.data.toList ++ t.data.toList := Joins.data_append s t
  have hsz : (s ++ t).size = s.size + t.size := by rw [← size_len, he, List.length_append, size_len, size_len]
  have cS : ∀ wx, Ok w wx → Calls Tryd.prog 17 #[.string s] wx fun e w' => e = .returned (.bool (Pch.textsL s.data.toList)) ∧ Ok w w' := lift fun wx h => texts_any s wx (by omega) h
  have cT : ∀ wx, Ok w wx → Calls Tryd.prog 17 #[.string t] wx fun e w' => e = .returned (.bool (Pch.textsL t.data.toList)) ∧ Ok w w' := lift fun wx h => texts_any t wx (by omega) h
  have cX : ∀ wx, Ok w wx → Calls Tryd.prog 17 #[.string (s ++ t)] wx fun e w' => e = .returned (.bool (Pch.textsL (s ++ t).data.toList)) ∧ Ok w w' := lift fun wx h => texts_any (s ++ t) wx (by omega) h
  have bS : ∀ wx, Ok w wx → Calls Tryd.prog 19 #[.string s] wx fun e w' => e = .returned (.bool (Pch.blankL s.data.toList)) ∧ Ok w w' := lift fun wx _ => blank_any s wx (by omega)
  have bT : ∀ wx, Ok w wx → Calls Tryd.prog 19 #[.string t] wx fun e w' => e = .returned (.bool (Pch.blankL t.data.toList)) ∧ Ok w w' := lift fun wx _ => blank_any t wx (by omega)
  have bX : ∀ wx, Ok w wx → Calls Tryd.prog 19 #[.string (s ++ t)] wx fun e w' => e = .returned (.bool (Pch.blankL (s ++ t).data.toList)) ∧ Ok w w' := lift fun wx _ => blank_any (s ++ t) wx (by omega)
  have nS : ∀ wx, Ok w wx → Calls Tryd.prog 15 #[.string s] wx fun e w' => e = .returned (.bool (Pch.nameL s.data.toList)) ∧ Ok w w' := lift fun wx h => nametext_any s wx (by omega) h
  have nT : ∀ wx, Ok w wx → Calls Tryd.prog 15 #[.string t] wx fun e w' => e = .returned (.bool (Pch.nameL t.data.toList)) ∧ Ok w w' := lift fun wx h => nametext_any t wx (by omega) h
  have nX : ∀ wx, Ok w wx → Calls Tryd.prog 15 #[.string (s ++ t)] wx fun e w' => e = .returned (.bool (Pch.nameL (s ++ t).data.toList)) ∧ Ok w w' := lift fun wx h => nametext_any (s ++ t) wx (by omega) h
  rw [he] at cX bX nX
  have p1 : Pch.textsL s.data.toList = true → Pch.textsL (s.data.toList ++ t.data.toList) = Pch.textsL t.data.toList := Pch.texts_left _ _
  have p2 : Pch.textsL t.data.toList = true → Pch.textsL (s.data.toList ++ t.data.toList) = Pch.textsL s.data.toList := Pch.texts_right _ _
  have p3 := Pch.blank_app s.data.toList t.data.toList
  have p4 : Pch.blankL s.data.toList = true → Pch.textsL s.data.toList = true := Pch.texts_of_blank _
  have p5 : s.size + t.size ≤ 100 → Pch.nameL s.data.toList = true → Pch.nameL t.data.toList = true → Pch.nameL (s.data.toList ++ t.data.toList) = true := fun h a b => Pch.name_join _ _ a b (by rw [size_len, size_len]; exact h)
  have p6 : s.toList ≠ [] → Pch.nameL (s.data.toList ++ t.data.toList) = true → Pch.textsL s.data.toList = true → Pch.nameL s.data.toList = true := fun h a b => Pch.name_cut _ _ (by rw [← ByteArray.toList_eq]; exact h) a b
  generalize Pch.textsL s.data.toList = S at cS p1 p2 p4 p6
  generalize Pch.textsL t.data.toList = T at cT p1 p2
  generalize Pch.textsL (s.data.toList ++ t.data.toList) = X at cX p1 p2
  generalize Pch.blankL s.data.toList = BS at bS p3 p4
  generalize Pch.blankL t.data.toList = BT at bT p3
  generalize Pch.blankL (s.data.toList ++ t.data.toList) = BX at bX p3
  generalize Pch.nameL s.data.toList = NS at nS p5 p6
  generalize Pch.nameL t.data.toList = NT at nT p5
  generalize Pch.nameL (s.data.toList ++ t.data.toList) = NX at nX p5 p6
  subst p3
  have CS := Lib.hid cS
  have CT := Lib.hid cT
  have CX := Lib.hid cX
  have KS := Lib.hid bS
  have KT := Lib.hid bT
  have KX := Lib.hid bX
  have NS' := Lib.hid nS
  have NT' := Lib.hid nT
  have NX' := Lib.hid nX
  have P1 := Lib.hid p1
  have P2 := Lib.hid p2
  have P4 := Lib.hid p4
  have P5 := Lib.hid p5
  have P6 := Lib.hid p6
  clear he hsz cS cT cX bS bT bX nS nT nX p1 p2 p4 p5 p6
  go_enter Tryd.func6, Tryd.ntmps6
  go_upto_region 5 with (go_at_call 14; refine (CA.out _ (by assumption)).mono ?_; rintro e w1 ⟨rfl, ok1⟩)
  go_cut [36] (fun c wx => c = .bool false ∧ Ok w wx)
  case first =>
    go_wp2_with (first
      | (go_at_call_of 17 (Value.string s); refine (CS.out _ (by assumption)).mono ?_; rintro e w2 ⟨rfl, ok2⟩)
      | (go_at_call_of 17 (Value.string t); refine (CT.out _ (by assumption)).mono ?_; rintro e w2 ⟨rfl, ok2⟩)
      | (go_at_call_of 17 (Value.string (s ++ t)); refine (CX.out _ (by assumption)).mono ?_; rintro e w2 ⟨rfl, ok2⟩))
    all_goals
      go_meet
      case rel =>
        refine ⟨?_, by assumption⟩
        have h1 := P1.out
        have h2 := P2.out
        clear CS CT CX KS KT KX NS' NT' NX' P1 P2 P4 P5 P6 CA
        go_light
        cases S <;> cases T <;> cases X <;> first | rfl | contradiction | exact absurd (h1 rfl) (by decide) | exact absurd (h2 rfl) (by decide)
  case rest =>
    obtain ⟨rfl, ok2⟩ := hcut
    go_upto_region 7 with (fail)
    go_cut [56] (fun c wx => c = .bool false ∧ Ok w wx)
    case first =>
      go_wp2_with (first
        | (go_at_call_of 17 (Value.string s); refine (CS.out _ (by assumption)).mono ?_; rintro e w3 ⟨rfl, ok3⟩)
        | (go_at_call_of 19 (Value.string s); refine (KS.out _ (by assumption)).mono ?_; rintro e w3 ⟨rfl, ok3⟩)
        | (go_at_call_of 19 (Value.string t); refine (KT.out _ (by assumption)).mono ?_; rintro e w3 ⟨rfl, ok3⟩)
        | (go_at_call_of 19 (Value.string (s ++ t)); refine (KX.out _ (by assumption)).mono ?_; rintro e w3 ⟨rfl, ok3⟩))
      all_goals
        go_meet
        case rel =>
          refine ⟨?_, by assumption⟩
          have h4 := P4.out
          clear CS CT CX KS KT KX NS' NT' NX' P1 P2 P4 P5 P6 CA
          go_light
          cases S <;> cases BS <;> cases BT <;> simp_all
    case rest =>
      obtain ⟨rfl, ok3⟩ := hcut
      go_upto_region 9 with (fail)
      go_cut [77] (fun c wx => c = .bool false ∧ Ok w wx)
      case first =>
        go_wp2_with (first
          | (go_at_call_of 15 (Value.string s); refine (NS'.out _ (by assumption)).mono ?_; rintro e w4 ⟨rfl, ok4⟩)
          | (go_at_call_of 15 (Value.string t); refine (NT'.out _ (by assumption)).mono ?_; rintro e w4 ⟨rfl, ok4⟩)
          | (go_at_call_of 15 (Value.string (s ++ t)); refine (NX'.out _ (by assumption)).mono ?_; rintro e w4 ⟨rfl, ok4⟩))
        all_goals
          go_meet
          case rel =>
            refine ⟨?_, by assumption⟩
            have h5 := P5.out
            clear CS CT CX KS KT KX NS' NT' NX' P1 P2 P4 P5 P6 CA
            go_light
            cases NS <;> cases NT <;> cases NX <;> simp_all <;> omega
      case rest =>
        obtain ⟨rfl, ok4⟩ := hcut
        go_wp2_with (first
          | (go_at_call_of 17 (Value.string s); refine (CS.out _ (by assumption)).mono ?_; rintro e w5 ⟨rfl, ok5⟩)
          | (go_at_call_of 15 (Value.string s); refine (NS'.out _ (by assumption)).mono ?_; rintro e w5 ⟨rfl, ok5⟩)
          | (go_at_call_of 15 (Value.string (s ++ t)); refine (NX'.out _ (by assumption)).mono ?_; rintro e w5 ⟨rfl, ok5⟩))
        · go_ret
          exact ⟨rfl, by first | exact ok5.1 | exact ok4.1⟩
        · go_ret
          exact ⟨rfl, by first | exact ok5.1 | exact ok4.1⟩
        · go_ret
          refine ⟨ret_bool ?_, by first | exact ok5.1 | exact ok4.1⟩
          have h6 := P6.out
          clear CS CT CX KS KT KX NS' NT' NX' P1 P2 P4 P5 P6 CA
          go_light
          cases S <;> simp_all
        · go_ret
          exact ⟨rfl, by first | exact ok5.1 | exact ok4.1⟩
end Go.Proofs.YtfejbilnpceejaaDoor.Wch
