/- The program's parser: an attribute. -/
import Derived.Test.YtlemdhfekdiaeaaGreatDoorParseU
namespace Go.Proofs.YtlemdhfekdiaeaaGreatDoor.Wps
open Go Go.RowKit Go.Proofs.YtlemdhfekdiaeaaGreatDoor.Kb Go.Proofs.YtlemdhfekdiaeaaGreatDoor.Wch Go.Proofs.YtlemdhfekdiaeaaGreatDoor.Emk

/-- the parser beside a node of the function's own, in block g -/
structure An (B b g : Nat) (s : ByteArray) (st : Ppa.St) (cs : Array Value) (A : Option Addr) (c : Nat) (p v : Value) (r : Ppa.Bs) (w : World) : Prop where
  px : Px B b s st (s.size - r.length) A c p v w
  suf : r <:+ s.data.toList
  ev : EvB B w
  le : B ≤ b
  small : s.size ≤ 65536
  blk : w.heap[g]? = some (.cells cs 35 (0, 0))
  ne : g ≠ b
  n1 : v.ownBlock ≠ some g
  n2 : (Value.slice A st.nodes.length c).ownBlock ≠ some g
  low : B ≤ g
section
variable {B b g f : Nat} {s : ByteArray} {st : Ppa.St} {cs : Array Value} {A : Option Addr} {c : Nat} {p v : Value} {r r' : Ppa.Bs} {w w' : World} {args : Array Value}
theorem An.ps (h : An B b g s st cs A c p v r w) : Ps B b s st r w := h.px.ps h.suf h.ev h.le h.small
theorem An.lt (h : An B b g s st cs A c p v r w) : g < w.heap.size := (Array.getElem?_eq_some_iff.1 h.blk).1
theorem An.below (h : An B b g s st cs A c p v r w) (hb : Below w.heap.size w w') : An B b g s st cs A c p v r w' :=
  ⟨h.px.below hb, h.suf, h.ev.below (hb.mono h.ev.le), h.le, h.small, (hb.block g h.lt).trans h.blk, h.ne, h.n1, h.n2, h.low⟩
theorem An.pa (h : An B b g s st cs A c p v r w) : Pa B b s [.slice A st.nodes.length c, p, v, .int .i64 st.twice, .int .i64 st.deep] r w := ⟨h.px.blk, h.suf, h.ev, h.le, h.small⟩
theorem An.back (h : An B b g s st cs A c p v r w) (hP : Pa B b s [.slice A st.nodes.length c, p, v, .int .i64 st.twice, .int .i64 st.deep] r' w') (hg : w.grownBy w' (some b)) : An B b g s st cs A c p v r' w' :=
  ⟨⟨h.px.known, hP.row, h.px.buf.kept hg (.inr h.px.bufn), h.px.nds.kept hg (.inr h.px.ndsn)⟩, hP.suf, hP.ev, hP.le, hP.small, (hg.block g h.lt (by intro e; injection e with e; exact h.ne e)).trans h.blk, h.ne, h.n1, h.n2, h.low⟩
theorem An.new (h : Ps B b s st r w) : ∃ A c p v, ∀ cs, An B b w.heap.size s st cs A c p v r (w.alloc (.cells cs 35)) := by
  obtain ⟨A, c, p, v, X⟩ := h.px
  have hb : ∀ o, Below w.heap.size w (w.alloc o) := fun o => (Below.refl _ _).alloc (Nat.le_refl _) o
  have hlt := X.lt
  refine ⟨A, c, p, v, fun cs => ⟨X.below (hb _), h.suf, h.ev.below ((hb _).mono h.hB), h.le, h.small, heap_alloc_new _ _, by omega, fun e => ?_, fun e => ?_, h.hB⟩⟩
  · have := (X.buf.lt _ e).2
    omega
  · have := (X.nds.lt _ e).2
    omega
theorem An.cell (h : An B b g s st cs A c p v r w) {i : Nat} {x : Value} (hx : cs[i]? = some x) : w.cell? ⟨g, i, none⟩ = some x := by
  rw [cell_of_row w g _ _ _ _ h.blk]
  simpa using hx
theorem An.unf (h : An B b g s st cs A c p v r w) (i : Nat) : w.frozen? ⟨g, i, none⟩ = false := Joins.unfrozen_of_block h.blk _
theorem An.set (h : An B b g s st cs A c p v r w) (i : Nat) (u : Value) : An B b g s st (cs.setIfInBounds i u) A c p v r (w.setCell ⟨g, i, none⟩ u) :=
  ⟨⟨h.px.known, (Below.heap_setCell _ _ _ _ (fun e => h.ne e.symm)).trans h.px.blk, Flt.own_other h.px.buf h.n1, Flt.own_other h.px.nds h.n2⟩, h.suf, h.ev.below ((Below.refl B w).setCell (p := ⟨g, i, none⟩) h.low u), h.le, h.small, Joins.block_setCell h.blk u, h.ne, h.n1, h.n2, h.low⟩
theorem An.twice (h : An B b g s st cs A c p v r w) (z : Int) : An B b g s { st with twice := z } cs A c p v r (w.setCell ⟨b, 5, none⟩ (.int .i64 z)) :=
  ⟨h.px.twice z, h.suf, h.ev.below ((Below.refl B w).setCell (p := ⟨b, 5, none⟩) h.le _), h.le, h.small, (Below.heap_setCell _ _ _ _ h.ne).trans h.blk, h.ne, h.n1, h.n2, h.low⟩
theorem An.blanks (h : An B b g s st cs A c p v r w) : Calls Tryz.prog 39 #[.pointer (some ⟨b, 0, none⟩)] w fun e w' => e = .returned (.tuple #[]) ∧ An B b g s st cs A c p v (Ppa.blanksL r) w' ∧ Bel B b w w' :=
  (blanks_r h.pa).mono fun _ _ ⟨he, hp, hg⟩ => ⟨he, h.back hp hg, h.ps.grown hg⟩
theorem An.must_ok (l : List UInt8) (hl : l.all (fun c => decide (c.toNat < 128)) = true) (h : An B b g s st cs A c p v r w) (hm : Ppa.mustL l r = .ok r') :
    Calls Tryz.prog 40 #[.pointer (some ⟨b, 0, none⟩), .string ⟨l.toArray⟩] w fun e w' => e = .returned (.tuple #[]) ∧ An B b g s st cs A c p v r' w' ∧ Bel B b w w' :=
  (Wps.must_ok l hl h.pa hm).mono fun _ _ ⟨he, hp, hg⟩ => ⟨he, h.back hp hg, h.ps.grown hg⟩
theorem An.value_ok {vl : Ppa.Bs} (h : An B b g s st cs A c p v r w) (ht : Pch.textsL r = true) (hm : Ppa.valM r = .ok (vl, r')) :
    Calls Tryz.prog 120 #[.pointer (some ⟨b, 0, none⟩)] w fun e w' => e = .returned (.string ⟨vl.toArray⟩) ∧ An B b g s st cs A c p v r' w' ∧ Bel B b w w' :=
  (ways_ok (val := strV) (value_r h.pa ht) hm).mono fun _ _ ⟨he, hp, hg⟩ => ⟨he, h.back hp hg, h.ps.grown hg⟩
end
theorem own_some {w : World} {B n c : Nat} {A : Option Addr} {xs : List Value} (h : w.ownsRow B 35 4 (.slice A n c) n xs) (hn : 0 < n) : ∃ gN, A = some ⟨gN, 0, none⟩ ∧ n ≤ c ∧ gN < w.heap.size := by
  obtain ⟨gN, c', e, _, h2, h3⟩ := Flt.own_block h hn
  injection e with e1 _ e3
  exact ⟨gN, e1, by omega, h2⟩
/-- twice, behind a look at some nodes -/
def tw (st : Ppa.St) (nm : Ppa.Bs) (fr : Int) (L : List Ptr.Nd) : Int := if st.twice < 0 ∧ (L.any fun o => o.2.1 == nm) = true then fr else st.twice
theorem tw_nil (st : Ppa.St) (nm : Ppa.Bs) (fr : Int) : tw st nm fr [] = st.twice := by
  unfold tw
  rw [if_neg]
  rintro ⟨_, h⟩
  cases h
theorem tw_same {st : Ppa.St} {nm : Ppa.Bs} {fr : Int} {L : List Ptr.Nd} {x : Ptr.Nd} (h : ¬ (x.2.1 = nm ∧ tw st nm fr L < 0)) : tw st nm fr (L ++ [x]) = tw st nm fr L := by
  unfold tw at h ⊢
  rw [List.any_append]
  cases hL : (L.any fun o => o.2.1 == nm) with
  | true => simp
  | false =>
    rw [hL] at h
    have h' : ¬ (x.2.1 = nm ∧ st.twice < 0) := by simpa using h
    by_cases h0 : st.twice < 0
    · have hx : (x.2.1 == nm) = false := by simpa using fun e => h' ⟨e, h0⟩
      simp [hx]
    · simp [h0]
theorem tw_set {st : Ppa.St} {nm : Ppa.Bs} {fr : Int} {L : List Ptr.Nd} {x : Ptr.Nd} (h1 : x.2.1 = nm) (h2 : tw st nm fr L < 0) (hf : 0 ≤ fr) : tw st nm fr (L ++ [x]) = fr := by
  unfold tw at h2 ⊢
  have h0 : st.twice < 0 := by
    split at h2
    · omega
    · exact h2
  rw [if_pos ⟨h0, by rw [List.any_append]; simp [h1]⟩]
set_option maxRecDepth 100000 in
set_option maxHeartbeats 2000000 in
theorem attribute_ok {B b q : Nat} {s : ByteArray} {st : Ppa.St} {r r1 r2 r3 nm vl : Ppa.Bs} {w : World} (h : Ps B b s st r w) (hq : q < st.nodes.length) (hn1 : st.nodes.length ≤ 300000) (h1 : Ppa.nameM r = .ok (nm, r1)) (h2 : Ppa.mustL [61] (Ppa.blanksL r1) = .ok r2) (ht : Pch.textsL (Ppa.blanksL r2) = true) (h3 : Ppa.valM (Ppa.blanksL r2) = .ok (vl, r3)) :
    Calls Tryz.prog 83 #[.pointer (some ⟨b, 0, none⟩), .int .i64 (q : Int)] w fun e w' => WaysS B b s w (.tuple #[]) (.ok (r3, Ppa.add { st with twice := tw st nm ((s.size : Int) - r.length) (st.nodes.drop (q + 1)) } (3, nm, vl, (q : Int)))) e w' := by
  have B0 : Kept (Bel B b w w) := ⟨Bel.refl _ _ _⟩
  have hlen := h.len
  have hsm := h.small
  have K1 := Kept.mk h1
  have K2 := Kept.mk h2
  have K3 := Kept.mk h3
  have KT := Kept.mk ht
  obtain ⟨k, hk, c1⟩ := h.at_
  have hfr : (s.size : Int) - r.length = (k : Int) := by omega
  rw [hfr]
  clear h1 h2 h3 ht
  have i0 : (0 : Int) ≤ (q : Int) := by omega
  have i1 : (q : Int) + 1 ≤ (st.nodes.length : Int) := by omega
  have i3 : (st.nodes.length : Int) ≤ 300000 := by omega
  have TG0 : Kept True := ⟨trivial⟩
  go_enter Tryz.func83, Tryz.ntmps83
  go_wp2_with (first
    | (go_at_call 79; refine (name_s_ok h K1.out).mono ?_; rintro e w1 ⟨rfl, H1, hb1⟩; have B1 := Kept.mk (B0.out.trans hb1); clear hb1; obtain ⟨A, c, p, v, hAn⟩ := An.new H1; have H2 := hAn #[.int .u8 3, .string ⟨nm.toArray⟩, .string ⟨#[]⟩, .int .i64 (q : Int)]; have B2 := Kept.mk (B1.out.alloc H1.hB (.cells #[.int .u8 3, .string ⟨nm.toArray⟩, .string ⟨#[]⟩, .int .i64 (q : Int)] 35)); clear hAn)
    | (go_at_call 39; clear TG0; refine (An.blanks H2).mono ?_; rintro e w3 ⟨rfl, H3, hb3⟩; have B3 := Kept.mk (B2.out.trans hb3); clear hb3)
    | (go_at_call 40; refine (An.must_ok [61] (by decide) H3 K2.out).mono ?_; rintro e w4 ⟨rfl, H4, hb4⟩; have B4 := Kept.mk (B3.out.trans hb4); clear hb4)
    | (go_at_call 39; refine (An.blanks H4).mono ?_; rintro e w5 ⟨rfl, H5, hb5⟩; have B5 := Kept.mk (B4.out.trans hb5); clear hb5)
    | (go_at_call 120; refine (An.value_ok H5 KT.out K3.out).mono ?_; rintro e w6 ⟨rfl, H6, hb6⟩; have B6 := Kept.mk (B5.out.trans hb6); clear hb6; have n2 := H6.cell (i := 2) rfl; have f2 := H6.unf 2; have H7 := H6.set 2 (.string ⟨vl.toArray⟩); have B7 := Kept.mk (B6.out.setNd H6.low H6.blk 2 (.string ⟨vl.toArray⟩)); have d2 := H7.px.c2; have d5 := H7.px.c5; obtain ⟨gN, rfl, hcN, hgN⟩ := own_some H7.px.nds (by omega); have i2 : (st.nodes.length : Int) ≤ (c : Int) := (by omega)))
  all_goals
    have H8 : An B b w1.heap.size s { st with twice := tw st nm (k : Int) (List.take 0 (st.nodes.drop (q + 1))) } #[.int .u8 3, .string ⟨nm.toArray⟩, .string ⟨vl.toArray⟩, .int .i64 (q : Int)] (some ⟨gN, 0, none⟩) c p v r3 (w6.setCell ⟨w1.heap.size, 2, none⟩ (.string ⟨vl.toArray⟩)) := (by rw [List.take_zero, tw_nil]; exact H7)
    clear H1 H2 H3 H4 H5 H6 H7 n2 f2 d2 d5 c1 K1 K2 K3 KT
    generalize w6.setCell ⟨w1.heap.size, 2, none⟩ (.string ⟨vl.toArray⟩) = W at *
  · go_loopg [33] (st.nodes.length - (q + 1)) (fun g i wx => ∃ j : Nat, i = .int .i64 (j : Int) ∧ j + g = st.nodes.length - (q + 1) ∧ An B b w1.heap.size s { st with twice := tw st nm (k : Int) (List.take j (st.nodes.drop (q + 1))) } #[.int .u8 3, .string ⟨nm.toArray⟩, .string ⟨vl.toArray⟩, .int .i64 (q : Int)] (some ⟨gN, 0, none⟩) c p v r3 wx ∧ Kept (Bel B b w wx))
    case atStart => exact ⟨0, rfl, by omega, H8, B7⟩
    case round =>
      obtain ⟨j, rfl, hj, H, BW⟩ := hrel
      by_cases hlt : j < st.nodes.length - (q + 1)
      · exfalso
        omega
      · have j1 : ¬ (j : Int) < (st.nodes.length : Int) - ((q : Int) + 1) := by omega
        have n0 := H.cell (i := 0) rfl
        have n1 := H.cell (i := 1) rfl
        have n2 := H.cell (i := 2) rfl
        have n3 := H.cell (i := 3) rfl
        have ht : List.take j (st.nodes.drop (q + 1)) = st.nodes.drop (q + 1) := List.take_of_length_le (by rw [List.length_drop]; omega)
        rw [ht] at H
        have HA := Kept.mk (add_s3 nm vl (q : Int) H.ps (by show st.nodes.length ≤ 1000000; omega))
        clear H
        go_wp2_with (go_at_call 35; refine HA.out.mono ?_; rintro e w9 ⟨rfl, H9, hb9⟩)
        go_end0
        exact ⟨BW.out.trans hb9, rfl, H9⟩
  · go_loopg [33] (st.nodes.length - (q + 1)) (fun g i wx => ∃ j : Nat, i = .int .i64 (j : Int) ∧ j + g = st.nodes.length - (q + 1) ∧ An B b w1.heap.size s { st with twice := tw st nm (k : Int) (List.take j (st.nodes.drop (q + 1))) } #[.int .u8 3, .string ⟨nm.toArray⟩, .string ⟨vl.toArray⟩, .int .i64 (q : Int)] (some ⟨gN, 0, none⟩) c p v r3 wx ∧ Kept (Bel B b w wx))
    case atStart => exact ⟨0, rfl, by omega, H8, B7⟩
    case round =>
      obtain ⟨j, rfl, hj, H, BW⟩ := hrel
      by_cases hlt : j < st.nodes.length - (q + 1)
      · obtain ⟨x, hx⟩ : ∃ x, st.nodes[q + 1 + j]? = some x := ⟨_, List.getElem?_eq_getElem (by omega)⟩
        have hd : (st.nodes.drop (q + 1))[j]? = some x := by rw [List.getElem?_drop]; exact hx
        have htk : List.take (j + 1) (st.nodes.drop (q + 1)) = List.take j (st.nodes.drop (q + 1)) ++ [x] := by rw [List.take_add_one, hd]; rfl
        obtain ⟨kx, nx, vx, px⟩ := x
        have hc := fun i u hi (hu : (Wtr.ndC (kx, nx, vx, px))[i]? = some u) => Flt.own_at H.px.nds ((q + 1 + j) * 4 + i) u (by rw [Wtr.ndsC_get st.nodes (q + 1 + j) _ i hx hi]; exact hu)
        simp only [show (q + 1 + j) * 4 = (q + 1) * 4 + j * 4 by omega] at hc
        have x0 := hc 0 _ (by omega) rfl
        have x1 := hc 1 _ (by omega) rfl
        have x2 := hc 2 _ (by omega) rfl
        have x3 := hc 3 _ (by omega) rfl
        simp only [Nat.add_zero] at x0 x1 x2 x3
        clear hc
        have j0 : (0 : Int) ≤ (j : Int) := by omega
        have j1 : (j : Int) < (st.nodes.length : Int) - ((q : Int) + 1) := by omega
        have hgW := H.lt
        have hbW := H.px.lt
        have n1 := H.cell (i := 1) rfl
        have d5 := H.px.c5
        have f5 := H.px.unf 5
        have HO : An B b w1.heap.size s { st with twice := tw st nm (k : Int) (List.take j (st.nodes.drop (q + 1))) } #[.int .u8 3, .string ⟨nm.toArray⟩, .string ⟨vl.toArray⟩, .int .i64 (q : Int)] (some ⟨gN, 0, none⟩) c p v r3 (wr.alloc (.cells #[.int .u8 kx, .string ⟨nx.toArray⟩, .string ⟨vx.toArray⟩, .int .i64 px] 35)) := H.below ((Below.refl _ _).alloc (Nat.le_refl _) _)
        have BO := Kept.mk (BW.out.alloc H.ps.hB (.cells #[.int .u8 kx, .string ⟨nx.toArray⟩, .string ⟨vx.toArray⟩, .int .i64 px] 35))
        have o1 : (wr.alloc (.cells #[.int .u8 kx, .string ⟨nx.toArray⟩, .string ⟨vx.toArray⟩, .int .i64 px] 35)).cell? ⟨wr.heap.size, 1, none⟩ = some (.string ⟨nx.toArray⟩) := by rw [World.cell?_alloc_new]; rfl
        obtain ⟨T, hT⟩ : ∃ T, tw st nm (k : Int) (List.take j (st.nodes.drop (q + 1))) = T := ⟨_, rfl⟩
        have HS := fun h => tw_same (st := st) (nm := nm) (fr := (k : Int)) (L := List.take j (st.nodes.drop (q + 1))) (x := (kx, nx, vx, px)) h
        have HE := fun h h2 => tw_set (st := st) (nm := nm) (fr := (k : Int)) (L := List.take j (st.nodes.drop (q + 1))) (x := (kx, nx, vx, px)) h h2 (by omega)
        rw [← htk, hT] at HS HE
        dsimp only at HS HE d5
        rw [hT] at H HO d5
        have HO' := Kept.mk HO
        have HS' := Kept.mk HS
        have HE' := Kept.mk HE
        have HH := Kept.mk H
        obtain ⟨g, rfl⟩ : ∃ g, gk = g + 1 := ⟨gk - 1, by omega⟩
        clear HO HS HE htk hd hx hT H H8
        by_cases he : nx = nm
        · subst he
          by_cases hT0 : T < 0
          · have HX := Kept.mk (HE'.out rfl hT0)
            go_wp2
            go_roundg g
            case measure => omega
            case rel =>
              refine ⟨j + 1, by go_num, by omega, ?_, ⟨?_⟩⟩
              · rw [HX.out]
                exact (HH.out.twice (k : Int)).below ((Below.refl _ _).alloc (Nat.le_refl _) _)
              · exact (BW.out.setCell (p := ⟨b, 5, none⟩) HH.out.le _).alloc (by simp; exact HH.out.ps.hB) _
          · have HX := Kept.mk (HS'.out (fun h => hT0 h.2))
            go_wp2
            go_roundg g
            case measure => omega
            case rel =>
              refine ⟨j + 1, by go_num, by omega, ?_, BO⟩
              rw [HX.out]
              exact HO'.out
        · have HX := Kept.mk (HS'.out (fun h => he h.1))
          go_wp2
          go_roundg g
          case measure => omega
          case rel =>
            refine ⟨j + 1, by go_num, by omega, ?_, BO⟩
            rw [HX.out]
            exact HO'.out
      · have j1 : ¬ (j : Int) < (st.nodes.length : Int) - ((q : Int) + 1) := by omega
        have n0 := H.cell (i := 0) rfl
        have n1 := H.cell (i := 1) rfl
        have n2 := H.cell (i := 2) rfl
        have n3 := H.cell (i := 3) rfl
        have ht : List.take j (st.nodes.drop (q + 1)) = st.nodes.drop (q + 1) := List.take_of_length_le (by rw [List.length_drop]; omega)
        rw [ht] at H
        have HA := Kept.mk (add_s3 nm vl (q : Int) H.ps (by show st.nodes.length ≤ 1000000; omega))
        clear H
        go_wp2_with (go_at_call 35; refine HA.out.mono ?_; rintro e w9 ⟨rfl, H9, hb9⟩)
        go_end0
        exact ⟨BW.out.trans hb9, rfl, H9⟩
set_option maxRecDepth 100000 in
set_option maxHeartbeats 2000000 in
theorem attr_name {B b q : Nat} {s : ByteArray} {st : Ppa.St} {r r1 : Ppa.Bs} {w : World} (h : Ps B b s st r w) (h1 : Ppa.nameM r = .error r1) :
    Calls Tryz.prog 83 #[.pointer (some ⟨b, 0, none⟩), .int .i64 (q : Int)] w fun e w' => WaysS B b s w (.tuple #[]) (.error r1) e w' := by
  have B0 : Kept (Bel B b w w) := ⟨Bel.refl _ _ _⟩
  have hsm := h.small
  obtain ⟨k, hk, c1⟩ := h.at_
  have K1 := Kept.mk h1
  clear h1
  go_enter Tryz.func83, Tryz.ntmps83
  go_wp2_with (go_at_call 79; refine (name_s_no h K1.out).mono ?_; rintro e w1 ⟨rfl, hl1, hb1⟩)
  exact ⟨rfl, hb1, rfl, hl1⟩
set_option maxRecDepth 100000 in
set_option maxHeartbeats 2000000 in
theorem attr_must {B b q : Nat} {s : ByteArray} {st : Ppa.St} {r r1 r2 nm : Ppa.Bs} {w : World} (h : Ps B b s st r w) (h1 : Ppa.nameM r = .ok (nm, r1)) (h2 : Ppa.mustL [61] (Ppa.blanksL r1) = .error r2) :
    Calls Tryz.prog 83 #[.pointer (some ⟨b, 0, none⟩), .int .i64 (q : Int)] w fun e w' => WaysS B b s w (.tuple #[]) (.error r2) e w' := by
  have B0 : Kept (Bel B b w w) := ⟨Bel.refl _ _ _⟩
  have hsm := h.small
  obtain ⟨k, hk, c1⟩ := h.at_
  have K1 := Kept.mk h1
  have K2 := Kept.mk h2
  have TG0 : Kept True := ⟨trivial⟩
  clear h1 h2
  go_enter Tryz.func83, Tryz.ntmps83
  go_wp2_with (first
    | (go_at_call 79; refine (name_s_ok h K1.out).mono ?_; rintro e w1 ⟨rfl, H1, hb1⟩; have B1 := Kept.mk (B0.out.trans hb1); clear hb1; have H2 := H1.below ((Below.refl _ _).alloc (Nat.le_refl _) (.cells #[.int .u8 3, .string ⟨nm.toArray⟩, .string ⟨#[]⟩, .int .i64 (q : Int)] 35)); have B2 := Kept.mk (B1.out.alloc H1.hB (.cells #[.int .u8 3, .string ⟨nm.toArray⟩, .string ⟨#[]⟩, .int .i64 (q : Int)] 35)))
    | (go_at_call 39; clear TG0; refine (blanks_s H2).mono ?_; rintro e w3 ⟨rfl, H3, hb3⟩; have B3 := Kept.mk (B2.out.trans hb3); clear hb3)
    | (go_at_call 40; refine (must_s_no [61] (by decide) H3 K2.out).mono ?_; rintro e w4 ⟨rfl, hl4, hb4⟩; have B4 := Kept.mk (B3.out.trans hb4); clear hb4))
  exact ⟨rfl, B4.out, rfl, hl4⟩
set_option maxRecDepth 100000 in
set_option maxHeartbeats 2000000 in
theorem attr_value {B b q : Nat} {s : ByteArray} {st : Ppa.St} {r r1 r2 r3 nm : Ppa.Bs} {w : World} (h : Ps B b s st r w) (h1 : Ppa.nameM r = .ok (nm, r1)) (h2 : Ppa.mustL [61] (Ppa.blanksL r1) = .ok r2) (ht : Pch.textsL (Ppa.blanksL r2) = true) (h3 : Ppa.valM (Ppa.blanksL r2) = .error r3) :
    Calls Tryz.prog 83 #[.pointer (some ⟨b, 0, none⟩), .int .i64 (q : Int)] w fun e w' => WaysS B b s w (.tuple #[]) (.error r3) e w' := by
  have B0 : Kept (Bel B b w w) := ⟨Bel.refl _ _ _⟩
  have hsm := h.small
  obtain ⟨k, hk, c1⟩ := h.at_
  have K1 := Kept.mk h1
  have K2 := Kept.mk h2
  have K3 := Kept.mk h3
  have KT := Kept.mk ht
  have TG0 : Kept True := ⟨trivial⟩
  clear h1 h2 h3 ht
  go_enter Tryz.func83, Tryz.ntmps83
  go_wp2_with (first
    | (go_at_call 79; refine (name_s_ok h K1.out).mono ?_; rintro e w1 ⟨rfl, H1, hb1⟩; have B1 := Kept.mk (B0.out.trans hb1); clear hb1; have H2 := H1.below ((Below.refl _ _).alloc (Nat.le_refl _) (.cells #[.int .u8 3, .string ⟨nm.toArray⟩, .string ⟨#[]⟩, .int .i64 (q : Int)] 35)); have B2 := Kept.mk (B1.out.alloc H1.hB (.cells #[.int .u8 3, .string ⟨nm.toArray⟩, .string ⟨#[]⟩, .int .i64 (q : Int)] 35)))
    | (go_at_call 39; clear TG0; refine (blanks_s H2).mono ?_; rintro e w3 ⟨rfl, H3, hb3⟩; have B3 := Kept.mk (B2.out.trans hb3); clear hb3)
    | (go_at_call 40; refine (must_s_ok [61] (by decide) H3 K2.out).mono ?_; rintro e w4 ⟨rfl, H4, hb4⟩; have B4 := Kept.mk (B3.out.trans hb4); clear hb4)
    | (go_at_call 39; refine (blanks_s H4).mono ?_; rintro e w5 ⟨rfl, H5, hb5⟩; have B5 := Kept.mk (B4.out.trans hb5); clear hb5)
    | (go_at_call 120; refine (value_s_no H5 KT.out K3.out).mono ?_; rintro e w6 ⟨rfl, hl6, hb6⟩; have B6 := Kept.mk (B5.out.trans hb6); clear hb6))
  exact ⟨rfl, B6.out, rfl, hl6⟩
theorem attribute_s {B b q : Nat} {s : ByteArray} {st : Ppa.St} {r : Ppa.Bs} {w : World} (h : Ps B b s st r w) (hm : Ppa.meas st r ≤ 300000) (ht : Pch.textsL r = true) (hq : q < st.nodes.length) :
    Calls Tryz.prog 83 #[.pointer (some ⟨b, 0, none⟩), .int .i64 (q : Int)] w fun e w' => WaysS B b s w (.tuple #[]) (Ppa.attrM s.size q r st) e w' := by
  unfold Ppa.attrM
  cases h1 : Ppa.nameM r with
  | error r1 => exact attr_name h h1
  | ok q1 =>
    obtain ⟨nm, r1⟩ := q1
    dsimp only
    have t1 := (Ppa.nameM_ok h1).2.2 ht
    cases h2 : Ppa.mustL [61] (Ppa.blanksL r1) with
    | error r2 => exact attr_must h h1 h2
    | ok r2 =>
      dsimp only
      have t2 := Ppa.blanksL_texts (mustL_texts _ _ _ (by decide) (Ppa.blanksL_texts t1) h2)
      cases h3 : Ppa.valM (Ppa.blanksL r2) with
      | error r3 => exact attr_value h h1 h2 t2 h3
      | ok q3 =>
        obtain ⟨vl, r3⟩ := q3
        exact attribute_ok h hq (by unfold Ppa.meas at hm; omega) h1 h2 t2 h3
end Go.Proofs.YtlemdhfekdiaeaaGreatDoor.Wps
