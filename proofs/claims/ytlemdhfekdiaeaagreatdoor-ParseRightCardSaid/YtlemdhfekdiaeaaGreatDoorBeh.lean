/- A region that draws its order, whose operations only read, and whose callees read and may lay blocks of their own: walked once, in the order of the text. -/
import Derived.Test.YtlemdhfekdiaeaaGreatDoorKitBytes
import Derived.Deep.Quiet
import Derived.Deep.QuietTactic
namespace Go.Proofs.YtlemdhfekdiaeaaGreatDoor.Kb
open Go Go.RowKit

/-- a world that stands behind w -/
structure Beh (w : World) where
  fin : World
  ok : Below w.heap.size w fin
instance (w : World) : Inhabited (Beh w) := ⟨⟨w, Below.refl _ _⟩⟩
/-- the walk in the order of the text, behind a name that no tactic lays open -/
structure Qw (P : Program) (ops : Array Oper) (C : World → Prop) (Q : Act → Prop) (l : List Oper) (a : Act) : Prop where
  out : wpQuiet P ops C Q l a
theorem Qw_step {P : Program} {ops : Array Oper} {C : World → Prop} {Q : Act → Prop} {a : Act} {o : Oper} {rest : List Oper}
    (h : ∀ K : Act → Prop, (∀ a, Qw P ops C Q rest a → K a) → if Region.wanted o (yielded ops a.tmps) then o.quiet P a C K else K (a.put o.dst undef)) : Qw P ops C Q (o :: rest) a :=
  ⟨wpQuiet_step fun K hK => h K fun a hq => hK a hq.out⟩
theorem Qw_nil {P : Program} {ops : Array Oper} {C : World → Prop} {Q : Act → Prop} {a : Act} (h : Q a) : Qw P ops C Q [] a := ⟨wpQuiet_nil h⟩
theorem wp_region_beh {P : Program} {id : Nat} {Q : Exit → Act → World → Prop} {a : Act} {w : World} {l : List Oper} (hm : P.follows .mixedOrders = true) (hB : Region.lexB .any l.toArray = true)
    (h : Qw P l.toArray (fun w' => ∃ p : Beh w, w' = p.fin) (fun a' => ∀ w', (∃ p : Beh w, w' = p.fin) → Q .normal a' w') l a) : (Code.region id l.toArray true).wp P Q a w :=
  wp_region_quiet (C := fun w' => ∃ p : Beh w, w' = p.fin) hm hB ⟨⟨_, (Below.refl _ w).drew⟩, rfl⟩ (by simpa using h.out)
theorem beh_cell {w : World} {b i : Nat} {v : Value} (h : w.cell? ⟨b, i, none⟩ = some v) : ∀ x : Beh w, x.fin.cell? ⟨b, i, none⟩ = some v := fun x => by
  rw [x.ok.cell (p := ⟨b, i, none⟩) (cell_lt h)]
  exact h
theorem Calls.beh_of {P : Program} {f : FuncId} {args : Array Value} {w : World} {x : Beh w} {v : Value}
    (h : Calls P f args x.fin fun e w' => e = .returned v ∧ Below x.fin.heap.size x.fin w') : Calls P f args x.fin fun e w' => e = .returned v ∧ ∃ y : Beh w, w' = y.fin :=
  h.mono fun _ w' ⟨he, hb⟩ => ⟨he, ⟨w', x.ok.trans (hb.mono x.ok.size)⟩, rfl⟩
end Go.Proofs.YtlemdhfekdiaeaaGreatDoor.Kb
