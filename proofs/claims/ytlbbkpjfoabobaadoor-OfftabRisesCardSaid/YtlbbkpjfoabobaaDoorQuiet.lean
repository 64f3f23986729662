/- A region that draws its order, whose callees may make memory of their own: one walk, in the order of the text. -/
import Derived.Test.YtlbbkpjfoabobaaDoorMem
namespace Go.Proofs.YtlbbkpjfoabobaaDoor
open Go.RowKit

/-- How far a world has grown. -/
structure GrowBy where
  xs : Array Obj
  n : Nat
  deriving Inhabited
theorem wp_region_by {P : Program} {id : Nat} {Q : Exit → Act → World → Prop} {a : Act} {w : World} {l : List Oper} (hm : P.follows .mixedOrders = true) (hB : Region.lexB .any l.toArray = true)
    (h : wpQuiet P l.toArray (fun w' => ∃ p : GrowBy, w' = grow w p.xs p.n) (fun a' => ∀ w', (∃ p : GrowBy, w' = grow w p.xs p.n) → Q .normal a' w') l a) : (Code.region id l.toArray true).wp P Q a w :=
  wp_region_quiet (C := fun w' => ∃ p : GrowBy, w' = grow w p.xs p.n) hm hB ⟨⟨#[], w.drawn + 1⟩, by obtain ⟨xs, n, h⟩ := (Gr.refl w).drew; show w.drew = ({ w with heap := w.heap ++ #[], drawn := w.drawn + 1 } : World); rw [Array.append_empty]; rfl⟩ (by rw [List.toList_toArray]; exact h)
theorem lt_cell {w : World} {a : Addr} {v : Value} (h : w.cell? a = some v) : a.block < w.heap.size := by
  unfold World.cell? at h
  rcases Nat.lt_or_ge a.block w.heap.size with h1 | h1
  · exact h1
  · rw [Array.getElem?_eq_none h1] at h; cases h
theorem grown (w : World) (xs : Array Obj) (n : Nat) : Gr w (grow w xs n) := ⟨xs, n, rfl⟩
/-- A callee's contract, met in a world of the class. -/
theorem Gets.grown {P : Program} {f : FuncId} {args : Array Value} {w : World} {xs : Array Obj} {n : Nat} {v : Value} (h : Gets P f args (grow w xs n) v) :
    Calls P f args (grow w xs n) fun e w'' => e = .returned v ∧ ∃ p : GrowBy, w'' = Go.Proofs.YtlbbkpjfoabobaaDoor.grow w p.xs p.n :=
  h.mono fun _ _ ⟨he, ys, m, hw⟩ => ⟨he, ⟨xs ++ ys, m⟩, by rw [hw, grow_grow]⟩
theorem Gets.grown_same {P : Program} {f : FuncId} {args : Array Value} {w : World} {xs : Array Obj} {n : Nat} {v : Value} (h : Calls P f args (grow w xs n) fun e w' => e = .returned v ∧ grow w xs n = w') :
    Calls P f args (grow w xs n) fun e w'' => e = .returned v ∧ ∃ p : GrowBy, w'' = Go.Proofs.YtlbbkpjfoabobaaDoor.grow w p.xs p.n :=
  h.mono fun _ _ ⟨he, hw⟩ => ⟨he, ⟨xs, n⟩, hw.symm⟩
end Go.Proofs.YtlbbkpjfoabobaaDoor
