/- Relations between two worlds: 'Gr': new blocks and draws alone; 'Touch S': besides, the blocks of S may have been written. -/
import Derived.WalkKit
import Derived.BigQuiet
import Derived.Deep.Cut
namespace Go.Proofs.YtlbbkpjfoabobaaDoor
open Go.RowKit

/-- A fact kept from the walk: behind a structure, so that no tactic looks through it. -/
structure Hid (p : Prop) : Prop where
  out : p
theorem hid {p : Prop} (h : p) : Hid p := ⟨h⟩

/-- w with new blocks behind its heap, and so many draws. -/
def grow (w : World) (xs : Array Obj) (n : Nat) : World := { w with heap := w.heap ++ xs, drawn := n }
theorem grow_block (w : World) (xs : Array Obj) (n k : Nat) (h : k < w.heap.size) : (grow w xs n).heap[k]? = w.heap[k]? := by
  show (w.heap ++ xs)[k]? = _
  rw [Array.getElem?_append_left h]
theorem grow_cell (w : World) (xs : Array Obj) (n b o : Nat) (h : b < w.heap.size) : (grow w xs n).cell? ⟨b, o, none⟩ = w.cell? ⟨b, o, none⟩ :=
  World.cell?_of_block (w := w) (grow_block w xs n b h)
theorem grow_frozen (w : World) (xs : Array Obj) (n b o : Nat) (h : b < w.heap.size) : (grow w xs n).frozen? ⟨b, o, none⟩ = w.frozen? ⟨b, o, none⟩ :=
  World.frozen?_of_block (w := w) (grow_block w xs n b h)
theorem grow_size (w : World) (xs : Array Obj) (n : Nat) : (grow w xs n).heap.size = w.heap.size + xs.size := by
  show (w.heap ++ xs).size = _; simp
theorem grow_grow (w : World) (xs ys : Array Obj) (n m : Nat) : grow (grow w xs n) ys m = grow w (xs ++ ys) m := by
  simp [grow, Array.append_assoc]
def Gr (w W : World) : Prop := ∃ xs n, W = grow w xs n
theorem grow_zero (w : World) : grow w #[] w.drawn = w := by cases w; simp [grow]
theorem Gr.refl (w : World) : Gr w w := ⟨#[], w.drawn, (grow_zero w).symm⟩
theorem Gr.of_eq {w w' : World} (h : w = w') : Gr w w' := h ▸ Gr.refl w
theorem Gr.trans {a b c : World} (h : Gr a b) (k : Gr b c) : Gr a c := by
  obtain ⟨xs, n, rfl⟩ := h; obtain ⟨ys, m, rfl⟩ := k; exact ⟨xs ++ ys, m, grow_grow a xs ys n m⟩
theorem Gr.grow {w W : World} (h : Gr w W) (xs : Array Obj) (n : Nat) : Gr w (grow W xs n) := h.trans ⟨xs, n, rfl⟩
theorem Gr.drewN {w W : World} (h : Gr w W) (n : Nat) : Gr w (W.drewN n) := h.trans ⟨#[], W.drawn + n, by simp [Go.Proofs.YtlbbkpjfoabobaaDoor.grow, World.drewN]⟩
theorem Gr.drew {w W : World} (h : Gr w W) : Gr w W.drew := h.trans ⟨#[], W.drawn + 1, by show _ = ({ W with heap := W.heap ++ #[], drawn := W.drawn + 1 } : World); rw [Array.append_empty]; rfl⟩
theorem Gr.alloc {w W : World} (h : Gr w W) (o : Obj) : Gr w (W.alloc o) := h.trans ⟨#[o], W.drawn, by show _ = ({ W with heap := W.heap ++ #[o], drawn := W.drawn } : World); rw [Array.append_singleton]; rfl⟩
theorem Gr.size {w W : World} (h : Gr w W) : w.heap.size ≤ W.heap.size := by obtain ⟨xs, n, rfl⟩ := h; rw [grow_size]; omega
theorem Gr.block {w W : World} (h : Gr w W) {k : Nat} (hk : k < w.heap.size) : W.heap[k]? = w.heap[k]? := by obtain ⟨xs, n, rfl⟩ := h; exact grow_block w xs n k hk
theorem Gr.cell {w W : World} (h : Gr w W) {b : Nat} (hb : b < w.heap.size) (o : Nat) : W.cell? ⟨b, o, none⟩ = w.cell? ⟨b, o, none⟩ := World.cell?_of_block (w := w) (h.block hb)
theorem Gr.frozen {w W : World} (h : Gr w W) {b : Nat} (hb : b < w.heap.size) (o : Nat) : W.frozen? ⟨b, o, none⟩ = w.frozen? ⟨b, o, none⟩ := World.frozen?_of_block (w := w) (h.block hb)

/-- Nothing of what was there has turned but blocks of S. -/
structure Touch (S : Nat → Prop) (w w' : World) : Prop where
  os : w'.os = w.os
  tape : w'.tape = w.tape
  output : w'.output = w.output
  size : w.heap.size ≤ w'.heap.size
  block : ∀ k, k < w.heap.size → ¬ S k → w'.heap[k]? = w.heap[k]?
theorem Touch.refl (S : Nat → Prop) (w : World) : Touch S w w := ⟨rfl, rfl, rfl, Nat.le_refl _, fun _ _ _ => rfl⟩
theorem Gr.touch {w W : World} (h : Gr w W) (S : Nat → Prop) : Touch S w W := by
  refine ⟨?_, ?_, ?_, h.size, fun k hk _ => h.block hk⟩ <;> (obtain ⟨xs, n, rfl⟩ := h; rfl)
theorem Touch.mono {S T : Nat → Prop} {w w' : World} (h : Touch S w w') (hs : ∀ k, k < w.heap.size → S k → T k) : Touch T w w' :=
  ⟨h.os, h.tape, h.output, h.size, fun k hk hn => h.block k hk (fun hS => hn (hs k hk hS))⟩
theorem Touch.trans {S : Nat → Prop} {a b c : World} (h : Touch S a b) (k : Touch S b c) : Touch S a c :=
  ⟨k.os.trans h.os, k.tape.trans h.tape, k.output.trans h.output, Nat.le_trans h.size k.size, fun i hi hn => (k.block i (Nat.lt_of_lt_of_le hi h.size) hn).trans (h.block i hi hn)⟩
/-- The second step may also have written what the first one has made. -/
theorem Touch.trans' {S T : Nat → Prop} {a b c : World} (h : Touch S a b) (k : Touch T b c) (hT : ∀ i, i < a.heap.size → T i → S i) : Touch S a c :=
  ⟨k.os.trans h.os, k.tape.trans h.tape, k.output.trans h.output, Nat.le_trans h.size k.size, fun i hi hn => (k.block i (Nat.lt_of_lt_of_le hi h.size) (fun ht => hn (hT i hi ht))).trans (h.block i hi hn)⟩
theorem Touch.cell {S : Nat → Prop} {w w' : World} (h : Touch S w w') {b : Nat} (hb : b < w.heap.size) (hS : ¬ S b) (o : Nat) : w'.cell? ⟨b, o, none⟩ = w.cell? ⟨b, o, none⟩ := World.cell?_of_block (w := w) (h.block b hb hS)
theorem Touch.frozen {S : Nat → Prop} {w w' : World} (h : Touch S w w') {b : Nat} (hb : b < w.heap.size) (hS : ¬ S b) (o : Nat) : w'.frozen? ⟨b, o, none⟩ = w.frozen? ⟨b, o, none⟩ := World.frozen?_of_block (w := w) (h.block b hb hS)
theorem Touch.setCell {S : Nat → Prop} {w w' : World} (h : Touch S w w') {a : Addr} (ha : a.block < w.heap.size → S a.block) (v : Value) : Touch S w (w'.setCell a v) := by
  refine h.trans' (T := fun k => k = a.block) ⟨rfl, rfl, rfl, by simp [World.setCell], fun k _ hn => Below.heap_setCell _ _ _ _ hn⟩ ?_
  rintro i hi rfl; exact ha hi
theorem Touch.alloc {S : Nat → Prop} {w w' : World} (h : Touch S w w') (o : Obj) : Touch S w (w'.alloc o) := h.trans (((Gr.refl w').alloc o).touch S)
theorem Touch.drew {S : Nat → Prop} {w w' : World} (h : Touch S w w') : Touch S w w'.drew := h.trans (((Gr.refl w').drew).touch S)
theorem Touch.drewN {S : Nat → Prop} {w w' : World} (h : Touch S w w') (n : Nat) : Touch S w (w'.drewN n) := h.trans (((Gr.refl w').drewN n).touch S)
theorem Touch.below {S : Nat → Prop} {w w' : World} (h : Touch S w w') {B : Nat} (hB : B ≤ w.heap.size) (hS : ∀ k, k < B → ¬ S k) : Below B w w' :=
  ⟨h.os, h.tape, h.output, h.size, fun k hk => h.block k (by omega) (hS k hk)⟩

theorem Touch.gr {w w' : World} (h : Touch (fun _ => False) w w') : Gr w w' := by
  refine ⟨w'.heap.extract w.heap.size w'.heap.size, w'.drawn, ?_⟩
  have hh : w'.heap = w.heap ++ w'.heap.extract w.heap.size w'.heap.size := by
    have hs := h.size
    apply Array.ext_getElem?
    intro i
    rcases Nat.lt_or_ge i w.heap.size with hi | hi
    · rw [h.block i hi (fun h => h), Array.getElem?_append_left hi]
    · rw [Array.getElem?_append_right hi, Array.getElem?_extract]
      by_cases hj : i < w'.heap.size
      · rw [if_pos (by omega)]; congr 1; omega
      · rw [if_neg (by omega), Array.getElem?_eq_none (by omega)]
  obtain ⟨h1, h2, h3, _, _⟩ := h
  cases w; cases w'
  simp only [grow] at *
  subst h1 h2 h3
  congr 1
/-- A call that hands v back and changes nothing that was there. -/
def Gets (P : Program) (f : FuncId) (args : Array Value) (w : World) (v : Value) : Prop := Calls P f args w fun e w' => e = .returned v ∧ Gr w w'
theorem Gets.of_same {P : Program} {f : FuncId} {args : Array Value} {w : World} {v : Value} (h : Calls P f args w fun e w' => e = .returned v ∧ w = w') : Gets P f args w v :=
  h.mono fun _ _ ⟨he, hw⟩ => ⟨he, Gr.of_eq hw⟩
/-- Met in a region: the class of worlds is 'Gr w'. -/
theorem Gets.at {P : Program} {f : FuncId} {args : Array Value} {w W : World} {v : Value} (h : Gets P f args W v) (hg : Gr w W) :
    Calls P f args W fun e w' => e = .returned v ∧ Gr w w' := h.mono fun _ _ ⟨he, hw⟩ => ⟨he, hg.trans hw⟩
/-- A region that draws its order, each of whose operations hands back its value in whatever world that has grown out of w. -/
theorem wp_region_gr {P : Program} {id : Nat} {Q : Exit → Act → World → Prop} {a : Act} {w : World} {l : List Oper} (hm : P.follows .mixedOrders = true) (hB : Region.lexB .any l.toArray = true)
    (h : wpQuiet P l.toArray (fun w' => ∃ xs n, w' = grow w xs n) (fun a' => ∀ w', Gr w w' → Q .normal a' w') l a) : (Code.region id l.toArray true).wp P Q a w :=
  wp_region_quiet (C := fun w' => ∃ xs n, w' = grow w xs n) hm hB ((Gr.refl w).drew) (by rw [List.toList_toArray]; exact h)

/-- min and max of two integers, as one value. -/
theorem run_min2 (P : Program) (k : IntKind) (x y : Int) (w : World) : (Builtin.min2 (.int k x) (.int k y)).run P w = .ok (.int k (min x y)) w := by
  show Result.ok (Value.int k (if y < x then y else x)) w = _
  have : (if y < x then y else x) = min x y := by split <;> omega
  rw [this]
theorem run_max2 (P : Program) (k : IntKind) (x y : Int) (w : World) : (Builtin.max2 (.int k x) (.int k y)).run P w = .ok (.int k (max x y)) w := by
  show Result.ok (Value.int k (if x < y then y else x)) w = _
  have : (if x < y then y else x) = max x y := by split <;> omega
  rw [this]
end Go.Proofs.YtlbbkpjfoabobaaDoor
