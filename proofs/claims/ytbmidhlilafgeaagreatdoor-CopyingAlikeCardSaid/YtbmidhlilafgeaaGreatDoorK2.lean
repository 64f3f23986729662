/- Relations between two worlds: 'Gr': new blocks and draws alone; 'Touch S': besides, the blocks of S may have been written. A region that draws its order, whose callees may make memory of their own: one walk, in the order of the text. A range over a function whose iterator's state hangs on what the body does: one law. A range over a function, of which the iterator may itself range over a function: what a round keeps, and what the iterator's own steps leave. A region that draws its order, whose reads can be taken first and whose other operations come up one at a time: one walk. XMix inside a fence that lets every function by: also in a round of a range over a function. Slices of the call's own: what is known of their cells, and when they stay. -/
import Derived.WalkKit
import Derived.BigQuiet
import Derived.Deep.Cut
import Derived.RangeFuncNested
import Derived.RangeFuncBound
import Derived.RangeFuncCalls
import Derived.RangeFuncLeaves
import Derived.Deep.RegionHeld3
import Derived.OrdersIn
import Derived.Deep.AppendLies
section
namespace Go.Proofs.YtbmidhlilafgeaaGreatDoor
open Go.RowKit

/-- A fact kept from the walk: behind a structure, so that no tactic looks through it. -/
structure Hid (p : Prop) : Prop where
  out : p
theorem hid {p : Prop} (h : p) : Hid p := ⟨h⟩

/-- w with new blocks behind its heap, and so many draws. -/
def grow (w : World) (xs : Array Obj) (n : Nat) : World := { w with heap := w.heap ++ xs, drawn := n }
theorem grow_block (w : World) (xs : Array Obj) (n k : Nat) (h : k < w.heap.size) : (grow w xs n).heap[k]? = w.heap[k]? := by
  show (w.heap ++ xs)[k]? = _
  rw [Array.getElem?_append_left h]
theorem grow_cell (w : World) (xs : Array Obj) (n b o : Nat) (h : b < w.heap.size) : (grow w xs n).cell? ⟨b, o, none⟩ = w.cell? ⟨b, o, none⟩ :=
  World.cell?_of_block (w := w) (grow_block w xs n b h)
theorem grow_frozen (w : World) (xs : Array Obj) (n b o : Nat) (h : b < w.heap.size) : (grow w xs n).frozen? ⟨b, o, none⟩ = w.frozen? ⟨b, o, none⟩ :=
  World.frozen?_of_block (w := w) (grow_block w xs n b h)
theorem grow_size (w : World) (xs : Array Obj) (n : Nat) : (grow w xs n).heap.size = w.heap.size + xs.size := by
  show (w.heap ++ xs).size = _; simp
theorem grow_grow (w : World) (xs ys : Array Obj) (n m : Nat) : grow (grow w xs n) ys m = grow w (xs ++ ys) m := by
  simp [grow, Array.append_assoc]
def Gr (w W : World) : Prop := ∃ xs n, W = grow w xs n
theorem grow_zero (w : World) : grow w #[] w.drawn = w := by cases w; simp [grow]
theorem Gr.refl (w : World) : Gr w w := ⟨#[], w.drawn, (grow_zero w).symm⟩
theorem Gr.of_eq {w w' : World} (h : w = w') : Gr w w' := h ▸ Gr.refl w
theorem Gr.trans {a b c : World} (h : Gr a b) (k : Gr b c) : Gr a c := by
  obtain ⟨xs, n, rfl⟩ := h; obtain ⟨ys, m, rfl⟩ := k; exact ⟨xs ++ ys, m, grow_grow a xs ys n m⟩
theorem Gr.grow {w W : World} (h : Gr w W) (xs : Array Obj) (n : Nat) : Gr w (grow W xs n) := h.trans ⟨xs, n, rfl⟩
theorem Gr.drewN {w W : World} (h : Gr w W) (n : Nat) : Gr w (W.drewN n) := h.trans ⟨#[], W.drawn + n, by simp [Go.Proofs.YtbmidhlilafgeaaGreatDoor.grow, World.drewN]⟩
theorem Gr.drew {w W : World} (h : Gr w W) : Gr w W.drew := h.trans ⟨#[], W.drawn + 1, by show _ = ({ W with heap := W.heap ++ #[], drawn := W.drawn + 1 } : World); rw [Array.append_empty]; rfl⟩
theorem Gr.alloc {w W : World} (h : Gr w W) (o : Obj) : Gr w (W.alloc o) := h.trans ⟨#[o], W.drawn, by show _ = ({ W with heap := W.heap ++ #[o], drawn := W.drawn } : World); rw [Array.append_singleton]; rfl⟩
theorem Gr.size {w W : World} (h : Gr w W) : w.heap.size ≤ W.heap.size := by obtain ⟨xs, n, rfl⟩ := h; rw [grow_size]; omega
theorem Gr.block {w W : World} (h : Gr w W) {k : Nat} (hk : k < w.heap.size) : W.heap[k]? = w.heap[k]? := by obtain ⟨xs, n, rfl⟩ := h; exact grow_block w xs n k hk
theorem Gr.cell {w W : World} (h : Gr w W) {b : Nat} (hb : b < w.heap.size) (o : Nat) : W.cell? ⟨b, o, none⟩ = w.cell? ⟨b, o, none⟩ := World.cell?_of_block (w := w) (h.block hb)
theorem Gr.frozen {w W : World} (h : Gr w W) {b : Nat} (hb : b < w.heap.size) (o : Nat) : W.frozen? ⟨b, o, none⟩ = w.frozen? ⟨b, o, none⟩ := World.frozen?_of_block (w := w) (h.block hb)

/-- Nothing of what was there has turned but blocks of S. -/
structure Touch (S : Nat → Prop) (w w' : World) : Prop where
  os : w'.os = w.os
  tape : w'.tape = w.tape
  output : w'.output = w.output
  size : w.heap.size ≤ w'.heap.size
  block : ∀ k, k < w.heap.size → ¬ S k → w'.heap[k]? = w.heap[k]?
theorem Touch.refl (S : Nat → Prop) (w : World) : Touch S w w := ⟨rfl, rfl, rfl, Nat.le_refl _, fun _ _ _ => rfl⟩
theorem Gr.touch {w W : World} (h : Gr w W) (S : Nat → Prop) : Touch S w W := by
  refine ⟨?_, ?_, ?_, h.size, fun k hk _ => h.block hk⟩ <;> (obtain ⟨xs, n, rfl⟩ := h; rfl)
theorem Touch.mono {S T : Nat → Prop} {w w' : World} (h : Touch S w w') (hs : ∀ k, k < w.heap.size → S k → T k) : Touch T w w' :=
  ⟨h.os, h.tape, h.output, h.size, fun k hk hn => h.block k hk (fun hS => hn (hs k hk hS))⟩
theorem Touch.trans {S : Nat → Prop} {a b c : World} (h : Touch S a b) (k : Touch S b c) : Touch S a c :=
  ⟨k.os.trans h.os, k.tape.trans h.tape, k.output.trans h.output, Nat.le_trans h.size k.size, fun i hi hn => (k.block i (Nat.lt_of_lt_of_le hi h.size) hn).trans (h.block i hi hn)⟩
/-- The second step may also have written what the first one has made. -/
theorem Touch.trans' {S T : Nat → Prop} {a b c : World} (h : Touch S a b) (k : Touch T b c) (hT : ∀ i, i < a.heap.size → T i → S i) : Touch S a c :=
  ⟨k.os.trans h.os, k.tape.trans h.tape, k.output.trans h.output, Nat.le_trans h.size k.size, fun i hi hn => (k.block i (Nat.lt_of_lt_of_le hi h.size) (fun ht => hn (hT i hi ht))).trans (h.block i hi hn)⟩
theorem Touch.cell {S : Nat → Prop} {w w' : World} (h : Touch S w w') {b : Nat} (hb : b < w.heap.size) (hS : ¬ S b) (o : Nat) : w'.cell? ⟨b, o, none⟩ = w.cell? ⟨b, o, none⟩ := World.cell?_of_block (w := w) (h.block b hb hS)
theorem Touch.frozen {S : Nat → Prop} {w w' : World} (h : Touch S w w') {b : Nat} (hb : b < w.heap.size) (hS : ¬ S b) (o : Nat) : w'.frozen? ⟨b, o, none⟩ = w.frozen? ⟨b, o, none⟩ := World.frozen?_of_block (w := w) (h.block b hb hS)
theorem Touch.setCell {S : Nat → Prop} {w w' : World} (h : Touch S w w') {a : Addr} (ha : a.block < w.heap.size → S a.block) (v : Value) : Touch S w (w'.setCell a v) := by
  refine h.trans' (T := fun k => k = a.block) ⟨rfl, rfl, rfl, by simp [World.setCell], fun k _ hn => Below.heap_setCell _ _ _ _ hn⟩ ?_
  rintro i hi rfl; exact ha hi
theorem Touch.alloc {S : Nat → Prop} {w w' : World} (h : Touch S w w') (o : Obj) : Touch S w (w'.alloc o) := h.trans (((Gr.refl w').alloc o).touch S)
theorem Touch.drew {S : Nat → Prop} {w w' : World} (h : Touch S w w') : Touch S w w'.drew := h.trans (((Gr.refl w').drew).touch S)
theorem Touch.drewN {S : Nat → Prop} {w w' : World} (h : Touch S w w') (n : Nat) : Touch S w (w'.drewN n) := h.trans (((Gr.refl w').drewN n).touch S)
theorem Touch.below {S : Nat → Prop} {w w' : World} (h : Touch S w w') {B : Nat} (hB : B ≤ w.heap.size) (hS : ∀ k, k < B → ¬ S k) : Below B w w' :=
  ⟨h.os, h.tape, h.output, h.size, fun k hk => h.block k (by omega) (hS k hk)⟩

theorem Touch.gr {w w' : World} (h : Touch (fun _ => False) w w') : Gr w w' := by
  refine ⟨w'.heap.extract w.heap.size w'.heap.size, w'.drawn, ?_⟩
  have hh : w'.heap = w.heap ++ w'.heap.extract w.heap.size w'.heap.size := by
    have hs := h.size
    apply Array.ext_getElem?
    intro i
    rcases Nat.lt_or_ge i w.heap.size with hi | hi
    · rw [h.block i hi (fun h => h), Array.getElem?_append_left hi]
    · rw [Array.getElem?_append_right hi, Array.getElem?_extract]
      by_cases hj : i < w'.heap.size
      · rw [if_pos (by omega)]; congr 1; omega
      · rw [if_neg (by omega), Array.getElem?_eq_none (by omega)]
  obtain ⟨h1, h2, h3, _, _⟩ := h
  cases w; cases w'
  simp only [grow] at *
  subst h1 h2 h3
  congr 1
/-- A call that hands v back and changes nothing that was there. -/
def Gets (P : Program) (f : FuncId) (args : Array Value) (w : World) (v : Value) : Prop := Calls P f args w fun e w' => e = .returned v ∧ Gr w w'
theorem Gets.of_same {P : Program} {f : FuncId} {args : Array Value} {w : World} {v : Value} (h : Calls P f args w fun e w' => e = .returned v ∧ w = w') : Gets P f args w v :=
  h.mono fun _ _ ⟨he, hw⟩ => ⟨he, Gr.of_eq hw⟩
/-- Met in a region: the class of worlds is 'Gr w'. -/
theorem Gets.at {P : Program} {f : FuncId} {args : Array Value} {w W : World} {v : Value} (h : Gets P f args W v) (hg : Gr w W) :
    Calls P f args W fun e w' => e = .returned v ∧ Gr w w' := h.mono fun _ _ ⟨he, hw⟩ => ⟨he, hg.trans hw⟩
/-- A region that draws its order, each of whose operations hands back its value in whatever world that has grown out of w. -/
theorem wp_region_gr {P : Program} {id : Nat} {Q : Exit → Act → World → Prop} {a : Act} {w : World} {l : List Oper} (hm : P.follows .mixedOrders = true) (hB : Region.lexB .any l.toArray = true)
    (h : wpQuiet P l.toArray (fun w' => ∃ xs n, w' = grow w xs n) (fun a' => ∀ w', Gr w w' → Q .normal a' w') l a) : (Code.region id l.toArray true).wp P Q a w :=
  wp_region_quiet (C := fun w' => ∃ xs n, w' = grow w xs n) hm hB ((Gr.refl w).drew) (by rw [List.toList_toArray]; exact h)

/-- min and max of two integers, as one value. -/
theorem run_min2 (P : Program) (k : IntKind) (x y : Int) (w : World) : (Builtin.min2 (.int k x) (.int k y)).run P w = .ok (.int k (min x y)) w := by
  show Result.ok (Value.int k (if y < x then y else x)) w = _
  have : (if y < x then y else x) = min x y := by split <;> omega
  rw [this]
theorem run_max2 (P : Program) (k : IntKind) (x y : Int) (w : World) : (Builtin.max2 (.int k x) (.int k y)).run P w = .ok (.int k (max x y)) w := by
  show Result.ok (Value.int k (if x < y then y else x)) w = _
  have : (if x < y then y else x) = max x y := by split <;> omega
  rw [this]
end Go.Proofs.YtbmidhlilafgeaaGreatDoor
end

section
namespace Go.Proofs.YtbmidhlilafgeaaGreatDoor
open Go.RowKit

/-- How far a world has grown. -/
structure GrowBy where
  xs : Array Obj
  n : Nat
  deriving Inhabited
theorem wp_region_by {P : Program} {id : Nat} {Q : Exit → Act → World → Prop} {a : Act} {w : World} {l : List Oper} (hm : P.follows .mixedOrders = true) (hB : Region.lexB .any l.toArray = true)
    (h : wpQuiet P l.toArray (fun w' => ∃ p : GrowBy, w' = grow w p.xs p.n) (fun a' => ∀ w', (∃ p : GrowBy, w' = grow w p.xs p.n) → Q .normal a' w') l a) : (Code.region id l.toArray true).wp P Q a w :=
  wp_region_quiet (C := fun w' => ∃ p : GrowBy, w' = grow w p.xs p.n) hm hB ⟨⟨#[], w.drawn + 1⟩, by obtain ⟨xs, n, h⟩ := (Gr.refl w).drew; show w.drew = ({ w with heap := w.heap ++ #[], drawn := w.drawn + 1 } : World); rw [Array.append_empty]; rfl⟩ (by rw [List.toList_toArray]; exact h)
theorem lt_cell {w : World} {a : Addr} {v : Value} (h : w.cell? a = some v) : a.block < w.heap.size := by
  unfold World.cell? at h
  rcases Nat.lt_or_ge a.block w.heap.size with h1 | h1
  · exact h1
  · rw [Array.getElem?_eq_none h1] at h; cases h
theorem grown (w : World) (xs : Array Obj) (n : Nat) : Gr w (grow w xs n) := ⟨xs, n, rfl⟩
/-- A callee's contract, met in a world of the class. -/
theorem Gets.grown {P : Program} {f : FuncId} {args : Array Value} {w : World} {xs : Array Obj} {n : Nat} {v : Value} (h : Gets P f args (grow w xs n) v) :
    Calls P f args (grow w xs n) fun e w'' => e = .returned v ∧ ∃ p : GrowBy, w'' = Go.Proofs.YtbmidhlilafgeaaGreatDoor.grow w p.xs p.n :=
  h.mono fun _ _ ⟨he, ys, m, hw⟩ => ⟨he, ⟨xs ++ ys, m⟩, by rw [hw, grow_grow]⟩
theorem Gets.grown_same {P : Program} {f : FuncId} {args : Array Value} {w : World} {xs : Array Obj} {n : Nat} {v : Value} (h : Calls P f args (grow w xs n) fun e w' => e = .returned v ∧ grow w xs n = w') :
    Calls P f args (grow w xs n) fun e w'' => e = .returned v ∧ ∃ p : GrowBy, w'' = Go.Proofs.YtbmidhlilafgeaaGreatDoor.grow w p.xs p.n :=
  h.mono fun _ _ ⟨he, hw⟩ => ⟨he, ⟨xs, n⟩, hw.symm⟩
end Go.Proofs.YtbmidhlilafgeaaGreatDoor
end

section
namespace Go.Proofs.YtbmidhlilafgeaaGreatDoor
open Go.RowKit

section
variable {F : Fence} {n : Nat} {P : Program}

/-- The iterator's contract. A state s of the iteration; Inv: what it wants of the world; gives: what it hands on next; next: the states in which a round may leave it; fin: where it ends. -/
def SeqS {σ α : Type} (F : Fence) (n : Nat) (P : Program) (g : Nat) (lb : Array Value) (encs : α → Array Value) (Inv : σ → World → Prop) (gives : σ → α → Prop) (next : σ → α → σ → Prop) (fin : σ → Prop) (s0 : σ) (w : World) : Prop :=
  ∀ (l : Nat) (J : σ → World → Prop) (Jx : World → Prop) (W : World), Gr w W → (∀ s A B, J s A → Gr A B → J s B) → (∀ A B, Jx A → Gr A B → Jx B) → (∀ s A, J s A → Inv s A) →
    (∀ s x W1, J s W1 → gives s x → YieldAt F (n - 1) P l (encs x) W1 fun e W' => (e = .returned (.bool true) ∧ ∃ s', next s x s' ∧ J s' W') ∨ (e = .returned (.bool false) ∧ Jx W')) →
    J s0 W → CallsIn F n P g (#[.func (.yield l) #[] #[]] ++ lb) W fun e W' => (∃ v, e = .returned v) ∧ ((∃ s, fin s ∧ J s W') ∨ Jx W')

/-- What a round must come to. -/
def roundEnd {σ α : Type} (B : Nat) (I : σ → World → Prop) (Ix : Code → World → Prop) (next : σ → α → σ → Prop) (s : σ) (x : α) (W : World) : Exit → Act → World → Prop
  | .normal, _, W' => Touch (fun k => k < B) W W' ∧ ∃ s', next s x s' ∧ I s' W'
  | .ret, _, W' => Touch (fun k => k < B) W W' ∧ Ix .ret W'
  | .exit id, _, W' => Touch (fun k => k < B) W W' ∧ Ix (.exit id) W'
  | .goto t, _, W' => Touch (fun k => k < B) W W' ∧ Ix (.goto t) W'
  | _, _, _ => False

theorem touch_putObj (W : World) (l : Nat) (o : Obj) {B : Nat} (h : B ≤ l) : Touch (fun k => B ≤ k) W (W.putObj l o) :=
  ⟨rfl, rfl, rfl, by simp, fun k _ hn => World.putObj_heap_other (fun e => hn (by omega))⟩

theorem range_law {σ α : Type} {g : Operand} {ps : Array Tmp} {assign body : Code} {Q : Exit → Act → World → Prop} {a : Act} {w : World}
    (hro : F.round = none) (h1 : 1 ≤ n) {gf : Nat} {lb : Array Value} (hg : a.eval g = .func (.func gf) #[] lb) (hFg : F.fn gf) (eg : ∀ args w, (callFunc gf args).run P w = .ok (.enter gf args) w)
    {encs : α → Array Value} {Inv : σ → World → Prop} {gives : σ → α → Prop} {next : σ → α → σ → Prop} {fin : σ → Prop} {s0 : σ} (hseq : SeqS F (n - 1) P gf lb encs Inv gives next fin s0 w)
    (hps : ∀ x, (encs x).size = ps.size)
    (I : σ → World → Prop) (Ix : Code → World → Prop) (hI : ∀ s A B, I s A → Touch (fun k => w.heap.size ≤ k) A B → I s B) (hIx : ∀ c A B, Ix c A → Touch (fun k => w.heap.size ≤ k) A B → Ix c B)
    (hInv : ∀ s A, I s A → Inv s A) (h0 : I s0 w)
    (hround : ∀ (l : Nat) (s : σ) (x : α) (W : World), w.heap.size + 2 ≤ W.heap.size → I s W → gives s x →
      assign.wpIn (F.inRound l) (n - 1 - 1) P (Exit.then (fun a' Wa => Gr W Wa ∧ ∀ W2, Touch (fun k => k = w.heap.size + 1) Wa W2 → I s W2 → body.wpIn (F.inRound l) (n - 1 - 1) P (roundEnd w.heap.size I Ix next s x W2) a' W2) (fun _ _ _ => False))
        { tmps := (ps.zip (encs x)).foldl (fun t (p, v) => t.setIfInBounds p v) a.tmps, defers := [] } W)
    (hdone : ∀ (D : Nat) (s : σ) (W : World), w.heap.size ≤ D → fin s → I s W → W.heap[D]? = some (.deferred (some [])) → Q .normal { a with defers := { target := .collected D, args := #[] } :: a.defers } W)
    (hstop : ∀ (D : Nat) (c : Code) (W : World), w.heap.size ≤ D → Ix c W → W.heap[D]? = some (.deferred (some [])) → c.wpIn F n P Q { a with defers := { target := .collected D, args := #[] } :: a.defers } W) :
    (Code.rangeFunc g ps assign body).wpIn F n P Q a w := by
  refine wpIn_rangeFunc ?_
  intro fn hfn
  rw [hro]
  obtain ⟨rec, hrec⟩ : ∃ rec : LoopState → Option Code → Loop, rec = fun st pe => { state := st, pending := pe, fn, tmps := a.tmps, params := ps, assign, body, defers := w.heap.size } := ⟨_, rfl⟩
  obtain ⟨W1, hW1⟩ : ∃ W1, (w.alloc (.deferred (some []))).alloc (.loop (rec .ready none)) = W1 := ⟨_, rfl⟩
  have hL1 : W1.heap[w.heap.size + 1]? = some (.loop (rec .ready none)) := by
    rw [← hW1]; have := World.alloc_heap_new (w.alloc (.deferred (some []))) (.loop (rec .ready none)); rwa [World.size_alloc] at this
  have hK1 : W1.heap[w.heap.size]? = some (.deferred (some [])) := by
    rw [← hW1]; exact (Below.heap_alloc _ _ _ (by simp)).trans (World.alloc_heap_new w _)
  have hg1 : Gr w W1 := by rw [← hW1]; exact ((Gr.refl w).alloc _).alloc _
  have tt : ∀ {A B : World}, Gr A B → Touch (fun k => w.heap.size ≤ k) A B := fun h => h.touch _
  have lt_of : ∀ {A : World} {k : Nat} {o : Obj}, A.heap[k]? = some o → k < A.heap.size := fun h => (Array.getElem?_eq_some_iff.1 h).1
  refine ⟨w.heap.size + 1, [{ target := .collected w.heap.size, args := #[] }], W1, { target := .fn (.func gf) lb, args := #[.func (.yield (w.heap.size + 1)) #[] #[]] }, W1, gf,
    #[.func (.yield (w.heap.size + 1)) #[] #[]] ++ lb, W1, ?_, ?_, ?_, ?_, fun _ => h1, ?_⟩
  · rw [← hW1, hrec]; exact run_enterLoop_outer _ _ _ _ _
  · simp only [resolve, hg]
    simp [go_sem]
  · intro f' hf'; simp [Target.leads] at hf'; subst hf'; exact hFg
  · simp [invoke, go_sem, eg]
  · refine (hseq (w.heap.size + 1)
      (fun s W => I s W ∧ W.heap[w.heap.size + 1]? = some (.loop (rec .ready none)) ∧ W.heap[w.heap.size]? = some (.deferred (some [])))
      (fun W => ∃ c, Ix c W ∧ W.heap[w.heap.size + 1]? = some (.loop (rec .done (some c))) ∧ W.heap[w.heap.size]? = some (.deferred (some [])))
      W1 hg1
      (fun s A B hs hg' => ⟨hI s A B hs.1 (tt hg'), (hg'.block (lt_of hs.2.1)).trans hs.2.1, (hg'.block (lt_of hs.2.2)).trans hs.2.2⟩)
      (fun A B hs hg' => by
        obtain ⟨c, hc, hl, hk⟩ := hs
        exact ⟨c, hIx c A B hc (tt hg'), (hg'.block (lt_of hl)).trans hl, (hg'.block (lt_of hk)).trans hk⟩)
      (fun s A hs => hInv s A hs.1) ?_ ⟨hI _ _ _ h0 (tt hg1), hL1, hK1⟩).mono ?_
    · rintro s x W ⟨hi, hl, hk⟩ hgv
      have hlt : w.heap.size + 1 < W.heap.size := lt_of hl
      have hy := run_yield (P := P) (args := encs x) hl (by rw [hrec]; exact hps x)
      rw [hrec] at hy
      refine ⟨fn, _, assign, body, hy, roundIn_of_wpIn hfn (wpIn_mono (hround _ s x W (by omega) hi hgv) ?_)⟩
      rintro e a' Wa hp
      cases e with
      | normal => ?_
      | _ => exact False.elim hp
      obtain ⟨hga, hbody⟩ := hp
      replace hl := (hga.block hlt).trans hl
      replace hk := (hga.block (by omega)).trans hk
      replace hlt := lt_of hl
      replace hi := hI _ _ _ hi (tt hga)
      clear hy hga
      revert hbody
      generalize W = W0
      intro hbody
      obtain ⟨W, rfl⟩ : ∃ W, W = Wa := ⟨_, rfl⟩
      refine ⟨_, run_beginRound hl (by rw [hrec]), ?_⟩
      have hl2 : (W.putObj (w.heap.size + 1) (.loop { rec .ready none with state := .busy })).heap[w.heap.size + 1]? = some (.loop { rec .ready none with state := .busy }) := World.putObj_heap_same hlt
      have hk2 : (W.putObj (w.heap.size + 1) (.loop { rec .ready none with state := .busy })).heap[w.heap.size]? = some (.deferred (some [])) := (World.putObj_heap_other (by omega)).trans hk
      refine wpIn_mono (hbody _ ⟨rfl, rfl, rfl, by simp, fun k _ hn => World.putObj_heap_other hn⟩ (hI _ _ _ hi (touch_putObj W _ _ (by omega)))) ?_
      have fin : ∀ (jump : Option Code) (W3 : World), Touch (fun k => k < w.heap.size) (W.putObj (w.heap.size + 1) (.loop { rec .ready none with state := .busy })) W3 →
          (Instr.endRound (w.heap.size + 1) jump).run P W3 = .ok (.bool jump.isNone) (W3.putObj (w.heap.size + 1) (.loop (rec (if jump.isNone then .ready else .done) jump))) ∧
          (W3.putObj (w.heap.size + 1) (.loop (rec (if jump.isNone then .ready else .done) jump))).heap[w.heap.size + 1]? = some (.loop (rec (if jump.isNone then .ready else .done) jump)) ∧
          (W3.putObj (w.heap.size + 1) (.loop (rec (if jump.isNone then .ready else .done) jump))).heap[w.heap.size]? = some (.deferred (some [])) := fun jump W3 hk3 => by
        have hl3 := (hk3.block _ (lt_of hl2) (by omega)).trans hl2
        have := run_endRound (P := P) jump hl3
        rw [hrec] at this ⊢
        exact ⟨this, World.putObj_heap_same (lt_of hl3), (World.putObj_heap_other (by omega)).trans ((hk3.block _ (lt_of hk2) (by omega)).trans hk2)⟩
      rintro e a3 W3 hp
      cases e with
      | normal =>
        obtain ⟨hk3, s', hn3, hi3⟩ := hp
        obtain ⟨hr, hl4, hk4⟩ := fin none W3 hk3
        exact ⟨_, _, hr, .inl ⟨rfl, s', hn3, hI _ _ _ hi3 (touch_putObj W3 _ _ (by omega)), hl4, hk4⟩⟩
      | ret =>
        obtain ⟨hk3, hi3⟩ := hp
        obtain ⟨hr, hl4, hk4⟩ := fin (some .ret) W3 hk3
        exact ⟨_, _, hr, .inr ⟨rfl, .ret, hIx _ _ _ hi3 (touch_putObj W3 _ _ (by omega)), hl4, hk4⟩⟩
      | exit id =>
        obtain ⟨hk3, hi3⟩ := hp
        obtain ⟨hr, hl4, hk4⟩ := fin (some (.exit id)) W3 hk3
        exact ⟨_, _, hr, .inr ⟨rfl, .exit id, hIx _ _ _ hi3 (touch_putObj W3 _ _ (by omega)), hl4, hk4⟩⟩
      | goto t =>
        obtain ⟨hk3, hi3⟩ := hp
        obtain ⟨hr, hl4, hk4⟩ := fin (some (.goto t)) W3 hk3
        exact ⟨_, _, hr, .inr ⟨rfl, .goto t, hIx _ _ _ hi3 (touch_putObj W3 _ _ (by omega)), hl4, hk4⟩⟩
      | panic ch => exact hp.elim
      | outgrown => exact hp.elim
    · rintro e W2 ⟨⟨v, rfl⟩, (⟨s, hS, hi, hl, hk⟩ | ⟨c, hi, hl, hk⟩)⟩
      · exact ⟨none, _, by have := run_endLoop (P := P) hl (by rw [hrec]; simp); rw [hrec] at this; exact this, hdone _ s _ (Nat.le_refl _) hS (hI _ _ _ hi (touch_putObj W2 _ _ (by omega))) ((World.putObj_heap_other (by omega)).trans hk)⟩
      · exact ⟨some c, _, by have := run_endLoop (P := P) hl (by rw [hrec]; simp); rw [hrec] at this; exact this, hstop _ c _ (Nat.le_refl _) (hIx _ _ _ hi (touch_putObj W2 _ _ (by omega))) ((World.putObj_heap_other (by omega)).trans hk)⟩
end
end Go.Proofs.YtbmidhlilafgeaaGreatDoor
end

section
namespace Go.Proofs.YtbmidhlilafgeaaGreatDoor
open Go.RowKit

section
variable {F : Fence} {n : Nat} {P : Program}

/-- The iterator's contract, as SeqS; but its own steps may turn what has been made since it began, and a round keeps that. -/
def SeqT {σ α : Type} (F : Fence) (n : Nat) (P : Program) (g : Nat) (lb : Array Value) (encs : α → Array Value) (Inv : σ → World → Prop) (gives : σ → α → Prop) (next : σ → α → σ → Prop) (fin : σ → Prop) (s0 : σ) (w : World) : Prop :=
  ∀ (l : Nat) (J : σ → World → Prop) (Jx : World → Prop) (W : World), Gr w W → (∀ s A B, J s A → Touch (fun k => W.heap.size ≤ k) A B → J s B) → (∀ A B, Jx A → Touch (fun k => W.heap.size ≤ k) A B → Jx B) → (∀ s A, J s A → Inv s A) →
    (∀ s x W1, J s W1 → W.heap.size ≤ W1.heap.size → gives s x → YieldAt F (n - 1) P l (encs x) W1 fun e W' => ((e = .returned (.bool true) ∧ ∃ s', next s x s' ∧ J s' W') ∨ (e = .returned (.bool false) ∧ Jx W')) ∧ Touch (fun k => k < W.heap.size) W1 W') →
    J s0 W → CallsIn F n P g (#[.func (.yield l) #[] #[]] ++ lb) W fun e W' => (∃ v, e = .returned v) ∧ ((∃ s, fin s ∧ J s W') ∨ Jx W')
theorem touch_put1 (W : World) (l : Nat) (o : Obj) : Touch (fun k => k = l) W (W.putObj l o) :=
  ⟨rfl, rfl, rfl, by simp, fun _ _ hn => World.putObj_heap_other hn⟩

theorem SeqS.toT {σ α : Type} {g : Nat} {lb : Array Value} {encs : α → Array Value} {Inv : σ → World → Prop} {gives : σ → α → Prop} {next : σ → α → σ → Prop} {fin : σ → Prop} {s0 : σ} {w : World} (h : SeqS F n P g lb encs Inv gives next fin s0 w) : SeqT F n P g lb encs Inv gives next fin s0 w := by
  intro l J Jx W hg hJ hJx hI hY h0
  refine h l (fun s A => J s A ∧ W.heap.size ≤ A.heap.size) Jx W hg (fun s A B hs hAB => ⟨hJ s A B hs.1 (hAB.touch _), Nat.le_trans hs.2 hAB.size⟩) (fun A B hs hAB => hJx A B hs (hAB.touch _)) (fun s A hs => hI s A hs.1) ?_ ⟨h0, Nat.le_refl _⟩ |>.mono ?_
  · rintro s x W1 ⟨hs, hsz⟩ hx
    refine (hY s x W1 hs hsz hx).mono ?_
    rintro e W' ⟨⟨he, s', hn, hJ'⟩ | ⟨he, hx'⟩, ht⟩
    · exact .inl ⟨he, s', hn, hJ', Nat.le_trans hsz ht.size⟩
    · exact .inr ⟨he, hx'⟩
  · rintro e W' ⟨hv, ⟨s, hs, hJ', _⟩ | hx⟩
    · exact ⟨hv, .inl ⟨s, hs, hJ'⟩⟩
    · exact ⟨hv, .inr hx⟩
theorem range_lawT {σ α : Type} {g : Operand} {ps : Array Tmp} {assign body : Code} {Q : Exit → Act → World → Prop} {a : Act} {w : World}
    (hro : F.round = none) (h1 : 1 ≤ n) {gf : Nat} {lb : Array Value} (hg : a.eval g = .func (.func gf) #[] lb) (hFg : F.fn gf) (eg : ∀ args w, (callFunc gf args).run P w = .ok (.enter gf args) w)
    {encs : α → Array Value} {Inv : σ → World → Prop} {gives : σ → α → Prop} {next : σ → α → σ → Prop} {fin : σ → Prop} {s0 : σ} (hseq : SeqT F (n - 1) P gf lb encs Inv gives next fin s0 w)
    (hps : ∀ x, (encs x).size = ps.size)
    (I : σ → World → Prop) (Ix : Code → World → Prop) (hI : ∀ s A B, I s A → Touch (fun k => w.heap.size ≤ k) A B → I s B) (hIx : ∀ c A B, Ix c A → Touch (fun k => w.heap.size ≤ k) A B → Ix c B)
    (hInv : ∀ s A, I s A → Inv s A) (h0 : I s0 w)
    (hround : ∀ (l : Nat) (s : σ) (x : α) (W : World), w.heap.size + 2 ≤ W.heap.size → I s W → gives s x →
      assign.wpIn (F.inRound l) (n - 1 - 1) P (Exit.then (fun a' Wa => Gr W Wa ∧ ∀ W2, Touch (fun k => k = w.heap.size + 1) Wa W2 → I s W2 → body.wpIn (F.inRound l) (n - 1 - 1) P (roundEnd w.heap.size I Ix next s x W2) a' W2) (fun _ _ _ => False))
        { tmps := (ps.zip (encs x)).foldl (fun t (p, v) => t.setIfInBounds p v) a.tmps, defers := [] } W)
    (hdone : ∀ (D : Nat) (s : σ) (W : World), w.heap.size ≤ D → fin s → I s W → W.heap[D]? = some (.deferred (some [])) → Q .normal { a with defers := { target := .collected D, args := #[] } :: a.defers } W)
    (hstop : ∀ (D : Nat) (c : Code) (W : World), w.heap.size ≤ D → Ix c W → W.heap[D]? = some (.deferred (some [])) → c.wpIn F n P Q { a with defers := { target := .collected D, args := #[] } :: a.defers } W) :
    (Code.rangeFunc g ps assign body).wpIn F n P Q a w := by
  refine wpIn_rangeFunc ?_
  intro fn hfn
  rw [hro]
  obtain ⟨rec, hrec⟩ : ∃ rec : LoopState → Option Code → Loop, rec = fun st pe => { state := st, pending := pe, fn, tmps := a.tmps, params := ps, assign, body, defers := w.heap.size } := ⟨_, rfl⟩
  obtain ⟨W1, hW1⟩ : ∃ W1, (w.alloc (.deferred (some []))).alloc (.loop (rec .ready none)) = W1 := ⟨_, rfl⟩
  have hL1 : W1.heap[w.heap.size + 1]? = some (.loop (rec .ready none)) := by
    rw [← hW1]; have := World.alloc_heap_new (w.alloc (.deferred (some []))) (.loop (rec .ready none)); rwa [World.size_alloc] at this
  have hK1 : W1.heap[w.heap.size]? = some (.deferred (some [])) := by
    rw [← hW1]; exact (Below.heap_alloc _ _ _ (by simp)).trans (World.alloc_heap_new w _)
  have hg1 : Gr w W1 := by rw [← hW1]; exact ((Gr.refl w).alloc _).alloc _
  have tt : ∀ {A B : World}, Gr A B → Touch (fun k => w.heap.size ≤ k) A B := fun h => h.touch _
  have lt_of : ∀ {A : World} {k : Nat} {o : Obj}, A.heap[k]? = some o → k < A.heap.size := fun h => (Array.getElem?_eq_some_iff.1 h).1
  refine ⟨w.heap.size + 1, [{ target := .collected w.heap.size, args := #[] }], W1, { target := .fn (.func gf) lb, args := #[.func (.yield (w.heap.size + 1)) #[] #[]] }, W1, gf,
    #[.func (.yield (w.heap.size + 1)) #[] #[]] ++ lb, W1, ?_, ?_, ?_, ?_, fun _ => h1, ?_⟩
  · rw [← hW1, hrec]; exact run_enterLoop_outer _ _ _ _ _
  · simp only [resolve, hg]
    simp [go_sem]
  · intro f' hf'; simp [Target.leads] at hf'; subst hf'; exact hFg
  · simp [invoke, go_sem, eg]
  · have hs1 : W1.heap.size = w.heap.size + 2 := by rw [← hW1]; simp
    refine (hseq (w.heap.size + 1)
      (fun s W => I s W ∧ W.heap[w.heap.size + 1]? = some (.loop (rec .ready none)) ∧ W.heap[w.heap.size]? = some (.deferred (some [])))
      (fun W => ∃ c, Ix c W ∧ W.heap[w.heap.size + 1]? = some (.loop (rec .done (some c))) ∧ W.heap[w.heap.size]? = some (.deferred (some [])))
      W1 hg1
      (fun s A B hs ht => ⟨hI s A B hs.1 (ht.mono (fun k _ h => by omega)), (ht.block _ (lt_of hs.2.1) (by omega)).trans hs.2.1, (ht.block _ (lt_of hs.2.2) (by omega)).trans hs.2.2⟩)
      (fun A B hs ht => by
        obtain ⟨c, hc, hl, hk⟩ := hs
        exact ⟨c, hIx c A B hc (ht.mono (fun k _ h => by omega)), (ht.block _ (lt_of hl) (by omega)).trans hl, (ht.block _ (lt_of hk) (by omega)).trans hk⟩)
      (fun s A hs => hInv s A hs.1) ?_ ⟨hI _ _ _ h0 (tt hg1), hL1, hK1⟩).mono ?_
    · rintro s x W ⟨hi, hl, hk⟩ - hgv
      have hlt : w.heap.size + 1 < W.heap.size := lt_of hl
      have hy := run_yield (P := P) (args := encs x) hl (by rw [hrec]; exact hps x)
      rw [hrec] at hy
      refine ⟨fn, _, assign, body, hy, roundIn_of_wpIn hfn (wpIn_mono (hround _ s x W (by omega) hi hgv) ?_)⟩
      rintro e a' Wa hp
      cases e with
      | normal => ?_
      | _ => exact False.elim hp
      obtain ⟨hga, hbody⟩ := hp
      replace hl := (hga.block hlt).trans hl
      replace hk := (hga.block (by omega)).trans hk
      replace hlt := lt_of hl
      replace hi := hI _ _ _ hi (tt hga)
      clear hy
      revert hbody hga
      generalize W = W0
      intro hga hbody
      obtain ⟨W, rfl⟩ : ∃ W, W = Wa := ⟨_, rfl⟩
      refine ⟨_, run_beginRound hl (by rw [hrec]), ?_⟩
      have hl2 : (W.putObj (w.heap.size + 1) (.loop { rec .ready none with state := .busy })).heap[w.heap.size + 1]? = some (.loop { rec .ready none with state := .busy }) := World.putObj_heap_same hlt
      have hk2 : (W.putObj (w.heap.size + 1) (.loop { rec .ready none with state := .busy })).heap[w.heap.size]? = some (.deferred (some [])) := (World.putObj_heap_other (by omega)).trans hk
      refine wpIn_mono (hbody _ ⟨rfl, rfl, rfl, by simp, fun k _ hn => World.putObj_heap_other hn⟩ (hI _ _ _ hi (touch_putObj W _ _ (by omega)))) ?_
      have fin : ∀ (jump : Option Code) (W3 : World), Touch (fun k => k < w.heap.size) (W.putObj (w.heap.size + 1) (.loop { rec .ready none with state := .busy })) W3 →
          (Instr.endRound (w.heap.size + 1) jump).run P W3 = .ok (.bool jump.isNone) (W3.putObj (w.heap.size + 1) (.loop (rec (if jump.isNone then .ready else .done) jump))) ∧
          (W3.putObj (w.heap.size + 1) (.loop (rec (if jump.isNone then .ready else .done) jump))).heap[w.heap.size + 1]? = some (.loop (rec (if jump.isNone then .ready else .done) jump)) ∧
          (W3.putObj (w.heap.size + 1) (.loop (rec (if jump.isNone then .ready else .done) jump))).heap[w.heap.size]? = some (.deferred (some [])) := fun jump W3 hk3 => by
        have hl3 := (hk3.block _ (lt_of hl2) (by omega)).trans hl2
        have := run_endRound (P := P) jump hl3
        rw [hrec] at this ⊢
        exact ⟨this, World.putObj_heap_same (lt_of hl3), (World.putObj_heap_other (by omega)).trans ((hk3.block _ (lt_of hk2) (by omega)).trans hk2)⟩
      have tch : ∀ (o : Obj) (W3 : World), Touch (fun k => k < w.heap.size) (W.putObj (w.heap.size + 1) (.loop { rec .ready none with state := .busy })) W3 → Touch (fun k => k < W1.heap.size) W0 (W3.putObj (w.heap.size + 1) o) := fun o W3 h3 =>
        (((hga.touch _).trans ((touch_put1 W (w.heap.size + 1) _).mono (fun k _ h => by omega))).trans (h3.mono (fun k _ h => by omega))).trans ((touch_put1 W3 (w.heap.size + 1) o).mono (fun k _ h => by omega))
      rintro e a3 W3 hp
      cases e with
      | normal =>
        obtain ⟨hk3, s', hn3, hi3⟩ := hp
        obtain ⟨hr, hl4, hk4⟩ := fin none W3 hk3
        exact ⟨_, _, hr, .inl ⟨rfl, s', hn3, hI _ _ _ hi3 (touch_putObj W3 _ _ (by omega)), hl4, hk4⟩, tch _ _ hk3⟩
      | ret =>
        obtain ⟨hk3, hi3⟩ := hp
        obtain ⟨hr, hl4, hk4⟩ := fin (some .ret) W3 hk3
        exact ⟨_, _, hr, .inr ⟨rfl, .ret, hIx _ _ _ hi3 (touch_putObj W3 _ _ (by omega)), hl4, hk4⟩, tch _ _ hk3⟩
      | exit id =>
        obtain ⟨hk3, hi3⟩ := hp
        obtain ⟨hr, hl4, hk4⟩ := fin (some (.exit id)) W3 hk3
        exact ⟨_, _, hr, .inr ⟨rfl, .exit id, hIx _ _ _ hi3 (touch_putObj W3 _ _ (by omega)), hl4, hk4⟩, tch _ _ hk3⟩
      | goto t =>
        obtain ⟨hk3, hi3⟩ := hp
        obtain ⟨hr, hl4, hk4⟩ := fin (some (.goto t)) W3 hk3
        exact ⟨_, _, hr, .inr ⟨rfl, .goto t, hIx _ _ _ hi3 (touch_putObj W3 _ _ (by omega)), hl4, hk4⟩, tch _ _ hk3⟩
      | panic ch => exact hp.elim
      | outgrown => exact hp.elim
    · rintro e W2 ⟨⟨v, rfl⟩, (⟨s, hS, hi, hl, hk⟩ | ⟨c, hi, hl, hk⟩)⟩
      · exact ⟨none, _, by have := run_endLoop (P := P) hl (by rw [hrec]; simp); rw [hrec] at this; exact this, hdone _ s _ (Nat.le_refl _) hS (hI _ _ _ hi (touch_putObj W2 _ _ (by omega))) ((World.putObj_heap_other (by omega)).trans hk)⟩
      · exact ⟨some c, _, by have := run_endLoop (P := P) hl (by rw [hrec]; simp); rw [hrec] at this; exact this, hstop _ c _ (Nat.le_refl _) (hIx _ _ _ hi (touch_putObj W2 _ _ (by omega))) ((World.putObj_heap_other (by omega)).trans hk)⟩
end
end Go.Proofs.YtbmidhlilafgeaaGreatDoor
end

section
namespace Go.Proofs.YtbmidhlilafgeaaGreatDoor
open Go.RowKit

section
variable {P : Program} {ops : Array Oper} {Q : Exit → Act → World → Prop} {md : Region.Mode} {S : World → Prop}

/-- Whatever order is picked: behind each operation but z the world is one of S. -/
def wpAnyZ (P : Program) (md : Region.Mode) (ops : Array Oper) (Q : Exit → Act → World → Prop) (S : World → Prop) (z : Nat) : Nat → Array Bool → Act → World → Prop
  | 0, listed, a, w => Region.ready md ops listed = [] ∧ Q .normal a w
  | f + 1, listed, a, w =>
    (Region.ready md ops listed = [] → Q .normal a w) ∧
    ∀ i ∈ Region.ready md ops listed, wpOp P ops Q i (fun a' w' => (i = z ∨ S w') ∧ wpAnyZ P md ops Q S z f (listed.setIfInBounds i true) a' w') a w
theorem wpAny_of_Z {z : Nat} : ∀ (f : Nat) (listed : Array Bool) (a : Act) (w : World), wpAnyZ P md ops Q S z f listed a w → wpAny P md ops Q f listed a w
  | 0, _, _, _, h => h
  | f + 1, _, _, _, h => ⟨h.1, fun i hi => wpOp_mono (fun a' w' h' => wpAny_of_Z f _ a' w' h'.2) (h.2 i hi)⟩

/-- What has come up is closed under what it waits for. -/
def Closed (md : Region.Mode) (ops : Array Oper) (listed : Array Bool) : Prop :=
  ∀ j oj, ops[j]? = some oj → listed.getD j false = true → ∀ e ∈ oj.after, Region.binds md e = true → listed.getD e.on false = true
theorem Closed.none (md : Region.Mode) (ops : Array Oper) : Closed md ops (Array.replicate ops.size false) := fun j oj _ hl => by
  simp only [Array.getD_eq_getD_getElem?, Array.getElem?_replicate] at hl
  split at hl <;> simp at hl
theorem Closed.set {listed : Array Bool} {i : Nat} (h : Closed md ops listed) (hi : i ∈ Region.ready md ops listed) : Closed md ops (listed.setIfInBounds i true) := by
  obtain ⟨_, oi, hoi, hall⟩ := mem_ready.1 hi
  intro j oj hj hl e he hb
  by_cases hij : i = j
  · subst hij
    obtain rfl : oj = oi := Option.some.inj (hj.symm.trans hoi)
    exact getD_set_true (hall e he hb)
  · rw [getD_set_ne false hij] at hl
    exact getD_set_true (h j oj hj hl e he hb)
/-- j waits for i, perhaps through others. -/
def anc (md : Region.Mode) (ops : Array Oper) : Nat → Nat → Nat → Bool
  | 0, _, _ => false
  | f + 1, j, i => match ops[j]? with
    | none => false
    | some o => o.after.any fun e => Region.binds md e && (e.on == i || anc md ops f e.on i)
theorem anc_listed {listed : Array Bool} (h : Closed md ops listed) : ∀ (f j i : Nat) (o : Oper), ops[j]? = some o → (∀ e ∈ o.after, Region.binds md e = true → listed.getD e.on false = true) → anc md ops f j i = true → listed.getD i false = true
  | 0, _, _, _, _, _, ha => by cases ha
  | f + 1, j, i, o, ho, hall, ha => by
    simp only [anc, ho] at ha
    obtain ⟨e, he, hb⟩ := Array.any_eq_true'.1 ha
    simp only [Bool.and_eq_true, Bool.or_eq_true, beq_iff_eq] at hb
    have hl := hall e he hb.1
    rcases hb.2 with h1 | h1
    · rw [← h1]; exact hl
    · cases hoe : ops[e.on]? with
      | none => cases f <;> simp [anc, hoe] at h1
      | some oe => exact anc_listed h f e.on i oe hoe (h e.on oe hoe hl) h1
def sinkZ (md : Region.Mode) (ops : Array Oper) (z : Nat) : Bool := decide (ops.size ≤ z) || (List.range ops.size).all fun i => i == z || anc md ops ops.size z i
theorem sinkZ_spec {listed : Array Bool} {z i : Nat} (hz : sinkZ md ops z = true) (h : Closed md ops listed) (hr : z ∈ Region.ready md ops listed) (hi : i < ops.size) (hne : i ≠ z) : listed.getD i false = true := by
  obtain ⟨_, oz, hoz, hall⟩ := mem_ready.1 hr
  simp only [sinkZ, Bool.or_eq_true, decide_eq_true_eq, List.all_eq_true, List.mem_range, beq_iff_eq] at hz
  rcases hz with hz | hz
  · rw [Array.getElem?_eq_none hz] at hoz; cases hoz
  · exact anc_listed h _ z i oz hoz hall ((hz i hi).resolve_left hne)
theorem not_both {listed : Array Bool} {i : Nat} (h1 : listed.getD i true = false) (h2 : listed.getD i false = true) : False := by
  rcases Nat.lt_or_ge i listed.size with h | h
  · simp [h] at h1 h2; rw [h1] at h2; cases h2
  · simp [Array.getElem?_eq_none h] at h1

theorem wpAnyZ_first {z i : Nat} {oi : Oper} {v : Value} (hi : ops[i]? = some oi) (hsel : ∀ (j : Nat) (o : Oper) cs b, ops[j]? = some o → o.op ≠ .select cs b)
    (hQ : ∀ c a w, Q (.panic c) (a.put oi.dst v) w → Q (.panic c) a w) (hz : sinkZ md ops z = true) :
    ∀ (f : Nat) (listed : Array Bool) (a : Act) (w : World), Closed md ops listed →
      (∀ j oj, ops[j]? = some oj → j ≠ i → listed.getD j true = false → (∀ e ∈ oj.after, Region.binds md e = true → e.on ≠ i) → oi.apart ops oj = true) →
      i ∈ Region.ready md ops listed → YieldsIf P ops S oi v a → S w →
      wpAnyZ P md ops Q S z f (listed.setIfInBounds i true) (a.put oi.dst v) w → wpAnyZ P md ops Q S z (f + 1) listed a w := by
  intro f
  induction f with
  | zero =>
    intro listed a w _ _ hr hy hS H
    refine ⟨fun h => (by rw [h] at hr; cases hr), fun j hj => ?_⟩
    by_cases hji : j = i
    · subst hji; exact hy.wpOp hi hS ⟨.inr hS, H⟩
    · have := ready_mono hj hji
      rw [H.1] at this
      cases this
  | succ f ih =>
    intro listed a w hcl hfree hr hy hS H
    refine ⟨fun h => (by rw [h] at hr; cases hr), fun j hj => ?_⟩
    by_cases hji : j = i
    · subst hji; exact hy.wpOp hi hS ⟨.inr hS, H⟩
    · have h1 := H.2 j (ready_mono hj hji)
      obtain ⟨hjun, oj, hoj, hall⟩ := mem_ready.1 hj
      have hun := (mem_ready.1 hr).1
      have hilt : i < ops.size := (Array.getElem?_eq_some_iff.1 hi).1
      have hjz : j ≠ z := fun e => by
        subst e
        exact not_both hun (sinkZ_spec hz hcl hj hilt (Ne.symm hji))
      have hnot : ∀ e ∈ oj.after, Region.binds md e = true → e.on ≠ i := fun e he hb heq => not_both hun (heq ▸ hall e he hb)
      have h2 := wpOp_putIf hoj (hfree j oj hoj hji hjun hnot) (fun cs b => hsel i oi cs b hi) (fun cs b => hsel j oj cs b hoj) hQ hy h1
      have hfree' : ∀ k ok, ops[k]? = some ok → k ≠ i → (listed.setIfInBounds j true).getD k true = false →
          (∀ e ∈ ok.after, Region.binds md e = true → e.on ≠ i) → oi.apart ops ok = true := fun k ok hk hki hun hno => by
        refine hfree k ok hk hki ?_ hno
        by_cases hjk : j = k
        · subst hjk; exact hjun
        · rw [getD_set_ne true hjk] at hun; exact hun
      refine wpOp_mono (fun a' w' h3 => ?_) h2
      obtain ⟨h3, h4, h5⟩ := h3
      have hS' : S w' := h4.resolve_left hjz
      refine ⟨h4, ih (listed.setIfInBounds j true) a' w' (hcl.set hj) hfree' (ready_mono hr (Ne.symm hji)) h3 hS' ?_⟩
      rw [Array.setIfInBounds_comm _ _ hji]
      exact h5

/-! ### Which operations only read -/
def quietB (o : Oper) : Bool :=
  match o.op with
  | .move _ | .assign _ | .pick .. | .build .. | .load .. | .nilCheck _ | .binOp .. | .unOp .. | .convert .. | .sliceToArrayPointer .. | .makeInterface .. | .makeFunc .. | .slice .. | .fieldAddr .. | .field .. | .indexAddr .. | .index .. | .lookup .. | .typeAssert .. | .extract .. => true
  | .call { callee := .builtin .len, .. } | .call { callee := .builtin .cap, .. } | .call { callee := .builtin .min, .. } | .call { callee := .builtin .max, .. } => true
  | _ => false
theorem run_v {s : Sem Value} {w w' : World} {n : Next} (h : (do pure (Next.value (← s)) : Sem Next).run P w = .ok n w') : ∃ v, n = .value v := by
  rw [Sem.run_bind] at h
  cases hs : s.run P w with
  | ok v w1 => rw [hs] at h; simp only [Result.andThen_ok, Sem.run_pure] at h; cases h; exact ⟨v, rfl⟩
  | halt x w1 => rw [hs] at h; simp only [Result.andThen] at h; cases h
theorem run_nilDeref {w w' : World} {n : Next} (h : (runtimePanic .nilDeref : Sem Next).run P w = .ok n w') : False := by
  simp [runtimePanic, goPanic, go_sem] at h
theorem quiet_value {o : Oper} {ρ : Operand → Value} {w w' : World} {n : Next} (hq : quietB o = true) (h : (execOp ρ o).run P w = .ok n w') : ∃ v, n = .value v := by
  obtain ⟨dst, op, type, pos, after, guard⟩ := o
  cases op
  case move x => simp only [execOp, Sem.run_pure] at h; cases h; exact ⟨_, rfl⟩
  case assign x => simp only [execOp, Sem.run_pure] at h; cases h; exact ⟨_, rfl⟩
  case pick c a b => exact run_v (s := do pure (if ← asBool (ρ c) then ρ a else ρ b)) (by simpa [execOp, Sem.run_bind] using h)
  case nilCheck x =>
    simp only [execOp] at h
    split at h
    · exact (run_nilDeref h).elim
    · exact (run_nilDeref h).elim
    · exact (run_nilDeref h).elim
    · split at h
      · exact (run_nilDeref h).elim
      · rw [Sem.run_bind] at h
        cases h1 : (program : Sem Program).run P w with
        | halt x w1 => rw [h1] at h; simp only [Result.andThen] at h; cases h
        | ok p w1 =>
          rw [h1] at h
          simp only [Result.andThen_ok] at h
          rw [Sem.run_bind] at h
          cases h2 : (nilAhead (p.types.size + Made.depth) _ _ _).run P w1 with
          | halt x w2 => rw [h2] at h; simp only [Result.andThen] at h; cases h
          | ok r w2 =>
            rw [h2] at h
            simp only [Result.andThen_ok] at h
            split at h
            · rw [Sem.run_bind] at h
              simp [unsupported, go_sem] at h
            · simp only [Sem.run_pure] at h; cases h; exact ⟨_, rfl⟩
      · simp only [Sem.run_pure] at h; cases h; exact ⟨_, rfl⟩
    · simp only [Sem.run_pure] at h; cases h; exact ⟨_, rfl⟩
  case call c =>
    obtain ⟨callee, args, ts⟩ := c
    cases callee
    case builtin b =>
      cases b <;> simp [quietB] at hq <;> exact run_v h
    all_goals simp [quietB] at hq
  all_goals first
    | (simp [quietB] at hq; done)
    | exact run_v h

/-! ### The walk: reads first, then an operation that comes up alone, and so on -/
def opsAt (l : List Oper) : List Nat → List Oper
  | [] => []
  | k :: ks => match l[k]? with
    | some o => o :: opsAt l ks
    | none => opsAt l ks
/-- In this order (true: an operation that comes up alone). -/
def mixB (md : Region.Mode) (ops : Array Oper) (z : Nat) : List (Bool × Nat) → Array Bool → Bool
  | [], listed => (Region.ready md ops listed).isEmpty
  | (true, k) :: r, listed => decide (Region.ready md ops listed = [k]) && (k != z || r.isEmpty) && mixB md ops z r (listed.setIfInBounds k true)
  | (false, k) :: r, listed => (Region.ready md ops listed).contains k && Region.free md ops listed k && ((ops[k]?).any quietB) && mixB md ops z r (listed.setIfInBounds k true)
def stepsOf : List (List Nat × Nat) → List Nat → List (Bool × Nat)
  | [], fin => fin.map (fun k => (false, k))
  | (qs, k) :: r, fin => qs.map (fun k => (false, k)) ++ (true, k) :: stepsOf r fin
/-- What is asked: reads, in whatever world of S; then an operation; and so on. -/
def wpSegs (P : Program) (l : List Oper) (S : World → Prop) (z : Nat) (Q : Exit → Act → World → Prop) : List (List Nat × Nat) → List Nat → Act → World → Prop
  | [], fin, a, w => wpQuiet P l.toArray S (fun a' => Q .normal a' w) (opsAt l fin) a
  | (qs, k) :: r, fin, a, w => wpQuiet P l.toArray S (fun a' => wpList P l.toArray (Exit.then (fun a2 w2 => (k = z ∨ S w2) ∧ wpSegs P l S z Q r fin a2 w2) Q) (opsAt l [k]) a' w) (opsAt l qs) a

theorem opsAt_cons {l : List Oper} {k : Nat} {o : Oper} (h : l.toArray[k]? = some o) (ks : List Nat) : opsAt l (k :: ks) = o :: opsAt l ks := by
  have h' : l[k]? = some o := by simpa using h
  simp [opsAt, h']
end
section
variable {P : Program} {l : List Oper} {Q : Exit → Act → World → Prop} {md : Region.Mode} {S : World → Prop} {z : Nat}
theorem yields_of_quiet {o : Oper} {a : Act} {v : Value} {ops : Array Oper} (hq : quietB o = true) (hw : Region.wanted o (yielded ops a.tmps) = true) (h : ∀ w, S w → o.quietAt P a S w v) : YieldsIf P ops S o v a := by
  refine .inl ⟨hw, fun w hS => ?_⟩
  have h1 := h w hS
  unfold Oper.quietAt at h1
  cases hr : (execOp a.eval o).run P w with
  | halt x w' => rw [hr] at h1; exact h1.elim
  | ok n w' =>
    obtain ⟨u, rfl⟩ := quiet_value hq hr
    rw [hr] at h1
    obtain ⟨rfl, rfl⟩ := h1
    rfl
theorem mix_quiet (hsel : Region.noSelect l.toArray = true) (hQ : ∀ c a b w, Q (.panic c) b w → Q (.panic c) a w) (hz : sinkZ md l.toArray z = true) {w : World} (hS : S w) {K : Act → Prop} {R : List (Bool × Nat)} {f : Nat}
    (hK : ∀ listed a, mixB md l.toArray z R listed = true → Closed md l.toArray listed → K a → wpAnyZ P md l.toArray Q S z f listed a w) :
    ∀ (qs : List Nat) (listed : Array Bool) (a : Act), mixB md l.toArray z (qs.map (fun k => (false, k)) ++ R) listed = true → Closed md l.toArray listed → wpQuiet P l.toArray S K (opsAt l qs) a →
      wpAnyZ P md l.toArray Q S z (qs.length + f) listed a w
  | [], listed, a, hB, hc, h => by simpa using hK listed a hB hc h
  | k :: qs, listed, a, hB, hc, h => by
    simp only [List.map_cons, List.cons_append, mixB, Bool.and_eq_true] at hB
    obtain ⟨⟨⟨hr, hf⟩, hq⟩, hB'⟩ := hB
    cases ho : l.toArray[k]? with
    | none => rw [ho] at hq; cases hq
    | some o =>
      rw [ho] at hq
      have hq : quietB o = true := hq
      have hr' : k ∈ Region.ready md l.toArray listed := by simpa using hr
      rw [opsAt_cons ho] at h
      simp only [wpQuiet] at h
      have hy : ∃ v, YieldsIf P l.toArray S o v a ∧ wpQuiet P l.toArray S K (opsAt l qs) (a.put o.dst v) := by
        split at h
        · rename_i hw
          obtain ⟨v, h1, h2⟩ := h
          exact ⟨v, yields_of_quiet hq hw h1, h2⟩
        · rename_i hw
          exact ⟨undef, .inr ⟨by simpa using hw, rfl⟩, h⟩
      obtain ⟨v, hy, hK'⟩ := hy
      have hlen : (k :: qs).length + f = (qs.length + f) + 1 := by simp; omega
      rw [hlen]
      exact wpAnyZ_first ho (Region.noSelect_spec hsel) (fun c a w h => hQ c a _ w h) hz _ listed a w hc (Region.free_spec ho hf) hr' hy hS (mix_quiet hsel hQ hz hS hK qs _ _ hB' (hc.set hr') hK')
theorem wpOp_then {ops : Array Oper} {k : Nat} {N K : Act → World → Prop} {a : Act} {w : World} {o : Oper} (ho : ops[k]? = some o) (hN : ∀ a w, N a w → K a w)
    (h : wpList P ops (Exit.then N Q) [o] a w) : wpOp P ops Q k K a w := by
  unfold wpOp
  simp only [ho]
  simp only [wpList, Exit.then] at h
  split
  · rename_i hw
    rw [if_pos hw] at h
    rcases h with h | ⟨h1, h2⟩
    · refine .inl ?_
      unfold Oper.wp at *
      generalize (execOp a.eval o).run P w = r at *
      cases r with
      | ok n w' =>
        cases n <;> simp only [Oper.upon] at h ⊢
        case value u => exact hN _ _ h
        case skip => exact hN _ _ h
        case defer d => exact hN _ _ h
        case enter f args =>
          refine Calls.mono h fun e w'' he => ?_
          cases e with
          | returned u => exact hN _ _ he
          | panicked c => exact he
          | outgrown => exact he
        case row row args => exact Rows.mono h fun u w'' he => hN _ _ he
      | halt x w' => cases x <;> simp only [Oper.upon] at h ⊢; exact h
    · exact .inr ⟨h1, h2⟩
  · rename_i hw
    rw [if_neg hw] at h
    exact hN _ _ h
theorem mix_all (hsel : Region.noSelect l.toArray = true) (hQ : ∀ c a b w, Q (.panic c) b w → Q (.panic c) a w) (hz : sinkZ md l.toArray z = true) :
    ∀ (segs : List (List Nat × Nat)) (fin : List Nat) (listed : Array Bool) (a : Act) (w : World), mixB md l.toArray z (stepsOf segs fin) listed = true → Closed md l.toArray listed → (S w ∨ stepsOf segs fin = []) → wpSegs P l S z Q segs fin a w →
      wpAnyZ P md l.toArray Q S z (stepsOf segs fin).length listed a w
  | [], fin, listed, a, w, hB, hc, hS, h => by
    rcases hS with hS | hS
    · have := mix_quiet (R := []) (f := 0) (K := fun a' => Q .normal a' w) hsel hQ hz hS (fun listed a hB _ h => ⟨by simpa [mixB] using hB, h⟩) fin listed a (by simpa [stepsOf] using hB) hc h
      simpa [stepsOf] using this
    · have hf : fin = [] := by simpa [stepsOf] using hS
      subst hf
      exact ⟨by simpa [stepsOf, mixB] using hB, h⟩
  | (qs, k) :: r, fin, listed, a, w, hB, hc, hS, h => by
    have hS : S w := hS.resolve_right (by simp [stepsOf])
    have hlen : (stepsOf ((qs, k) :: r) fin).length = qs.length + ((stepsOf r fin).length + 1) := by simp [stepsOf]
    rw [hlen]
    refine mix_quiet hsel hQ hz hS (fun listed a hB hc h => ?_) qs listed a (by simpa [stepsOf] using hB) hc h
    simp only [mixB, Bool.and_eq_true, decide_eq_true_eq] at hB
    obtain ⟨⟨hr, hkz⟩, hB'⟩ := hB
    have hkr : k ∈ Region.ready md l.toArray listed := by rw [hr]; simp
    refine ⟨fun h0 => (by rw [hr] at h0; cases h0), fun i hi => ?_⟩
    rw [hr] at hi
    obtain rfl : i = k := by simpa using hi
    obtain ⟨_, o, ho, _⟩ := mem_ready.1 hkr
    rw [opsAt_cons ho] at h
    refine wpOp_then ho (fun a2 w2 h2 => ⟨h2.1, mix_all hsel hQ hz r fin _ a2 w2 hB' (hc.set hkr) ?_ h2.2⟩) h
    rcases h2.1 with h3 | h3
    · right
      subst h3
      simpa using hkz
    · exact .inl h3
/-- **The region**: segs: reads, and an operation that then comes up alone; fin: reads at the end; z: the last operation (nothing is asked of the world behind it). -/
theorem wp_region_mix {id : Nat} {a : Act} {w : World} (S : World → Prop) (z : Nat) (segs : List (List Nat × Nat)) (fin : List Nat) (hm : P.follows .mixedOrders = true)
    (hB : (Region.noSelect l.toArray && sinkZ .any l.toArray z && mixB .any l.toArray z (stepsOf segs fin) (Array.replicate l.toArray.size false) && (stepsOf segs fin).length == l.toArray.size) = true) (hS : S w.drew)
    (h : wpSegs P l S z (NoPanic Q) segs fin a w.drew) : (Code.region id l.toArray true).wp P Q a w := by
  simp only [Bool.and_eq_true, beq_iff_eq] at hB
  obtain ⟨⟨⟨hsel, hz⟩, hB⟩, hlen⟩ := hB
  refine wp_region_noPanic (wp_region_any hm ?_)
  have := mix_all (P := P) (Q := NoPanic Q) (md := .any) hsel (fun c a b w h => h) hz segs fin _ a w.drew hB (Closed.none .any l.toArray) (.inl hS) h
  rw [hlen] at this
  exact wpAny_of_Z _ _ _ _ this
theorem segs_step {qs : List Nat} {k : Nat} {r : List (List Nat × Nat)} {fin : List Nat} {a : Act} {w : World}
    (h : wpQuiet P l.toArray S (fun a' => wpList P l.toArray (Exit.then (fun a2 w2 => (k = z ∨ S w2) ∧ wpSegs P l S z Q r fin a2 w2) Q) (opsAt l [k]) a' w) (opsAt l qs) a) : wpSegs P l S z Q ((qs, k) :: r) fin a w := h
theorem segs_end {fin : List Nat} {a : Act} {w : World} (h : wpQuiet P l.toArray S (fun a' => Q .normal a' w) (opsAt l fin) a) : wpSegs P l S z Q [] fin a w := h
/-- A world that meets S. -/
structure Held (S : World → Prop) where
  w : World
  h : S w
theorem Held.get {S T : World → Prop} (h : S = T) (p : Held S) : T p.w := h ▸ p.h
theorem Held.of {S : World → Prop} {w : World} (h : S w) : ∃ p : Held S, w = p.w := ⟨⟨w, h⟩, rfl⟩
theorem wp_region_mixS {id : Nat} {a : Act} {w : World} (S : World → Prop) (z : Nat) (segs : List (List Nat × Nat)) (fin : List Nat) (hm : P.follows .mixedOrders = true)
    (hB : (Region.noSelect l.toArray && sinkZ .any l.toArray z && mixB .any l.toArray z (stepsOf segs fin) (Array.replicate l.toArray.size false) && (stepsOf segs fin).length == l.toArray.size) = true) (hS : S w.drew)
    (h : wpSegs P l (fun w' => ∃ p : Held S, w' = p.w) z (NoPanic Q) segs fin a w.drew) : (Code.region id l.toArray true).wp P Q a w :=
  wp_region_mix (fun w' => ∃ p : Held S, w' = p.w) z segs fin hm hB (Held.of hS) h
end
end Go.Proofs.YtbmidhlilafgeaaGreatDoor
end

section
namespace Go.Proofs.YtbmidhlilafgeaaGreatDoor
open Go.RowKit

section
variable {F : Fence} {n : Nat} {P : Program} {ops : Array Oper} {Q : Exit → Act → World → Prop} {md : Region.Mode} {S : World → Prop}

def wpAnyZIn (F : Fence) (n : Nat) (P : Program) (md : Region.Mode) (ops : Array Oper) (Q : Exit → Act → World → Prop) (S : World → Prop) (z : Nat) : Nat → Array Bool → Act → World → Prop
  | 0, listed, a, w => Region.ready md ops listed = [] ∧ Q .normal a w
  | f + 1, listed, a, w =>
    (Region.ready md ops listed = [] → Q .normal a w) ∧
    ∀ i ∈ Region.ready md ops listed, wpOpIn F n P ops Q i (fun a' w' => (i = z ∨ S w') ∧ wpAnyZIn F n P md ops Q S z f (listed.setIfInBounds i true) a' w') a w
theorem wpAnyIn_of_Z {z : Nat} : ∀ (f : Nat) (listed : Array Bool) (a : Act) (w : World), wpAnyZIn F n P md ops Q S z f listed a w → wpAnyIn F n P md ops Q f listed a w
  | 0, _, _, _, h => h
  | f + 1, _, _, _, h => ⟨h.1, fun i hi => wpOpIn_mono (fun a' w' h' => wpAnyIn_of_Z f _ a' w' h'.2) (h.2 i hi)⟩
def noDefer (ops : Array Oper) : Bool := ops.all fun o => match o.op with | .defer _ => false | _ => true
theorem noDefer_spec (h : noDefer ops = true) {j : Nat} {o : Oper} (ho : ops[j]? = some o) (c : Call) : o.op ≠ .defer c := by
  intro heq
  have := Array.all_eq_true_iff_forall_mem.1 h o (Array.mem_of_getElem? ho)
  simp [heq] at this
theorem yieldsIf_wpOpIn {i : Nat} {o : Oper} {v : Value} {a : Act} (hF : ∀ f, F.fn f) (hi : ops[i]? = some o) (hd : ∀ c, o.op ≠ .defer c) (hy : YieldsIf P ops S o v a)
    {K : Act → World → Prop} {w : World} (hS : S w) (h : K (a.put o.dst v) w) : wpOpIn F n P ops Q i K a w := by
  unfold wpOpIn
  simp only [hi]
  rcases hy with ⟨hw, hv⟩ | ⟨hw, rfl⟩
  · simp only [hw, if_true, Oper.wpIn, Oper.semAt_eq F.round a.eval o hd, hv w hS, Oper.uponIn]; exact ⟨fun f _ => hF f, h⟩
  · simp only [hw, Bool.false_eq_true, if_false]; exact ⟨fun f _ => hF f, h⟩
theorem wpOpIn_putIf {j : Nat} {oi oj : Oper} {v : Value} (hF : ∀ f, F.fn f) (hj : ops[j]? = some oj) (hap : oi.apart ops oj = true)
    (hsi : ∀ cs b, oi.op ≠ .select cs b) (hsj : ∀ cs b, oj.op ≠ .select cs b) (hd : ∀ c, oj.op ≠ .defer c)
    (hQ : ∀ c a w, Q (.panic c) (a.put oi.dst v) w → Q (.panic c) a w) {K : Act → World → Prop} {a : Act} {w : World}
    (hy : YieldsIf P ops S oi v a) (h : wpOpIn F n P ops Q j K (a.put oi.dst v) w) :
    wpOpIn F n P ops Q j (fun a' w' => YieldsIf P ops S oi v a' ∧ K (a'.put oi.dst v) w') a w := by
  obtain ⟨h1, h2, h3⟩ := Oper.apart_spec hap
  have keep : ∀ (a : Act), YieldsIf P ops S oi v a → ∀ u, YieldsIf P ops S oi v (a.put oj.dst u) := fun a hy u =>
    hy.of_same (execOp_put oi hsi a oj.dst u h3) (wanted_put oi a oj.dst u h3)
  unfold wpOpIn at *
  simp only [hj] at *
  rw [wanted_put oj a oi.dst v h1] at h
  split
  · rename_i hw
    simp only [hw, if_true] at h
    unfold Oper.wpIn at *
    refine ⟨fun f _ => hF f, ?_⟩
    have h := h.2
    rw [Oper.semAt_eq F.round _ oj hd, execOp_put oj hsj a oi.dst v h1] at h
    rw [Oper.semAt_eq F.round _ oj hd]
    generalize (execOp a.eval oj).run P w = r at *
    cases r with
    | ok x w' =>
      cases x <;> simp only [Oper.uponIn] at h ⊢
      case value u => exact ⟨keep a hy u, by rw [← Act.put_comm a v u h2]; exact h⟩
      case skip => exact ⟨keep a hy _, by rw [← Act.put_comm a v undef h2]; exact h⟩
      case defer d =>
        have keepD : YieldsIf P ops S oi v { a with defers := d :: a.defers } := hy.of_same rfl rfl
        refine ⟨keep _ keepD _, ?_⟩
        rw [← Act.put_comm _ v undef h2, ← Act.put_defers]
        exact h
      case enter f args =>
        refine ⟨h.1, CallsIn.mono h.2 fun e w'' he => ?_⟩
        cases e with
        | returned u => exact ⟨keep a hy u, by rw [← Act.put_comm a v u h2]; exact he⟩
        | panicked c => exact hQ _ _ _ he
        | outgrown => exact he
      case row row args => exact ⟨h.1, RowsIn.mono h.2 fun u w'' he => ⟨keep a hy u, by rw [← Act.put_comm a v u h2]; exact he⟩⟩
      case round l f tmps assign body =>
        refine ⟨h.1, RoundIn.mono h.2 fun e w'' he => ?_⟩
        cases e with
        | returned u => exact ⟨keep a hy u, by rw [← Act.put_comm a v u h2]; exact he⟩
        | panicked c => exact hQ _ _ _ he
        | outgrown => exact he
    | halt x w' =>
      cases x <;> simp only [Oper.uponIn] at h ⊢
      case panic u => exact hQ _ _ _ h
  · rename_i hw
    simp only [hw] at h
    exact ⟨fun f _ => hF f, keep a hy _, by rw [← Act.put_comm a v undef h2]; exact h.2⟩

theorem wpAnyZIn_first {z i : Nat} {oi : Oper} {v : Value} (hF : ∀ f, F.fn f) (hnd : noDefer ops = true) (hi : ops[i]? = some oi) (hsel : ∀ (j : Nat) (o : Oper) cs b, ops[j]? = some o → o.op ≠ .select cs b)
    (hQ : ∀ c a w, Q (.panic c) (a.put oi.dst v) w → Q (.panic c) a w) (hz : sinkZ md ops z = true) :
    ∀ (f : Nat) (listed : Array Bool) (a : Act) (w : World), Closed md ops listed →
      (∀ j oj, ops[j]? = some oj → j ≠ i → listed.getD j true = false → (∀ e ∈ oj.after, Region.binds md e = true → e.on ≠ i) → oi.apart ops oj = true) →
      i ∈ Region.ready md ops listed → YieldsIf P ops S oi v a → S w →
      wpAnyZIn F n P md ops Q S z f (listed.setIfInBounds i true) (a.put oi.dst v) w → wpAnyZIn F n P md ops Q S z (f + 1) listed a w := by
  intro f
  induction f with
  | zero =>
    intro listed a w _ _ hr hy hS H
    refine ⟨fun h => (by rw [h] at hr; cases hr), fun j hj => ?_⟩
    by_cases hji : j = i
    · subst hji; exact yieldsIf_wpOpIn hF hi (noDefer_spec hnd hi) hy hS ⟨.inr hS, H⟩
    · have := ready_mono hj hji
      rw [H.1] at this
      cases this
  | succ f ih =>
    intro listed a w hcl hfree hr hy hS H
    refine ⟨fun h => (by rw [h] at hr; cases hr), fun j hj => ?_⟩
    by_cases hji : j = i
    · subst hji; exact yieldsIf_wpOpIn hF hi (noDefer_spec hnd hi) hy hS ⟨.inr hS, H⟩
    · have h1 := H.2 j (ready_mono hj hji)
      obtain ⟨hjun, oj, hoj, hall⟩ := mem_ready.1 hj
      have hun := (mem_ready.1 hr).1
      have hilt : i < ops.size := (Array.getElem?_eq_some_iff.1 hi).1
      have hjz : j ≠ z := fun e => by
        subst e
        exact not_both hun (sinkZ_spec hz hcl hj hilt (Ne.symm hji))
      have hnot : ∀ e ∈ oj.after, Region.binds md e = true → e.on ≠ i := fun e he hb heq => not_both hun (heq ▸ hall e he hb)
      have h2 := wpOpIn_putIf hF hoj (hfree j oj hoj hji hjun hnot) (fun cs b => hsel i oi cs b hi) (fun cs b => hsel j oj cs b hoj) (noDefer_spec hnd hoj) hQ hy h1
      have hfree' : ∀ k ok, ops[k]? = some ok → k ≠ i → (listed.setIfInBounds j true).getD k true = false →
          (∀ e ∈ ok.after, Region.binds md e = true → e.on ≠ i) → oi.apart ops ok = true := fun k ok hk hki hun hno => by
        refine hfree k ok hk hki ?_ hno
        by_cases hjk : j = k
        · subst hjk; exact hjun
        · rw [getD_set_ne true hjk] at hun; exact hun
      refine wpOpIn_mono (fun a' w' h3 => ?_) h2
      obtain ⟨h3, h4, h5⟩ := h3
      have hS' : S w' := h4.resolve_left hjz
      refine ⟨h4, ih (listed.setIfInBounds j true) a' w' (hcl.set hj) hfree' (ready_mono hr (Ne.symm hji)) h3 hS' ?_⟩
      rw [Array.setIfInBounds_comm _ _ hji]
      exact h5

def wpSegsIn (F : Fence) (n : Nat) (P : Program) (l : List Oper) (S : World → Prop) (z : Nat) (Q : Exit → Act → World → Prop) : List (List Nat × Nat) → List Nat → Act → World → Prop
  | [], fin, a, w => wpQuiet P l.toArray S (fun a' => Q .normal a' w) (opsAt l fin) a
  | (qs, k) :: r, fin, a, w => wpQuiet P l.toArray S (fun a' => wpListIn F n P l.toArray (Exit.then (fun a2 w2 => (k = z ∨ S w2) ∧ wpSegsIn F n P l S z Q r fin a2 w2) Q) (opsAt l [k]) a' w) (opsAt l qs) a
end
section
variable {F : Fence} {n : Nat} {P : Program} {l : List Oper} {Q : Exit → Act → World → Prop} {md : Region.Mode} {S : World → Prop} {z : Nat}
theorem mix_quietIn (hF : ∀ f, F.fn f) (hnd : noDefer l.toArray = true) (hsel : Region.noSelect l.toArray = true) (hQ : ∀ c a b w, Q (.panic c) b w → Q (.panic c) a w) (hz : sinkZ md l.toArray z = true) {w : World} (hS : S w) {K : Act → Prop} {R : List (Bool × Nat)} {f : Nat}
    (hK : ∀ listed a, mixB md l.toArray z R listed = true → Closed md l.toArray listed → K a → wpAnyZIn F n P md l.toArray Q S z f listed a w) :
    ∀ (qs : List Nat) (listed : Array Bool) (a : Act), mixB md l.toArray z (qs.map (fun k => (false, k)) ++ R) listed = true → Closed md l.toArray listed → wpQuiet P l.toArray S K (opsAt l qs) a →
      wpAnyZIn F n P md l.toArray Q S z (qs.length + f) listed a w
  | [], listed, a, hB, hc, h => by simpa using hK listed a hB hc h
  | k :: qs, listed, a, hB, hc, h => by
    simp only [List.map_cons, List.cons_append, mixB, Bool.and_eq_true] at hB
    obtain ⟨⟨⟨hr, hf⟩, hq⟩, hB'⟩ := hB
    cases ho : l.toArray[k]? with
    | none => rw [ho] at hq; cases hq
    | some o =>
      rw [ho] at hq
      have hq : quietB o = true := hq
      have hr' : k ∈ Region.ready md l.toArray listed := by simpa using hr
      rw [opsAt_cons ho] at h
      simp only [wpQuiet] at h
      have hy : ∃ v, YieldsIf P l.toArray S o v a ∧ wpQuiet P l.toArray S K (opsAt l qs) (a.put o.dst v) := by
        split at h
        · rename_i hw
          obtain ⟨v, h1, h2⟩ := h
          exact ⟨v, yields_of_quiet hq hw h1, h2⟩
        · rename_i hw
          exact ⟨undef, .inr ⟨by simpa using hw, rfl⟩, h⟩
      obtain ⟨v, hy, hK'⟩ := hy
      have hlen : (k :: qs).length + f = (qs.length + f) + 1 := by simp; omega
      rw [hlen]
      exact wpAnyZIn_first hF hnd ho (Region.noSelect_spec hsel) (fun c a w h => hQ c a _ w h) hz _ listed a w hc (Region.free_spec ho hf) hr' hy hS (mix_quietIn hF hnd hsel hQ hz hS hK qs _ _ hB' (hc.set hr') hK')
theorem wpOpIn_then {ops : Array Oper} {k : Nat} {N K : Act → World → Prop} {a : Act} {w : World} {o : Oper} (ho : ops[k]? = some o) (hN : ∀ a w, N a w → K a w)
    (h : wpListIn F n P ops (Exit.then N Q) [o] a w) : wpOpIn F n P ops Q k K a w := by
  unfold wpOpIn
  simp only [ho]
  simp only [wpListIn, Exit.then] at h
  split
  · rename_i hw
    rw [if_pos hw] at h
    unfold Oper.wpIn at *
    refine ⟨h.1, ?_⟩
    have h := h.2
    generalize (o.semAt F.round a.eval).run P w = r at *
    cases r with
    | ok n w' =>
      cases n <;> simp only [Oper.uponIn] at h ⊢
      case value u => exact hN _ _ h
      case skip => exact hN _ _ h
      case defer d => exact hN _ _ h
      case enter f args =>
        refine ⟨h.1, CallsIn.mono h.2 fun e w'' he => ?_⟩
        cases e with
        | returned u => exact hN _ _ he
        | panicked c => exact he
        | outgrown => exact he
      case row row args => exact ⟨h.1, RowsIn.mono h.2 fun u w'' he => hN _ _ he⟩
      case round l f tmps assign body =>
        refine ⟨h.1, RoundIn.mono h.2 fun e w'' he => ?_⟩
        cases e with
        | returned u => exact hN _ _ he
        | panicked c => exact he
        | outgrown => exact he
    | halt x w' => cases x <;> simp only [Oper.uponIn] at h ⊢; exact h
  · rename_i hw
    rw [if_neg hw] at h
    exact ⟨h.1, hN _ _ h.2⟩
theorem mix_allIn (hF : ∀ f, F.fn f) (hnd : noDefer l.toArray = true) (hsel : Region.noSelect l.toArray = true) (hQ : ∀ c a b w, Q (.panic c) b w → Q (.panic c) a w) (hz : sinkZ md l.toArray z = true) :
    ∀ (segs : List (List Nat × Nat)) (fin : List Nat) (listed : Array Bool) (a : Act) (w : World), mixB md l.toArray z (stepsOf segs fin) listed = true → Closed md l.toArray listed → (S w ∨ stepsOf segs fin = []) → wpSegsIn F n P l S z Q segs fin a w →
      wpAnyZIn F n P md l.toArray Q S z (stepsOf segs fin).length listed a w
  | [], fin, listed, a, w, hB, hc, hS, h => by
    rcases hS with hS | hS
    · have := mix_quietIn (n := n) (R := []) (f := 0) (K := fun a' => Q .normal a' w) hF hnd hsel hQ hz hS (fun listed a hB _ h => ⟨by simpa [mixB] using hB, h⟩) fin listed a (by simpa [stepsOf] using hB) hc h
      simpa [stepsOf] using this
    · have hf : fin = [] := by simpa [stepsOf] using hS
      subst hf
      exact ⟨by simpa [stepsOf, mixB] using hB, h⟩
  | (qs, k) :: r, fin, listed, a, w, hB, hc, hS, h => by
    have hS : S w := hS.resolve_right (by simp [stepsOf])
    have hlen : (stepsOf ((qs, k) :: r) fin).length = qs.length + ((stepsOf r fin).length + 1) := by simp [stepsOf]
    rw [hlen]
    refine mix_quietIn hF hnd hsel hQ hz hS (fun listed a hB hc h => ?_) qs listed a (by simpa [stepsOf] using hB) hc h
    simp only [mixB, Bool.and_eq_true, decide_eq_true_eq] at hB
    obtain ⟨⟨hr, hkz⟩, hB'⟩ := hB
    have hkr : k ∈ Region.ready md l.toArray listed := by rw [hr]; simp
    refine ⟨fun h0 => (by rw [hr] at h0; cases h0), fun i hi => ?_⟩
    rw [hr] at hi
    obtain rfl : i = k := by simpa using hi
    obtain ⟨_, o, ho, _⟩ := mem_ready.1 hkr
    rw [opsAt_cons ho] at h
    refine wpOpIn_then ho (fun a2 w2 h2 => ⟨h2.1, mix_allIn hF hnd hsel hQ hz r fin _ a2 w2 hB' (hc.set hkr) ?_ h2.2⟩) h
    rcases h2.1 with h3 | h3
    · right
      subst h3
      simpa using hkz
    · exact .inl h3
theorem wpIn_region_mixS {id : Nat} {a : Act} {w : World} (S : World → Prop) (z : Nat) (segs : List (List Nat × Nat)) (fin : List Nat) (hF : ∀ f, F.fn f) (hm : P.follows .mixedOrders = true)
    (hB : (noDefer l.toArray && Region.noSelect l.toArray && sinkZ .any l.toArray z && mixB .any l.toArray z (stepsOf segs fin) (Array.replicate l.toArray.size false) && (stepsOf segs fin).length == l.toArray.size) = true) (hS : S w.drew)
    (h : wpSegsIn F n P l (fun w' => ∃ p : Held S, w' = p.w) z (NoPanic Q) segs fin a w.drew) : (Code.region id l.toArray true).wpIn F n P Q a w := by
  simp only [Bool.and_eq_true, beq_iff_eq] at hB
  obtain ⟨⟨⟨⟨hnd, hsel⟩, hz⟩, hB⟩, hlen⟩ := hB
  refine wpIn_mono (wpIn_region_any hm ?_) NoPanic.imp
  have := mix_allIn (F := F) (n := n) (P := P) (Q := NoPanic Q) (md := .any) hF hnd hsel (fun c a b w h => h) hz segs fin _ a w.drew hB (Closed.none .any l.toArray) (.inl (Held.of hS)) h
  rw [hlen] at this
  exact wpAnyIn_of_Z _ _ _ _ this
theorem segsIn_step {qs : List Nat} {k : Nat} {r : List (List Nat × Nat)} {fin : List Nat} {a : Act} {w : World}
    (h : wpQuiet P l.toArray S (fun a' => wpListIn F n P l.toArray (Exit.then (fun a2 w2 => (k = z ∨ S w2) ∧ wpSegsIn F n P l S z Q r fin a2 w2) Q) (opsAt l [k]) a' w) (opsAt l qs) a) : wpSegsIn F n P l S z Q ((qs, k) :: r) fin a w := h
theorem segsIn_end {fin : List Nat} {a : Act} {w : World} (h : wpQuiet P l.toArray S (fun a' => Q .normal a' w) (opsAt l fin) a) : wpSegsIn F n P l S z Q [] fin a w := h
theorem wide_fn (f : FuncId) : Fence.wide.fn f := trivial
end
end Go.Proofs.YtbmidhlilafgeaaGreatDoor
end

section
namespace Go.Proofs.YtbmidhlilafgeaaGreatDoor
open Go.RowKit

theorem own_keep {w w' : World} {base E size : Nat} {v : Value} {n : Nat} {xs : List Value} (h : w.ownsRow base E size v n xs) (hb : ∀ g, v.ownBlock = some g → w'.heap[g]? = w.heap[g]?) : w'.ownsRow base E size v n xs := by
  obtain ⟨h1, h2 | ⟨g, cap, cur, e1, e2, e3, e4, e5, e6, e7⟩⟩ := h
  · exact ⟨h1, .inl h2⟩
  · exact ⟨h1, .inr ⟨g, cap, cur, e1, e2, by rw [hb g (by rw [e1]; rfl)]; exact e3, e4, e5, e6, e7⟩⟩
theorem own_lt {w : World} {base E size : Nat} {v : Value} {n : Nat} {xs : List Value} (h : w.ownsRow base E size v n xs) {g : Nat} (hg : v.ownBlock = some g) : base ≤ g ∧ g < w.heap.size := by
  obtain ⟨h1, ⟨rfl, _⟩ | ⟨g', cap, cur, e1, e2, e3, e4, e5, e6, e7⟩⟩ := h
  · cases hg
  · rw [e1] at hg
    obtain rfl : g' = g := Option.some.inj hg
    refine ⟨e2, ?_⟩
    rcases Nat.lt_or_ge g' w.heap.size with h | h
    · exact h
    · rw [Array.getElem?_eq_none h] at e3; cases e3
theorem own_touch {S : Nat → Prop} {w w' : World} {base E size : Nat} {v : Value} {n : Nat} {xs : List Value} (h : w.ownsRow base E size v n xs) (t : Touch S w w') (hS : ∀ g, v.ownBlock = some g → ¬ S g) : w'.ownsRow base E size v n xs :=
  own_keep h (fun g hg => t.block g (own_lt h hg).2 (hS g hg))
theorem own_gr {w w' : World} {base E size : Nat} {v : Value} {n : Nat} {xs : List Value} (h : w.ownsRow base E size v n xs) (t : Gr w w') : w'.ownsRow base E size v n xs :=
  own_touch h (t.touch (fun _ => False)) (fun _ _ h => h)
theorem own_nil (w : World) (base E size : Nat) : w.ownsRow base E size (.slice none 0 0) 0 [] := ⟨by simp, .inl ⟨rfl, rfl⟩⟩
/-- The cells of a slice of the call's own. -/
theorem own_cell {w : World} {base E size : Nat} {g n c : Nat} {xs : List Value} (h : w.ownsRow base E size (.slice (some ⟨g, 0, none⟩) n c) n xs) {j : Nat} {u : Value} (hj : xs[j]? = some u) :
    w.cell? ⟨g, j, none⟩ = some u := by
  obtain ⟨h1, ⟨h, _⟩ | ⟨g', cap, cur, e1, e2, e3, e4, e5, e6, e7⟩⟩ := h
  · cases h
  · simp only [Value.slice.injEq, Option.some.injEq, Addr.mk.injEq, and_true, true_and] at e1
    obtain ⟨rfl, rfl⟩ := e1
    unfold World.cell?
    simp only [e3]
    have hlt : j < xs.length := by
      rcases Nat.lt_or_ge j xs.length with h | h
      · exact h
      · rw [List.getElem?_eq_none h] at hj; cases hj
    have : cur[j]? = xs[j]? := by rw [← e7, List.getElem?_take, if_pos (by omega), Array.getElem?_toList]
    rw [if_neg (by simp), this, hj]
theorem own_free {w : World} {base E size : Nat} {g n c : Nat} {xs : List Value} (h : w.ownsRow base E size (.slice (some ⟨g, 0, none⟩) n c) n xs) (j : Nat) : w.frozen? ⟨g, j, none⟩ = false := by
  obtain ⟨h1, ⟨h, _⟩ | ⟨g', cap, cur, e1, e2, e3, e4, e5, e6, e7⟩⟩ := h
  · cases h
  · simp only [Value.slice.injEq, Option.some.injEq, Addr.mk.injEq, and_true, true_and] at e1
    obtain ⟨rfl, rfl⟩ := e1
    unfold World.frozen?
    simp only [e3]
    simp
theorem own_form {w : World} {base E size : Nat} {v : Value} {n : Nat} {xs : List Value} (h : w.ownsRow base E size v n xs) (hn : n ≠ 0) : ∃ g c, v = .slice (some ⟨g, 0, none⟩) n c ∧ base ≤ g ∧ n ≤ c ∧ c ≤ maxLen ∧ g < w.heap.size := by
  have h' := h
  obtain ⟨_, ⟨_, h⟩ | ⟨g, c, cur, e1, e2, e3, e4, e5, _⟩⟩ := h
  · exact absurd h hn
  · exact ⟨g, c, e1, e2, e4, e5, (own_lt h' (by rw [e1]; rfl)).2⟩
/-- Behind an append: only the row's own block has been written. -/
theorem grown_touch {w w' : World} {row : Option Nat} (h : w.grownBy w' row) (S : Nat → Prop) (hS : ∀ k, row = some k → k < w.heap.size → S k) : Touch S w w' :=
  ⟨h.os, h.tape, h.output, h.size, fun k hk hn => h.block k hk (fun e => hn (hS k e.symm hk))⟩
end Go.Proofs.YtbmidhlilafgeaaGreatDoor
end
