/- A row of bools in memory, and plain facts on the reference's loops over it. -/
import Derived.Test.YtlbbkpjfoabobaaDoorMem
import Derived.Test.YtlbbkpjfoabobaaDoorBitsC
namespace Go.Proofs.YtlbbkpjfoabobaaDoor
open Go.RowKit Word

/-- A row of the bools l in block g. -/
structure Bools (w : World) (g : Nat) (l : List Bool) : Prop where
  lt : g < w.heap.size
  n2 : l.length ≤ 1048576
  cell : ∀ i, i < l.length → w.cell? ⟨g, i, none⟩ = some (.bool (at_ l i))
  free : ∀ i, w.frozen? ⟨g, i, none⟩ = false
theorem Bools.touch {S : Nat → Prop} {w w' : World} {g : Nat} {l : List Bool} (h : Bools w g l) (t : Touch S w w') (hS : ¬ S g) : Bools w' g l :=
  ⟨Nat.lt_of_lt_of_le h.lt t.size, h.n2, fun i hi => by rw [t.cell h.lt hS]; exact h.cell i hi, fun i => by rw [t.frozen h.lt hS]; exact h.free i⟩
theorem Bools.gr {w w' : World} {g : Nat} {l : List Bool} (h : Bools w g l) (t : Gr w w') : Bools w' g l := h.touch (t.touch (fun _ => False)) (fun h => h)
/-- One bool written. -/
theorem Bools.set {w : World} {g : Nat} {l m : List Bool} (h : Bools w g l) (k : Nat) (hk : k < l.length) (hl : m.length = l.length) (hm : ∀ i, i ≠ k → at_ m i = at_ l i) {y : Bool} (hy : y = at_ m k) :
    Bools (w.setCell ⟨g, k, none⟩ (.bool y)) g m ∧ Touch (fun i => i = g) w (w.setCell ⟨g, k, none⟩ (.bool y)) := by
  have t : Touch (fun i => i = g) w (w.setCell ⟨g, k, none⟩ (.bool y)) := (Touch.refl (fun i => i = g) w).setCell (a := ⟨g, k, none⟩) (fun _ => rfl) _
  refine ⟨⟨Nat.lt_of_lt_of_le h.lt t.size, by rw [hl]; exact h.n2, fun i hi => ?_, fun i => by rw [World.frozen?_setCell]; exact h.free i⟩, t⟩
  by_cases e : i = k
  · subst e; rw [hy]; exact World.cell?_setCell_same (h := h.cell _ hk) ..
  · rw [World.cell?_setCell_other (h := by intro e2; injection e2 with _ e3; omega), h.cell i (by omega), hm i e]
theorem Bools.of_own {w : World} {base E g n c : Nat} {l : List Bool} (hown : w.ownsRow base E 1 (.slice (some ⟨g, 0, none⟩) n c) n (l.map Value.bool)) (hn : n = l.length) (h2 : l.length ≤ 1048576) : Bools w g l ∧ base ≤ g := by
  obtain ⟨hlen, h | ⟨g', c', cur, e1, e2, e3, e4, e5, e6, e7⟩⟩ := hown
  · simp at h
  · simp only [Value.slice.injEq, Option.some.injEq, Addr.mk.injEq, and_true, true_and] at e1
    obtain ⟨rfl, rfl⟩ := e1
    have hb : g < w.heap.size := by
      rcases Nat.lt_or_ge g w.heap.size with h | h
      · exact h
      · rw [Array.getElem?_eq_none h] at e3; cases e3
    refine ⟨⟨hb, h2, fun i hi => ?_, fun i => ?_⟩, e2⟩
    · unfold World.cell?
      simp only [e3]
      have : cur[i]? = (l.map Value.bool)[i]? := by
        rw [← e7, Nat.mul_one, List.getElem?_take, if_pos (by omega), Array.getElem?_toList]
      rw [if_neg (by simp), this]
      simp [at_, hi, List.getD_eq_getElem?_getD]
    · unfold World.frozen?
      simp only [e3]
      simp

/-! What the loops have when k bools are done. -/
def layP (l : List Bool) (a b : Int) (x : Bool) (k : Nat) : List Bool := layL l a (min b k) x
theorem layP_zero {l : List Bool} {a b : Int} {x : Bool} : layP l a b x 0 = l :=
  ext_at (by unfold layP; rw [layL_length]) (fun i hi => by unfold layP at *; rw [layL_length] at hi; rw [layL_at _ _ _ _ _ hi, if_neg (by omega)])
theorem layP_end {l : List Bool} {a b : Int} {x : Bool} : layP l a b x l.length = layL l a b x :=
  ext_at (by unfold layP; rw [layL_length, layL_length]) (fun i hi => by
    unfold layP at *; rw [layL_length] at hi; rw [layL_at _ _ _ _ _ hi, layL_at _ _ _ _ _ hi]
    by_cases h : a ≤ i ∧ (i : Int) < b
    · rw [if_pos h, if_pos (by omega)]
    · rw [if_neg h, if_neg (by omega)])
theorem layP_len (l : List Bool) (a b : Int) (x : Bool) (k : Nat) : (layP l a b x k).length = l.length := layL_length ..
theorem layP_now {l : List Bool} {a b : Int} {x : Bool} {k i : Nat} (hk : k ≤ i) : at_ (layP l a b x k) i = at_ l i := by
  unfold layP
  by_cases hi : i < l.length
  · rw [layL_at _ _ _ _ _ hi, if_neg (by omega)]
  · rw [at_out (by rw [layL_length]; omega), at_out (by omega)]
theorem layP_in {l : List Bool} {a b : Int} {x : Bool} {k : Nat} (hk : k < l.length) (h : a ≤ k ∧ (k : Int) < b) : (∀ i, i ≠ k → at_ (layP l a b x (k + 1)) i = at_ (layP l a b x k) i) ∧ at_ (layP l a b x (k + 1)) k = x := by
  unfold layP
  refine ⟨fun i hi => ?_, ?_⟩
  · by_cases hil : i < l.length
    · rw [layL_at _ _ _ _ _ hil, layL_at _ _ _ _ _ hil]
      by_cases h2 : a ≤ i ∧ (i : Int) < min b k
      · rw [if_pos h2, if_pos (by omega)]
      · rw [if_neg h2, if_neg (by omega)]
    · rw [at_out (by rw [layL_length]; omega), at_out (by rw [layL_length]; omega)]
  · rw [layL_at _ _ _ _ _ hk, if_pos (by omega)]
theorem layP_out {l : List Bool} {a b : Int} {x : Bool} {k : Nat} (h : ¬ (a ≤ k ∧ (k : Int) < b) ∨ at_ l k = x) : layP l a b x (k + 1) = layP l a b x k := by
  refine ext_at (by rw [layP_len, layP_len]) (fun i hi => ?_)
  rw [layP_len] at hi
  unfold layP
  rw [layL_at _ _ _ _ _ hi, layL_at _ _ _ _ _ hi]
  by_cases h2 : a ≤ i ∧ (i : Int) < min b k
  · rw [if_pos h2, if_pos (by omega)]
  · rw [if_neg h2]
    split
    · have : i = k := by omega
      subst this
      rcases h with h | h
      · omega
      · rw [h]
    · rfl
def chgP (l : List Bool) (a b : Int) (x : Bool) (k : Nat) : Nat := cnt (fun i => decide (a ≤ (i : Nat) ∧ ((i : Nat) : Int) < b) && (at_ l i != x)) k
theorem chgP_end {l : List Bool} {a b : Int} {x : Bool} : chgP l a b x l.length = chgL l a b x := rfl
theorem chgP_in {l : List Bool} {a b : Int} {x : Bool} {k : Nat} (h : a ≤ k ∧ (k : Int) < b) (h2 : at_ l k ≠ x) : chgP l a b x (k + 1) = chgP l a b x k + 1 := by
  unfold chgP; rw [cnt_succ, decide_eq_true h]; simp [h2]
theorem chgP_out {l : List Bool} {a b : Int} {x : Bool} {k : Nat} (h : ¬ (a ≤ k ∧ (k : Int) < b) ∨ at_ l k = x) : chgP l a b x (k + 1) = chgP l a b x k := by
  unfold chgP; rw [cnt_succ]
  rcases h with h | h
  · rw [decide_eq_false h]; simp
  · simp [h]
theorem chgP_le (l : List Bool) (a b : Int) (x : Bool) (k : Nat) : chgP l a b x k ≤ k := cnt_le _ _
def countP_ (l : List Bool) (a b : Int) (k : Nat) : Nat := cnt (inRun l a b) k
theorem countP_end {l : List Bool} {a b : Int} : countP_ l a b l.length = countL l a b := rfl
theorem countP_in {l : List Bool} {a b : Int} {k : Nat} (h : a ≤ k ∧ (k : Int) < b) (h2 : at_ l k = true) : countP_ l a b (k + 1) = countP_ l a b k + 1 := by
  unfold countP_ inRun; rw [cnt_succ, decide_eq_true h, h2]; simp
theorem countP_out {l : List Bool} {a b : Int} {k : Nat} (h : ¬ (a ≤ k ∧ (k : Int) < b) ∨ at_ l k = false) : countP_ l a b (k + 1) = countP_ l a b k := by
  unfold countP_ inRun; rw [cnt_succ]
  rcases h with h | h
  · rw [decide_eq_false h]; simp
  · simp [h]
theorem countP_le (l : List Bool) (a b : Int) (k : Nat) : countP_ l a b k ≤ k := cnt_le _ _
theorem nextL_at {l : List Bool} {a : Int} {k : Nat} (hn : ∀ i, i < k → ¬ (at_ l i = true ∧ a ≤ i)) (h : at_ l k = true) (ha : a ≤ k) : nextL l a = k ∧ nextL l a < l.length := by
  have hl := at_lt h
  have e : nextL l a = k := first_eq (by omega) (fun i hi => by
    have := hn i hi
    cases h1 : at_ l i with
    | false => rfl
    | true => simp [h1] at this; simp; omega) (fun _ => by simp [h]; omega)
  exact ⟨e, by omega⟩
theorem nextL_end {l : List Bool} {a : Int} (hn : ∀ i, i < l.length → ¬ (at_ l i = true ∧ a ≤ i)) : nextL l a = l.length :=
  first_eq (by omega) (fun i hi => by
    have := hn i hi
    cases h1 : at_ l i with
    | false => rfl
    | true => simp [h1] at this; simp; omega) (fun h => by omega)
theorem lastL_at {l : List Bool} {b : Int} {k : Nat} (hn : ∀ i : Nat, k < i → ¬ (at_ l i = true ∧ (i : Int) < b)) (h : at_ l k = true) (hb : (k : Int) < b) : lastL l b = k := by
  have hl := at_lt h
  refine last_eq (by omega) (by omega) (fun i hi _ => ?_) (fun _ => by simp [h]; omega)
  have := hn i (by omega)
  cases h1 : at_ l i with
  | false => rfl
  | true => simp [h1] at this; simp; omega
theorem lastL_end {l : List Bool} {b : Int} (hn : ∀ i : Nat, ¬ (at_ l i = true ∧ (i : Int) < b)) : lastL l b = -1 := by
  refine last_eq (by omega) (by omega) (fun i hi _ => ?_) (fun h => by omega)
  have := hn i
  cases h1 : at_ l i with
  | false => rfl
  | true => simp [h1] at this; simp; omega
def pickV (l : List Bool) (q : Int) : Int := if q < 0 then 0 else valN l.length (pickL l q.toNat)
def pickB (l : List Bool) (q : Int) : Bool := decide (0 ≤ q) && decide (pickL l q.toNat < l.length)
theorem pickL_at {l : List Bool} {k q : Nat} (h : at_ l k = true) (hc : cnt (at_ l) k = q) : pickL l q = k ∧ pickL l q < l.length := by
  have e : pickL l q = k := pickF_eq (at_lt h) h hc
  exact ⟨e, by rw [e]; exact at_lt h⟩
end Go.Proofs.YtlbbkpjfoabobaaDoor
