/- Records: a struct in a block of its own, as a row of one element; rows of other types lie apart. -/
import Derived.Test.YtlkifhoedfjlaaaGreatDoorK4
import Derived.Laws.OwnMore
namespace Go.Proofs.YtlkifhoedfjlaaaGreatDoor
open Go.RowKit Word

/-- Block q is a struct of type T with these cells. -/
def Rec (w : World) (q T : Nat) (xs : List Value) : Prop := w.ownsRow 0 T xs.length (.slice (some ⟨q, 0, none⟩) 1 1) 1 xs
theorem Rec.cell {w : World} {q T : Nat} {xs : List Value} (h : Rec w q T xs) {j : Nat} {u : Value} (hj : xs[j]? = some u) : w.cell? ⟨q, j, none⟩ = some u := own_cell h hj
theorem Rec.free {w : World} {q T : Nat} {xs : List Value} (h : Rec w q T xs) (j : Nat) : w.frozen? ⟨q, j, none⟩ = false := own_free h j
theorem Rec.lt {w : World} {q T : Nat} {xs : List Value} (h : Rec w q T xs) : q < w.heap.size := (own_lt h rfl).2
theorem Rec.new (w : World) (T : Nat) (xs : List Value) : Rec (w.alloc (.cells xs.toArray T)) w.heap.size T xs := by
  have := World.ownsRow_lit (base := 0) (e := T) (size := xs.length) w xs.toArray 1 (Nat.zero_le _) (by unfold maxLen; omega) (by simp)
  exact this
theorem Rec.set {w : World} {q T : Nat} {xs : List Value} (h : Rec w q T xs) (j : Nat) (u : Value) : Rec (w.setCell ⟨q, j, none⟩ u) q T (xs.set j u) := by
  have := (World.ownsRow.stored h j u).1
  unfold Rec
  rw [List.length_set]
  exact this
theorem Rec.touch {S : Nat → Prop} {w w' : World} {q T : Nat} {xs : List Value} (h : Rec w q T xs) (t : Touch S w w') (hS : ¬ S q) : Rec w' q T xs := own_touch h t (fun g hg => by cases hg; exact hS)
theorem Rec.gr {w w' : World} {q T : Nat} {xs : List Value} (h : Rec w q T xs) (t : Gr w w') : Rec w' q T xs := own_gr h t
/-- The element type of an owned row's block. -/
theorem own_type {w : World} {base E size : Nat} {v : Value} {n : Nat} {xs : List Value} (h : w.ownsRow base E size v n xs) {g : Nat} (hg : v.ownBlock = some g) : ∃ cur, w.heap[g]? = some (.cells cur E (0, 0)) := by
  obtain ⟨_, ⟨rfl, _⟩ | ⟨g', cap, cur, rfl, _, h3, _⟩⟩ := h
  · cases hg
  · cases hg; exact ⟨cur, h3⟩
theorem own_ne {w : World} {b1 b2 E1 E2 s1 s2 : Nat} {v1 v2 : Value} {n1 n2 : Nat} {xs1 xs2 : List Value} (h1 : w.ownsRow b1 E1 s1 v1 n1 xs1) (h2 : w.ownsRow b2 E2 s2 v2 n2 xs2) (he : E1 ≠ E2) {g1 g2 : Nat} (hg1 : v1.ownBlock = some g1) (hg2 : v2.ownBlock = some g2) : g1 ≠ g2 := by
  intro e
  subst e
  obtain ⟨c1, e1⟩ := own_type h1 hg1
  obtain ⟨c2, e2⟩ := own_type h2 hg2
  rw [e1] at e2
  simp only [Option.some.injEq, Obj.cells.injEq] at e2
  exact he e2.2.1
theorem own_shape {w : World} {base E size : Nat} {v : Value} {n : Nat} {xs : List Value} (h : w.ownsRow base E size v n xs) : ∃ A c, v = .slice A n c ∧ n ≤ c ∧ c ≤ maxLen := by
  obtain ⟨_, ⟨rfl, rfl⟩ | ⟨g', cap, cur, rfl, _, _, h4, h5, _⟩⟩ := h
  · exact ⟨none, 0, rfl, Nat.le_refl _, Nat.zero_le _⟩
  · exact ⟨_, _, rfl, h4, h5⟩
/-- What a block of another type was, it stays. -/
theorem own_set_other {w : World} {base E size : Nat} {v : Value} {n : Nat} {xs : List Value} (h : w.ownsRow base E size v n xs) {q j : Nat} (u : Value) (hq : ∀ g, v.ownBlock = some g → g ≠ q) : (w.setCell ⟨q, j, none⟩ u).ownsRow base E size v n xs :=
  own_keep h (fun g hg => Below.heap_setCell _ _ _ _ (hq g hg))
/-- The row with a shorter length. -/
theorem own_pop {w : World} {base E : Nat} {g n c : Nat} {xs : List Value} {x : Value} (h : w.ownsRow base E 1 (.slice (some ⟨g, 0, none⟩) (n + 1) c) (n + 1) (xs ++ [x])) : w.ownsRow base E 1 (.slice (some ⟨g, 0, none⟩) n c) n xs := by
  obtain ⟨h1, ⟨h, _⟩ | ⟨g', cap, cur, e1, e2, e3, e4, e5, e6, e7⟩⟩ := h
  · cases h
  · simp only [Value.slice.injEq, Option.some.injEq, Addr.mk.injEq, and_true, true_and] at e1
    obtain ⟨rfl, rfl⟩ := e1
    have hl : xs.length = n := by simp at h1; omega
    refine ⟨by rw [hl, Nat.mul_one], .inr ⟨g, c, cur, rfl, e2, e3, by omega, e5, e6, ?_⟩⟩
    rw [Nat.mul_one] at e7 ⊢
    have : cur.toList.take n = (cur.toList.take (n + 1)).take n := by rw [List.take_take]; congr 1; omega
    rw [this, e7, ← hl, List.take_left]
end Go.Proofs.YtlkifhoedfjlaaaGreatDoor
