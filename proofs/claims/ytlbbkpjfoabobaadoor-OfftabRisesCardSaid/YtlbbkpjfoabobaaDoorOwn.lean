/- Slices of the call's own: what is known of their cells, and when they stay. -/
import Derived.Test.YtlbbkpjfoabobaaDoorMem
import Derived.Deep.AppendLies
import Derived.Deep.RegionHeld3
namespace Go.Proofs.YtlbbkpjfoabobaaDoor
open Go.RowKit

theorem own_keep {w w' : World} {base E size : Nat} {v : Value} {n : Nat} {xs : List Value} (h : w.ownsRow base E size v n xs) (hb : ∀ g, v.ownBlock = some g → w'.heap[g]? = w.heap[g]?) : w'.ownsRow base E size v n xs := by
  obtain ⟨h1, h2 | ⟨g, cap, cur, e1, e2, e3, e4, e5, e6, e7⟩⟩ := h
  · exact ⟨h1, .inl h2⟩
  · exact ⟨h1, .inr ⟨g, cap, cur, e1, e2, by rw [hb g (by rw [e1]; rfl)]; exact e3, e4, e5, e6, e7⟩⟩
theorem own_lt {w : World} {base E size : Nat} {v : Value} {n : Nat} {xs : List Value} (h : w.ownsRow base E size v n xs) {g : Nat} (hg : v.ownBlock = some g) : base ≤ g ∧ g < w.heap.size := by
  obtain ⟨h1, ⟨rfl, _⟩ | ⟨g', cap, cur, e1, e2, e3, e4, e5, e6, e7⟩⟩ := h
  · cases hg
  · rw [e1] at hg
    obtain rfl : g' = g := Option.some.inj hg
    refine ⟨e2, ?_⟩
    rcases Nat.lt_or_ge g' w.heap.size with h | h
    · exact h
    · rw [Array.getElem?_eq_none h] at e3; cases e3
theorem own_touch {S : Nat → Prop} {w w' : World} {base E size : Nat} {v : Value} {n : Nat} {xs : List Value} (h : w.ownsRow base E size v n xs) (t : Touch S w w') (hS : ∀ g, v.ownBlock = some g → ¬ S g) : w'.ownsRow base E size v n xs :=
  own_keep h (fun g hg => t.block g (own_lt h hg).2 (hS g hg))
theorem own_gr {w w' : World} {base E size : Nat} {v : Value} {n : Nat} {xs : List Value} (h : w.ownsRow base E size v n xs) (t : Gr w w') : w'.ownsRow base E size v n xs :=
  own_touch h (t.touch (fun _ => False)) (fun _ _ h => h)
theorem own_nil (w : World) (base E size : Nat) : w.ownsRow base E size (.slice none 0 0) 0 [] := ⟨by simp, .inl ⟨rfl, rfl⟩⟩
/-- The cells of a slice of the call's own. -/
theorem own_cell {w : World} {base E size : Nat} {g n c : Nat} {xs : List Value} (h : w.ownsRow base E size (.slice (some ⟨g, 0, none⟩) n c) n xs) {j : Nat} {u : Value} (hj : xs[j]? = some u) :
    w.cell? ⟨g, j, none⟩ = some u := by
  obtain ⟨h1, ⟨h, _⟩ | ⟨g', cap, cur, e1, e2, e3, e4, e5, e6, e7⟩⟩ := h
  · cases h
  · simp only [Value.slice.injEq, Option.some.injEq, Addr.mk.injEq, and_true, true_and] at e1
    obtain ⟨rfl, rfl⟩ := e1
    unfold World.cell?
    simp only [e3]
    have hlt : j < xs.length := by
      rcases Nat.lt_or_ge j xs.length with h | h
      · exact h
      · rw [List.getElem?_eq_none h] at hj; cases hj
    have : cur[j]? = xs[j]? := by rw [← e7, List.getElem?_take, if_pos (by omega), Array.getElem?_toList]
    rw [if_neg (by simp), this, hj]
theorem own_free {w : World} {base E size : Nat} {g n c : Nat} {xs : List Value} (h : w.ownsRow base E size (.slice (some ⟨g, 0, none⟩) n c) n xs) (j : Nat) : w.frozen? ⟨g, j, none⟩ = false := by
  obtain ⟨h1, ⟨h, _⟩ | ⟨g', cap, cur, e1, e2, e3, e4, e5, e6, e7⟩⟩ := h
  · cases h
  · simp only [Value.slice.injEq, Option.some.injEq, Addr.mk.injEq, and_true, true_and] at e1
    obtain ⟨rfl, rfl⟩ := e1
    unfold World.frozen?
    simp only [e3]
    simp
theorem own_form {w : World} {base E size : Nat} {v : Value} {n : Nat} {xs : List Value} (h : w.ownsRow base E size v n xs) (hn : n ≠ 0) : ∃ g c, v = .slice (some ⟨g, 0, none⟩) n c ∧ base ≤ g ∧ n ≤ c ∧ c ≤ maxLen ∧ g < w.heap.size := by
  have h' := h
  obtain ⟨_, ⟨_, h⟩ | ⟨g, c, cur, e1, e2, e3, e4, e5, _⟩⟩ := h
  · exact absurd h hn
  · exact ⟨g, c, e1, e2, e4, e5, (own_lt h' (by rw [e1]; rfl)).2⟩
/-- Behind an append: only the row's own block has been written. -/
theorem grown_touch {w w' : World} {row : Option Nat} (h : w.grownBy w' row) (S : Nat → Prop) (hS : ∀ k, row = some k → k < w.heap.size → S k) : Touch S w w' :=
  ⟨h.os, h.tape, h.output, h.size, fun k hk hn => h.block k hk (fun e => hn (hS k e.symm hk))⟩
end Go.Proofs.YtlbbkpjfoabobaaDoor
