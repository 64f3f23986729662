/- Plain facts: a list of bits cut into words of 64. No program in sight. -/
import Derived.Test.YtlbbkpjfoabobaaDoorWordB
namespace Go.Proofs.YtlbbkpjfoabobaaDoor.Word

def ofBits (f : Nat → Bool) : Nat → Nat
  | 0 => 0
  | n + 1 => ofBits f n + (f n).toNat * 2 ^ n
theorem ofBits_lt (f : Nat → Bool) (n : Nat) : ofBits f n < 2 ^ n := by
  induction n with
  | zero => simp [ofBits]
  | succ n ih => unfold ofBits; rw [Nat.pow_succ]; cases f n <;> simp <;> omega
theorem testBit_ofBits (f : Nat → Bool) (n i : Nat) : (ofBits f n).testBit i = (decide (i < n) && f i) := by
  induction n with
  | zero => simp [ofBits]
  | succ n ih =>
    unfold ofBits
    have hl := ofBits_lt f n
    have e : ofBits f n + (f n).toNat * 2 ^ n = 2 ^ n * (f n).toNat + ofBits f n := by rw [Nat.mul_comm]; omega
    rw [e, Nat.testBit_two_pow_mul_add _ hl]
    split
    · rename_i h; rw [ih]; simp [h]; omega
    · rename_i h
      by_cases hi : i = n
      · subst hi; cases h2 : f i <;> simp
      · have h3 : ¬ i < n + 1 := by omega
        simp only [h3, decide_false, Bool.false_and]
        have h4 : i - n ≠ 0 := by omega
        cases f n
        · simp
        · simp only [Bool.toNat_true]
          rw [Nat.testBit_lt_two_pow]
          exact Nat.one_lt_two_pow h4

/-- How many words. -/
def nw (l : List Bool) : Nat := (l.length + 63) / 64
/-- The word number i. -/
def wordOf (l : List Bool) (i : Nat) : Nat := ofBits (fun j => l.getD (64 * i + j) false) 64
theorem wordOf_lt (l : List Bool) (i : Nat) : wordOf l i < 18446744073709551616 := ofBits_lt _ 64
theorem testBit_wordOf (l : List Bool) (i j : Nat) : (wordOf l i).testBit j = (decide (j < 64) && l.getD (64 * i + j) false) := testBit_ofBits _ _ _
theorem word_ext {x y : Nat} (hx : x < 18446744073709551616) (hy : y < 18446744073709551616) (h : ∀ j, j < 64 → x.testBit j = y.testBit j) : x = y := by
  apply Nat.eq_of_testBit_eq
  intro i
  by_cases hi : i < 64
  · exact h i hi
  · have hp : 2 ^ 64 ≤ 2 ^ i := Nat.pow_le_pow_right (by decide) (by omega)
    rw [Nat.testBit_lt_two_pow (Nat.lt_of_lt_of_le hx hp), Nat.testBit_lt_two_pow (Nat.lt_of_lt_of_le hy hp)]
theorem wordOf_eq {l : List Bool} {i x : Nat} (hx : x < 18446744073709551616) (h : ∀ j, j < 64 → x.testBit j = l.getD (64 * i + j) false) : x = wordOf l i :=
  word_ext hx (wordOf_lt l i) (fun j hj => by rw [h j hj, testBit_wordOf]; simp [hj])
theorem wordOf_congr {l m : List Bool} {i : Nat} (h : ∀ j, j < 64 → l.getD (64 * i + j) false = m.getD (64 * i + j) false) : wordOf l i = wordOf m i :=
  wordOf_eq (wordOf_lt l i) (fun j hj => by rw [testBit_wordOf, ← h j hj]; simp [hj])
/-- a without the bits of b. -/
def andN (a b : Nat) : Nat := a &&& (18446744073709551615 - b % 18446744073709551616)
theorem andN_lt (a b : Nat) (ha : a < 18446744073709551616) : andN a b < 18446744073709551616 := Nat.lt_of_le_of_lt Nat.and_le_left ha
theorem testBit_andN (a b j : Nat) (hj : j < 64) : (andN a b).testBit j = (a.testBit j && !b.testBit j) := by
  unfold andN
  rw [Nat.testBit_and]
  have h : b % 18446744073709551616 < 2 ^ 64 := Nat.mod_lt _ (by decide)
  have := Nat.testBit_two_pow_sub_succ h j
  rw [show 2 ^ 64 - (b % 18446744073709551616 + 1) = 18446744073709551615 - b % 18446744073709551616 by omega] at this
  rw [this, show (18446744073709551616 : Nat) = 2 ^ 64 from rfl, Nat.testBit_mod_two_pow]
  simp [hj]
theorem or_lt {a b : Nat} (ha : a < 18446744073709551616) (hb : b < 18446744073709551616) : a ||| b < 18446744073709551616 := Nat.or_lt_two_pow (n := 64) ha hb

theorem getD_set (l : List Bool) (k i : Nat) (x : Bool) (hk : k < l.length) : (l.set k x).getD i false = if i = k then x else l.getD i false := by
  simp only [List.getD_eq_getElem?_getD, List.getElem?_set]
  by_cases h : k = i
  · subst h; simp [hk]
  · rw [if_neg h, if_neg (by omega)]
theorem testBit_two_pow_if (k j : Nat) : (2 ^ k).testBit j = decide (k = j) := by
  rw [Nat.testBit_two_pow]
theorem two_pow_lt64 (k : Nat) : 2 ^ (k % 64) < 18446744073709551616 := Nat.pow_lt_pow_right (by decide) (show k % 64 < 64 by omega)
theorem wordOf_set_on (l : List Bool) (k : Nat) (hk : k < l.length) : wordOf (l.set k true) (k / 64) = wordOf l (k / 64) ||| 2 ^ (k % 64) := by
  refine (wordOf_eq (or_lt (wordOf_lt _ _) (two_pow_lt64 k)) (fun j hj => ?_)).symm
  rw [Nat.testBit_or, testBit_wordOf, testBit_two_pow_if, getD_set l k _ _ hk]
  by_cases h : 64 * (k / 64) + j = k
  · rw [if_pos h, decide_eq_true (show k % 64 = j by omega)]; simp
  · rw [if_neg h, decide_eq_false (show ¬ k % 64 = j by omega)]; simp [hj]
theorem wordOf_set_off (l : List Bool) (k : Nat) (hk : k < l.length) : wordOf (l.set k false) (k / 64) = andN (wordOf l (k / 64)) (2 ^ (k % 64)) := by
  refine (wordOf_eq (andN_lt _ _ (wordOf_lt _ _)) (fun j hj => ?_)).symm
  rw [testBit_andN _ _ _ hj, testBit_wordOf, testBit_two_pow_if, getD_set l k _ _ hk]
  by_cases h : 64 * (k / 64) + j = k
  · rw [if_pos h, decide_eq_true (show k % 64 = j by omega)]; simp
  · rw [if_neg h, decide_eq_false (show ¬ k % 64 = j by omega)]; simp [hj]
theorem wordOf_set_other (l : List Bool) (k i : Nat) (x : Bool) (hk : k < l.length) (hi : i ≠ k / 64) : wordOf (l.set k x) i = wordOf l i :=
  wordOf_congr (fun j hj => by rw [getD_set l k _ _ hk, if_neg (by omega)])
theorem nw_set (l : List Bool) (k : Nat) (x : Bool) : nw (l.set k x) = nw l := by unfold nw; simp

/-! What is asked of a row of bits: by definition. -/
def at_ (l : List Bool) (i : Nat) : Bool := l.getD i false
theorem at_lt {l : List Bool} {i : Nat} (h : at_ l i = true) : i < l.length := by
  unfold at_ at h
  rcases Nat.lt_or_ge i l.length with h1 | h1
  · exact h1
  · rw [List.getD_eq_getElem?_getD, List.getElem?_eq_none h1] at h; simp at h
/-- The bits of a run. -/
def inRun (l : List Bool) (a b : Int) (i : Nat) : Bool := at_ l i && decide (a ≤ i ∧ (i : Int) < b)
def countL (l : List Bool) (a b : Int) : Nat := cnt (inRun l a b) l.length
/-- All bits of a run are so. -/
def layL (l : List Bool) (a b : Int) (x : Bool) : List Bool := l.mapIdx fun i y => if a ≤ i ∧ (i : Int) < b then x else y
theorem layL_length (l : List Bool) (a b : Int) (x : Bool) : (layL l a b x).length = l.length := by unfold layL; simp
theorem layL_at (l : List Bool) (a b : Int) (x : Bool) (i : Nat) (hi : i < l.length) : at_ (layL l a b x) i = if a ≤ i ∧ (i : Int) < b then x else at_ l i := by
  unfold at_ layL; simp [List.getD_eq_getElem?_getD, hi]
theorem at_out {l : List Bool} {i : Nat} (h : l.length ≤ i) : at_ l i = false := by
  unfold at_; rw [List.getD_eq_getElem?_getD, List.getElem?_eq_none h]; rfl
theorem ext_at {l m : List Bool} (hn : l.length = m.length) (h : ∀ i, i < l.length → at_ l i = at_ m i) : l = m := by
  apply List.ext_getElem hn
  intro i h1 h2
  have := h i h1
  unfold at_ at this
  simpa [List.getD_eq_getElem?_getD, h1, h2] using this
/-- How many bits of a run were not so. -/
def chgL (l : List Bool) (a b : Int) (x : Bool) : Nat := cnt (fun i => decide (a ≤ i ∧ (i : Int) < b) && (at_ l i != x)) l.length
def nextL (l : List Bool) (a : Int) : Nat := first (fun i => at_ l i && decide (a ≤ i)) l.length
def lastL (l : List Bool) (b : Int) : Int := last (fun i => at_ l i && decide ((i : Int) < b)) l.length
def pickL (l : List Bool) (k : Nat) : Nat := pickF (at_ l) l.length k
end Go.Proofs.YtlbbkpjfoabobaaDoor.Word
