/- Plain facts on 64-bit words as natural numbers: the least and the greatest set bit, trailing zeros, length. No program in sight. -/
import Derived.Test.YtlbbkpjfoabobaaDoorWord
namespace Go.Proofs.YtlbbkpjfoabobaaDoor.Word

/-- The least number below n that f holds of; else n. -/
def first (f : Nat → Bool) : Nat → Nat
  | 0 => 0
  | n + 1 => if first f n < n then first f n else if f n then n else n + 1
theorem first_le (f : Nat → Bool) (n : Nat) : first f n ≤ n := by
  induction n with
  | zero => simp [first]
  | succ n ih => unfold first; split <;> (try split) <;> omega
theorem first_not (f : Nat → Bool) (n : Nat) : ∀ i, i < first f n → f i = false := by
  induction n with
  | zero => intro i hi; simp [first] at hi
  | succ n ih =>
    intro i hi
    unfold first at hi
    have hl := first_le f n
    split at hi
    · exact ih i hi
    · have e : first f n = n := by omega
      split at hi
      · exact ih i (by omega)
      · rename_i hf
        by_cases h : i < n
        · exact ih i (by omega)
        · obtain rfl : i = n := by omega
          simpa using hf
theorem first_at (f : Nat → Bool) (n : Nat) (h : first f n < n) : f (first f n) = true := by
  induction n with
  | zero => omega
  | succ n ih =>
    unfold first at h ⊢
    split
    · rename_i hl; exact ih hl
    · split
      · assumption
      · rename_i h1 h2; rw [if_neg h1, if_neg h2] at h; omega
theorem first_eq {f : Nat → Bool} {n k : Nat} (hk : k ≤ n) (hn : ∀ i, i < k → f i = false) (ha : k < n → f k = true) : first f n = k := by
  have h1 := first_le f n
  have h2 := first_not f n
  have h3 := first_at f n
  rcases Nat.lt_trichotomy (first f n) k with h | h | h
  · have := hn _ h; rw [h3 (by omega)] at this; cases this
  · exact h
  · have := h2 _ h; rw [ha (by omega)] at this; cases this
theorem first_congr {f g : Nat → Bool} {n : Nat} (h : ∀ i, i < n → f i = g i) : first f n = first g n :=
  first_eq (first_le g n) (fun i hi => by rw [h i (by have := first_le g n; omega)]; exact first_not g n i hi) (fun hl => by rw [h _ hl]; exact first_at g n hl)

/-- The greatest number below n that f holds of; else -1. -/
def last (f : Nat → Bool) : Nat → Int
  | 0 => -1
  | n + 1 => if f n then n else last f n
theorem last_bd (f : Nat → Bool) (n : Nat) : -1 ≤ last f n ∧ last f n < n := by
  induction n with
  | zero => simp [last]
  | succ n ih => unfold last; split <;> omega
theorem last_not (f : Nat → Bool) (n : Nat) : ∀ i : Nat, last f n < i → i < n → f i = false := by
  induction n with
  | zero => intro i _ hi; omega
  | succ n ih =>
    intro i h hi
    unfold last at h
    split at h
    · omega
    · rename_i hf
      by_cases e : i < n
      · exact ih i h e
      · obtain rfl : i = n := by omega
        simpa using hf
theorem last_at (f : Nat → Bool) (n : Nat) (h : 0 ≤ last f n) : f (last f n).toNat = true := by
  induction n with
  | zero => simp [last] at h
  | succ n ih =>
    unfold last at h ⊢
    split
    · simpa using ‹f n = true›
    · rename_i hf; rw [if_neg hf] at h; exact ih h
theorem last_eq {f : Nat → Bool} {n : Nat} {k : Int} (hk : -1 ≤ k) (hkn : k < n) (hn : ∀ i : Nat, k < i → i < n → f i = false) (ha : 0 ≤ k → f k.toNat = true) : last f n = k := by
  have h1 := last_bd f n
  have h2 := last_not f n
  have h3 := last_at f n
  by_cases e : last f n = k
  · exact e
  · by_cases h : last f n < k
    · have := h2 k.toNat (by omega) (by omega); rw [ha (by omega)] at this; cases this
    · have := hn (last f n).toNat (by omega) (by omega); rw [h3 (by omega)] at this; cases this
theorem last_congr {f g : Nat → Bool} {n : Nat} (h : ∀ i, i < n → f i = g i) : last f n = last g n := by
  induction n with
  | zero => rfl
  | succ n ih => unfold last; rw [h n (by omega), ih (fun i hi => h i (by omega))]

/-! Trailing zeros. -/
def tz (x : Nat) : Nat := first x.testBit 64
theorem tz_zero : tz 0 = 64 := by decide +kernel
theorem tz_le (x : Nat) : tz x ≤ 64 := first_le _ _
theorem zero_of_bits {x : Nat} (hx : x < 2 ^ 64) (h : ∀ i, i < 64 → x.testBit i = false) : x = 0 := by
  apply Nat.eq_of_testBit_eq
  intro i
  by_cases hi : i < 64
  · rw [h i hi]; simp
  · rw [Nat.testBit_lt_two_pow (Nat.lt_of_lt_of_le hx (Nat.pow_le_pow_right (by decide) (by omega)))]; simp
theorem tz_lt {x : Nat} (hx : x < 2 ^ 64) (h0 : x ≠ 0) : tz x < 64 := by
  have := tz_le x
  rcases Nat.lt_or_ge (tz x) 64 with h | h
  · exact h
  · exact absurd (zero_of_bits hx (fun i hi => first_not _ 64 i (by unfold tz at h; omega))) h0
theorem and_mul_two_pow (a b k : Nat) : (2 ^ k * a) &&& (2 ^ k * b) = 2 ^ k * (a &&& b) := by
  apply Nat.eq_of_testBit_eq
  intro i
  rw [Nat.testBit_and, Nat.testBit_two_pow_mul, Nat.testBit_two_pow_mul, Nat.testBit_two_pow_mul, Nat.testBit_and]
  by_cases h : k ≤ i <;> simp [h]
theorem low_bit (k n m : Nat) (h : 2 ^ k * (2 * m + 1) < 2 ^ n) : (2 ^ k * (2 * m + 1)) &&& (2 ^ n - 2 ^ k * (2 * m + 1)) = 2 ^ k := by
  have hp := Nat.two_pow_pos k
  have hkn : k < n := by
    rcases Nat.lt_or_ge k n with h1 | h1
    · exact h1
    · have := Nat.pow_le_pow_right (n := 2) (by decide) h1
      have : 2 ^ k * 1 ≤ 2 ^ k * (2 * m + 1) := Nat.mul_le_mul_left _ (by omega)
      omega
  have hm : 2 * m + 1 < 2 ^ (n - k) := by
    have e : 2 ^ n = 2 ^ k * 2 ^ (n - k) := by rw [← Nat.pow_add]; congr 1; omega
    rw [e] at h
    exact Nat.lt_of_mul_lt_mul_left h
  have e1 : 2 ^ n - 2 ^ k * (2 * m + 1) = 2 ^ k * (2 ^ (n - k) - (2 * m + 1)) := by
    rw [Nat.mul_sub, ← Nat.pow_add]; congr 2; omega
  rw [e1, and_mul_two_pow]
  have e2 : 2 ^ (n - k) = 2 * 2 ^ (n - k - 1) := by rw [← Nat.pow_succ']; congr 1; omega
  have e3 : 2 ^ (n - k) - (2 * m + 1) = 2 * (2 ^ (n - k - 1) - (m + 1)) + 1 := by omega
  rw [e3]
  have : (2 * m + 1) &&& (2 * (2 ^ (n - k - 1) - (m + 1)) + 1) = 1 := by
    apply Nat.eq_of_testBit_eq
    intro i
    cases i with
    | zero => simp [Nat.testBit_zero]
    | succ i =>
      rw [Nat.testBit_and, Nat.testBit_succ, Nat.testBit_succ, Nat.testBit_succ]
      rw [show (2 * m + 1) / 2 = m by omega, show (2 * (2 ^ (n - k - 1) - (m + 1)) + 1) / 2 = 2 ^ (n - k - 1) - (m + 1) by omega]
      rw [Nat.testBit_two_pow_sub_succ (by omega)]
      cases h : m.testBit i <;> simp
  rw [this, Nat.mul_one]
theorem tz_split {x : Nat} (hx : x < 2 ^ 64) (h0 : x ≠ 0) : ∃ m, x = 2 ^ tz x * (2 * m + 1) := by
  have hl := tz_lt hx h0
  have h1 := first_not x.testBit 64
  have h2 := first_at x.testBit 64 (by unfold tz at hl; exact hl)
  change ∀ i, i < tz x → _ at h1
  change x.testBit (tz x) = true at h2
  generalize tz x = k at *
  have hd : x % 2 ^ k = 0 := by
    apply Nat.eq_of_testBit_eq
    intro i
    rw [Nat.testBit_mod_two_pow]
    by_cases hi : i < k
    · simp [h1 i hi]
    · simp [hi]
  have hq : (x / 2 ^ k) % 2 = 1 := by
    rw [Nat.testBit_eq_decide_div_mod_eq] at h2
    simpa using h2
  refine ⟨x / 2 ^ k / 2, ?_⟩
  have := Nat.div_add_mod x (2 ^ k)
  rw [hd, Nat.add_zero] at this
  have e : 2 * (x / 2 ^ k / 2) + 1 = x / 2 ^ k := by omega
  rw [e]; exact this.symm
theorem tz_and {x : Nat} (hx : x < 2 ^ 64) (h0 : x ≠ 0) : x &&& (2 ^ 64 - x) = 2 ^ tz x := by
  obtain ⟨m, hm⟩ := tz_split hx h0
  have := low_bit (tz x) 64 m (by rw [← hm]; exact hx)
  rwa [← hm] at this
def tab : List Nat := [0, 1, 56, 2, 57, 49, 28, 3, 61, 58, 42, 50, 38, 29, 17, 4, 62, 47, 59, 36, 45, 43, 51, 22, 53, 39, 33, 30, 24, 18, 12, 5, 63, 55, 48, 27, 60, 41, 37, 16, 46, 35, 44, 21, 52, 32, 23, 11, 54, 26, 40, 15, 34, 20, 31, 10, 25, 14, 19, 9, 13, 8, 7, 6]
theorem tab_ok : ∀ k, k < 64 → 2 ^ k * 285870213051353865 % 18446744073709551616 / 288230376151711744 < 64 ∧ tab.getD (2 ^ k * 285870213051353865 % 18446744073709551616 / 288230376151711744) 0 = k := by decide +kernel
/-- math/bits.TrailingZeros64: the table's entry. -/
def tzIx (x : Nat) : Nat := (x &&& (18446744073709551616 - x)) * 285870213051353865 % 18446744073709551616 / 288230376151711744
theorem tzIx_ok {x : Nat} (hx : x < 18446744073709551616) (h0 : x ≠ 0) : tzIx x < 64 ∧ tab.getD (tzIx x) 0 = tz x := by
  unfold tzIx
  have := tz_and (show x < 2 ^ 64 from hx) h0
  rw [show (2 : Nat) ^ 64 = 18446744073709551616 from rfl] at this
  rw [this]
  exact tab_ok _ (tz_lt hx h0)

/-! The length. -/
def len (x : Nat) : Int := last x.testBit 64 + 1
theorem len_bd (x : Nat) : 0 ≤ len x ∧ len x ≤ 64 := by unfold len; have := last_bd x.testBit 64; omega
theorem len_shift {x j : Nat} (hx : x < 2 ^ 64) (h : 2 ^ j ≤ x) : len x = j + len (x / 2 ^ j) := by
  have hq : 1 ≤ x / 2 ^ j := (Nat.le_div_iff_mul_le (Nat.two_pow_pos j)).2 (by omega)
  have hq2 : x / 2 ^ j < 2 ^ 64 := Nat.lt_of_le_of_lt (Nat.div_le_self _ _) hx
  have tb : ∀ i, (x / 2 ^ j).testBit i = x.testBit (i + j) := fun i => by
    rw [Nat.testBit_div_two_pow]
  have b := last_bd (x / 2 ^ j).testBit 64
  have nn := last_not (x / 2 ^ j).testBit 64
  have at_ := last_at (x / 2 ^ j).testBit 64
  have h0 : 0 ≤ last (x / 2 ^ j).testBit 64 := by
    rcases Int.lt_or_le (last (x / 2 ^ j).testBit 64) 0 with h | h
    · have := zero_of_bits hq2 (fun i hi => nn i (by omega) hi); omega
    · exact h
  have hat := at_ h0
  unfold len
  generalize last (x / 2 ^ j).testBit 64 = L at *
  have high : ∀ i, 64 ≤ i → x.testBit i = false := fun i hi => Nat.testBit_lt_two_pow (Nat.lt_of_lt_of_le hx (Nat.pow_le_pow_right (by decide) hi))
  rw [tb] at hat
  have hlt : L.toNat + j < 64 := by
    rcases Nat.lt_or_ge (L.toNat + j) 64 with h | h
    · exact h
    · rw [high _ h] at hat; cases hat
  have : last x.testBit 64 = L + j := by
    refine last_eq (by omega) (by omega) (fun i hi hi2 => ?_) (fun _ => ?_)
    · have := nn (i - j) (by omega) (by omega)
      rw [tb] at this
      rwa [show i - j + j = i by omega] at this
    · rwa [show (L + (j : Int)).toNat = L.toNat + j by omega]
  rw [this]; omega

/-! The one of which so many less ones are. -/
def pickF (f : Nat → Bool) (n k : Nat) : Nat := first (fun i => f i && cnt f i == k) n
theorem cnt_lt {f : Nat → Bool} {i j : Nat} (hij : i < j) (hi : f i = true) : cnt f i < cnt f j := by
  have := cnt_mono f (show i + 1 ≤ j from hij)
  rw [cnt_succ, hi] at this; simp at this; omega
theorem pickF_eq {f : Nat → Bool} {n k i : Nat} (hi : i < n) (hf : f i = true) (hc : cnt f i = k) : pickF f n k = i := by
  refine first_eq (by omega) (fun j hj => ?_) (fun _ => by simp [hf, hc])
  cases hfj : f j with
  | false => simp
  | true => have := cnt_lt hj hfj; simp; omega
theorem cnt_hit {f : Nat → Bool} {n k : Nat} (h : k < cnt f n) : ∃ i, i < n ∧ f i = true ∧ cnt f i = k := by
  induction n with
  | zero => simp [cnt_zero] at h
  | succ n ih =>
    by_cases h2 : k < cnt f n
    · obtain ⟨i, a, b, c⟩ := ih h2; exact ⟨i, by omega, b, c⟩
    · rw [cnt_succ] at h
      cases hf : f n with
      | false => rw [hf] at h; simp at h; omega
      | true => rw [hf] at h; simp at h; exact ⟨n, by omega, hf, by omega⟩
theorem pickF_lt {f : Nat → Bool} {n k : Nat} (h : k < cnt f n) : pickF f n k < n ∧ f (pickF f n k) = true ∧ cnt f (pickF f n k) = k := by
  obtain ⟨i, a, b, c⟩ := cnt_hit h
  rw [pickF_eq a b c]; exact ⟨a, b, c⟩
theorem pickF_none {f : Nat → Bool} {n k : Nat} (h : cnt f n ≤ k) : pickF f n k = n := by
  refine first_eq (by omega) (fun j hj => ?_) (fun h => by omega)
  cases hfj : f j with
  | false => simp
  | true => have := cnt_lt hj hfj; simp; omega
/-- The count of a run inside a word. -/
theorem pc_run (x lo hi : Nat) (h1 : lo ≤ hi) (h2 : hi ≤ 64) : cnt x.testBit lo + pc (x &&& runW lo hi) = cnt x.testBit hi := by
  have e : pc (x &&& runW lo hi) = cnt (fun i => x.testBit (lo + i)) (hi - lo) := by
    have : cnt (x &&& runW lo hi).testBit 64 = cnt (x &&& runW lo hi).testBit (lo + ((hi - lo) + (64 - hi))) := by congr 1; omega
    unfold pc; rw [this, cnt_add, cnt_add]
    have tb : ∀ i, (x &&& runW lo hi).testBit i = (x.testBit i && decide (lo ≤ i ∧ i < hi ∧ i < 64)) := fun i => by
      rw [Nat.testBit_and, testBit_runW]; congr 1; apply decide_eq_decide.2; omega
    have z1 : cnt (x &&& runW lo hi).testBit lo = 0 := cnt_none (fun i hi' => by rw [tb]; simp; omega)
    have z2 : cnt (fun i => (x &&& runW lo hi).testBit (lo + (hi - lo + i))) (64 - hi) = 0 := cnt_none (fun i hi' => by rw [tb]; simp; omega)
    have z3 : cnt (fun i => (x &&& runW lo hi).testBit (lo + i)) (hi - lo) = cnt (fun i => x.testBit (lo + i)) (hi - lo) := cnt_congr (fun i hi' => by
      rw [tb, decide_eq_true (by omega), Bool.and_true])
    rw [z1, z2, z3]; omega
  rw [e, ← cnt_add]; congr 1; omega
theorem runW_all : runW 0 64 = 18446744073709551615 := by decide +kernel
theorem and_all (x : Nat) (hx : x < 18446744073709551616) : x &&& runW 0 64 = x := by
  rw [runW_all]; exact Nat.and_two_pow_sub_one_of_lt_two_pow (n := 64) hx

end Go.Proofs.YtlbbkpjfoabobaaDoor.Word
