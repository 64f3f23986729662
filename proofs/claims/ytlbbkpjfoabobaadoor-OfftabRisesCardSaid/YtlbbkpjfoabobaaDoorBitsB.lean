/- Plain facts: the next, the last and the picked bit of a row of bits, word by word. No program in sight. -/
import Derived.Test.YtlbbkpjfoabobaaDoorBits
namespace Go.Proofs.YtlbbkpjfoabobaaDoor.Word

theorem tb_word (l : List Bool) (k j : Nat) (hj : j < 64) : (wordOf l k).testBit j = at_ l (64 * k + j) := by
  rw [testBit_wordOf]; simp [hj, at_]
theorem tb_from (l : List Bool) (k fr j : Nat) (hj : j < 64) : (wordOf l k &&& runW fr 64).testBit j = (at_ l (64 * k + j) && decide (fr ≤ j)) := by
  rw [Nat.testBit_and, testBit_runW, tb_word l k j hj]
  congr 1; apply decide_eq_decide.2; omega
theorem tb_below (l : List Bool) (k j : Nat) (b : Int) (hj : j < 64) : (wordOf l k &&& runW 0 b).testBit j = (at_ l (64 * k + j) && decide ((j : Int) < b)) := by
  rw [Nat.testBit_and, testBit_runW, tb_word l k j hj]
  congr 1; apply decide_eq_decide.2; omega
/-- No one from a to below m. -/
def noneTo (l : List Bool) (a m : Nat) : Prop := ∀ i, a ≤ i → i < m → at_ l i = false
theorem next_start (l : List Bool) (a : Nat) : noneTo l a (64 * (a / 64) + a % 64) := fun i h1 h2 => by omega
theorem next_hit {l : List Bool} {a k fr : Nat} (h : noneTo l a (64 * k + fr)) (ha : a ≤ 64 * k + fr) (ht : tz (wordOf l k &&& runW fr 64) < 64) :
    nextL l a = 64 * k + tz (wordOf l k &&& runW fr 64) ∧ nextL l a < l.length := by
  have h1 := first_at _ 64 ht
  have h2 := first_not (wordOf l k &&& runW fr 64).testBit 64
  change (wordOf l k &&& runW fr 64).testBit (tz _) = true at h1
  change ∀ i, i < tz _ → _ at h2
  generalize tz (wordOf l k &&& runW fr 64) = t at *
  rw [tb_from l k fr t ht] at h1
  simp only [Bool.and_eq_true, decide_eq_true_eq] at h1
  have hl := at_lt h1.1
  have e : nextL l a = 64 * k + t := by
    refine first_eq (by omega) (fun i hi => ?_) (fun _ => by simp [h1.1]; omega)
    by_cases hai : a ≤ i
    · by_cases hf : i < 64 * k + fr
      · rw [h i hai hf]; simp
      · have := h2 (i - 64 * k) (by omega)
        rw [tb_from l k fr _ (by omega), show 64 * k + (i - 64 * k) = i by omega, decide_eq_true (show fr ≤ i - 64 * k by omega), Bool.and_true] at this
        rw [this]; simp
    · have : ¬ ((a : Int) ≤ i) := by omega
      simp [this]
  exact ⟨e, by omega⟩
theorem next_miss {l : List Bool} {a k fr : Nat} (h : noneTo l a (64 * k + fr)) (hfr : fr ≤ 64) (ht : ¬ tz (wordOf l k &&& runW fr 64) < 64) : noneTo l a (64 * (k + 1) + 0) := by
  intro i h1 h2
  by_cases hf : i < 64 * k + fr
  · exact h i h1 hf
  · have hn := first_not (wordOf l k &&& runW fr 64).testBit 64 (i - 64 * k) (by have := tz_le (wordOf l k &&& runW fr 64); unfold tz at *; omega)
    rw [tb_from l k fr _ (by omega), show 64 * k + (i - 64 * k) = i by omega, decide_eq_true (show fr ≤ i - 64 * k by omega), Bool.and_true] at hn
    exact hn
theorem next_none {l : List Bool} {a k fr : Nat} (h : noneTo l a (64 * k + fr)) (hk : nw l ≤ k) : nextL l a = l.length := by
  refine first_eq (by omega) (fun i hi => ?_) (fun h => by omega)
  by_cases hai : a ≤ i
  · rw [h i hai (by unfold nw at hk; omega)]; simp
  · have : ¬ ((a : Int) ≤ i) := by omega
    simp [this]
theorem next_neg {l : List Bool} {a : Int} (h : a ≤ 0) : nextL l a = nextL l 0 :=
  first_congr (fun i _ => by rw [decide_eq_true (show a ≤ (i : Int) by omega), decide_eq_true (show (0 : Int) ≤ (i : Int) by omega)])
theorem next_toNat (l : List Bool) (a : Int) : nextL l a = nextL l (a.toNat : Int) :=
  first_congr (fun i _ => by congr 1; apply decide_eq_decide.2; omega)
theorem next_out {l : List Bool} {a : Int} (h : (l.length : Int) ≤ a) : nextL l a = l.length :=
  first_eq (by omega) (fun i hi => by rw [decide_eq_false (show ¬ a ≤ (i : Int) by omega)]; simp) (fun h => by omega)
/-- A result that may not be: the number, and whether. -/
def valN (n k : Nat) : Int := if k < n then k else 0
theorem valN_yes {n k : Nat} (h : k < n) : valN n k = k := if_pos h
theorem valN_no {n k : Nat} (h : ¬ k < n) : valN n k = 0 := if_neg h

/-- No one from m to below b. -/
def noneFrom (l : List Bool) (b m : Int) : Prop := ∀ i : Nat, m ≤ i → (i : Int) < b → at_ l i = false
theorem last_hit {l : List Bool} {b : Int} {k : Nat} (h : noneFrom l b (64 * k + 64)) (ht : 0 ≤ len (wordOf l k &&& runW 0 (b - 64 * k)) - 1) :
    lastL l b = 64 * k + (len (wordOf l k &&& runW 0 (b - 64 * k)) - 1) := by
  unfold len at *
  have h0 := last_bd (wordOf l k &&& runW 0 (b - 64 * k)).testBit 64
  have h1 := last_at (wordOf l k &&& runW 0 (b - 64 * k)).testBit 64 (by omega)
  have h2 := last_not (wordOf l k &&& runW 0 (b - 64 * k)).testBit 64
  generalize last (wordOf l k &&& runW 0 (b - 64 * k)).testBit 64 = t at *
  obtain ⟨t, rfl⟩ : ∃ n : Nat, t = n := ⟨t.toNat, by omega⟩
  rw [Int.toNat_natCast] at h1
  rw [tb_below l k t _ (by omega)] at h1
  simp only [Bool.and_eq_true, decide_eq_true_eq] at h1
  have hl := at_lt h1.1
  have e : lastL l b = ((64 * k + t : Nat) : Int) := by
    refine last_eq (by omega) (by omega) (fun i hi hi2 => ?_) (fun _ => ?_)
    · by_cases hib : (i : Int) < b
      · by_cases hf : 64 * k + 64 ≤ i
        · rw [h i (by omega) hib]; simp
        · have := h2 (i - 64 * k) (by omega) (by omega)
          rw [tb_below l k _ _ (by omega), show 64 * k + (i - 64 * k) = i by omega, decide_eq_true (show ((i - 64 * k : Nat) : Int) < b - 64 * k by omega), Bool.and_true] at this
          rw [this]; simp
      · simp [hib]
    · rw [Int.toNat_natCast, h1.1]; simp; omega
  rw [e]; omega
theorem last_miss {l : List Bool} {b : Int} {k : Nat} (h : noneFrom l b (64 * k + 64)) (ht : ¬ 0 ≤ len (wordOf l k &&& runW 0 (b - 64 * k)) - 1) : noneFrom l b (64 * k) := by
  intro i h1 h2
  by_cases hf : 64 * k + 64 ≤ i
  · exact h i (by omega) h2
  · unfold len at ht
    have := last_not (wordOf l k &&& runW 0 (b - 64 * k)).testBit 64 (i - 64 * k) (by omega) (by omega)
    rw [tb_below l k _ _ (by omega), show 64 * k + (i - 64 * k) = i by omega, decide_eq_true (show ((i - 64 * k : Nat) : Int) < b - 64 * k by omega), Bool.and_true] at this
    exact this
theorem last_none {l : List Bool} {b m : Int} (h : noneFrom l b m) (hm : m ≤ 0) : lastL l b = -1 := by
  refine last_eq (by omega) (by omega) (fun i _ _ => ?_) (fun h => by omega)
  by_cases hib : (i : Int) < b
  · rw [h i (by omega) hib]; simp
  · simp [hib]
theorem last_low {l : List Bool} {b : Int} (h : b ≤ 0) : lastL l b = -1 := last_none (m := 0) (fun i _ h2 => by omega) (by omega)
theorem last_min (l : List Bool) (b : Int) : lastL l b = lastL l (min b l.length) :=
  last_congr (fun i hi => by congr 1; apply decide_eq_decide.2; omega)
def valI (k : Int) : Int := if 0 ≤ k then k else 0

/-- The count of the words ahead. -/
theorem cnt_word (l : List Bool) (k : Nat) : cnt (at_ l) (64 * k) + pc (wordOf l k) = cnt (at_ l) (64 * k + 64) := by
  rw [cnt_add]
  congr 1
  exact cnt_congr (fun i hi => tb_word l k i hi)
theorem cnt_past (l : List Bool) {m : Nat} (h : l.length ≤ m) : cnt (at_ l) m = cnt (at_ l) l.length := by
  obtain ⟨k, rfl⟩ : ∃ k, m = l.length + k := ⟨m - l.length, by omega⟩
  rw [cnt_add, cnt_none (f := fun i => at_ l (l.length + i)) (fun i _ => at_out (by omega))]; omega
theorem pick_hit {l : List Bool} {k c q : Nat} (h : cnt (at_ l) (64 * k) + c = q) (hc : c < pc (wordOf l k)) :
    pickL l q = 64 * k + pickF (wordOf l k).testBit 64 c ∧ pickL l q < l.length := by
  obtain ⟨h1, h2, h3⟩ := pickF_lt hc
  generalize pickF (wordOf l k).testBit 64 c = t at *
  rw [tb_word l k t h1] at h2
  have hl := at_lt h2
  have e : pickL l q = 64 * k + t := by
    refine pickF_eq hl h2 ?_
    rw [cnt_add, ← h, ← h3]
    congr 1
    exact cnt_congr (fun i hi => (tb_word l k i (by omega)).symm)
  exact ⟨e, by omega⟩
theorem pick_miss {l : List Bool} {k c q : Nat} (h : cnt (at_ l) (64 * k) + c = q) (hc : ¬ c < pc (wordOf l k)) : cnt (at_ l) (64 * (k + 1)) + (c - pc (wordOf l k)) = q := by
  have := cnt_word l k
  rw [show 64 * (k + 1) = 64 * k + 64 by omega]; omega
theorem pickL_none {l : List Bool} {k c q : Nat} (h : cnt (at_ l) (64 * k) + c = q) (hk : nw l ≤ k) : pickL l q = l.length := by
  refine pickF_none ?_
  rw [cnt_past l (show l.length ≤ 64 * k by unfold nw at hk; omega)] at h
  omega
end Go.Proofs.YtlbbkpjfoabobaaDoor.Word
