/- Plain facts: a run of bits set, cleared or counted word by word. No program in sight. -/
import Derived.Test.YtlbbkpjfoabobaaDoorBitsB
namespace Go.Proofs.YtlbbkpjfoabobaaDoor.Word

theorem cnt_ext {f : Nat → Bool} {m n : Nat} (h : m ≤ n) (hf : ∀ i, m ≤ i → i < n → f i = false) : cnt f n = cnt f m := by
  obtain ⟨k, rfl⟩ : ∃ k, n = m + k := ⟨n - m, by omega⟩
  rw [cnt_add, cnt_none (f := fun i => f (m + i)) (fun i hi => hf _ (by omega) (by omega))]; omega
/-- How many of a run g holds of. -/
def cntI (g : Nat → Bool) (a b : Int) (n : Nat) : Nat := cnt (fun i => decide (a ≤ i ∧ (i : Int) < b) && g i) n
theorem cntI_empty (g : Nat → Bool) {a b : Int} (n : Nat) (h : b ≤ a) : cntI g a b n = 0 :=
  cnt_none (fun i _ => by rw [decide_eq_false (by omega)]; rfl)
theorem cntI_congr {g h : Nat → Bool} {a b a' b' : Int} {n : Nat} (H : ∀ i : Nat, i < n → (decide (a ≤ i ∧ (i : Int) < b) && g i) = (decide (a' ≤ i ∧ (i : Int) < b') && h i)) : cntI g a b n = cntI h a' b' n := cnt_congr H
theorem cntI_step {g : Nat → Bool} {lo hi : Int} {k n y : Nat} (hk : (64 * k : Int) < hi) (hn : hi ≤ n)
    (hy : ∀ j, j < 64 → y.testBit j = (decide (lo ≤ (64 * k + j : Nat) ∧ ((64 * k + j : Nat) : Int) < hi) && g (64 * k + j))) :
    cntI g lo (min hi (64 * k)) n + pc y = cntI g lo (min hi (64 * (k + 1 : Nat))) n := by
  unfold cntI
  obtain ⟨r, rfl⟩ : ∃ r, n = 64 * k + r := ⟨n - 64 * k, by omega⟩
  rw [cnt_add, cnt_add _ (64 * k) r]
  have e1 : cnt (fun i => decide (lo ≤ (i : Nat) ∧ ((i : Nat) : Int) < min hi (64 * k)) && g i) (64 * k) = cnt (fun i => decide (lo ≤ (i : Nat) ∧ ((i : Nat) : Int) < min hi (64 * (k + 1 : Nat))) && g i) (64 * k) :=
    cnt_congr (fun i hi' => by congr 1; apply decide_eq_decide.2; omega)
  have e2 : cnt (fun i => decide (lo ≤ (64 * k + i : Nat) ∧ ((64 * k + i : Nat) : Int) < min hi (64 * k)) && g (64 * k + i)) r = 0 :=
    cnt_none (fun i _ => by rw [decide_eq_false (by omega)]; rfl)
  have e3 : cnt (fun i => decide (lo ≤ (64 * k + i : Nat) ∧ ((64 * k + i : Nat) : Int) < min hi (64 * (k + 1 : Nat))) && g (64 * k + i)) r = pc y := by
    unfold pc
    rcases Nat.lt_or_ge r 64 with h | h
    · rw [cnt_ext (f := y.testBit) (show r ≤ 64 by omega) (fun i h1 h2 => by rw [hy i h2, decide_eq_false (by omega)]; rfl)]
      exact cnt_congr (fun i hi' => by rw [hy i (by omega)]; congr 1; apply decide_eq_decide.2; omega)
    · rw [cnt_ext h (fun i h1 h2 => by rw [decide_eq_false (by omega)]; rfl)]
      exact cnt_congr (fun i hi' => by rw [hy i (by omega)]; congr 1; apply decide_eq_decide.2; omega)
  rw [e1, e2, e3]; omega

theorem countL_eq (l : List Bool) (a b : Int) : countL l a b = cntI (at_ l) a b l.length := cnt_congr (fun i _ => by unfold inRun; rw [Bool.and_comm])
theorem chgL_eq (l : List Bool) (a b : Int) (x : Bool) : chgL l a b x = cntI (fun i => at_ l i != x) a b l.length := rfl
theorem layL_empty {l : List Bool} {a b : Int} (x : Bool) (h : b ≤ a) : layL l a b x = l :=
  ext_at (layL_length ..) (fun i hi => by rw [layL_at _ _ _ _ _ (by rwa [layL_length] at hi), if_neg (by omega)])
theorem layL_clip (l : List Bool) (f t : Int) (x : Bool) : layL l (max f 0) (min t l.length) x = layL l f t x :=
  ext_at (by rw [layL_length, layL_length]) (fun i hi => by
    rw [layL_length] at hi
    rw [layL_at _ _ _ _ _ hi, layL_at _ _ _ _ _ hi]
    by_cases h : f ≤ i ∧ (i : Int) < t
    · rw [if_pos h, if_pos (by omega)]
    · rw [if_neg h, if_neg (by omega)])
theorem cntI_clip (g : Nat → Bool) (f t : Int) (n : Nat) : cntI g (max f 0) (min t n) n = cntI g f t n :=
  cntI_congr (fun i hi => by congr 1; apply decide_eq_decide.2; omega)
theorem tb_run (lo hi : Int) (k j : Nat) (hj : j < 64) : (runW (lo - 64 * k) (hi - 64 * k)).testBit j = decide (lo ≤ (64 * k + j : Nat) ∧ ((64 * k + j : Nat) : Int) < hi) := by
  rw [testBit_runW]; apply decide_eq_decide.2; omega
/-- What is laid once the words below k are done. -/
theorem lay_at (l : List Bool) (lo hi : Int) (x : Bool) (i : Nat) (hh : hi ≤ l.length) : at_ (layL l lo hi x) i = if lo ≤ i ∧ (i : Int) < hi then x else at_ l i := by
  by_cases h : i < l.length
  · exact layL_at _ _ _ _ _ h
  · rw [at_out (by rw [layL_length]; omega), if_neg (by omega), at_out (by omega)]
theorem word_now {l : List Bool} {lo hi : Int} {k : Nat} (hk : (64 * k : Int) < hi) (hh : hi ≤ l.length) (x : Bool) (j : Nat) (hj : j < 64) : (wordOf (layL l lo (min hi (64 * k)) x) k).testBit j = at_ l (64 * k + j) := by
  rw [tb_word _ _ _ hj, lay_at _ _ _ _ _ (by omega), if_neg (by omega)]
theorem word_next {l : List Bool} {lo hi : Int} {k : Nat} (hh : hi ≤ l.length) (x : Bool) (j : Nat) (hj : j < 64) : (wordOf (layL l lo (min hi (64 * (k + 1 : Nat))) x) k).testBit j = if lo ≤ (64 * k + j : Nat) ∧ ((64 * k + j : Nat) : Int) < hi then x else at_ l (64 * k + j) := by
  rw [tb_word _ _ _ hj, lay_at _ _ _ _ _ (by omega)]
  by_cases h : lo ≤ (64 * k + j : Nat) ∧ ((64 * k + j : Nat) : Int) < hi
  · rw [if_pos h, if_pos (by omega)]
  · rw [if_neg h, if_neg (by omega)]
theorem word_on {l : List Bool} {lo hi : Int} {k : Nat} (hk : (64 * k : Int) < hi) (hh : hi ≤ l.length) : wordOf (layL l lo (min hi (64 * k)) true) k ||| runW (lo - 64 * k) (hi - 64 * k) = wordOf (layL l lo (min hi (64 * (k + 1 : Nat))) true) k := by
  refine word_ext (or_lt (wordOf_lt _ _) (runW_lt _ _)) (wordOf_lt _ _) (fun j hj => ?_)
  rw [Nat.testBit_or, word_now hk hh true j hj, tb_run lo hi k j hj, word_next hh true j hj]
  by_cases h : lo ≤ (64 * k + j : Nat) ∧ ((64 * k + j : Nat) : Int) < hi
  · rw [if_pos h, decide_eq_true h]; simp
  · rw [if_neg h, decide_eq_false h]; simp
theorem word_off {l : List Bool} {lo hi : Int} {k : Nat} (hk : (64 * k : Int) < hi) (hh : hi ≤ l.length) : andN (wordOf (layL l lo (min hi (64 * k)) false) k) (runW (lo - 64 * k) (hi - 64 * k)) = wordOf (layL l lo (min hi (64 * (k + 1 : Nat))) false) k := by
  refine word_ext (andN_lt _ _ (wordOf_lt _ _)) (wordOf_lt _ _) (fun j hj => ?_)
  rw [testBit_andN _ _ _ hj, word_now hk hh false j hj, tb_run lo hi k j hj, word_next hh false j hj]
  by_cases h : lo ≤ (64 * k + j : Nat) ∧ ((64 * k + j : Nat) : Int) < hi
  · rw [if_pos h, decide_eq_true h]; simp
  · rw [if_neg h, decide_eq_false h]; simp
theorem word_other {l : List Bool} {lo hi : Int} {k : Nat} (hk : (64 * k : Int) < hi) (hh : hi ≤ l.length) (x : Bool) {i : Nat} (hi' : i ≠ k) : wordOf (layL l lo (min hi (64 * k)) x) i = wordOf (layL l lo (min hi (64 * (k + 1 : Nat))) x) i := by
  refine word_ext (wordOf_lt _ _) (wordOf_lt _ _) (fun j hj => ?_)
  rw [tb_word _ _ _ hj, tb_word _ _ _ hj, lay_at _ _ _ _ _ (by omega), lay_at _ _ _ _ _ (by omega)]
  by_cases h : lo ≤ (64 * i + j : Nat) ∧ ((64 * i + j : Nat) : Int) < min hi (64 * k)
  · rw [if_pos h, if_pos (by omega)]
  · rw [if_neg h, if_neg (by omega)]
theorem chg_on {l : List Bool} {lo hi : Int} {k : Nat} (hk : (64 * k : Int) < hi) (hh : hi ≤ l.length) : chgL l lo (min hi (64 * k)) true + pc (andN (runW (lo - 64 * k) (hi - 64 * k)) (wordOf (layL l lo (min hi (64 * k)) true) k)) = chgL l lo (min hi (64 * (k + 1 : Nat))) true :=
  cntI_step hk hh (fun j hj => by rw [testBit_andN _ _ _ hj, tb_run lo hi k j hj, word_now hk hh true j hj]; cases at_ l (64 * k + j) <;> simp)
theorem chg_off {l : List Bool} {lo hi : Int} {k : Nat} (hk : (64 * k : Int) < hi) (hh : hi ≤ l.length) : chgL l lo (min hi (64 * k)) false + pc (runW (lo - 64 * k) (hi - 64 * k) &&& wordOf (layL l lo (min hi (64 * k)) false) k) = chgL l lo (min hi (64 * (k + 1 : Nat))) false :=
  cntI_step hk hh (fun j hj => by rw [Nat.testBit_and, tb_run lo hi k j hj, word_now hk hh false j hj]; cases at_ l (64 * k + j) <;> simp)
theorem count_on {l : List Bool} {lo hi : Int} {k : Nat} (hk : (64 * k : Int) < hi) (hh : hi ≤ l.length) : cntI (at_ l) lo (min hi (64 * k)) l.length + pc (runW (lo - 64 * k) (hi - 64 * k) &&& wordOf l k) = cntI (at_ l) lo (min hi (64 * (k + 1 : Nat))) l.length :=
  cntI_step hk hh (fun j hj => by rw [Nat.testBit_and, tb_run lo hi k j hj, tb_word l k j hj])
theorem cntI_le (g : Nat → Bool) (a b : Int) (n : Nat) : cntI g a b n ≤ n := cnt_le _ _
theorem nw_layL (l : List Bool) (a b : Int) (x : Bool) : nw (layL l a b x) = nw l := by unfold nw; rw [layL_length]
end Go.Proofs.YtlbbkpjfoabobaaDoor.Word
