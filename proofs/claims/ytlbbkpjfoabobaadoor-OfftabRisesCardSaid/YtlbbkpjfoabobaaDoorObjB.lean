/- Live words of objects; how many a run has; which one is the k-th. Plain facts. -/
import Derived.Test.YtlbbkpjfoabobaaDoorObj
import Derived.Test.YtlbbkpjfoabobaaDoorAdds
namespace Go.Proofs.YtlbbkpjfoabobaaDoor
open Word

/-- Is a word live? -/
def liveB (L : List Ob) (i : Nat) : Bool := L.any fun o => decide (o.1 ≤ i ∧ i < o.1 + o.2)
theorem liveB_iff {L : List Ob} {i : Nat} : liveB L i = true ↔ ∃ o ∈ L, o.1 ≤ i ∧ i < o.1 + o.2 := by simp [liveB]
theorem liveB_find {L : List Ob} {i : Nat} : liveB L i = decide (findO L (i : Int) < L.length) := by
  by_cases h : findO L (i : Int) < L.length
  · rw [decide_eq_true h]
    have := findO_yes h
    exact liveB_iff.2 ⟨_, List.getElem_mem h, by omega, by omega⟩
  · rw [decide_eq_false h]
    cases hb : liveB L i with
    | false => rfl
    | true =>
      obtain ⟨o, ho, h1, h2⟩ := liveB_iff.1 hb
      obtain ⟨k, hk, rfl⟩ := List.getElem_of_mem ho
      exact absurd ⟨by omega, by omega⟩ (findO_no (L := L) (a := (i : Int)) (i := k) (by omega) hk)
/-- How many words of a run from f up to t are live, of n words. -/
def liveN (L : List Ob) (n : Nat) (f t : Int) : Nat := cnt (fun i => decide (f ≤ (i : Nat) ∧ ((i : Nat) : Int) < t) && liveB L i) n
/-- How many words of an object lie in a run. -/
def over (o : Ob) (f t : Int) : Int := max 0 (min (o.1 + o.2 : Int) t - max (o.1 : Int) f)
def overs (L : List Ob) (f t : Int) : Int := (L.map fun o => over o f t).sum
theorem cnt_run (a b n : Nat) (h1 : a ≤ b) (h2 : b ≤ n) : cnt (fun i => decide (a ≤ i ∧ i < b)) n = b - a := by
  induction n generalizing b with
  | zero => rw [cnt_zero]; omega
  | succ n ih =>
    rw [cnt_succ]
    rcases Nat.lt_or_ge n b with h | h
    · have e : cnt (fun i => decide (a ≤ i ∧ i < b)) n = cnt (fun i => decide (a ≤ i ∧ i < b - 1)) n ∨ a = b := by
        by_cases hab : a = b
        · exact .inr hab
        · exact .inl (cnt_congr (fun i hi => decide_eq_decide.2 (by omega)))
      rcases e with e | e
      · by_cases hab : a = b
        · subst hab
          rw [cnt_none (fun i _ => decide_eq_false (by omega)), decide_eq_false (by omega)]; simp
        · rw [e, ih (b - 1) (by omega) (by omega), decide_eq_true (by omega)]; simp; omega
      · subst e
        rw [cnt_none (fun i _ => decide_eq_false (by omega)), decide_eq_false (by omega)]; simp
    · rw [ih b h1 h, decide_eq_false (by omega)]; simp
theorem liveN_nil (n : Nat) (f t : Int) : liveN [] n f t = 0 := cnt_none (fun i _ => by simp [liveB])
theorem cnt_over {n : Nat} {o : Ob} (ho : o.1 + o.2 ≤ n) (f t : Int) : ((cnt (fun i => decide (f ≤ (i : Nat) ∧ ((i : Nat) : Int) < t) && decide (o.1 ≤ i ∧ i < o.1 + o.2)) n : Nat) : Int) = over o f t := by
  unfold over
  by_cases h : max (o.1 : Int) f < min (o.1 + o.2 : Int) t
  · have e : cnt (fun i => decide (f ≤ (i : Nat) ∧ ((i : Nat) : Int) < t) && decide (o.1 ≤ i ∧ i < o.1 + o.2)) n = cnt (fun i => decide ((max (o.1 : Int) f).toNat ≤ i ∧ i < (min (o.1 + o.2 : Int) t).toNat)) n :=
      cnt_congr (fun i _ => by rw [← Bool.decide_and]; exact decide_eq_decide.2 (by omega))
    rw [e, cnt_run _ _ _ (by omega) (by omega)]; omega
  · rw [cnt_none (fun i _ => by rw [← Bool.decide_and]; exact decide_eq_false (by omega))]; omega
theorem liveN_eq {n : Nat} : ∀ {L : List Ob}, Good n L → ∀ (f t : Int), ((liveN L n f t : Nat) : Int) = overs L f t := by
  intro L
  induction L with
  | nil => intro _ f t; rw [liveN_nil]; rfl
  | cons o r ih =>
    intro h f t
    obtain ⟨h1, h2⟩ := List.pairwise_cons.1 h.pw
    have hr : Good n r := ⟨h2, fun q hq => h.sz q (List.mem_cons_of_mem _ hq)⟩
    have ho := h.sz o (List.mem_cons_self ..)
    have hs := cnt_or (f := fun i => decide (f ≤ (i : Nat) ∧ ((i : Nat) : Int) < t) && decide (o.1 ≤ i ∧ i < o.1 + o.2)) (g := fun i => decide (f ≤ (i : Nat) ∧ ((i : Nat) : Int) < t) && liveB r i) (fun i => by
      by_cases hc : o.1 ≤ i ∧ i < o.1 + o.2
      · have : liveB r i = false := by
          cases hb : liveB r i with
          | false => rfl
          | true => obtain ⟨q, hq, h3, h4⟩ := liveB_iff.1 hb; have := h1 q hq; omega
        rw [this]; simp
      · rw [decide_eq_false hc]; simp) n
    have e : liveN (o :: r) n f t = cnt (fun i => (decide (f ≤ (i : Nat) ∧ ((i : Nat) : Int) < t) && decide (o.1 ≤ i ∧ i < o.1 + o.2)) || (decide (f ≤ (i : Nat) ∧ ((i : Nat) : Int) < t) && liveB r i)) n :=
      cnt_congr (fun i _ => by rw [← Bool.and_or_distrib_left]; rfl)
    rw [e, hs, Int.natCast_add, cnt_over ho.2]
    have := ih hr f t
    unfold liveN at this
    rw [this]
    simp [overs]
theorem overs_append (L M : List Ob) (f t : Int) : overs (L ++ M) f t = overs L f t + overs M f t := by simp [overs]
theorem over_zero {o : Ob} {f t : Int} (h : (o.1 + o.2 : Int) ≤ f ∨ t ≤ o.1) : over o f t = 0 := by unfold over; omega
theorem overs_zero {L : List Ob} {f t : Int} (h : ∀ o ∈ L, (o.1 + o.2 : Int) ≤ f ∨ t ≤ o.1) : overs L f t = 0 := by
  induction L with
  | nil => rfl
  | cons o r ih =>
    have := ih (fun q hq => h q (List.mem_cons_of_mem _ hq))
    have h2 := over_zero (h o (List.mem_cons_self ..))
    simp only [overs, List.map_cons, List.sum_cons] at this ⊢
    omega
theorem overs_take {L : List Ob} {j : Nat} (hj : j < L.length) (f t : Int) : overs (L.take (j + 1)) f t = overs (L.take j) f t + over L[j] f t := by
  rw [List.take_succ_eq_append_getElem hj, overs_append]; simp [overs]
theorem overs_split (L : List Ob) (j : Nat) (f t : Int) : overs L f t = overs (L.take j) f t + overs (L.drop j) f t := by
  rw [← overs_append, List.take_append_drop]
theorem mem_take_lt {L : List Ob} {j : Nat} {o : Ob} (h : o ∈ L.take j) : ∃ i, ∃ hi : i < L.length, i < j ∧ L[i] = o := by
  obtain ⟨i, hi, rfl⟩ := List.getElem_of_mem h
  simp only [List.length_take] at hi
  exact ⟨i, by omega, by omega, by rw [List.getElem_take]⟩
theorem mem_drop_ge {L : List Ob} {j : Nat} {o : Ob} (h : o ∈ L.drop j) : ∃ i, ∃ hi : i < L.length, j ≤ i ∧ L[i] = o := by
  obtain ⟨i, hi, rfl⟩ := List.getElem_of_mem h
  simp only [List.length_drop] at hi
  exact ⟨j + i, by omega, by omega, by rw [List.getElem_drop]⟩
/-- Where the sum stands when the loop over the objects begins: those ahead of the next one from f on. -/
theorem overs_head {n : Nat} {L : List Ob} (h : Good n L) {f t : Int} :
    overs (L.take (nextO L f)) f t = if findO L f < L.length ∧ (L[findO L f]?.getD (0, 0)).1 < f ∧ f < t then min ((L[findO L f]?.getD (0, 0)).1 + (L[findO L f]?.getD (0, 0)).2 : Int) t - f else 0 := by
  by_cases hfi : findO L f < L.length
  · have hy := findO_yes hfi
    have hg : L[findO L f]?.getD (0, 0) = L[findO L f] := by rw [List.getElem?_eq_getElem hfi]; rfl
    rw [hg]
    by_cases hlt : (L[findO L f].1 : Int) < f
    · have hn : nextO L f = findO L f + 1 := nextO_eq (by omega) (fun i hi hij => by
        rcases Nat.lt_or_ge i (findO L f) with h1 | h1
        · have := h.at hi hfi h1; omega
        · have : i = findO L f := by omega
          subst this; omega) (fun h2 => by have := h.at hfi h2 (Nat.lt_succ_self _); omega)
      rw [hn, overs_take hfi, overs_zero (fun o ho => by
        obtain ⟨i, hi, hij, rfl⟩ := mem_take_lt ho
        have := h.at hi hfi hij; left; omega)]
      by_cases hft : f < t
      · rw [if_pos ⟨hfi, by omega, hft⟩]; unfold over; omega
      · rw [if_neg (by omega)]; unfold over; omega
    · rw [if_neg (by omega)]
      refine overs_zero (fun o ho => ?_)
      obtain ⟨i, hi, hij, rfl⟩ := mem_take_lt ho
      have h1 := nextO_no hij hi
      rcases Nat.lt_trichotomy i (findO L f) with h2 | rfl | h2
      · have := h.at hi hfi h2; left; omega
      · omega
      · have := h.at hfi hi h2; have := (h.sz _ (List.getElem_mem hfi)).1; omega
  · rw [if_neg (by omega)]
    refine overs_zero (fun o ho => ?_)
    obtain ⟨i, hi, hij, rfl⟩ := mem_take_lt ho
    have h1 := nextO_no hij hi
    have h2 := findO_no (L := L) (a := f) (i := i) (by omega) hi
    left; omega
/-- What lies behind is not of the run. -/
theorem overs_tail {n : Nat} {L : List Ob} (h : Good n L) {j : Nat} {f t : Int} (hj : ∀ hl : j < L.length, t ≤ (L[j].1 : Int)) : overs (L.drop j) f t = 0 := by
  refine overs_zero (fun o ho => ?_)
  obtain ⟨i, hi, hij, rfl⟩ := mem_drop_ge ho
  right
  have := hj (by omega)
  rcases Nat.lt_or_ge j i with h1 | h1
  · have := h.at (i := j) (by omega) hi h1; omega
  · have : i = j := by omega
    subst this; exact hj _
theorem overs_clip {n : Nat} {L : List Ob} (h : Good n L) (f t : Int) : overs L (max f 0) (min t n) = overs L f t := by
  unfold overs
  congr 1
  refine List.map_congr_left (fun o ho => ?_)
  have := h.sz o ho
  unfold over; omega

/-! The k-th live word -/
def sizes : List Ob → Nat
  | [] => 0
  | o :: r => o.2 + sizes r
def wordO : List Ob → Nat → Option Nat
  | [], _ => none
  | o :: r, k => if k < o.2 then some (o.1 + k) else wordO r (k - o.2)
def wordV (L : List Ob) (k : Int) : Int := if k < 0 then 0 else ((wordO L k.toNat).getD 0 : Nat)
def wordY (L : List Ob) (k : Int) : Bool := decide (0 ≤ k) && (wordO L k.toNat).isSome
theorem wordO_none {L : List Ob} : ∀ {k : Nat}, wordO L k = none ↔ sizes L ≤ k := by
  induction L with
  | nil => intro k; simp [wordO, sizes]
  | cons o r ih =>
    intro k
    unfold wordO sizes
    split
    · constructor
      · intro h; cases h
      · intro h; omega
    · rw [ih]; omega
theorem sizes_take {L : List Ob} {j : Nat} (hj : j < L.length) : sizes (L.take (j + 1)) = sizes (L.take j) + L[j].2 := by
  induction L generalizing j with
  | nil => simp at hj
  | cons o r ih =>
    cases j with
    | zero => simp [sizes]
    | succ j =>
      have := ih (j := j) (by simpa using hj)
      simp only [List.take_succ_cons, sizes, List.getElem_cons_succ] at this ⊢
      omega
theorem wordO_take {L : List Ob} {j i : Nat} (hj : j < L.length) (hi : i < L[j].2) : wordO L (sizes (L.take j) + i) = some (L[j].1 + i) := by
  induction L generalizing j with
  | nil => simp at hj
  | cons o r ih =>
    cases j with
    | zero =>
      have hi : i < o.2 := hi
      simp only [List.take_zero, sizes, Nat.zero_add, wordO, List.getElem_cons_zero]
      rw [if_pos hi]
    | succ j =>
      have := ih (j := j) (by simpa using hj) (by simpa using hi)
      simp only [List.take_succ_cons, sizes, List.getElem_cons_succ, wordO]
      rw [if_neg (by omega), show o.2 + sizes (List.take j r) + i - o.2 = sizes (List.take j r) + i by omega]
      exact this
theorem overs_all {n : Nat} {L : List Ob} (h : Good n L) : overs L 0 n = sizes L := by
  have key : ∀ (L : List Ob), (∀ o ∈ L, 1 ≤ o.2 ∧ o.1 + o.2 ≤ n) → overs L 0 n = sizes L := by
    intro L
    induction L with
    | nil => intro _; rfl
    | cons o r ih =>
      intro hs
      have h1 := ih (fun q hq => hs q (List.mem_cons_of_mem _ hq))
      have ho := hs o (List.mem_cons_self ..)
      have h2 : over o 0 n = o.2 := by unfold over; omega
      simp only [overs, List.map_cons, List.sum_cons, sizes] at h1 ⊢
      rw [h2]; omega
  exact key L h.sz
theorem overs_upto {n : Nat} {L : List Ob} (h : Good n L) {j i : Nat} (hj : j < L.length) (hi : i ≤ L[j].2) : overs L 0 ((L[j].1 : Int) + i) = sizes (L.take j) + i := by
  rw [overs_split L (j + 1), overs_tail h (j := j + 1) (fun hl => by have := h.at hj hl (Nat.lt_succ_self _); omega), overs_take hj]
  have hg : Good L[j].1 (L.take j) := ⟨h.pw.sublist (List.take_sublist ..), fun o ho => by
    obtain ⟨q, hq, hqj, rfl⟩ := mem_take_lt ho
    have := h.at hq hj hqj
    exact ⟨(h.sz _ (List.getElem_mem hq)).1, this⟩⟩
  have e : overs (L.take j) 0 ((L[j].1 : Int) + i) = overs (L.take j) 0 (L[j].1 : Nat) := by
    unfold overs
    congr 1
    refine List.map_congr_left (fun o ho => ?_)
    have := hg.sz o ho
    unfold over; omega
  rw [e, overs_all hg]
  unfold over; omega
theorem sizes_le {n : Nat} {L : List Ob} (h : Good n L) : sizes L ≤ n := by
  have h1 := overs_all h
  have h2 := liveN_eq h 0 n
  have h3 : liveN L n 0 n ≤ n := cnt_le _ _
  omega
end Go.Proofs.YtlbbkpjfoabobaaDoor
