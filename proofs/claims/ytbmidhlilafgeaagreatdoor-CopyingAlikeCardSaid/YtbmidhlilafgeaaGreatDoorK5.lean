/- Contracts of the reference of layer 11: a row of bools. Objects in an address space: a list of starts and sizes, by rising start. Plain facts. Live words of objects; how many a run has; which one is the k-th. Plain facts. Objects come and go. Plain facts. -/
import Derived.Test.YtbmidhlilafgeaaGreatDoorK4
section
namespace Go.Proofs.YtbmidhlilafgeaaGreatDoor
open Go.RowKit Word

end Go.Proofs.YtbmidhlilafgeaaGreatDoor
end

section
namespace Go.Proofs.YtbmidhlilafgeaaGreatDoor
open Word

/-- An object: its start, its size. -/
abbrev Ob := Nat × Nat
/-- Objects within n words, by rising start, none over another. -/
structure Good (n : Nat) (L : List Ob) : Prop where
  pw : L.Pairwise (fun o q => o.1 + o.2 ≤ q.1)
  sz : ∀ o ∈ L, 1 ≤ o.2 ∧ o.1 + o.2 ≤ n
theorem Good.nil (n : Nat) : Good n [] := ⟨List.Pairwise.nil, fun _ h => by cases h⟩
theorem Good.at {n : Nat} {L : List Ob} (h : Good n L) {i j : Nat} (hi : i < L.length) (hj : j < L.length) (hij : i < j) : L[i].1 + L[i].2 ≤ L[j].1 := List.pairwise_iff_getElem.1 h.pw i j hi hj hij
theorem Good.disj {n : Nat} {L : List Ob} (h : Good n L) {o q : Ob} (ho : o ∈ L) (hq : q ∈ L) : o = q ∨ o.1 + o.2 ≤ q.1 ∨ q.1 + q.2 ≤ o.1 := by
  obtain ⟨i, hi, rfl⟩ := List.getElem_of_mem ho
  obtain ⟨j, hj, rfl⟩ := List.getElem_of_mem hq
  rcases Nat.lt_trichotomy i j with hij | rfl | hij
  · exact .inr (.inl (h.at hi hj hij))
  · exact .inl rfl
  · exact .inr (.inr (h.at hj hi hij))
theorem Good.len {n : Nat} : ∀ {L : List Ob}, Good n L → L.length ≤ n := by
  intro L h
  have key : ∀ (L : List Ob), L.Pairwise (fun o q => o.1 + o.2 ≤ q.1) → (∀ o ∈ L, 1 ≤ o.2 ∧ o.1 + o.2 ≤ n) → ∀ a, a ≤ n → (∀ o ∈ L, a ≤ o.1) → a + L.length ≤ n := by
    intro L
    induction L with
    | nil => intro _ _ a ha _; simpa using ha
    | cons o r ih =>
      intro hp hs a ha hl
      obtain ⟨h1, h2⟩ := List.pairwise_cons.1 hp
      have ho := hs o (List.mem_cons_self ..)
      have := ih h2 (fun q hq => hs q (List.mem_cons_of_mem _ hq)) (o.1 + o.2) ho.2 (fun q hq => h1 q hq)
      have := hl o (List.mem_cons_self ..)
      simp only [List.length_cons]; omega
  have := key L h.pw h.sz 0 (Nat.zero_le _) (fun _ _ => Nat.zero_le _)
  omega

/-! The bits of a map -/
def startsL (n : Nat) (L : List Ob) : List Bool := (List.range n).map fun i => L.any fun o => o.1 == i
def endsL (n : Nat) (L : List Ob) : List Bool := (List.range n).map fun i => L.any fun o => o.1 + o.2 == i + 1
theorem startsL_len (n : Nat) (L : List Ob) : (startsL n L).length = n := by simp [startsL]
theorem endsL_len (n : Nat) (L : List Ob) : (endsL n L).length = n := by simp [endsL]
theorem at_map_range (f : Nat → Bool) (n i : Nat) : at_ ((List.range n).map f) i = (decide (i < n) && f i) := by
  unfold at_
  rw [List.getD_eq_getElem?_getD, List.getElem?_map]
  by_cases h : i < n
  · rw [List.getElem?_range h, decide_eq_true h]; rfl
  · rw [List.getElem?_eq_none (by simpa using h), decide_eq_false h]; rfl
theorem at_starts {n : Nat} {L : List Ob} (h : Good n L) (i : Nat) : at_ (startsL n L) i = true ↔ ∃ o ∈ L, o.1 = i := by
  unfold startsL
  rw [at_map_range]
  simp only [Bool.and_eq_true, decide_eq_true_eq, List.any_eq_true, beq_iff_eq]
  constructor
  · rintro ⟨_, h⟩; exact h
  · rintro ⟨o, ho, rfl⟩; have := h.sz o ho; exact ⟨by omega, o, ho, rfl⟩
theorem at_ends {n : Nat} {L : List Ob} (h : Good n L) (i : Nat) : at_ (endsL n L) i = true ↔ ∃ o ∈ L, o.1 + o.2 = i + 1 := by
  unfold endsL
  rw [at_map_range]
  simp only [Bool.and_eq_true, decide_eq_true_eq, List.any_eq_true, beq_iff_eq]
  constructor
  · rintro ⟨_, h⟩; exact h
  · rintro ⟨o, ho, e⟩; have := h.sz o ho; exact ⟨by omega, o, ho, e⟩
/-- The end of an object is the first one from its start on. -/
theorem next_end {n : Nat} {L : List Ob} (h : Good n L) {o : Ob} (ho : o ∈ L) : nextL (endsL n L) (o.1 : Int) = o.1 + o.2 - 1 ∧ o.1 + o.2 - 1 < (endsL n L).length := by
  have hs := h.sz o ho
  have := nextL_at (l := endsL n L) (a := (o.1 : Int)) (k := o.1 + o.2 - 1) (fun i hi hc => by
    obtain ⟨q, hq, e⟩ := (at_ends h i).1 hc.1
    have hqs := h.sz q hq
    have hc2 := hc.2
    rcases h.disj ho hq with rfl | hd | hd <;> omega) ((at_ends h _).2 ⟨o, ho, by omega⟩) (by omega)
  exact ⟨this.1, by rw [endsL_len]; omega⟩

/-! The next object -/
def nextO (L : List Ob) (a : Int) : Nat := L.findIdx fun o => decide (a ≤ o.1)
theorem nextO_le (L : List Ob) (a : Int) : nextO L a ≤ L.length := List.findIdx_le_length
theorem nextO_no {L : List Ob} {a : Int} {i : Nat} (h : i < nextO L a) (hi : i < L.length) : (L[i].1 : Int) < a := by
  have := List.not_of_lt_findIdx h
  simp at this; omega
theorem nextO_yes {L : List Ob} {a : Int} (h : nextO L a < L.length) : a ≤ (L[nextO L a]'h).1 := by
  have := List.findIdx_getElem (p := fun o : Ob => decide (a ≤ (o.1 : Int))) (w := h)
  simp only [decide_eq_true_eq] at this
  exact this
theorem nextO_eq {L : List Ob} {a : Int} {j : Nat} (hj : j ≤ L.length) (hn : ∀ i (hi : i < L.length), i < j → (L[i].1 : Int) < a) (hy : ∀ h : j < L.length, a ≤ (L[j].1 : Int)) : nextO L a = j := by
  rcases Nat.lt_trichotomy (nextO L a) j with h | h | h
  · have h1 := nextO_yes (L := L) (a := a) (by omega)
    have h2 := hn _ (by omega) h
    omega
  · exact h
  · have hlt : j < L.length := by have := nextO_le L a; omega
    have h1 := nextO_no h hlt
    have h2 := hy hlt
    omega
/-- The next start from an address on. -/
theorem next_start_yes {n : Nat} {L : List Ob} (h : Good n L) {a : Int} (hj : nextO L a < L.length) : nextL (startsL n L) a = (L[nextO L a]).1 ∧ nextL (startsL n L) a < (startsL n L).length := by
  have hy := nextO_yes hj
  refine nextL_at (fun i hi hc => ?_) ((at_starts h _).2 ⟨_, List.getElem_mem hj, rfl⟩) (by omega)
  obtain ⟨q, hq, e⟩ := (at_starts h i).1 hc.1
  obtain ⟨k, hk, rfl⟩ := List.getElem_of_mem hq
  rcases Nat.lt_trichotomy k (nextO L a) with hlt | rfl | hlt
  · have := nextO_no hlt hk; omega
  · omega
  · have := h.at hj hk hlt; omega
theorem next_start_no {n : Nat} {L : List Ob} (h : Good n L) {a : Int} (hj : ¬ nextO L a < L.length) : nextL (startsL n L) a = (startsL n L).length := by
  refine nextL_end (fun i hi hc => ?_)
  obtain ⟨q, hq, e⟩ := (at_starts h i).1 hc.1
  obtain ⟨k, hk, rfl⟩ := List.getElem_of_mem hq
  have := nextO_no (L := L) (a := a) (i := k) (by omega) hk
  omega
theorem next_after_ob {n : Nat} {L : List Ob} (h : Good n L) {j : Nat} (hj : j < L.length) : nextO L ((L[j].1 : Int) + (L[j].2 : Int)) = j + 1 := by
  refine nextO_eq (by omega) (fun i hi hij => ?_) (fun h2 => ?_)
  · have hs := h.sz _ (List.getElem_mem hj)
    rcases Nat.lt_or_ge i j with h1 | h1
    · have := h.at hi hj h1; have := h.sz _ (List.getElem_mem hi); omega
    · have : i = j := by omega
      subst this; omega
  · have := h.at hj h2 (Nat.lt_succ_self j); omega

/-! The object that has an address -/
def hasO (a : Int) (o : Ob) : Bool := decide ((o.1 : Int) ≤ a ∧ a < o.1 + o.2)
def findO (L : List Ob) (a : Int) : Nat := L.findIdx (hasO a)
theorem findO_le (L : List Ob) (a : Int) : findO L a ≤ L.length := List.findIdx_le_length
theorem findO_yes {L : List Ob} {a : Int} (h : findO L a < L.length) : ((L[findO L a]'h).1 : Int) ≤ a ∧ a < (L[findO L a]'h).1 + (L[findO L a]'h).2 := by
  have := List.findIdx_getElem (p := hasO a) (w := h)
  simp only [hasO, decide_eq_true_eq] at this
  exact this
theorem findO_no {L : List Ob} {a : Int} {i : Nat} (h : i < findO L a) (hi : i < L.length) : ¬ ((L[i].1 : Int) ≤ a ∧ a < L[i].1 + L[i].2) := by
  have := List.not_of_lt_findIdx h
  simpa [hasO] using this
theorem findO_eq {n : Nat} {L : List Ob} (h : Good n L) {a : Int} {j : Nat} (hj : j < L.length) (h1 : (L[j].1 : Int) ≤ a) (h2 : a < L[j].1 + L[j].2) : findO L a = j := by
  rcases Nat.lt_trichotomy (findO L a) j with hlt | he | hlt
  · have hy := findO_yes (L := L) (a := a) (by omega)
    have := h.at (i := findO L a) (by omega) hj hlt
    omega
  · exact he
  · exact absurd ⟨h1, h2⟩ (findO_no hlt hj)
theorem findO_none {L : List Ob} {a : Int} (h : ∀ o ∈ L, ¬ ((o.1 : Int) ≤ a ∧ a < o.1 + o.2)) : findO L a = L.length := by
  rcases Nat.lt_or_ge (findO L a) L.length with h1 | h1
  · exact absurd (findO_yes h1) (h _ (List.getElem_mem h1))
  · have := findO_le L a; omega
/-- The last object that starts at or below an address. -/
theorem last_of {n : Nat} {L : List Ob} (h : Good n L) (a : Int) : (lastL (startsL n L) (a + 1) = -1 ∧ ∀ o ∈ L, a < (o.1 : Int)) ∨ ∃ j, ∃ hj : j < L.length, lastL (startsL n L) (a + 1) = (L[j].1 : Int) ∧ (L[j].1 : Int) ≤ a ∧ ∀ i (hi : i < L.length), j < i → a < (L[i].1 : Int) := by
  have hx := nextO_le L (a + 1)
  rcases Nat.eq_zero_or_pos (nextO L (a + 1)) with h0 | h0
  · left
    have hall : ∀ o ∈ L, a < (o.1 : Int) := fun o ho => by
      obtain ⟨k, hk, rfl⟩ := List.getElem_of_mem ho
      have hy := nextO_yes (L := L) (a := a + 1) (by omega)
      rcases Nat.eq_zero_or_pos k with rfl | hk0
      · have e : L[nextO L (a + 1)]'(by omega) = L[0] := by congr 1
        rw [e] at hy; omega
      · have := h.at (i := 0) (j := k) (by omega) hk hk0
        have e : L[nextO L (a + 1)]'(by omega) = L[0]'(by omega) := by congr 1
        rw [e] at hy; omega
    refine ⟨lastL_end (fun i hc => ?_), hall⟩
    obtain ⟨q, hq, e⟩ := (at_starts h i).1 hc.1
    have := hall q hq; omega
  · right
    obtain ⟨j, hj⟩ : ∃ j, nextO L (a + 1) = j + 1 := ⟨nextO L (a + 1) - 1, by omega⟩
    have hjl : j < L.length := by omega
    have h1 := nextO_no (L := L) (a := a + 1) (i := j) (by omega) hjl
    have hall : ∀ i (hi : i < L.length), j < i → a < (L[i].1 : Int) := fun i hi hij => by
      have hy := nextO_yes (L := L) (a := a + 1) (by omega)
      rcases Nat.lt_or_ge (nextO L (a + 1)) i with h2 | h2
      · have := h.at (i := nextO L (a + 1)) (by omega) hi h2; omega
      · have e : L[nextO L (a + 1)]'(by omega) = L[i] := by congr 1; omega
        rw [e] at hy; omega
    refine ⟨j, hjl, lastL_at (fun i hij hc => ?_) ((at_starts h _).2 ⟨_, List.getElem_mem hjl, rfl⟩) (by omega), by omega, hall⟩
    obtain ⟨q, hq, e⟩ := (at_starts h i).1 hc.1
    obtain ⟨k, hk, rfl⟩ := List.getElem_of_mem hq
    rcases Nat.lt_trichotomy k j with hlt | rfl | hlt
    · have := h.at hk hjl hlt; omega
    · omega
    · have := hall k hk hlt; omega
end Go.Proofs.YtbmidhlilafgeaaGreatDoor
end

section
namespace Go.Proofs.YtbmidhlilafgeaaGreatDoor
open Word

/-- Is a word live? -/
def liveB (L : List Ob) (i : Nat) : Bool := L.any fun o => decide (o.1 ≤ i ∧ i < o.1 + o.2)
theorem liveB_iff {L : List Ob} {i : Nat} : liveB L i = true ↔ ∃ o ∈ L, o.1 ≤ i ∧ i < o.1 + o.2 := by simp [liveB]
theorem liveB_find {L : List Ob} {i : Nat} : liveB L i = decide (findO L (i : Int) < L.length) := by
  by_cases h : findO L (i : Int) < L.length
  · rw [decide_eq_true h]
    have := findO_yes h
    exact liveB_iff.2 ⟨_, List.getElem_mem h, by omega, by omega⟩
  · rw [decide_eq_false h]
    cases hb : liveB L i with
    | false => rfl
    | true =>
      obtain ⟨o, ho, h1, h2⟩ := liveB_iff.1 hb
      obtain ⟨k, hk, rfl⟩ := List.getElem_of_mem ho
      exact absurd ⟨by omega, by omega⟩ (findO_no (L := L) (a := (i : Int)) (i := k) (by omega) hk)
/-- How many words of a run from f up to t are live, of n words. -/
def liveN (L : List Ob) (n : Nat) (f t : Int) : Nat := cnt (fun i => decide (f ≤ (i : Nat) ∧ ((i : Nat) : Int) < t) && liveB L i) n
/-- How many words of an object lie in a run. -/
def over (o : Ob) (f t : Int) : Int := max 0 (min (o.1 + o.2 : Int) t - max (o.1 : Int) f)
def overs (L : List Ob) (f t : Int) : Int := (L.map fun o => over o f t).sum
theorem cnt_run (a b n : Nat) (h1 : a ≤ b) (h2 : b ≤ n) : cnt (fun i => decide (a ≤ i ∧ i < b)) n = b - a := by
  induction n generalizing b with
  | zero => rw [cnt_zero]; omega
  | succ n ih =>
    rw [cnt_succ]
    rcases Nat.lt_or_ge n b with h | h
    · have e : cnt (fun i => decide (a ≤ i ∧ i < b)) n = cnt (fun i => decide (a ≤ i ∧ i < b - 1)) n ∨ a = b := by
        by_cases hab : a = b
        · exact .inr hab
        · exact .inl (cnt_congr (fun i hi => decide_eq_decide.2 (by omega)))
      rcases e with e | e
      · by_cases hab : a = b
        · subst hab
          rw [cnt_none (fun i _ => decide_eq_false (by omega)), decide_eq_false (by omega)]; simp
        · rw [e, ih (b - 1) (by omega) (by omega), decide_eq_true (by omega)]; simp; omega
      · subst e
        rw [cnt_none (fun i _ => decide_eq_false (by omega)), decide_eq_false (by omega)]; simp
    · rw [ih b h1 h, decide_eq_false (by omega)]; simp
theorem liveN_nil (n : Nat) (f t : Int) : liveN [] n f t = 0 := cnt_none (fun i _ => by simp [liveB])
theorem cnt_over {n : Nat} {o : Ob} (ho : o.1 + o.2 ≤ n) (f t : Int) : ((cnt (fun i => decide (f ≤ (i : Nat) ∧ ((i : Nat) : Int) < t) && decide (o.1 ≤ i ∧ i < o.1 + o.2)) n : Nat) : Int) = over o f t := by
  unfold over
  by_cases h : max (o.1 : Int) f < min (o.1 + o.2 : Int) t
  · have e : cnt (fun i => decide (f ≤ (i : Nat) ∧ ((i : Nat) : Int) < t) && decide (o.1 ≤ i ∧ i < o.1 + o.2)) n = cnt (fun i => decide ((max (o.1 : Int) f).toNat ≤ i ∧ i < (min (o.1 + o.2 : Int) t).toNat)) n :=
      cnt_congr (fun i _ => by rw [← Bool.decide_and]; exact decide_eq_decide.2 (by omega))
    rw [e, cnt_run _ _ _ (by omega) (by omega)]; omega
  · rw [cnt_none (fun i _ => by rw [← Bool.decide_and]; exact decide_eq_false (by omega))]; omega
theorem liveN_eq {n : Nat} : ∀ {L : List Ob}, Good n L → ∀ (f t : Int), ((liveN L n f t : Nat) : Int) = overs L f t := by
  intro L
  induction L with
  | nil => intro _ f t; rw [liveN_nil]; rfl
  | cons o r ih =>
    intro h f t
    obtain ⟨h1, h2⟩ := List.pairwise_cons.1 h.pw
    have hr : Good n r := ⟨h2, fun q hq => h.sz q (List.mem_cons_of_mem _ hq)⟩
    have ho := h.sz o (List.mem_cons_self ..)
    have hs := cnt_or (f := fun i => decide (f ≤ (i : Nat) ∧ ((i : Nat) : Int) < t) && decide (o.1 ≤ i ∧ i < o.1 + o.2)) (g := fun i => decide (f ≤ (i : Nat) ∧ ((i : Nat) : Int) < t) && liveB r i) (fun i => by
      by_cases hc : o.1 ≤ i ∧ i < o.1 + o.2
      · have : liveB r i = false := by
          cases hb : liveB r i with
          | false => rfl
          | true => obtain ⟨q, hq, h3, h4⟩ := liveB_iff.1 hb; have := h1 q hq; omega
        rw [this]; simp
      · rw [decide_eq_false hc]; simp) n
    have e : liveN (o :: r) n f t = cnt (fun i => (decide (f ≤ (i : Nat) ∧ ((i : Nat) : Int) < t) && decide (o.1 ≤ i ∧ i < o.1 + o.2)) || (decide (f ≤ (i : Nat) ∧ ((i : Nat) : Int) < t) && liveB r i)) n :=
      cnt_congr (fun i _ => by rw [← Bool.and_or_distrib_left]; rfl)
    rw [e, hs, Int.natCast_add, cnt_over ho.2]
    have := ih hr f t
    unfold liveN at this
    rw [this]
    simp [overs]
theorem overs_append (L M : List Ob) (f t : Int) : overs (L ++ M) f t = overs L f t + overs M f t := by simp [overs]
theorem over_zero {o : Ob} {f t : Int} (h : (o.1 + o.2 : Int) ≤ f ∨ t ≤ o.1) : over o f t = 0 := by unfold over; omega
theorem overs_zero {L : List Ob} {f t : Int} (h : ∀ o ∈ L, (o.1 + o.2 : Int) ≤ f ∨ t ≤ o.1) : overs L f t = 0 := by
  induction L with
  | nil => rfl
  | cons o r ih =>
    have := ih (fun q hq => h q (List.mem_cons_of_mem _ hq))
    have h2 := over_zero (h o (List.mem_cons_self ..))
    simp only [overs, List.map_cons, List.sum_cons] at this ⊢
    omega
theorem overs_take {L : List Ob} {j : Nat} (hj : j < L.length) (f t : Int) : overs (L.take (j + 1)) f t = overs (L.take j) f t + over L[j] f t := by
  rw [List.take_succ_eq_append_getElem hj, overs_append]; simp [overs]
theorem overs_split (L : List Ob) (j : Nat) (f t : Int) : overs L f t = overs (L.take j) f t + overs (L.drop j) f t := by
  rw [← overs_append, List.take_append_drop]
theorem mem_take_lt {L : List Ob} {j : Nat} {o : Ob} (h : o ∈ L.take j) : ∃ i, ∃ hi : i < L.length, i < j ∧ L[i] = o := by
  obtain ⟨i, hi, rfl⟩ := List.getElem_of_mem h
  simp only [List.length_take] at hi
  exact ⟨i, by omega, by omega, by rw [List.getElem_take]⟩
theorem mem_drop_ge {L : List Ob} {j : Nat} {o : Ob} (h : o ∈ L.drop j) : ∃ i, ∃ hi : i < L.length, j ≤ i ∧ L[i] = o := by
  obtain ⟨i, hi, rfl⟩ := List.getElem_of_mem h
  simp only [List.length_drop] at hi
  exact ⟨j + i, by omega, by omega, by rw [List.getElem_drop]⟩
/-- Where the sum stands when the loop over the objects begins: those ahead of the next one from f on. -/
theorem overs_head {n : Nat} {L : List Ob} (h : Good n L) {f t : Int} :
    overs (L.take (nextO L f)) f t = if findO L f < L.length ∧ (L[findO L f]?.getD (0, 0)).1 < f ∧ f < t then min ((L[findO L f]?.getD (0, 0)).1 + (L[findO L f]?.getD (0, 0)).2 : Int) t - f else 0 := by
  by_cases hfi : findO L f < L.length
  · have hy := findO_yes hfi
    have hg : L[findO L f]?.getD (0, 0) = L[findO L f] := by rw [List.getElem?_eq_getElem hfi]; rfl
    rw [hg]
    by_cases hlt : (L[findO L f].1 : Int) < f
    · have hn : nextO L f = findO L f + 1 := nextO_eq (by omega) (fun i hi hij => by
        rcases Nat.lt_or_ge i (findO L f) with h1 | h1
        · have := h.at hi hfi h1; omega
        · have : i = findO L f := by omega
          subst this; omega) (fun h2 => by have := h.at hfi h2 (Nat.lt_succ_self _); omega)
      rw [hn, overs_take hfi, overs_zero (fun o ho => by
        obtain ⟨i, hi, hij, rfl⟩ := mem_take_lt ho
        have := h.at hi hfi hij; left; omega)]
      by_cases hft : f < t
      · rw [if_pos ⟨hfi, by omega, hft⟩]; unfold over; omega
      · rw [if_neg (by omega)]; unfold over; omega
    · rw [if_neg (by omega)]
      refine overs_zero (fun o ho => ?_)
      obtain ⟨i, hi, hij, rfl⟩ := mem_take_lt ho
      have h1 := nextO_no hij hi
      rcases Nat.lt_trichotomy i (findO L f) with h2 | rfl | h2
      · have := h.at hi hfi h2; left; omega
      · omega
      · have := h.at hfi hi h2; have := (h.sz _ (List.getElem_mem hfi)).1; omega
  · rw [if_neg (by omega)]
    refine overs_zero (fun o ho => ?_)
    obtain ⟨i, hi, hij, rfl⟩ := mem_take_lt ho
    have h1 := nextO_no hij hi
    have h2 := findO_no (L := L) (a := f) (i := i) (by omega) hi
    left; omega
/-- What lies behind is not of the run. -/
theorem overs_tail {n : Nat} {L : List Ob} (h : Good n L) {j : Nat} {f t : Int} (hj : ∀ hl : j < L.length, t ≤ (L[j].1 : Int)) : overs (L.drop j) f t = 0 := by
  refine overs_zero (fun o ho => ?_)
  obtain ⟨i, hi, hij, rfl⟩ := mem_drop_ge ho
  right
  have := hj (by omega)
  rcases Nat.lt_or_ge j i with h1 | h1
  · have := h.at (i := j) (by omega) hi h1; omega
  · have : i = j := by omega
    subst this; exact hj _
theorem overs_clip {n : Nat} {L : List Ob} (h : Good n L) (f t : Int) : overs L (max f 0) (min t n) = overs L f t := by
  unfold overs
  congr 1
  refine List.map_congr_left (fun o ho => ?_)
  have := h.sz o ho
  unfold over; omega

/-! The k-th live word -/
def sizes : List Ob → Nat
  | [] => 0
  | o :: r => o.2 + sizes r
def wordO : List Ob → Nat → Option Nat
  | [], _ => none
  | o :: r, k => if k < o.2 then some (o.1 + k) else wordO r (k - o.2)
def wordV (L : List Ob) (k : Int) : Int := if k < 0 then 0 else ((wordO L k.toNat).getD 0 : Nat)
def wordY (L : List Ob) (k : Int) : Bool := decide (0 ≤ k) && (wordO L k.toNat).isSome
theorem wordO_none {L : List Ob} : ∀ {k : Nat}, wordO L k = none ↔ sizes L ≤ k := by
  induction L with
  | nil => intro k; simp [wordO, sizes]
  | cons o r ih =>
    intro k
    unfold wordO sizes
    split
    · constructor
      · intro h; cases h
      · intro h; omega
    · rw [ih]; omega
theorem sizes_take {L : List Ob} {j : Nat} (hj : j < L.length) : sizes (L.take (j + 1)) = sizes (L.take j) + L[j].2 := by
  induction L generalizing j with
  | nil => simp at hj
  | cons o r ih =>
    cases j with
    | zero => simp [sizes]
    | succ j =>
      have := ih (j := j) (by simpa using hj)
      simp only [List.take_succ_cons, sizes, List.getElem_cons_succ] at this ⊢
      omega
theorem wordO_take {L : List Ob} {j i : Nat} (hj : j < L.length) (hi : i < L[j].2) : wordO L (sizes (L.take j) + i) = some (L[j].1 + i) := by
  induction L generalizing j with
  | nil => simp at hj
  | cons o r ih =>
    cases j with
    | zero =>
      have hi : i < o.2 := hi
      simp only [List.take_zero, sizes, Nat.zero_add, wordO, List.getElem_cons_zero]
      rw [if_pos hi]
    | succ j =>
      have := ih (j := j) (by simpa using hj) (by simpa using hi)
      simp only [List.take_succ_cons, sizes, List.getElem_cons_succ, wordO]
      rw [if_neg (by omega), show o.2 + sizes (List.take j r) + i - o.2 = sizes (List.take j r) + i by omega]
      exact this
theorem overs_all {n : Nat} {L : List Ob} (h : Good n L) : overs L 0 n = sizes L := by
  have key : ∀ (L : List Ob), (∀ o ∈ L, 1 ≤ o.2 ∧ o.1 + o.2 ≤ n) → overs L 0 n = sizes L := by
    intro L
    induction L with
    | nil => intro _; rfl
    | cons o r ih =>
      intro hs
      have h1 := ih (fun q hq => hs q (List.mem_cons_of_mem _ hq))
      have ho := hs o (List.mem_cons_self ..)
      have h2 : over o 0 n = o.2 := by unfold over; omega
      simp only [overs, List.map_cons, List.sum_cons, sizes] at h1 ⊢
      rw [h2]; omega
  exact key L h.sz
theorem overs_upto {n : Nat} {L : List Ob} (h : Good n L) {j i : Nat} (hj : j < L.length) (hi : i ≤ L[j].2) : overs L 0 ((L[j].1 : Int) + i) = sizes (L.take j) + i := by
  rw [overs_split L (j + 1), overs_tail h (j := j + 1) (fun hl => by have := h.at hj hl (Nat.lt_succ_self _); omega), overs_take hj]
  have hg : Good L[j].1 (L.take j) := ⟨h.pw.sublist (List.take_sublist ..), fun o ho => by
    obtain ⟨q, hq, hqj, rfl⟩ := mem_take_lt ho
    have := h.at hq hj hqj
    exact ⟨(h.sz _ (List.getElem_mem hq)).1, this⟩⟩
  have e : overs (L.take j) 0 ((L[j].1 : Int) + i) = overs (L.take j) 0 (L[j].1 : Nat) := by
    unfold overs
    congr 1
    refine List.map_congr_left (fun o ho => ?_)
    have := hg.sz o ho
    unfold over; omega
  rw [e, overs_all hg]
  unfold over; omega
theorem sizes_le {n : Nat} {L : List Ob} (h : Good n L) : sizes L ≤ n := by
  have h1 := overs_all h
  have h2 := liveN_eq h 0 n
  have h3 : liveN L n 0 n ≤ n := cnt_le _ _
  omega
end Go.Proofs.YtbmidhlilafgeaaGreatDoor
end

section
namespace Go.Proofs.YtbmidhlilafgeaaGreatDoor
open Word

def insO : List Ob → Ob → List Ob
  | [], o => [o]
  | q :: r, o => if o.1 < q.1 then o :: q :: r else q :: insO r o
theorem mem_insO {L : List Ob} {o x : Ob} : x ∈ insO L o ↔ x = o ∨ x ∈ L := by
  induction L with
  | nil => simp [insO]
  | cons q r ih =>
    unfold insO
    split
    · simp
    · simp only [List.mem_cons, ih]
      constructor
      · rintro (h | h | h) <;> simp [h]
      · rintro (h | h | h) <;> simp [h]
theorem insO_len (L : List Ob) (o : Ob) : (insO L o).length = L.length + 1 := by
  induction L with
  | nil => rfl
  | cons q r ih => unfold insO; split <;> simp [ih]
theorem insO_good {n : Nat} {L : List Ob} (h : Good n L) {o : Ob} (h1 : 1 ≤ o.2) (h2 : o.1 + o.2 ≤ n) (hd : ∀ q ∈ L, o.1 + o.2 ≤ q.1 ∨ q.1 + q.2 ≤ o.1) : Good n (insO L o) := by
  refine ⟨?_, fun x hx => ?_⟩
  · have key : ∀ (L : List Ob), L.Pairwise (fun o q => o.1 + o.2 ≤ q.1) → (∀ q ∈ L, 1 ≤ q.2) → (∀ q ∈ L, o.1 + o.2 ≤ q.1 ∨ q.1 + q.2 ≤ o.1) → (insO L o).Pairwise (fun o q => o.1 + o.2 ≤ q.1) := by
      intro L
      induction L with
      | nil => intro _ _ _; simp [insO]
      | cons q r ih =>
        intro hp hs hd
        obtain ⟨hp1, hp2⟩ := List.pairwise_cons.1 hp
        have hq := hd q (List.mem_cons_self ..)
        have hqs := hs q (List.mem_cons_self ..)
        unfold insO
        split
        · rename_i hlt
          refine List.pairwise_cons.2 ⟨fun x hx => ?_, hp⟩
          rcases List.mem_cons.1 hx with rfl | hx
          · omega
          · have := hp1 x hx; omega
        · rename_i hlt
          refine List.pairwise_cons.2 ⟨fun x hx => ?_, ih hp2 (fun x hx => hs x (List.mem_cons_of_mem _ hx)) (fun x hx => hd x (List.mem_cons_of_mem _ hx))⟩
          rcases mem_insO.1 hx with rfl | hx
          · omega
          · exact hp1 x hx
    exact key L h.pw (fun q hq => (h.sz q hq).1) hd
  · rcases mem_insO.1 hx with rfl | hx
    · exact ⟨h1, h2⟩
    · exact h.sz x hx
theorem bool_ext {a b : Bool} (h : a = true ↔ b = true) : a = b := Bool.eq_iff_iff.2 h
theorem at_set {l : List Bool} {k i : Nat} {x : Bool} (hk : k < l.length) : at_ (l.set k x) i = if i = k then x else at_ l i := getD_set l k i x hk
theorem starts_ins {n : Nat} {L : List Ob} (h : Good n L) {o : Ob} (h1 : 1 ≤ o.2) (h2 : o.1 + o.2 ≤ n) (hd : ∀ q ∈ L, o.1 + o.2 ≤ q.1 ∨ q.1 + q.2 ≤ o.1) : startsL n (insO L o) = (startsL n L).set o.1 true :=
  ext_at (by rw [List.length_set, startsL_len, startsL_len]) (fun i _ => by
    rw [at_set (by rw [startsL_len]; omega)]
    refine bool_ext ?_
    rw [at_starts (insO_good h h1 h2 hd)]
    split
    · rename_i e; subst e; exact ⟨fun _ => rfl, fun _ => ⟨o, mem_insO.2 (.inl rfl), rfl⟩⟩
    · rename_i e
      rw [at_starts h]
      constructor
      · rintro ⟨q, hq, rfl⟩
        rcases mem_insO.1 hq with rfl | hq
        · exact absurd rfl e
        · exact ⟨q, hq, rfl⟩
      · rintro ⟨q, hq, rfl⟩; exact ⟨q, mem_insO.2 (.inr hq), rfl⟩)
theorem ends_ins {n : Nat} {L : List Ob} (h : Good n L) {o : Ob} (h1 : 1 ≤ o.2) (h2 : o.1 + o.2 ≤ n) (hd : ∀ q ∈ L, o.1 + o.2 ≤ q.1 ∨ q.1 + q.2 ≤ o.1) : endsL n (insO L o) = (endsL n L).set (o.1 + o.2 - 1) true :=
  ext_at (by rw [List.length_set, endsL_len, endsL_len]) (fun i _ => by
    rw [at_set (by rw [endsL_len]; omega)]
    refine bool_ext ?_
    rw [at_ends (insO_good h h1 h2 hd)]
    split
    · rename_i e; subst e; exact ⟨fun _ => rfl, fun _ => ⟨o, mem_insO.2 (.inl rfl), by omega⟩⟩
    · rename_i e
      rw [at_ends h]
      constructor
      · rintro ⟨q, hq, e2⟩
        rcases mem_insO.1 hq with rfl | hq
        · omega
        · exact ⟨q, hq, e2⟩
      · rintro ⟨q, hq, e2⟩; exact ⟨q, mem_insO.2 (.inr hq), e2⟩)

/-- Is a word of a run live? -/
def clashB (L : List Ob) (s z : Int) : Bool := L.any fun o => decide ((o.1 : Int) < s + z ∧ s < o.1 + o.2)
theorem clash_iff {L : List Ob} {s z : Int} : clashB L s z = true ↔ ∃ o ∈ L, (o.1 : Int) < s + z ∧ s < o.1 + o.2 := by simp [clashB]
theorem clash_find {n : Nat} {L : List Ob} (h : Good n L) {s z : Int} (hz : 1 ≤ z) : clashB L s z = (decide (findO L s < L.length) || (decide (nextO L s < L.length) && decide (((L[nextO L s]?.getD (0, 0)).1 : Int) < s + z))) := by
  refine bool_ext ?_
  rw [clash_iff]
  simp only [Bool.or_eq_true, Bool.and_eq_true, decide_eq_true_eq]
  constructor
  · rintro ⟨o, ho, h1, h2⟩
    by_cases hs : (o.1 : Int) ≤ s
    · left
      obtain ⟨j, hj, rfl⟩ := List.getElem_of_mem ho
      rw [findO_eq h hj hs h2]; exact hj
    · right
      obtain ⟨j, hj, rfl⟩ := List.getElem_of_mem ho
      have hn : nextO L s ≤ j := by
        rcases Nat.lt_or_ge j (nextO L s) with hlt | hge
        · have := nextO_no hlt hj; omega
        · exact hge
      refine ⟨by omega, ?_⟩
      rw [List.getElem?_eq_getElem (by omega)]
      show (L[nextO L s].1 : Int) < s + z
      rcases Nat.lt_or_ge (nextO L s) j with hlt | hge
      · have := h.at (i := nextO L s) (by omega) hj hlt; omega
      · have e : L[nextO L s]'(by omega) = L[j] := by congr 1; omega
        rw [e]; exact h1
  · rintro (hf | ⟨hn, hl⟩)
    · have := findO_yes hf
      exact ⟨_, List.getElem_mem hf, by omega, by omega⟩
    · rw [List.getElem?_eq_getElem hn] at hl
      have hl : (L[nextO L s].1 : Int) < s + z := hl
      have hy := nextO_yes hn
      have := (h.sz _ (List.getElem_mem hn)).1
      exact ⟨_, List.getElem_mem hn, hl, by omega⟩
def addE (L : List Ob) (n : Nat) (s z : Int) : Int := if z < 1 then 15 else if s < 0 ∨ (n : Int) ≤ s ∨ (n : Int) - s < z then 11 else if clashB L s z then 7 else 0
def addL (L : List Ob) (n : Nat) (s z : Int) : List Ob := if addE L n s z = 0 then insO L (s.toNat, z.toNat) else L
theorem addE_zero {L : List Ob} {n : Nat} {s z : Int} (h : addE L n s z = 0) : 1 ≤ z ∧ 0 ≤ s ∧ s + z ≤ n ∧ clashB L s z = false := by
  unfold addE at h
  split at h
  · omega
  · split at h
    · omega
    · split at h
      · omega
      · rename_i h1 h2 h3
        refine ⟨by omega, by omega, by omega, by simpa using h3⟩
theorem add_apart {L : List Ob} {s z : Int} (hs : 0 ≤ s) (hz : 1 ≤ z) (h : clashB L s z = false) : ∀ q ∈ L, s.toNat + z.toNat ≤ q.1 ∨ q.1 + q.2 ≤ s.toNat := fun q hq => by
  by_cases hc : (q.1 : Int) < s + z ∧ s < q.1 + q.2
  · have := clash_iff.2 ⟨q, hq, hc⟩; rw [h] at this; cases this
  · omega
theorem addL_good {n : Nat} {L : List Ob} (h : Good n L) (s z : Int) : Good n (addL L n s z) := by
  unfold addL
  split
  · rename_i he
    obtain ⟨h1, h2, h3, h4⟩ := addE_zero he
    exact insO_good h (by show 1 ≤ z.toNat; omega) (by show s.toNat + z.toNat ≤ n; omega) (add_apart h2 h1 h4)
  · exact h

/-! Drop -/
def startO (L : List Ob) (s : Int) : Nat := L.findIdx fun o => decide ((o.1 : Int) = s)
def dropL (L : List Ob) (s : Int) : List Ob := L.filter fun o => decide ((o.1 : Int) ≠ s)
def dropV (L : List Ob) (s : Int) : Int := if h : startO L s < L.length then (L[startO L s].2 : Nat) else 0
theorem startO_yes {L : List Ob} {s : Int} (h : startO L s < L.length) : ((L[startO L s]'h).1 : Int) = s := by
  have := List.findIdx_getElem (p := fun o : Ob => decide ((o.1 : Int) = s)) (w := h)
  simp only [decide_eq_true_eq] at this
  exact this
theorem startO_no {L : List Ob} {s : Int} (h : ¬ startO L s < L.length) : ∀ o ∈ L, (o.1 : Int) ≠ s := fun o ho e => by
  obtain ⟨i, hi, rfl⟩ := List.getElem_of_mem ho
  have := List.not_of_lt_findIdx (p := fun o : Ob => decide ((o.1 : Int) = s)) (xs := L) (i := i) (by unfold startO at h; omega)
  simp at this; exact this e
theorem dropL_good {n : Nat} {L : List Ob} (h : Good n L) (s : Int) : Good n (dropL L s) := ⟨h.pw.sublist List.filter_sublist, fun o ho => h.sz o (List.mem_filter.1 ho).1⟩
theorem dropL_none {L : List Ob} {s : Int} (h : ¬ startO L s < L.length) : dropL L s = L := List.filter_eq_self.2 (fun o ho => by have := startO_no h o ho; simpa using this)
theorem Good.inj {n : Nat} {L : List Ob} (h : Good n L) {o q : Ob} (ho : o ∈ L) (hq : q ∈ L) (he : o.1 = q.1) : o = q := by
  have h1 := h.sz o ho
  have h2 := h.sz q hq
  rcases h.disj ho hq with e | e | e
  · exact e
  · omega
  · omega
theorem starts_drop {n : Nat} {L : List Ob} (h : Good n L) {s : Int} (hs : startO L s < L.length) : startsL n (dropL L s) = (startsL n L).set L[startO L s].1 false :=
  ext_at (by rw [List.length_set, startsL_len, startsL_len]) (fun i _ => by
    have hy := startO_yes hs
    have hz := h.sz _ (List.getElem_mem hs)
    rw [at_set (by rw [startsL_len]; omega)]
    refine bool_ext ?_
    rw [at_starts (dropL_good h s)]
    split
    · rename_i e
      constructor
      · rintro ⟨q, hq, e2⟩
        have := (List.mem_filter.1 hq).2
        simp only [ne_eq, decide_not, Bool.not_eq_true', decide_eq_false_iff_not] at this
        omega
      · intro h; cases h
    · rename_i e
      rw [at_starts h]
      constructor
      · rintro ⟨q, hq, e2⟩; exact ⟨q, (List.mem_filter.1 hq).1, e2⟩
      · rintro ⟨q, hq, e2⟩; exact ⟨q, List.mem_filter.2 ⟨hq, by simp; omega⟩, e2⟩)
theorem ends_drop {n : Nat} {L : List Ob} (h : Good n L) {s : Int} (hs : startO L s < L.length) : endsL n (dropL L s) = (endsL n L).set (L[startO L s].1 + L[startO L s].2 - 1) false :=
  ext_at (by rw [List.length_set, endsL_len, endsL_len]) (fun i _ => by
    have hy := startO_yes hs
    have hm := List.getElem_mem hs
    have hz := h.sz _ hm
    rw [at_set (by rw [endsL_len]; omega)]
    refine bool_ext ?_
    rw [at_ends (dropL_good h s)]
    split
    · rename_i e
      constructor
      · rintro ⟨q, hq, e2⟩
        obtain ⟨hq1, hq2⟩ := List.mem_filter.1 hq
        have hqz := h.sz q hq1
        simp only [ne_eq, decide_not, Bool.not_eq_true', decide_eq_false_iff_not] at hq2
        rcases h.disj hm hq1 with e3 | e3 | e3
        · rw [← e3] at hq2; exact absurd hy hq2
        · omega
        · omega
      · intro h; cases h
    · rename_i e
      rw [at_ends h]
      constructor
      · rintro ⟨q, hq, e2⟩; exact ⟨q, (List.mem_filter.1 hq).1, e2⟩
      · rintro ⟨q, hq, e2⟩
        refine ⟨q, List.mem_filter.2 ⟨hq, ?_⟩, e2⟩
        simp only [ne_eq, decide_not, Bool.not_eq_true', decide_eq_false_iff_not]
        intro e3
        have := h.inj hm hq (by omega)
        rw [← this] at e2; omega)
theorem dropL_len {n : Nat} {L : List Ob} (h : Good n L) {s : Int} (hs : startO L s < L.length) : (dropL L s).length + 1 = L.length := by
  have key : ∀ (L : List Ob), L.Pairwise (fun o q => o.1 + o.2 ≤ q.1) → (∀ o ∈ L, 1 ≤ o.2) → (∃ o ∈ L, (o.1 : Int) = s) → (dropL L s).length + 1 = L.length := by
    intro L
    induction L with
    | nil => rintro _ _ ⟨o, ho, _⟩; cases ho
    | cons q r ih =>
      rintro hp hz ⟨o, ho, he⟩
      obtain ⟨h1, h2⟩ := List.pairwise_cons.1 hp
      have hqz := hz q (List.mem_cons_self ..)
      by_cases hq : (q.1 : Int) = s
      · have e : dropL (q :: r) s = r := by
          unfold dropL
          rw [List.filter_cons_of_neg (by simpa using hq)]
          exact List.filter_eq_self.2 (fun x hx => by have := h1 x hx; simp; omega)
        rw [e]; rfl
      · have e : dropL (q :: r) s = q :: dropL r s := by unfold dropL; rw [List.filter_cons_of_pos (by simpa using hq)]
        rw [e]
        have hor : o ∈ r := by
          rcases List.mem_cons.1 ho with rfl | h
          · exact absurd he hq
          · exact h
        have := ih h2 (fun x hx => hz x (List.mem_cons_of_mem _ hx)) ⟨o, hor, he⟩
        simp only [List.length_cons]; omega
  exact key L h.pw (fun o ho => (h.sz o ho).1) ⟨_, List.getElem_mem hs, startO_yes hs⟩
theorem starts_nil (n : Nat) : startsL n [] = List.replicate n false := by unfold startsL; exact ext_at (by simp) (fun i hi => by rw [at_map_range]; simp [at_, List.getD_eq_getElem?_getD, List.getElem?_replicate]; split <;> rfl)
theorem ends_nil (n : Nat) : endsL n [] = List.replicate n false := by unfold endsL; exact ext_at (by simp) (fun i hi => by rw [at_map_range]; simp [at_, List.getD_eq_getElem?_getD, List.getElem?_replicate]; split <;> rfl)
end Go.Proofs.YtbmidhlilafgeaaGreatDoor
end
