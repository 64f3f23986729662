/- Objects in an address space: a list of starts and sizes, by rising start. Plain facts. -/
import Derived.Test.YtlbbkpjfoabobaaDoorBools
namespace Go.Proofs.YtlbbkpjfoabobaaDoor
open Word

/-- An object: its start, its size. -/
abbrev Ob := Nat × Nat
/-- Objects within n words, by rising start, none over another. -/
structure Good (n : Nat) (L : List Ob) : Prop where
  pw : L.Pairwise (fun o q => o.1 + o.2 ≤ q.1)
  sz : ∀ o ∈ L, 1 ≤ o.2 ∧ o.1 + o.2 ≤ n
theorem Good.nil (n : Nat) : Good n [] := ⟨List.Pairwise.nil, fun _ h => by cases h⟩
theorem Good.at {n : Nat} {L : List Ob} (h : Good n L) {i j : Nat} (hi : i < L.length) (hj : j < L.length) (hij : i < j) : L[i].1 + L[i].2 ≤ L[j].1 := List.pairwise_iff_getElem.1 h.pw i j hi hj hij
theorem Good.disj {n : Nat} {L : List Ob} (h : Good n L) {o q : Ob} (ho : o ∈ L) (hq : q ∈ L) : o = q ∨ o.1 + o.2 ≤ q.1 ∨ q.1 + q.2 ≤ o.1 := by
  obtain ⟨i, hi, rfl⟩ := List.getElem_of_mem ho
  obtain ⟨j, hj, rfl⟩ := List.getElem_of_mem hq
  rcases Nat.lt_trichotomy i j with hij | rfl | hij
  · exact .inr (.inl (h.at hi hj hij))
  · exact .inl rfl
  · exact .inr (.inr (h.at hj hi hij))
theorem Good.len {n : Nat} : ∀ {L : List Ob}, Good n L → L.length ≤ n := by
  intro L h
  have key : ∀ (L : List Ob), L.Pairwise (fun o q => o.1 + o.2 ≤ q.1) → (∀ o ∈ L, 1 ≤ o.2 ∧ o.1 + o.2 ≤ n) → ∀ a, a ≤ n → (∀ o ∈ L, a ≤ o.1) → a + L.length ≤ n := by
    intro L
    induction L with
    | nil => intro _ _ a ha _; simpa using ha
    | cons o r ih =>
      intro hp hs a ha hl
      obtain ⟨h1, h2⟩ := List.pairwise_cons.1 hp
      have ho := hs o (List.mem_cons_self ..)
      have := ih h2 (fun q hq => hs q (List.mem_cons_of_mem _ hq)) (o.1 + o.2) ho.2 (fun q hq => h1 q hq)
      have := hl o (List.mem_cons_self ..)
      simp only [List.length_cons]; omega
  have := key L h.pw h.sz 0 (Nat.zero_le _) (fun _ _ => Nat.zero_le _)
  omega

/-! The bits of a map -/
def startsL (n : Nat) (L : List Ob) : List Bool := (List.range n).map fun i => L.any fun o => o.1 == i
def endsL (n : Nat) (L : List Ob) : List Bool := (List.range n).map fun i => L.any fun o => o.1 + o.2 == i + 1
theorem startsL_len (n : Nat) (L : List Ob) : (startsL n L).length = n := by simp [startsL]
theorem endsL_len (n : Nat) (L : List Ob) : (endsL n L).length = n := by simp [endsL]
theorem at_map_range (f : Nat → Bool) (n i : Nat) : at_ ((List.range n).map f) i = (decide (i < n) && f i) := by
  unfold at_
  rw [List.getD_eq_getElem?_getD, List.getElem?_map]
  by_cases h : i < n
  · rw [List.getElem?_range h, decide_eq_true h]; rfl
  · rw [List.getElem?_eq_none (by simpa using h), decide_eq_false h]; rfl
theorem at_starts {n : Nat} {L : List Ob} (h : Good n L) (i : Nat) : at_ (startsL n L) i = true ↔ ∃ o ∈ L, o.1 = i := by
  unfold startsL
  rw [at_map_range]
  simp only [Bool.and_eq_true, decide_eq_true_eq, List.any_eq_true, beq_iff_eq]
  constructor
  · rintro ⟨_, h⟩; exact h
  · rintro ⟨o, ho, rfl⟩; have := h.sz o ho; exact ⟨by omega, o, ho, rfl⟩
theorem at_ends {n : Nat} {L : List Ob} (h : Good n L) (i : Nat) : at_ (endsL n L) i = true ↔ ∃ o ∈ L, o.1 + o.2 = i + 1 := by
  unfold endsL
  rw [at_map_range]
  simp only [Bool.and_eq_true, decide_eq_true_eq, List.any_eq_true, beq_iff_eq]
  constructor
  · rintro ⟨_, h⟩; exact h
  · rintro ⟨o, ho, e⟩; have := h.sz o ho; exact ⟨by omega, o, ho, e⟩
/-- The end of an object is the first one from its start on. -/
theorem next_end {n : Nat} {L : List Ob} (h : Good n L) {o : Ob} (ho : o ∈ L) : nextL (endsL n L) (o.1 : Int) = o.1 + o.2 - 1 ∧ o.1 + o.2 - 1 < (endsL n L).length := by
  have hs := h.sz o ho
  have := nextL_at (l := endsL n L) (a := (o.1 : Int)) (k := o.1 + o.2 - 1) (fun i hi hc => by
    obtain ⟨q, hq, e⟩ := (at_ends h i).1 hc.1
    have hqs := h.sz q hq
    have hc2 := hc.2
    rcases h.disj ho hq with rfl | hd | hd <;> omega) ((at_ends h _).2 ⟨o, ho, by omega⟩) (by omega)
  exact ⟨this.1, by rw [endsL_len]; omega⟩

/-! The next object -/
def nextO (L : List Ob) (a : Int) : Nat := L.findIdx fun o => decide (a ≤ o.1)
theorem nextO_le (L : List Ob) (a : Int) : nextO L a ≤ L.length := List.findIdx_le_length
theorem nextO_no {L : List Ob} {a : Int} {i : Nat} (h : i < nextO L a) (hi : i < L.length) : (L[i].1 : Int) < a := by
  have := List.not_of_lt_findIdx h
  simp at this; omega
theorem nextO_yes {L : List Ob} {a : Int} (h : nextO L a < L.length) : a ≤ (L[nextO L a]'h).1 := by
  have := List.findIdx_getElem (p := fun o : Ob => decide (a ≤ (o.1 : Int))) (w := h)
  simp only [decide_eq_true_eq] at this
  exact this
theorem nextO_eq {L : List Ob} {a : Int} {j : Nat} (hj : j ≤ L.length) (hn : ∀ i (hi : i < L.length), i < j → (L[i].1 : Int) < a) (hy : ∀ h : j < L.length, a ≤ (L[j].1 : Int)) : nextO L a = j := by
  rcases Nat.lt_trichotomy (nextO L a) j with h | h | h
  · have h1 := nextO_yes (L := L) (a := a) (by omega)
    have h2 := hn _ (by omega) h
    omega
  · exact h
  · have hlt : j < L.length := by have := nextO_le L a; omega
    have h1 := nextO_no h hlt
    have h2 := hy hlt
    omega
/-- The next start from an address on. -/
theorem next_start_yes {n : Nat} {L : List Ob} (h : Good n L) {a : Int} (hj : nextO L a < L.length) : nextL (startsL n L) a = (L[nextO L a]).1 ∧ nextL (startsL n L) a < (startsL n L).length := by
  have hy := nextO_yes hj
  refine nextL_at (fun i hi hc => ?_) ((at_starts h _).2 ⟨_, List.getElem_mem hj, rfl⟩) (by omega)
  obtain ⟨q, hq, e⟩ := (at_starts h i).1 hc.1
  obtain ⟨k, hk, rfl⟩ := List.getElem_of_mem hq
  rcases Nat.lt_trichotomy k (nextO L a) with hlt | rfl | hlt
  · have := nextO_no hlt hk; omega
  · omega
  · have := h.at hj hk hlt; omega
theorem next_start_no {n : Nat} {L : List Ob} (h : Good n L) {a : Int} (hj : ¬ nextO L a < L.length) : nextL (startsL n L) a = (startsL n L).length := by
  refine nextL_end (fun i hi hc => ?_)
  obtain ⟨q, hq, e⟩ := (at_starts h i).1 hc.1
  obtain ⟨k, hk, rfl⟩ := List.getElem_of_mem hq
  have := nextO_no (L := L) (a := a) (i := k) (by omega) hk
  omega
theorem next_after_ob {n : Nat} {L : List Ob} (h : Good n L) {j : Nat} (hj : j < L.length) : nextO L ((L[j].1 : Int) + (L[j].2 : Int)) = j + 1 := by
  refine nextO_eq (by omega) (fun i hi hij => ?_) (fun h2 => ?_)
  · have hs := h.sz _ (List.getElem_mem hj)
    rcases Nat.lt_or_ge i j with h1 | h1
    · have := h.at hi hj h1; have := h.sz _ (List.getElem_mem hi); omega
    · have : i = j := by omega
      subst this; omega
  · have := h.at hj h2 (Nat.lt_succ_self j); omega

/-! The object that has an address -/
def hasO (a : Int) (o : Ob) : Bool := decide ((o.1 : Int) ≤ a ∧ a < o.1 + o.2)
def findO (L : List Ob) (a : Int) : Nat := L.findIdx (hasO a)
theorem findO_le (L : List Ob) (a : Int) : findO L a ≤ L.length := List.findIdx_le_length
theorem findO_yes {L : List Ob} {a : Int} (h : findO L a < L.length) : ((L[findO L a]'h).1 : Int) ≤ a ∧ a < (L[findO L a]'h).1 + (L[findO L a]'h).2 := by
  have := List.findIdx_getElem (p := hasO a) (w := h)
  simp only [hasO, decide_eq_true_eq] at this
  exact this
theorem findO_no {L : List Ob} {a : Int} {i : Nat} (h : i < findO L a) (hi : i < L.length) : ¬ ((L[i].1 : Int) ≤ a ∧ a < L[i].1 + L[i].2) := by
  have := List.not_of_lt_findIdx h
  simpa [hasO] using this
theorem findO_eq {n : Nat} {L : List Ob} (h : Good n L) {a : Int} {j : Nat} (hj : j < L.length) (h1 : (L[j].1 : Int) ≤ a) (h2 : a < L[j].1 + L[j].2) : findO L a = j := by
  rcases Nat.lt_trichotomy (findO L a) j with hlt | he | hlt
  · have hy := findO_yes (L := L) (a := a) (by omega)
    have := h.at (i := findO L a) (by omega) hj hlt
    omega
  · exact he
  · exact absurd ⟨h1, h2⟩ (findO_no hlt hj)
theorem findO_none {L : List Ob} {a : Int} (h : ∀ o ∈ L, ¬ ((o.1 : Int) ≤ a ∧ a < o.1 + o.2)) : findO L a = L.length := by
  rcases Nat.lt_or_ge (findO L a) L.length with h1 | h1
  · exact absurd (findO_yes h1) (h _ (List.getElem_mem h1))
  · have := findO_le L a; omega
/-- The last object that starts at or below an address. -/
theorem last_of {n : Nat} {L : List Ob} (h : Good n L) (a : Int) : (lastL (startsL n L) (a + 1) = -1 ∧ ∀ o ∈ L, a < (o.1 : Int)) ∨ ∃ j, ∃ hj : j < L.length, lastL (startsL n L) (a + 1) = (L[j].1 : Int) ∧ (L[j].1 : Int) ≤ a ∧ ∀ i (hi : i < L.length), j < i → a < (L[i].1 : Int) := by
  have hx := nextO_le L (a + 1)
  rcases Nat.eq_zero_or_pos (nextO L (a + 1)) with h0 | h0
  · left
    have hall : ∀ o ∈ L, a < (o.1 : Int) := fun o ho => by
      obtain ⟨k, hk, rfl⟩ := List.getElem_of_mem ho
      have hy := nextO_yes (L := L) (a := a + 1) (by omega)
      rcases Nat.eq_zero_or_pos k with rfl | hk0
      · have e : L[nextO L (a + 1)]'(by omega) = L[0] := by congr 1
        rw [e] at hy; omega
      · have := h.at (i := 0) (j := k) (by omega) hk hk0
        have e : L[nextO L (a + 1)]'(by omega) = L[0]'(by omega) := by congr 1
        rw [e] at hy; omega
    refine ⟨lastL_end (fun i hc => ?_), hall⟩
    obtain ⟨q, hq, e⟩ := (at_starts h i).1 hc.1
    have := hall q hq; omega
  · right
    obtain ⟨j, hj⟩ : ∃ j, nextO L (a + 1) = j + 1 := ⟨nextO L (a + 1) - 1, by omega⟩
    have hjl : j < L.length := by omega
    have h1 := nextO_no (L := L) (a := a + 1) (i := j) (by omega) hjl
    have hall : ∀ i (hi : i < L.length), j < i → a < (L[i].1 : Int) := fun i hi hij => by
      have hy := nextO_yes (L := L) (a := a + 1) (by omega)
      rcases Nat.lt_or_ge (nextO L (a + 1)) i with h2 | h2
      · have := h.at (i := nextO L (a + 1)) (by omega) hi h2; omega
      · have e : L[nextO L (a + 1)]'(by omega) = L[i] := by congr 1; omega
        rw [e] at hy; omega
    refine ⟨j, hjl, lastL_at (fun i hij hc => ?_) ((at_starts h _).2 ⟨_, List.getElem_mem hjl, rfl⟩) (by omega), by omega, hall⟩
    obtain ⟨q, hq, e⟩ := (at_starts h i).1 hc.1
    obtain ⟨k, hk, rfl⟩ := List.getElem_of_mem hq
    rcases Nat.lt_trichotomy k j with hlt | rfl | hlt
    · have := h.at hk hjl hlt; omega
    · omega
    · have := hall k hk hlt; omega
end Go.Proofs.YtlbbkpjfoabobaaDoor
