/- Plain facts of layer 23: the pieces of a run of words. -/
namespace Go.Proofs.YtlkifhoedfjlaaaDoor

/-- A piece: from where, to where, how many words. -/
structure Pc where
  f : Int
  t : Int
  s : Nat
  deriving DecidableEq, Inhabited
/-- One more word, that comes from x and goes to y. -/
def pcStep : List Pc → Int → Int → List Pc
  | [], x, y => [⟨x, y, 1⟩]
  | [p], x, y => if p.f + p.s = x then [⟨p.f, p.t, p.s + 1⟩] else [p, ⟨x, y, 1⟩]
  | p :: q :: r, x, y => p :: pcStep (q :: r) x y
theorem pcStep_new {P : List Pc} {x y : Int} (h : ∀ p, P.getLast? = some p → p.f + p.s ≠ x) : pcStep P x y = P ++ [⟨x, y, 1⟩] := by
  induction P with
  | nil => rfl
  | cons p r ih =>
    cases r with
    | nil => unfold pcStep; rw [if_neg (h p rfl)]; rfl
    | cons q r => unfold pcStep; rw [ih (fun p hp => h p (by rw [← hp]; rfl))]; rfl
theorem pcStep_more {P : List Pc} {p : Pc} {x y : Int} (h : p.f + p.s = x) : pcStep (P ++ [p]) x y = P ++ [⟨p.f, p.t, p.s + 1⟩] := by
  induction P with
  | nil => simp [pcStep, h]
  | cons q r ih =>
    cases r with
    | nil => simp only [List.cons_append, List.nil_append, pcStep] at ih ⊢; rw [if_pos h]
    | cons s r => simp only [List.cons_append, pcStep] at ih ⊢; rw [ih]
/-- The pieces of k words from a place on; g tells from where each word comes. -/
def pcs (g : Int → Int) (at_ : Int) : Nat → List Pc
  | 0 => []
  | k + 1 => pcStep (pcs g at_ k) (g (at_ + k)) (at_ + k)
/-- What holds of all pieces of a run. -/
structure Runs (g : Int → Int) (a : Int) (k : Nat) (P : List Pc) : Prop where
  pos : ∀ p ∈ P, 1 ≤ p.s
  word : ∀ p ∈ P, ∀ i : Nat, i < p.s → g (p.t + i) = p.f + i
  first : ∀ h : 0 < P.length, P[0].t = a
  next : ∀ i (h : i + 1 < P.length), P[i + 1].t = P[i].t + P[i].s ∧ P[i].f + P[i].s ≠ P[i + 1].f
  last : ∀ p, P.getLast? = some p → p.t + p.s = a + k
  none : P = [] → k = 0
theorem snoc_of {α : Type} {P : List α} (h : P ≠ []) : ∃ Q p, P = Q ++ [p] := ⟨P.dropLast, P.getLast h, (List.dropLast_concat_getLast h).symm⟩
theorem pcs_runs (g : Int → Int) (a : Int) (k : Nat) : Runs g a k (pcs g a k) := by
  induction k with
  | zero => exact ⟨fun p h => (by cases h), fun p h => (by cases h), fun h => absurd h (by simp [pcs]), fun i h => absurd h (by simp [pcs]), fun p h => (by simp [pcs] at h), fun _ => rfl⟩
  | succ k ih =>
    unfold pcs
    generalize pcs g a k = P at ih
    by_cases hP : P = []
    · subst hP
      obtain rfl := ih.none rfl
      refine ⟨fun p h => ?_, fun p h i hi => ?_, fun h => by simp [pcStep], fun i h => absurd h (by simp [pcStep]), fun p h => ?_, fun h => by simp [pcStep] at h⟩
      · simp [pcStep] at h; subst h; exact Nat.le_refl 1
      · simp [pcStep] at h; subst h
        have hi : i < 1 := hi
        obtain rfl : i = 0 := by omega
        simp
      · simp [pcStep] at h; subst h; simp
    · obtain ⟨Q, p, rfl⟩ := snoc_of hP
      have hl := ih.last p (by simp)
      have hps := ih.pos p (by simp)
      by_cases hx : p.f + p.s = g (a + k)
      · rw [pcStep_more hx]
        refine ⟨fun q h => ?_, fun q h i hi => ?_, fun h => ?_, fun i h => ?_, fun q h => ?_, fun h => by simp at h⟩
        · rcases List.mem_append.1 h with h | h
          · exact ih.pos q (List.mem_append_left _ h)
          · rw [List.mem_singleton.1 h]; exact Nat.le_add_left ..
        · rcases List.mem_append.1 h with h | h
          · exact ih.word q (List.mem_append_left _ h) i hi
          · rw [List.mem_singleton.1 h] at hi ⊢
            have hi : i < p.s + 1 := hi
            show g (p.t + i) = p.f + i
            rcases Nat.lt_or_ge i p.s with h1 | h1
            · exact ih.word p (by simp) i h1
            · obtain rfl : i = p.s := by omega
              rw [hl, hx]
        · have := ih.first (by simp)
          cases Q with
          | nil => simpa using this
          | cons q r => simpa using this
        · have hlen : i + 1 < (Q ++ [p]).length := by simpa using h
          have := ih.next i hlen
          have h' : i + 1 < Q.length + 1 := by simpa using h
          rcases Nat.lt_or_ge (i + 1) Q.length with h1 | h1
          · rw [List.getElem_append_left h1, List.getElem_append_left (by omega)] at this ⊢; exact this
          · obtain h2 : i + 1 = Q.length := by omega
            rw [List.getElem_append_right (by omega), List.getElem_append_left (by omega)] at this ⊢
            simpa [h2] using this
        · simp at h; subst h; show p.t + ((p.s + 1 : Nat) : Int) = _; push_cast; omega
      · rw [pcStep_new (fun q h => by simp at h; subst h; exact hx)]
        refine ⟨fun q h => ?_, fun q h i hi => ?_, fun h => ?_, fun i h => ?_, fun q h => ?_, fun h => by simp at h⟩
        · rcases List.mem_append.1 h with h | h
          · exact ih.pos q h
          · rw [List.mem_singleton.1 h]; exact Nat.le_refl 1
        · rcases List.mem_append.1 h with h | h
          · exact ih.word q h i hi
          · rw [List.mem_singleton.1 h] at hi ⊢
            have hi : i < 1 := hi
            obtain rfl : i = 0 := by omega
            simp
        · have := ih.first (by simp)
          rw [List.getElem_append_left (by simp)]; exact this
        · have h' : i + 1 < (Q ++ [p]).length + 1 := by simpa using h
          rcases Nat.lt_or_ge (i + 1) (Q ++ [p]).length with h1 | h1
          · have := ih.next i h1
            have h4 : i < (Q ++ [p]).length := Nat.lt_of_succ_lt h1
            rw [List.getElem_append_left h1, List.getElem_append_left h4]; exact this
          · have h2 : i + 1 = (Q ++ [p]).length := by omega
            have h3 : i = Q.length := by simp at h2; omega
            rw [List.getElem_append_right (by omega), List.getElem_append_left (by omega)]
            subst h3
            simp only [h2, Nat.sub_self, List.getElem_singleton, List.getElem_append_right (Nat.le_refl _)]
            exact ⟨hl.symm, hx⟩
        · simp at h; subst h; push_cast; omega
theorem pcs_len (g : Int → Int) (a : Int) (k : Nat) : (pcs g a k).length ≤ k := by
  induction k with
  | zero => exact Nat.le_refl _
  | succ k ih =>
    unfold pcs
    generalize pcs g a k = P at ih
    by_cases hP : P = []
    · subst hP; simp [pcStep]
    · obtain ⟨Q, p, rfl⟩ := snoc_of hP
      by_cases hx : p.f + p.s = g (a + k)
      · rw [pcStep_more hx]; simp at ih ⊢; omega
      · rw [pcStep_new (fun q h => by simp at h; subst h; exact hx)]; simp at ih ⊢; omega
/-- n words side by side, behind pieces that they do not go on. -/
theorem pcs_run {g : Int → Int} {a : Int} {k : Nat} {P : List Pc} (hP : pcs g a k = P) (hn : ∀ p, P.getLast? = some p → p.f + p.s ≠ g (a + k)) {n : Nat} (h1 : 1 ≤ n) (hw : ∀ i, i < n → g (a + k + i) = g (a + k) + i) :
    pcs g a (k + n) = P ++ [⟨g (a + k), a + k, n⟩] := by
  induction n with
  | zero => omega
  | succ n ih =>
    by_cases h0 : n = 0
    · subst h0
      show pcStep (pcs g a k) (g (a + k)) (a + k) = _
      rw [hP, pcStep_new hn]
    · have := ih (by omega) (fun i hi => hw i (by omega))
      show pcStep (pcs g a (k + n)) (g (a + (k + n : Nat))) (a + (k + n : Nat)) = _
      have e : a + ((k + n : Nat) : Int) = a + k + n := by push_cast; omega
      rw [this, e, hw n (by omega), pcStep_more (p := ⟨g (a + k), a + k, n⟩) rfl]
theorem pcs_size (g : Int → Int) (a : Int) (k : Nat) : ∀ p ∈ pcs g a k, p.s ≤ k := by
  induction k with
  | zero => intro p h; cases h
  | succ k ih =>
    unfold pcs
    generalize pcs g a k = P at ih
    by_cases hP : P = []
    · subst hP; intro p h; simp [pcStep] at h; subst h; exact Nat.le_add_left 1 k
    · obtain ⟨Q, q, rfl⟩ := snoc_of hP
      have hq := ih q (by simp)
      by_cases hx : q.f + q.s = g (a + k)
      · rw [pcStep_more hx]
        intro p h
        rcases List.mem_append.1 h with h | h
        · have := ih p (List.mem_append_left _ h); omega
        · rw [List.mem_singleton.1 h]; exact Nat.add_le_add_right hq 1
      · rw [pcStep_new (fun q h => by simp at h; subst h; exact hx)]
        intro p h
        rcases List.mem_append.1 h with h | h
        · have := ih p h; omega
        · rw [List.mem_singleton.1 h]; exact Nat.le_add_left 1 k
theorem Runs.ends {g : Int → Int} {a : Int} {k : Nat} {P : List Pc} (h : Runs g a k P) : ∀ (d i : Nat) (hi : i < P.length), P.length - i = d → P[i].t + P[i].s ≤ a + k ∧ a ≤ P[i].t := by
  have lo : ∀ i (hi : i < P.length), a ≤ P[i].t := by
    intro i
    induction i with
    | zero => intro hi; rw [h.first hi]; exact Int.le_refl _
    | succ i ih =>
      intro hi
      have := (h.next i hi).1
      have := ih (by omega)
      omega
  intro d
  induction d with
  | zero => intro i hi hd; omega
  | succ d ih =>
    intro i hi hd
    refine ⟨?_, lo i hi⟩
    by_cases hl : i + 1 < P.length
    · have h1 := (h.next i hl).1
      have h2 := (ih (i + 1) hl (by omega)).1
      omega
    · have hne : P ≠ [] := fun e => by subst e; simp at hi
      have := h.last (P[i]) (by rw [List.getLast?_eq_getElem?]; rw [show P.length - 1 = i by omega, List.getElem?_eq_getElem hi])
      omega
/-- Where the i-th piece goes to; behind the last one: where the run ends. -/
def toAt (P : List Pc) (z : Int) (i : Nat) : Int := if h : i < P.length then P[i].t else z
theorem toAt_in {P : List Pc} {z : Int} {i : Nat} (h : i < P.length) : toAt P z i = P[i].t := by unfold toAt; rw [dif_pos h]
theorem toAt_end (P : List Pc) (z : Int) : toAt P z P.length = z := by unfold toAt; rw [dif_neg (Nat.lt_irrefl _)]
theorem toAt_zero {g : Int → Int} {a : Int} {k : Nat} {P : List Pc} (h : Runs g a k P) (hk : 1 ≤ k) : toAt P (a + k) 0 = a := by
  by_cases hP : P = []
  · have := h.none hP; omega
  · have hl : 0 < P.length := List.length_pos_iff.2 hP
    rw [toAt_in hl, h.first hl]
theorem toAt_next {g : Int → Int} {a : Int} {k : Nat} {P : List Pc} (h : Runs g a k P) {i : Nat} (hi : i < P.length) : toAt P (a + k) (i + 1) = P[i].t + P[i].s := by
  by_cases hl : i + 1 < P.length
  · rw [toAt_in hl, (h.next i hl).1]
  · have hx := h.last (P[i]) (by rw [List.getLast?_eq_getElem?]; rw [show P.length - 1 = i by omega, List.getElem?_eq_getElem hi])
    unfold toAt
    rw [dif_neg hl, hx]
end Go.Proofs.YtlkifhoedfjlaaaDoor
