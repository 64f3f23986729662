/- Objects come and go. Plain facts. -/
import Derived.Test.YtlbbkpjfoabobaaDoorObjB
namespace Go.Proofs.YtlbbkpjfoabobaaDoor
open Word

def insO : List Ob → Ob → List Ob
  | [], o => [o]
  | q :: r, o => if o.1 < q.1 then o :: q :: r else q :: insO r o
theorem mem_insO {L : List Ob} {o x : Ob} : x ∈ insO L o ↔ x = o ∨ x ∈ L := by
  induction L with
  | nil => simp [insO]
  | cons q r ih =>
    unfold insO
    split
    · simp
    · simp only [List.mem_cons, ih]
      constructor
      · rintro (h | h | h) <;> simp [h]
      · rintro (h | h | h) <;> simp [h]
theorem insO_len (L : List Ob) (o : Ob) : (insO L o).length = L.length + 1 := by
  induction L with
  | nil => rfl
  | cons q r ih => unfold insO; split <;> simp [ih]
theorem insO_good {n : Nat} {L : List Ob} (h : Good n L) {o : Ob} (h1 : 1 ≤ o.2) (h2 : o.1 + o.2 ≤ n) (hd : ∀ q ∈ L, o.1 + o.2 ≤ q.1 ∨ q.1 + q.2 ≤ o.1) : Good n (insO L o) := by
  refine ⟨?_, fun x hx => ?_⟩
  · have key : ∀ (L : List Ob), L.Pairwise (fun o q => o.1 + o.2 ≤ q.1) → (∀ q ∈ L, 1 ≤ q.2) → (∀ q ∈ L, o.1 + o.2 ≤ q.1 ∨ q.1 + q.2 ≤ o.1) → (insO L o).Pairwise (fun o q => o.1 + o.2 ≤ q.1) := by
      intro L
      induction L with
      | nil => intro _ _ _; simp [insO]
      | cons q r ih =>
        intro hp hs hd
        obtain ⟨hp1, hp2⟩ := List.pairwise_cons.1 hp
        have hq := hd q (List.mem_cons_self ..)
        have hqs := hs q (List.mem_cons_self ..)
        unfold insO
        split
        · rename_i hlt
          refine List.pairwise_cons.2 ⟨fun x hx => ?_, hp⟩
          rcases List.mem_cons.1 hx with rfl | hx
          · omega
          · have := hp1 x hx; omega
        · rename_i hlt
          refine List.pairwise_cons.2 ⟨fun x hx => ?_, ih hp2 (fun x hx => hs x (List.mem_cons_of_mem _ hx)) (fun x hx => hd x (List.mem_cons_of_mem _ hx))⟩
          rcases mem_insO.1 hx with rfl | hx
          · omega
          · exact hp1 x hx
    exact key L h.pw (fun q hq => (h.sz q hq).1) hd
  · rcases mem_insO.1 hx with rfl | hx
    · exact ⟨h1, h2⟩
    · exact h.sz x hx
theorem bool_ext {a b : Bool} (h : a = true ↔ b = true) : a = b := Bool.eq_iff_iff.2 h
theorem at_set {l : List Bool} {k i : Nat} {x : Bool} (hk : k < l.length) : at_ (l.set k x) i = if i = k then x else at_ l i := getD_set l k i x hk
theorem starts_ins {n : Nat} {L : List Ob} (h : Good n L) {o : Ob} (h1 : 1 ≤ o.2) (h2 : o.1 + o.2 ≤ n) (hd : ∀ q ∈ L, o.1 + o.2 ≤ q.1 ∨ q.1 + q.2 ≤ o.1) : startsL n (insO L o) = (startsL n L).set o.1 true :=
  ext_at (by rw [List.length_set, startsL_len, startsL_len]) (fun i _ => by
    rw [at_set (by rw [startsL_len]; omega)]
    refine bool_ext ?_
    rw [at_starts (insO_good h h1 h2 hd)]
    split
    · rename_i e; subst e; exact ⟨fun _ => rfl, fun _ => ⟨o, mem_insO.2 (.inl rfl), rfl⟩⟩
    · rename_i e
      rw [at_starts h]
      constructor
      · rintro ⟨q, hq, rfl⟩
        rcases mem_insO.1 hq with rfl | hq
        · exact absurd rfl e
        · exact ⟨q, hq, rfl⟩
      · rintro ⟨q, hq, rfl⟩; exact ⟨q, mem_insO.2 (.inr hq), rfl⟩)
theorem ends_ins {n : Nat} {L : List Ob} (h : Good n L) {o : Ob} (h1 : 1 ≤ o.2) (h2 : o.1 + o.2 ≤ n) (hd : ∀ q ∈ L, o.1 + o.2 ≤ q.1 ∨ q.1 + q.2 ≤ o.1) : endsL n (insO L o) = (endsL n L).set (o.1 + o.2 - 1) true :=
  ext_at (by rw [List.length_set, endsL_len, endsL_len]) (fun i _ => by
    rw [at_set (by rw [endsL_len]; omega)]
    refine bool_ext ?_
    rw [at_ends (insO_good h h1 h2 hd)]
    split
    · rename_i e; subst e; exact ⟨fun _ => rfl, fun _ => ⟨o, mem_insO.2 (.inl rfl), by omega⟩⟩
    · rename_i e
      rw [at_ends h]
      constructor
      · rintro ⟨q, hq, e2⟩
        rcases mem_insO.1 hq with rfl | hq
        · omega
        · exact ⟨q, hq, e2⟩
      · rintro ⟨q, hq, e2⟩; exact ⟨q, mem_insO.2 (.inr hq), e2⟩)

/-- Is a word of a run live? -/
def clashB (L : List Ob) (s z : Int) : Bool := L.any fun o => decide ((o.1 : Int) < s + z ∧ s < o.1 + o.2)
theorem clash_iff {L : List Ob} {s z : Int} : clashB L s z = true ↔ ∃ o ∈ L, (o.1 : Int) < s + z ∧ s < o.1 + o.2 := by simp [clashB]
theorem clash_find {n : Nat} {L : List Ob} (h : Good n L) {s z : Int} (hz : 1 ≤ z) : clashB L s z = (decide (findO L s < L.length) || (decide (nextO L s < L.length) && decide (((L[nextO L s]?.getD (0, 0)).1 : Int) < s + z))) := by
  refine bool_ext ?_
  rw [clash_iff]
  simp only [Bool.or_eq_true, Bool.and_eq_true, decide_eq_true_eq]
  constructor
  · rintro ⟨o, ho, h1, h2⟩
    by_cases hs : (o.1 : Int) ≤ s
    · left
      obtain ⟨j, hj, rfl⟩ := List.getElem_of_mem ho
      rw [findO_eq h hj hs h2]; exact hj
    · right
      obtain ⟨j, hj, rfl⟩ := List.getElem_of_mem ho
      have hn : nextO L s ≤ j := by
        rcases Nat.lt_or_ge j (nextO L s) with hlt | hge
        · have := nextO_no hlt hj; omega
        · exact hge
      refine ⟨by omega, ?_⟩
      rw [List.getElem?_eq_getElem (by omega)]
      show (L[nextO L s].1 : Int) < s + z
      rcases Nat.lt_or_ge (nextO L s) j with hlt | hge
      · have := h.at (i := nextO L s) (by omega) hj hlt; omega
      · have e : L[nextO L s]'(by omega) = L[j] := by congr 1; omega
        rw [e]; exact h1
  · rintro (hf | ⟨hn, hl⟩)
    · have := findO_yes hf
      exact ⟨_, List.getElem_mem hf, by omega, by omega⟩
    · rw [List.getElem?_eq_getElem hn] at hl
      have hl : (L[nextO L s].1 : Int) < s + z := hl
      have hy := nextO_yes hn
      have := (h.sz _ (List.getElem_mem hn)).1
      exact ⟨_, List.getElem_mem hn, hl, by omega⟩
def addE (L : List Ob) (n : Nat) (s z : Int) : Int := if z < 1 then 15 else if s < 0 ∨ (n : Int) ≤ s ∨ (n : Int) - s < z then 11 else if clashB L s z then 7 else 0
def addL (L : List Ob) (n : Nat) (s z : Int) : List Ob := if addE L n s z = 0 then insO L (s.toNat, z.toNat) else L
theorem addE_zero {L : List Ob} {n : Nat} {s z : Int} (h : addE L n s z = 0) : 1 ≤ z ∧ 0 ≤ s ∧ s + z ≤ n ∧ clashB L s z = false := by
  unfold addE at h
  split at h
  · omega
  · split at h
    · omega
    · split at h
      · omega
      · rename_i h1 h2 h3
        refine ⟨by omega, by omega, by omega, by simpa using h3⟩
theorem add_apart {L : List Ob} {s z : Int} (hs : 0 ≤ s) (hz : 1 ≤ z) (h : clashB L s z = false) : ∀ q ∈ L, s.toNat + z.toNat ≤ q.1 ∨ q.1 + q.2 ≤ s.toNat := fun q hq => by
  by_cases hc : (q.1 : Int) < s + z ∧ s < q.1 + q.2
  · have := clash_iff.2 ⟨q, hq, hc⟩; rw [h] at this; cases this
  · omega
theorem addL_good {n : Nat} {L : List Ob} (h : Good n L) (s z : Int) : Good n (addL L n s z) := by
  unfold addL
  split
  · rename_i he
    obtain ⟨h1, h2, h3, h4⟩ := addE_zero he
    exact insO_good h (by show 1 ≤ z.toNat; omega) (by show s.toNat + z.toNat ≤ n; omega) (add_apart h2 h1 h4)
  · exact h

/-! Drop -/
def startO (L : List Ob) (s : Int) : Nat := L.findIdx fun o => decide ((o.1 : Int) = s)
def dropL (L : List Ob) (s : Int) : List Ob := L.filter fun o => decide ((o.1 : Int) ≠ s)
def dropV (L : List Ob) (s : Int) : Int := if h : startO L s < L.length then (L[startO L s].2 : Nat) else 0
theorem startO_yes {L : List Ob} {s : Int} (h : startO L s < L.length) : ((L[startO L s]'h).1 : Int) = s := by
  have := List.findIdx_getElem (p := fun o : Ob => decide ((o.1 : Int) = s)) (w := h)
  simp only [decide_eq_true_eq] at this
  exact this
theorem startO_no {L : List Ob} {s : Int} (h : ¬ startO L s < L.length) : ∀ o ∈ L, (o.1 : Int) ≠ s := fun o ho e => by
  obtain ⟨i, hi, rfl⟩ := List.getElem_of_mem ho
  have := List.not_of_lt_findIdx (p := fun o : Ob => decide ((o.1 : Int) = s)) (xs := L) (i := i) (by unfold startO at h; omega)
  simp at this; exact this e
theorem dropL_good {n : Nat} {L : List Ob} (h : Good n L) (s : Int) : Good n (dropL L s) := ⟨h.pw.sublist List.filter_sublist, fun o ho => h.sz o (List.mem_filter.1 ho).1⟩
theorem dropL_none {L : List Ob} {s : Int} (h : ¬ startO L s < L.length) : dropL L s = L := List.filter_eq_self.2 (fun o ho => by have := startO_no h o ho; simpa using this)
theorem Good.inj {n : Nat} {L : List Ob} (h : Good n L) {o q : Ob} (ho : o ∈ L) (hq : q ∈ L) (he : o.1 = q.1) : o = q := by
  have h1 := h.sz o ho
  have h2 := h.sz q hq
  rcases h.disj ho hq with e | e | e
  · exact e
  · omega
  · omega
theorem starts_drop {n : Nat} {L : List Ob} (h : Good n L) {s : Int} (hs : startO L s < L.length) : startsL n (dropL L s) = (startsL n L).set L[startO L s].1 false :=
  ext_at (by rw [List.length_set, startsL_len, startsL_len]) (fun i _ => by
    have hy := startO_yes hs
    have hz := h.sz _ (List.getElem_mem hs)
    rw [at_set (by rw [startsL_len]; omega)]
    refine bool_ext ?_
    rw [at_starts (dropL_good h s)]
    split
    · rename_i e
      constructor
      · rintro ⟨q, hq, e2⟩
        have := (List.mem_filter.1 hq).2
        simp only [ne_eq, decide_not, Bool.not_eq_true', decide_eq_false_iff_not] at this
        omega
      · intro h; cases h
    · rename_i e
      rw [at_starts h]
      constructor
      · rintro ⟨q, hq, e2⟩; exact ⟨q, (List.mem_filter.1 hq).1, e2⟩
      · rintro ⟨q, hq, e2⟩; exact ⟨q, List.mem_filter.2 ⟨hq, by simp; omega⟩, e2⟩)
theorem ends_drop {n : Nat} {L : List Ob} (h : Good n L) {s : Int} (hs : startO L s < L.length) : endsL n (dropL L s) = (endsL n L).set (L[startO L s].1 + L[startO L s].2 - 1) false :=
  ext_at (by rw [List.length_set, endsL_len, endsL_len]) (fun i _ => by
    have hy := startO_yes hs
    have hm := List.getElem_mem hs
    have hz := h.sz _ hm
    rw [at_set (by rw [endsL_len]; omega)]
    refine bool_ext ?_
    rw [at_ends (dropL_good h s)]
    split
    · rename_i e
      constructor
      · rintro ⟨q, hq, e2⟩
        obtain ⟨hq1, hq2⟩ := List.mem_filter.1 hq
        have hqz := h.sz q hq1
        simp only [ne_eq, decide_not, Bool.not_eq_true', decide_eq_false_iff_not] at hq2
        rcases h.disj hm hq1 with e3 | e3 | e3
        · rw [← e3] at hq2; exact absurd hy hq2
        · omega
        · omega
      · intro h; cases h
    · rename_i e
      rw [at_ends h]
      constructor
      · rintro ⟨q, hq, e2⟩; exact ⟨q, (List.mem_filter.1 hq).1, e2⟩
      · rintro ⟨q, hq, e2⟩
        refine ⟨q, List.mem_filter.2 ⟨hq, ?_⟩, e2⟩
        simp only [ne_eq, decide_not, Bool.not_eq_true', decide_eq_false_iff_not]
        intro e3
        have := h.inj hm hq (by omega)
        rw [← this] at e2; omega)
theorem dropL_len {n : Nat} {L : List Ob} (h : Good n L) {s : Int} (hs : startO L s < L.length) : (dropL L s).length + 1 = L.length := by
  have key : ∀ (L : List Ob), L.Pairwise (fun o q => o.1 + o.2 ≤ q.1) → (∀ o ∈ L, 1 ≤ o.2) → (∃ o ∈ L, (o.1 : Int) = s) → (dropL L s).length + 1 = L.length := by
    intro L
    induction L with
    | nil => rintro _ _ ⟨o, ho, _⟩; cases ho
    | cons q r ih =>
      rintro hp hz ⟨o, ho, he⟩
      obtain ⟨h1, h2⟩ := List.pairwise_cons.1 hp
      have hqz := hz q (List.mem_cons_self ..)
      by_cases hq : (q.1 : Int) = s
      · have e : dropL (q :: r) s = r := by
          unfold dropL
          rw [List.filter_cons_of_neg (by simpa using hq)]
          exact List.filter_eq_self.2 (fun x hx => by have := h1 x hx; simp; omega)
        rw [e]; rfl
      · have e : dropL (q :: r) s = q :: dropL r s := by unfold dropL; rw [List.filter_cons_of_pos (by simpa using hq)]
        rw [e]
        have hor : o ∈ r := by
          rcases List.mem_cons.1 ho with rfl | h
          · exact absurd he hq
          · exact h
        have := ih h2 (fun x hx => hz x (List.mem_cons_of_mem _ hx)) ⟨o, hor, he⟩
        simp only [List.length_cons]; omega
  exact key L h.pw (fun o ho => (h.sz o ho).1) ⟨_, List.getElem_mem hs, startO_yes hs⟩
theorem starts_nil (n : Nat) : startsL n [] = List.replicate n false := by unfold startsL; exact ext_at (by simp) (fun i hi => by rw [at_map_range]; simp [at_, List.getD_eq_getElem?_getD, List.getElem?_replicate]; split <;> rfl)
theorem ends_nil (n : Nat) : endsL n [] = List.replicate n false := by unfold endsL; exact ext_at (by simp) (fun i hi => by rw [at_map_range]; simp [at_, List.getD_eq_getElem?_getD, List.getElem?_replicate]; split <;> rfl)
end Go.Proofs.YtlbbkpjfoabobaaDoor
