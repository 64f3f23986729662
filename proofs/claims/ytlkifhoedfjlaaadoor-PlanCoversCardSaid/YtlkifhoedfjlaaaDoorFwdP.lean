/- Plain facts of layer 22: where a word goes, and from where one comes. -/
import Derived.Test.YtlkifhoedfjlaaaDoorOffA
namespace Go.Proofs.YtlkifhoedfjlaaaDoor
open Word

/-- The place of the object that has the word number q. -/
def placeO : List Ob → Nat → Nat
  | [], _ => 0
  | o :: r, q => if q < o.2 then 0 else placeO r (q - o.2) + 1
theorem placeO_spec {L : List Ob} : ∀ {q : Nat}, q < sizes L → ∃ hj : placeO L q < L.length, ∃ i, i < (L[placeO L q]'hj).2 ∧ q = sizes (L.take (placeO L q)) + i ∧ wordO L q = some ((L[placeO L q]'hj).1 + i) := by
  induction L with
  | nil => intro q h; simp [sizes] at h
  | cons o r ih =>
    intro q h
    by_cases hq : q < o.2
    · have e : placeO (o :: r) q = 0 := if_pos hq
      refine ⟨by rw [e]; simp, q, ?_⟩
      simp only [e]
      exact ⟨hq, by simp [sizes], by unfold wordO; rw [if_pos hq]; rfl⟩
    · have e : placeO (o :: r) q = placeO r (q - o.2) + 1 := if_neg hq
      unfold sizes at h
      obtain ⟨hj, i, h1, h2, h3⟩ := ih (q := q - o.2) (by omega)
      refine ⟨by rw [e]; simpa using hj, i, ?_⟩
      simp only [e]
      exact ⟨h1, by simp only [List.take_succ_cons, sizes]; omega, by unfold wordO; rw [if_neg hq]; exact h3⟩
theorem placeO_at {L : List Ob} {j i : Nat} (hj : j < L.length) (hi : i < L[j].2) : placeO L (sizes (L.take j) + i) = j := by
  induction L generalizing j with
  | nil => simp at hj
  | cons o r ih =>
    cases j with
    | zero =>
      have hi : i < o.2 := hi
      simp only [List.take_zero, sizes, Nat.zero_add, placeO]
      rw [if_pos hi]
    | succ j =>
      have := ih (j := j) (by simpa using hj) (by simpa using hi)
      simp only [List.take_succ_cons, sizes, placeO]
      rw [if_neg (by omega), show o.2 + sizes (List.take j r) + i - o.2 = sizes (List.take j r) + i by omega, this]
theorem sizes_take_le (L : List Ob) (j : Nat) : sizes (L.take j) ≤ sizes L := by
  induction L generalizing j with
  | nil => simp [sizes]
  | cons o r ih =>
    cases j with
    | zero => simp [sizes]
    | succ j => have := ih j; simp only [List.take_succ_cons, sizes]; omega
theorem sizes_mid {L : List Ob} {j : Nat} (hj : j < L.length) : sizes (L.take j) + L[j].2 ≤ sizes L := by
  rw [← sizes_take hj]; exact sizes_take_le L (j + 1)

/-! To -/
def toV (L : List Ob) (base a : Int) : Int := if findO L a < L.length then base + overs L 0 a else 0
def toE (L : List Ob) (a : Int) : Int := if findO L a < L.length then 0 else 6
theorem toV_at {n : Nat} {L : List Ob} (h : Good n L) {base a : Int} {j : Nat} (hj : j < L.length) (h1 : (L[j].1 : Int) ≤ a) (h2 : a < L[j].1 + L[j].2) :
    toV L base a = base + sizes (L.take j) + a - (L[j].1 : Nat) ∧ toE L a = 0 := by
  have e := findO_eq h hj h1 h2
  have hs := overs_upto h hj (i := (a - L[j].1).toNat) (by omega)
  rw [show (L[j].1 : Int) + ((a - L[j].1).toNat : Nat) = a by omega] at hs
  unfold toV toE
  rw [if_pos (by omega), if_pos (by omega), hs]
  exact ⟨by omega, rfl⟩
theorem toV_no {L : List Ob} {base a : Int} (h : ¬ findO L a < L.length) : toV L base a = 0 ∧ toE L a = 6 := by
  unfold toV toE; rw [if_neg h, if_neg h]; exact ⟨rfl, rfl⟩
theorem live_find {L : List Ob} (a : Int) : (decide (0 ≤ a) && liveB L a.toNat) = decide (findO L a < L.length) := by
  by_cases h : 0 ≤ a
  · rw [decide_eq_true h, liveB_find, show ((a.toNat : Nat) : Int) = a by omega]; rfl
  · rw [decide_eq_false h]
    rw [findO_none (fun o _ => by omega)]
    simp

/-! From -/
def inF (L : List Ob) (base b : Int) : Bool := decide (base ≤ b) && decide (b < base + (sizes L : Nat))
def fromV (L : List Ob) (base b : Int) : Int := if inF L base b then wordV L (b - base) else 0
def fromI (L : List Ob) (base b : Int) : Int := if inF L base b then (placeO L (b - base).toNat : Nat) else 0
def fromE (L : List Ob) (base b : Int) : Int := if inF L base b then 0 else 11
theorem inF_iff {L : List Ob} {base b : Int} : inF L base b = true ↔ base ≤ b ∧ b < base + (sizes L : Nat) := by simp [inF]
theorem inF_false {L : List Ob} {base b : Int} (h : ¬ (base ≤ b ∧ b < base + (sizes L : Nat))) : inF L base b = false := by
  cases e : inF L base b with
  | false => rfl
  | true => exact absurd (inF_iff.1 e) h
theorem wordV_at {L : List Ob} {j i : Nat} (hj : j < L.length) (hi : i < L[j].2) : wordV L ((sizes (L.take j) + i : Nat) : Int) = (L[j].1 + i : Nat) := by
  unfold wordV
  rw [if_neg (by omega), Int.toNat_natCast, wordO_take hj hi]; rfl
theorem from_at {L : List Ob} {base b : Int} {j : Nat} (hj : j < L.length) (h1 : base + (sizes (L.take j) : Nat) ≤ b) (h2 : b < base + (sizes (L.take j) : Nat) + (L[j].2 : Nat)) :
    fromV L base b = (L[j].1 : Nat) + b - (base + (sizes (L.take j) : Nat)) ∧ fromI L base b = j ∧ fromE L base b = 0 := by
  have hm := sizes_mid hj
  have hin : inF L base b = true := inF_iff.2 ⟨by omega, by omega⟩
  obtain ⟨i, hi⟩ : ∃ i : Nat, b - base = ((sizes (L.take j) + i : Nat) : Int) := ⟨(b - base).toNat - sizes (L.take j), by omega⟩
  have hlt : i < L[j].2 := by omega
  unfold fromV fromI fromE
  rw [hin, if_pos rfl, if_pos rfl, if_pos rfl, hi, wordV_at hj hlt, Int.toNat_natCast, placeO_at hj hlt]
  exact ⟨by omega, rfl, rfl⟩
theorem from_no {L : List Ob} {base b : Int} (h : inF L base b = false) : fromV L base b = 0 ∧ fromI L base b = 0 ∧ fromE L base b = 11 := by
  unfold fromV fromI fromE; rw [h]; exact ⟨rfl, rfl, rfl⟩
/-- Where a word that comes from somewhere lies. -/
theorem from_in {n : Nat} {L : List Ob} (h : Good n L) {base b : Int} (hb : inF L base b = true) : ∃ j, ∃ hj : j < L.length, fromI L base b = j ∧ (L[j].1 : Int) ≤ fromV L base b ∧ fromV L base b < L[j].1 + L[j].2 ∧ findO L (fromV L base b) = j ∧ fromE L base b = 0 := by
  obtain ⟨h1, h2⟩ := inF_iff.1 hb
  obtain ⟨hj, i, hi, e, -⟩ := placeO_spec (L := L) (q := (b - base).toNat) (by omega)
  obtain ⟨a1, a2, a3⟩ := from_at (base := base) (b := b) hj (by omega) (by omega)
  refine ⟨_, hj, a2, by omega, by omega, findO_eq h hj (by omega) (by omega), a3⟩
/-- What is told of the object of a word. -/
def objS (L : List Ob) (base b : Int) : Int := if inF L base b then obS L (placeO L (b - base).toNat) else 0
def objZ (L : List Ob) (base b : Int) : Int := if inF L base b then obZ L (placeO L (b - base).toNat) else 0

/-! Objects added in order -/
theorem insO_end {M : List Ob} {o : Ob} (h : ∀ y ∈ M, ¬ o.1 < y.1) : insO M o = M ++ [o] := by
  induction M with
  | nil => rfl
  | cons y r ih =>
    unfold insO
    rw [if_neg (h y (List.mem_cons_self ..)), ih (fun z hz => h z (List.mem_cons_of_mem _ hz))]; rfl
theorem add_next {n : Nat} {L : List Ob} (h : Good n L) {j : Nat} (hj : j < L.length) : addL (L.take j) n (L[j].1 : Nat) (L[j].2 : Nat) = L.take (j + 1) := by
  have hs := h.sz _ (List.getElem_mem hj)
  have hle : ∀ o ∈ L.take j, o.1 + o.2 ≤ L[j].1 := fun o ho => by
    obtain ⟨i, hi, hij, rfl⟩ := mem_take_lt ho
    exact h.at hi hj hij
  have hc : clashB (L.take j) (L[j].1 : Nat) (L[j].2 : Nat) = false := by
    cases e : clashB (L.take j) (L[j].1 : Nat) (L[j].2 : Nat) with
    | false => rfl
    | true => obtain ⟨o, ho, h1, h2⟩ := clash_iff.1 e; have := hle o ho; omega
  have he : addE (L.take j) n (L[j].1 : Nat) (L[j].2 : Nat) = 0 := by
    unfold addE; rw [if_neg (by omega), if_neg (by omega), hc]; rfl
  unfold addL
  rw [if_pos he, Int.toNat_natCast, Int.toNat_natCast, insO_end (fun y hy => by have := hle y hy; omega), List.take_succ_eq_append_getElem hj]
end Go.Proofs.YtlkifhoedfjlaaaDoor
