/- A paged memory with pages mapped: the plain law of Need. -/
import Derived.Test.YtlkifhoedfjlaaaGreatDoorVmB
namespace Go.Proofs.YtlkifhoedfjlaaaGreatDoor
open Go.RowKit Word

/-- v', that is v with the pages of F mapped, all their words zero. -/
structure Grown (v v' : Vm) (F : List Nat) : Prop where
  ok : VmOk v'
  n : v'.n = v.n
  pg : v'.pl.pg = v.pl.pg
  rm : v'.pl.rm = v.pl.rm
  us : v'.pl.used = v.pl.used + F.length
  nd : F.Nodup
  un : ∀ p ∈ F, p < v.pt.length ∧ v.pt.getD p 0 = 0
  ma : ∀ p, p < v.pt.length → (v'.pt.getD p 0 ≠ 0 ↔ (v.pt.getD p 0 ≠ 0 ∨ p ∈ F))
  vl : ∀ a : Nat, a < v.n → v'.ldV a = if a / v.pl.pg ∈ F then 0 else v.ldV a
theorem VmOk.len {v : Vm} (h : VmOk v) : v.pt.length = v.n / v.pl.pg := by
  rw [h.np, Nat.mul_div_cancel _ h.page.1]
theorem Grown.len {v v' : Vm} {F : List Nat} (h : Grown v v' F) (hv : VmOk v) : v'.pt.length = v.pt.length := by
  rw [h.ok.len, hv.len, h.n, h.pg]
theorem Grown.ldE {v v' : Vm} {F : List Nat} (h : Grown v v' F) (hv : VmOk v) {a : Nat} (ha : a < v.n) : v'.ldE a = if a / v.pl.pg ∈ F then 0 else v.ldE a := by
  have h1 := h.ma _ (hv.split ha).1
  rw [h.ok.ldE_of (by rw [h.n]; exact ha), hv.ldE_of ha, h.pg]
  by_cases hf : a / v.pl.pg ∈ F
  · rw [if_pos hf, if_neg (h1.2 (.inr hf))]
  · rw [if_neg hf]
    by_cases h0 : v.pt.getD (a / v.pl.pg) 0 = 0
    · rw [if_pos h0, if_pos]
      exact Decidable.not_not.1 (fun hn => (h1.1 hn).elim (fun h' => h' h0) hf)
    · rw [if_neg h0, if_neg (h1.2 (.inl h0))]
theorem Grown.refl {v : Vm} (h : VmOk v) : Grown v v [] :=
  ⟨h, rfl, rfl, rfl, rfl, List.nodup_nil, fun p hp => (by cases hp), fun p _ => by simp, fun a _ => by simp⟩
theorem Grown.mp {v v' : Vm} {F : List Nat} (h : Grown v v' F) (hv : VmOk v) {p : Nat} (hp : v'.mpE p = 0) : Grown v (v'.mp p) (F ++ [p]) := by
  have e1 : v'.mp p = { v' with pl := v'.pl.take, pt := v'.pt.set p (v'.pl.next + 1) } := by unfold Vm.mp; rw [if_pos hp, Int.toNat_natCast]
  obtain ⟨j, hj, hjl, h0, hr⟩ := mpE_zero hp
  obtain rfl : p = j := by omega
  have hl := h.len hv
  have h1 := h.ma p (by omega)
  have hpF : p ∉ F := fun hf => h1.2 (.inr hf) h0
  have hp0 : v.pt.getD p 0 = 0 := Decidable.not_not.1 (fun hn => h1.2 (.inl hn) h0)
  refine ⟨h.ok.mp p, ?_, ?_, ?_, ?_, ?_, fun i hi => ?_, fun i hi => ?_, fun a ha => ?_⟩
  · rw [e1]; exact h.n
  · rw [e1]; exact (fresh_same v'.pl).1.trans h.pg
  · rw [e1]; exact (fresh_same v'.pl).2.1.trans h.rm
  · rw [e1, List.length_append]
    show v'.pl.take.used = _
    rw [take_used h.ok.pl, h.us]; rfl
  · rw [List.nodup_append]
    exact ⟨h.nd, by simp, fun a ha b hb => by simp at hb; subst hb; rintro rfl; exact hpF ha⟩
  · rcases List.mem_append.1 hi with h' | h'
    · exact h.un i h'
    · simp at h'; subst h'; exact ⟨by omega, hp0⟩
  · rw [e1]
    show (v'.pt.set p _).getD i 0 ≠ 0 ↔ _
    rw [getD_set hjl, List.mem_append]
    by_cases e : p = i
    · subst e; simp
    · rw [if_neg e, h.ma i hi]
      have : i ∉ [p] := by simp; omega
      simp [this]
  · have := h.ok.mp_ldV hp (a := a) (by rw [h.n]; exact ha)
    rw [this, h.pg, h.vl a ha]
    by_cases e : a / v.pl.pg = p
    · rw [if_pos e, if_pos (List.mem_append.2 (.inr (by simp [e])))]
    · rw [if_neg e]
      by_cases hf : a / v.pl.pg ∈ F
      · rw [if_pos hf, if_pos (List.mem_append.2 (.inl hf))]
      · rw [if_neg hf, if_neg]
        intro hm
        rcases List.mem_append.1 hm with h' | h'
        · exact hf h'
        · simp at h'; exact e h'
theorem Grown.um {v v' : Vm} {F : List Nat} {p : Nat} (h : Grown v v' (F ++ [p])) (hv : VmOk v) : frE v'.pt p = 0 ∧ Grown v (v'.um p) F := by
  obtain ⟨hpl, hp0⟩ := h.un p (by simp)
  have hl := h.len hv
  have h1 := (h.ma p hpl).2 (.inr (by simp))
  have hfr : frE v'.pt p = 0 := by rw [frE_of (by omega), if_neg h1]
  have e1 : v'.um p = { v' with pl := v'.pl.give (v'.pt.getD p 0 - 1), pt := v'.pt.set p 0 } := by unfold Vm.um; rw [if_pos hfr, Int.toNat_natCast]
  have hnd := List.nodup_append.1 h.nd
  have hpF : p ∉ F := fun hf => hnd.2.2 p hf p (by simp) rfl
  refine ⟨hfr, h.ok.um p, ?_, ?_, ?_, ?_, hnd.1, fun i hi => h.un i (by simp [hi]), fun i hi => ?_, fun a ha => ?_⟩
  · rw [e1]; exact h.n
  · rw [e1]; exact h.pg
  · rw [e1]; exact h.rm
  · rw [e1]
    show (v'.pl.give _).used = _
    have h2 := give_used (p := v'.pl) (h.ok.frame h1)
    have h3 := h.us
    rw [List.length_append, List.length_singleton] at h3
    omega
  · rw [e1]
    show (v'.pt.set p 0).getD i 0 ≠ 0 ↔ _
    rw [getD_set (by omega)]
    by_cases e : p = i
    · subst e
      rw [if_pos rfl]
      exact ⟨fun h => absurd rfl h, fun h => h.elim (fun h => absurd hp0 h) (fun h => absurd h hpF)⟩
    · have : i ∉ [p] := by simp; omega
      rw [if_neg e, h.ma i hi, List.mem_append]
      simp [this]
  · by_cases e : a / v.pl.pg = p
    · have hE := h.ok.um_ldE hfr (a := a) (by rw [h.n]; exact ha)
      rw [h.pg, if_pos e] at hE
      have hE2 := hv.ldE_of ha
      rw [e, if_pos hp0] at hE2
      rw [e, if_neg hpF]
      unfold Vm.ldV
      rw [hE, hE2]; rfl
    · have := h.ok.um_ldV hfr (a := a) (by rw [h.n]; exact ha) (by rw [h.pg]; exact e)
      rw [this, h.vl a ha]
      by_cases hf : a / v.pl.pg ∈ F
      · rw [if_pos hf, if_pos (List.mem_append.2 (.inl hf))]
      · rw [if_neg hf, if_neg]
        intro hm
        rcases List.mem_append.1 hm with h' | h'
        · exact hf h'
        · simp at h'; exact e h'
end Go.Proofs.YtlkifhoedfjlaaaGreatDoor
