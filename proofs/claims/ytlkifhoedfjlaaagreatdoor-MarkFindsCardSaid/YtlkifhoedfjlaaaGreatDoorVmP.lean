/- A paged memory: the plain law of Store, Map, Unmap. -/
import Derived.Test.YtlkifhoedfjlaaaGreatDoorVm
namespace Go.Proofs.YtlkifhoedfjlaaaGreatDoor
open Go.RowKit Word

def Vm.mpE (v : Vm) (p : Int) : Int := if pgE v.pt p ≠ 0 then 11 else if v.pt.getD p.toNat 0 ≠ 0 then 13 else if v.pl.used = v.pl.rm then 14 else 0
def Vm.mp (v : Vm) (p : Int) : Vm := if v.mpE p = 0 then { v with pl := v.pl.take, pt := v.pt.set p.toNat (v.pl.next + 1) } else v
def Vm.um (v : Vm) (p : Int) : Vm := if frE v.pt p = 0 then { v with pl := v.pl.give (v.pt.getD p.toNat 0 - 1), pt := v.pt.set p.toNat 0 } else v
theorem at_fresh {p : Pl} {f : Nat} (h : at_ p.tk f = true) : at_ p.fresh.tk f = true := by
  unfold Pl.fresh
  split
  · have := at_lt h
    show at_ (p.tk ++ [false]) f = true
    unfold at_ at h ⊢
    rw [List.getD_eq_getElem?_getD, List.getElem?_append_left this, ← List.getD_eq_getElem?_getD]
    exact h
  · exact h
theorem at_setB (l : List Bool) {i : Nat} (hi : i < l.length) (x : Bool) (j : Nat) : at_ (l.set i x) j = if i = j then x else at_ l j := by
  unfold at_
  simp only [List.getD_eq_getElem?_getD, List.getElem?_set]
  by_cases e : i = j
  · subst e; simp [hi]
  · simp [e]
theorem at_take {p : Pl} (h : PlOk p) (f : Nat) : at_ p.take.tk f = if p.next = f then true else at_ p.fresh.tk f := at_setB _ (next_lt h).1 _ _
theorem take_ne {p : Pl} (h : PlOk p) {f : Nat} (hf : at_ p.tk f = true) : f ≠ p.next := by
  rintro rfl
  have h1 := (next_lt h).2.2
  rw [at_fresh hf] at h1
  cases h1
theorem VmOk.frame {v : Vm} (h : VmOk v) {p : Nat} (hp : v.pt.getD p 0 ≠ 0) : at_ v.pl.tk (v.pt.getD p 0 - 1) = true := by
  by_cases hl : p < v.pt.length
  · exact h.fr p hl hp
  · rw [List.getD_eq_getElem?_getD, List.getElem?_eq_none (by omega)] at hp
    exact absurd rfl hp
theorem VmOk.mp {v : Vm} (h : VmOk v) (p : Int) : VmOk (v.mp p) := by
  unfold Vm.mp
  split
  · rename_i h0
    unfold Vm.mpE at h0
    by_cases h1 : pgE v.pt p ≠ 0
    · rw [if_pos h1] at h0; cases h0
    · rw [if_neg h1] at h0
      by_cases h2 : v.pt.getD p.toNat 0 ≠ 0
      · rw [if_pos h2] at h0; cases h0
      · rw [if_neg h2] at h0
        have h2' : v.pt.getD p.toNat 0 = 0 := Decidable.not_not.1 h2
        by_cases h3 : v.pl.used = v.pl.rm
        · rw [if_pos h3] at h0; cases h0
        · obtain ⟨j, rfl, hj⟩ := pgE_zero (Decidable.not_not.1 h1)
          rw [Int.toNat_natCast] at h2' ⊢
          have hn := next_lt h.pl
          have hle := used_le h.pl
          have hok := take_ok h.pl (by omega)
          have hlen : v.pl.fresh.tk.length = v.pl.take.tk.length := by unfold Pl.take; exact List.length_set.symm
          have hn2 : v.pl.next < 4096 := by have := hok.le; have := hok.rm; omega
          refine ⟨hok, h.pt.set j (by omega), h.n2, ?_, fun i hi hne => ?_, fun i i' hi hi' hne he => ?_, ?_⟩
          · show v.n = (v.pt.set j _).length * v.pl.take.pg
            rw [List.length_set]
            have : v.pl.take.pg = v.pl.pg := (fresh_same v.pl).1
            rw [this]; exact h.np
          · show at_ v.pl.take.tk ((v.pt.set j _).getD i 0 - 1) = true
            rw [getD_set hj, at_take h.pl]
            by_cases e : j = i
            · rw [if_pos e, if_pos (by omega)]
            · rw [if_neg e]
              split
              · rfl
              · refine at_fresh (h.frame ?_)
                have : (v.pt.set j (v.pl.next + 1)).getD i 0 ≠ 0 := hne
                rw [getD_set hj, if_neg e] at this
                exact this
          · have hne : (v.pt.set j (v.pl.next + 1)).getD i 0 ≠ 0 := hne
            have he : (v.pt.set j (v.pl.next + 1)).getD i 0 = (v.pt.set j (v.pl.next + 1)).getD i' 0 := he
            have hi : i < v.pt.length := by have : i < (v.pt.set j (v.pl.next + 1)).length := hi; rwa [List.length_set] at this
            have hi' : i' < v.pt.length := by have : i' < (v.pt.set j (v.pl.next + 1)).length := hi'; rwa [List.length_set] at this
            rw [getD_set hj] at hne he
            rw [getD_set hj] at he
            by_cases e : j = i <;> by_cases e' : j = i'
            · rw [← e, e']
            · rw [if_pos e, if_neg e'] at he
              have := take_ne h.pl (h.frame (p := i') (by omega))
              omega
            · rw [if_neg e, if_pos e'] at he
              have := take_ne h.pl (h.frame (p := i) (by omega))
              omega
            · rw [if_neg e] at hne he
              rw [if_neg e'] at he
              exact h.inj i i' hi hi' hne he
          · show v.pl.take.used = nz (v.pt.set j (v.pl.next + 1))
            rw [take_used h.pl, nz_set hj h2' (by omega), h.us]
  · exact h
theorem VmOk.um {v : Vm} (h : VmOk v) (p : Int) : VmOk (v.um p) := by
  unfold Vm.um
  split
  · rename_i h0
    obtain ⟨j, rfl, hj, hne⟩ := frE_zero h0
    rw [Int.toNat_natCast]
    have hf := h.fr j hj hne
    refine ⟨give_ok h.pl hf, h.pt.set j (by omega), h.n2, ?_, fun i hi hn => ?_, fun i i' hi hi' hn he => ?_, ?_⟩
    · show v.n = (v.pt.set j 0).length * v.pl.pg
      rw [List.length_set]; exact h.np
    · have hi : i < v.pt.length := by have : i < (v.pt.set j 0).length := hi; rwa [List.length_set] at this
      have hn : (v.pt.set j 0).getD i 0 ≠ 0 := hn
      show at_ (v.pl.tk.set _ false) ((v.pt.set j 0).getD i 0 - 1) = true
      rw [getD_set hj] at hn ⊢
      by_cases e : j = i
      · rw [if_pos e] at hn; exact absurd rfl hn
      · rw [if_neg e] at hn ⊢
        rw [at_setB _ (at_lt hf), if_neg, h.fr i hi hn]
        intro e2
        exact e (h.inj j i hj hi hne (by omega))
    · have hi : i < v.pt.length := by have : i < (v.pt.set j 0).length := hi; rwa [List.length_set] at this
      have hi' : i' < v.pt.length := by have : i' < (v.pt.set j 0).length := hi'; rwa [List.length_set] at this
      have hn : (v.pt.set j 0).getD i 0 ≠ 0 := hn
      have he : (v.pt.set j 0).getD i 0 = (v.pt.set j 0).getD i' 0 := he
      rw [getD_set hj] at hn he
      rw [getD_set hj] at he
      by_cases e : j = i
      · rw [if_pos e] at hn; exact absurd rfl hn
      · rw [if_neg e] at hn he
        by_cases e' : j = i'
        · rw [if_pos e'] at he; omega
        · rw [if_neg e'] at he
          exact h.inj i i' hi hi' hn he
    · show (v.pl.give _).used = nz (v.pt.set j 0)
      have h1 := give_used (p := v.pl) hf
      have h2 := nz_drop hj hne
      have := h.us
      omega
  · exact h
/-! What is seen of a memory -/
theorem VmOk.place_lt {v : Vm} (h : VmOk v) {a : Int} (h0 : v.ldE a = 0) : v.at a < v.pl.wd.length := by
  obtain ⟨j, rfl, hj, hne⟩ := VmOk.hit h0
  obtain ⟨h1, h2⟩ := h.split hj
  have hf := at_lt (h.fr _ h1 hne)
  unfold Vm.at
  rw [← Int.natCast_ediv, Int.toNat_natCast, ← Int.natCast_emod, Int.toNat_natCast, h.pl.wl]
  have : (v.pt.getD (j / v.pl.pg) 0 - 1 + 1) * v.pl.pg ≤ v.pl.tk.length * v.pl.pg := Nat.mul_le_mul_right _ hf
  rw [Nat.succ_mul] at this
  omega
theorem split_mul {g f o f' o' : Nat} (h1 : o < g) (h2 : o' < g) (h : f * g + o = f' * g + o') : f = f' ∧ o = o' := by
  have e1 : (f * g + o) / g = f := by rw [Nat.mul_comm, Nat.mul_add_div (by omega), Nat.div_eq_of_lt h1, Nat.add_zero]
  have e2 : (f' * g + o') / g = f' := by rw [Nat.mul_comm, Nat.mul_add_div (by omega), Nat.div_eq_of_lt h2, Nat.add_zero]
  rw [h, e2] at e1
  subst e1
  exact ⟨rfl, by omega⟩
theorem VmOk.at_inj {v : Vm} (h : VmOk v) {a b : Int} (ha : v.ldE a = 0) (hb : v.ldE b = 0) (he : v.at a = v.at b) : a = b := by
  obtain ⟨j, rfl, hj, hne⟩ := VmOk.hit ha
  obtain ⟨i, rfl, hi, hne'⟩ := VmOk.hit hb
  obtain ⟨h1, h2⟩ := h.split hj
  obtain ⟨h3, h4⟩ := h.split hi
  unfold Vm.at at he
  rw [← Int.natCast_ediv, Int.toNat_natCast, ← Int.natCast_emod, Int.toNat_natCast, ← Int.natCast_ediv, Int.toNat_natCast, ← Int.natCast_emod, Int.toNat_natCast] at he
  obtain ⟨e1, e2⟩ := split_mul h2 h4 he
  have e3 := h.inj _ _ h1 h3 hne (by omega)
  have := Nat.div_add_mod j v.pl.pg
  have := Nat.div_add_mod i v.pl.pg
  rw [e3, e2] at *
  omega
theorem st_ldE (v : Vm) (a : Int) (x : Nat) (b : Int) : (v.st a x).ldE b = v.ldE b := by unfold Vm.st; split <;> rfl
theorem VmOk.st_ldV {v : Vm} (h : VmOk v) {a : Int} (x : Nat) (ha : v.ldE a = 0) (b : Int) : (v.st a x).ldV b = if a = b then x else v.ldV b := by
  have e1 : v.st a x = { v with pl := { v.pl with wd := v.pl.wd.set (v.at a) x } } := if_pos ha
  have e2 : (v.st a x).at b = v.at b := by rw [e1]; rfl
  have e3 : (v.st a x).pl.wd = v.pl.wd.set (v.at a) x := by rw [e1]
  unfold Vm.ldV
  rw [st_ldE, e2, e3]
  by_cases hb : v.ldE b = 0
  · rw [if_pos hb, if_pos hb, getD_set (h.place_lt ha)]
    by_cases e : a = b
    · rw [if_pos e, if_pos (by rw [e])]
    · rw [if_neg e, if_neg (fun he => e (h.at_inj ha hb he))]
  · rw [if_neg hb, if_neg hb]
    by_cases e : a = b
    · subst e; exact absurd ha hb
    · rw [if_neg e]
theorem st_none {v : Vm} {a : Int} (x : Nat) (ha : v.ldE a ≠ 0) : v.st a x = v := if_neg ha
theorem mp_none {v : Vm} {p : Int} (h : v.mpE p ≠ 0) : v.mp p = v := if_neg h
theorem um_none {v : Vm} {p : Int} (h : frE v.pt p ≠ 0) : v.um p = v := if_neg h
theorem mpE_zero {v : Vm} {p : Int} (h : v.mpE p = 0) : ∃ j : Nat, p = j ∧ j < v.pt.length ∧ v.pt.getD j 0 = 0 ∧ v.pl.used ≠ v.pl.rm := by
  unfold Vm.mpE at h
  split at h
  · cases h
  · rename_i h1
    obtain ⟨j, rfl, hj⟩ := pgE_zero (Decidable.not_not.1 h1)
    rw [Int.toNat_natCast] at h
    split at h
    · cases h
    · rename_i h2
      split at h
      · cases h
      · rename_i h3
        exact ⟨j, rfl, hj, Decidable.not_not.1 h2, h3⟩
theorem frE_of {pt : List Nat} {p : Nat} (h : p < pt.length) : frE pt p = if pt.getD p 0 = 0 then 12 else 0 := by
  unfold frE pgE
  rw [if_pos (show (if (0 : Int) ≤ (p : Int) ∧ (p : Int) < (pt.length : Int) then (0 : Int) else 11) = 0 from if_pos ⟨by omega, by omega⟩), Int.toNat_natCast]
theorem VmOk.ldE_of {v : Vm} (h : VmOk v) {a : Nat} (ha : a < v.n) : v.ldE a = if v.pt.getD (a / v.pl.pg) 0 = 0 then 12 else 0 := by
  unfold Vm.ldE
  rw [if_pos ⟨by omega, by omega⟩, ← Int.natCast_ediv, frE_of (h.split ha).1]
theorem VmOk.ldE_out {v : Vm} {a : Int} (ha : ¬ (0 ≤ a ∧ a < v.n)) : v.ldE a = 11 := if_neg ha
theorem VmOk.mp_ldE {v : Vm} (h : VmOk v) {p : Nat} (hp : v.mpE p = 0) {a : Nat} (ha : a < v.n) : (v.mp p).ldE a = if a / v.pl.pg = p then 0 else v.ldE a := by
  have e1 : v.mp p = { v with pl := v.pl.take, pt := v.pt.set p (v.pl.next + 1) } := by unfold Vm.mp; rw [if_pos hp, Int.toNat_natCast]
  obtain ⟨j, hj, hjl, -, -⟩ := mpE_zero hp
  obtain rfl : p = j := by omega
  have h1 := (h.mp p).ldE_of (a := a) (by rw [e1]; exact ha)
  have e2 : (v.mp p).pl.pg = v.pl.pg := by rw [e1]; exact (fresh_same v.pl).1
  have e3 : (v.mp p).pt = v.pt.set p (v.pl.next + 1) := by rw [e1]
  rw [h1, e2, e3, getD_set hjl, h.ldE_of ha]
  by_cases e : a / v.pl.pg = p
  · rw [if_pos e.symm, if_pos e, if_neg (by omega)]
  · have en : ¬ p = a / v.pl.pg := fun h => e h.symm
    rw [if_neg en, if_neg e]
theorem VmOk.mp_ldV {v : Vm} (h : VmOk v) {p : Nat} (hp : v.mpE p = 0) {a : Nat} (ha : a < v.n) : (v.mp p).ldV a = if a / v.pl.pg = p then 0 else v.ldV a := by
  have e1 : v.mp p = { v with pl := v.pl.take, pt := v.pt.set p (v.pl.next + 1) } := by unfold Vm.mp; rw [if_pos hp, Int.toNat_natCast]
  obtain ⟨j, hj, hjl, -, -⟩ := mpE_zero hp
  obtain rfl : p = j := by omega
  have hE := h.mp_ldE hp ha
  obtain ⟨n1, n2, n3⟩ := next_lt h.pl
  have hf : v.pl.next * v.pl.pg + v.pl.pg ≤ v.pl.fresh.wd.length := by rw [n2, ← Nat.succ_mul]; exact Nat.mul_le_mul_right _ n1
  have e2 : (v.mp p).pl.pg = v.pl.pg := by rw [e1]; exact (fresh_same v.pl).1
  have e3 : (v.mp p).pt = v.pt.set p (v.pl.next + 1) := by rw [e1]
  have e4 : (v.mp p).pl.wd = zeroAt v.pl.fresh.wd (v.pl.next * v.pl.pg) v.pl.pg := by rw [e1]; rfl
  obtain ⟨s1, s2⟩ := h.split ha
  have e5 : (v.mp p).at a = ((v.pt.set p (v.pl.next + 1)).getD (a / v.pl.pg) 0 - 1) * v.pl.pg + a % v.pl.pg := by
    unfold Vm.at
    rw [e2, e3, ← Int.natCast_ediv, Int.toNat_natCast, ← Int.natCast_emod, Int.toNat_natCast]
  unfold Vm.ldV
  rw [hE, e4, e5, getD_set hjl]
  by_cases e : a / v.pl.pg = p
  · rw [if_pos e, if_pos e, if_pos rfl, if_pos e.symm, zeroAt_get hf, if_pos ⟨by simp, by rw [Nat.add_sub_cancel]; omega⟩]
  · have en : ¬ p = a / v.pl.pg := fun h => e h.symm
    rw [if_neg e, if_neg e, if_neg en]
    by_cases h0 : v.ldE a = 0
    · rw [if_pos h0, if_pos h0]
      obtain ⟨j', hj', hj2, hne⟩ := VmOk.hit h0
      obtain rfl : a = j' := by omega
      have hfr := h.fr _ s1 hne
      have hnx := take_ne h.pl hfr
      have hlt := at_lt hfr
      have hat : v.at a = (v.pt.getD (a / v.pl.pg) 0 - 1) * v.pl.pg + a % v.pl.pg := by
        unfold Vm.at
        rw [← Int.natCast_ediv, Int.toNat_natCast, ← Int.natCast_emod, Int.toNat_natCast]
      have hal := h.place_lt h0
      rw [hat] at hal ⊢
      rw [zeroAt_get hf, if_neg]
      · unfold Pl.fresh
        split
        · generalize (v.pt.getD (a / v.pl.pg) 0 - 1) * v.pl.pg + a % v.pl.pg = i at hal
          simp only [List.getD_eq_getElem?_getD]
          rw [List.getElem?_append_left hal]
        · rfl
      · rintro ⟨c1, c2⟩
        generalize v.pt.getD (a / v.pl.pg) 0 - 1 = f at *
        rcases Nat.lt_or_ge f v.pl.next with hl | hl
        · have : (f + 1) * v.pl.pg ≤ v.pl.next * v.pl.pg := Nat.mul_le_mul_right _ hl
          rw [Nat.succ_mul] at this
          omega
        · have : (v.pl.next + 1) * v.pl.pg ≤ f * v.pl.pg := Nat.mul_le_mul_right _ (by omega)
          rw [Nat.succ_mul] at this
          omega
    · rw [if_neg h0, if_neg h0]
theorem VmOk.um_ldE {v : Vm} (h : VmOk v) {p : Nat} (hp : frE v.pt p = 0) {a : Nat} (ha : a < v.n) : (v.um p).ldE a = if a / v.pl.pg = p then 12 else v.ldE a := by
  have e1 : v.um p = { v with pl := v.pl.give (v.pt.getD p 0 - 1), pt := v.pt.set p 0 } := by unfold Vm.um; rw [if_pos hp, Int.toNat_natCast]
  obtain ⟨j, hj, hjl, -⟩ := frE_zero hp
  obtain rfl : p = j := by omega
  have h1 := (h.um p).ldE_of (a := a) (by rw [e1]; exact ha)
  have e2 : (v.um p).pl.pg = v.pl.pg := by rw [e1]; rfl
  have e3 : (v.um p).pt = v.pt.set p 0 := by rw [e1]
  rw [h1, e2, e3, getD_set hjl, h.ldE_of ha]
  by_cases e : a / v.pl.pg = p
  · rw [if_pos e.symm, if_pos e, if_pos rfl]
  · have en : ¬ p = a / v.pl.pg := fun h => e h.symm
    rw [if_neg en, if_neg e]
theorem VmOk.um_ldV {v : Vm} (h : VmOk v) {p : Nat} (hp : frE v.pt p = 0) {a : Nat} (ha : a < v.n) (hne : a / v.pl.pg ≠ p) : (v.um p).ldV a = v.ldV a := by
  have e1 : v.um p = { v with pl := v.pl.give (v.pt.getD p 0 - 1), pt := v.pt.set p 0 } := by unfold Vm.um; rw [if_pos hp, Int.toNat_natCast]
  obtain ⟨j, hj, hjl, -⟩ := frE_zero hp
  obtain rfl : p = j := by omega
  have hE := h.um_ldE hp ha
  rw [if_neg hne] at hE
  have e5 : (v.um p).at a = v.at a := by
    unfold Vm.at
    rw [e1]
    show ((v.pt.set p 0).getD ((a : Int) / (v.pl.pg : Int)).toNat 0 - 1) * v.pl.pg + _ = _
    rw [← Int.natCast_ediv, Int.toNat_natCast, getD_set hjl, if_neg (show ¬ p = a / v.pl.pg from fun h => hne h.symm)]
    rfl
  unfold Vm.ldV
  rw [hE, e5, e1]
  rfl
end Go.Proofs.YtlkifhoedfjlaaaGreatDoor
