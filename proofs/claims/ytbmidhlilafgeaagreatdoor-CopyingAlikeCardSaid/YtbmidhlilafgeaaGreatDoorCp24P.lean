/- Copying a laid heap: the plain law. -/
import Derived.Test.YtbmidhlilafgeaaGreatDoorCpRunP
import Derived.Test.YtbmidhlilafgeaaGreatDoorLay24Q
namespace Go.Proofs.YtbmidhlilafgeaaGreatDoor
open Go.RowKit Word

theorem Run24.map {x : LaidC} {rm : Nat} {v : Vm} (h : Run24 x rm v) : ∀ a : Nat, x.page ≤ a → a < x.top → v.ldE a = 0 := fun a h1 h2 => by
  have h3 := x.top_le
  have h4 := x.page_pos
  rw [h.le a (by unfold LaidC.n; omega), if_pos]
  refine ⟨h1, ?_⟩
  unfold upN
  have := Nat.div_add_mod (x.top + x.page - 1) x.page
  have := Nat.mod_lt (x.top + x.page - 1) (show 0 < x.page by omega)
  have : (x.top + x.page - 1) / x.page * x.page = x.page * ((x.top + x.page - 1) / x.page) := Nat.mul_comm _ _
  omega
/-- A laid heap may be copied. -/
theorem cp24_ok {x : LaidC} {rm : Nat} {v0 : Vm} (h : Run24 x rm v0) : CpOk (layC x v0) x.rs x.cf := by
  have hs := h.stays (Stays.layC h.ok x)
  have hL := laid_in h.ok h.map
  have ht := x.top_le
  refine ⟨?_, ?_, fun L hM => ?_⟩
  · rw [hs.pg, hs.n]; exact x.cfok
  · rw [hs.n]; exact hL.sound h.map
  · rw [hs.n] at hM
    obtain ⟨h1, h2, -⟩ := hL.marks h.map hM
    refine ⟨h1, ?_⟩
    show x.page + 512 + sizes L ≤ x.page + 1024
    omega
theorem LaidC.page_to (x : LaidC) : (x.page + 512) % x.page = 0 ∧ (x.page + 1024) % x.page = 0 ∧ 512 % x.page = 0 := by
  rcases x.page_cases with e | e | e | e | e | e <;> rw [e] <;> decide
theorem LaidC.up_le (x : LaidC) : x.top ≤ upN x.top x.page ∧ upN x.top x.page ≤ x.page + 512 := by
  have ht := x.top_le
  have hp := x.page_pos
  have h512 := x.page_to.2.2
  have h1 := Nat.div_add_mod (x.top + x.page - 1) x.page
  have h2 := Nat.mod_lt (x.top + x.page - 1) (show 0 < x.page by omega)
  unfold upN
  have hc : (x.top + x.page - 1) / x.page * x.page = x.page * ((x.top + x.page - 1) / x.page) := Nat.mul_comm _ _
  refine ⟨by omega, ?_⟩
  obtain ⟨m, hm⟩ : x.page ∣ 512 := Nat.dvd_of_mod_eq_zero h512
  have hq : (x.top + x.page - 1) / x.page < m + 2 := by
    rw [Nat.div_lt_iff_lt_mul (by omega), Nat.add_mul, Nat.mul_comm m, ← hm]
    omega
  have : x.page * ((x.top + x.page - 1) / x.page) ≤ x.page * (m + 1) := Nat.mul_le_mul_left _ (by omega)
  rw [Nat.mul_add, ← hm] at this
  omega
/-- The pages that so many words have. -/
def LaidC.pgs (x : LaidC) (s : Nat) : Nat := (s + x.page - 1) / x.page
/-- How many pages are asked for, and which. -/
theorem need_cp {x : LaidC} {rm : Nat} {v : Vm} (h : Run24 x rm v) {s : Nat} (hs : s ≤ 512) :
    needE v x.cf.to ((x.cf.to + s : Nat) : Int) = (if s = 0 ∨ v.pl.used + x.pgs s ≤ rm then 0 else 14) ∧
    (0 < s → unmL v ((x.cf.to : Int) / v.pl.pg).toNat (pgsN v x.cf.to ((x.cf.to + s : Nat) : Int)) = List.range' (x.cf.to / x.page) (x.pgs s)) := by
  have hp := x.page_pos
  obtain ⟨ht1, ht2, -⟩ := x.page_to
  have hto : x.cf.to = x.page + 512 := rfl
  obtain ⟨b, hb⟩ : x.page ∣ x.page + 512 := Nat.dvd_of_mod_eq_zero ht1
  have hbd : (x.page + 512) / x.page = b := by rw [hb]; exact Nat.mul_div_cancel_left _ (by omega)
  have hlen : v.pt.length = x.n / x.page := by
    have := h.ok.np
    rw [h.n, h.pg] at this
    rw [this]; exact (Nat.mul_div_cancel _ (by omega)).symm
  have key : 0 < s → unmL v ((x.cf.to : Int) / v.pl.pg).toNat (pgsN v x.cf.to ((x.cf.to + s : Nat) : Int)) = List.range' (x.cf.to / x.page) (x.pgs s) := fun h0 => by
    have e1 : ((x.cf.to : Int) / v.pl.pg).toNat = x.cf.to / x.page := by rw [h.pg, ← Int.natCast_ediv]; exact Int.toNat_natCast _
    have e2 : pgsN v x.cf.to ((x.cf.to + s : Nat) : Int) = x.pgs s := by
      unfold pgsN LaidC.pgs
      rw [h.pg, show ((x.cf.to + s : Nat) : Int) - 1 = ((x.cf.to + s - 1 : Nat) : Int) by omega, ← Int.natCast_ediv, ← Int.natCast_ediv, hto, hbd]
      have e3 : (x.page + 512 + s - 1) / x.page = b + (s - 1) / x.page := by
        rw [show x.page + 512 + s - 1 = (s - 1) + x.page * b by omega, Nat.add_mul_div_left _ _ (by omega)]; omega
      have e4 : (s + x.page - 1) / x.page = (s - 1) / x.page + 1 := by
        rw [show s + x.page - 1 = (s - 1) + x.page by omega, Nat.add_div_right _ (by omega)]
      rw [e3, e4]
      generalize (s - 1) / x.page = d
      omega
    rw [e1, e2]
    unfold unmL
    rw [List.filter_eq_self]
    intro p hpm
    rw [List.mem_range'_1] at hpm
    have hpl : (x.cf.to / x.page + x.pgs s) * x.page ≤ x.n := by
      rw [hto, hbd, Nat.add_mul, Nat.mul_comm b, ← hb]
      have h512 := x.page_to.2.2
      obtain ⟨m, hm⟩ : x.page ∣ 512 := Nat.dvd_of_mod_eq_zero h512
      have : x.pgs s ≤ m := by
        unfold LaidC.pgs
        have : (s + x.page - 1) / x.page < m + 1 := by
          rw [Nat.div_lt_iff_lt_mul (by omega), Nat.add_mul, Nat.mul_comm m, ← hm]; omega
        omega
      have := Nat.mul_le_mul_right x.page this
      rw [Nat.mul_comm m, ← hm] at this
      unfold LaidC.n
      omega
    have hlt : p * x.page < x.n := by
      have : (p + 1) * x.page ≤ (x.cf.to / x.page + x.pgs s) * x.page := Nat.mul_le_mul_right _ (by omega)
      rw [Nat.add_mul] at this
      omega
    have hle := h.le (p * x.page) hlt
    have hup := x.up_le.2
    have hge : x.page + 512 ≤ p * x.page := by
      have : b * x.page ≤ p * x.page := Nat.mul_le_mul_right _ (by rw [hto, hbd] at hpm; exact hpm.1)
      rw [Nat.mul_comm b, ← hb] at this
      exact this
    rw [if_neg (by omega)] at hle
    have hld := h.ok.ldE_of (a := p * x.page) (by rw [h.n]; exact hlt)
    rw [hle, h.pg, Nat.mul_div_cancel _ (by omega)] at hld
    split at hld
    · rename_i h0; simp only [beq_iff_eq]; exact h0
    · cases hld
  refine ⟨?_, key⟩
  unfold needE
  rw [h.n, h.rm, if_neg (by rw [hto]; unfold LaidC.n; omega)]
  by_cases h0 : s = 0
  · rw [if_pos (by omega), if_pos (.inl h0)]
  · rw [if_neg (by omega), key (by omega), List.length_range']
    by_cases h1 : v.pl.used + x.pgs s ≤ rm
    · rw [if_pos h1, if_pos (.inr h1)]
    · rw [if_neg h1, if_neg (fun h => h.elim h0 h1)]
/-- What can be loaded behind a copying, and how many pages are mapped. -/
theorem cp24_used {x : LaidC} {rm : Nat} {v v1 v2 : Vm} {L : List Ob} {k kq : Nat} (h : Run24 x rm v) (hs : sizes L ≤ 512) (hE : needE v x.cf.to ((x.cf.to + sizes L : Nat) : Int) = 0) (hD : CpDone v x.rs x.cf L v1 v2 k kq) :
    (∀ a : Nat, a < x.n → ((umN v2 (x.cf.fr / v.pl.pg) kq).ldE a = 0 ↔ x.cf.to ≤ a ∧ a < x.cf.to + x.pgs (sizes L) * x.page)) ∧
    (umN v2 (x.cf.fr / v.pl.pg) kq).pl.used = x.pgs (sizes L) ∧
    ∀ a : Nat, x.cf.to ≤ a → a < x.cf.to + x.pgs (sizes L) * x.page → a < x.n → (umN v2 (x.cf.fr / v.pl.pg) kq).ldV a = v2.ldV a := by
  have hp := x.page_pos
  obtain ⟨ht1, -, h512⟩ := x.page_to
  obtain ⟨b, hb⟩ : x.page ∣ x.page + 512 := Nat.dvd_of_mod_eq_zero ht1
  have hbd : (x.page + 512) / x.page = b := by rw [hb]; exact Nat.mul_div_cancel_left _ (by omega)
  have hto : x.cf.to = b * x.page := by rw [Nat.mul_comm]; exact hb
  have hto2 : x.cf.to = x.page + 512 := rfl
  have hfr : x.cf.fr / v.pl.pg = 1 := by rw [h.pg]; exact Nat.div_self (show 0 < x.page by omega)
  obtain ⟨m, hm⟩ : x.page ∣ 512 := Nat.dvd_of_mod_eq_zero h512
  have hbm : b = m + 1 := by
    have : x.page * b = x.page * (m + 1) := by rw [← hb, Nat.mul_add, ← hm, Nat.mul_one]; exact Nat.add_comm _ _
    exact Nat.eq_of_mul_eq_mul_left (by omega) this
  have hpgm : x.pgs (sizes L) ≤ m := by
    unfold LaidC.pgs
    have : (sizes L + x.page - 1) / x.page < m + 1 := by
      rw [Nat.div_lt_iff_lt_mul (by omega), Nat.add_mul, Nat.mul_comm m, ← hm]; omega
    omega
  have hkq : kq ≤ m := by
    rcases Nat.eq_zero_or_pos kq with h0 | h0
    · omega
    · have := hD.q1 (kq - 1) (by omega)
      rw [hfr, h.pg] at this
      have ht := x.top_le
      have hlt : (1 + (kq - 1)) * x.page < (m + 1) * x.page := by
        rw [Nat.add_mul m, Nat.mul_comm m, ← hm]
        have : (1 + (kq - 1)) * x.page < x.top := this
        omega
      have := Nat.lt_of_mul_lt_mul_right hlt
      omega
  have hok2 := hD.st.cp.ok
  have hsm : SamePg v1 v2 := hD.st.cp.sm
  have hn2 : v2.n = x.n := by rw [hsm.n, hD.gr.n, h.n]
  have hpg2 : v2.pl.pg = x.page := by rw [hsm.pg, hD.gr.pg, h.pg]
  have hnn : x.n = x.page * (2 * m + 1) := by
    unfold LaidC.n
    rw [Nat.mul_add, show x.page * (2 * m) = 2 * (x.page * m) by rw [Nat.mul_left_comm], ← hm]; omega
  have hF : needF v x.cf.to ((x.cf.to + sizes L : Nat) : Int) = List.range' b (x.pgs (sizes L)) := by
    rcases Nat.eq_zero_or_pos (sizes L) with h0 | h0
    · have e0 : x.pgs (sizes L) = 0 := by rw [h0]; unfold LaidC.pgs; exact Nat.div_eq_of_lt (by omega)
      rw [e0]
      unfold needF
      rw [if_neg (by omega)]; rfl
    · unfold needF
      rw [if_pos ⟨hE, by omega⟩, (need_cp h hs).2 h0, hto2, hbd]
  have hld : ∀ a : Nat, a < x.n → ((umN v2 (x.cf.fr / v.pl.pg) kq).ldE a = 0 ↔ b ≤ a / x.page ∧ a / x.page < b + x.pgs (sizes L)) := fun a ha => by
    rw [umN_ldE hok2 _ _ (by rw [hn2]; exact ha), hfr, hpg2, hsm.ldE, hD.gr.ldE h.ok (by rw [h.n]; exact ha), hF, h.pg, h.le a ha]
    have hmem : a / x.page ∈ List.range' b (x.pgs (sizes L)) ↔ b ≤ a / x.page ∧ a / x.page < b + x.pgs (sizes L) := by rw [List.mem_range'_1]
    by_cases h1 : 1 ≤ a / x.page ∧ a / x.page < 1 + kq
    · rw [if_pos h1]
      exact ⟨fun h => absurd h (by decide), fun h => by omega⟩
    · rw [if_neg h1]
      by_cases h2 : a / x.page ∈ List.range' b (x.pgs (sizes L))
      · rw [if_pos h2]
        exact ⟨fun _ => hmem.1 h2, fun _ => rfl⟩
      · rw [if_neg h2]
        have h3 : ¬ (x.page ≤ a ∧ a < upN x.top x.page) := fun ⟨h4, h5⟩ => h1 (by
          have h6 : 1 ≤ a / x.page := by rw [Nat.le_div_iff_mul_le (by omega)]; omega
          refine ⟨h6, ?_⟩
          have h7 := hD.q2
          rw [hfr, h.pg] at h7
          have h7 : x.top ≤ (1 + kq) * x.page := h7
          rw [Nat.div_lt_iff_lt_mul (by omega)]
          refine Nat.lt_of_lt_of_le h5 ?_
          unfold upN
          refine Nat.mul_le_mul_right _ ?_
          have : (x.top + x.page - 1) / x.page < 1 + kq + 1 := by
            rw [Nat.div_lt_iff_lt_mul (by omega), Nat.add_mul (1 + kq)]; omega
          omega)
        rw [if_neg h3]
        exact ⟨fun h => absurd h (by decide), fun h => absurd (hmem.2 h) h2⟩
  have hiff : ∀ a : Nat, (b ≤ a / x.page ∧ a / x.page < b + x.pgs (sizes L)) ↔ (x.cf.to ≤ a ∧ a < x.cf.to + x.pgs (sizes L) * x.page) := fun a => by
    rw [Nat.le_div_iff_mul_le (by omega), Nat.div_lt_iff_lt_mul (by omega), Nat.add_mul, ← hto]
  refine ⟨fun a ha => (hld a ha).trans (hiff a), ?_, fun a h1 h2 h3 => ?_⟩
  · have hok3 := umN_ok hok2 (x.cf.fr / v.pl.pg) kq
    obtain ⟨s1, s2, -, -⟩ := umN_same v2 (x.cf.fr / v.pl.pg) kq
    refine used_run hok3 (p0 := b) ?_ (fun a ha => ?_)
    · rw [s2, s1, hn2, hpg2, hnn, Nat.mul_comm]
      exact Nat.mul_le_mul_left _ (by omega)
    · rw [s1, hn2] at ha
      rw [s2, hpg2, hld a ha, hiff, Nat.add_mul, ← hto]
  · refine umN_ldV hok2 _ _ (by rw [hn2]; exact h3) ?_
    rw [hfr, hpg2]
    have := (hiff a).2 ⟨h1, h2⟩
    omega
end Go.Proofs.YtbmidhlilafgeaaGreatDoor
