/- Contracts of the reference of layer 12. -/
import Derived.Test.YtlbbkpjfoabobaaDoorPower
import Derived.Test.YtlbbkpjfoabobaaDoorRef11
namespace Go.Proofs.YtlbbkpjfoabobaaDoor
open Go.RowKit Word

/-- How many blocks of B there are in n. -/
def nbl (n B : Nat) : Nat := (n + B - 1) / B
theorem nbl_eq {n B j : Nat} (hB : 1 ≤ B) (h1 : n ≤ j * B) (h2 : ∀ i, i < j → i * B < n) : nbl n B = j := by
  unfold nbl
  refine Nat.div_eq_of_lt_le ?_ ?_
  · cases j with
    | zero => simp
    | succ i =>
      have := h2 i (by omega)
      rw [Nat.succ_mul]; omega
  · rw [Nat.succ_mul]; omega
theorem nbl_lt {n B j : Nat} (hB : 1 ≤ B) : j < nbl n B ↔ j * B < n := by
  unfold nbl
  constructor
  · intro h
    have h2 := (Nat.le_div_iff_mul_le (by omega : 0 < B)).1 (show j + 1 ≤ (n + B - 1) / B from h)
    rw [Nat.succ_mul] at h2; omega
  · intro h
    show j + 1 ≤ _
    rw [Nat.le_div_iff_mul_le (by omega), Nat.succ_mul]; omega

set_option maxRecDepth 100000 in
set_option maxHeartbeats 800000 in
theorem ref_may12 (n : Int) (w : World) : Calls Tryd.prog 47 #[.int .i64 n] w fun e w' => e = .returned (.bool (blockOk n)) ∧ w = w' := by
  go_enter Tryd.func47, Tryd.ntmps47
  go_wp2
  go_loop [3] (fun i => ∃ k : Nat, k ∈ [1, 2, 4, 8, 16, 32, 64, 128, 256, 512, 1024, 2048] ∧ Hid (∀ j : Nat, j < k → j ∈ [1, 2, 4, 8, 16, 32, 64, 128, 256, 512, 1024, 2048] → n ≠ j) ∧ i = .int .i64 k) (fun i => 2049 - (intOf i).toNat)
  case atStart => exact ⟨1, by decide, ⟨fun j h1 h2 => by simp at h2; omega⟩, rfl⟩
  case round =>
    obtain ⟨k, hk, hno, rfl⟩ := hrel
    have hk1 : 1 ≤ k ∧ k ≤ 2048 := by simp at hk; omega
    by_cases hle : k ≤ 1024
    · by_cases hn : n = k
      · have hok : blockOk n = true := by rw [hn]; simp at hk; rcases hk with rfl | rfl | rfl | rfl | rfl | rfl | rfl | rfl | rfl | rfl | rfl | rfl <;> first | rfl | omega
        have hb : ((k : Int) == n) = true := by simp; omega
        subst hn
        have HK := hid hok
        clear hok hno hk
        go_wp2
        go_ret
        exact ⟨ret_bool HK.out.symm, rfl⟩
      · have hb : ((k : Int) == n) = false := by simp; omega
        have hn' : (k : Int) ≠ n := fun h => hn h.symm
        have hk2 : Hid (k * 2 ∈ [1, 2, 4, 8, 16, 32, 64, 128, 256, 512, 1024, 2048]) := ⟨by simp at hk ⊢; omega⟩
        have hno2 : Hid (∀ j : Nat, j < k * 2 → j ∈ [1, 2, 4, 8, 16, 32, 64, 128, 256, 512, 1024, 2048] → n ≠ j) := ⟨fun j h1 h2 => by
          by_cases e : j < k
          · exact hno.out j e h2
          · have : j = k := by simp at hk h2; omega
            rw [this]; exact hn⟩
        clear hno hk hn
        go_wp2
        go_round
        case rel => exact ⟨k * 2, hk2.out, hno2, by go_num⟩
        case measure => simp [intOf]; omega
    · have hok : Hid (blockOk n = false) := ⟨by
        cases h : blockOk n with
        | false => rfl
        | true =>
          have hp := blockOk_pos h
          exact absurd (show n = (n.toNat : Int) by omega) (hno.out n.toNat (by simp at hk; omega) (by simp [blockOk] at h ⊢; omega))⟩
      clear hno hk
      go_wp2
      go_ret
      exact ⟨ret_bool hok.out.symm, rfl⟩

set_option maxRecDepth 100000 in
set_option maxHeartbeats 800000 in
theorem ref_blocks {g : Option Addr} {len c : Nat} (hl : len ≤ 1048576) (B : Nat) (hB : 1 ≤ B) (hB2 : B ≤ 1024) (w : World) :
    Calls Tryd.prog 51 #[.slice g len c, .int .i64 B] w fun e w' => e = .returned (.int .i64 (nbl len B : Nat)) ∧ w = w' := by
  go_enter Tryd.func51, Tryd.ntmps51
  go_wp2
  go_loop [5, 6] (fun n i => ∃ j t : Nat, Hid (t = j * B) ∧ t ≤ 1048576 + 1024 ∧ j ≤ t ∧ Hid (∀ i, i < j → i * B < len) ∧ n = .int .i64 j ∧ i = .int .i64 t) (fun _ i => 1048576 + 1025 - (intOf i).toNat)
  case atStart => exact ⟨0, 0, ⟨by simp⟩, by omega, by omega, ⟨fun i h => by omega⟩, rfl, rfl⟩
  case round =>
    obtain ⟨j, t, ht, hb, hjt, hno, rfl, rfl⟩ := hrel
    by_cases hlt : t < len
    · have h1 : Hid (t + B = (j + 1) * B) := ⟨by rw [Nat.succ_mul, ht.out]⟩
      have h2 : Hid (∀ i, i < j + 1 → i * B < len) := ⟨fun i hi => by
        by_cases e : i = j
        · rw [e, ← ht.out]; exact hlt
        · exact hno.out i (by omega)⟩
      clear ht hno
      go_wp2
      go_round
      case rel => exact ⟨j + 1, t + B, h1, by omega, by omega, h2, by go_num, by go_num⟩
      case measure => simp [intOf]; omega
    · have E := hid (nbl_eq hB (show len ≤ j * B by rw [← ht.out]; omega) hno.out)
      clear ht hno
      go_wp2
      go_ret
      exact ⟨ret_int (by rw [E.out]), rfl⟩
def aheadV (l : List Bool) (B : Nat) (b : Int) : Int := if b < 0 ∨ (nbl l.length B : Int) ≤ b then 0 else (countL l 0 (b * B) : Nat)
def aheadE (n B : Nat) (b : Int) : Int := if b < 0 ∨ (nbl n B : Int) ≤ b then 11 else 0
set_option maxRecDepth 100000 in
set_option maxHeartbeats 800000 in
theorem ref_ahead {w : World} {g c : Nat} {l : List Bool} (hB : Bools w g l) (B : Nat) (h1 : 1 ≤ B) (h2 : B ≤ 1024) (b : Int) :
    Calls Tryd.prog 49 #[.slice (some ⟨g, 0, none⟩) l.length c, .int .i64 B, .int .i64 b] w fun e w' => e = .returned (.tuple #[.int .i64 (aheadV l B b), .int .i64 (aheadE l.length B b)]) ∧ w = w' := by
  have n2 := hB.n2
  have HB := hid hB
  clear hB
  by_cases h0 : b < 0
  · have d0 : decide (b < 0) = true := by simp [h0]
    have e1 : aheadV l B b = 0 := by unfold aheadV; rw [if_pos (.inl h0)]
    have e2 : aheadE l.length B b = 11 := by unfold aheadE; rw [if_pos (.inl h0)]
    rw [e1, e2]
    go_enter Tryd.func49, Tryd.ntmps49
    go_wp2
    go_ret2
    exact ⟨ret2 rfl rfl, rfl⟩
  · obtain ⟨j, rfl⟩ : ∃ j : Nat, b = j := ⟨b.toNat, by omega⟩
    obtain ⟨N, hN⟩ : ∃ N, N = nbl l.length B := ⟨_, rfl⟩
    have d0 : decide ((j : Int) < 0) = false := by simp
    by_cases hj : N ≤ j
    · have e1 : aheadV l B j = 0 := by unfold aheadV; rw [if_pos (by omega)]
      have e2 : aheadE l.length B j = 11 := by unfold aheadE; rw [if_pos (by omega)]
      rw [e1, e2]
      have HN := hid hN
      have d1 : decide (N ≤ j) = true := by simp [hj]
      clear hN
      go_enter Tryd.func49, Tryd.ntmps49
      go_wp2_with (go_at_call 51; refine (ref_blocks n2 B h1 h2 _).mono ?_; rintro e w1 ⟨rfl, rfl⟩; rw [← HN.out])
      go_ret2
      exact ⟨ret2 rfl rfl, rfl⟩
    · have e1 : aheadV l B j = (countL l 0 ((j : Int) * B) : Nat) := by unfold aheadV; rw [if_neg (by omega)]
      have e2 : aheadE l.length B j = 0 := by unfold aheadE; rw [if_neg (by omega)]
      have hjb : j * B < l.length := (nbl_lt h1).1 (by omega)
      obtain ⟨t, ht⟩ : ∃ t, t = j * B := ⟨_, rfl⟩
      have ht' : (j : Int) * (B : Int) = (t : Int) := by rw [ht]; push_cast; rfl
      rw [e1, e2, ht']
      have HN := hid hN
      have d1 : decide (N ≤ j) = false := by simp; omega
      have htl : (t : Int) ≤ 1048576 := by omega
      clear hN ht hjb
      go_enter Tryd.func49, Tryd.ntmps49
      go_wp2_with (first
        | (go_at_call 51; refine (ref_blocks n2 B h1 h2 _).mono ?_; rintro e w1 ⟨rfl, rfl⟩; rw [← HN.out])
        | (go_at_call 30; first | rw [ht'] | skip; refine (ref_count HB.out _ _).mono ?_; rintro e w1 ⟨rfl, rfl⟩))
      go_ret2
      exact ⟨ret2 (by first | rfl | rw [ht']) rfl, rfl⟩
end Go.Proofs.YtlbbkpjfoabobaaDoor
