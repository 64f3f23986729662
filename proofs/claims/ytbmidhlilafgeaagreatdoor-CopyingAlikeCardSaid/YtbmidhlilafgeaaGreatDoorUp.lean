/- masks.Up, at a unit that is a block size. -/
import Derived.Test.YtbmidhlilafgeaaGreatDoorK4
namespace Go.Proofs.YtbmidhlilafgeaaGreatDoor
open Go.RowKit Word

theorem pow_le (k : Nat) (hk : k ≤ 10) : 2 ^ k ≤ 1024 := Nat.pow_le_pow_right (by decide) hk
theorem block_pow {n : Int} (h : blockOk n = true) : ∃ k : Nat, k ≤ 10 ∧ n = ((2 ^ k : Nat) : Int) := by
  simp [blockOk] at h
  rcases h with rfl | rfl | rfl | rfl | rfl | rfl | rfl | rfl | rfl | rfl | rfl
  · exact ⟨0, by decide, rfl⟩
  · exact ⟨1, by decide, rfl⟩
  · exact ⟨2, by decide, rfl⟩
  · exact ⟨3, by decide, rfl⟩
  · exact ⟨4, by decide, rfl⟩
  · exact ⟨5, by decide, rfl⟩
  · exact ⟨6, by decide, rfl⟩
  · exact ⟨7, by decide, rfl⟩
  · exact ⟨8, by decide, rfl⟩
  · exact ⟨9, by decide, rfl⟩
  · exact ⟨10, by decide, rfl⟩
theorem and_high {x k : Nat} (hk : k ≤ 63) (hx : x < 18446744073709551616) : x &&& (18446744073709551615 - (2 ^ k - 1)) = x / 2 ^ k * 2 ^ k := by
  have h2 : 2 ^ k ≤ 2 ^ 63 := Nat.pow_le_pow_right (by decide) hk
  have h3 : 0 < 2 ^ k := Nat.two_pow_pos k
  have e : 18446744073709551615 - (2 ^ k - 1) = (2 ^ (64 - k) - 1) * 2 ^ k := by
    rw [Nat.sub_mul, ← Nat.pow_add, show 64 - k + k = 64 by omega]
    show _ = 18446744073709551616 - 1 * 2 ^ k
    omega
  rw [e]
  apply Nat.eq_of_testBit_eq
  intro i
  rw [Nat.testBit_and, Nat.testBit_mul_two_pow, Nat.testBit_mul_two_pow, Nat.testBit_div_two_pow, Nat.testBit_two_pow_sub_one]
  by_cases hi : k ≤ i
  · rw [decide_eq_true hi, show i - k + k = i by omega]
    by_cases h64 : i < 64
    · rw [decide_eq_true (show i - k < 64 - k by omega)]; simp
    · have : x.testBit i = false := Nat.testBit_lt_two_pow (Nat.lt_of_lt_of_le (show x < 2 ^ 64 from hx) (Nat.pow_le_pow_right (by decide) (by omega)))
      rw [this]; simp
  · rw [decide_eq_false (show ¬ i ≥ k by omega)]; simp
theorem andNot_pow {x k : Nat} (hk : k ≤ 10) (hx : x < 9223372036854775808) : bits .andNot .i64 (x : Int) ((2 ^ k : Nat) - 1 : Int) = ((x / 2 ^ k * 2 ^ k : Nat) : Int) := by
  have hp := pow_le k hk
  have h3 : 0 < 2 ^ k := Nat.two_pow_pos k
  have h1 : (BitVec.ofInt 64 (x : Int)).toNat = x := by
    rw [BitVec.ofInt_natCast, BitVec.toNat_ofNat]; exact Nat.mod_eq_of_lt (by omega)
  have e : ((2 ^ k : Nat) - 1 : Int) = ((2 ^ k - 1 : Nat) : Int) := by omega
  have h2 : (BitVec.ofInt 64 ((2 ^ k : Nat) - 1 : Int)).toNat = 2 ^ k - 1 := by
    rw [e, BitVec.ofInt_natCast, BitVec.toNat_ofNat]; exact Nat.mod_eq_of_lt (by omega)
  show IntKind.i64.wrap ((BitVec.ofInt 64 (x : Int) &&& ~~~ BitVec.ofInt 64 ((2 ^ k : Nat) - 1 : Int)).toNat : Int) = _
  rw [BitVec.toNat_and, BitVec.toNat_not, h1, h2]
  have : 2 ^ 64 - 1 - (2 ^ k - 1) = 18446744073709551615 - (2 ^ k - 1) := rfl
  rw [this, and_high (by omega) (by omega)]
  have hle : x / 2 ^ k * 2 ^ k ≤ x := Nat.div_mul_le_self x _
  exact IntWalk.i64_in _ (by omega)
set_option maxHeartbeats 800000 in
theorem fits_ok (n : Nat) (hn : n ≤ 1152921504606846976) {u : Int} (hu : blockOk u = true) (w : World) :
    Calls Tryz.prog 169 #[.int .i64 n, .int .i64 u] w fun e w' => e = .returned (.bool true) ∧ w = w' := by
  have hb := blockOk_pos hu
  have HP : Hid (powB u = true) := ⟨by rw [blockOk_eq] at hu; simp at hu; exact hu.1⟩
  clear hu
  have d1 : decide ((n : Int) ≤ 1152921504606846976) = true := decide_eq_true (by omega)
  go_enter Tryz.func169, Tryz.ntmps169
  go_wp2_with (go_at_call 114; refine (power_any u (by omega) _).mono ?_; rintro e w1 ⟨rfl, rfl⟩; rw [HP.out])
  go_ret
  exact ⟨rfl, rfl⟩
/-- Up, at a block's size: so many whole ones. -/
theorem up_block (n B : Nat) (hn : n ≤ 1152921504606846976) (hB : blockOk B = true) (w : World) :
    Calls Tryz.prog 116 #[.int .i64 n, .int .i64 B] w fun e w' => e = .returned (.int .i64 ((n + B - 1) / B * B : Nat)) ∧ w = w' := by
  have hb := blockOk_pos hB
  obtain ⟨k, hk, e⟩ := block_pow hB
  have e' : B = 2 ^ k := Int.ofNat.inj e
  have HE : Hid (bits .andNot .i64 ((n : Int) + (B : Int) - 1) ((B : Int) - 1) = (((n + B - 1) / B * B : Nat) : Int)) := ⟨by
    have := andNot_pow (x := n + B - 1) hk (by omega)
    rw [← e'] at this
    rw [← this]; congr 1; omega⟩
  have HB := hid hB
  clear hB e e'
  go_enter Tryz.func116, Tryz.ntmps116
  go_wp2_with (go_at_call 169; refine (fits_ok n hn HB.out _).mono ?_; rintro e w1 ⟨rfl, rfl⟩)
  go_ret
  exact ⟨ret_int HE.out, rfl⟩
end Go.Proofs.YtbmidhlilafgeaaGreatDoor
