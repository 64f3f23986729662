/- Contracts of package masks and of the three functions of math/bits that it calls: what each returns on every argument, as plain functions on numbers; none writes memory. masks.Power, and the reference's May of layer 12. What every row of these statements wants: the table's cells out of the row's list, a start that meets it, the arguments read again, and the end of a law that returns true and touches nothing. Contracts of bitvec's methods at a nil Vector. -/
import Derived.Test.YtbmidhlilafgeaaGreatDoorProg
import Derived.Test.YtbmidhlilafgeaaGreatDoorK1
import Derived.Test.YtbmidhlilafgeaaGreatDoorK2
import Derived.Test.YtbmidhlilafgeaaGreatDoorCards
import Derived.Test.YtbmidhlilafgeaaGreatDoorTie
import Derived.ProofKit
import Derived.OpenShut
import Derived.Deep.DeepHandedRow
import Derived.Deep.Slices
import Derived.Lib.SmallJoins
import Derived.Lib.LaidTab
section
namespace Go.Proofs.YtbmidhlilafgeaaGreatDoor
open Go.RowKit Word

theorem ret_int {k : IntKind} {a b : Int} (h : a = b) : Ending.returned (.int k a) = .returned (.int k b) := by rw [h]
theorem ret_bool {a b : Bool} (h : a = b) : Ending.returned (.bool a) = .returned (.bool b) := by rw [h]
theorem and64 (a b : Nat) (ha : a < 18446744073709551616) (hb : b < 18446744073709551616) : bits .and .u64 (a : Int) (b : Int) = ((a &&& b : Nat) : Int) := bits_and_u64_nat a b ha hb
theorem wrap_u64_nat (x : Nat) (hx : x < 18446744073709551616) : IntKind.u64.wrap (x : Int) = (x : Int) := IntWalk.u64_in _ (by omega)
theorem wrap_u64_mod (x : Nat) : IntKind.u64.wrap (x : Int) = ((x % 18446744073709551616 : Nat) : Int) := by rw [IntKind.wrap_u64]; omega

set_option maxHeartbeats 400000 in
theorem clip_any (n : Int) (w : World) :
    Calls Tryz.prog 233 #[.int .i64 n] w fun e w' => e = .returned (.int .i64 (clip n)) ∧ w = w' := by
  go_enter Tryz.func233, Tryz.ntmps233
  go_wp2
  all_goals (go_ret; exact ⟨ret_int (by unfold clip; omega), rfl⟩)

set_option maxHeartbeats 400000 in
theorem run_any (a b : Int) (w : World) :
    Calls Tryz.prog 224 #[.int .i64 a, .int .i64 b] w fun e w' => e = .returned (.int .u64 (runW a b : Nat)) ∧ w = w' := by
  have ha := clip_bd a
  have hb := clip_bd b
  go_enter Tryz.func224, Tryz.ntmps224
  go_wp2_with (go_at_call 233; refine (clip_any _ _).mono ?_; rintro e w' ⟨rfl, rfl⟩)
  · go_ret
    have h : clip b ≤ clip a := by assumption
    refine ⟨ret_int ?_, rfl⟩
    have : runW a b = 0 := by unfold runW maskN; rw [if_pos (by omega)]
    rw [this]; rfl
  · go_ret
    have h : clip a < clip b := by assumption
    refine ⟨ret_int ?_, rfl⟩
    rw [runW_code a b h]
    exact wrap_u64_nat _ (runW_lt a b)

/-! math/bits -/
theorem s1_lt (x : Nat) : s1 8 x < 18446744073709551616 := by
  unfold s1
  have h1 : (x / 2) &&& rep 85 8 ≤ rep 85 8 := Nat.and_le_right
  have h2 : x &&& rep 85 8 ≤ rep 85 8 := Nat.and_le_right
  have e : rep 85 8 = 6148914691236517205 := by decide +kernel
  omega
theorem s2_lt (x : Nat) : s2 8 x < 18446744073709551616 / 2 := by
  unfold s2
  have h1 : (x / 4) &&& rep 51 8 ≤ rep 51 8 := Nat.and_le_right
  have h2 : x &&& rep 51 8 ≤ rep 51 8 := Nat.and_le_right
  have e : rep 51 8 = 3689348814741910323 := by decide +kernel
  omega
theorem s3_lt (x : Nat) : s3 8 x < 18446744073709551616 / 2 := by
  unfold s3
  have h2 : (x / 16 + x) &&& rep 15 8 ≤ rep 15 8 := Nat.and_le_right
  have e : rep 15 8 = 1085102592571150095 := by decide +kernel
  omega
theorem oc1 (x : Nat) (hx : x < 18446744073709551616) :
    IntKind.u64.wrap (bits .and .u64 ((x : Int) / 2) 6148914691236517205 + bits .and .u64 (x : Int) 6148914691236517205) = ((s1 8 x : Nat) : Int) := by
  have a1 := and64 (x / 2) 6148914691236517205 (by omega) (by decide)
  have a2 := and64 x 6148914691236517205 hx (by decide)
  rw [show ((x : Int) / 2) = ((x / 2 : Nat) : Int) by omega, show (6148914691236517205 : Int) = ((6148914691236517205 : Nat) : Int) from rfl, a1, a2]
  have e : rep 85 8 = 6148914691236517205 := by decide +kernel
  rw [← Int.natCast_add, ← e]
  exact wrap_u64_nat _ (s1_lt x)
theorem oc2 (x : Nat) (hx : x < 18446744073709551616) :
    IntKind.u64.wrap (bits .and .u64 ((x : Int) / 4) 3689348814741910323 + bits .and .u64 (x : Int) 3689348814741910323) = ((s2 8 x : Nat) : Int) := by
  have a1 := and64 (x / 4) 3689348814741910323 (by omega) (by decide)
  have a2 := and64 x 3689348814741910323 hx (by decide)
  rw [show ((x : Int) / 4) = ((x / 4 : Nat) : Int) by omega, show (3689348814741910323 : Int) = ((3689348814741910323 : Nat) : Int) from rfl, a1, a2]
  have e : rep 51 8 = 3689348814741910323 := by decide +kernel
  rw [← Int.natCast_add, ← e]
  exact wrap_u64_nat _ (by have := s2_lt x; unfold s2 at this; omega)
theorem oc3 (x : Nat) (hx : x < 18446744073709551616 / 2) :
    bits .and .u64 (IntKind.u64.wrap ((x : Int) / 16 + (x : Int))) 1085102592571150095 = ((s3 8 x : Nat) : Int) := by
  have a1 := and64 (x / 16 + x) 1085102592571150095 (by omega) (by decide)
  rw [show ((x : Int) / 16 + (x : Int)) = ((x / 16 + x : Nat) : Int) by omega, wrap_u64_nat _ (by omega), show (1085102592571150095 : Int) = ((1085102592571150095 : Nat) : Int) from rfl, a1]
  have e : rep 15 8 = 1085102592571150095 := by decide +kernel
  unfold s3; rw [e]
theorem oc4 (x d : Nat) (D : Int) (hD : D = (d : Int)) : IntKind.u64.wrap ((x : Int) + (x : Int) / D) = (((x + x / d) % 18446744073709551616 : Nat) : Int) := by
  rw [hD, ← Int.natCast_ediv, ← Int.natCast_add, wrap_u64_mod]
theorem oc5 (x : Nat) (hx : x < 18446744073709551616) : bits .and .i64 (wrap64 (x : Int)) 127 = ((x % 128 : Nat) : Int) := by
  rw [← IntWalk.i64_left]
  have h2 : (BitVec.ofInt 64 (IntKind.i64.wrap (x : Int))).toNat = x := by
    rw [IntKind.wrap_i64, BitVec.toNat_ofInt]; simp; omega
  have h3 : (BitVec.ofInt 64 (127 : Int)).toNat = 127 := by decide
  show IntKind.i64.wrap ((BitVec.ofInt 64 (IntKind.i64.wrap (x : Int)) &&& BitVec.ofInt 64 127).toNat : Int) = _
  rw [BitVec.toNat_and, h2, h3]
  have : x &&& 127 = x % 128 := Nat.and_two_pow_sub_one_eq_mod x 7
  rw [this]
  exact IntWalk.i64_in _ (by omega)

set_option maxHeartbeats 800000 in
theorem ones_any (x : Nat) (hx : x < 18446744073709551616) (w : World) :
    Calls Tryz.prog 230 #[.int .u64 (x : Nat)] w fun e w' => e = .returned (.int .i64 (pc x : Nat)) ∧ w = w' := by
  have HF := fold_ok _ x rfl
  obtain ⟨y1, h1⟩ : ∃ y, y = s1 8 x := ⟨_, rfl⟩
  obtain ⟨y2, h2⟩ : ∃ y, y = s2 8 y1 := ⟨_, rfl⟩
  obtain ⟨y3, h3⟩ : ∃ y, y = s3 8 y2 := ⟨_, rfl⟩
  have ht : t 8 x = y3 := by rw [h3, h2, h1]; rfl
  rw [ht] at HF
  have K1 := hid (h1 ▸ oc1 x hx)
  have K2 := hid (h2 ▸ oc2 y1 (h1 ▸ s1_lt x))
  have K3 := hid (h3 ▸ oc3 y2 (h2 ▸ s2_lt y1))
  obtain ⟨z1, g1⟩ : ∃ z, z = (y3 + y3 / 256) % 18446744073709551616 := ⟨_, rfl⟩
  obtain ⟨z2, g2⟩ : ∃ z, z = (z1 + z1 / 65536) % 18446744073709551616 := ⟨_, rfl⟩
  obtain ⟨z3, g3⟩ : ∃ z, z = (z2 + z2 / 4294967296) % 18446744073709551616 := ⟨_, rfl⟩
  simp only [← g1, ← g2, ← g3] at HF
  have K4 := hid (g1 ▸ oc4 y3 256 256 (by omega))
  have K5 := hid (g2 ▸ oc4 z1 65536 65536 (by omega))
  have K6 := hid (g3 ▸ oc4 z2 4294967296 4294967296 (by omega))
  have K7 := hid (oc5 z3 (by omega))
  clear h1 h2 h3 ht g1 g2 g3 hx
  have HF' := hid HF
  clear HF
  go_enter Tryz.func230, Tryz.ntmps230
  go_upto_region 2 with (fail)
  rw [K1.out]
  go_upto_region 3 with (fail)
  rw [K2.out]
  go_upto_region 4 with (fail)
  rw [K3.out]
  go_upto_region 5 with (fail)
  rw [K4.out]
  go_upto_region 6 with (fail)
  rw [K5.out]
  go_upto_region 7 with (fail)
  rw [K6.out]
  go_wp2
  go_ret
  refine ⟨ret_int ?_, rfl⟩
  rw [← HF'.out, ← K7.out]

/-- The table that math/bits.TrailingZeros64 reads lies where the program lays it. -/
def TabAt (w : World) : Prop := ∀ i, i < 64 → w.cell? ⟨0, i, none⟩ = some (.int .u8 (tab.getD i 0 : Nat))

theorem neg_u64 (x : Nat) (h0 : x ≠ 0) (hx : x < 18446744073709551616) : IntKind.u64.wrap (-(x : Int)) = ((18446744073709551616 - x : Nat) : Int) := by
  rw [IntKind.wrap_u64]; omega

set_option maxRecDepth 100000 in
set_option maxHeartbeats 800000 in
theorem tz_any (x : Nat) (hx : x < 18446744073709551616) (w : World) (ht : x ≠ 0 → TabAt w) :
    Calls Tryz.prog 229 #[.int .u64 (x : Nat)] w fun e w' => e = .returned (.int .i64 (tz x : Nat)) ∧ w = w' := by
  by_cases h0 : x = 0
  · subst h0
    clear ht hx
    go_enter Tryz.func229, Tryz.ntmps229
    go_wp2
    go_ret
    exact ⟨ret_int (by rw [tz_zero]; rfl), rfl⟩
  · have hT := ht h0
    obtain ⟨i1, i2⟩ := tzIx_ok hx h0
    have hc := hT _ i1
    rw [i2] at hc
    have hle := tz_le x
    have hb0 : ¬ ((x : Int) = 0) := by omega
    obtain ⟨nx, hnx⟩ : ∃ n, n = 18446744073709551616 - x := ⟨_, rfl⟩
    obtain ⟨m, hm⟩ : ∃ n, n = x &&& nx := ⟨_, rfl⟩
    obtain ⟨q, hq⟩ : ∃ n, n = m * 285870213051353865 % 18446744073709551616 := ⟨_, rfl⟩
    obtain ⟨ix, hix⟩ : ∃ n, n = q / 288230376151711744 := ⟨_, rfl⟩
    have e : tzIx x = ix := by unfold tzIx; rw [hix, hq, hm, hnx]
    have h7 : IntKind.u64.wrap (-(x : Int)) = (nx : Int) := by rw [hnx]; exact neg_u64 x h0 hx
    have h8 : bits .and .u64 (x : Int) (nx : Int) = (m : Int) := by rw [hm]; exact and64 x nx hx (by omega)
    have h9 : IntKind.u64.wrap ((m : Int) * 285870213051353865) = (q : Int) := by
      rw [hq, show (m : Int) * 285870213051353865 = ((m * 285870213051353865 : Nat) : Int) by omega, wrap_u64_mod]
    have h10 : (q : Int) / 288230376151711744 = (ix : Int) := by omega
    rw [e] at hc i1
    generalize tz x = k at *
    clear hx ht hT hnx hm hq hix e h0 i2
    go_enter Tryz.func229, Tryz.ntmps229
    go_wp2
    go_ret
    exact ⟨rfl, rfl⟩

theorem len8_at (s : ByteArray) (v : Nat) (h : v < s.size) (hs : s.data.toList.map (fun c => (c.toNat : Int)) = (List.range 256).map (fun i => len i)) : ((s[v]'h).toNat : Int) = len v := by
  have h1 : (s.data.toList.map (fun c => (c.toNat : Int)))[v]? = some ((s[v]'h).toNat : Int) := by
    rw [List.getElem?_map, List.getElem?_eq_getElem (show v < s.data.toList.length from h)]; rfl
  have hl : s.data.toList.length = 256 := by have := congrArg List.length hs; simpa using this
  have hv : v < 256 := by rw [← hl]; exact h
  rw [hs, List.getElem?_map, List.getElem?_range hv] at h1
  simpa using h1.symm
def lenStep (x y : Nat) (n : Int) (k : Nat) : Prop := y < 2 ^ k ∧ len x = n + len y ∧ 0 ≤ n ∧ n + k ≤ 64
theorem lenStep_up {x y : Nat} {n : Int} {k j : Nat} (h : lenStep x y n k) (hk : k ≤ 64) (hy : 2 ^ j ≤ y) (hj2 : k = 2 * j) : lenStep x (y / 2 ^ j) (n + j) j := by
  obtain ⟨h1, h2, h3, h4⟩ := h
  refine ⟨?_, ?_, ?_, ?_⟩
  · refine (Nat.div_lt_iff_lt_mul (Nat.two_pow_pos j)).2 (Nat.lt_of_lt_of_le h1 ?_)
    rw [← Nat.pow_add]; exact Nat.pow_le_pow_right (by decide) (by omega)
  · rw [h2, len_shift (Nat.lt_of_lt_of_le h1 (Nat.pow_le_pow_right (by decide) hk)) hy]; omega
  · omega
  · omega
theorem lenStep_stay {x y : Nat} {n : Int} {k j : Nat} (h : lenStep x y n k) (hj : j ≤ k) (hy : ¬ 2 ^ j ≤ y) : lenStep x y n j := by
  obtain ⟨h1, h2, h3, h4⟩ := h
  exact ⟨by omega, h2, h3, by omega⟩
set_option maxRecDepth 100000 in
set_option maxHeartbeats 800000 in
theorem len_any (x : Nat) (hx : x < 18446744073709551616) (w : World) :
    Calls Tryz.prog 223 #[.int .u64 (x : Nat)] w fun e w' => e = .returned (.int .i64 (len x)) ∧ w = w' := by
  have hx' : lenStep x x 0 64 := ⟨hx, by omega, by omega, by omega⟩
  clear hx
  go_enter Tryz.func223, Tryz.ntmps223
  go_upto_if 4 with (fail)
  go_cut [0, 2] from 3 (fun a b w' => w' = w ∧ ∃ (y : Nat) (n : Int), lenStep x y n 32 ∧ a = .int .u64 y ∧ b = .int .i64 n)
  case first =>
    rcases Nat.lt_or_ge x (2 ^ 32) with h | h
    · have L := lenStep_stay hx' (show 32 ≤ 64 by decide) (by omega)
      have hd : decide ((4294967296 : Int) ≤ (x : Int)) = false := by simp; omega
      clear h hx'
      rw [hd]
      go_wp2
      go_meet
      case rel => exact ⟨rfl, x, 0, L, rfl, rfl⟩
    · have L := lenStep_up (j := 32) hx' (by decide) h (by rfl)
      have hd : decide ((4294967296 : Int) ≤ (x : Int)) = true := by simp; omega
      clear h hx'
      rw [hd]
      go_wp2
      go_meet
      case rel => exact ⟨rfl, _, _, L, by simp, by simp⟩
  case rest =>
    obtain ⟨rfl, y, n, hy, rfl, rfl⟩ := hcut
    go_upto_if 8 with (fail)
    go_cut [0, 2] from 3 (fun a b w' => w' = wc ∧ ∃ (y : Nat) (n : Int), lenStep x y n 16 ∧ a = .int .u64 y ∧ b = .int .i64 n)
    case first =>
      rcases Nat.lt_or_ge y (2 ^ 16) with h | h
      · have L := lenStep_stay hy (show 16 ≤ 32 by decide) (by omega)
        have hd : decide ((65536 : Int) ≤ (y : Int)) = false := by simp; omega
        clear h hy
        rw [hd]
        go_wp2
        go_meet
        case rel => exact ⟨rfl, _, _, L, rfl, rfl⟩
      · have L := lenStep_up (j := 16) hy (by decide) h (by rfl)
        have hd : decide ((65536 : Int) ≤ (y : Int)) = true := by simp; omega
        have hb := hy.2.2
        clear h hy
        rw [hd]
        go_wp2
        go_meet
        case rel => exact ⟨rfl, _, _, L, by simp, by simp⟩
    case rest =>
      obtain ⟨rfl, z, n2, hz, rfl, rfl⟩ := hcut
      go_upto_if 14 with (fail)
      go_cut [0, 2] from 3 (fun a b w' => w' = wc ∧ ∃ (y : Nat) (n : Int), lenStep x y n 8 ∧ a = .int .u64 y ∧ b = .int .i64 n)
      case first =>
        rcases Nat.lt_or_ge z (2 ^ 8) with h | h
        · have L := lenStep_stay hz (show 8 ≤ 16 by decide) (by omega)
          have hd : decide ((256 : Int) ≤ (z : Int)) = false := by simp; omega
          clear h hz
          rw [hd]
          go_wp2
          go_meet
          case rel => exact ⟨rfl, _, _, L, rfl, rfl⟩
        · have L := lenStep_up (j := 8) hz (by decide) h (by rfl)
          have hd : decide ((256 : Int) ≤ (z : Int)) = true := by simp; omega
          have hb := hz.2.2
          clear h hz
          rw [hd]
          go_wp2
          go_meet
          case rel => exact ⟨rfl, _, _, L, by simp, by simp⟩
      case rest =>
        obtain ⟨rfl, v, n3, hv, rfl, rfl⟩ := hcut
        have hb := hv.2.2
        have hv1 : (v : Int) < 256 := by have := hv.1; omega
        go_wp2
        go_ret
        refine ⟨ret_int ?_, rfl⟩
        rw [len8_at _ v _ (by decide +kernel)]
        have b := len_bd v
        rw [IntWalk.wrap64_in (len v) (by omega), IntWalk.wrap64_in _ (by omega)]
        have := hv.2.1
        omega

/-! masks: Count, Next, Last, Pick, Power -/
theorem and_lt (x y : Nat) (hx : x < 18446744073709551616) : x &&& y < 18446744073709551616 := Nat.lt_of_le_of_lt Nat.and_le_left hx

set_option maxHeartbeats 400000 in
theorem count_any (x : Nat) (hx : x < 18446744073709551616) (a b : Int) (w : World) :
    Calls Tryz.prog 217 #[.int .u64 (x : Nat), .int .i64 a, .int .i64 b] w fun e w' => e = .returned (.int .i64 (pc (x &&& runW a b) : Nat)) ∧ w = w' := by
  have K := hid (and64 x (runW a b) hx (runW_lt a b))
  have hm := hid (and_lt x (runW a b) hx)
  clear hx
  go_enter Tryz.func217, Tryz.ntmps217
  go_wp2_with (first
    | (go_at_call 224; refine (run_any _ _ _).mono ?_; rintro e w' ⟨rfl, rfl⟩; have K' := K.out)
    | (go_at_call 230; clear K'; refine (ones_any _ hm.out _).mono ?_; rintro e w' ⟨rfl, rfl⟩))
  go_ret
  exact ⟨rfl, rfl⟩

set_option maxHeartbeats 400000 in
theorem next_any (x : Nat) (hx : x < 18446744073709551616) (a : Int) (w : World) (ht : TabAt w) :
    Calls Tryz.prog 214 #[.int .u64 (x : Nat), .int .i64 a] w fun e w' => e = .returned (.int .i64 (tz (x &&& runW a 64) : Nat)) ∧ w = w' := by
  have K := hid (and64 x (runW a 64) hx (runW_lt a 64))
  have hm := hid (and_lt x (runW a 64) hx)
  have ht' := hid ht
  clear hx ht
  go_enter Tryz.func214, Tryz.ntmps214
  go_wp2_with (first
    | (go_at_call 224; refine (run_any _ _ _).mono ?_; rintro e w' ⟨rfl, rfl⟩; have K' := K.out)
    | (go_at_call 229; clear K'; refine (tz_any _ hm.out _ (fun _ => ht'.out)).mono ?_; rintro e w' ⟨rfl, rfl⟩))
  go_ret
  exact ⟨rfl, rfl⟩

set_option maxHeartbeats 400000 in
theorem last_any (x : Nat) (hx : x < 18446744073709551616) (b : Int) (w : World) :
    Calls Tryz.prog 202 #[.int .u64 (x : Nat), .int .i64 b] w fun e w' => e = .returned (.int .i64 (len (x &&& runW 0 b) - 1)) ∧ w = w' := by
  have K := hid (and64 x (runW 0 b) hx (runW_lt 0 b))
  have hm := hid (and_lt x (runW 0 b) hx)
  have hl := len_bd (x &&& runW 0 b)
  clear hx
  go_enter Tryz.func202, Tryz.ntmps202
  go_wp2_with (first
    | (go_at_call 224; refine (run_any _ _ _).mono ?_; rintro e w' ⟨rfl, rfl⟩; have K' := K.out)
    | (go_at_call 223; clear K'; refine (len_any _ hm.out _).mono ?_; rintro e w' ⟨rfl, rfl⟩))
  go_ret
  exact ⟨rfl, rfl⟩

/-- The state of Pick's loop: the search is in a run of d bits from a on. -/
def pickAt (x : Nat) (k d a c : Nat) : Prop := a + d ≤ 64 ∧ cnt x.testBit a + c = k ∧ k < cnt x.testBit (a + d) ∧ ∃ e, d = 2 ^ e
theorem pickAt_end {x k a c : Nat} (h : pickAt x k 1 a c) : pickF x.testBit 64 k = a := by
  obtain ⟨h2, h3, h4, _⟩ := h
  rw [cnt_succ] at h4
  cases hf : x.testBit a with
  | false => rw [hf] at h4; simp at h4; omega
  | true => rw [hf] at h4; simp at h4; exact pickF_eq (by omega) hf (by omega)
theorem pickAt_half {x k d a c : Nat} (h : pickAt x k d a c) : d = 1 ∨ ∃ g, 1 ≤ g ∧ d = 2 * g := by
  obtain ⟨_, _, _, e, rfl⟩ := h
  cases e with
  | zero => exact .inl rfl
  | succ e => exact .inr ⟨2 ^ e, Nat.two_pow_pos e, by rw [Nat.pow_succ]; omega⟩
theorem pow_half {g : Nat} (h : ∃ e, 2 * g = 2 ^ e) : ∃ e, g = 2 ^ e := by
  obtain ⟨e, he⟩ := h
  cases e with
  | zero => exact absurd he (by omega)
  | succ e => exact ⟨e, by rw [Nat.pow_succ] at he; omega⟩
theorem pickAt_low {x k g a c : Nat} (h : pickAt x k (2 * g) a c) (hn : ¬ pc (x &&& runW (a : Int) ((a : Int) + (g : Int))) ≤ c) : pickAt x k g a c := by
  obtain ⟨h2, h3, h4, h5⟩ := h
  have := pc_run x a (a + g) (by omega) (by omega)
  rw [Int.natCast_add] at this
  exact ⟨by omega, h3, by omega, pow_half h5⟩
theorem pickAt_high {x k g a c : Nat} (h : pickAt x k (2 * g) a c) (hn : pc (x &&& runW (a : Int) ((a : Int) + (g : Int))) ≤ c) : pickAt x k g (a + g) (c - pc (x &&& runW (a : Int) ((a : Int) + (g : Int)))) := by
  obtain ⟨h2, h3, h4, h5⟩ := h
  have := pc_run x a (a + g) (by omega) (by omega)
  rw [Int.natCast_add] at this
  exact ⟨by omega, by omega, by rw [Nat.add_assoc, ← Nat.two_mul]; exact h4, pow_half h5⟩

end Go.Proofs.YtbmidhlilafgeaaGreatDoor
end

section
namespace Go.Proofs.YtbmidhlilafgeaaGreatDoor
open Go.RowKit Word

def powB (n : Int) : Bool := decide (0 < n) && (bits .and .i64 n (n - 1) == 0)
set_option maxRecDepth 100000 in
set_option maxHeartbeats 800000 in
theorem power_any (n : Int) (hn : n ≤ 9223372036854775807) (w : World) : Calls Tryz.prog 114 #[.int .i64 n] w fun e w' => e = .returned (.bool (powB n)) ∧ w = w' := by
  by_cases h : 0 < n
  · have d1 : decide (0 < n) = true := by simp [h]
    have e1 : powB n = (bits .and .i64 n (n - 1) == 0) := by unfold powB; rw [d1]; rfl
    rw [e1]
    generalize hb : bits .and .i64 n (n - 1) = z
    have HB := hid hb
    go_enter Tryz.func114, Tryz.ntmps114
    go_wp2
    go_ret
    exact ⟨rfl, rfl⟩
  · have d1 : decide (0 < n) = false := by simp; omega
    have e1 : powB n = false := by unfold powB; rw [d1]; rfl
    rw [e1]
    go_enter Tryz.func114, Tryz.ntmps114
    go_wp2
    go_ret
    exact ⟨rfl, rfl⟩
/-- Which blocks may be. -/
def blockOk (n : Int) : Bool := [1, 2, 4, 8, 16, 32, 64, 128, 256, 512, 1024].contains n
theorem pow_small : ∀ m : Fin 1025, powB (m.1 : Int) = blockOk (m.1 : Int) := by decide +kernel
theorem blockOk_pos {n : Int} (h : blockOk n = true) : 1 ≤ n ∧ n ≤ 1024 := by
  simp [blockOk] at h
  omega
theorem blockOk_eq (n : Int) : blockOk n = (powB n && decide (n ≤ 1024)) := by
  by_cases h : 0 ≤ n ∧ n ≤ 1024
  · obtain ⟨m, rfl⟩ : ∃ m : Nat, n = m := ⟨n.toNat, by omega⟩
    have := pow_small ⟨m, by omega⟩
    simp only at this
    rw [this, decide_eq_true h.2, Bool.and_true]
  · cases hb : blockOk n with
    | true => have := blockOk_pos hb; omega
    | false =>
      by_cases h2 : n ≤ 1024
      · unfold powB; rw [decide_eq_false (by omega)]; rfl
      · rw [decide_eq_false h2, Bool.and_false]
end Go.Proofs.YtbmidhlilafgeaaGreatDoor
end

section
namespace Go.Proofs.YtbmidhlilafgeaaGreatDoor
open Go.ChangeShapes Go.WideShapes Go.ChangeAt Go.RowKit Word

theorem own : ownKnob Tryz.prog.godebug = none := by kernel_rfl
theorem gTab : Tryz.prog.globalNamed "math/bits.deBruijn64tab" = some 0 := by kernel_rfl
theorem gTabType : (Tryz.prog.globals[0]?).map (·.type) = some 281 := by kernel_rfl
theorem cellsTab : Tryz.prog.cellsOf 281 = 64 := by kernel_rfl
theorem cellsU8 : Tryz.prog.cellsOf 5 = 1 := by kernel_rfl
theorem laidOut : laidOutB Tryz.prog = true := by kernel_rfl

/-- What the row's list gives. -/
theorem tab_of_laid {W : World} (h : laidMetH Tryz.prog [("math/bits.deBruijn64tab", Rows.laid_math_bits_deBruijn64tab)] W) : TabAt W := by
  have ht : Lib.TabIs Tryz.prog W "math/bits.deBruijn64tab" .u8 (tab.map fun x : Nat => (x : Int)) := Lib.tabIs_of_head (rest := []) gTab gTabType Tryz.underlying281 Tryz.underlying5 cellsU8 cellsTab h
  intro i hi
  have hi' : i < tab.length := hi
  rw [ht.cell gTab i (by rw [List.length_map]; exact hi')]
  congr 2
  simp [List.getD_eq_getElem?_getD, hi']

/-- A world in which the table lies as its initialiser lays it. -/
noncomputable def laidWorld (os : Os) : World :=
  { World.holding Tryz.prog os ⟨#[], #[], []⟩ with heap := (World.holding Tryz.prog os ⟨#[], #[], []⟩).heap.modify 0 fun
      | .cells _ t frozen => .cells (tab.map fun x : Nat => Value.int .u8 (x : Int)).toArray t frozen
      | o => o }

section
variable {H : Type} {enc : TypeId × Value → H} {P : Program} {W W' : World}
/-- Arguments read as before, where nothing that was there has turned. -/
theorem trodAll_stays (hl : laidOutB P = true) : ∀ {ts : List TypeId} {vs : List Value} {ds : List (DataW H)} {ps : List MemPlace}, (∀ t ∈ ts, P.readableRec t = true ∧ t < P.types.size) →
    DataW.TrodAll enc P W 0 (fun _ => true) true ts vs ds ps → Below W.heap.size W W' → (∀ x ∈ ps, x.block < W.heap.size) → DataW.TrodAll enc P W' 0 (fun b => decide (b < W.heap.size)) true ts vs ds ps
  | [], [], [], _, _, h, _, _ => h
  | _ :: _, _ :: _, _ :: _, _, ht, ⟨p, q, h1, h2, e⟩, hb, hp =>
    ⟨p, q, Below.trod hl (ht _ (List.mem_cons.2 (.inl rfl))).1 (ht _ (List.mem_cons.2 (.inl rfl))).2 h1 hb (fun x hx => hp x (by rw [e]; exact List.mem_append_left _ hx)),
      trodAll_stays hl (fun t h => ht t (List.mem_cons.2 (.inr h))) h2 hb (fun x hx => hp x (by rw [e]; exact List.mem_append_right _ hx)), e⟩
end
/-- The end of a law: true is returned, what was there is as it was. -/
theorem law_post {H : Type} {enc : TypeId × Value → H} {f : Func} {s : ChangeSpec} {W W' : World} {args : Array Value} {ds gs : List (DataW H)} {before : List MemPlace}
    (hW : DataW.Whole enc Tryz.prog f.params.toList s.vars false W args.toList ds gs before) (hv : s.vars = []) (hr : f.resultTypes = #[4]) (hp : ∀ t ∈ f.params.toList, Tryz.prog.readableRec t = true ∧ t < Tryz.prog.types.size)
    (hs : s.fn H (ds ++ gs) = { results := [.lit (.bool true)], args := ds }) (hg : Gr W W') : s.post enc Tryz.prog f false true false false W args (.bool true) W' := by
  have hlt := hW.lt
  have hW0 := hW
  obtain ⟨p, q, hA, hV, rfl, _, _⟩ := hW
  have hb : Below W.heap.size W W' := (hg.touch (fun _ => False)).below (Nat.le_refl _) (fun _ _ h => h)
  rw [hv] at hV
  obtain ⟨rfl, rfl⟩ : gs = [] ∧ q = [] := by
    cases gs with
    | nil => exact ⟨rfl, hV⟩
    | cons g r => exact absurd hV (by intro h; cases h)
  refine ⟨ds, [], p ++ [], [], p, [], hW0, ?_, ?_, ?_, hb.frame _, fun h => by cases h⟩
  · rw [hs, hr]
    exact trodAll_mk1 (shut_bool Tryz.underlying4 true)
  · rw [hs]
    exact trodAll_stays laidOut hp hA hb (fun x hx => hlt x (List.mem_append_left _ hx))
  · rw [hs, hv]; rfl

theorem spot_of_cell {w : World} {a : Addr} {v : Value} (h : w.cell? a = some v) : a.spot = none := by
  unfold World.cell? at h
  split at h
  · cases hs : a.spot with
    | none => rfl
    | some x => rw [hs] at h; simp at h
  · cases h
theorem lt_of_cell {w : World} {a : Addr} {v : Value} (h : w.cell? a = some v) : a.block < w.heap.size := by
  unfold World.cell? at h
  rcases Nat.lt_or_ge a.block w.heap.size with h1 | h1
  · exact h1
  · rw [Array.getElem?_eq_none h1] at h; cases h
/-- A list out of its elements. -/
theorem list_of {α : Type} (R : Nat → α → Prop) : ∀ n, (∀ i, i < n → ∃ x, R i x) → ∃ l : List α, l.length = n ∧ ∀ i (h : i < l.length), R i l[i]
  | 0, _ => ⟨[], rfl, fun i h => absurd h (by simp)⟩
  | n + 1, h => by
    obtain ⟨l, hl, hR⟩ := list_of R n (fun i hi => h i (by omega))
    obtain ⟨x, hx⟩ := h n (by omega)
    refine ⟨l ++ [x], by simp [hl], fun i hi => ?_⟩
    by_cases e : i < l.length
    · rw [List.getElem_append_left e]; exact hR i e
    · have : i = n := by simp at hi; omega
      subst this
      rw [List.getElem_append_right (by omega)]
      simpa [hl] using hx
end Go.Proofs.YtbmidhlilafgeaaGreatDoor
end

section
namespace Go.Proofs.YtbmidhlilafgeaaGreatDoor
open Go.RowKit Word

theorem set_nil (i : Int) (w : World) :
    Calls Tryz.prog 195 #[.pointer none, .int .i64 i] w fun e w' => e = .returned (.int .i64 9) ∧ w = w' := by
  go_enter Tryz.func195, Tryz.ntmps195
  go_wp2
  go_ret
  exact ⟨rfl, rfl⟩
theorem test_nil (i : Int) (w : World) :
    Calls Tryz.prog 198 #[.pointer none, .int .i64 i] w fun e w' => e = .returned (.bool false) ∧ w = w' := by
  go_enter Tryz.func198, Tryz.ntmps198
  go_wp2
  go_ret
  exact ⟨rfl, rfl⟩
theorem copy_nil (w : World) :
    Calls Tryz.prog 218 #[.pointer none] w fun e w' => e = .returned (.pointer none) ∧ w = w' := by
  go_enter Tryz.func218, Tryz.ntmps218
  go_wp2
  go_ret
  exact ⟨rfl, rfl⟩
theorem each_nil (f t : Int) (v : Value) (w : World) :
    Calls Tryz.prog 215 #[.pointer none, .int .i64 f, .int .i64 t, v] w fun e w' => e = .returned (.tuple #[]) ∧ w = w' := by
  go_enter Tryz.func215, Tryz.ntmps215
  go_wp2
  refine bodyPost_ret (results_none rfl _ _ _) rfl ?_
  exact ⟨rfl, rfl⟩
theorem fill_nil (f t : Int) (w : World) : Gets Tryz.prog 192 #[.pointer none, .int .i64 f, .int .i64 t] w (.int .i64 0) := by
  have hmf : ∀ (fn : Fn) (first cap : Array Value) (w : World), (Instr.makeFunc fn first cap).run Tryz.prog w = .ok (.func fn first cap) w := fun _ _ _ _ => rfl
  unfold Gets
  go_enter Tryz.func192, Tryz.ntmps192
  go_wp2_with (go_at_call 215; refine (each_nil _ _ _ _).mono ?_; rintro e w' ⟨rfl, rfl⟩)
  go_ret
  exact ⟨rfl, (Gr.refl w).alloc _⟩
theorem wipe_nil (f t : Int) (w : World) : Gets Tryz.prog 207 #[.pointer none, .int .i64 f, .int .i64 t] w (.int .i64 0) := by
  have hmf : ∀ (fn : Fn) (first cap : Array Value) (w : World), (Instr.makeFunc fn first cap).run Tryz.prog w = .ok (.func fn first cap) w := fun _ _ _ _ => rfl
  unfold Gets
  go_enter Tryz.func207, Tryz.ntmps207
  go_wp2_with (go_at_call 215; refine (each_nil _ _ _ _).mono ?_; rintro e w' ⟨rfl, rfl⟩)
  go_ret
  exact ⟨rfl, (Gr.refl w).alloc _⟩
theorem count_nil (f t : Int) (w : World) : Gets Tryz.prog 219 #[.pointer none, .int .i64 f, .int .i64 t] w (.int .i64 0) := by
  have hmf : ∀ (fn : Fn) (first cap : Array Value) (w : World), (Instr.makeFunc fn first cap).run Tryz.prog w = .ok (.func fn first cap) w := fun _ _ _ _ => rfl
  unfold Gets
  go_enter Tryz.func219, Tryz.ntmps219
  go_wp2_with (go_at_call 215; refine (each_nil _ _ _ _).mono ?_; rintro e w' ⟨rfl, rfl⟩)
  go_ret
  exact ⟨rfl, (Gr.refl w).alloc _⟩
end Go.Proofs.YtbmidhlilafgeaaGreatDoor
end
