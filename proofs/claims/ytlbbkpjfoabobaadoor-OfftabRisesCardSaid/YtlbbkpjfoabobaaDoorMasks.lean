/- Contracts of package masks and of the three functions of math/bits that it calls: what each returns on every argument, as plain functions on numbers; none writes memory. -/
import Derived.Test.YtlbbkpjfoabobaaDoorProg
import Derived.Test.YtlbbkpjfoabobaaDoorWordB
import Derived.Test.YtlbbkpjfoabobaaDoorMem
namespace Go.Proofs.YtlbbkpjfoabobaaDoor
open Go.RowKit Word

theorem ret_int {k : IntKind} {a b : Int} (h : a = b) : Ending.returned (.int k a) = .returned (.int k b) := by rw [h]
theorem ret_bool {a b : Bool} (h : a = b) : Ending.returned (.bool a) = .returned (.bool b) := by rw [h]
theorem and64 (a b : Nat) (ha : a < 18446744073709551616) (hb : b < 18446744073709551616) : bits .and .u64 (a : Int) (b : Int) = ((a &&& b : Nat) : Int) := bits_and_u64_nat a b ha hb
theorem wrap_u64_nat (x : Nat) (hx : x < 18446744073709551616) : IntKind.u64.wrap (x : Int) = (x : Int) := IntWalk.u64_in _ (by omega)
theorem wrap_u64_mod (x : Nat) : IntKind.u64.wrap (x : Int) = ((x % 18446744073709551616 : Nat) : Int) := by rw [IntKind.wrap_u64]; omega

set_option maxHeartbeats 400000 in
theorem clip_any (n : Int) (w : World) :
    Calls Tryd.prog 98 #[.int .i64 n] w fun e w' => e = .returned (.int .i64 (clip n)) ∧ w = w' := by
  go_enter Tryd.func98, Tryd.ntmps98
  go_wp2
  all_goals (go_ret; exact ⟨ret_int (by unfold clip; omega), rfl⟩)

set_option maxHeartbeats 400000 in
theorem run_any (a b : Int) (w : World) :
    Calls Tryd.prog 94 #[.int .i64 a, .int .i64 b] w fun e w' => e = .returned (.int .u64 (runW a b : Nat)) ∧ w = w' := by
  have ha := clip_bd a
  have hb := clip_bd b
  go_enter Tryd.func94, Tryd.ntmps94
  go_wp2_with (go_at_call 98; refine (clip_any _ _).mono ?_; rintro e w' ⟨rfl, rfl⟩)
  · go_ret
    have h : clip b ≤ clip a := by assumption
    refine ⟨ret_int ?_, rfl⟩
    have : runW a b = 0 := by unfold runW maskN; rw [if_pos (by omega)]
    rw [this]; rfl
  · go_ret
    have h : clip a < clip b := by assumption
    refine ⟨ret_int ?_, rfl⟩
    rw [runW_code a b h]
    exact wrap_u64_nat _ (runW_lt a b)

/-! math/bits -/
theorem s1_lt (x : Nat) : s1 8 x < 18446744073709551616 := by
  unfold s1
  have h1 : (x / 2) &&& rep 85 8 ≤ rep 85 8 := Nat.and_le_right
  have h2 : x &&& rep 85 8 ≤ rep 85 8 := Nat.and_le_right
  have e : rep 85 8 = 6148914691236517205 := by decide +kernel
  omega
theorem s2_lt (x : Nat) : s2 8 x < 18446744073709551616 / 2 := by
  unfold s2
  have h1 : (x / 4) &&& rep 51 8 ≤ rep 51 8 := Nat.and_le_right
  have h2 : x &&& rep 51 8 ≤ rep 51 8 := Nat.and_le_right
  have e : rep 51 8 = 3689348814741910323 := by decide +kernel
  omega
theorem s3_lt (x : Nat) : s3 8 x < 18446744073709551616 / 2 := by
  unfold s3
  have h2 : (x / 16 + x) &&& rep 15 8 ≤ rep 15 8 := Nat.and_le_right
  have e : rep 15 8 = 1085102592571150095 := by decide +kernel
  omega
theorem oc1 (x : Nat) (hx : x < 18446744073709551616) :
    IntKind.u64.wrap (bits .and .u64 ((x : Int) / 2) 6148914691236517205 + bits .and .u64 (x : Int) 6148914691236517205) = ((s1 8 x : Nat) : Int) := by
  have a1 := and64 (x / 2) 6148914691236517205 (by omega) (by decide)
  have a2 := and64 x 6148914691236517205 hx (by decide)
  rw [show ((x : Int) / 2) = ((x / 2 : Nat) : Int) by omega, show (6148914691236517205 : Int) = ((6148914691236517205 : Nat) : Int) from rfl, a1, a2]
  have e : rep 85 8 = 6148914691236517205 := by decide +kernel
  rw [← Int.natCast_add, ← e]
  exact wrap_u64_nat _ (s1_lt x)
theorem oc2 (x : Nat) (hx : x < 18446744073709551616) :
    IntKind.u64.wrap (bits .and .u64 ((x : Int) / 4) 3689348814741910323 + bits .and .u64 (x : Int) 3689348814741910323) = ((s2 8 x : Nat) : Int) := by
  have a1 := and64 (x / 4) 3689348814741910323 (by omega) (by decide)
  have a2 := and64 x 3689348814741910323 hx (by decide)
  rw [show ((x : Int) / 4) = ((x / 4 : Nat) : Int) by omega, show (3689348814741910323 : Int) = ((3689348814741910323 : Nat) : Int) from rfl, a1, a2]
  have e : rep 51 8 = 3689348814741910323 := by decide +kernel
  rw [← Int.natCast_add, ← e]
  exact wrap_u64_nat _ (by have := s2_lt x; unfold s2 at this; omega)
theorem oc3 (x : Nat) (hx : x < 18446744073709551616 / 2) :
    bits .and .u64 (IntKind.u64.wrap ((x : Int) / 16 + (x : Int))) 1085102592571150095 = ((s3 8 x : Nat) : Int) := by
  have a1 := and64 (x / 16 + x) 1085102592571150095 (by omega) (by decide)
  rw [show ((x : Int) / 16 + (x : Int)) = ((x / 16 + x : Nat) : Int) by omega, wrap_u64_nat _ (by omega), show (1085102592571150095 : Int) = ((1085102592571150095 : Nat) : Int) from rfl, a1]
  have e : rep 15 8 = 1085102592571150095 := by decide +kernel
  unfold s3; rw [e]
theorem oc4 (x d : Nat) (D : Int) (hD : D = (d : Int)) : IntKind.u64.wrap ((x : Int) + (x : Int) / D) = (((x + x / d) % 18446744073709551616 : Nat) : Int) := by
  rw [hD, ← Int.natCast_ediv, ← Int.natCast_add, wrap_u64_mod]
theorem oc5 (x : Nat) (hx : x < 18446744073709551616) : bits .and .i64 (wrap64 (x : Int)) 127 = ((x % 128 : Nat) : Int) := by
  rw [← IntWalk.i64_left]
  have h2 : (BitVec.ofInt 64 (IntKind.i64.wrap (x : Int))).toNat = x := by
    rw [IntKind.wrap_i64, BitVec.toNat_ofInt]; simp; omega
  have h3 : (BitVec.ofInt 64 (127 : Int)).toNat = 127 := by decide
  show IntKind.i64.wrap ((BitVec.ofInt 64 (IntKind.i64.wrap (x : Int)) &&& BitVec.ofInt 64 127).toNat : Int) = _
  rw [BitVec.toNat_and, h2, h3]
  have : x &&& 127 = x % 128 := Nat.and_two_pow_sub_one_eq_mod x 7
  rw [this]
  exact IntWalk.i64_in _ (by omega)

set_option maxHeartbeats 800000 in
theorem ones_any (x : Nat) (hx : x < 18446744073709551616) (w : World) :
    Calls Tryd.prog 95 #[.int .u64 (x : Nat)] w fun e w' => e = .returned (.int .i64 (pc x : Nat)) ∧ w = w' := by
  have HF := fold_ok _ x rfl
  obtain ⟨y1, h1⟩ : ∃ y, y = s1 8 x := ⟨_, rfl⟩
  obtain ⟨y2, h2⟩ : ∃ y, y = s2 8 y1 := ⟨_, rfl⟩
  obtain ⟨y3, h3⟩ : ∃ y, y = s3 8 y2 := ⟨_, rfl⟩
  have ht : t 8 x = y3 := by rw [h3, h2, h1]; rfl
  rw [ht] at HF
  have K1 := hid (h1 ▸ oc1 x hx)
  have K2 := hid (h2 ▸ oc2 y1 (h1 ▸ s1_lt x))
  have K3 := hid (h3 ▸ oc3 y2 (h2 ▸ s2_lt y1))
  obtain ⟨z1, g1⟩ : ∃ z, z = (y3 + y3 / 256) % 18446744073709551616 := ⟨_, rfl⟩
  obtain ⟨z2, g2⟩ : ∃ z, z = (z1 + z1 / 65536) % 18446744073709551616 := ⟨_, rfl⟩
  obtain ⟨z3, g3⟩ : ∃ z, z = (z2 + z2 / 4294967296) % 18446744073709551616 := ⟨_, rfl⟩
  simp only [← g1, ← g2, ← g3] at HF
  have K4 := hid (g1 ▸ oc4 y3 256 256 (by omega))
  have K5 := hid (g2 ▸ oc4 z1 65536 65536 (by omega))
  have K6 := hid (g3 ▸ oc4 z2 4294967296 4294967296 (by omega))
  have K7 := hid (oc5 z3 (by omega))
  clear h1 h2 h3 ht g1 g2 g3 hx
  have HF' := hid HF
  clear HF
  go_enter Tryd.func95, Tryd.ntmps95
  go_upto_region 2 with (fail)
  rw [K1.out]
  go_upto_region 3 with (fail)
  rw [K2.out]
  go_upto_region 4 with (fail)
  rw [K3.out]
  go_upto_region 5 with (fail)
  rw [K4.out]
  go_upto_region 6 with (fail)
  rw [K5.out]
  go_upto_region 7 with (fail)
  rw [K6.out]
  go_wp2
  go_ret
  refine ⟨ret_int ?_, rfl⟩
  rw [← HF'.out, ← K7.out]

/-- The table that math/bits.TrailingZeros64 reads lies where the program lays it. -/
def TabAt (w : World) : Prop := ∀ i, i < 64 → w.cell? ⟨0, i, none⟩ = some (.int .u8 (tab.getD i 0 : Nat))

theorem neg_u64 (x : Nat) (h0 : x ≠ 0) (hx : x < 18446744073709551616) : IntKind.u64.wrap (-(x : Int)) = ((18446744073709551616 - x : Nat) : Int) := by
  rw [IntKind.wrap_u64]; omega

set_option maxRecDepth 100000 in
set_option maxHeartbeats 800000 in
theorem tz_any (x : Nat) (hx : x < 18446744073709551616) (w : World) (ht : x ≠ 0 → TabAt w) :
    Calls Tryd.prog 96 #[.int .u64 (x : Nat)] w fun e w' => e = .returned (.int .i64 (tz x : Nat)) ∧ w = w' := by
  by_cases h0 : x = 0
  · subst h0
    clear ht hx
    go_enter Tryd.func96, Tryd.ntmps96
    go_wp2
    go_ret
    exact ⟨ret_int (by rw [tz_zero]; rfl), rfl⟩
  · have hT := ht h0
    obtain ⟨i1, i2⟩ := tzIx_ok hx h0
    have hc := hT _ i1
    rw [i2] at hc
    have hle := tz_le x
    have hb0 : ¬ ((x : Int) = 0) := by omega
    obtain ⟨nx, hnx⟩ : ∃ n, n = 18446744073709551616 - x := ⟨_, rfl⟩
    obtain ⟨m, hm⟩ : ∃ n, n = x &&& nx := ⟨_, rfl⟩
    obtain ⟨q, hq⟩ : ∃ n, n = m * 285870213051353865 % 18446744073709551616 := ⟨_, rfl⟩
    obtain ⟨ix, hix⟩ : ∃ n, n = q / 288230376151711744 := ⟨_, rfl⟩
    have e : tzIx x = ix := by unfold tzIx; rw [hix, hq, hm, hnx]
    have h7 : IntKind.u64.wrap (-(x : Int)) = (nx : Int) := by rw [hnx]; exact neg_u64 x h0 hx
    have h8 : bits .and .u64 (x : Int) (nx : Int) = (m : Int) := by rw [hm]; exact and64 x nx hx (by omega)
    have h9 : IntKind.u64.wrap ((m : Int) * 285870213051353865) = (q : Int) := by
      rw [hq, show (m : Int) * 285870213051353865 = ((m * 285870213051353865 : Nat) : Int) by omega, wrap_u64_mod]
    have h10 : (q : Int) / 288230376151711744 = (ix : Int) := by omega
    rw [e] at hc i1
    generalize tz x = k at *
    clear hx ht hT hnx hm hq hix e h0 i2
    go_enter Tryd.func96, Tryd.ntmps96
    go_wp2
    go_ret
    exact ⟨rfl, rfl⟩

theorem len8_at (s : ByteArray) (v : Nat) (h : v < s.size) (hs : s.data.toList.map (fun c => (c.toNat : Int)) = (List.range 256).map (fun i => len i)) : ((s[v]'h).toNat : Int) = len v := by
  have h1 : (s.data.toList.map (fun c => (c.toNat : Int)))[v]? = some ((s[v]'h).toNat : Int) := by
    rw [List.getElem?_map, List.getElem?_eq_getElem (show v < s.data.toList.length from h)]; rfl
  have hl : s.data.toList.length = 256 := by have := congrArg List.length hs; simpa using this
  have hv : v < 256 := by rw [← hl]; exact h
  rw [hs, List.getElem?_map, List.getElem?_range hv] at h1
  simpa using h1.symm
def lenStep (x y : Nat) (n : Int) (k : Nat) : Prop := y < 2 ^ k ∧ len x = n + len y ∧ 0 ≤ n ∧ n + k ≤ 64
theorem lenStep_up {x y : Nat} {n : Int} {k j : Nat} (h : lenStep x y n k) (hk : k ≤ 64) (hy : 2 ^ j ≤ y) (hj2 : k = 2 * j) : lenStep x (y / 2 ^ j) (n + j) j := by
  obtain ⟨h1, h2, h3, h4⟩ := h
  refine ⟨?_, ?_, ?_, ?_⟩
  · refine (Nat.div_lt_iff_lt_mul (Nat.two_pow_pos j)).2 (Nat.lt_of_lt_of_le h1 ?_)
    rw [← Nat.pow_add]; exact Nat.pow_le_pow_right (by decide) (by omega)
  · rw [h2, len_shift (Nat.lt_of_lt_of_le h1 (Nat.pow_le_pow_right (by decide) hk)) hy]; omega
  · omega
  · omega
theorem lenStep_stay {x y : Nat} {n : Int} {k j : Nat} (h : lenStep x y n k) (hj : j ≤ k) (hy : ¬ 2 ^ j ≤ y) : lenStep x y n j := by
  obtain ⟨h1, h2, h3, h4⟩ := h
  exact ⟨by omega, h2, h3, by omega⟩
set_option maxRecDepth 100000 in
set_option maxHeartbeats 800000 in
theorem len_any (x : Nat) (hx : x < 18446744073709551616) (w : World) :
    Calls Tryd.prog 97 #[.int .u64 (x : Nat)] w fun e w' => e = .returned (.int .i64 (len x)) ∧ w = w' := by
  have hx' : lenStep x x 0 64 := ⟨hx, by omega, by omega, by omega⟩
  clear hx
  go_enter Tryd.func97, Tryd.ntmps97
  go_upto_if 4 with (fail)
  go_cut [0, 2] from 3 (fun a b w' => w' = w ∧ ∃ (y : Nat) (n : Int), lenStep x y n 32 ∧ a = .int .u64 y ∧ b = .int .i64 n)
  case first =>
    rcases Nat.lt_or_ge x (2 ^ 32) with h | h
    · have L := lenStep_stay hx' (show 32 ≤ 64 by decide) (by omega)
      have hd : decide ((4294967296 : Int) ≤ (x : Int)) = false := by simp; omega
      clear h hx'
      rw [hd]
      go_wp2
      go_meet
      case rel => exact ⟨rfl, x, 0, L, rfl, rfl⟩
    · have L := lenStep_up (j := 32) hx' (by decide) h (by rfl)
      have hd : decide ((4294967296 : Int) ≤ (x : Int)) = true := by simp; omega
      clear h hx'
      rw [hd]
      go_wp2
      go_meet
      case rel => exact ⟨rfl, _, _, L, by simp, by simp⟩
  case rest =>
    obtain ⟨rfl, y, n, hy, rfl, rfl⟩ := hcut
    go_upto_if 8 with (fail)
    go_cut [0, 2] from 3 (fun a b w' => w' = wc ∧ ∃ (y : Nat) (n : Int), lenStep x y n 16 ∧ a = .int .u64 y ∧ b = .int .i64 n)
    case first =>
      rcases Nat.lt_or_ge y (2 ^ 16) with h | h
      · have L := lenStep_stay hy (show 16 ≤ 32 by decide) (by omega)
        have hd : decide ((65536 : Int) ≤ (y : Int)) = false := by simp; omega
        clear h hy
        rw [hd]
        go_wp2
        go_meet
        case rel => exact ⟨rfl, _, _, L, rfl, rfl⟩
      · have L := lenStep_up (j := 16) hy (by decide) h (by rfl)
        have hd : decide ((65536 : Int) ≤ (y : Int)) = true := by simp; omega
        have hb := hy.2.2
        clear h hy
        rw [hd]
        go_wp2
        go_meet
        case rel => exact ⟨rfl, _, _, L, by simp, by simp⟩
    case rest =>
      obtain ⟨rfl, z, n2, hz, rfl, rfl⟩ := hcut
      go_upto_if 14 with (fail)
      go_cut [0, 2] from 3 (fun a b w' => w' = wc ∧ ∃ (y : Nat) (n : Int), lenStep x y n 8 ∧ a = .int .u64 y ∧ b = .int .i64 n)
      case first =>
        rcases Nat.lt_or_ge z (2 ^ 8) with h | h
        · have L := lenStep_stay hz (show 8 ≤ 16 by decide) (by omega)
          have hd : decide ((256 : Int) ≤ (z : Int)) = false := by simp; omega
          clear h hz
          rw [hd]
          go_wp2
          go_meet
          case rel => exact ⟨rfl, _, _, L, rfl, rfl⟩
        · have L := lenStep_up (j := 8) hz (by decide) h (by rfl)
          have hd : decide ((256 : Int) ≤ (z : Int)) = true := by simp; omega
          have hb := hz.2.2
          clear h hz
          rw [hd]
          go_wp2
          go_meet
          case rel => exact ⟨rfl, _, _, L, by simp, by simp⟩
      case rest =>
        obtain ⟨rfl, v, n3, hv, rfl, rfl⟩ := hcut
        have hb := hv.2.2
        have hv1 : (v : Int) < 256 := by have := hv.1; omega
        go_wp2
        go_ret
        refine ⟨ret_int ?_, rfl⟩
        rw [len8_at _ v _ (by decide +kernel)]
        have b := len_bd v
        rw [IntWalk.wrap64_in (len v) (by omega), IntWalk.wrap64_in _ (by omega)]
        have := hv.2.1
        omega

/-! masks: Count, Next, Last, Pick, Power -/
theorem and_lt (x y : Nat) (hx : x < 18446744073709551616) : x &&& y < 18446744073709551616 := Nat.lt_of_le_of_lt Nat.and_le_left hx

set_option maxHeartbeats 400000 in
theorem count_any (x : Nat) (hx : x < 18446744073709551616) (a b : Int) (w : World) :
    Calls Tryd.prog 77 #[.int .u64 (x : Nat), .int .i64 a, .int .i64 b] w fun e w' => e = .returned (.int .i64 (pc (x &&& runW a b) : Nat)) ∧ w = w' := by
  have K := hid (and64 x (runW a b) hx (runW_lt a b))
  have hm := hid (and_lt x (runW a b) hx)
  clear hx
  go_enter Tryd.func77, Tryd.ntmps77
  go_wp2_with (first
    | (go_at_call 94; refine (run_any _ _ _).mono ?_; rintro e w' ⟨rfl, rfl⟩; have K' := K.out)
    | (go_at_call 95; clear K'; refine (ones_any _ hm.out _).mono ?_; rintro e w' ⟨rfl, rfl⟩))
  go_ret
  exact ⟨rfl, rfl⟩

set_option maxHeartbeats 400000 in
theorem next_any (x : Nat) (hx : x < 18446744073709551616) (a : Int) (w : World) (ht : TabAt w) :
    Calls Tryd.prog 84 #[.int .u64 (x : Nat), .int .i64 a] w fun e w' => e = .returned (.int .i64 (tz (x &&& runW a 64) : Nat)) ∧ w = w' := by
  have K := hid (and64 x (runW a 64) hx (runW_lt a 64))
  have hm := hid (and_lt x (runW a 64) hx)
  have ht' := hid ht
  clear hx ht
  go_enter Tryd.func84, Tryd.ntmps84
  go_wp2_with (first
    | (go_at_call 94; refine (run_any _ _ _).mono ?_; rintro e w' ⟨rfl, rfl⟩; have K' := K.out)
    | (go_at_call 96; clear K'; refine (tz_any _ hm.out _ (fun _ => ht'.out)).mono ?_; rintro e w' ⟨rfl, rfl⟩))
  go_ret
  exact ⟨rfl, rfl⟩

set_option maxHeartbeats 400000 in
theorem last_any (x : Nat) (hx : x < 18446744073709551616) (b : Int) (w : World) :
    Calls Tryd.prog 85 #[.int .u64 (x : Nat), .int .i64 b] w fun e w' => e = .returned (.int .i64 (len (x &&& runW 0 b) - 1)) ∧ w = w' := by
  have K := hid (and64 x (runW 0 b) hx (runW_lt 0 b))
  have hm := hid (and_lt x (runW 0 b) hx)
  have hl := len_bd (x &&& runW 0 b)
  clear hx
  go_enter Tryd.func85, Tryd.ntmps85
  go_wp2_with (first
    | (go_at_call 94; refine (run_any _ _ _).mono ?_; rintro e w' ⟨rfl, rfl⟩; have K' := K.out)
    | (go_at_call 97; clear K'; refine (len_any _ hm.out _).mono ?_; rintro e w' ⟨rfl, rfl⟩))
  go_ret
  exact ⟨rfl, rfl⟩

/-- The state of Pick's loop: the search is in a run of d bits from a on. -/
def pickAt (x : Nat) (k d a c : Nat) : Prop := a + d ≤ 64 ∧ cnt x.testBit a + c = k ∧ k < cnt x.testBit (a + d) ∧ ∃ e, d = 2 ^ e
theorem pickAt_end {x k a c : Nat} (h : pickAt x k 1 a c) : pickF x.testBit 64 k = a := by
  obtain ⟨h2, h3, h4, _⟩ := h
  rw [cnt_succ] at h4
  cases hf : x.testBit a with
  | false => rw [hf] at h4; simp at h4; omega
  | true => rw [hf] at h4; simp at h4; exact pickF_eq (by omega) hf (by omega)
theorem pickAt_half {x k d a c : Nat} (h : pickAt x k d a c) : d = 1 ∨ ∃ g, 1 ≤ g ∧ d = 2 * g := by
  obtain ⟨_, _, _, e, rfl⟩ := h
  cases e with
  | zero => exact .inl rfl
  | succ e => exact .inr ⟨2 ^ e, Nat.two_pow_pos e, by rw [Nat.pow_succ]; omega⟩
theorem pow_half {g : Nat} (h : ∃ e, 2 * g = 2 ^ e) : ∃ e, g = 2 ^ e := by
  obtain ⟨e, he⟩ := h
  cases e with
  | zero => exact absurd he (by omega)
  | succ e => exact ⟨e, by rw [Nat.pow_succ] at he; omega⟩
theorem pickAt_low {x k g a c : Nat} (h : pickAt x k (2 * g) a c) (hn : ¬ pc (x &&& runW (a : Int) ((a : Int) + (g : Int))) ≤ c) : pickAt x k g a c := by
  obtain ⟨h2, h3, h4, h5⟩ := h
  have := pc_run x a (a + g) (by omega) (by omega)
  rw [Int.natCast_add] at this
  exact ⟨by omega, h3, by omega, pow_half h5⟩
theorem pickAt_high {x k g a c : Nat} (h : pickAt x k (2 * g) a c) (hn : pc (x &&& runW (a : Int) ((a : Int) + (g : Int))) ≤ c) : pickAt x k g (a + g) (c - pc (x &&& runW (a : Int) ((a : Int) + (g : Int)))) := by
  obtain ⟨h2, h3, h4, h5⟩ := h
  have := pc_run x a (a + g) (by omega) (by omega)
  rw [Int.natCast_add] at this
  exact ⟨by omega, by omega, by rw [Nat.add_assoc, ← Nat.two_mul]; exact h4, pow_half h5⟩

set_option maxHeartbeats 400000 in
theorem pick_none (x : Nat) (hx : x < 18446744073709551616) (k : Int) (hk : k < 0 ∨ (pc x : Int) ≤ k) (w : World) :
    Calls Tryd.prog 80 #[.int .u64 (x : Nat), .int .i64 k] w fun e w' => e = .returned (.int .i64 64) ∧ w = w' := by
  have hm := hid hx
  clear hx
  by_cases h0 : k < 0
  · clear hk
    go_enter Tryd.func80, Tryd.ntmps80
    go_wp2_with (go_at_call 95; refine (ones_any _ hm.out _).mono ?_; rintro e w' ⟨rfl, rfl⟩)
    go_ret
    exact ⟨rfl, rfl⟩
  · have hk' : (pc x : Int) ≤ k := by omega
    have h0' : 0 ≤ k := by omega
    clear hk h0
    go_enter Tryd.func80, Tryd.ntmps80
    go_wp2_with (go_at_call 95; refine (ones_any _ hm.out _).mono ?_; rintro e w' ⟨rfl, rfl⟩)
    go_ret
    exact ⟨rfl, rfl⟩
set_option maxHeartbeats 400000 in
theorem pick_some (x : Nat) (hx : x < 18446744073709551616) (k : Nat) (hk : k < pc x) (w : World) :
    Calls Tryd.prog 80 #[.int .u64 (x : Nat), .int .i64 k] w fun e w' => e = .returned (.int .i64 (pickF x.testBit 64 k : Nat)) ∧ w = w' := by
  have hm := hid hx
  have hi : pickAt x k 64 0 k := ⟨by omega, by simp [cnt_zero], by rw [Nat.zero_add]; exact hk, 6, by decide⟩
  have hp := pc_le x
  have hd0 : decide ((k : Int) < 0) = false := by simp
  have hd1 : decide (pc x ≤ k) = false := by simp; omega
  clear hx
  go_enter Tryd.func80, Tryd.ntmps80
  go_wp2_with (go_at_call 95; refine (ones_any _ hm.out _).mono ?_; rintro e w' ⟨rfl, rfl⟩)
  clear hk hp
  go_loop [1, 5, 6] (fun c a h => ∃ d a' c' : Nat, pickAt x k d a' c' ∧ c = .int .i64 c' ∧ a = .int .i64 a' ∧ h = .int .i64 ((d / 2 : Nat) : Int)) (fun _ _ h => (intOf h).toNat)
  case atStart => exact ⟨64, 0, k, hi, rfl, rfl, rfl⟩
  case round =>
    obtain ⟨d, a, c, hat, rfl, rfl, rfl⟩ := hrel
    rcases pickAt_half hat with rfl | ⟨g, hg, rfl⟩
    · have he := hid (pickAt_end hat)
      clear hat hi
      go_wp2
      go_ret
      exact ⟨ret_int (by rw [he.out]), rfl⟩
    · have e4 := hid (pickAt_low hat)
      have e5 := hid (pickAt_high hat)
      have b1 := hat.1
      have hpc := pc_le (x &&& runW (a : Int) ((a : Int) + (g : Int)))
      have hc : c ≤ k := by have := hat.2.1; omega
      have hk : k < 64 := by have := hat.2.2.1; have := cnt_le x.testBit (a + 2 * g); omega
      obtain ⟨g', hg'⟩ : ∃ g', g' = g / 2 := ⟨_, rfl⟩
      rw [show 2 * g / 2 = g by omega]
      clear hat hi
      generalize hq : pc (x &&& runW (a : Int) ((a : Int) + (g : Int))) = q at *
      have HQ := hid hq
      have HG := hid hg'
      clear hq hg'
      go_wp2_with (go_at_call 77; refine (count_any _ hm.out _ _ _).mono ?_; rintro e w' ⟨rfl, rfl⟩; rw [HQ.out])
      · go_round
        case rel => exact ⟨g, a + g, c - q, e5.out (by omega), by go_num, by go_num, by go_num⟩
        case measure => simp [intOf]; omega
      · go_round
        case rel => exact ⟨g, a, c, e4.out (by omega), by go_num, by go_num, by go_num⟩
        case measure => simp [intOf]; omega
end Go.Proofs.YtlbbkpjfoabobaaDoor
