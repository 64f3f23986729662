/- Contracts of bitvec's Next, Last and Pick. -/
import Derived.Test.YtlbbkpjfoabobaaDoorVec
import Derived.Test.YtlbbkpjfoabobaaDoorBitsB
namespace Go.Proofs.YtlbbkpjfoabobaaDoor
open Go.RowKit Word

theorem ret2 {a b c d : Value} (h : a = c) (h2 : b = d) : Ending.returned (.tuple #[a, b]) = .returned (.tuple #[c, d]) := by rw [h, h2]
theorem vint {k : IntKind} {a b : Int} (h : a = b) : Value.int k a = .int k b := by rw [h]
theorem vbool {a b : Bool} (h : a = b) : Value.bool a = .bool b := by rw [h]

set_option maxRecDepth 100000 in
set_option maxHeartbeats 800000 in
theorem next_vec {w : World} {p b : Nat} {l : List Bool} (hV : Vec w p b l) (hT : TabAt w) (i : Int) :
    Calls Tryd.prog 26 #[.pointer (some ⟨p, 0, none⟩), .int .i64 i] w fun e w' =>
      e = .returned (.tuple #[.int .i64 (valN l.length (nextL l i)), .bool (decide (nextL l i < l.length))]) ∧ w = w' := by
  have c1 := hV.c1
  have n2 := hV.n2
  by_cases hout : (l.length : Int) ≤ i
  · have e := hid (next_out hout)
    go_enter Tryd.func26, Tryd.ntmps26
    go_wp2
    go_ret2
    exact ⟨ret2 (vint (by rw [e.out, valN_no (by omega)])) (vbool (by rw [e.out]; simp)), rfl⟩
  · obtain ⟨a, ha⟩ : ∃ a : Nat, a = i.toNat := ⟨_, rfl⟩
    rw [next_toNat l i, ← ha]
    have hal : a < l.length := by have := hV.n1; omega
    obtain ⟨cap, a1, a2, c0⟩ := hV.c0
    have hnb := nw_bd hV.n1 hV.n2
    have hcw := hV.cw
    have HC := hid hcw
    have HT := hid hT
    clear hT hV hcw
    go_enter Tryd.func26, Tryd.ntmps26
    go_upto_region 3 with (fail)
    go_cut [1] from 9 (fun v w' => w' = w ∧ v = .int .i64 a)
    case first =>
      by_cases hneg : i < 0
      · go_wp2
        all_goals (go_meet; case rel => exact ⟨rfl, vint (by omega)⟩)
      · go_wp2
        all_goals (go_meet; case rel => exact ⟨rfl, vint (by omega)⟩)
    case rest =>
      obtain ⟨rfl, rfl⟩ := hcut
      have hal' := div_nw hal
      have HN := hid (fun k (h : nw l ≤ k) => fun fr (h2 : noneTo l a (64 * k + fr)) => next_none h2 h)
      clear hout ha c1 n2 a1 a2
      generalize nw l = m at *
      have hm : m ≤ 16384 := hnb.2
      clear hnb
      go_wp2
      go_loop [6, 7] (fun k fr => ∃ k' fr' : Nat, k' ≤ m ∧ fr' < 64 ∧ a ≤ 64 * k' + fr' ∧ Hid (noneTo l a (64 * k' + fr')) ∧ k = .int .i64 k' ∧ fr = .int .i64 fr') (fun k _ => m - (intOf k).toNat)
      case atStart => exact ⟨a / 64, a % 64, by omega, by omega, by omega, ⟨next_start l a⟩, by go_num, by go_num⟩
      case round =>
        obtain ⟨k, fr, hk, hfr, hak, hno, rfl, rfl⟩ := hrel
        by_cases hlt : k < m
        · have hc := HC.out k hlt
          have HI := hid (next_hit hno.out hak)
          have MI := hid (next_miss hno.out (by omega))
          have hw := hid (wordOf_lt l k)
          have ht64 := tz_le (wordOf l k &&& runW fr 64)
          generalize hq : tz (wordOf l k &&& runW fr 64) = q at *
          have HQ := hid hq
          clear hq hno
          go_wp2_with (go_at_call 84; refine (next_any _ hw.out _ _ HT.out).mono ?_; rintro e w' ⟨rfl, rfl⟩; rw [HQ.out])
          · have h : q < 64 := by omega
            go_ret2
            obtain ⟨h1, h2⟩ := HI.out h
            exact ⟨ret2 (vint (by rw [valN_yes h2, h1]; omega)) (vbool (by simp [h2])), rfl⟩
          · go_round
            case rel => exact ⟨k + 1, 0, by omega, by omega, by omega, ⟨MI.out (by omega)⟩, by go_num, by go_num⟩
            case measure => simp [intOf]; omega
        · have NO := hid (HN.out k (by omega) fr hno.out)
          have hlt' : m ≤ k := by omega
          clear hno hlt
          go_wp2
          go_ret2
          exact ⟨ret2 (vint (by rw [NO.out, valN_no (by omega)])) (vbool (by rw [NO.out]; simp)), rfl⟩

theorem next_vnil (i : Int) (w : World) :
    Calls Tryd.prog 26 #[.pointer none, .int .i64 i] w fun e w' => e = .returned (.tuple #[.int .i64 0, .bool false]) ∧ w = w' := by
  go_enter Tryd.func26, Tryd.ntmps26
  go_wp2
  go_ret2
  exact ⟨rfl, rfl⟩
theorem last_vnil (i : Int) (w : World) :
    Calls Tryd.prog 27 #[.pointer none, .int .i64 i] w fun e w' => e = .returned (.tuple #[.int .i64 0, .bool false]) ∧ w = w' := by
  go_enter Tryd.func27, Tryd.ntmps27
  go_wp2
  go_ret2
  exact ⟨rfl, rfl⟩
theorem pick_vnil (i : Int) (w : World) :
    Calls Tryd.prog 20 #[.pointer none, .int .i64 i] w fun e w' => e = .returned (.tuple #[.int .i64 0, .bool false]) ∧ w = w' := by
  go_enter Tryd.func20, Tryd.ntmps20
  go_wp2
  go_ret2
  exact ⟨rfl, rfl⟩

set_option maxRecDepth 100000 in
set_option maxHeartbeats 800000 in
theorem last_vec {w : World} {p b : Nat} {l : List Bool} (hV : Vec w p b l) (i : Int) :
    Calls Tryd.prog 27 #[.pointer (some ⟨p, 0, none⟩), .int .i64 i] w fun e w' =>
      e = .returned (.tuple #[.int .i64 (valI (lastL l i)), .bool (decide (0 ≤ lastL l i))]) ∧ w = w' := by
  have c1 := hV.c1
  have n2 := hV.n2
  by_cases hout : i ≤ 0
  · have e := hid (last_low (l := l) hout)
    go_enter Tryd.func27, Tryd.ntmps27
    go_wp2
    go_ret2
    exact ⟨ret2 (vint (by rw [e.out]; rfl)) (vbool (by rw [e.out]; simp)), rfl⟩
  · obtain ⟨a, ha⟩ : ∃ a : Nat, (a : Int) = min i l.length := ⟨(min i l.length).toNat, by omega⟩
    rw [last_min l i, ← ha]
    have h1 : 1 ≤ a := by have := hV.n1; omega
    have hal : a ≤ l.length := by omega
    obtain ⟨cap, a1, a2, c0⟩ := hV.c0
    have hnb := nw_bd hV.n1 hV.n2
    have hcw := hV.cw
    have HC := hid hcw
    clear hV hcw
    go_enter Tryd.func27, Tryd.ntmps27
    go_upto_region 3 with (fail)
    go_cut [1] from 8 (fun v w' => w' = w ∧ v = .int .i64 a)
    case first =>
      by_cases hneg : i < l.length
      · go_wp2
        all_goals (go_meet; case rel => exact ⟨rfl, vint (by omega)⟩)
      · go_wp2
        all_goals (go_meet; case rel => exact ⟨rfl, vint (by omega)⟩)
    case rest =>
      obtain ⟨rfl, rfl⟩ := hcut
      have hal' : (a - 1) / 64 < nw l := div_nw (by omega)
      have hst : noneFrom l (a : Int) (64 * (((a - 1) / 64 : Nat) : Int) + 64) := fun i h1 h2 => by omega
      have HS := hid hst
      have a64 : a ≤ 1048576 := by omega
      clear hout ha c1 n2 a1 a2 hst
      generalize nw l = m at *
      have hm : (m : Int) ≤ 16384 := by have := hnb.2; omega
      clear hnb
      go_wp2
      go_loop [6] (fun k => ∃ k' : Nat, k' ≤ m ∧ Hid (noneFrom l a (64 * ((k' : Int) - 1) + 64)) ∧ k = .int .i64 ((k' : Int) - 1)) (fun k => (intOf k + 1).toNat)
      case atStart => exact ⟨(a - 1) / 64 + 1, by omega, ⟨by have := HS.out; rwa [show 64 * ((((a - 1) / 64 + 1 : Nat) : Int) - 1) + 64 = 64 * (((a - 1) / 64 : Nat) : Int) + 64 by omega]⟩, by go_num⟩
      case round =>
        obtain ⟨k', hk, hno, rfl⟩ := hrel
        cases k' with
        | zero =>
          have NO := hid (last_none hno.out (by omega))
          clear hno
          go_wp2
          go_ret2
          exact ⟨ret2 (vint (by rw [NO.out]; rfl)) (vbool (by rw [NO.out]; simp)), rfl⟩
        | succ k =>
          have hc := HC.out k (by omega)
          have hno2 : noneFrom l a (64 * (k : Int) + 64) := by have := hno.out; rwa [show ((k + 1 : Nat) : Int) - 1 = k by omega] at this
          rw [show ((k + 1 : Nat) : Int) - 1 = k by omega]
          have HI := hid (last_hit hno2)
          have MI := hid (last_miss hno2)
          have hw := hid (wordOf_lt l k)
          have ht64 := len_bd (wordOf l k &&& runW 0 ((a : Int) - 64 * k))
          generalize hq : len (wordOf l k &&& runW 0 ((a : Int) - 64 * k)) = q at *
          have HQ := hid hq
          clear hq hno hno2
          go_wp2_with (go_at_call 85; refine (last_any _ hw.out _ _).mono ?_; rintro e w' ⟨rfl, rfl⟩; rw [HQ.out])
          · have h : 0 ≤ q - 1 := by omega
            go_ret2
            have h1 := HI.out h
            exact ⟨ret2 (vint (by rw [h1]; unfold valI; rw [if_pos (by omega)])) (vbool (by rw [h1]; simp; omega)), rfl⟩
          · go_round
            case rel => exact ⟨k, by omega, ⟨by have := MI.out (by omega); rwa [show 64 * ((k : Int) - 1) + 64 = 64 * (k : Int) by omega]⟩, by go_num⟩
            case measure => simp [intOf]

set_option maxRecDepth 100000 in
set_option maxHeartbeats 800000 in
theorem pick_vneg {w : World} (p : Nat) (i : Int) (hi : i < 0) :
    Calls Tryd.prog 20 #[.pointer (some ⟨p, 0, none⟩), .int .i64 i] w fun e w' => e = .returned (.tuple #[.int .i64 0, .bool false]) ∧ w = w' := by
  go_enter Tryd.func20, Tryd.ntmps20
  go_wp2
  go_ret2
  exact ⟨rfl, rfl⟩
set_option maxRecDepth 100000 in
set_option maxHeartbeats 800000 in
theorem pick_vec {w : World} {p b : Nat} {l : List Bool} (hV : Vec w p b l) (q : Nat) (hq : (q : Int) ≤ 9223372036854775807) :
    Calls Tryd.prog 20 #[.pointer (some ⟨p, 0, none⟩), .int .i64 q] w fun e w' =>
      e = .returned (.tuple #[.int .i64 (valN l.length (pickL l q)), .bool (decide (pickL l q < l.length))]) ∧ w = w' := by
  obtain ⟨cap, a1, a2, c0⟩ := hV.c0
  have hnb := nw_bd hV.n1 hV.n2
  have HC := hid hV.cw
  have hd0 : decide ((q : Int) < 0) = false := by simp
  have hQ := hid hq
  clear hq
  have HN := hid (fun k (h : nw l ≤ k) => fun c (h2 : cnt (at_ l) (64 * k) + c = q) => pickL_none h2 h)
  have hst : cnt (at_ l) (64 * 0) + q = q := by simp [cnt_zero]
  have HS := hid hst
  clear hV a1 a2 hst
  generalize nw l = m at *
  have hm : (m : Int) ≤ 16384 := by have := hnb.2; omega
  have hm1 : 1 ≤ m := hnb.1
  clear hnb
  go_enter Tryd.func20, Tryd.ntmps20
  go_wp2
  go_loop [1, 20] (fun c k => ∃ k' c' : Nat, k' ≤ m ∧ Hid (cnt (at_ l) (64 * k') + c' = q) ∧ c = .int .i64 c' ∧ k = .int .i64 k') (fun _ k => m - (intOf k).toNat)
  case atStart => exact ⟨0, q, by omega, HS, rfl, rfl⟩
  case round =>
    obtain ⟨k, c, hk, hno, rfl, rfl⟩ := hrel
    by_cases hlt : k < m
    · have hc := HC.out k hlt
      have hlt2 : c < pc (wordOf l k) ∨ ¬ c < pc (wordOf l k) := Nat.lt_or_ge _ _ |>.imp id (by omega)
      have hcb : (c : Int) ≤ 9223372036854775807 := by have := hno.out; have := hQ.out; omega
      have hcN : ∀ N : Nat, ¬ c < N → -9223372036854775808 ≤ (c : Int) - N ∧ (c : Int) - N ≤ 9223372036854775807 := fun N h => by omega
      have hcN := hid hcN
      clear hcb
      have hpc := pc_le (wordOf l k)
      have HX := hid (and_all (wordOf l k) (wordOf_lt l k))
      have hw := hid (wordOf_lt l k)
      rcases hlt2 with hcn | hcn
      · have HI := hid (pick_hit hno.out hcn)
        have HP := hid (pick_some (wordOf l k) (wordOf_lt l k) c hcn w)
        have hpl := (pickF_lt (f := (wordOf l k).testBit) (n := 64) (k := c) hcn).1
        generalize hN : pc (wordOf l k) = N at *
        have HN2 := hid hN
        generalize pickF (wordOf l k).testBit 64 c = t at *
        clear hno hN
        go_wp2_with (first
          | (go_at_call 77; refine (count_any _ hw.out _ _ _).mono ?_; rintro e w' ⟨rfl, rfl⟩; rw [HX.out, HN2.out])
          | (go_at_call 80; refine HP.out.mono ?_; rintro e w' ⟨rfl, rfl⟩))
        go_ret2
        obtain ⟨h1, h2⟩ := HI.out
        exact ⟨ret2 (vint (by rw [valN_yes h2, h1]; omega)) (vbool (by simp [h2])), rfl⟩
      · have MI := hid (pick_miss hno.out hcn)
        generalize hN : pc (wordOf l k) = N at *
        have HN2 := hid hN
        clear hno hN
        go_wp2_with (first
          | (go_at_call 77; refine (count_any _ hw.out _ _ _).mono ?_; rintro e w' ⟨rfl, rfl⟩; rw [HX.out, HN2.out]))
        go_round
        case rel => exact ⟨k + 1, c - N, by omega, MI, by rw [IntWalk.wrap64_in _ (hcN.out N hcn)]; go_num, by go_num⟩
        case measure => simp [intOf]; omega
    · have NO := hid (HN.out k (by omega) c hno.out)
      have hlt' : m ≤ k := by omega
      clear hno hlt
      go_wp2
      go_ret2
      exact ⟨ret2 (vint (by rw [NO.out, valN_no (by omega)])) (vbool (by rw [NO.out]; simp)), rfl⟩
end Go.Proofs.YtlbbkpjfoabobaaDoor
