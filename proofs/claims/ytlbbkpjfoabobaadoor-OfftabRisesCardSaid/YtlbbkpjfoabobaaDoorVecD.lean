/- Contracts of the closures of bitvec's Fill, Wipe, Count. -/
import Derived.Test.YtlbbkpjfoabobaaDoorVecB
import Derived.Deep.RegionWith
namespace Go.Proofs.YtlbbkpjfoabobaaDoor
open Go.RowKit Word

set_option maxRecDepth 100000 in
set_option maxHeartbeats 1600000 in
theorem fill1_any (w : World) (b k x m : Nat) (bx : Nat) (n : Int) (hx : x < 18446744073709551616) (hm : m < 18446744073709551616)
    (hc : w.cell? ⟨b, k, none⟩ = some (.int .u64 x)) (hf : w.frozen? ⟨b, k, none⟩ = false) (hb : w.cell? ⟨bx, 0, none⟩ = some (.int .i64 n)) (hfb : w.frozen? ⟨bx, 0, none⟩ = false) (hne : b ≠ bx) (hn0 : 0 ≤ n) (hn : n ≤ 1048576) :
    Calls Tryd.prog 76 #[.pointer (some ⟨b, k, none⟩), .int .u64 m, .pointer (some ⟨bx, 0, none⟩)] w fun e w' =>
      e = .returned (.tuple #[]) ∧ ∃ d, w' = ((w.setCell ⟨bx, 0, none⟩ (.int .i64 (n + pc (andN m x) : Int))).setCell ⟨b, k, none⟩ (.int .u64 (x ||| m : Nat))).drewN d := by
  have KA := hid (andNot64 m x hm)
  have KO := hid (bits_or_u64_nat x m hx hm)
  have HL := hid (andN_lt m x hm)
  have HX := hid (and_all (andN m x) (andN_lt m x hm))
  have hp := pc_le (andN m x)
  have HW := hid (IntWalk.i64_in (n + pc (andN m x)) (by omega))
  clear hx hm
  go_enter Tryd.func76, Tryd.ntmps76
  go_upto_region 0 with (fail)
  go_region_with (go_at_call 77; rw [KA.out]; refine (count_any _ HL.out _ _ _).mono ?_; rintro e w' ⟨rfl, rfl⟩; rw [HX.out])
  all_goals
    rw [HW.out]
    go_wp2
    rw [KO.out]
    go_end0
    exact ⟨rfl, 1, rfl⟩

set_option maxRecDepth 100000 in
set_option maxHeartbeats 1600000 in
theorem wipe1_any (w : World) (b k x m : Nat) (bx : Nat) (n : Int) (hx : x < 18446744073709551616) (hm : m < 18446744073709551616)
    (hc : w.cell? ⟨b, k, none⟩ = some (.int .u64 x)) (hf : w.frozen? ⟨b, k, none⟩ = false) (hb : w.cell? ⟨bx, 0, none⟩ = some (.int .i64 n)) (hfb : w.frozen? ⟨bx, 0, none⟩ = false) (hne : b ≠ bx) (hn0 : 0 ≤ n) (hn : n ≤ 1048576) :
    Calls Tryd.prog 93 #[.pointer (some ⟨b, k, none⟩), .int .u64 m, .pointer (some ⟨bx, 0, none⟩)] w fun e w' =>
      e = .returned (.tuple #[]) ∧ ∃ d, w' = ((w.setCell ⟨bx, 0, none⟩ (.int .i64 (n + pc (m &&& x) : Int))).setCell ⟨b, k, none⟩ (.int .u64 (andN x m : Nat))).drewN d := by
  have KA := hid (and64 m x hm hx)
  have KO := hid (andNot64 x m hx)
  have HL := hid (and_lt m x hm)
  have HX := hid (and_all (m &&& x) (and_lt m x hm))
  have hp := pc_le (m &&& x)
  have HW := hid (IntWalk.i64_in (n + pc (m &&& x)) (by omega))
  clear hx hm
  go_enter Tryd.func93, Tryd.ntmps93
  go_upto_region 0 with (fail)
  go_region_with (go_at_call 77; rw [KA.out]; refine (count_any _ HL.out _ _ _).mono ?_; rintro e w' ⟨rfl, rfl⟩; rw [HX.out])
  all_goals
    rw [HW.out]
    go_wp2
    rw [KO.out]
    go_end0
    exact ⟨rfl, 1, rfl⟩
set_option maxRecDepth 100000 in
set_option maxHeartbeats 1600000 in
theorem count1_any (w : World) (b k x m : Nat) (bx : Nat) (n : Int) (hx : x < 18446744073709551616) (hm : m < 18446744073709551616)
    (hc : w.cell? ⟨b, k, none⟩ = some (.int .u64 x)) (hb : w.cell? ⟨bx, 0, none⟩ = some (.int .i64 n)) (hfb : w.frozen? ⟨bx, 0, none⟩ = false) (hn0 : 0 ≤ n) (hn : n ≤ 1048576) :
    Calls Tryd.prog 79 #[.pointer (some ⟨b, k, none⟩), .int .u64 m, .pointer (some ⟨bx, 0, none⟩)] w fun e w' =>
      e = .returned (.tuple #[]) ∧ ∃ d, w' = (w.setCell ⟨bx, 0, none⟩ (.int .i64 (n + pc (m &&& x) : Int))).drewN d := by
  have KA := hid (and64 m x hm hx)
  have HL := hid (and_lt m x hm)
  have HX := hid (and_all (m &&& x) (and_lt m x hm))
  have hp := pc_le (m &&& x)
  have HW := hid (IntWalk.i64_in (n + pc (m &&& x)) (by omega))
  clear hx hm
  go_enter Tryd.func79, Tryd.ntmps79
  go_upto_region 0 with (fail)
  go_region_with (go_at_call 77; rw [KA.out]; refine (count_any _ HL.out _ _ _).mono ?_; rintro e w' ⟨rfl, rfl⟩; rw [HX.out])
  all_goals
    rw [HW.out]
    go_wp2
    go_end0
    exact ⟨rfl, 1, rfl⟩
end Go.Proofs.YtlbbkpjfoabobaaDoor
