/- masks.Power, and the reference's May of layer 12. -/
import Derived.Test.YtlbbkpjfoabobaaDoorMasks
namespace Go.Proofs.YtlbbkpjfoabobaaDoor
open Go.RowKit Word

def powB (n : Int) : Bool := decide (0 < n) && (bits .and .i64 n (n - 1) == 0)
set_option maxRecDepth 100000 in
set_option maxHeartbeats 800000 in
theorem power_any (n : Int) (hn : n ≤ 9223372036854775807) (w : World) : Calls Tryd.prog 86 #[.int .i64 n] w fun e w' => e = .returned (.bool (powB n)) ∧ w = w' := by
  by_cases h : 0 < n
  · have d1 : decide (0 < n) = true := by simp [h]
    have e1 : powB n = (bits .and .i64 n (n - 1) == 0) := by unfold powB; rw [d1]; rfl
    rw [e1]
    generalize hb : bits .and .i64 n (n - 1) = z
    have HB := hid hb
    go_enter Tryd.func86, Tryd.ntmps86
    go_wp2
    go_ret
    exact ⟨rfl, rfl⟩
  · have d1 : decide (0 < n) = false := by simp; omega
    have e1 : powB n = false := by unfold powB; rw [d1]; rfl
    rw [e1]
    go_enter Tryd.func86, Tryd.ntmps86
    go_wp2
    go_ret
    exact ⟨rfl, rfl⟩
/-- Which blocks may be. -/
def blockOk (n : Int) : Bool := [1, 2, 4, 8, 16, 32, 64, 128, 256, 512, 1024].contains n
theorem pow_small : ∀ m : Fin 1025, powB (m.1 : Int) = blockOk (m.1 : Int) := by decide +kernel
theorem blockOk_pos {n : Int} (h : blockOk n = true) : 1 ≤ n ∧ n ≤ 1024 := by
  simp [blockOk] at h
  omega
theorem blockOk_eq (n : Int) : blockOk n = (powB n && decide (n ≤ 1024)) := by
  by_cases h : 0 ≤ n ∧ n ≤ 1024
  · obtain ⟨m, rfl⟩ : ∃ m : Nat, n = m := ⟨n.toNat, by omega⟩
    have := pow_small ⟨m, by omega⟩
    simp only at this
    rw [this, decide_eq_true h.2, Bool.and_true]
  · cases hb : blockOk n with
    | true => have := blockOk_pos hb; omega
    | false =>
      by_cases h2 : n ≤ 1024
      · unfold powB; rw [decide_eq_false (by omega)]; rfl
      · rw [decide_eq_false h2, Bool.and_false]
end Go.Proofs.YtlbbkpjfoabobaaDoor
