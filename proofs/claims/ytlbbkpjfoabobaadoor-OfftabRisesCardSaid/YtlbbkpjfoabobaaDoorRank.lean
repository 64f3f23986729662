/- Package rank: what an index is, and its plain methods. -/
import Derived.Test.YtlbbkpjfoabobaaDoorRef12
import Derived.Test.YtlbbkpjfoabobaaDoorVecF
import Derived.Test.YtlbbkpjfoabobaaDoorAdds
namespace Go.Proofs.YtlbbkpjfoabobaaDoor
open Go.RowKit Word

/-- An index x lies in w: of the bits l, in blocks of B. -/
structure Idx (w : World) (x p b a : Nat) (l : List Bool) (B : Nat) : Prop where
  vec : Vec w p b l
  b1 : 1 ≤ B
  b2 : B ≤ 1024
  hx : x < w.heap.size
  ha : a < w.heap.size
  c0 : w.cell? ⟨x, 0, none⟩ = some (.pointer (some ⟨p, 0, none⟩))
  c1 : ∃ cap, w.cell? ⟨x, 1, none⟩ = some (.slice (some ⟨a, 0, none⟩) (nbl l.length B) cap)
  c2 : w.cell? ⟨x, 2, none⟩ = some (.int .i64 B)
  c3 : w.cell? ⟨x, 3, none⟩ = some (.int .i64 (cnt (at_ l) l.length : Nat))
  ca : ∀ j, j < nbl l.length B → w.cell? ⟨a, j, none⟩ = some (.int .i64 (cnt (at_ l) (j * B) : Nat))
theorem Idx.touch {S : Nat → Prop} {w w' : World} {x p b a : Nat} {l : List Bool} {B : Nat} (h : Idx w x p b a l B) (t : Touch S w w') (h1 : ¬ S x) (h2 : ¬ S p) (h3 : ¬ S b) (h4 : ¬ S a) : Idx w' x p b a l B := by
  obtain ⟨cap, hc⟩ := h.c1
  exact ⟨h.vec.touch t h2 h3, h.b1, h.b2, Nat.lt_of_lt_of_le h.hx t.size, Nat.lt_of_lt_of_le h.ha t.size, by rw [t.cell h.hx h1]; exact h.c0, ⟨cap, by rw [t.cell h.hx h1]; exact hc⟩, by rw [t.cell h.hx h1]; exact h.c2,
    by rw [t.cell h.hx h1]; exact h.c3, fun j hj => by rw [t.cell h.ha h4]; exact h.ca j hj⟩
theorem Idx.gr {w w' : World} {x p b a : Nat} {l : List Bool} {B : Nat} (h : Idx w x p b a l B) (t : Gr w w') : Idx w' x p b a l B := h.touch (t.touch (fun _ => False)) (fun h => h) (fun h => h) (fun h => h) (fun h => h)
theorem nbl_le {n B : Nat} (h : 1 ≤ B) : nbl n B ≤ n := by
  rcases Nat.lt_or_ge n (nbl n B) with h1 | h1
  · have := (nbl_lt h).1 h1
    have h2 : n * 1 ≤ n * B := Nat.mul_le_mul_left n h
    omega
  · exact h1

theorem rank_ones {w : World} {x p b a : Nat} {l : List Bool} {B : Nat} (hX : Idx w x p b a l B) :
    Calls Tryd.prog 36 #[.pointer (some ⟨x, 0, none⟩)] w fun e w' => e = .returned (.int .i64 (cnt (at_ l) l.length : Nat)) ∧ w = w' := by
  have c3 := hX.c3
  have HX := hid hX
  clear hX
  go_enter Tryd.func36, Tryd.ntmps36
  go_wp2
  go_ret
  exact ⟨rfl, rfl⟩
theorem rank_ones_nil (w : World) : Calls Tryd.prog 36 #[.pointer none] w fun e w' => e = .returned (.int .i64 0) ∧ w = w' := by
  go_enter Tryd.func36, Tryd.ntmps36
  go_wp2
  go_ret
  exact ⟨rfl, rfl⟩
theorem rank_blocks {w : World} {x p b a : Nat} {l : List Bool} {B : Nat} (hX : Idx w x p b a l B) :
    Calls Tryd.prog 50 #[.pointer (some ⟨x, 0, none⟩)] w fun e w' => e = .returned (.int .i64 (nbl l.length B : Nat)) ∧ w = w' := by
  obtain ⟨cap, c1⟩ := hX.c1
  have HX := hid hX
  clear hX
  go_enter Tryd.func50, Tryd.ntmps50
  go_wp2
  go_ret
  exact ⟨rfl, rfl⟩
theorem rank_blocks_nil (w : World) : Calls Tryd.prog 50 #[.pointer none] w fun e w' => e = .returned (.int .i64 0) ∧ w = w' := by
  go_enter Tryd.func50, Tryd.ntmps50
  go_wp2
  go_ret
  exact ⟨rfl, rfl⟩
theorem rank_ahead_nil (i : Int) (w : World) : Calls Tryd.prog 48 #[.pointer none, .int .i64 i] w fun e w' => e = .returned (.tuple #[.int .i64 0, .int .i64 9]) ∧ w = w' := by
  go_enter Tryd.func48, Tryd.ntmps48
  go_wp2
  go_ret2
  exact ⟨ret2 rfl rfl, rfl⟩
theorem rank_before_nil (i : Int) (w : World) : Calls Tryd.prog 38 #[.pointer none, .int .i64 i] w fun e w' => e = .returned (.int .i64 0) ∧ w = w' := by
  go_enter Tryd.func38, Tryd.ntmps38
  go_wp2
  go_ret
  exact ⟨rfl, rfl⟩
set_option maxRecDepth 100000 in
set_option maxHeartbeats 800000 in
theorem rank_ahead {w : World} {x p b a : Nat} {l : List Bool} {B : Nat} (hX : Idx w x p b a l B) (i : Int) :
    Calls Tryd.prog 48 #[.pointer (some ⟨x, 0, none⟩), .int .i64 i] w fun e w' => e = .returned (.tuple #[.int .i64 (aheadV l B i), .int .i64 (aheadE l.length B i)]) ∧ w = w' := by
  obtain ⟨cap, c1⟩ := hX.c1
  have HX := hid hX
  clear hX
  by_cases h0 : i < 0
  · have d0 : decide (i < 0) = true := by simp [h0]
    have e1 : aheadV l B i = 0 := by unfold aheadV; rw [if_pos (.inl h0)]
    have e2 : aheadE l.length B i = 11 := by unfold aheadE; rw [if_pos (.inl h0)]
    rw [e1, e2]
    go_enter Tryd.func48, Tryd.ntmps48
    go_wp2
    go_ret2
    exact ⟨ret2 rfl rfl, rfl⟩
  · obtain ⟨j, rfl⟩ : ∃ j : Nat, i = j := ⟨i.toNat, by omega⟩
    have d0 : decide ((j : Int) < 0) = false := by simp
    by_cases hj : nbl l.length B ≤ j
    · have e1 : aheadV l B j = 0 := by unfold aheadV; rw [if_pos (by omega)]
      have e2 : aheadE l.length B j = 11 := by unfold aheadE; rw [if_pos (by omega)]
      rw [e1, e2]
      obtain ⟨N, hN⟩ : ∃ N, N = nbl l.length B := ⟨_, rfl⟩
      rw [← hN] at c1 hj
      have HN := hid hN
      clear hN
      have d1 : decide (N ≤ j) = true := by simp [hj]
      go_enter Tryd.func48, Tryd.ntmps48
      go_wp2
      go_ret2
      exact ⟨ret2 rfl rfl, rfl⟩
    · have hca := HX.out.ca j (by omega)
      have hjb := (nbl_lt (n := l.length) (j := j) HX.out.b1).1 (by omega)
      have e1 : aheadV l B j = (cnt (at_ l) (j * B) : Nat) := by
        unfold aheadV
        rw [if_neg (by omega)]
        have := countL_upto l (r := j * B) (by omega)
        rw [Int.natCast_mul] at this
        rw [this]
      have e2 : aheadE l.length B j = 0 := by unfold aheadE; rw [if_neg (by omega)]
      rw [e1, e2]
      obtain ⟨N, hN⟩ : ∃ N, N = nbl l.length B := ⟨_, rfl⟩
      obtain ⟨C, hC⟩ : ∃ C, C = cnt (at_ l) (j * B) := ⟨_, rfl⟩
      rw [← hC] at hca ⊢
      rw [← hN] at c1 hj
      have HN := hid hN
      have hlt : j < N := by omega
      clear hN hC e1 e2 hjb
      have d1 : decide (N ≤ j) = false := by simp; omega
      go_enter Tryd.func48, Tryd.ntmps48
      go_wp2
      go_ret2
      exact ⟨ret2 rfl rfl, rfl⟩
end Go.Proofs.YtlbbkpjfoabobaaDoor
