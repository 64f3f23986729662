/- rank's Pick. -/
import Derived.Test.YtlbbkpjfoabobaaDoorSearch
namespace Go.Proofs.YtlbbkpjfoabobaaDoor
open Go.RowKit Word

/-- The least one from a on is the one of which as many are less as stand below a. -/
theorem next_pick (l : List Bool) {a q : Nat} (h : cnt (at_ l) a = q) : nextL l (a : Int) = pickL l q := by
  obtain ⟨j, hj⟩ : ∃ j, j = nextL l (a : Int) := ⟨_, rfl⟩
  have hle : j ≤ l.length := by rw [hj]; exact first_le _ _
  have hno : ∀ i, i < j → ¬ (at_ l i = true ∧ a ≤ i) := fun i hi hc => by
    have := first_not (fun i => at_ l i && decide ((a : Int) ≤ i)) l.length i (by rw [hj] at hi; exact hi)
    simp [hc.1] at this; omega
  rw [← hj]
  rcases Nat.lt_or_ge j l.length with hlt | hge
  · have hat := first_at (fun i => at_ l i && decide ((a : Int) ≤ i)) l.length (by rw [hj] at hlt; exact hlt)
    have hat' : at_ l j = true ∧ (a : Int) ≤ j := by
      have e : first (fun i => at_ l i && decide ((a : Int) ≤ i)) l.length = j := hj.symm
      rw [e] at hat; simpa using hat
    have hc : cnt (at_ l) j = q := by
      rw [← h]
      exact cnt_ext (by omega) (fun i h1 h2 => by
        cases hi : at_ l i with
        | false => rfl
        | true => exact absurd ⟨hi, h1⟩ (hno i h2))
    exact (pickF_eq hlt hat'.1 hc).symm
  · have : cnt (at_ l) l.length ≤ q := by
      rw [← h]
      rcases Nat.lt_or_ge a l.length with h1 | h1
      · rw [cnt_ext (m := a) (by omega) (fun i h2 h3 => by
          cases hi : at_ l i with
          | false => rfl
          | true => exact absurd ⟨hi, h2⟩ (hno i (by omega)))]
        exact Nat.le_refl _
      · exact cnt_mono _ h1
    rw [pick_all_none this]; omega
theorem next_after {l : List Bool} {q : Nat} (h : q < cnt (at_ l) l.length) : nextL l ((pickL l q : Int) + 1) = pickL l (q + 1) := by
  obtain ⟨h1, h2, h3⟩ := pick_lt_all h
  have := next_pick l (a := pickL l q + 1) (q := q + 1) (by rw [cnt_succ, h2, h3]; rfl)
  rw [← this]; rfl

set_option maxRecDepth 100000 in
set_option maxHeartbeats 1600000 in
theorem rank_pick1 {w : World} {x p b a : Nat} {l : List Bool} {B : Nat} (hX : Idx w x p b a l B) (bx bk : Addr) (k : Nat) (hbx : w.cell? bx = some (.pointer (some ⟨x, 0, none⟩))) (hbk : w.cell? bk = some (.int .i64 k))
    (i : Nat) (hi : i < nbl l.length B) :
    Calls Tryd.prog 88 #[.int .i64 i, .pointer (some bx), .pointer (some bk)] w fun e w' => e = .returned (.bool (decide (k < cnt (at_ l) (i * B)))) ∧ Gr w w' := by
  obtain ⟨cap, c1⟩ := hX.c1
  have ca := hX.ca i hi
  have n2 := hX.vec.n2
  have hN := nbl_le (n := l.length) hX.b1
  obtain ⟨N, hN'⟩ : ∃ N, N = nbl l.length B := ⟨_, rfl⟩
  obtain ⟨C, hC⟩ : ∃ C, C = cnt (at_ l) (i * B) := ⟨_, rfl⟩
  rw [← hN'] at c1 hi hN
  rw [← hC] at ca ⊢
  have hi' : (i : Int) < (N : Int) := by omega
  have hi0 : (0 : Int) ≤ (i : Int) := by omega
  have hN2 : N ≤ 1048576 := by omega
  clear hX hN' hC hN n2
  go_enter Tryd.func88, Tryd.ntmps88
  go_upto_region 1 with (fail)
  go_quiet (fail)
  go_wp2
  go_ret
  exact ⟨ret_bool (by simp), (Gr.refl w).drewN _⟩
end Go.Proofs.YtlbbkpjfoabobaaDoor
