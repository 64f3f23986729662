/- rank's Before. -/
import Derived.Test.YtlbbkpjfoabobaaDoorRank
import Derived.Test.YtlbbkpjfoabobaaDoorQuiet
namespace Go.Proofs.YtlbbkpjfoabobaaDoor
open Go.RowKit Word

theorem countL_none (l : List Bool) {b : Int} (h : b ≤ 0) : countL l 0 b = 0 := by
  rw [countL_eq]
  unfold cntI
  have : cnt (fun i => decide ((0 : Int) ≤ (i : Nat) ∧ ((i : Nat) : Int) < b) && at_ l i) l.length = cnt (fun _ => false) l.length := cnt_congr (fun i _ => by rw [decide_eq_false (by omega)]; rfl)
  rw [this]
  generalize l.length = n
  induction n with
  | zero => rfl
  | succ n ih => rw [cnt_succ, ih]; rfl
set_option maxRecDepth 100000 in
set_option maxHeartbeats 1600000 in
theorem rank_before {w : World} {x p b a : Nat} {l : List Bool} {B : Nat} (hX : Idx w x p b a l B) (i : Int) :
    Gets Tryd.prog 38 #[.pointer (some ⟨x, 0, none⟩), .int .i64 i] w (.int .i64 (countL l 0 i : Nat)) := by
  have HX := hid hX
  have k0 := hX.c0
  have k2 := hX.c2
  have k3 := hX.c3
  obtain ⟨cap, k1⟩ := hX.c1
  have n2 := hX.vec.n2
  clear hX
  unfold Gets
  by_cases h0 : i ≤ 0
  · have d0 : decide (i ≤ 0) = true := by simp [h0]
    rw [countL_none l h0]
    clear k0 k1 k2 k3
    go_enter Tryd.func38, Tryd.ntmps38
    go_wp2
    go_ret
    exact ⟨rfl, Gr.refl _⟩
  · obtain ⟨r, rfl⟩ : ∃ r : Nat, i = r := ⟨i.toNat, by omega⟩
    have hr : 0 < r := by omega
    have d0 : decide ((r : Int) ≤ 0) = false := by simp; omega
    by_cases h1 : l.length ≤ r
    · have d1 : decide (l.length ≤ r) = true := by simp [h1]
      rw [countL_all l (by omega)]
      obtain ⟨N, hN⟩ : ∃ N, N = cnt (at_ l) l.length := ⟨_, rfl⟩
      rw [← hN] at k3 ⊢
      clear hN k1 k2
      go_enter Tryd.func38, Tryd.ntmps38
      go_wp2_with (go_at_call 32; refine (len_vec HX.out.vec).mono ?_; rintro e w1 ⟨rfl, rfl⟩)
      go_ret
      exact ⟨rfl, Gr.refl _⟩
    · have d1 : decide (l.length ≤ r) = false := by simp; omega
      obtain ⟨j, hj⟩ : ∃ j, j = r / B := ⟨_, rfl⟩
      have hB := HX.out.b1
      have hB2 := HX.out.b2
      have hjr : j * B ≤ r := by rw [hj]; exact Nat.div_mul_le_self r B
      have hjn : j < nbl l.length B := (nbl_lt hB).2 (by omega)
      have ka := HX.out.ca j hjn
      have q1 : ((r : Int).tdiv (B : Int)) = (j : Int) := by rw [hj]; rfl
      have q2 : ((r : Int) / (B : Int)) = (j : Int) := by rw [hj]; rfl
      obtain ⟨t, ht⟩ : ∃ t, t = j * B := ⟨_, rfl⟩
      have ht' : (j : Int) * (B : Int) = (t : Int) := by rw [ht, Int.natCast_mul]
      have hs := countL_add l (a := 0) (b := (t : Int)) (c := (r : Int)) (by omega) (by omega)
      have hu := countL_upto l (r := t) (by omega)
      rw [← ht] at ka
      rw [hu] at hs
      obtain ⟨c1, hc1⟩ : ∃ c, c = cnt (at_ l) t := ⟨_, rfl⟩
      obtain ⟨c2, hc2⟩ : ∃ c, c = countL l (t : Int) (r : Int) := ⟨_, rfl⟩
      obtain ⟨c3, hc3⟩ : ∃ c, c = countL l 0 (r : Int) := ⟨_, rfl⟩
      have hb1 : c1 ≤ 1048576 := by have := cnt_le (at_ l) t; omega
      have hb2 : c2 ≤ 1048576 := by have := cnt_le (inRun l (t : Int) (r : Int)) l.length; unfold countL at hc2; omega
      rw [← hc1] at ka hs
      rw [← hc2, ← hc3] at hs
      rw [← hc3]
      obtain ⟨N, hN⟩ : ∃ N, N = nbl l.length B := ⟨_, rfl⟩
      rw [← hN] at hjn k1
      have HNn := hid hN
      have htb : (t : Int) ≤ 1048576 := by omega
      have hBp : (B : Int) ≠ 0 := by omega
      have H2 := hid hc2.symm
      have HS := hid hs
      clear hc1 hc2 hc3 hN hj ht hu hs hjr k3
      have hjb : (j : Int) < N := by omega
      have hjl : j ≤ 1048576 := by have := nbl_le (n := l.length) hB; have := HNn.out; omega
      have w3 : IntKind.i64.wrap ((j : Int) * (B : Int)) = (t : Int) := by rw [ht', IntWalk.i64_in _ (by omega)]
      have w4 : IntKind.i64.wrap ((c1 : Int) + (c2 : Int)) = (c3 : Int) := by rw [HS.out, IntWalk.i64_in _ (by have := HS.out; omega)]
      have z0 : ∀ xs m, (grow w xs m).cell? ⟨x, 0, none⟩ = some (.pointer (some ⟨p, 0, none⟩)) := fun xs m => ((grown w xs m).cell HX.out.hx 0).trans k0
      have z1 : ∀ xs m, (grow w xs m).cell? ⟨x, 1, none⟩ = some (.slice (some ⟨a, 0, none⟩) N cap) := fun xs m => ((grown w xs m).cell HX.out.hx 1).trans k1
      have z2 : ∀ xs m, (grow w xs m).cell? ⟨x, 2, none⟩ = some (.int .i64 B) := fun xs m => ((grown w xs m).cell HX.out.hx 2).trans k2
      have z4 : ∀ xs m, (grow w xs m).cell? ⟨a, j, none⟩ = some (.int .i64 c1) := fun xs m => ((grown w xs m).cell HX.out.ha j).trans ka
      go_enter Tryd.func38, Tryd.ntmps38
      go_upto_region 6 with (go_at_call 32; refine (len_vec HX.out.vec).mono ?_; rintro e w1 ⟨rfl, rfl⟩)
      refine wp_region_by (by kernel_rfl) (by kernel_rfl) ?_
      repeat (go_big_quiet_step (first
        | (go_at_call 19; have hc := fun xs m => count_vec (HX.out.vec.gr (grown w xs m)) (t : Int) (r : Int) (by omega); simp only [H2.out] at hc; exact Gets.grown (hc _ _))))
      refine wpQuiet_nil ?_
      intro _ hw'
      obtain ⟨⟨xs, nq⟩, hw''⟩ := hw'
      subst hw''
      go_wp2
      go_ret
      exact ⟨by first | rfl | exact ret_int HS.out, grown w _ _⟩
end Go.Proofs.YtlbbkpjfoabobaaDoor
