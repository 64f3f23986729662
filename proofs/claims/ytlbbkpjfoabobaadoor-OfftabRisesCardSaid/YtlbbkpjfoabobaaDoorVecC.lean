/- Contracts of bitvec's each, and of the three functions that go through a run by it: Fill, Wipe, Count. -/
import Derived.Test.YtlbbkpjfoabobaaDoorVecB
import Derived.Deep.RegionWith
namespace Go.Proofs.YtlbbkpjfoabobaaDoor
open Go.RowKit Word

def EachEnd (I : Nat → World → Prop) (lo : Nat) (hi : Int) (W : World) : Prop := ∃ k, lo / 64 ≤ k ∧ ((lo : Int) < hi → hi ≤ 64 * k) ∧ I k W
set_option maxRecDepth 100000 in
set_option maxHeartbeats 1600000 in
theorem each_any (g : FuncId) (bx : Addr) (p b n m c : Nat) (I : Nat → World → Prop)
    (hg : ∀ args W, (callFunc g args).run Tryd.prog W = .ok (.enter g args) W)
    (hI : ∀ k W, I k W → W.cell? ⟨p, 0, none⟩ = some (.slice (some ⟨b, 0, none⟩) m c) ∧ W.cell? ⟨p, 1, none⟩ = some (.int .i64 n))
    (hD : ∀ k W d, I k W → I k (W.drewN d))
    (hm : n ≤ 64 * m) (hn : (n : Int) ≤ 1048576) (f t : Int) (hf64 : f ≤ 9223372036854775807) (lo : Nat) (hlo : (lo : Int) = max f 0) (hi : Int) (hhi : hi = min t n)
    (hstep : ∀ k W, lo / 64 ≤ k → (64 * k : Int) < hi → (lo : Int) < hi → I k W →
      Calls Tryd.prog g #[.pointer (some ⟨b, k, none⟩), .int .u64 (runW ((lo : Int) - 64 * k) (hi - 64 * k) : Nat), .pointer (some bx)] W (fun e W' => e = .returned (.tuple #[]) ∧ I (k + 1) W'))
    (w : World) (h0 : I (lo / 64) w) :
    Calls Tryd.prog 75 #[.pointer (some ⟨p, 0, none⟩), .int .i64 f, .int .i64 t, .func (.func g) #[] #[.pointer (some bx)]] w fun e W' =>
      e = .returned (.tuple #[]) ∧ EachEnd I lo hi W' := by
  obtain ⟨c0, c1⟩ := hI _ _ h0
  have HI := hid hI
  have HD := hid hD
  have HS := hid hstep
  have H0 := hid h0
  clear hI hD hstep h0
  go_enter Tryd.func75, Tryd.ntmps75
  go_upto_region 1 with (fail)
  go_cut [1, 2] from 9 (fun u v w' => u = .int .i64 lo ∧ v = .int .i64 hi ∧ ∃ d, w' = w.drewN d)
  case first =>
    have hc1 : f < 0 ∨ 0 ≤ f := by omega
    have hc2 : t < n ∨ (n : Int) ≤ t := by omega
    rcases hc1 with hf | hf <;> rcases hc2 with ht | ht
    all_goals
      go_wp2
      go_region
    all_goals go_wp2
    all_goals (go_meet; case rel => exact ⟨vint (by omega), vint (by omega), 1, rfl⟩)
  case rest =>
    obtain ⟨rfl, rfl, d, rfl⟩ := hcut
    have H1 := hid (HD.out _ _ d H0.out)
    have hhi2 : hi ≤ n := by omega
    have hlo2 : (0 : Int) ≤ lo := by omega
    have hlo3 : (lo : Int) ≤ 9223372036854775807 := by omega
    clear hhi hlo c0 c1 H0
    by_cases hlt : (lo : Int) < hi
    · have hln : (lo : Int) < 1048576 := by omega
      have hin : hi ≤ 1048576 := by omega
      have hpos : 1 ≤ hi := by omega
      have hm2 : hi ≤ 64 * m := by omega
      clear hm hn hhi2
      go_upto_region 2 with (fail)
      go_wp2
      go_loopw [8] (fun i W => ∃ k : Nat, lo / 64 ≤ k ∧ Hid (I k W) ∧ i = .int .i64 k) (fun i _ => (hi + 64 - 64 * intOf i).toNat)
      case atStart => exact ⟨lo / 64, by omega, H1, by go_num⟩
      case round =>
        obtain ⟨k, hk, hIk, rfl⟩ := hrel
        by_cases hkk : (64 * k : Int) < hi
        · have hle : (k : Int) ≤ (hi - 1) / 64 := by omega
          have hkm : k < m := by omega
          obtain ⟨c0, c1⟩ := HI.out _ _ hIk.out
          have HC := hid (HS.out k wr.drew hk hkk hlt (HD.out _ _ 1 hIk.out))
          go_upto_region 5 with (fail)
          have S1 := hid (IntWalk.i64_in (64 * (k : Int)) (by omega))
          have S2 := hid (IntWalk.i64_in ((lo : Int) - 64 * (k : Int)) (by omega))
          have S3 := hid (IntWalk.i64_in (hi - 64 * (k : Int)) (by omega))
          go_region_with (first
            | (go_at_call 94; rw [S1.out, S2.out, S3.out]; refine (run_any _ _ _).mono ?_; rintro e w' ⟨rfl, rfl⟩)
            | (refine HC.out.mono ?_; rintro e W2 ⟨rfl, h2⟩))
          all_goals
            go_wp2
            go_roundw
            case rel => exact ⟨k + 1, by omega, ⟨h2⟩, by go_num⟩
            case measure => simp [intOf]; omega
        · have hle : ¬ (k : Int) ≤ (hi - 1) / 64 := by omega
          go_wp2
          go_end0
          exact ⟨rfl, k, hk, fun _ => by omega, hIk.out⟩
    · have hlw : (lo : Int) ≤ 9223372036854775807 := hlo3
      have hlw2 : ¬ (lo : Int) < hi := hlt
      have HLT := hid hlt
      clear hm hn
      go_wp2
      go_loopw [8] (fun i W => W = w.drewN d ∧ i = .int .i64 (lo / 64 : Nat)) (fun _ _ => 0)
      case atStart => exact ⟨rfl, by go_num⟩
      case round =>
        obtain ⟨rfl, rfl⟩ := hrel
        go_wp2
        go_end0
        exact ⟨rfl, lo / 64, Nat.le_refl _, fun h => absurd h (by have := HLT.out; omega), H1.out⟩
end Go.Proofs.YtlbbkpjfoabobaaDoor
