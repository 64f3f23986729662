/- sort.Search over a function with two captured boxes. -/
import Derived.Test.YtlbbkpjfoabobaaDoorRankB
namespace Go.Proofs.YtlbbkpjfoabobaaDoor
open Go.RowKit Word

set_option maxRecDepth 100000 in
set_option maxHeartbeats 1600000 in
theorem search_any (g : FuncId) (b1 b2 : Addr) (n : Nat) (hn : n ≤ 1048576) (t : Nat → Bool) (w : World)
    (hg : ∀ args W, (callFunc g args).run Tryd.prog W = .ok (.enter g args) W)
    (hm : ∀ i j, i ≤ j → j < n → t i = true → t j = true)
    (hf : ∀ i W, i < n → Gr w W → Calls Tryd.prog g #[.int .i64 (i : Nat), .pointer (some b1), .pointer (some b2)] W (fun e W' => e = .returned (.bool (t i)) ∧ Gr W W')) :
    Gets Tryd.prog 87 #[.int .i64 n, .func (.func g) #[] #[.pointer (some b1), .pointer (some b2)]] w (.int .i64 (first t n : Nat)) := by
  have HF := hid hf
  have HM := hid hm
  clear hf hm
  unfold Gets
  go_enter Tryd.func87, Tryd.ntmps87
  go_wp2
  go_loopw [5, 6] (fun x y wr => ∃ lo hi : Nat, lo ≤ hi ∧ hi ≤ n ∧ Hid (∀ i, i < lo → t i = false) ∧ Hid (hi < n → t hi = true) ∧ Hid (Gr w wr) ∧ x = .int .i64 lo ∧ y = .int .i64 hi) (fun x y _ => (intOf y).toNat - (intOf x).toNat)
  case atStart => exact ⟨0, n, by omega, by omega, ⟨fun i h => by omega⟩, ⟨fun h => by omega⟩, ⟨Gr.refl _⟩, rfl, rfl⟩
  case round =>
    obtain ⟨lo, hi, h1, h2, hl, hh, hG, rfl, rfl⟩ := hrel
    by_cases hlt : lo < hi
    · obtain ⟨m, hmid⟩ : ∃ m, m = (lo + hi) / 2 := ⟨_, rfl⟩
      have hm1 : lo ≤ m ∧ m < hi := by omega
      have q1 : ((lo : Int) + (hi : Int)) / 2 = (m : Int) := by omega
      clear hmid
      cases ht : t m with
      | false =>
        have HC := hid (HF.out m wr (by omega) hG.out)
        have HN := hid ht
        go_wp2_with (refine HC.out.mono ?_; rintro e W2 ⟨rfl, h2⟩; rw [HN.out]; have HG2 := hid (hG.out.trans h2); clear h2)
        go_roundw
        case rel =>
          refine ⟨m + 1, hi, by omega, by omega, ⟨fun i hi' => ?_⟩, hh, HG2, by go_num, rfl⟩
          cases hti : t i with
          | false => rfl
          | true => have := HM.out i m (by omega) (by omega) hti; rw [HN.out] at this; cases this
        case measure => simp [intOf]; omega
      | true =>
        have HC := hid (HF.out m wr (by omega) hG.out)
        have HN := hid ht
        go_wp2_with (refine HC.out.mono ?_; rintro e W2 ⟨rfl, h2⟩; rw [HN.out]; have HG2 := hid (hG.out.trans h2); clear h2)
        go_roundw
        case rel => exact ⟨lo, m, by omega, by omega, hl, ⟨fun _ => HN.out⟩, HG2, rfl, by go_num⟩
        case measure => simp [intOf]; omega
    · obtain rfl : lo = hi := by omega
      have E := hid (first_eq h2 hl.out hh.out)
      go_wp2
      go_ret
      exact ⟨ret_int (by rw [E.out]), hG.out⟩
end Go.Proofs.YtlbbkpjfoabobaaDoor
