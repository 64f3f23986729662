/- RankBack: the walk. -/
import Derived.Test.YtlbbkpjfoabobaaDoorTells12
namespace Go.Proofs.YtlbbkpjfoabobaaDoor
open Go.RowKit Word

/-- The one before the k-th; -1 at first. -/
def lastP (l : List Bool) : Nat → Int
  | 0 => -1
  | k + 1 => (pickL l k : Nat)
theorem lastP_lt {l : List Bool} {k : Nat} (hk : k < cnt (at_ l) l.length) : lastP l k < (pickL l k : Nat) := by
  cases k with
  | zero => show (-1 : Int) < _; omega
  | succ k =>
    obtain ⟨_, a2, a3⟩ := pick_lt_all (l := l) (q := k) (by omega)
    obtain ⟨_, b2, b3⟩ := pick_lt_all hk
    show ((pickL l k : Nat) : Int) < _
    have : ¬ pickL l (k + 1) ≤ pickL l k := fun h => by have := cnt_mono (at_ l) h; omega
    omega
theorem pick_count {l : List Bool} {k : Nat} (hk : k < cnt (at_ l) l.length) : countL l 0 ((pickL l k : Nat) : Int) = k ∧ countL l 0 (((pickL l k : Nat) : Int) + 1) = k + 1 := by
  obtain ⟨b1, b2, b3⟩ := pick_lt_all hk
  refine ⟨by rw [countL_upto l (by omega), b3], ?_⟩
  have := countL_upto l (r := pickL l k + 1) (by omega)
  rw [show (((pickL l k : Nat) : Int) + 1) = ((pickL l k + 1 : Nat) : Int) by push_cast; rfl, this, cnt_succ, b2, b3]; rfl
set_option maxRecDepth 100000 in
set_option maxHeartbeats 800000 in
theorem back12_far {W : World} (hT : TabAt W) (A : Option Addr) (len cap : Nat) (h : len = 0 ∨ 2000 < len) (n : Int) :
    Gets Tryd.prog 6 #[.slice A len cap, .int .u8 n] W (.bool true) := by
  have HT := hid hT
  clear hT
  unfold Gets
  rcases h with rfl | h
  · go_enter Tryd.func6, Tryd.ntmps6
    go_wp2_with (go_at_call 33; refine (lives12 HT.out).mono ?_; rintro e w4 ⟨rfl, hg4⟩)
    go_ret
    exact ⟨rfl, hg4⟩
  · have d0 : ((len : Int) == 0) = false := beq_eq_false_iff_ne.2 (by omega)
    have d1 : decide ((2000 : Int) < (len : Int)) = true := by simp; omega
    clear h
    go_enter Tryd.func6, Tryd.ntmps6
    go_wp2_with (go_at_call 33; refine (lives12 HT.out).mono ?_; rintro e w4 ⟨rfl, hg4⟩)
    go_ret
    exact ⟨rfl, hg4⟩
theorem shl_block : ∀ r : Fin 11, blockOk (2 ^ r.1 : Nat) = true ∧ wrap64 ((2 : Int) ^ r.1) = ((2 ^ r.1 : Nat) : Int) := by decide +kernel
set_option maxRecDepth 100000 in
set_option maxHeartbeats 1600000 in
theorem back12_in {W : World} (hT : TabAt W) {g o : Nat} (cap : Nat) {l : List Bool} (hB : BoolsO W g o l) (h1 : 1 ≤ l.length) (h2 : l.length ≤ 2000) (n : Nat) (hn : n ≤ 255) :
    Gets Tryd.prog 6 #[.slice (some ⟨g, o, none⟩) l.length cap, .int .u8 n] W (.bool true) := by
  have HT := hid hT
  have HB := hid hB
  have hgl := hB.lt
  clear hT hB
  have d0 : ((l.length : Int) == 0) = false := beq_eq_false_iff_ne.2 (by omega)
  have d1 : decide ((2000 : Int) < (l.length : Int)) = false := by simp; omega
  obtain ⟨r, hr⟩ : ∃ r, r = n % 11 := ⟨_, rfl⟩
  have hr1 : (n : Int) % 11 = (r : Int) := by omega
  have hrb : r < 11 := by omega
  obtain ⟨hok, hsh⟩ := shl_block ⟨r, hrb⟩
  obtain ⟨B, hBB⟩ : ∃ B, B = 2 ^ r := ⟨_, rfl⟩
  simp only [] at hok hsh
  rw [← hBB] at hok hsh
  have HN := hid hok
  obtain ⟨N, hN⟩ : ∃ N, N = cnt (at_ l) l.length := ⟨_, rfl⟩
  have hNl : N ≤ l.length := by rw [hN]; exact cnt_le _ _
  have EO := hid hN.symm
  clear hr hBB hok hN
  unfold Gets
  go_enter Tryd.func6, Tryd.ntmps6
  go_wp2_with (first
    | (go_at_call 35; refine (bits12 HB.out h1).mono ?_; rintro e w1 ⟨p, b, rfl, hg1, hV1, -, -⟩; have HG1 := hid hg1; have HV1 := hid hV1; clear hg1 hV1)
    | (go_at_call 34; refine (rank_new_in HV1.out B HN.out).mono ?_; rintro e w2 ⟨xx, p2, b2, a2, rfl, hg2, hI2, -, -, -, -⟩; have HG2 := hid (HG1.out.trans hg2); have HI2 := hid hI2; clear hg2 hI2)
    | (go_at_call 36; refine (rank_ones HI2.out).mono ?_; rintro e w3 ⟨rfl, rfl⟩; rw [EO.out]))
  clear hr1 hsh
  go_loopw [7, 35] (fun s7 s35 wr => ∃ k : Nat, k ≤ N ∧ Hid (Gr w2 wr) ∧ s7 = .int .i64 (lastP l k) ∧ s35 = .int .i64 k) (fun _ s35 _ => N - (intOf s35).toNat)
  case atStart => exact ⟨0, by omega, ⟨Gr.refl _⟩, rfl, rfl⟩
  case round =>
    obtain ⟨k, hk, hG, rfl, rfl⟩ := hrel
    by_cases hlt : k < N
    · have hkN : k < cnt (at_ l) l.length := by rw [EO.out]; exact hlt
      obtain ⟨b1, b2, -⟩ := pick_lt_all hkN
      have hpc := pick_count hkN
      have hlp := lastP_lt hkN
      have hlast : lastP l (k + 1) = ((pickL l k : Nat) : Int) := rfl
      have hlo : -1 ≤ lastP l k := by
        cases k with
        | zero => exact Int.le_refl _
        | succ k => show -1 ≤ ((pickL l k : Nat) : Int); omega
      obtain ⟨r, hr⟩ : ∃ r, r = pickL l k := ⟨_, rfl⟩
      obtain ⟨s, hs⟩ : ∃ s, s = lastP l k := ⟨_, rfl⟩
      rw [← hr] at b1 b2 hpc hlp hlast
      rw [← hs] at hlp hlo ⊢
      have HK := hid hkN
      have HR := hid hr.symm
      have HC := hid hpc
      have HLS := hid hlast
      have hcell := HB.out.cell r b1
      rw [b2] at hcell
      have d2 : decide ((r : Int) ≤ s) = false := by simp; omega
      have d3 : decide (l.length ≤ r) = false := by simp; omega
      have HX := hid hcell
      have hrl : (r : Int) < (l.length : Int) := by omega
      clear hkN hr hs hpc hlast b2 hcell
      go_wp2_with (first
        | (go_at_call 37; refine (rank_pick_in (HI2.out.gr hG.out) ((HG2.out.trans hG.out).tab HT.out.lt HT.out) k HK.out).mono ?_; rintro e w4 ⟨rfl, hg4⟩; rw [HR.out]; have HG4 := hid (hG.out.trans hg4); have hcell := ((HG2.out.trans HG4.out).cell hgl _).trans HX.out; clear hg4)
        | (go_at_call 38; refine (rank_before (HI2.out.gr HG5.out) _).mono ?_; rintro e w6 ⟨rfl, hg6⟩; rw [HC.out.2]; have HG6 := hid (HG5.out.trans hg6); clear hg6)
        | (go_at_call 38; refine (rank_before (HI2.out.gr HG4.out) _).mono ?_; rintro e w5 ⟨rfl, hg5⟩; rw [HC.out.1]; have HG5 := hid (HG4.out.trans hg5); clear hg5))
      go_roundw
      case rel => exact ⟨k + 1, by omega, HG6, by rw [HLS.out], by go_num⟩
      case measure => simp [intOf]; omega
    · obtain rfl : k = N := by omega
      have HK : Hid (cnt (at_ l) l.length ≤ k) := ⟨by rw [EO.out]; exact Nat.le_refl _⟩
      go_wp2_with (first
        | (go_at_call 36; refine (rank_ones (HI2.out.gr hG.out)).mono ?_; rintro e w3 ⟨rfl, rfl⟩; rw [EO.out])
        | (go_at_call 37; refine (rank_pick_high (HI2.out.gr hG.out) k HK.out).mono ?_; rintro e w4 ⟨rfl, hg4⟩; have HG4 := hid (HG2.out.trans (hG.out.trans hg4)); clear hg4)
        | (go_at_call 33; refine (lives12 (HG4.out.tab HT.out.lt HT.out)).mono ?_; rintro e w5 ⟨rfl, hg5⟩))
      go_ret
      exact ⟨rfl, HG4.out.trans hg5⟩
theorem back12_walk {W : World} (hT : TabAt W) (A : Option Addr) (cap : Nat) (l : List Bool) (hA : RowAt W A l) (n : Nat) (hn : n ≤ 255) :
    Gets Tryd.prog 6 #[.slice A l.length cap, .int .u8 n] W (.bool true) := by
  by_cases h : l.length = 0 ∨ 2000 < l.length
  · exact back12_far hT A l.length cap h n
  · obtain ⟨g, o, rfl, hB⟩ := hA.row (by omega) (by omega)
    exact back12_in hT cap hB (by omega) (by omega) n hn
end Go.Proofs.YtlbbkpjfoabobaaDoor
