/- Contracts of the reference of layer 12. The reference's loops over a row of bools that came in: at any offset. Package rank: what an index is, and its plain methods. rank's Before. sort.Search over a function with two captured boxes. rank's Pick. rank's Pick, whole. rank.New. Layer 12's helper 'bits', and the example of its statements. -/
import Derived.Test.YtbmidhlilafgeaaGreatDoorK3
import Derived.Test.YtbmidhlilafgeaaGreatDoorK5
import Derived.Test.YtbmidhlilafgeaaGreatDoorK4
import Derived.Test.YtbmidhlilafgeaaGreatDoorK2
section
namespace Go.Proofs.YtbmidhlilafgeaaGreatDoor
open Go.RowKit Word

/-- How many blocks of B there are in n. -/
def nbl (n B : Nat) : Nat := (n + B - 1) / B
theorem nbl_eq {n B j : Nat} (hB : 1 ≤ B) (h1 : n ≤ j * B) (h2 : ∀ i, i < j → i * B < n) : nbl n B = j := by
  unfold nbl
  refine Nat.div_eq_of_lt_le ?_ ?_
  · cases j with
    | zero => simp
    | succ i =>
      have := h2 i (by omega)
      rw [Nat.succ_mul]; omega
  · rw [Nat.succ_mul]; omega
theorem nbl_lt {n B j : Nat} (hB : 1 ≤ B) : j < nbl n B ↔ j * B < n := by
  unfold nbl
  constructor
  · intro h
    have h2 := (Nat.le_div_iff_mul_le (by omega : 0 < B)).1 (show j + 1 ≤ (n + B - 1) / B from h)
    rw [Nat.succ_mul] at h2; omega
  · intro h
    show j + 1 ≤ _
    rw [Nat.le_div_iff_mul_le (by omega), Nat.succ_mul]; omega

set_option maxRecDepth 100000 in
set_option maxHeartbeats 800000 in
theorem ref_may12 (n : Int) (w : World) : Calls Tryz.prog 139 #[.int .i64 n] w fun e w' => e = .returned (.bool (blockOk n)) ∧ w = w' := by
  go_enter Tryz.func139, Tryz.ntmps139
  go_wp2
  go_loop [3] (fun i => ∃ k : Nat, k ∈ [1, 2, 4, 8, 16, 32, 64, 128, 256, 512, 1024, 2048] ∧ Hid (∀ j : Nat, j < k → j ∈ [1, 2, 4, 8, 16, 32, 64, 128, 256, 512, 1024, 2048] → n ≠ j) ∧ i = .int .i64 k) (fun i => 2049 - (intOf i).toNat)
  case atStart => exact ⟨1, by decide, ⟨fun j h1 h2 => by simp at h2; omega⟩, rfl⟩
  case round =>
    obtain ⟨k, hk, hno, rfl⟩ := hrel
    have hk1 : 1 ≤ k ∧ k ≤ 2048 := by simp at hk; omega
    by_cases hle : k ≤ 1024
    · by_cases hn : n = k
      · have hok : blockOk n = true := by rw [hn]; simp at hk; rcases hk with rfl | rfl | rfl | rfl | rfl | rfl | rfl | rfl | rfl | rfl | rfl | rfl <;> first | rfl | omega
        have hb : ((k : Int) == n) = true := by simp; omega
        subst hn
        have HK := hid hok
        clear hok hno hk
        go_wp2
        go_ret
        exact ⟨ret_bool HK.out.symm, rfl⟩
      · have hb : ((k : Int) == n) = false := by simp; omega
        have hn' : (k : Int) ≠ n := fun h => hn h.symm
        have hk2 : Hid (k * 2 ∈ [1, 2, 4, 8, 16, 32, 64, 128, 256, 512, 1024, 2048]) := ⟨by simp at hk ⊢; omega⟩
        have hno2 : Hid (∀ j : Nat, j < k * 2 → j ∈ [1, 2, 4, 8, 16, 32, 64, 128, 256, 512, 1024, 2048] → n ≠ j) := ⟨fun j h1 h2 => by
          by_cases e : j < k
          · exact hno.out j e h2
          · have : j = k := by simp at hk h2; omega
            rw [this]; exact hn⟩
        clear hno hk hn
        go_wp2
        go_round
        case rel => exact ⟨k * 2, hk2.out, hno2, by go_num⟩
        case measure => simp [intOf]; omega
    · have hok : Hid (blockOk n = false) := ⟨by
        cases h : blockOk n with
        | false => rfl
        | true =>
          have hp := blockOk_pos h
          exact absurd (show n = (n.toNat : Int) by omega) (hno.out n.toNat (by simp at hk; omega) (by simp [blockOk] at h ⊢; omega))⟩
      clear hno hk
      go_wp2
      go_ret
      exact ⟨ret_bool hok.out.symm, rfl⟩

def aheadV (l : List Bool) (B : Nat) (b : Int) : Int := if b < 0 ∨ (nbl l.length B : Int) ≤ b then 0 else (countL l 0 (b * B) : Nat)
def aheadE (n B : Nat) (b : Int) : Int := if b < 0 ∨ (nbl n B : Int) ≤ b then 11 else 0
end Go.Proofs.YtbmidhlilafgeaaGreatDoor
end

section
namespace Go.Proofs.YtbmidhlilafgeaaGreatDoor
open Go.RowKit Word

/-- A row of the bools l in block g, from cell o on. -/
structure BoolsO (w : World) (g o : Nat) (l : List Bool) : Prop where
  lt : g < w.heap.size
  n2 : l.length ≤ 1048576
  cell : ∀ i, i < l.length → w.cell? ⟨g, o + i, none⟩ = some (.bool (at_ l i))
theorem BoolsO.touch {S : Nat → Prop} {w w' : World} {g o : Nat} {l : List Bool} (h : BoolsO w g o l) (t : Touch S w w') (hS : ¬ S g) : BoolsO w' g o l :=
  ⟨Nat.lt_of_lt_of_le h.lt t.size, h.n2, fun i hi => by rw [t.cell h.lt hS]; exact h.cell i hi⟩
theorem BoolsO.gr {w w' : World} {g o : Nat} {l : List Bool} (h : BoolsO w g o l) (t : Gr w w') : BoolsO w' g o l := h.touch (t.touch (fun _ => False)) (fun h => h)
end Go.Proofs.YtbmidhlilafgeaaGreatDoor
end

section
namespace Go.Proofs.YtbmidhlilafgeaaGreatDoor
open Go.RowKit Word

/-- An index x lies in w: of the bits l, in blocks of B. -/
structure Idx (w : World) (x p b a : Nat) (l : List Bool) (B : Nat) : Prop where
  vec : Vec w p b l
  b1 : 1 ≤ B
  b2 : B ≤ 1024
  hx : x < w.heap.size
  ha : a < w.heap.size
  c0 : w.cell? ⟨x, 0, none⟩ = some (.pointer (some ⟨p, 0, none⟩))
  c1 : ∃ cap, w.cell? ⟨x, 1, none⟩ = some (.slice (some ⟨a, 0, none⟩) (nbl l.length B) cap)
  c2 : w.cell? ⟨x, 2, none⟩ = some (.int .i64 B)
  c3 : w.cell? ⟨x, 3, none⟩ = some (.int .i64 (cnt (at_ l) l.length : Nat))
  ca : ∀ j, j < nbl l.length B → w.cell? ⟨a, j, none⟩ = some (.int .i64 (cnt (at_ l) (j * B) : Nat))
theorem Idx.touch {S : Nat → Prop} {w w' : World} {x p b a : Nat} {l : List Bool} {B : Nat} (h : Idx w x p b a l B) (t : Touch S w w') (h1 : ¬ S x) (h2 : ¬ S p) (h3 : ¬ S b) (h4 : ¬ S a) : Idx w' x p b a l B := by
  obtain ⟨cap, hc⟩ := h.c1
  exact ⟨h.vec.touch t h2 h3, h.b1, h.b2, Nat.lt_of_lt_of_le h.hx t.size, Nat.lt_of_lt_of_le h.ha t.size, by rw [t.cell h.hx h1]; exact h.c0, ⟨cap, by rw [t.cell h.hx h1]; exact hc⟩, by rw [t.cell h.hx h1]; exact h.c2,
    by rw [t.cell h.hx h1]; exact h.c3, fun j hj => by rw [t.cell h.ha h4]; exact h.ca j hj⟩
theorem Idx.gr {w w' : World} {x p b a : Nat} {l : List Bool} {B : Nat} (h : Idx w x p b a l B) (t : Gr w w') : Idx w' x p b a l B := h.touch (t.touch (fun _ => False)) (fun h => h) (fun h => h) (fun h => h) (fun h => h)
theorem nbl_le {n B : Nat} (h : 1 ≤ B) : nbl n B ≤ n := by
  rcases Nat.lt_or_ge n (nbl n B) with h1 | h1
  · have := (nbl_lt h).1 h1
    have h2 : n * 1 ≤ n * B := Nat.mul_le_mul_left n h
    omega
  · exact h1

theorem rank_ones {w : World} {x p b a : Nat} {l : List Bool} {B : Nat} (hX : Idx w x p b a l B) :
    Calls Tryz.prog 196 #[.pointer (some ⟨x, 0, none⟩)] w fun e w' => e = .returned (.int .i64 (cnt (at_ l) l.length : Nat)) ∧ w = w' := by
  have c3 := hX.c3
  have HX := hid hX
  clear hX
  go_enter Tryz.func196, Tryz.ntmps196
  go_wp2
  go_ret
  exact ⟨rfl, rfl⟩
theorem rank_ones_nil (w : World) : Calls Tryz.prog 196 #[.pointer none] w fun e w' => e = .returned (.int .i64 0) ∧ w = w' := by
  go_enter Tryz.func196, Tryz.ntmps196
  go_wp2
  go_ret
  exact ⟨rfl, rfl⟩
theorem rank_before_nil (i : Int) (w : World) : Calls Tryz.prog 199 #[.pointer none, .int .i64 i] w fun e w' => e = .returned (.int .i64 0) ∧ w = w' := by
  go_enter Tryz.func199, Tryz.ntmps199
  go_wp2
  go_ret
  exact ⟨rfl, rfl⟩
end Go.Proofs.YtbmidhlilafgeaaGreatDoor
end

section
namespace Go.Proofs.YtbmidhlilafgeaaGreatDoor
open Go.RowKit Word

theorem countL_none (l : List Bool) {b : Int} (h : b ≤ 0) : countL l 0 b = 0 := by
  rw [countL_eq]
  unfold cntI
  have : cnt (fun i => decide ((0 : Int) ≤ (i : Nat) ∧ ((i : Nat) : Int) < b) && at_ l i) l.length = cnt (fun _ => false) l.length := cnt_congr (fun i _ => by rw [decide_eq_false (by omega)]; rfl)
  rw [this]
  generalize l.length = n
  induction n with
  | zero => rfl
  | succ n ih => rw [cnt_succ, ih]; rfl
set_option maxRecDepth 100000 in
set_option maxHeartbeats 1600000 in
theorem rank_before {w : World} {x p b a : Nat} {l : List Bool} {B : Nat} (hX : Idx w x p b a l B) (i : Int) :
    Gets Tryz.prog 199 #[.pointer (some ⟨x, 0, none⟩), .int .i64 i] w (.int .i64 (countL l 0 i : Nat)) := by
  have HX := hid hX
  have k0 := hX.c0
  have k2 := hX.c2
  have k3 := hX.c3
  obtain ⟨cap, k1⟩ := hX.c1
  have n2 := hX.vec.n2
  clear hX
  unfold Gets
  by_cases h0 : i ≤ 0
  · have d0 : decide (i ≤ 0) = true := by simp [h0]
    rw [countL_none l h0]
    clear k0 k1 k2 k3
    go_enter Tryz.func199, Tryz.ntmps199
    go_wp2
    go_ret
    exact ⟨rfl, Gr.refl _⟩
  · obtain ⟨r, rfl⟩ : ∃ r : Nat, i = r := ⟨i.toNat, by omega⟩
    have hr : 0 < r := by omega
    have d0 : decide ((r : Int) ≤ 0) = false := by simp; omega
    by_cases h1 : l.length ≤ r
    · have d1 : decide (l.length ≤ r) = true := by simp [h1]
      rw [countL_all l (by omega)]
      obtain ⟨N, hN⟩ : ∃ N, N = cnt (at_ l) l.length := ⟨_, rfl⟩
      rw [← hN] at k3 ⊢
      clear hN k1 k2
      go_enter Tryz.func199, Tryz.ntmps199
      go_wp2_with (go_at_call 194; refine (len_vec HX.out.vec).mono ?_; rintro e w1 ⟨rfl, rfl⟩)
      go_ret
      exact ⟨rfl, Gr.refl _⟩
    · have d1 : decide (l.length ≤ r) = false := by simp; omega
      obtain ⟨j, hj⟩ : ∃ j, j = r / B := ⟨_, rfl⟩
      have hB := HX.out.b1
      have hB2 := HX.out.b2
      have hjr : j * B ≤ r := by rw [hj]; exact Nat.div_mul_le_self r B
      have hjn : j < nbl l.length B := (nbl_lt hB).2 (by omega)
      have ka := HX.out.ca j hjn
      have q1 : ((r : Int).tdiv (B : Int)) = (j : Int) := by rw [hj]; rfl
      have q2 : ((r : Int) / (B : Int)) = (j : Int) := by rw [hj]; rfl
      obtain ⟨t, ht⟩ : ∃ t, t = j * B := ⟨_, rfl⟩
      have ht' : (j : Int) * (B : Int) = (t : Int) := by rw [ht, Int.natCast_mul]
      have hs := countL_add l (a := 0) (b := (t : Int)) (c := (r : Int)) (by omega) (by omega)
      have hu := countL_upto l (r := t) (by omega)
      rw [← ht] at ka
      rw [hu] at hs
      obtain ⟨c1, hc1⟩ : ∃ c, c = cnt (at_ l) t := ⟨_, rfl⟩
      obtain ⟨c2, hc2⟩ : ∃ c, c = countL l (t : Int) (r : Int) := ⟨_, rfl⟩
      obtain ⟨c3, hc3⟩ : ∃ c, c = countL l 0 (r : Int) := ⟨_, rfl⟩
      have hb1 : c1 ≤ 1048576 := by have := cnt_le (at_ l) t; omega
      have hb2 : c2 ≤ 1048576 := by have := cnt_le (inRun l (t : Int) (r : Int)) l.length; unfold countL at hc2; omega
      rw [← hc1] at ka hs
      rw [← hc2, ← hc3] at hs
      rw [← hc3]
      obtain ⟨N, hN⟩ : ∃ N, N = nbl l.length B := ⟨_, rfl⟩
      rw [← hN] at hjn k1
      have HNn := hid hN
      have htb : (t : Int) ≤ 1048576 := by omega
      have hBp : (B : Int) ≠ 0 := by omega
      have H2 := hid hc2.symm
      have HS := hid hs
      clear hc1 hc2 hc3 hN hj ht hu hs hjr k3
      have hjb : (j : Int) < N := by omega
      have hjl : j ≤ 1048576 := by have := nbl_le (n := l.length) hB; have := HNn.out; omega
      have w3 : IntKind.i64.wrap ((j : Int) * (B : Int)) = (t : Int) := by rw [ht', IntWalk.i64_in _ (by omega)]
      have w4 : IntKind.i64.wrap ((c1 : Int) + (c2 : Int)) = (c3 : Int) := by rw [HS.out, IntWalk.i64_in _ (by have := HS.out; omega)]
      have z0 : ∀ xs m, (grow w xs m).cell? ⟨x, 0, none⟩ = some (.pointer (some ⟨p, 0, none⟩)) := fun xs m => ((grown w xs m).cell HX.out.hx 0).trans k0
      have z1 : ∀ xs m, (grow w xs m).cell? ⟨x, 1, none⟩ = some (.slice (some ⟨a, 0, none⟩) N cap) := fun xs m => ((grown w xs m).cell HX.out.hx 1).trans k1
      have z2 : ∀ xs m, (grow w xs m).cell? ⟨x, 2, none⟩ = some (.int .i64 B) := fun xs m => ((grown w xs m).cell HX.out.hx 2).trans k2
      have z4 : ∀ xs m, (grow w xs m).cell? ⟨a, j, none⟩ = some (.int .i64 c1) := fun xs m => ((grown w xs m).cell HX.out.ha j).trans ka
      go_enter Tryz.func199, Tryz.ntmps199
      go_upto_region 6 with (go_at_call 194; refine (len_vec HX.out.vec).mono ?_; rintro e w1 ⟨rfl, rfl⟩)
      refine wp_region_by (by kernel_rfl) (by kernel_rfl) ?_
      repeat (go_big_quiet_step (first
        | (go_at_call 219; have hc := fun xs m => count_vec (HX.out.vec.gr (grown w xs m)) (t : Int) (r : Int) (by omega); simp only [H2.out] at hc; exact Gets.grown (hc _ _))))
      refine wpQuiet_nil ?_
      intro _ hw'
      obtain ⟨⟨xs, nq⟩, hw''⟩ := hw'
      subst hw''
      go_wp2
      go_ret
      exact ⟨by first | rfl | exact ret_int HS.out, grown w _ _⟩
end Go.Proofs.YtbmidhlilafgeaaGreatDoor
end

section
namespace Go.Proofs.YtbmidhlilafgeaaGreatDoor
open Go.RowKit Word

set_option maxRecDepth 100000 in
set_option maxHeartbeats 1600000 in
theorem search_any (g : FuncId) (b1 b2 : Addr) (n : Nat) (hn : n ≤ 1048576) (t : Nat → Bool) (w : World)
    (hg : ∀ args W, (callFunc g args).run Tryz.prog W = .ok (.enter g args) W)
    (hm : ∀ i j, i ≤ j → j < n → t i = true → t j = true)
    (hf : ∀ i W, i < n → Gr w W → Calls Tryz.prog g #[.int .i64 (i : Nat), .pointer (some b1), .pointer (some b2)] W (fun e W' => e = .returned (.bool (t i)) ∧ Gr W W')) :
    Gets Tryz.prog 221 #[.int .i64 n, .func (.func g) #[] #[.pointer (some b1), .pointer (some b2)]] w (.int .i64 (first t n : Nat)) := by
  have HF := hid hf
  have HM := hid hm
  clear hf hm
  unfold Gets
  go_enter Tryz.func221, Tryz.ntmps221
  go_wp2
  go_loopw [5, 6] (fun x y wr => ∃ lo hi : Nat, lo ≤ hi ∧ hi ≤ n ∧ Hid (∀ i, i < lo → t i = false) ∧ Hid (hi < n → t hi = true) ∧ Hid (Gr w wr) ∧ x = .int .i64 lo ∧ y = .int .i64 hi) (fun x y _ => (intOf y).toNat - (intOf x).toNat)
  case atStart => exact ⟨0, n, by omega, by omega, ⟨fun i h => by omega⟩, ⟨fun h => by omega⟩, ⟨Gr.refl _⟩, rfl, rfl⟩
  case round =>
    obtain ⟨lo, hi, h1, h2, hl, hh, hG, rfl, rfl⟩ := hrel
    by_cases hlt : lo < hi
    · obtain ⟨m, hmid⟩ : ∃ m, m = (lo + hi) / 2 := ⟨_, rfl⟩
      have hm1 : lo ≤ m ∧ m < hi := by omega
      have q1 : ((lo : Int) + (hi : Int)) / 2 = (m : Int) := by omega
      clear hmid
      cases ht : t m with
      | false =>
        have HC := hid (HF.out m wr (by omega) hG.out)
        have HN := hid ht
        go_wp2_with (refine HC.out.mono ?_; rintro e W2 ⟨rfl, h2⟩; rw [HN.out]; have HG2 := hid (hG.out.trans h2); clear h2)
        go_roundw
        case rel =>
          refine ⟨m + 1, hi, by omega, by omega, ⟨fun i hi' => ?_⟩, hh, HG2, by go_num, rfl⟩
          cases hti : t i with
          | false => rfl
          | true => have := HM.out i m (by omega) (by omega) hti; rw [HN.out] at this; cases this
        case measure => simp [intOf]; omega
      | true =>
        have HC := hid (HF.out m wr (by omega) hG.out)
        have HN := hid ht
        go_wp2_with (refine HC.out.mono ?_; rintro e W2 ⟨rfl, h2⟩; rw [HN.out]; have HG2 := hid (hG.out.trans h2); clear h2)
        go_roundw
        case rel => exact ⟨lo, m, by omega, by omega, hl, ⟨fun _ => HN.out⟩, HG2, rfl, by go_num⟩
        case measure => simp [intOf]; omega
    · obtain rfl : lo = hi := by omega
      have E := hid (first_eq h2 hl.out hh.out)
      go_wp2
      go_ret
      exact ⟨ret_int (by rw [E.out]), hG.out⟩
end Go.Proofs.YtbmidhlilafgeaaGreatDoor
end

section
namespace Go.Proofs.YtbmidhlilafgeaaGreatDoor
open Go.RowKit Word

/-- The least one from a on is the one of which as many are less as stand below a. -/
theorem next_pick (l : List Bool) {a q : Nat} (h : cnt (at_ l) a = q) : nextL l (a : Int) = pickL l q := by
  obtain ⟨j, hj⟩ : ∃ j, j = nextL l (a : Int) := ⟨_, rfl⟩
  have hle : j ≤ l.length := by rw [hj]; exact first_le _ _
  have hno : ∀ i, i < j → ¬ (at_ l i = true ∧ a ≤ i) := fun i hi hc => by
    have := first_not (fun i => at_ l i && decide ((a : Int) ≤ i)) l.length i (by rw [hj] at hi; exact hi)
    simp [hc.1] at this; omega
  rw [← hj]
  rcases Nat.lt_or_ge j l.length with hlt | hge
  · have hat := first_at (fun i => at_ l i && decide ((a : Int) ≤ i)) l.length (by rw [hj] at hlt; exact hlt)
    have hat' : at_ l j = true ∧ (a : Int) ≤ j := by
      have e : first (fun i => at_ l i && decide ((a : Int) ≤ i)) l.length = j := hj.symm
      rw [e] at hat; simpa using hat
    have hc : cnt (at_ l) j = q := by
      rw [← h]
      exact cnt_ext (by omega) (fun i h1 h2 => by
        cases hi : at_ l i with
        | false => rfl
        | true => exact absurd ⟨hi, h1⟩ (hno i h2))
    exact (pickF_eq hlt hat'.1 hc).symm
  · have : cnt (at_ l) l.length ≤ q := by
      rw [← h]
      rcases Nat.lt_or_ge a l.length with h1 | h1
      · rw [cnt_ext (m := a) (by omega) (fun i h2 h3 => by
          cases hi : at_ l i with
          | false => rfl
          | true => exact absurd ⟨hi, h2⟩ (hno i (by omega)))]
        exact Nat.le_refl _
      · exact cnt_mono _ h1
    rw [pick_all_none this]; omega
theorem next_after {l : List Bool} {q : Nat} (h : q < cnt (at_ l) l.length) : nextL l ((pickL l q : Int) + 1) = pickL l (q + 1) := by
  obtain ⟨h1, h2, h3⟩ := pick_lt_all h
  have := next_pick l (a := pickL l q + 1) (q := q + 1) (by rw [cnt_succ, h2, h3]; rfl)
  rw [← this]; rfl

set_option maxRecDepth 100000 in
set_option maxHeartbeats 1600000 in
theorem rank_pick1 {w : World} {x p b a : Nat} {l : List Bool} {B : Nat} (hX : Idx w x p b a l B) (bx bk : Addr) (k : Nat) (hbx : w.cell? bx = some (.pointer (some ⟨x, 0, none⟩))) (hbk : w.cell? bk = some (.int .i64 k))
    (i : Nat) (hi : i < nbl l.length B) :
    Calls Tryz.prog 222 #[.int .i64 i, .pointer (some bx), .pointer (some bk)] w fun e w' => e = .returned (.bool (decide (k < cnt (at_ l) (i * B)))) ∧ Gr w w' := by
  obtain ⟨cap, c1⟩ := hX.c1
  have ca := hX.ca i hi
  have n2 := hX.vec.n2
  have hN := nbl_le (n := l.length) hX.b1
  obtain ⟨N, hN'⟩ : ∃ N, N = nbl l.length B := ⟨_, rfl⟩
  obtain ⟨C, hC⟩ : ∃ C, C = cnt (at_ l) (i * B) := ⟨_, rfl⟩
  rw [← hN'] at c1 hi hN
  rw [← hC] at ca ⊢
  have hi' : (i : Int) < (N : Int) := by omega
  have hi0 : (0 : Int) ≤ (i : Int) := by omega
  have hN2 : N ≤ 1048576 := by omega
  clear hX hN' hC hN n2
  go_enter Tryz.func222, Tryz.ntmps222
  go_upto_region 1 with (fail)
  go_quiet (fail)
  go_wp2
  go_ret
  exact ⟨ret_bool (by simp), (Gr.refl w).drewN _⟩
end Go.Proofs.YtbmidhlilafgeaaGreatDoor
end

section
namespace Go.Proofs.YtbmidhlilafgeaaGreatDoor
open Go.RowKit Word

/-- The number of the last block that begins at or below the k-th one. -/
theorem block_of (l : List Bool) {B k : Nat} (hB : 1 ≤ B) (hk : k < cnt (at_ l) l.length) :
    ∃ j, first (fun i => decide (k < cnt (at_ l) (i * B))) (nbl l.length B) = j + 1 ∧ j < nbl l.length B ∧ cnt (at_ l) (j * B) ≤ k := by
  obtain ⟨f, hf⟩ : ∃ f, f = first (fun i => decide (k < cnt (at_ l) (i * B))) (nbl l.length B) := ⟨_, rfl⟩
  have hle : f ≤ nbl l.length B := by rw [hf]; exact first_le _ _
  have hn : 0 < l.length := by
    rcases Nat.eq_zero_or_pos l.length with h | h
    · rw [h, cnt_zero] at hk; omega
    · exact h
  have hN : 0 < nbl l.length B := (nbl_lt hB).2 (by omega)
  have h0 : f ≠ 0 := fun h => by
    have := first_at (fun i => decide (k < cnt (at_ l) (i * B))) (nbl l.length B) (by rw [← hf, h]; exact hN)
    rw [← hf, h] at this
    simp [cnt_zero] at this
  obtain ⟨j, rfl⟩ : ∃ j, f = j + 1 := ⟨f - 1, by omega⟩
  refine ⟨j, hf.symm, by omega, ?_⟩
  have := first_not (fun i => decide (k < cnt (at_ l) (i * B))) (nbl l.length B) j (by rw [← hf]; omega)
  simpa using this

theorem box2 {w : World} (u v : Value) (T1 T2 : TypeId) :
    Gr w ((w.alloc (.cells #[u] T1)).alloc (.cells #[v] T2)) ∧ ((w.alloc (.cells #[u] T1)).alloc (.cells #[v] T2)).cell? ⟨w.heap.size, 0, none⟩ = some u ∧ ((w.alloc (.cells #[u] T1)).alloc (.cells #[v] T2)).cell? ⟨w.heap.size + 1, 0, none⟩ = some v := by
  refine ⟨((Gr.refl w).alloc _).alloc _, ?_, ?_⟩
  · rw [World.cell?_alloc_lt (h := by simp)]; exact World.cell?_alloc_new ..
  · have h := World.cell?_alloc_new (w := w.alloc (.cells #[u] T1)) (c := #[v]) (t := T2) (i := 0)
    rw [World.size_alloc] at h
    exact h
set_option maxRecDepth 100000 in
set_option maxHeartbeats 1600000 in
theorem rank_pick_low {w : World} (x : Nat) (q : Int) (hq : q < 0) : Gets Tryz.prog 201 #[.pointer (some ⟨x, 0, none⟩), .int .i64 q] w (.tuple #[.int .i64 0, .bool false]) := by
  have d0 : decide (q < 0) = true := by simp [hq]
  unfold Gets
  go_enter Tryz.func201, Tryz.ntmps201
  go_upto_region 1 with (fail)
  obtain ⟨hg, c1, c2⟩ := box2 (w := w) (.pointer (some ⟨x, 0, none⟩)) (.int .i64 q) 249 3
  generalize (w.alloc (.cells #[.pointer (some ⟨x, 0, none⟩)] 249)).alloc (.cells #[.int .i64 q] 3) = W2 at *
  go_quiet (fail)
  go_wp2
  go_ret2
  exact ⟨ret2 rfl rfl, hg.drewN _⟩
theorem rank_pick_nil {w : World} (q : Int) : Gets Tryz.prog 201 #[.pointer none, .int .i64 q] w (.tuple #[.int .i64 0, .bool false]) := by
  unfold Gets
  go_enter Tryz.func201, Tryz.ntmps201
  go_upto_region 1 with (fail)
  obtain ⟨hg, c1, c2⟩ := box2 (w := w) (.pointer none) (.int .i64 q) 249 3
  generalize (w.alloc (.cells #[.pointer none] 249)).alloc (.cells #[.int .i64 q] 3) = W2 at *
  go_quiet (fail)
  go_wp2
  go_ret2
  exact ⟨ret2 rfl rfl, hg.drewN _⟩
set_option maxRecDepth 100000 in
set_option maxHeartbeats 1600000 in
theorem rank_pick_high {w : World} {x p b a : Nat} {l : List Bool} {B : Nat} (hX : Idx w x p b a l B) (q : Nat) (hq : cnt (at_ l) l.length ≤ q) :
    Gets Tryz.prog 201 #[.pointer (some ⟨x, 0, none⟩), .int .i64 q] w (.tuple #[.int .i64 0, .bool false]) := by
  obtain ⟨N, hN⟩ : ∃ N, N = cnt (at_ l) l.length := ⟨_, rfl⟩
  have k3 := hX.c3
  rw [← hN] at k3 hq
  have hx := hX.hx
  have d0 : decide ((q : Int) < 0) = false := by simp
  have d1 : decide (N ≤ q) = true := by simp [hq]
  clear hX hN hq
  unfold Gets
  go_enter Tryz.func201, Tryz.ntmps201
  go_upto_region 1 with (fail)
  obtain ⟨hg, c1, c2⟩ := box2 (w := w) (.pointer (some ⟨x, 0, none⟩)) (.int .i64 q) 249 3
  generalize (w.alloc (.cells #[.pointer (some ⟨x, 0, none⟩)] 249)).alloc (.cells #[.int .i64 q] 3) = W2 at *
  have c3 := (hg.cell hx 3).trans k3
  go_quiet (fail)
  go_wp2
  go_ret2
  exact ⟨ret2 rfl rfl, hg.drewN _⟩
theorem call_pick1 (args : Array Value) (W : World) : (callFunc 222 args).run Tryz.prog W = .ok (.enter 222 args) W := by kernel_rfl
set_option maxRecDepth 100000 in
set_option maxHeartbeats 1600000 in
theorem rank_pick_in {w : World} {x p b a : Nat} {l : List Bool} {B : Nat} (hX : Idx w x p b a l B) (hT : TabAt w) (k : Nat) (hk : k < cnt (at_ l) l.length) :
    Gets Tryz.prog 201 #[.pointer (some ⟨x, 0, none⟩), .int .i64 k] w (.tuple #[.int .i64 (pickL l k : Nat), .bool true]) := by
  have HX := hid hX
  have HT := hid hT
  have HK := hid hk
  obtain ⟨j, hj1, hj2, hj3⟩ := block_of l hX.b1 hk
  obtain ⟨N, hN⟩ : ∃ N, N = cnt (at_ l) l.length := ⟨_, rfl⟩
  have k0 := hX.c0
  have k2 := hX.c2
  have k3 := hX.c3
  obtain ⟨cap, k1⟩ := hX.c1
  have ka := hX.ca j hj2
  have hx := hX.hx
  have n2 := hX.vec.n2
  have hNb := nbl_le (n := l.length) hX.b1
  have hb2 := hX.b2
  rw [← hN] at k3
  have hNk : k < N := by rw [hN]; exact hk
  have hNl : N ≤ l.length := by rw [hN]; exact cnt_le _ _
  have d0 : decide ((k : Int) < 0) = false := by simp
  have d1 : decide (N ≤ k) = false := by simp; omega
  have hkb : k ≤ 1048576 := by omega
  have hjl : j * B < l.length := (nbl_lt hX.b1).1 hj2
  obtain ⟨t, ht⟩ : ∃ t, t = j * B := ⟨_, rfl⟩
  rw [← ht] at hjl ka hj3
  obtain ⟨c, hc⟩ : ∃ c, c = cnt (at_ l) t := ⟨_, rfl⟩
  rw [← hc] at ka hj3
  have hw3 : IntKind.i64.wrap ((j : Int) * (B : Int)) = (t : Int) := by rw [show (j : Int) * (B : Int) = (t : Int) by rw [ht, Int.natCast_mul], IntWalk.i64_in _ (by omega)]
  have HE0 := hid (next_pick l hc.symm)
  have HP : Hid (∀ n, n ≤ k → pickL l n < l.length) := ⟨fun n hn => (pick_lt_all (l := l) (q := n) (by omega)).1⟩
  have HNX : Hid (∀ n, n ≤ k → nextL l ((pickL l n : Int) + 1) = pickL l (n + 1)) := ⟨fun n hn => next_after (by omega)⟩
  obtain ⟨M, hM⟩ : ∃ M, M = nbl l.length B := ⟨_, rfl⟩
  have HFI := hid hj1
  rw [← hM] at k1 hj2 hNb
  have HM := hid hM
  have hjM : (j : Int) < M := by omega
  clear hX hk hN ht hc hj1 hM hT hNl
  unfold Gets
  go_enter Tryz.func201, Tryz.ntmps201
  go_upto_region 1 with (fail)
  obtain ⟨hg, c1, c2⟩ := box2 (w := w) (.pointer (some ⟨x, 0, none⟩)) (.int .i64 k) 249 3
  generalize (w.alloc (.cells #[.pointer (some ⟨x, 0, none⟩)] 249)).alloc (.cells #[.int .i64 k] 3) = W2 at *
  have z0 := (hg.cell hx 0).trans k0
  have z1 := (hg.cell hx 1).trans k1
  have z2 := (hg.cell hx 2).trans k2
  have z3 := (hg.cell hx 3).trans k3
  have K1 := hid k1
  clear k0 k1 k2 k3
  have HG := hid hg
  have HC := hid (And.intro c1 c2)
  clear hg
  go_quiet (fail)
  have HS := hid (search_any 222 ⟨w.heap.size, 0, none⟩ ⟨w.heap.size + 1, 0, none⟩ M (by omega) (fun i => decide (k < cnt (at_ l) (i * B))) (W2.drewN nq) call_pick1
    (fun i i' h1 h2 h3 => by
      have := cnt_mono (at_ l) (Nat.mul_le_mul_right B h1)
      simp at h3 ⊢; omega)
    (fun i W hi hgW => rank_pick1 (HX.out.gr ((HG.out.drewN nq).trans hgW)) _ _ k (by
        rw [hgW.cell (b := w.heap.size) (by have := lt_cell HC.out.1; exact this)]; exact HC.out.1) (by
        rw [hgW.cell (b := w.heap.size + 1) (by have := lt_cell HC.out.2; exact this)]; exact HC.out.2) i (by rw [← HM.out]; exact hi)))
  rw [HM.out, HFI.out, ← HM.out] at HS
  have hmf : ∀ (fn : Fn) (first cap : Array Value) (w : World), (Instr.makeFunc fn first cap).run Tryz.prog w = .ok (.func fn first cap) w := fun _ _ _ _ => rfl
  go_upto_region 4 with (go_at_call 221; refine HS.out.mono ?_; rintro e W3 ⟨rfl, h3⟩; have HG3 := hid (HG.out.trans (((Gr.refl W2).drewN nq).trans h3)); have y0 := (h3.cell (b := w.heap.size) (lt_cell HC.out.1) 0).trans HC.out.1; have y1 := (h3.cell (b := w.heap.size + 1) (lt_cell HC.out.2) 0).trans HC.out.2; clear h3)
  have v0 := (HG3.out.cell hx 0).trans HX.out.c0
  have v2 := (HG3.out.cell hx 2).trans HX.out.c2
  have v1 : W3.cell? ⟨x, 1, none⟩ = some (.slice (some ⟨a, 0, none⟩) M cap) := by
    exact (HG3.out.cell hx 1).trans K1.out
  have va : W3.cell? ⟨a, j, none⟩ = some (.int .i64 c) := (HG3.out.cell HX.out.ha j).trans ka
  have HV3 := hid (HX.out.vec.gr HG3.out)
  have HT3 := hid (HG3.out.tab HT.out.lt HT.out)
  have hc0 := HP.out c hj3
  have HN : Hid (∀ n, Calls Tryz.prog 191 #[.pointer (some ⟨p, 0, none⟩), .int .i64 t] (W3.drewN n) fun e w' => e = .returned (.tuple #[.int .i64 (pickL l c : Nat), .bool true]) ∧ w' = W3.drewN n) := ⟨fun n =>
    (next_vec (HV3.out.gr ((Gr.refl W3).drewN n)) (((Gr.refl W3).drewN n).tab HT3.out.lt HT3.out) t).mono fun e w' ⟨he, hw⟩ => ⟨by rw [he, HE0.out, valN_yes hc0, decide_eq_true hc0], hw.symm⟩⟩
  clear z0 z1 z2 z3 ka HS
  go_quiet ((go_at_call 191; exact Calls.quiet_of_same (HN.out _)))
  go_wp2
  go_loop [7, 9] (fun s7 s9 => ∃ n : Nat, c ≤ n ∧ n ≤ k ∧ s7 = .int .i64 (pickL l n : Nat) ∧ s9 = .int .i64 n) (fun _ s9 => k - (intOf s9).toNat)
  case atStart => exact ⟨c, Nat.le_refl _, hj3, rfl, rfl⟩
  case round =>
    obtain ⟨n, hn1, hn2, rfl, rfl⟩ := hrel
    have hp := HP.out n hn2
    obtain ⟨r, hr⟩ : ∃ r, r = pickL l n := ⟨_, rfl⟩
    have HE := HNX.out n hn2
    rw [← hr] at hp HE ⊢
    by_cases hlt : n < k
    · have hp' := HP.out (n + 1) (by omega)
      have HE' := hid HE
      have HR := hid (And.intro (valN_yes hp') (decide_eq_true hp'))
      clear hr HE hp'
      go_wp2_with (go_at_call 191; refine (next_vec (HV3.out.gr ((Gr.refl W3).drewN _)) (((Gr.refl W3).drewN _).tab HT3.out.lt HT3.out) _).mono ?_; rintro e w' ⟨rfl, rfl⟩; rw [HE'.out, HR.out.1, HR.out.2])
      go_round
      case rel => exact ⟨n + 1, by omega, by omega, rfl, by go_num⟩
      case measure => simp [intOf]; omega
    · obtain rfl : n = k := by omega
      have HR := hid hr
      clear hr HE
      go_wp2
      go_ret2
      exact ⟨ret2 (by rw [HR.out]; rfl) rfl, HG3.out.drewN _⟩
theorem rank_pick {w : World} {x p b a : Nat} {l : List Bool} {B : Nat} (hX : Idx w x p b a l B) (hT : TabAt w) (q : Int) :
    Gets Tryz.prog 201 #[.pointer (some ⟨x, 0, none⟩), .int .i64 q] w (.tuple #[.int .i64 (pickV l q), .bool (pickB l q)]) := by
  by_cases h : q < 0
  · have e1 : pickV l q = 0 := by unfold pickV; rw [if_pos h]
    have e2 : pickB l q = false := by unfold pickB; rw [decide_eq_false (by omega)]; rfl
    rw [e1, e2]
    exact rank_pick_low x q h
  · obtain ⟨k, rfl⟩ : ∃ k : Nat, q = k := ⟨q.toNat, by omega⟩
    have e1 : pickV l k = valN l.length (pickL l k) := by unfold pickV; rw [if_neg h, Int.toNat_natCast]
    have e2 : pickB l k = decide (pickL l k < l.length) := by unfold pickB; rw [decide_eq_true (by omega), Int.toNat_natCast]; rfl
    rw [e1, e2]
    rcases Nat.lt_or_ge k (cnt (at_ l) l.length) with hk | hk
    · have := (pick_lt_all hk).1
      rw [valN_yes this, decide_eq_true this]
      exact rank_pick_in hX hT k hk
    · have := pick_all_none hk
      rw [this, valN_no (by omega), decide_eq_false (by omega)]
      exact rank_pick_high hX k hk
end Go.Proofs.YtbmidhlilafgeaaGreatDoor
end

section
namespace Go.Proofs.YtbmidhlilafgeaaGreatDoor
open Go.RowKit Word

theorem infoInt : (Tryz.prog.info? 3).map (fun i => (i.zero, i.size, i.bytes)) = some (some (.int .i64 0), 1, 8) := by kernel_rfl
/-- An index of the bits l, apart from all that was there. -/
def NewIdx (w : World) (l : List Bool) (B : Nat) (e : Ending) (w' : World) : Prop :=
  ∃ x p b a, e = .returned (.tuple #[.pointer (some ⟨x, 0, none⟩), .int .i64 0]) ∧ Gr w w' ∧ Idx w' x p b a l B ∧ w.heap.size ≤ x ∧ w.heap.size ≤ p ∧ w.heap.size ≤ b ∧ w.heap.size ≤ a
def aheads (l : List Bool) (B k : Nat) : List Value := (List.range k).map fun j => Value.int .i64 (cnt (at_ l) (j * B) : Nat)
theorem aheads_succ (l : List Bool) (B k : Nat) : aheads l B (k + 1) = aheads l B k ++ [.int .i64 (cnt (at_ l) (k * B) : Nat)] := by
  unfold aheads; rw [List.range_succ, List.map_append]; rfl
/-- What holds between two blocks: k entries are laid, m blocks are counted. -/
structure NewAt (w : World) (l : List Bool) (B X p b BASE k m : Nat) (v : Value) (wr : World) : Prop where
  gr : Gr w wr
  vec : Vec wr p b l
  own : wr.ownsRow BASE 3 1 v k (aheads l B k)
  c0 : wr.cell? ⟨X, 0, none⟩ = some (.pointer (some ⟨p, 0, none⟩))
  c1 : wr.cell? ⟨X, 1, none⟩ = some v
  c2 : wr.cell? ⟨X, 2, none⟩ = some (.int .i64 B)
  c3 : wr.cell? ⟨X, 3, none⟩ = some (.int .i64 (countL l 0 (m * B : Nat) : Nat))
  free : ∀ o, wr.frozen? ⟨X, o, none⟩ = false
  lt : X < BASE
  ltp : p < X
  ltb : b < X
  ge : w.heap.size ≤ p ∧ w.heap.size ≤ b
  base : BASE ≤ wr.heap.size
theorem NewAt.far {w : World} {l : List Bool} {B X p b BASE k m : Nat} {v : Value} {wr : World} (h : NewAt w l B X p b BASE k m v wr) : v.ownBlock ≠ some X := fun e => by
  have := (own_lt h.own e).1; have := h.lt; omega
theorem NewAt.grow {w : World} {l : List Bool} {B X p b BASE k m : Nat} {v : Value} {wr wr' : World} (h : NewAt w l B X p b BASE k m v wr) (g : Gr wr wr') : NewAt w l B X p b BASE k m v wr' := by
  have hX : X < wr.heap.size := by have := h.lt; have := h.base; omega
  exact ⟨h.gr.trans g, h.vec.gr g, own_gr h.own g, (g.cell hX 0).trans h.c0, (g.cell hX 1).trans h.c1, (g.cell hX 2).trans h.c2, (g.cell hX 3).trans h.c3, fun o => (g.frozen hX o).trans (h.free o), h.lt, h.ltp, h.ltb, h.ge, Nat.le_trans h.base g.size⟩
/-- Behind the append and the store into the field. -/
theorem NewAt.append {w : World} {l : List Bool} {B X p b BASE k m : Nat} {v : Value} {wr w1 : World} (h : NewAt w l B X p b BASE k m v wr) {g c : Nat}
    (hown : w1.ownsRow BASE 3 1 (.slice (some ⟨g, 0, none⟩) (k + 1) c) (k + 1) (aheads l B (k + 1))) (hgrow : wr.grownBy w1 v.ownBlock) :
    NewAt w l B X p b BASE (k + 1) m (.slice (some ⟨g, 0, none⟩) (k + 1) c) (w1.setCell ⟨X, 1, none⟩ (.slice (some ⟨g, 0, none⟩) (k + 1) c)) := by
  have hX : X < wr.heap.size := by have := h.lt; have := h.base; omega
  have t : Touch (fun i => v.ownBlock = some i) wr w1 := grown_touch hgrow _ (fun k e _ => e)
  have t2 : Touch (fun i => i = X) w1 (w1.setCell ⟨X, 1, none⟩ (.slice (some ⟨g, 0, none⟩) (k + 1) c)) := (Touch.refl (fun i => i = X) w1).setCell (a := ⟨X, 1, none⟩) (fun _ => rfl) _
  have far : ∀ i, i < BASE → v.ownBlock ≠ some i := fun i hi e => by have := (own_lt h.own e).1; omega
  have hX1 : X < w1.heap.size := Nat.lt_of_lt_of_le hX t.size
  have e : ∀ o, w1.cell? ⟨X, o, none⟩ = wr.cell? ⟨X, o, none⟩ := fun o => t.cell hX (far X h.lt) o
  have o : ∀ o, o ≠ 1 → (w1.setCell ⟨X, 1, none⟩ (.slice (some ⟨g, 0, none⟩) (k + 1) c)).cell? ⟨X, o, none⟩ = wr.cell? ⟨X, o, none⟩ := fun o ho => by
    rw [World.cell?_setCell_other (h := by intro e2; injection e2 with _ e3; omega), e o]
  have hp := h.ltp
  have hb := h.ltb
  have hl := h.lt
  refine ⟨?_, ?_, ?_, (o 0 (by omega)).trans h.c0, ?_, (o 2 (by omega)).trans h.c2, (o 3 (by omega)).trans h.c3, ?_, h.lt, h.ltp, h.ltb, h.ge, Nat.le_trans h.base (Nat.le_trans t.size t2.size)⟩
  · refine (((h.gr.touch (fun _ => False)).trans' t (fun i hi e => ?_)).trans' t2 (fun i hi e => ?_)).gr
    · have := (own_lt h.own e).1; have := h.ge; omega
    · have e : i = X := e; have := h.ge; omega
  · exact (h.vec.touch t (far p (by omega)) (far b (by omega))).touch t2 (by omega) (by omega)
  · refine own_touch hown t2 (fun i hi e => ?_)
    have e : i = X := e
    have := (own_lt hown hi).1; omega
  · exact World.cell?_setCell_same (h := (e 1).trans h.c1) ..
  · intro o
    rw [World.frozen?_setCell, t.frozen hX (far X h.lt)]; exact h.free o
theorem NewAt.count {w : World} {l : List Bool} {B X p b BASE k m : Nat} {v : Value} {wr : World} (h : NewAt w l B X p b BASE k m v wr) {m' : Nat} {z : Int} (hz : z = (countL l 0 (m' * B : Nat) : Nat)) :
    NewAt w l B X p b BASE k m' v (wr.setCell ⟨X, 3, none⟩ (.int .i64 z)) := by
  have hX : X < wr.heap.size := by have := h.lt; have := h.base; omega
  have t2 : Touch (fun i => i = X) wr (wr.setCell ⟨X, 3, none⟩ (.int .i64 z)) := (Touch.refl (fun i => i = X) wr).setCell (a := ⟨X, 3, none⟩) (fun _ => rfl) _
  have hp := h.ltp
  have hb := h.ltb
  have hl := h.lt
  have o : ∀ o, o ≠ 3 → (wr.setCell ⟨X, 3, none⟩ (.int .i64 z)).cell? ⟨X, o, none⟩ = wr.cell? ⟨X, o, none⟩ := fun o ho => by
    rw [World.cell?_setCell_other (h := by intro e2; injection e2 with _ e3; omega)]
  refine ⟨?_, h.vec.touch t2 (by omega) (by omega), ?_, (o 0 (by omega)).trans h.c0, (o 1 (by omega)).trans h.c1, (o 2 (by omega)).trans h.c2, ?_, ?_, h.lt, h.ltp, h.ltb, h.ge, Nat.le_trans h.base t2.size⟩
  · refine ((h.gr.touch (fun _ => False)).trans' t2 (fun i hi e => ?_)).gr
    have e : i = X := e; have := h.ge; omega
  · refine own_touch h.own t2 (fun i hi e => ?_)
    have e : i = X := e
    have := (own_lt h.own hi).1; omega
  · rw [hz]; exact World.cell?_setCell_same (h := h.c3) ..
  · intro o
    rw [World.frozen?_setCell]; exact h.free o
theorem NewAt.done {w : World} {l : List Bool} {B X p b BASE k : Nat} {v : Value} {wr : World} (h : NewAt w l B X p b BASE k k v wr) (h1 : 1 ≤ B) (h2 : B ≤ 1024) (hk : k = nbl l.length B) (hl : l.length ≤ k * B) :
    ∃ a, Idx wr X p b a l B ∧ w.heap.size ≤ a := by
  have hn := h.vec.n1
  have hk0 : k ≠ 0 := by rintro rfl; omega
  obtain ⟨g, c, rfl, hg1, hg2, hg3, hg4⟩ := own_form h.own hk0
  have := h.lt
  have hb := h.base
  refine ⟨g, ⟨h.vec, h1, h2, by omega, hg4, h.c0, ⟨c, by rw [h.c1, hk]⟩, h.c2, ?_, fun j hj => ?_⟩, by have := h.ge; have := h.ltp; omega⟩
  · rw [h.c3, countL_all l (by omega)]
  · refine own_cell h.own ?_
    unfold aheads
    rw [List.getElem?_map, List.getElem?_range (by omega)]; rfl
set_option maxRecDepth 100000 in
set_option maxHeartbeats 800000 in
theorem new_start {w w1 : World} {l : List Bool} {B q r : Nat} {T : TypeId} (hg : Gr w w1) (hV : Vec w1 q r l) (h1 : w.heap.size ≤ q) (h2 : w.heap.size ≤ r) :
    NewAt w l B w1.heap.size q r (w1.heap.size + 1) 0 0 (.slice none 0 0) (w1.alloc (.cells #[.pointer (some ⟨q, 0, none⟩), .slice none 0 0, .int .i64 B, .int .i64 0] T)) := by
  have hp := hV.hp
  have hb := hV.hb
  refine ⟨hg.alloc _, hV.gr ((Gr.refl w1).alloc _), own_nil _ _ _ _, World.cell?_alloc_new .., World.cell?_alloc_new .., World.cell?_alloc_new .., ?_, fun o => World.frozen?_alloc_new .., by omega, hp, hb, ⟨h1, h2⟩, by simp⟩
  rw [show countL l 0 ((0 * B : Nat) : Int) = 0 from countL_none l (by simp)]
  exact World.cell?_alloc_new ..
theorem rank_new_nil (n : Int) (w : World) : Calls Tryz.prog 193 #[.pointer none, .int .i64 n] w fun e w' => e = .returned (.tuple #[.pointer none, .int .i64 9]) ∧ w = w' := by
  go_enter Tryz.func193, Tryz.ntmps193
  go_wp2
  go_ret2
  exact ⟨ret2 rfl rfl, rfl⟩
set_option maxRecDepth 100000 in
set_option maxHeartbeats 800000 in
theorem rank_new_bad {w : World} {p b : Nat} {l : List Bool} (hV : Vec w p b l) (n : Int) (hn : blockOk n = false) (hn2 : n ≤ 9223372036854775807) :
    Calls Tryz.prog 193 #[.pointer (some ⟨p, 0, none⟩), .int .i64 n] w fun e w' => e = .returned (.tuple #[.pointer none, .int .i64 5]) ∧ w = w' := by
  have n1 : ((l.length : Int) == 0) = false := by have := hV.n1; exact beq_eq_false_iff_ne.2 (by omega)
  have HV := hid hV
  rw [blockOk_eq] at hn
  cases hp : powB n with
  | false =>
    have HP := hid hp
    clear hp hn hV
    go_enter Tryz.func193, Tryz.ntmps193
    go_wp2_with (first
      | (go_at_call 194; refine (len_vec HV.out).mono ?_; rintro e w1 ⟨rfl, rfl⟩)
      | (go_at_call 114; refine (power_any n hn2 _).mono ?_; rintro e w1 ⟨rfl, rfl⟩; rw [HP.out]))
    go_ret2
    exact ⟨ret2 rfl rfl, rfl⟩
  | true =>
    rw [hp] at hn
    have d1 : decide ((1024 : Int) < n) = true := by simp at hn; simp; omega
    have HP := hid hp
    clear hp hn hV
    go_enter Tryz.func193, Tryz.ntmps193
    go_wp2_with (first
      | (go_at_call 194; refine (len_vec HV.out).mono ?_; rintro e w1 ⟨rfl, rfl⟩)
      | (go_at_call 114; refine (power_any n hn2 _).mono ?_; rintro e w1 ⟨rfl, rfl⟩; rw [HP.out]))
    go_ret2
    exact ⟨ret2 rfl rfl, rfl⟩
set_option maxRecDepth 100000 in
set_option maxHeartbeats 3200000 in
theorem rank_new_in {w : World} {p b : Nat} {l : List Bool} (hV : Vec w p b l) (B : Nat) (hB : blockOk B = true) :
    Calls Tryz.prog 193 #[.pointer (some ⟨p, 0, none⟩), .int .i64 B] w (NewIdx w l B) := by
  have n1 : ((l.length : Int) == 0) = false := by have := hV.n1; exact beq_eq_false_iff_ne.2 (by omega)
  have n2 := hV.n2
  have hb := blockOk_pos hB
  have hb1 : 1 ≤ B := by omega
  have hb2 : B ≤ 1024 := by omega
  have d1 : decide ((1024 : Int) < (B : Int)) = false := by simp; omega
  have HP : Hid (powB B = true) := ⟨by rw [blockOk_eq] at hB; simp at hB; exact hB.1⟩
  obtain ⟨i0, hi, hz0, hz1, hz2⟩ := info_parts infoInt
  have HV := hid hV
  clear hV hB hb
  go_enter Tryz.func193, Tryz.ntmps193
  go_wp2_with (first
    | (go_at_call 194; refine (len_vec HV.out).mono ?_; rintro e w1 ⟨rfl, rfl⟩)
    | (go_at_call 114; refine (power_any B (by omega) _).mono ?_; rintro e w1 ⟨rfl, rfl⟩; rw [HP.out])
    | (go_at_call 218; refine (copy_vec HV.out).mono ?_; rintro e w1 ⟨q, r, rfl, hg1, hV1, hq1, hq2⟩))
  have HN0 := hid (new_start (B := B) (T := 274) hg1 hV1 hq1 hq2)
  generalize w1.alloc (.cells #[.pointer (some ⟨q, 0, none⟩), .slice none 0 0, .int .i64 B, .int .i64 0] 274) = W2 at *
  obtain ⟨X, hX⟩ : ∃ X, X = w1.heap.size := ⟨_, rfl⟩
  rw [← hX] at HN0 ⊢
  clear hX
  clear hg1 hV1 hq1 hq2
  go_loopw [7] (fun s7 wr => ∃ k t v, Hid (NewAt w l B X q r (X + 1) k k v wr) ∧ Hid (t = k * B) ∧ k ≤ t ∧ t ≤ 1048576 + 1024 ∧ Hid (∀ i, i < k → i * B < l.length) ∧ s7 = .int .i64 (t : Nat)) (fun s7 _ => 1048576 + 1025 - (intOf s7).toNat)
  case atStart => exact ⟨0, 0, _, HN0, ⟨by simp⟩, by omega, by omega, ⟨fun i h => by omega⟩, rfl⟩
  case round =>
    obtain ⟨k, t, v, HN, ht, hkt, htb, hno, rfl⟩ := hrel
    by_cases hlt : t < l.length
    · have HNo : Hid (∀ i, i < k + 1 → i * B < l.length) := ⟨fun i h => by
        rcases Nat.lt_or_ge i k with h1 | h1
        · exact hno.out i h1
        · rw [show i = k by omega, ← ht.out]; exact hlt⟩
      have HT2 : Hid (t + B = (k + 1) * B) := ⟨by rw [Nat.succ_mul, ht.out]⟩
      go_upto_region 9 with (go_at_call 194; refine (len_vec (HV.out.gr HN.out.gr)).mono ?_; rintro e w1 ⟨rfl, rfl⟩)
      have c1 := HN.out.c1
      obtain ⟨c, hc⟩ : ∃ c, c = countL l 0 (k * B : Nat) := ⟨_, rfl⟩
      have c3 := HN.out.c3
      have fr := HN.out.free 1
      rw [← hc] at c3
      have hca : aheads l B (k + 1) = aheads l B k ++ [.int .i64 (c : Nat)] := by
        rw [aheads_succ, hc, countL_upto l (by rw [← ht.out]; omega)]
      have HCA := hid hca
      have HC := hid hc
      have HX : Hid (X < wr.heap.size) := ⟨by have := HN.out.base; omega⟩
      clear hca hc
      have KS : Hid (∀ W', Gr wr W' → W'.cell? ⟨X, 1, none⟩ = some v ∧ W'.cell? ⟨X, 3, none⟩ = some (.int .i64 (c : Nat)) ∧ W'.frozen? ⟨X, 1, none⟩ = false) := ⟨fun W' h => ⟨(h.cell HX.out 1).trans c1, (h.cell HX.out 3).trans c3, (h.frozen HX.out 1).trans fr⟩⟩
      obtain ⟨S, hS⟩ : ∃ S : World → Prop, S = fun W' => W'.cell? ⟨X, 1, none⟩ = some v ∧ W'.cell? ⟨X, 3, none⟩ = some (.int .i64 (c : Nat)) ∧ W'.frozen? ⟨X, 1, none⟩ = false := ⟨_, rfl⟩
      have x1 : ∀ p : Held S, p.w.cell? ⟨X, 1, none⟩ = some v := fun p => (Held.get hS p).1
      have x3 : ∀ p : Held S, p.w.cell? ⟨X, 3, none⟩ = some (.int .i64 (c : Nat)) := fun p => (Held.get hS p).2.1
      have hS0 : S wr.drew := by rw [hS]; exact KS.out _ (Gr.refl _).drew
      have HS := hid hS
      clear hS
      have inst : Inhabited (Held S) := ⟨⟨_, hS0⟩⟩
      refine wp_region_mixS S 13 [([0, 1, 2, 3, 4, 5, 6, 7, 8], 9), ([], 10), ([11, 12], 13)] [] (by kernel_rfl) (by kernel_rfl) hS0 ?_
      refine segs_step ?_
      simp only [opsAt, List.getElem?_cons_zero, List.getElem?_cons_succ]
      repeat (go_big_quiet_step (fail))
      refine wpQuiet_nil ?_
      go_wp2
      refine ⟨.inr (Held.of (by rw [HS.out]; exact KS.out _ ((Gr.refl _).alloc _).drew)), ?_⟩
      refine segs_step ?_
      simp only [opsAt, List.getElem?_cons_zero, List.getElem?_cons_succ]
      refine wpQuiet_nil ?_
      go_wp2_with (at_builtin; refine wpList_append_lies _ rfl _ _ 30 rfl (X + 1) 3 i0 _ 1 8 Tryz.underlying30 hi hz0 hz1 hz2 rfl (by omega) v k (aheads l B k) rfl ((HN.out.own.alloc _).drew) ⟨wr.heap.size, 0, none⟩ 1 1 [.int .i64 (c : Nat)] rfl rfl (World.news_of_block (cs := #[.int .i64 (c : Nat)]) (t := 3) (fr := (0, 0)) (heap_alloc_new wr _)) (by simp [Value.oneCell']) (by omega) (by unfold maxLen; omega) (by omega) (by have := HX.out; simp; omega) (wr.heap.size + 1) (by simp) ?_; intro g cp w1 hown1 hgrow hat hlt1)
      go_frame
      have hg0 : Gr wr (wr.alloc (.cells #[.int .i64 (c : Nat)] 3)).drew := ((Gr.refl _).alloc _).drew
      have hK1 : w1.cell? ⟨X, 1, none⟩ = some v ∧ w1.cell? ⟨X, 3, none⟩ = some (.int .i64 (c : Nat)) ∧ w1.frozen? ⟨X, 1, none⟩ = false := by
        have hz := KS.out _ hg0
        exact ⟨(hgrow.cell_far ⟨X, 1, none⟩ (by have := HX.out; simp; omega) (Ne.symm HN.out.far)).trans hz.1, (hgrow.cell_far ⟨X, 3, none⟩ (by have := HX.out; simp; omega) (Ne.symm HN.out.far)).trans hz.2.1,
          (hgrow.frozen_far ⟨X, 1, none⟩ (by have := HX.out; simp; omega) (Ne.symm HN.out.far)).trans hz.2.2⟩
      refine ⟨.inr (Held.of (by rw [HS.out]; exact hK1)), ?_⟩
      have HM := hid ((HN.out.grow hg0).append (by rw [HCA.out]; exact hown1) hgrow)
      have k1 := hK1.1
      have k3 := hK1.2.2
      clear hg0 hown1 hgrow hat hlt1 hK1
      refine segs_step ?_
      simp only [opsAt, List.getElem?_cons_zero, List.getElem?_cons_succ]
      repeat (go_big_quiet_step (fail))
      refine wpQuiet_nil ?_
      go_wp2
      refine ⟨.inl trivial, ?_⟩
      refine segs_end ?_
      refine wpQuiet_nil ?_
      refine NoPanic.normal ?_
      generalize w1.setCell ⟨X, 1, none⟩ (.slice (some ⟨g, 0, none⟩) (k + 1) cp) = W3 at HM ⊢
      generalize (Value.slice (some ⟨g, 0, none⟩) (k + 1) cp) = v3 at HM ⊢
      clear x1 x3 hS0 HS inst k1 k3 KS c1 c3 fr HX
      clear S
      obtain ⟨tb, htb2⟩ : ∃ tb, tb = t + B := ⟨_, rfl⟩
      obtain ⟨d, hd⟩ : ∃ d, d = countL l (t : Int) (tb : Int) := ⟨_, rfl⟩
      obtain ⟨e, he⟩ : ∃ e, e = countL l 0 ((k + 1) * B : Nat) := ⟨_, rfl⟩
      have hcd : (c : Int) + (d : Int) = (e : Int) := by
        have := countL_add l (a := 0) (b := (t : Int)) (c := (tb : Int)) (by omega) (by omega)
        rw [hd, he, HC.out, ← ht.out, ← HT2.out, ← htb2]
        exact this
      have hel : e ≤ l.length := by rw [he]; exact cnt_le _ _
      have hw1 : IntKind.i64.wrap ((t : Int) + (B : Int)) = (tb : Int) := by rw [htb2, IntWalk.i64_in _ (by omega)]; omega
      have hw2 : IntKind.i64.wrap ((c : Int) + (d : Int)) = (e : Int) := by rw [hcd, IntWalk.i64_in _ (by omega)]
      have HD := hid hd
      have HE := hid he
      have HTB := hid htb2
      have k3 : W3.cell? ⟨X, 3, none⟩ = some (.int .i64 (c : Nat)) := by rw [HM.out.c3, HC.out]
      have fr : W3.frozen? ⟨X, 3, none⟩ = false := HM.out.free 3
      have HX : Hid (X < W3.heap.size) := ⟨by have := HM.out.base; omega⟩
      clear hcd hd he htb2
      go_upto_region 10 with (fail)
      obtain ⟨S, hS⟩ : ∃ S : World → Prop, S = fun W' => W'.cell? ⟨X, 3, none⟩ = some (.int .i64 (c : Nat)) := ⟨_, rfl⟩
      have x3 : ∀ p : Held S, p.w.cell? ⟨X, 3, none⟩ = some (.int .i64 (c : Nat)) := fun p => Held.get hS p
      have hS0 : S W3.drew := by rw [hS]; exact k3
      have HS := hid hS
      clear hS
      have inst : Inhabited (Held S) := ⟨⟨_, hS0⟩⟩
      refine wp_region_mixS S 13 [([0, 1, 2, 3, 4, 5, 6, 7, 8], 9), ([10, 11, 12], 13)] [] (by kernel_rfl) (by kernel_rfl) hS0 ?_
      refine segs_step ?_
      simp only [opsAt, List.getElem?_cons_zero, List.getElem?_cons_succ]
      repeat (go_big_quiet_step (fail))
      refine wpQuiet_nil ?_
      go_wp2_with (go_at_call 219; refine (count_vec (HV.out.gr (HM.out.gr.drew)) (t : Int) (tb : Int) (by omega)).mono ?_; rintro e' W4 ⟨rfl, hg4⟩; rw [← HD.out])
      have hg5 : Gr W3 W4 := (Gr.refl W3).drew.trans hg4
      have q3 := (hg5.cell HX.out 3).trans k3
      have qf := (hg5.frozen HX.out 3).trans fr
      have HM4 := hid ((HM.out.grow hg5).count (m' := k + 1) (z := (e : Nat)) (by rw [HE.out]))
      clear hg4 hg5
      refine ⟨.inr (Held.of (by rw [HS.out]; exact q3)), ?_⟩
      refine segs_step ?_
      simp only [opsAt, List.getElem?_cons_zero, List.getElem?_cons_succ]
      repeat (go_big_quiet_step (fail))
      refine wpQuiet_nil ?_
      go_wp2
      refine ⟨.inl trivial, ?_⟩
      refine segs_end ?_
      refine wpQuiet_nil ?_
      refine NoPanic.normal ?_
      generalize W4.setCell ⟨X, 3, none⟩ (.int .i64 (e : Nat)) = W5 at HM4 ⊢
      clear x3 hS0 HS inst q3 qf k3 fr hw1 hw2
      clear S
      go_wp2
      go_roundw
      case rel => exact ⟨k + 1, t + B, v3, HM4, HT2, by omega, by omega, HNo, by go_num⟩
      case measure => simp [intOf]; omega
    · have E := hid (nbl_eq hb1 (show l.length ≤ k * B by rw [← ht.out]; omega) hno.out)
      have HF := hid (HN.out.done hb1 hb2 E.out.symm (by rw [← ht.out]; omega))
      go_wp2_with (go_at_call 194; refine (len_vec (HV.out.gr HN.out.gr)).mono ?_; rintro e w1 ⟨rfl, rfl⟩)
      go_ret2
      obtain ⟨a, hI, ha⟩ := HF.out
      exact ⟨X, q, r, a, ret2 rfl rfl, HN.out.gr, hI, by have := HN.out.ge; have := HN.out.ltp; omega, HN.out.ge.1, HN.out.ge.2, ha⟩
end Go.Proofs.YtbmidhlilafgeaaGreatDoor
end

section
namespace Go.Proofs.YtbmidhlilafgeaaGreatDoor
open Go.RowKit Word

/-- The first k of the bits l. -/
def bitsK (l : List Bool) (k : Nat) : List Bool := l.mapIdx fun i x => decide (i < k) && x
theorem bitsK_len (l : List Bool) (k : Nat) : (bitsK l k).length = l.length := by unfold bitsK; simp
theorem bitsK_at (l : List Bool) (k i : Nat) : at_ (bitsK l k) i = (decide (i < k) && at_ l i) := by
  unfold bitsK at_
  rw [List.getD_eq_getElem?_getD, List.getElem?_mapIdx, List.getD_eq_getElem?_getD]
  cases l[i]? <;> simp
theorem bitsK_zero (l : List Bool) : bitsK l 0 = List.replicate l.length false :=
  ext_at (by rw [bitsK_len]; simp) (fun i hi => by rw [bitsK_at]; simp [at_, List.getD_eq_getElem?_getD, List.getElem?_replicate]; split <;> rfl)
theorem bitsK_all (l : List Bool) : bitsK l l.length = l :=
  ext_at (bitsK_len ..) (fun i hi => by rw [bitsK_len] at hi; rw [bitsK_at, decide_eq_true hi]; rfl)
theorem bitsK_on {l : List Bool} {k : Nat} (hk : k < l.length) (h : at_ l k = true) : (bitsK l k).set k true = bitsK l (k + 1) :=
  ext_at (by rw [List.length_set, bitsK_len, bitsK_len]) (fun i hi => by
    rw [bitsK_at]
    unfold at_
    rw [getD_set _ k i true (by rw [bitsK_len]; exact hk)]
    by_cases e : i = k
    · subst e; rw [if_pos rfl, decide_eq_true (by omega)]; show true = (true && at_ l i); rw [h]; rfl
    · rw [if_neg e]
      show at_ (bitsK l k) i = _
      rw [bitsK_at]
      show (decide (i < k) && at_ l i) = (decide (i < k + 1) && at_ l i)
      rw [show decide (i < k) = decide (i < k + 1) from decide_eq_decide.2 (by omega)])
theorem bitsK_off {l : List Bool} {k : Nat} (h : at_ l k = false) : bitsK l k = bitsK l (k + 1) :=
  ext_at (by rw [bitsK_len, bitsK_len]) (fun i hi => by
    rw [bitsK_at, bitsK_at]
    by_cases e : i = k
    · subst e; rw [h]; simp
    · rw [show decide (i < k) = decide (i < k + 1) from decide_eq_decide.2 (by omega)])

/-- A vector of the bits l, apart from all that was there. -/
def FreshVec (w : World) (l : List Bool) (e : Ending) (w' : World) : Prop :=
  ∃ p b, e = .returned (.pointer (some ⟨p, 0, none⟩)) ∧ Gr w w' ∧ Vec w' p b l ∧ w.heap.size ≤ p ∧ w.heap.size ≤ b
def live12 : List Bool := layL ((List.replicate 100 false).set 1 true) 64 66 true
theorem live12_ahead : aheadV live12 32 2 = 1 ∧ aheadE live12.length 32 2 = 0 := by decide +kernel
theorem live12_pick : pickV live12 2 = 65 ∧ pickB live12 2 = true := by decide +kernel
theorem live12_before : countL live12 0 65 = 2 := by decide +kernel
end Go.Proofs.YtbmidhlilafgeaaGreatDoor
end
