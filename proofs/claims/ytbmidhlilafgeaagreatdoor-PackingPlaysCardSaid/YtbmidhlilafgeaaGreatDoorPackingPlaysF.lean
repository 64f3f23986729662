/- Part 6 of what PackingPlays leans on: my own lemmas, merged by shake.py. -/
import Derived.Test.YtbmidhlilafgeaaGreatDoorPackingPlaysE
import Derived.Maps.OwnSet
section
section
namespace Go.Proofs.YtbmidhlilafgeaaGreatDoor
open Go.RowKit Word

/-- How many blocks of B there are in n. -/
def nbl (n B : Nat) : Nat := (n + B - 1) / B
theorem nbl_eq {n B j : Nat} (hB : 1 ≤ B) (h1 : n ≤ j * B) (h2 : ∀ i, i < j → i * B < n) : nbl n B = j := by
  unfold nbl
  refine Nat.div_eq_of_lt_le ?_ ?_
  · cases j with
    | zero => simp
    | succ i =>
      have := h2 i (by omega)
      rw [Nat.succ_mul]; omega
  · rw [Nat.succ_mul]; omega
theorem nbl_lt {n B j : Nat} (hB : 1 ≤ B) : j < nbl n B ↔ j * B < n := by
  unfold nbl
  constructor
  · intro h
    have h2 := (Nat.le_div_iff_mul_le (by omega : 0 < B)).1 (show j + 1 ≤ (n + B - 1) / B from h)
    rw [Nat.succ_mul] at h2; omega
  · intro h
    show j + 1 ≤ _
    rw [Nat.le_div_iff_mul_le (by omega), Nat.succ_mul]; omega

set_option maxRecDepth 100000 in
set_option maxHeartbeats 800000 in
theorem ref_may12 (n : Int) (w : World) : Calls Tryz.prog 139 #[.int .i64 n] w fun e w' => e = .returned (.bool (blockOk n)) ∧ w = w' := by
  go_enter Tryz.func139, Tryz.ntmps139
  go_wp2
  go_loop [3] (fun i => ∃ k : Nat, k ∈ [1, 2, 4, 8, 16, 32, 64, 128, 256, 512, 1024, 2048] ∧ Hid (∀ j : Nat, j < k → j ∈ [1, 2, 4, 8, 16, 32, 64, 128, 256, 512, 1024, 2048] → n ≠ j) ∧ i = .int .i64 k) (fun i => 2049 - (intOf i).toNat)
  case atStart => exact ⟨1, by decide, ⟨fun j h1 h2 => by simp at h2; omega⟩, rfl⟩
  case round =>
    obtain ⟨k, hk, hno, rfl⟩ := hrel
    have hk1 : 1 ≤ k ∧ k ≤ 2048 := by simp at hk; omega
    by_cases hle : k ≤ 1024
    · by_cases hn : n = k
      · have hok : blockOk n = true := by rw [hn]; simp at hk; rcases hk with rfl | rfl | rfl | rfl | rfl | rfl | rfl | rfl | rfl | rfl | rfl | rfl <;> first | rfl | omega
        have hb : ((k : Int) == n) = true := by simp; omega
        subst hn
        have HK := hid hok
        clear hok hno hk
        go_wp2
        go_ret
        exact ⟨ret_bool HK.out.symm, rfl⟩
      · have hb : ((k : Int) == n) = false := by simp; omega
        have hn' : (k : Int) ≠ n := fun h => hn h.symm
        have hk2 : Hid (k * 2 ∈ [1, 2, 4, 8, 16, 32, 64, 128, 256, 512, 1024, 2048]) := ⟨by simp at hk ⊢; omega⟩
        have hno2 : Hid (∀ j : Nat, j < k * 2 → j ∈ [1, 2, 4, 8, 16, 32, 64, 128, 256, 512, 1024, 2048] → n ≠ j) := ⟨fun j h1 h2 => by
          by_cases e : j < k
          · exact hno.out j e h2
          · have : j = k := by simp at hk h2; omega
            rw [this]; exact hn⟩
        clear hno hk hn
        go_wp2
        go_round
        case rel => exact ⟨k * 2, hk2.out, hno2, by go_num⟩
        case measure => simp [intOf]; omega
    · have hok : Hid (blockOk n = false) := ⟨by
        cases h : blockOk n with
        | false => rfl
        | true =>
          have hp := blockOk_pos h
          exact absurd (show n = (n.toNat : Int) by omega) (hno.out n.toNat (by simp at hk; omega) (by simp [blockOk] at h ⊢; omega))⟩
      clear hno hk
      go_wp2
      go_ret
      exact ⟨ret_bool hok.out.symm, rfl⟩

end Go.Proofs.YtbmidhlilafgeaaGreatDoor
end

section
namespace Go.Proofs.YtbmidhlilafgeaaGreatDoor
open Go.RowKit Word

end Go.Proofs.YtbmidhlilafgeaaGreatDoor
end

section
namespace Go.Proofs.YtbmidhlilafgeaaGreatDoor
open Go.RowKit Word

/-- An index x lies in w: of the bits l, in blocks of B. -/
structure Idx (w : World) (x p b a : Nat) (l : List Bool) (B : Nat) : Prop where
  vec : Vec w p b l
  b1 : 1 ≤ B
  b2 : B ≤ 1024
  hx : x < w.heap.size
  ha : a < w.heap.size
  c0 : w.cell? ⟨x, 0, none⟩ = some (.pointer (some ⟨p, 0, none⟩))
  c1 : ∃ cap, w.cell? ⟨x, 1, none⟩ = some (.slice (some ⟨a, 0, none⟩) (nbl l.length B) cap)
  c2 : w.cell? ⟨x, 2, none⟩ = some (.int .i64 B)
  c3 : w.cell? ⟨x, 3, none⟩ = some (.int .i64 (cnt (at_ l) l.length : Nat))
  ca : ∀ j, j < nbl l.length B → w.cell? ⟨a, j, none⟩ = some (.int .i64 (cnt (at_ l) (j * B) : Nat))
theorem Idx.touch {S : Nat → Prop} {w w' : World} {x p b a : Nat} {l : List Bool} {B : Nat} (h : Idx w x p b a l B) (t : Touch S w w') (h1 : ¬ S x) (h2 : ¬ S p) (h3 : ¬ S b) (h4 : ¬ S a) : Idx w' x p b a l B := by
  obtain ⟨cap, hc⟩ := h.c1
  exact ⟨h.vec.touch t h2 h3, h.b1, h.b2, Nat.lt_of_lt_of_le h.hx t.size, Nat.lt_of_lt_of_le h.ha t.size, by rw [t.cell h.hx h1]; exact h.c0, ⟨cap, by rw [t.cell h.hx h1]; exact hc⟩, by rw [t.cell h.hx h1]; exact h.c2,
    by rw [t.cell h.hx h1]; exact h.c3, fun j hj => by rw [t.cell h.ha h4]; exact h.ca j hj⟩
theorem Idx.gr {w w' : World} {x p b a : Nat} {l : List Bool} {B : Nat} (h : Idx w x p b a l B) (t : Gr w w') : Idx w' x p b a l B := h.touch (t.touch (fun _ => False)) (fun h => h) (fun h => h) (fun h => h) (fun h => h)
theorem nbl_le {n B : Nat} (h : 1 ≤ B) : nbl n B ≤ n := by
  rcases Nat.lt_or_ge n (nbl n B) with h1 | h1
  · have := (nbl_lt h).1 h1
    have h2 : n * 1 ≤ n * B := Nat.mul_le_mul_left n h
    omega
  · exact h1

theorem rank_ones {w : World} {x p b a : Nat} {l : List Bool} {B : Nat} (hX : Idx w x p b a l B) :
    Calls Tryz.prog 196 #[.pointer (some ⟨x, 0, none⟩)] w fun e w' => e = .returned (.int .i64 (cnt (at_ l) l.length : Nat)) ∧ w = w' := by
  have c3 := hX.c3
  have HX := hid hX
  clear hX
  go_enter Tryz.func196, Tryz.ntmps196
  go_wp2
  go_ret
  exact ⟨rfl, rfl⟩
end Go.Proofs.YtbmidhlilafgeaaGreatDoor
end

section
namespace Go.Proofs.YtbmidhlilafgeaaGreatDoor
open Go.RowKit Word

theorem countL_none (l : List Bool) {b : Int} (h : b ≤ 0) : countL l 0 b = 0 := by
  rw [countL_eq]
  unfold cntI
  have : cnt (fun i => decide ((0 : Int) ≤ (i : Nat) ∧ ((i : Nat) : Int) < b) && at_ l i) l.length = cnt (fun _ => false) l.length := cnt_congr (fun i _ => by rw [decide_eq_false (by omega)]; rfl)
  rw [this]
  generalize l.length = n
  induction n with
  | zero => rfl
  | succ n ih => rw [cnt_succ, ih]; rfl
set_option maxRecDepth 100000 in
set_option maxHeartbeats 1600000 in
theorem rank_before {w : World} {x p b a : Nat} {l : List Bool} {B : Nat} (hX : Idx w x p b a l B) (i : Int) :
    Gets Tryz.prog 199 #[.pointer (some ⟨x, 0, none⟩), .int .i64 i] w (.int .i64 (countL l 0 i : Nat)) := by
  have HX := hid hX
  have k0 := hX.c0
  have k2 := hX.c2
  have k3 := hX.c3
  obtain ⟨cap, k1⟩ := hX.c1
  have n2 := hX.vec.n2
  clear hX
  unfold Gets
  by_cases h0 : i ≤ 0
  · have d0 : decide (i ≤ 0) = true := by simp [h0]
    rw [countL_none l h0]
    clear k0 k1 k2 k3
    go_enter Tryz.func199, Tryz.ntmps199
    go_wp2
    go_ret
    exact ⟨rfl, Gr.refl _⟩
  · obtain ⟨r, rfl⟩ : ∃ r : Nat, i = r := ⟨i.toNat, by omega⟩
    have hr : 0 < r := by omega
    have d0 : decide ((r : Int) ≤ 0) = false := by simp; omega
    by_cases h1 : l.length ≤ r
    · have d1 : decide (l.length ≤ r) = true := by simp [h1]
      rw [countL_all l (by omega)]
      obtain ⟨N, hN⟩ : ∃ N, N = cnt (at_ l) l.length := ⟨_, rfl⟩
      rw [← hN] at k3 ⊢
      clear hN k1 k2
      go_enter Tryz.func199, Tryz.ntmps199
      go_wp2_with (go_at_call 194; refine (len_vec HX.out.vec).mono ?_; rintro e w1 ⟨rfl, rfl⟩)
      go_ret
      exact ⟨rfl, Gr.refl _⟩
    · have d1 : decide (l.length ≤ r) = false := by simp; omega
      obtain ⟨j, hj⟩ : ∃ j, j = r / B := ⟨_, rfl⟩
      have hB := HX.out.b1
      have hB2 := HX.out.b2
      have hjr : j * B ≤ r := by rw [hj]; exact Nat.div_mul_le_self r B
      have hjn : j < nbl l.length B := (nbl_lt hB).2 (by omega)
      have ka := HX.out.ca j hjn
      have q1 : ((r : Int).tdiv (B : Int)) = (j : Int) := by rw [hj]; rfl
      have q2 : ((r : Int) / (B : Int)) = (j : Int) := by rw [hj]; rfl
      obtain ⟨t, ht⟩ : ∃ t, t = j * B := ⟨_, rfl⟩
      have ht' : (j : Int) * (B : Int) = (t : Int) := by rw [ht, Int.natCast_mul]
      have hs := countL_add l (a := 0) (b := (t : Int)) (c := (r : Int)) (by omega) (by omega)
      have hu := countL_upto l (r := t) (by omega)
      rw [← ht] at ka
      rw [hu] at hs
      obtain ⟨c1, hc1⟩ : ∃ c, c = cnt (at_ l) t := ⟨_, rfl⟩
      obtain ⟨c2, hc2⟩ : ∃ c, c = countL l (t : Int) (r : Int) := ⟨_, rfl⟩
      obtain ⟨c3, hc3⟩ : ∃ c, c = countL l 0 (r : Int) := ⟨_, rfl⟩
      have hb1 : c1 ≤ 1048576 := by have := cnt_le (at_ l) t; omega
      have hb2 : c2 ≤ 1048576 := by have := cnt_le (inRun l (t : Int) (r : Int)) l.length; unfold countL at hc2; omega
      rw [← hc1] at ka hs
      rw [← hc2, ← hc3] at hs
      rw [← hc3]
      obtain ⟨N, hN⟩ : ∃ N, N = nbl l.length B := ⟨_, rfl⟩
      rw [← hN] at hjn k1
      have HNn := hid hN
      have htb : (t : Int) ≤ 1048576 := by omega
      have hBp : (B : Int) ≠ 0 := by omega
      have H2 := hid hc2.symm
      have HS := hid hs
      clear hc1 hc2 hc3 hN hj ht hu hs hjr k3
      have hjb : (j : Int) < N := by omega
      have hjl : j ≤ 1048576 := by have := nbl_le (n := l.length) hB; have := HNn.out; omega
      have w3 : IntKind.i64.wrap ((j : Int) * (B : Int)) = (t : Int) := by rw [ht', IntWalk.i64_in _ (by omega)]
      have w4 : IntKind.i64.wrap ((c1 : Int) + (c2 : Int)) = (c3 : Int) := by rw [HS.out, IntWalk.i64_in _ (by have := HS.out; omega)]
      have z0 : ∀ xs m, (grow w xs m).cell? ⟨x, 0, none⟩ = some (.pointer (some ⟨p, 0, none⟩)) := fun xs m => ((grown w xs m).cell HX.out.hx 0).trans k0
      have z1 : ∀ xs m, (grow w xs m).cell? ⟨x, 1, none⟩ = some (.slice (some ⟨a, 0, none⟩) N cap) := fun xs m => ((grown w xs m).cell HX.out.hx 1).trans k1
      have z2 : ∀ xs m, (grow w xs m).cell? ⟨x, 2, none⟩ = some (.int .i64 B) := fun xs m => ((grown w xs m).cell HX.out.hx 2).trans k2
      have z4 : ∀ xs m, (grow w xs m).cell? ⟨a, j, none⟩ = some (.int .i64 c1) := fun xs m => ((grown w xs m).cell HX.out.ha j).trans ka
      go_enter Tryz.func199, Tryz.ntmps199
      go_upto_region 6 with (go_at_call 194; refine (len_vec HX.out.vec).mono ?_; rintro e w1 ⟨rfl, rfl⟩)
      refine wp_region_by (by kernel_rfl) (by kernel_rfl) ?_
      repeat (go_big_quiet_step (first
        | (go_at_call 219; have hc := fun xs m => count_vec (HX.out.vec.gr (grown w xs m)) (t : Int) (r : Int) (by omega); simp only [H2.out] at hc; exact Gets.grown (hc _ _))))
      refine wpQuiet_nil ?_
      intro _ hw'
      obtain ⟨⟨xs, nq⟩, hw''⟩ := hw'
      subst hw''
      go_wp2
      go_ret
      exact ⟨by first | rfl | exact ret_int HS.out, grown w _ _⟩
end Go.Proofs.YtbmidhlilafgeaaGreatDoor
end

section
namespace Go.Proofs.YtbmidhlilafgeaaGreatDoor
open Go.RowKit Word

end Go.Proofs.YtbmidhlilafgeaaGreatDoor
end

section
namespace Go.Proofs.YtbmidhlilafgeaaGreatDoor
open Go.RowKit Word

end Go.Proofs.YtbmidhlilafgeaaGreatDoor
end

section
namespace Go.Proofs.YtbmidhlilafgeaaGreatDoor
open Go.RowKit Word

end Go.Proofs.YtbmidhlilafgeaaGreatDoor
end

section
namespace Go.Proofs.YtbmidhlilafgeaaGreatDoor
open Go.RowKit Word

theorem infoInt : (Tryz.prog.info? 3).map (fun i => (i.zero, i.size, i.bytes)) = some (some (.int .i64 0), 1, 8) := by kernel_rfl
/-- An index of the bits l, apart from all that was there. -/
def NewIdx (w : World) (l : List Bool) (B : Nat) (e : Ending) (w' : World) : Prop :=
  ∃ x p b a, e = .returned (.tuple #[.pointer (some ⟨x, 0, none⟩), .int .i64 0]) ∧ Gr w w' ∧ Idx w' x p b a l B ∧ w.heap.size ≤ x ∧ w.heap.size ≤ p ∧ w.heap.size ≤ b ∧ w.heap.size ≤ a
def aheads (l : List Bool) (B k : Nat) : List Value := (List.range k).map fun j => Value.int .i64 (cnt (at_ l) (j * B) : Nat)
theorem aheads_succ (l : List Bool) (B k : Nat) : aheads l B (k + 1) = aheads l B k ++ [.int .i64 (cnt (at_ l) (k * B) : Nat)] := by
  unfold aheads; rw [List.range_succ, List.map_append]; rfl
/-- What holds between two blocks: k entries are laid, m blocks are counted. -/
structure NewAt (w : World) (l : List Bool) (B X p b BASE k m : Nat) (v : Value) (wr : World) : Prop where
  gr : Gr w wr
  vec : Vec wr p b l
  own : wr.ownsRow BASE 3 1 v k (aheads l B k)
  c0 : wr.cell? ⟨X, 0, none⟩ = some (.pointer (some ⟨p, 0, none⟩))
  c1 : wr.cell? ⟨X, 1, none⟩ = some v
  c2 : wr.cell? ⟨X, 2, none⟩ = some (.int .i64 B)
  c3 : wr.cell? ⟨X, 3, none⟩ = some (.int .i64 (countL l 0 (m * B : Nat) : Nat))
  free : ∀ o, wr.frozen? ⟨X, o, none⟩ = false
  lt : X < BASE
  ltp : p < X
  ltb : b < X
  ge : w.heap.size ≤ p ∧ w.heap.size ≤ b
  base : BASE ≤ wr.heap.size
theorem NewAt.far {w : World} {l : List Bool} {B X p b BASE k m : Nat} {v : Value} {wr : World} (h : NewAt w l B X p b BASE k m v wr) : v.ownBlock ≠ some X := fun e => by
  have := (own_lt h.own e).1; have := h.lt; omega
theorem NewAt.grow {w : World} {l : List Bool} {B X p b BASE k m : Nat} {v : Value} {wr wr' : World} (h : NewAt w l B X p b BASE k m v wr) (g : Gr wr wr') : NewAt w l B X p b BASE k m v wr' := by
  have hX : X < wr.heap.size := by have := h.lt; have := h.base; omega
  exact ⟨h.gr.trans g, h.vec.gr g, own_gr h.own g, (g.cell hX 0).trans h.c0, (g.cell hX 1).trans h.c1, (g.cell hX 2).trans h.c2, (g.cell hX 3).trans h.c3, fun o => (g.frozen hX o).trans (h.free o), h.lt, h.ltp, h.ltb, h.ge, Nat.le_trans h.base g.size⟩
/-- Behind the append and the store into the field. -/
theorem NewAt.append {w : World} {l : List Bool} {B X p b BASE k m : Nat} {v : Value} {wr w1 : World} (h : NewAt w l B X p b BASE k m v wr) {g c : Nat}
    (hown : w1.ownsRow BASE 3 1 (.slice (some ⟨g, 0, none⟩) (k + 1) c) (k + 1) (aheads l B (k + 1))) (hgrow : wr.grownBy w1 v.ownBlock) :
    NewAt w l B X p b BASE (k + 1) m (.slice (some ⟨g, 0, none⟩) (k + 1) c) (w1.setCell ⟨X, 1, none⟩ (.slice (some ⟨g, 0, none⟩) (k + 1) c)) := by
  have hX : X < wr.heap.size := by have := h.lt; have := h.base; omega
  have t : Touch (fun i => v.ownBlock = some i) wr w1 := grown_touch hgrow _ (fun k e _ => e)
  have t2 : Touch (fun i => i = X) w1 (w1.setCell ⟨X, 1, none⟩ (.slice (some ⟨g, 0, none⟩) (k + 1) c)) := (Touch.refl (fun i => i = X) w1).setCell (a := ⟨X, 1, none⟩) (fun _ => rfl) _
  have far : ∀ i, i < BASE → v.ownBlock ≠ some i := fun i hi e => by have := (own_lt h.own e).1; omega
  have hX1 : X < w1.heap.size := Nat.lt_of_lt_of_le hX t.size
  have e : ∀ o, w1.cell? ⟨X, o, none⟩ = wr.cell? ⟨X, o, none⟩ := fun o => t.cell hX (far X h.lt) o
  have o : ∀ o, o ≠ 1 → (w1.setCell ⟨X, 1, none⟩ (.slice (some ⟨g, 0, none⟩) (k + 1) c)).cell? ⟨X, o, none⟩ = wr.cell? ⟨X, o, none⟩ := fun o ho => by
    rw [World.cell?_setCell_other (h := by intro e2; injection e2 with _ e3; omega), e o]
  have hp := h.ltp
  have hb := h.ltb
  have hl := h.lt
  refine ⟨?_, ?_, ?_, (o 0 (by omega)).trans h.c0, ?_, (o 2 (by omega)).trans h.c2, (o 3 (by omega)).trans h.c3, ?_, h.lt, h.ltp, h.ltb, h.ge, Nat.le_trans h.base (Nat.le_trans t.size t2.size)⟩
  · refine (((h.gr.touch (fun _ => False)).trans' t (fun i hi e => ?_)).trans' t2 (fun i hi e => ?_)).gr
    · have := (own_lt h.own e).1; have := h.ge; omega
    · have e : i = X := e; have := h.ge; omega
  · exact (h.vec.touch t (far p (by omega)) (far b (by omega))).touch t2 (by omega) (by omega)
  · refine own_touch hown t2 (fun i hi e => ?_)
    have e : i = X := e
    have := (own_lt hown hi).1; omega
  · exact World.cell?_setCell_same (h := (e 1).trans h.c1) ..
  · intro o
    rw [World.frozen?_setCell, t.frozen hX (far X h.lt)]; exact h.free o
theorem NewAt.count {w : World} {l : List Bool} {B X p b BASE k m : Nat} {v : Value} {wr : World} (h : NewAt w l B X p b BASE k m v wr) {m' : Nat} {z : Int} (hz : z = (countL l 0 (m' * B : Nat) : Nat)) :
    NewAt w l B X p b BASE k m' v (wr.setCell ⟨X, 3, none⟩ (.int .i64 z)) := by
  have hX : X < wr.heap.size := by have := h.lt; have := h.base; omega
  have t2 : Touch (fun i => i = X) wr (wr.setCell ⟨X, 3, none⟩ (.int .i64 z)) := (Touch.refl (fun i => i = X) wr).setCell (a := ⟨X, 3, none⟩) (fun _ => rfl) _
  have hp := h.ltp
  have hb := h.ltb
  have hl := h.lt
  have o : ∀ o, o ≠ 3 → (wr.setCell ⟨X, 3, none⟩ (.int .i64 z)).cell? ⟨X, o, none⟩ = wr.cell? ⟨X, o, none⟩ := fun o ho => by
    rw [World.cell?_setCell_other (h := by intro e2; injection e2 with _ e3; omega)]
  refine ⟨?_, h.vec.touch t2 (by omega) (by omega), ?_, (o 0 (by omega)).trans h.c0, (o 1 (by omega)).trans h.c1, (o 2 (by omega)).trans h.c2, ?_, ?_, h.lt, h.ltp, h.ltb, h.ge, Nat.le_trans h.base t2.size⟩
  · refine ((h.gr.touch (fun _ => False)).trans' t2 (fun i hi e => ?_)).gr
    have e : i = X := e; have := h.ge; omega
  · refine own_touch h.own t2 (fun i hi e => ?_)
    have e : i = X := e
    have := (own_lt h.own hi).1; omega
  · rw [hz]; exact World.cell?_setCell_same (h := h.c3) ..
  · intro o
    rw [World.frozen?_setCell]; exact h.free o
theorem NewAt.done {w : World} {l : List Bool} {B X p b BASE k : Nat} {v : Value} {wr : World} (h : NewAt w l B X p b BASE k k v wr) (h1 : 1 ≤ B) (h2 : B ≤ 1024) (hk : k = nbl l.length B) (hl : l.length ≤ k * B) :
    ∃ a, Idx wr X p b a l B ∧ w.heap.size ≤ a := by
  have hn := h.vec.n1
  have hk0 : k ≠ 0 := by rintro rfl; omega
  obtain ⟨g, c, rfl, hg1, hg2, hg3, hg4⟩ := own_form h.own hk0
  have := h.lt
  have hb := h.base
  refine ⟨g, ⟨h.vec, h1, h2, by omega, hg4, h.c0, ⟨c, by rw [h.c1, hk]⟩, h.c2, ?_, fun j hj => ?_⟩, by have := h.ge; have := h.ltp; omega⟩
  · rw [h.c3, countL_all l (by omega)]
  · refine own_cell h.own ?_
    unfold aheads
    rw [List.getElem?_map, List.getElem?_range (by omega)]; rfl
set_option maxRecDepth 100000 in
set_option maxHeartbeats 800000 in
theorem new_start {w w1 : World} {l : List Bool} {B q r : Nat} {T : TypeId} (hg : Gr w w1) (hV : Vec w1 q r l) (h1 : w.heap.size ≤ q) (h2 : w.heap.size ≤ r) :
    NewAt w l B w1.heap.size q r (w1.heap.size + 1) 0 0 (.slice none 0 0) (w1.alloc (.cells #[.pointer (some ⟨q, 0, none⟩), .slice none 0 0, .int .i64 B, .int .i64 0] T)) := by
  have hp := hV.hp
  have hb := hV.hb
  refine ⟨hg.alloc _, hV.gr ((Gr.refl w1).alloc _), own_nil _ _ _ _, World.cell?_alloc_new .., World.cell?_alloc_new .., World.cell?_alloc_new .., ?_, fun o => World.frozen?_alloc_new .., by omega, hp, hb, ⟨h1, h2⟩, by simp⟩
  rw [show countL l 0 ((0 * B : Nat) : Int) = 0 from countL_none l (by simp)]
  exact World.cell?_alloc_new ..
set_option maxRecDepth 100000 in
set_option maxHeartbeats 800000 in
theorem rank_new_bad {w : World} {p b : Nat} {l : List Bool} (hV : Vec w p b l) (n : Int) (hn : blockOk n = false) (hn2 : n ≤ 9223372036854775807) :
    Calls Tryz.prog 193 #[.pointer (some ⟨p, 0, none⟩), .int .i64 n] w fun e w' => e = .returned (.tuple #[.pointer none, .int .i64 5]) ∧ w = w' := by
  have n1 : ((l.length : Int) == 0) = false := by have := hV.n1; exact beq_eq_false_iff_ne.2 (by omega)
  have HV := hid hV
  rw [blockOk_eq] at hn
  cases hp : powB n with
  | false =>
    have HP := hid hp
    clear hp hn hV
    go_enter Tryz.func193, Tryz.ntmps193
    go_wp2_with (first
      | (go_at_call 194; refine (len_vec HV.out).mono ?_; rintro e w1 ⟨rfl, rfl⟩)
      | (go_at_call 114; refine (power_any n hn2 _).mono ?_; rintro e w1 ⟨rfl, rfl⟩; rw [HP.out]))
    go_ret2
    exact ⟨ret2 rfl rfl, rfl⟩
  | true =>
    rw [hp] at hn
    have d1 : decide ((1024 : Int) < n) = true := by simp at hn; simp; omega
    have HP := hid hp
    clear hp hn hV
    go_enter Tryz.func193, Tryz.ntmps193
    go_wp2_with (first
      | (go_at_call 194; refine (len_vec HV.out).mono ?_; rintro e w1 ⟨rfl, rfl⟩)
      | (go_at_call 114; refine (power_any n hn2 _).mono ?_; rintro e w1 ⟨rfl, rfl⟩; rw [HP.out]))
    go_ret2
    exact ⟨ret2 rfl rfl, rfl⟩
set_option maxRecDepth 100000 in
set_option maxHeartbeats 3200000 in
theorem rank_new_in {w : World} {p b : Nat} {l : List Bool} (hV : Vec w p b l) (B : Nat) (hB : blockOk B = true) :
    Calls Tryz.prog 193 #[.pointer (some ⟨p, 0, none⟩), .int .i64 B] w (NewIdx w l B) := by
  have n1 : ((l.length : Int) == 0) = false := by have := hV.n1; exact beq_eq_false_iff_ne.2 (by omega)
  have n2 := hV.n2
  have hb := blockOk_pos hB
  have hb1 : 1 ≤ B := by omega
  have hb2 : B ≤ 1024 := by omega
  have d1 : decide ((1024 : Int) < (B : Int)) = false := by simp; omega
  have HP : Hid (powB B = true) := ⟨by rw [blockOk_eq] at hB; simp at hB; exact hB.1⟩
  obtain ⟨i0, hi, hz0, hz1, hz2⟩ := info_parts infoInt
  have HV := hid hV
  clear hV hB hb
  go_enter Tryz.func193, Tryz.ntmps193
  go_wp2_with (first
    | (go_at_call 194; refine (len_vec HV.out).mono ?_; rintro e w1 ⟨rfl, rfl⟩)
    | (go_at_call 114; refine (power_any B (by omega) _).mono ?_; rintro e w1 ⟨rfl, rfl⟩; rw [HP.out])
    | (go_at_call 218; refine (copy_vec HV.out).mono ?_; rintro e w1 ⟨q, r, rfl, hg1, hV1, hq1, hq2⟩))
  have HN0 := hid (new_start (B := B) (T := 274) hg1 hV1 hq1 hq2)
  generalize w1.alloc (.cells #[.pointer (some ⟨q, 0, none⟩), .slice none 0 0, .int .i64 B, .int .i64 0] 274) = W2 at *
  obtain ⟨X, hX⟩ : ∃ X, X = w1.heap.size := ⟨_, rfl⟩
  rw [← hX] at HN0 ⊢
  clear hX
  clear hg1 hV1 hq1 hq2
  go_loopw [7] (fun s7 wr => ∃ k t v, Hid (NewAt w l B X q r (X + 1) k k v wr) ∧ Hid (t = k * B) ∧ k ≤ t ∧ t ≤ 1048576 + 1024 ∧ Hid (∀ i, i < k → i * B < l.length) ∧ s7 = .int .i64 (t : Nat)) (fun s7 _ => 1048576 + 1025 - (intOf s7).toNat)
  case atStart => exact ⟨0, 0, _, HN0, ⟨by simp⟩, by omega, by omega, ⟨fun i h => by omega⟩, rfl⟩
  case round =>
    obtain ⟨k, t, v, HN, ht, hkt, htb, hno, rfl⟩ := hrel
    by_cases hlt : t < l.length
    · have HNo : Hid (∀ i, i < k + 1 → i * B < l.length) := ⟨fun i h => by
        rcases Nat.lt_or_ge i k with h1 | h1
        · exact hno.out i h1
        · rw [show i = k by omega, ← ht.out]; exact hlt⟩
      have HT2 : Hid (t + B = (k + 1) * B) := ⟨by rw [Nat.succ_mul, ht.out]⟩
      go_upto_region 9 with (go_at_call 194; refine (len_vec (HV.out.gr HN.out.gr)).mono ?_; rintro e w1 ⟨rfl, rfl⟩)
      have c1 := HN.out.c1
      obtain ⟨c, hc⟩ : ∃ c, c = countL l 0 (k * B : Nat) := ⟨_, rfl⟩
      have c3 := HN.out.c3
      have fr := HN.out.free 1
      rw [← hc] at c3
      have hca : aheads l B (k + 1) = aheads l B k ++ [.int .i64 (c : Nat)] := by
        rw [aheads_succ, hc, countL_upto l (by rw [← ht.out]; omega)]
      have HCA := hid hca
      have HC := hid hc
      have HX : Hid (X < wr.heap.size) := ⟨by have := HN.out.base; omega⟩
      clear hca hc
      have KS : Hid (∀ W', Gr wr W' → W'.cell? ⟨X, 1, none⟩ = some v ∧ W'.cell? ⟨X, 3, none⟩ = some (.int .i64 (c : Nat)) ∧ W'.frozen? ⟨X, 1, none⟩ = false) := ⟨fun W' h => ⟨(h.cell HX.out 1).trans c1, (h.cell HX.out 3).trans c3, (h.frozen HX.out 1).trans fr⟩⟩
      obtain ⟨S, hS⟩ : ∃ S : World → Prop, S = fun W' => W'.cell? ⟨X, 1, none⟩ = some v ∧ W'.cell? ⟨X, 3, none⟩ = some (.int .i64 (c : Nat)) ∧ W'.frozen? ⟨X, 1, none⟩ = false := ⟨_, rfl⟩
      have x1 : ∀ p : Held S, p.w.cell? ⟨X, 1, none⟩ = some v := fun p => (Held.get hS p).1
      have x3 : ∀ p : Held S, p.w.cell? ⟨X, 3, none⟩ = some (.int .i64 (c : Nat)) := fun p => (Held.get hS p).2.1
      have hS0 : S wr.drew := by rw [hS]; exact KS.out _ (Gr.refl _).drew
      have HS := hid hS
      clear hS
      have inst : Inhabited (Held S) := ⟨⟨_, hS0⟩⟩
      refine wp_region_mixS S 13 [([0, 1, 2, 3, 4, 5, 6, 7, 8], 9), ([], 10), ([11, 12], 13)] [] (by kernel_rfl) (by kernel_rfl) hS0 ?_
      refine segs_step ?_
      simp only [opsAt, List.getElem?_cons_zero, List.getElem?_cons_succ]
      repeat (go_big_quiet_step (fail))
      refine wpQuiet_nil ?_
      go_wp2
      refine ⟨.inr (Held.of (by rw [HS.out]; exact KS.out _ ((Gr.refl _).alloc _).drew)), ?_⟩
      refine segs_step ?_
      simp only [opsAt, List.getElem?_cons_zero, List.getElem?_cons_succ]
      refine wpQuiet_nil ?_
      go_wp2_with (at_builtin; refine wpList_append_lies _ rfl _ _ 30 rfl (X + 1) 3 i0 _ 1 8 Tryz.underlying30 hi hz0 hz1 hz2 rfl (by omega) v k (aheads l B k) rfl ((HN.out.own.alloc _).drew) ⟨wr.heap.size, 0, none⟩ 1 1 [.int .i64 (c : Nat)] rfl rfl (World.news_of_block (cs := #[.int .i64 (c : Nat)]) (t := 3) (fr := (0, 0)) (heap_alloc_new wr _)) (by simp [Value.oneCell']) (by omega) (by unfold maxLen; omega) (by omega) (by have := HX.out; simp; omega) (wr.heap.size + 1) (by simp) ?_; intro g cp w1 hown1 hgrow hat hlt1)
      go_frame
      have hg0 : Gr wr (wr.alloc (.cells #[.int .i64 (c : Nat)] 3)).drew := ((Gr.refl _).alloc _).drew
      have hK1 : w1.cell? ⟨X, 1, none⟩ = some v ∧ w1.cell? ⟨X, 3, none⟩ = some (.int .i64 (c : Nat)) ∧ w1.frozen? ⟨X, 1, none⟩ = false := by
        have hz := KS.out _ hg0
        exact ⟨(hgrow.cell_far ⟨X, 1, none⟩ (by have := HX.out; simp; omega) (Ne.symm HN.out.far)).trans hz.1, (hgrow.cell_far ⟨X, 3, none⟩ (by have := HX.out; simp; omega) (Ne.symm HN.out.far)).trans hz.2.1,
          (hgrow.frozen_far ⟨X, 1, none⟩ (by have := HX.out; simp; omega) (Ne.symm HN.out.far)).trans hz.2.2⟩
      refine ⟨.inr (Held.of (by rw [HS.out]; exact hK1)), ?_⟩
      have HM := hid ((HN.out.grow hg0).append (by rw [HCA.out]; exact hown1) hgrow)
      have k1 := hK1.1
      have k3 := hK1.2.2
      clear hg0 hown1 hgrow hat hlt1 hK1
      refine segs_step ?_
      simp only [opsAt, List.getElem?_cons_zero, List.getElem?_cons_succ]
      repeat (go_big_quiet_step (fail))
      refine wpQuiet_nil ?_
      go_wp2
      refine ⟨.inl trivial, ?_⟩
      refine segs_end ?_
      refine wpQuiet_nil ?_
      refine NoPanic.normal ?_
      generalize w1.setCell ⟨X, 1, none⟩ (.slice (some ⟨g, 0, none⟩) (k + 1) cp) = W3 at HM ⊢
      generalize (Value.slice (some ⟨g, 0, none⟩) (k + 1) cp) = v3 at HM ⊢
      clear x1 x3 hS0 HS inst k1 k3 KS c1 c3 fr HX
      clear S
      obtain ⟨tb, htb2⟩ : ∃ tb, tb = t + B := ⟨_, rfl⟩
      obtain ⟨d, hd⟩ : ∃ d, d = countL l (t : Int) (tb : Int) := ⟨_, rfl⟩
      obtain ⟨e, he⟩ : ∃ e, e = countL l 0 ((k + 1) * B : Nat) := ⟨_, rfl⟩
      have hcd : (c : Int) + (d : Int) = (e : Int) := by
        have := countL_add l (a := 0) (b := (t : Int)) (c := (tb : Int)) (by omega) (by omega)
        rw [hd, he, HC.out, ← ht.out, ← HT2.out, ← htb2]
        exact this
      have hel : e ≤ l.length := by rw [he]; exact cnt_le _ _
      have hw1 : IntKind.i64.wrap ((t : Int) + (B : Int)) = (tb : Int) := by rw [htb2, IntWalk.i64_in _ (by omega)]; omega
      have hw2 : IntKind.i64.wrap ((c : Int) + (d : Int)) = (e : Int) := by rw [hcd, IntWalk.i64_in _ (by omega)]
      have HD := hid hd
      have HE := hid he
      have HTB := hid htb2
      have k3 : W3.cell? ⟨X, 3, none⟩ = some (.int .i64 (c : Nat)) := by rw [HM.out.c3, HC.out]
      have fr : W3.frozen? ⟨X, 3, none⟩ = false := HM.out.free 3
      have HX : Hid (X < W3.heap.size) := ⟨by have := HM.out.base; omega⟩
      clear hcd hd he htb2
      go_upto_region 10 with (fail)
      obtain ⟨S, hS⟩ : ∃ S : World → Prop, S = fun W' => W'.cell? ⟨X, 3, none⟩ = some (.int .i64 (c : Nat)) := ⟨_, rfl⟩
      have x3 : ∀ p : Held S, p.w.cell? ⟨X, 3, none⟩ = some (.int .i64 (c : Nat)) := fun p => Held.get hS p
      have hS0 : S W3.drew := by rw [hS]; exact k3
      have HS := hid hS
      clear hS
      have inst : Inhabited (Held S) := ⟨⟨_, hS0⟩⟩
      refine wp_region_mixS S 13 [([0, 1, 2, 3, 4, 5, 6, 7, 8], 9), ([10, 11, 12], 13)] [] (by kernel_rfl) (by kernel_rfl) hS0 ?_
      refine segs_step ?_
      simp only [opsAt, List.getElem?_cons_zero, List.getElem?_cons_succ]
      repeat (go_big_quiet_step (fail))
      refine wpQuiet_nil ?_
      go_wp2_with (go_at_call 219; refine (count_vec (HV.out.gr (HM.out.gr.drew)) (t : Int) (tb : Int) (by omega)).mono ?_; rintro e' W4 ⟨rfl, hg4⟩; rw [← HD.out])
      have hg5 : Gr W3 W4 := (Gr.refl W3).drew.trans hg4
      have q3 := (hg5.cell HX.out 3).trans k3
      have qf := (hg5.frozen HX.out 3).trans fr
      have HM4 := hid ((HM.out.grow hg5).count (m' := k + 1) (z := (e : Nat)) (by rw [HE.out]))
      clear hg4 hg5
      refine ⟨.inr (Held.of (by rw [HS.out]; exact q3)), ?_⟩
      refine segs_step ?_
      simp only [opsAt, List.getElem?_cons_zero, List.getElem?_cons_succ]
      repeat (go_big_quiet_step (fail))
      refine wpQuiet_nil ?_
      go_wp2
      refine ⟨.inl trivial, ?_⟩
      refine segs_end ?_
      refine wpQuiet_nil ?_
      refine NoPanic.normal ?_
      generalize W4.setCell ⟨X, 3, none⟩ (.int .i64 (e : Nat)) = W5 at HM4 ⊢
      clear x3 hS0 HS inst q3 qf k3 fr hw1 hw2
      clear S
      go_wp2
      go_roundw
      case rel => exact ⟨k + 1, t + B, v3, HM4, HT2, by omega, by omega, HNo, by go_num⟩
      case measure => simp [intOf]; omega
    · have E := hid (nbl_eq hb1 (show l.length ≤ k * B by rw [← ht.out]; omega) hno.out)
      have HF := hid (HN.out.done hb1 hb2 E.out.symm (by rw [← ht.out]; omega))
      go_wp2_with (go_at_call 194; refine (len_vec (HV.out.gr HN.out.gr)).mono ?_; rintro e w1 ⟨rfl, rfl⟩)
      go_ret2
      obtain ⟨a, hI, ha⟩ := HF.out
      exact ⟨X, q, r, a, ret2 rfl rfl, HN.out.gr, hI, by have := HN.out.ge; have := HN.out.ltp; omega, HN.out.ge.1, HN.out.ge.2, ha⟩
end Go.Proofs.YtbmidhlilafgeaaGreatDoor
end

section
namespace Go.Proofs.YtbmidhlilafgeaaGreatDoor
open Go.RowKit Word

end Go.Proofs.YtbmidhlilafgeaaGreatDoor
end
end
section
namespace Go.Proofs.YtbmidhlilafgeaaGreatDoor
open Word

def liveL (n : Nat) (L : List Ob) : List Bool := (List.range n).map (liveB L)
theorem liveL_len (n : Nat) (L : List Ob) : (liveL n L).length = n := by simp [liveL]
theorem at_live {n : Nat} {L : List Ob} (h : Good n L) (i : Nat) : at_ (liveL n L) i = liveB L i := by
  unfold liveL
  rw [at_map_range]
  by_cases hi : i < n
  · rw [decide_eq_true hi]; rfl
  · rw [decide_eq_false hi]
    cases hb : liveB L i with
    | false => rfl
    | true =>
      obtain ⟨o, ho, h1, h2⟩ := liveB_iff.1 hb
      have := h.sz o ho
      omega
theorem countL_live {n : Nat} {L : List Ob} (h : Good n L) (f t : Int) : ((countL (liveL n L) f t : Nat) : Int) = overs L f t := by
  rw [← liveN_eq h, countL_eq, liveL_len]
  congr 1
  exact cntI_congr (fun i _ => by rw [at_live h])
theorem cnt_live {n : Nat} {L : List Ob} (h : Good n L) (k : Nat) (hk : k ≤ n) : ((cnt (at_ (liveL n L)) k : Nat) : Int) = overs L 0 k := by
  rw [← countL_live h, countL_upto _ (by rw [liveL_len]; exact hk)]
/-- One more object laid. -/
theorem live_take {n : Nat} {L : List Ob} {j : Nat} (hj : j < L.length) : liveL n (L.take (j + 1)) = layL (liveL n (L.take j)) (L[j].1 : Nat) ((L[j].1 : Int) + (L[j].2 : Int)) true := by
  refine ext_at (by rw [layL_length, liveL_len, liveL_len]) (fun i hi => ?_)
  rw [liveL_len] at hi
  rw [layL_at _ _ _ _ _ (by rw [liveL_len]; exact hi)]
  unfold liveL
  rw [at_map_range, at_map_range, decide_eq_true hi]
  unfold liveB
  rw [List.take_succ_eq_append_getElem hj, List.any_append]
  by_cases hin : (L[j].1 : Int) ≤ i ∧ (i : Int) < (L[j].1 : Int) + (L[j].2 : Int)
  · rw [if_pos hin]
    have : L[j].1 ≤ i ∧ i < L[j].1 + L[j].2 := by omega
    simp [this]
  · rw [if_neg hin]
    have : ¬ (L[j].1 ≤ i ∧ i < L[j].1 + L[j].2) := by omega
    simp [this]
theorem live_none (n : Nat) : liveL n [] = List.replicate n false := by
  unfold liveL
  exact ext_at (by simp) (fun i hi => by rw [at_map_range]; simp [at_, List.getD_eq_getElem?_getD, List.getElem?_replicate, liveB]; split <;> rfl)
end Go.Proofs.YtbmidhlilafgeaaGreatDoor

namespace Go.Proofs.YtbmidhlilafgeaaGreatDoor
open Go.RowKit Word

/-- A table t lies in w, all of it from block F on: of the words of the objects L, blocks of B. -/
def OffT (w : World) (F t n B : Nat) (L : List Ob) : Prop :=
  Good n L ∧ t < w.heap.size ∧ F ≤ t ∧ ∃ v vb x p b a, w.cell? ⟨t, 0, none⟩ = some (.pointer (some ⟨v, 0, none⟩)) ∧ w.cell? ⟨t, 1, none⟩ = some (.pointer (some ⟨x, 0, none⟩)) ∧ Vec w v vb (liveL n L) ∧ Idx w x p b a (liveL n L) B ∧
    F ≤ v ∧ F ≤ vb ∧ F ≤ x ∧ F ≤ p ∧ F ≤ b ∧ F ≤ a
theorem OffT.touch {S : Nat → Prop} {w w' : World} {F t n B : Nat} {L : List Ob} (h : OffT w F t n B L) (ht : Touch S w w') (hS : ∀ k, F ≤ k → k < w.heap.size → ¬ S k) : OffT w' F t n B L := by
  obtain ⟨hg, h1, h2, v, vb, x, p, b, a, c0, c1, hV, hX, k1, k2, k3, k4, k5, k6⟩ := h
  exact ⟨hg, Nat.lt_of_lt_of_le h1 ht.size, h2, v, vb, x, p, b, a, (ht.cell h1 (hS t h2 h1) 0).trans c0, (ht.cell h1 (hS t h2 h1) 1).trans c1, hV.touch ht (hS v k1 hV.hp) (hS vb k2 hV.hb), hX.touch ht (hS x k3 hX.hx) (hS p k4 hX.vec.hp) (hS b k5 hX.vec.hb) (hS a k6 hX.ha), k1, k2, k3, k4, k5, k6⟩
theorem OffT.gr {w w' : World} {F t n B : Nat} {L : List Ob} (h : OffT w F t n B L) (g : Gr w w') : OffT w' F t n B L := h.touch (g.touch (fun _ => False)) (fun _ _ _ h => h)
section
variable {w : World} {F t n B : Nat} {L : List Ob}
theorem off_before (hO : OffT w F t n B L) (i : Int) : Gets Tryz.prog 156 #[.pointer (some ⟨t, 0, none⟩), .int .i64 i] w (.int .i64 (overs L 0 i)) := by
  obtain ⟨hg, h1, h2, v, vb, x, p, b, a, c0, c1, hV, hX, -⟩ := hO
  rw [← countL_live hg]
  have HX := hid hX
  clear hX hV
  unfold Gets
  go_enter Tryz.func156, Tryz.ntmps156
  go_wp2_with (go_at_call 199; refine (rank_before HX.out i).mono ?_; rintro e w1 ⟨rfl, hg1⟩)
  go_ret
  exact ⟨rfl, hg1⟩
theorem off_is (hO : OffT w F t n B L) (i : Int) : Calls Tryz.prog 155 #[.pointer (some ⟨t, 0, none⟩), .int .i64 i] w fun e w' => e = .returned (.bool (decide (0 ≤ i) && liveB L i.toNat)) ∧ w = w' := by
  obtain ⟨hg, h1, h2, v, vb, x, p, b, a, c0, c1, hV, hX, -⟩ := hO
  rw [← at_live hg]
  have HV := hid hV
  clear hX hV
  go_enter Tryz.func155, Tryz.ntmps155
  go_wp2_with (go_at_call 198; refine (test_any HV.out i).mono ?_; rintro e w1 ⟨rfl, rfl⟩)
  go_ret
  exact ⟨rfl, rfl⟩
theorem off_live (hO : OffT w F t n B L) : Calls Tryz.prog 149 #[.pointer (some ⟨t, 0, none⟩)] w fun e w' => e = .returned (.int .i64 (sizes L : Nat)) ∧ w = w' := by
  obtain ⟨hg, h1, h2, v, vb, x, p, b, a, c0, c1, hV, hX, -⟩ := hO
  have HX := hid hX
  have HL : Hid (cnt (at_ (liveL n L)) (liveL n L).length = sizes L) := ⟨by
    have := cnt_live hg n (Nat.le_refl n)
    rw [overs_all hg] at this
    rw [liveL_len]; omega⟩
  clear hX hV
  go_enter Tryz.func149, Tryz.ntmps149
  go_wp2_with (go_at_call 196; refine (rank_ones HX.out).mono ?_; rintro e w1 ⟨rfl, rfl⟩; rw [HL.out])
  go_ret
  exact ⟨rfl, rfl⟩
end
end Go.Proofs.YtbmidhlilafgeaaGreatDoor

namespace Go.Proofs.YtbmidhlilafgeaaGreatDoor
open Go.RowKit Go.Shelf Word
attribute [local go_sem] Oper.semAt_some

/-- Between two rounds of New. -/
structure OffI (W0 : World) (v vb n : Nat) (L : List Ob) (j : Nat) (A : World) : Prop where
  t : Touch (fun i => i = vb ∨ W0.heap.size ≤ i) W0 A
  jl : j ≤ L.length
  vec : Vec A v vb (liveL n (L.take j))
def NewOff (w : World) (n : Nat) (L : List Ob) (k : Int) (e : Ending) (w' : World) : Prop :=
  Gr w w' ∧ ((blockOk k = false ∧ e = .returned (.tuple #[.pointer none, .int .i64 5])) ∨ (blockOk k = true ∧ ∃ t B : Nat, k = B ∧ e = .returned (.tuple #[.pointer (some ⟨t, 0, none⟩), .int .i64 0]) ∧ OffT w' w.heap.size t n B L))
set_option maxRecDepth 100000 in
set_option maxHeartbeats 3200000 in
theorem off_new {w : World} {m p1 b1 p2 b2 n : Nat} {L : List Ob} (hE : Ext w m p1 b1 p2 b2 n L) (hT : TabAt w) (k : Int) (hk : k ≤ 9223372036854775807) :
    Calls Tryz.prog 146 #[.pointer (some ⟨m, 0, none⟩), .int .i64 k] w (NewOff w n L k) := by
  have HE := hid hE
  have HT := hid hT
  obtain ⟨hn1, hn2⟩ := hE.nb
  have hn0 : ((n : Int) == 0) = false := beq_eq_false_iff_ne.2 (by omega)
  clear hE hT
  refine (callsIn_wide (n := 5)).1 ?_
  refine callsIn_of_wp_marks Tryz.func146 rfl trivial ?_ rfl
  simp only [Tryz.ntmps146, List.size_toArray, List.length_cons, List.length_nil, Nat.reduceAdd, Nat.reduceSub, Array.replicate_succ, Array.replicate_zero, List.push_toArray, List.append_toArray, List.nil_append, List.cons_append]
  gi_wp2_with (first
    | (refine ⟨trivial, ?_⟩; gi_at_call 147; refine (callsIn_wide.2 (ext_words HE.out)).mono ?_; rintro e w1 ⟨rfl, rfl⟩)
    | (refine ⟨trivial, ?_⟩; gi_at_call 177; refine (callsIn_wide.2 (new_vec n hn1 hn2 _)).mono ?_; rintro e w1 ⟨v, vb, rfl, hg1, hV1, hv, hvb⟩; have HG1 := hid hg1; have HV1 := hid hV1; have HP := hid (And.intro hv hvb); clear hg1 hV1 hv hvb)
    | (refine ⟨trivial, ?_⟩; gi_at_call 86; refine (callsIn_wide.2 (all_call (some ⟨m, 0, none⟩))).mono ?_; rintro e w2 ⟨rfl, rfl⟩))
  obtain ⟨X, hX⟩ : ∃ X, X = w1.heap.size := ⟨_, rfl⟩
  obtain ⟨W0, hW0⟩ : ∃ W0, W0 = (w1.alloc (.cells #[.pointer (some ⟨v, 0, none⟩)] 198)).alloc (.cells #[.pointer (some ⟨m, 0, none⟩)] 124) := ⟨_, rfl⟩
  have hg0 : Gr w1 W0 := by rw [hW0]; exact ((Gr.refl w1).alloc _).alloc _
  have hs0 : W0.heap.size = X + 2 := by rw [hW0, hX]; simp
  have e0 : W0.cell? ⟨X, 0, none⟩ = some (.pointer (some ⟨v, 0, none⟩)) := by rw [hW0, hX]; exact ((Boxed.new w1 _ _).alloc _).cell
  have e1 : W0.cell? ⟨X + 1, 0, none⟩ = some (.pointer (some ⟨m, 0, none⟩)) := by
    rw [hW0, hX]
    have := Boxed.new (w1.alloc (.cells #[.pointer (some ⟨v, 0, none⟩)] 198)) 124 (.pointer (some ⟨m, 0, none⟩))
    rw [World.size_alloc] at this
    exact this.cell
  have hz1 := HG1.out.size
  have hz2 := HV1.out.hp
  have hz3 := HV1.out.hb
  have hz4 := HP.out.1
  have hz5 := HP.out.2
  rw [← hX] at hz1 hz2 hz3
  have o1 := HE.out.hm
  have o2 := HE.out.v1.hp
  have o3 := HE.out.v1.hb
  have o4 := HE.out.v2.hp
  have o5 := HE.out.v2.hb
  have o6 := HT.out.lt
  have HG0 := hid (HG1.out.trans hg0)
  have HE0 := hid (HE.out.gr (HG1.out.trans hg0))
  have HV0 := hid (HV1.out.gr hg0)
  have hgood := HE.out.good
  have HC0 := hid (And.intro e0 e1)
  rw [← hW0, ← hX]
  clear hW0 hX hg0 e0 e1
  have h00 : OffI W0 v vb n L 0 W0 := ⟨Touch.refl _ _, Nat.zero_le _, by show Vec W0 v vb (liveL n []); rw [live_none]; exact HV0.out⟩
  have tI : ∀ j A B, OffI W0 v vb n L j A → Touch (fun i => W0.heap.size ≤ i) A B → OffI W0 v vb n L j B := fun j A B h t =>
    ⟨h.t.trans (t.mono (fun i _ h => .inr h)), h.jl, h.vec.touch t (by omega) (by omega)⟩
  refine range_lawT (s0 := 0) rfl (by omega) (gf := 150) (lb := #[.pointer (some ⟨X + 1, 0, none⟩)]) rfl trivial (enters_of Tryz.func150 (by kernel_rfl) rfl)
    (all_seq _ (X + 1) m p1 b1 p2 b2 n L _) (fun _ => rfl)
    (OffI W0 v vb n L) (fun _ _ => False) tI (fun _ _ _ h _ => h)
    (fun j A h => ⟨HE0.out.touch h.t (by omega) (by omega) (by omega) (by omega) (by omega), (HG0.out.tab HT.out.lt HT.out).touch' h.t (by omega), (h.t.cell (by omega) (by omega) 0).trans HC0.out.2, h.jl⟩)
    h00 ?round ?done (fun _ _ _ _ h _ => h.elim)
  case round =>
    intro lp j x W3 hsz3 hI3 hgv
    dsimp only [encO]
    gi_wp2
    refine ⟨Gr.refl _, fun W4 ht4 hI4 => ?_⟩
    have hjl : j < L.length := by
      rcases Nat.lt_or_ge j L.length with h | h
      · exact h
      · unfold AllGives at hgv; rw [List.getElem?_eq_none h] at hgv; cases hgv
    obtain rfl : x = L[j] := by unfold AllGives at hgv; rw [List.getElem?_eq_getElem hjl] at hgv; exact (Option.some.inj hgv).symm
    have hsz' := hgood.sz _ (List.getElem_mem hjl)
    have HLV := hid (live_take (n := n) hjl)
    have c6 := (hI4.t.cell (b := X) (by omega) (by omega) 0).trans HC0.out.1
    have HI4 := hid hI4
    clear hI4 hI3 ht4 hgv
    gi_wp2_with (refine ⟨trivial, ?_⟩; gi_at_call 192; refine (CallsIn.inRound lp (callsIn_wide.2 (fill_vec HI4.out.vec _ _ (by omega)))).mono ?_; rintro e w5 ⟨rfl, ht5, hv5⟩)
    rw [← HLV.out] at hv5
    exact ⟨ht5.mono (fun i _ h => by have h : i = vb := h; omega), j + 1, rfl, HI4.out.t.trans (ht5.mono (fun i _ h => .inl h)), by omega, hv5⟩
  case done =>
    rintro D j W3 hD rfl hI3 hK
    have c6 := (hI3.t.cell (b := X) (by omega) (by omega) 0).trans HC0.out.1
    have hV3 := hI3.vec
    rw [List.take_length] at hV3
    have HV3 := hid hV3
    have HT3 := hid hI3.t
    have HK := hid hK
    have HD := hid hD
    have hg3 : Gr w W3 := ((HG0.out.touch (fun _ => False)).trans' hI3.t (fun i hi h => by omega)).gr
    have HG3 := hid hg3
    have hz6 := hI3.t.size
    clear hV3 hI3 hK hD hg3
    cases hb : blockOk k with
    | false =>
      have HB := hid hb
      gi_wp2_with (refine ⟨trivial, ?_⟩; gi_at_call 193; refine (callsIn_wide.2 (rank_new_bad HV3.out k HB.out hk)).mono ?_; rintro e w4 ⟨rfl, rfl⟩)
      refine ⟨by simp, .inl ⟨_, _, rfl, run_takeDeferred HK.out, ?_⟩⟩
      refine ⟨.tuple #[.pointer none, .int .i64 5], ?_, ((HG3.out.touch (fun _ => False)).trans' (touch_putObj _ D _ (Nat.le_refl D)) (fun i hi h => by have := HD.out; omega)).gr, .inl ⟨HB.out, rfl⟩⟩
      simp [results, Tryz.f146, go_sem]
    | true =>
      have hbp := blockOk_pos hb
      obtain ⟨B, rfl⟩ : ∃ B : Nat, k = B := ⟨k.toNat, by omega⟩
      have HB := hid hb
      gi_wp2_with (refine ⟨trivial, ?_⟩; gi_at_call 193; refine (callsIn_wide.2 (rank_new_in HV3.out B HB.out)).mono ?_; rintro e w4 ⟨x, p, b, a, rfl, hg4, hX4, hx1, hx2, hx3, hx4⟩; have c64 := (hg4.cell (lt_cell c6) 0).trans c6; have HG4 := hid hg4; have HX4 := hid hX4; have HZ4 := hid (And.intro hx1 (And.intro hx2 (And.intro hx3 hx4))); clear hg4 hX4 hx1 hx2 hx3 hx4)
      have hD5 : (w4.alloc (.cells #[.pointer (some ⟨v, 0, none⟩), .pointer (some ⟨x, 0, none⟩)] 253)).heap[D]? = some (.deferred (some [])) :=
        (((HG4.out.alloc _).block (Array.getElem?_eq_some_iff.1 HK.out).1)).trans HK.out
      have tt := ((HG3.out.trans (HG4.out.alloc (.cells #[.pointer (some ⟨v, 0, none⟩), .pointer (some ⟨x, 0, none⟩)] 253))).touch (fun _ => False)).trans' (touch_putObj _ D (.deferred none) (Nat.le_refl D)) (fun i hi h => by have := HD.out; omega)
      refine ⟨by simp, .inl ⟨_, _, rfl, run_takeDeferred hD5, ?_⟩⟩
      refine ⟨.tuple #[.pointer (some ⟨w4.heap.size, 0, none⟩), .int .i64 0], ?_, tt.gr, .inr ⟨HB.out, w4.heap.size, B, rfl, rfl, ?_⟩⟩
      · simp [results, Tryz.f146, go_sem]
      · have t5 := touch_put1 (w4.alloc (.cells #[.pointer (some ⟨v, 0, none⟩), .pointer (some ⟨x, 0, none⟩)] 253)) D (.deferred none)
        have hs4 := HG4.out.size
        have hz := HZ4.out
        have hdl := (Array.getElem?_eq_some_iff.1 HK.out).1
        have hd := HD.out
        have hl : w4.heap.size < (w4.alloc (.cells #[.pointer (some ⟨v, 0, none⟩), .pointer (some ⟨x, 0, none⟩)] 253)).heap.size := by rw [World.size_alloc]; omega
        exact ⟨hgood, Nat.lt_of_lt_of_le hl t5.size, by omega, v, vb, x, p, b, a, (t5.cell (b := w4.heap.size) hl (by omega) 0).trans (World.cell?_alloc_new ..), (t5.cell (b := w4.heap.size) hl (by omega) 1).trans (World.cell?_alloc_new ..),
          ((HV3.out.gr HG4.out).gr ((Gr.refl _).alloc _)).touch t5 (by omega) (by omega), (HX4.out.gr ((Gr.refl _).alloc _)).touch t5 (by omega) (by omega) (by omega) (by omega), by omega, by omega, by omega, by omega, by omega, by omega⟩
end Go.Proofs.YtbmidhlilafgeaaGreatDoor
end
section
namespace Go.Proofs.YtbmidhlilafgeaaGreatDoor
open Word

theorem sizes_take_le (L : List Ob) (j : Nat) : sizes (L.take j) ≤ sizes L := by
  induction L generalizing j with
  | nil => simp [sizes]
  | cons o r ih =>
    cases j with
    | zero => simp [sizes]
    | succ j => have := ih j; simp only [List.take_succ_cons, sizes]; omega
theorem sizes_mid {L : List Ob} {j : Nat} (hj : j < L.length) : sizes (L.take j) + L[j].2 ≤ sizes L := by
  rw [← sizes_take hj]; exact sizes_take_le L (j + 1)

/-! To -/
def toV (L : List Ob) (base a : Int) : Int := if findO L a < L.length then base + overs L 0 a else 0
def toE (L : List Ob) (a : Int) : Int := if findO L a < L.length then 0 else 6
theorem toV_at {n : Nat} {L : List Ob} (h : Good n L) {base a : Int} {j : Nat} (hj : j < L.length) (h1 : (L[j].1 : Int) ≤ a) (h2 : a < L[j].1 + L[j].2) :
    toV L base a = base + sizes (L.take j) + a - (L[j].1 : Nat) ∧ toE L a = 0 := by
  have e := findO_eq h hj h1 h2
  have hs := overs_upto h hj (i := (a - L[j].1).toNat) (by omega)
  rw [show (L[j].1 : Int) + ((a - L[j].1).toNat : Nat) = a by omega] at hs
  unfold toV toE
  rw [if_pos (by omega), if_pos (by omega), hs]
  exact ⟨by omega, rfl⟩
theorem toV_no {L : List Ob} {base a : Int} (h : ¬ findO L a < L.length) : toV L base a = 0 ∧ toE L a = 6 := by
  unfold toV toE; rw [if_neg h, if_neg h]; exact ⟨rfl, rfl⟩
theorem live_find {L : List Ob} (a : Int) : (decide (0 ≤ a) && liveB L a.toNat) = decide (findO L a < L.length) := by
  by_cases h : 0 ≤ a
  · rw [decide_eq_true h, liveB_find, show ((a.toNat : Nat) : Int) = a by omega]; rfl
  · rw [decide_eq_false h]
    rw [findO_none (fun o _ => by omega)]
    simp

/-! From -/
/-! Objects added in order -/
theorem insO_end {M : List Ob} {o : Ob} (h : ∀ y ∈ M, ¬ o.1 < y.1) : insO M o = M ++ [o] := by
  induction M with
  | nil => rfl
  | cons y r ih =>
    unfold insO
    rw [if_neg (h y (List.mem_cons_self ..)), ih (fun z hz => h z (List.mem_cons_of_mem _ hz))]; rfl
theorem add_next {n : Nat} {L : List Ob} (h : Good n L) {j : Nat} (hj : j < L.length) : addL (L.take j) n (L[j].1 : Nat) (L[j].2 : Nat) = L.take (j + 1) := by
  have hs := h.sz _ (List.getElem_mem hj)
  have hle : ∀ o ∈ L.take j, o.1 + o.2 ≤ L[j].1 := fun o ho => by
    obtain ⟨i, hi, hij, rfl⟩ := mem_take_lt ho
    exact h.at hi hj hij
  have hc : clashB (L.take j) (L[j].1 : Nat) (L[j].2 : Nat) = false := by
    cases e : clashB (L.take j) (L[j].1 : Nat) (L[j].2 : Nat) with
    | false => rfl
    | true => obtain ⟨o, ho, h1, h2⟩ := clash_iff.1 e; have := hle o ho; omega
  have he : addE (L.take j) n (L[j].1 : Nat) (L[j].2 : Nat) = 0 := by
    unfold addE; rw [if_neg (by omega), if_neg (by omega), hc]; rfl
  unfold addL
  rw [if_pos he, Int.toNat_natCast, Int.toNat_natCast, insO_end (fun y hy => by have := hle y hy; omega), List.take_succ_eq_append_getElem hj]
end Go.Proofs.YtbmidhlilafgeaaGreatDoor
end
section
namespace Go.Proofs.YtbmidhlilafgeaaGreatDoor
open Go.RowKit Word

/-- A forwarding map f lies in w, all of it from block F on. -/
def Fwd (w : World) (F f n B : Nat) (base : Nat) (L : List Ob) : Prop :=
  f < w.heap.size ∧ F ≤ f ∧ base < 2147483648 ∧ ∃ t o p1 b1 p2 b2, w.cell? ⟨f, 0, none⟩ = some (.pointer (some ⟨t, 0, none⟩)) ∧ w.cell? ⟨f, 1, none⟩ = some (.pointer (some ⟨o, 0, none⟩)) ∧ w.cell? ⟨f, 2, none⟩ = some (.int .i64 base) ∧
    OffT w F t n B L ∧ Ext w o p1 b1 p2 b2 n L ∧ F ≤ o ∧ F ≤ p1 ∧ F ≤ b1 ∧ F ≤ p2 ∧ F ≤ b2
theorem Fwd.touch {S : Nat → Prop} {w w' : World} {F f n B base : Nat} {L : List Ob} (h : Fwd w F f n B base L) (t : Touch S w w') (hS : ∀ k, F ≤ k → k < w.heap.size → ¬ S k) : Fwd w' F f n B base L := by
  obtain ⟨h1, h2, h3, tt, o, p1, b1, p2, b2, c0, c1, c2, hO, hE, k1, k2, k3, k4, k5⟩ := h
  exact ⟨Nat.lt_of_lt_of_le h1 t.size, h2, h3, tt, o, p1, b1, p2, b2, (t.cell h1 (hS f h2 h1) 0).trans c0, (t.cell h1 (hS f h2 h1) 1).trans c1, (t.cell h1 (hS f h2 h1) 2).trans c2, hO.touch t hS, hE.touch t (hS _ k1 hE.hm) (hS _ k2 hE.v1.hp) (hS _ k3 hE.v1.hb) (hS _ k4 hE.v2.hp) (hS _ k5 hE.v2.hb), k1, k2, k3, k4, k5⟩
theorem Fwd.gr {w w' : World} {F f n B base : Nat} {L : List Ob} (h : Fwd w F f n B base L) (g : Gr w w') : Fwd w' F f n B base L := h.touch (g.touch (fun _ => False)) (fun _ _ _ h => h)
theorem Fwd.good {w : World} {F f n B base : Nat} {L : List Ob} (h : Fwd w F f n B base L) : Good n L ∧ n ≤ 1048576 := by
  obtain ⟨_, _, _, _, _, _, _, _, _, _, _, _, hO, hE, _⟩ := h
  exact ⟨hE.good, hE.nb.2⟩
theorem overs_to {n : Nat} {L : List Ob} (h : Good n L) (hn : n ≤ 1048576) (a : Int) : 0 ≤ overs L 0 a ∧ overs L 0 a ≤ 1048576 := by
  rw [← liveN_eq h]
  have : liveN L n 0 a ≤ n := cnt_le _ _
  omega
section
variable {w : World} {F f n B base : Nat} {L : List Ob}
set_option maxRecDepth 100000 in
set_option maxHeartbeats 800000 in
theorem fwd_to (hF : Fwd w F f n B base L) (a : Int) : Gets Tryz.prog 89 #[.pointer (some ⟨f, 0, none⟩), .int .i64 a] w (.tuple #[.int .i64 (toV L base a), .int .i64 (toE L a)]) := by
  obtain ⟨hg, hn⟩ := hF.good
  obtain ⟨h1, h2, h3, t, o, p1, b1, p2, b2, c0, c1, c2, hO, hE, -⟩ := hF
  have HO := hid hO
  have hov := overs_to hg hn a
  have hl := live_find (L := L) a
  clear hO hE hg
  by_cases hf : findO L a < L.length
  · have HV : Hid (toV L base a = base + overs L 0 a ∧ toE L a = 0) := ⟨by unfold toV toE; rw [if_pos hf, if_pos hf]; exact ⟨rfl, rfl⟩⟩
    have HL : Hid ((decide (0 ≤ a) && liveB L a.toNat) = true) := ⟨by rw [hl, decide_eq_true hf]⟩
    rw [HV.out.1, HV.out.2]
    obtain ⟨ov, hov2⟩ : ∃ ov, ov = overs L 0 a := ⟨_, rfl⟩
    rw [← hov2] at hov ⊢
    have HOV := hid hov2.symm
    have z0 : ∀ xs m, (grow w xs m).cell? ⟨f, 0, none⟩ = some (.pointer (some ⟨t, 0, none⟩)) := fun xs m => ((grown w xs m).cell h1 0).trans c0
    have z2 : ∀ xs m, (grow w xs m).cell? ⟨f, 2, none⟩ = some (.int .i64 base) := fun xs m => ((grown w xs m).cell h1 2).trans c2
    have hwr : IntKind.i64.wrap ((base : Int) + ov) = (base : Int) + ov := IntWalk.i64_in _ (by omega)
    clear hl hf hov2
    unfold Gets
    go_enter Tryz.func89, Tryz.ntmps89
    go_wp2_with (go_at_call 155; refine (off_is HO.out a).mono ?_; rintro e w1 ⟨rfl, rfl⟩; rw [HL.out])
    refine wp_region_by (by kernel_rfl) (by kernel_rfl) ?_
    repeat (go_big_quiet_step ((go_at_call 156; have hc := fun xs m => off_before (HO.out.gr (grown w xs m)) a; simp only [HOV.out] at hc; exact Gets.grown (hc _ _))))
    refine wpQuiet_nil ?_
    intro _ hw'
    obtain ⟨⟨xs, nq⟩, hw''⟩ := hw'
    subst hw''
    go_wp2
    go_ret2
    exact ⟨rfl, grown w _ _⟩
  · have HV := hid (toV_no (base := base) hf)
    have HL : Hid ((decide (0 ≤ a) && liveB L a.toNat) = false) := ⟨by rw [hl, decide_eq_false hf]⟩
    rw [HV.out.1, HV.out.2]
    clear hl hf
    unfold Gets
    go_enter Tryz.func89, Tryz.ntmps89
    go_wp2_with (go_at_call 155; refine (off_is HO.out a).mono ?_; rintro e w1 ⟨rfl, rfl⟩; rw [HL.out])
    go_ret2
    exact ⟨rfl, Gr.refl _⟩
set_option maxHeartbeats 800000 in
theorem fwd_top (hF : Fwd w F f n B base L) : Gets Tryz.prog 85 #[.pointer (some ⟨f, 0, none⟩)] w (.int .i64 ((base : Int) + (sizes L : Nat))) := by
  obtain ⟨hg, hn⟩ := hF.good
  have hs := sizes_le hg
  obtain ⟨h1, h2, h3, t, o, p1, b1, p2, b2, c0, c1, c2, hO, -⟩ := hF
  have HO := hid hO
  clear hO hg
  have z0 : ∀ xs m, (grow w xs m).cell? ⟨f, 0, none⟩ = some (.pointer (some ⟨t, 0, none⟩)) := fun xs m => ((grown w xs m).cell h1 0).trans c0
  have z2 : ∀ xs m, (grow w xs m).cell? ⟨f, 2, none⟩ = some (.int .i64 base) := fun xs m => ((grown w xs m).cell h1 2).trans c2
  have hwr : IntKind.i64.wrap ((base : Int) + (sizes L : Nat)) = (base : Int) + (sizes L : Nat) := IntWalk.i64_in _ (by omega)
  unfold Gets
  go_enter Tryz.func85, Tryz.ntmps85
  go_wp2
  refine wp_region_by (by kernel_rfl) (by kernel_rfl) ?_
  repeat (go_big_quiet_step ((go_at_call 149; have hc := fun xs m => off_live (HO.out.gr (grown w xs m)); exact Gets.grown_same (hc _ _))))
  refine wpQuiet_nil ?_
  intro _ hw'
  obtain ⟨⟨xs, nq⟩, hw''⟩ := hw'
  subst hw''
  go_wp2
  go_ret
  exact ⟨rfl, grown w _ _⟩
end
end Go.Proofs.YtbmidhlilafgeaaGreatDoor
end
section
namespace Go.Proofs.YtbmidhlilafgeaaGreatDoor
open Go.RowKit Go.Shelf Word
attribute [local go_sem] Oper.semAt_some

/-- Between two rounds of New. -/
structure FwdI (W0 : World) (o p1 b1 p2 b2 n : Nat) (L : List Ob) (j : Nat) (A : World) : Prop where
  t : Touch (fun i => mine o b1 b2 i ∨ W0.heap.size ≤ i) W0 A
  jl : j ≤ L.length
  ext : Ext A o p1 b1 p2 b2 n (L.take j)
def baseOk (b : Int) : Bool := decide (0 ≤ b) && decide (b < 2147483648)
def NewFwd (w : World) (n : Nat) (L : List Ob) (k b : Int) (e : Ending) (w' : World) : Prop :=
  Gr w w' ∧ (((blockOk k && baseOk b) = false ∧ e = .returned (.tuple #[.pointer none, .int .i64 5])) ∨ ((blockOk k && baseOk b) = true ∧ ∃ f B base : Nat, k = B ∧ b = base ∧ e = .returned (.tuple #[.pointer (some ⟨f, 0, none⟩), .int .i64 0]) ∧ Fwd w' w.heap.size f n B base L))
theorem fwd_new_bad {w : World} {m p1 b1 p2 b2 n : Nat} {L : List Ob} (hE : Ext w m p1 b1 p2 b2 n L) (hT : TabAt w) (k b : Int) (hk : k ≤ 9223372036854775807) (hbad : (blockOk k && baseOk b) = false) :
    Calls Tryz.prog 84 #[.pointer (some ⟨m, 0, none⟩), .int .i64 k, .int .i64 b] w (NewFwd w n L k b) := by
  have HE := hid hE
  have HT := hid hT
  clear hE hT
  have HB := hid hbad
  refine (callsIn_wide (n := 5)).1 ?_
  refine callsIn_of_wp_marks Tryz.func84 rfl trivial ?_ rfl
  simp only [Tryz.ntmps84, List.size_toArray, List.length_cons, List.length_nil, Nat.reduceAdd, Nat.reduceSub, Array.replicate_succ, Array.replicate_zero, List.push_toArray, List.append_toArray, List.nil_append, List.cons_append]
  cases hok : blockOk k with
  | false =>
    have HO := hid hok
    clear hbad hok
    gi_wp2_with (refine ⟨trivial, ?_⟩; gi_at_call 146; refine (callsIn_wide.2 (off_new HE.out HT.out k hk)).mono ?_; rintro e w1 ⟨hg1, ⟨-, rfl⟩ | ⟨hb, -⟩⟩; rotate_left; (rw [HO.out] at hb; cases hb); have HG1 := hid hg1; clear hg1)
    refine ⟨.tuple #[.pointer none, .int .i64 5], ?_, HG1.out, .inl ⟨HB.out, rfl⟩⟩
    simp [results, Tryz.f84, go_sem]
  | true =>
    rw [hok, Bool.true_and] at hbad
    have HO := hid hok
    clear hok
    by_cases h0 : b < 0
    · have d0 : decide (b < 0) = true := decide_eq_true h0
      clear hbad
      gi_wp2_with (refine ⟨trivial, ?_⟩; gi_at_call 146; refine (callsIn_wide.2 (off_new HE.out HT.out k hk)).mono ?_; rintro e w1 ⟨hg1, ⟨hb, -⟩ | ⟨-, t, B, hkB, rfl, hO⟩⟩; (rw [HO.out] at hb; cases hb); have HG1 := hid hg1; clear hg1 hO hkB)
      refine ⟨.tuple #[.pointer none, .int .i64 5], ?_, HG1.out, .inl ⟨HB.out, rfl⟩⟩
      simp [results, Tryz.f84, go_sem]
    · have h1 : 2147483648 ≤ b := by
        unfold baseOk at hbad
        rw [decide_eq_true (by omega), Bool.true_and] at hbad
        have := of_decide_eq_false hbad
        omega
      have d0 : decide (b < 0) = false := decide_eq_false h0
      have d1 : decide ((2147483648 : Int) ≤ b) = true := decide_eq_true h1
      clear hbad
      gi_wp2_with (refine ⟨trivial, ?_⟩; gi_at_call 146; refine (callsIn_wide.2 (off_new HE.out HT.out k hk)).mono ?_; rintro e w1 ⟨hg1, ⟨hb, -⟩ | ⟨-, t, B, hkB, rfl, hO⟩⟩; (rw [HO.out] at hb; cases hb); have HG1 := hid hg1; clear hg1 hO hkB)
      refine ⟨.tuple #[.pointer none, .int .i64 5], ?_, HG1.out, .inl ⟨HB.out, rfl⟩⟩
      simp [results, Tryz.f84, go_sem]
set_option maxRecDepth 100000 in
set_option maxHeartbeats 3200000 in
theorem fwd_new {w : World} {m p1 b1 p2 b2 n : Nat} {L : List Ob} (hE : Ext w m p1 b1 p2 b2 n L) (hT : TabAt w) (k b : Int) (hk : k ≤ 9223372036854775807) :
    Calls Tryz.prog 84 #[.pointer (some ⟨m, 0, none⟩), .int .i64 k, .int .i64 b] w (NewFwd w n L k b) := by
  cases hgo : (blockOk k && baseOk b) with
  | false => exact fwd_new_bad hE hT k b hk hgo
  | true =>
    have HGO := hid hgo
    obtain ⟨hok, hbo⟩ := Bool.and_eq_true_iff.1 hgo
    have hb01 : 0 ≤ b ∧ b < 2147483648 := by unfold baseOk at hbo; simpa using hbo
    obtain ⟨base, rfl⟩ : ∃ base : Nat, b = base := ⟨b.toNat, by omega⟩
    obtain ⟨hb0, hb1⟩ := hb01
    have d0 : decide ((base : Int) < 0) = false := decide_eq_false (by omega)
    have d1 : decide ((2147483648 : Int) ≤ (base : Int)) = false := decide_eq_false (by omega)
    have HO := hid hok
    have HE := hid hE
    have HT := hid hT
    obtain ⟨hn1, hn2⟩ := hE.nb
    have hTl := hT.lt
    clear hE hT hok hbo hgo
    refine (callsIn_wide (n := 5)).1 ?_
    refine callsIn_of_wp_marks Tryz.func84 rfl trivial ?_ rfl
    simp only [Tryz.ntmps84, List.size_toArray, List.length_cons, List.length_nil, Nat.reduceAdd, Nat.reduceSub, Array.replicate_succ, Array.replicate_zero, List.push_toArray, List.append_toArray, List.nil_append, List.cons_append]
    gi_wp2_with (first
      | (refine ⟨trivial, ?_⟩; gi_at_call 146; refine (callsIn_wide.2 (off_new HE.out HT.out k hk)).mono ?_; rintro e w1 ⟨hg1, ⟨hb, -⟩ | ⟨-, t, B, hkB, rfl, hO⟩⟩; (rw [HO.out] at hb; cases hb); have HG1 := hid hg1; have HOT := hid hO; have HKB := hid hkB; clear hg1 hO hkB)
      | (refine ⟨trivial, ?_⟩; gi_at_call 147; refine (callsIn_wide.2 (ext_words (HE.out.gr HG1.out))).mono ?_; rintro e w2 ⟨rfl, rfl⟩)
      | (refine ⟨trivial, ?_⟩; gi_at_call 131; refine (callsIn_wide.2 (ext_new n hn1 hn2 _)).mono ?_; rintro e w2 ⟨o, q1, r1, q2, r2, rfl, hg2, hE2, hx1, hx2, hx3, hx4, hx5⟩; have HG2 := hid hg2; have HE2 := hid hE2; have HX := hid (And.intro hx1 (And.intro hx2 (And.intro hx3 (And.intro hx4 hx5)))); clear hg2 hE2 hx1 hx2 hx3 hx4 hx5)
      | (refine ⟨trivial, ?_⟩; gi_at_call 86; refine (callsIn_wide.2 (all_call (some ⟨m, 0, none⟩))).mono ?_; rintro e w3 ⟨rfl, rfl⟩))
    obtain ⟨X, hX⟩ : ∃ X, X = w2.heap.size := ⟨_, rfl⟩
    obtain ⟨W0, hW0⟩ : ∃ W0, W0 = (w2.alloc (.cells #[.pointer (some ⟨o, 0, none⟩)] 124)).alloc (.cells #[.pointer (some ⟨m, 0, none⟩)] 124) := ⟨_, rfl⟩
    have hg0 : Gr w2 W0 := by rw [hW0]; exact ((Gr.refl w2).alloc _).alloc _
    have hs0 : W0.heap.size = X + 2 := by rw [hW0, hX]; simp
    have e0 : W0.cell? ⟨X, 0, none⟩ = some (.pointer (some ⟨o, 0, none⟩)) := by rw [hW0, hX]; exact ((Boxed.new w2 _ _).alloc _).cell
    have e1 : W0.cell? ⟨X + 1, 0, none⟩ = some (.pointer (some ⟨m, 0, none⟩)) := by
      rw [hW0, hX]
      have := Boxed.new (w2.alloc (.cells #[.pointer (some ⟨o, 0, none⟩)] 124)) 124 (.pointer (some ⟨m, 0, none⟩))
      rw [World.size_alloc] at this
      exact this.cell
    have hz1 := HG1.out.size
    have hz2 := HG2.out.size
    have o1 := HE.out.hm
    have o2 := HE.out.v1.hp
    have o3 := HE.out.v1.hb
    have o4 := HE.out.v2.hp
    have o5 := HE.out.v2.hb
    have j1 := HE2.out.hm
    have j2 := HE2.out.v1.hp
    have j3 := HE2.out.v1.hb
    have j4 := HE2.out.v2.hp
    have j5 := HE2.out.v2.hb
    have hx := HX.out
    rw [← hX] at hz2 j1 j2 j3 j4 j5
    have HG0 := hid ((HG1.out.trans HG2.out).trans hg0)
    have HE0 := hid (HE.out.gr HG0.out)
    have HEO := hid (HE2.out.gr hg0)
    have HOG := hid (HG2.out.trans hg0)
    have hgood := HE.out.good
    have HC0 := hid (And.intro e0 e1)
    have HW1 := hid (show w.heap.size ≤ w1.heap.size from hz1)
    rw [← hW0, ← hX]
    clear hW0 hX hg0 e0 e1
    have hml : ∀ i, mine o r1 r2 i → w1.heap.size ≤ i ∧ i < X := fun i h => by rcases h with rfl | rfl | rfl <;> omega
    have h00 : FwdI W0 o q1 r1 q2 r2 n L 0 W0 := ⟨Touch.refl _ _, Nat.zero_le _, HEO.out⟩
    have tI : ∀ j A B, FwdI W0 o q1 r1 q2 r2 n L j A → Touch (fun i => W0.heap.size ≤ i) A B → FwdI W0 o q1 r1 q2 r2 n L j B := fun j A B h t =>
      ⟨h.t.trans (t.mono (fun i _ h => .inr h)), h.jl, h.ext.touch t (by omega) (by omega) (by omega) (by omega) (by omega)⟩
    refine range_lawT (s0 := 0) rfl (by omega) (gf := 150) (lb := #[.pointer (some ⟨X + 1, 0, none⟩)]) rfl trivial (enters_of Tryz.func150 (by kernel_rfl) rfl)
      (all_seq _ (X + 1) m p1 b1 p2 b2 n L _) (fun _ => rfl)
      (FwdI W0 o q1 r1 q2 r2 n L) (fun _ _ => False) tI (fun _ _ _ h _ => h)
      (fun j A h => ⟨HE0.out.touch h.t (fun h => by rcases h with h | h; have := hml _ h; omega; omega) (fun h => by rcases h with h | h; have := hml _ h; omega; omega) (fun h => by rcases h with h | h; have := hml _ h; omega; omega) (fun h => by rcases h with h | h; have := hml _ h; omega; omega) (fun h => by rcases h with h | h; have := hml _ h; omega; omega),
        (HG0.out.tab HT.out.lt HT.out).touch' h.t (fun h => by rcases h with h | h; have := hml _ h; omega; omega), (h.t.cell (by omega) (fun h => by rcases h with h | h; have := hml _ h; omega; omega) 0).trans HC0.out.2, h.jl⟩)
      h00 ?round ?done (fun _ _ _ _ h _ => h.elim)
    case round =>
      intro lp j x W3 hsz3 hI3 hgv
      dsimp only [encO]
      gi_wp2
      refine ⟨Gr.refl _, fun W4 ht4 hI4 => ?_⟩
      have hjl : j < L.length := by
        rcases Nat.lt_or_ge j L.length with h | h
        · exact h
        · unfold AllGives at hgv; rw [List.getElem?_eq_none h] at hgv; cases hgv
      obtain rfl : x = L[j] := by unfold AllGives at hgv; rw [List.getElem?_eq_getElem hjl] at hgv; exact (Option.some.inj hgv).symm
      have hsz' := hgood.sz _ (List.getElem_mem hjl)
      have HLV := hid (add_next hgood hjl)
      have c6 := (hI4.t.cell (b := X) (by omega) (fun h => by rcases h with h | h; have := hml _ h; omega; omega) 0).trans HC0.out.1
      have HTA := hid ((HG0.out.tab HT.out.lt HT.out).touch' hI4.t (fun h => by rcases h with h | h; have := hml _ h; omega; omega))
      have HI4 := hid hI4
      clear hI4 hI3 ht4 hgv
      gi_wp2_with (refine ⟨trivial, ?_⟩; gi_at_call 148; refine (CallsIn.inRound lp (callsIn_wide.2 (ext_add HI4.out.ext HTA.out _ _))).mono ?_; rintro e w5 ⟨rfl, ht5, hv5⟩)
      rw [HLV.out] at hv5
      exact ⟨ht5.mono (fun i _ h => by have := hml _ h; omega), j + 1, rfl, HI4.out.t.trans (ht5.mono (fun i _ h => .inl h)), by omega, hv5⟩
    case done =>
      rintro D j W3 hD rfl hI3 hK
      have c6 := (hI3.t.cell (b := X) (by omega) (fun h => by rcases h with h | h; have := hml _ h; omega; omega) 0).trans HC0.out.1
      have hE3 := hI3.ext
      rw [List.take_length] at hE3
      have HE3 := hid hE3
      have HS3 := hid ((HOG.out.touch (fun i => w1.heap.size ≤ i)).trans' hI3.t (fun i hi h => by rcases h with h | h; exact (hml _ h).1; omega))
      have HK := hid hK
      have HD := hid hD
      have hg3 : Gr w W3 := ((HG0.out.touch (fun _ => False)).trans' hI3.t (fun i hi h => by rcases h with h | h; have := hml _ h; omega; omega)).gr
      have HG3 := hid hg3
      have hz6 := hI3.t.size
      clear hE3 hI3 hK hD hg3
      gi_wp2
      obtain ⟨O, hO⟩ : ∃ O : Obj, O = .cells #[.pointer (some ⟨t, 0, none⟩), .pointer (some ⟨o, 0, none⟩), .int .i64 base] 195 := ⟨_, rfl⟩
      rw [← hO]
      have hD5 : (W3.alloc O).heap[D]? = some (.deferred (some [])) := (((Gr.refl W3).alloc _).block (Array.getElem?_eq_some_iff.1 HK.out).1).trans HK.out
      have tt := ((HG3.out.alloc O).touch (fun _ => False)).trans' (touch_putObj _ D (.deferred none) (Nat.le_refl D)) (fun i hi h => by have := HD.out; have := HG0.out.size; omega)
      refine ⟨by simp, .inl ⟨_, _, rfl, run_takeDeferred hD5, ?_⟩⟩
      refine ⟨.tuple #[.pointer (some ⟨W3.heap.size, 0, none⟩), .int .i64 0], ?_, tt.gr, .inr ⟨HGO.out, W3.heap.size, B, base, HKB.out, rfl, rfl, ?_⟩⟩
      · simp [results, Tryz.f84, go_sem]
      · have t5 := touch_put1 (W3.alloc O) D (.deferred none)
        have hdl := (Array.getElem?_eq_some_iff.1 HK.out).1
        have hd := HD.out
        have hl : W3.heap.size < (W3.alloc O).heap.size := by rw [World.size_alloc]; omega
        subst hO
        exact ⟨Nat.lt_of_lt_of_le hl t5.size, by omega, by omega, t, o, q1, r1, q2, r2, (t5.cell (b := W3.heap.size) hl (by omega) 0).trans (World.cell?_alloc_new ..), (t5.cell (b := W3.heap.size) hl (by omega) 1).trans (World.cell?_alloc_new ..), (t5.cell (b := W3.heap.size) hl (by omega) 2).trans (World.cell?_alloc_new ..),
          HOT.out.touch ((HS3.out.trans (((Gr.refl W3).alloc _).touch _)).trans' t5 (fun i hi h => by omega)) (fun k _ h1 h2 => by omega), (HE3.out.gr ((Gr.refl _).alloc _)).touch t5 (by omega) (by omega) (by omega) (by omega) (by omega), by omega, by omega, by omega, by omega, by omega⟩
end Go.Proofs.YtbmidhlilafgeaaGreatDoor
end
section
namespace Go.Proofs.YtbmidhlilafgeaaGreatDoor
open Go.RowKit Word

theorem take_snoc {l : List Int} {i : Nat} (h : i < l.length) : l.take (i + 1) = l.take i ++ [l[i]] := by rw [List.take_add_one, List.getElem?_eq_getElem h]; rfl
section
variable {w : World} {S : Nat → Prop} {K M q : Nat} {v v' : Vm} {rs : List Int} {L : List Ob} {to : Nat} {O : List Int} {k i : Nat}
end
end Go.Proofs.YtbmidhlilafgeaaGreatDoor
end
section
section
namespace Go.Proofs.YtbmidhlilafgeaaGreatDoor
open Go.RowKit

section
variable {F : Fence} {n : Nat} {P : Program}
/-- The iterator's contract, as SeqT; its own steps turn K blocks alone, those that it makes first. -/
def SeqU (K : Nat) {σ α : Type} (F : Fence) (n : Nat) (P : Program) (g : Nat) (lb : Array Value) (encs : α → Array Value) (Inv : σ → World → Prop) (gives : σ → α → Prop) (next : σ → α → σ → Prop) (fin : σ → Prop) (s0 : σ) (w : World) : Prop :=
  ∀ (l : Nat) (J : σ → World → Prop) (Jx : World → Prop) (W : World), Gr w W → (∀ s A B, J s A → Touch (fun k => W.heap.size ≤ k ∧ k < W.heap.size + K) A B → J s B) → (∀ A B, Jx A → Touch (fun k => W.heap.size ≤ k ∧ k < W.heap.size + K) A B → Jx B) → (∀ s A, J s A → Inv s A) →
    (∀ s x W1, J s W1 → W.heap.size + K ≤ W1.heap.size → gives s x → YieldAt F (n - 1) P l (encs x) W1 fun e W' => ((e = .returned (.bool true) ∧ ∃ s', next s x s' ∧ J s' W') ∨ (e = .returned (.bool false) ∧ Jx W')) ∧ Touch (fun k => k < W.heap.size ∨ W.heap.size + K ≤ k) W1 W') →
    J s0 W → CallsIn F n P g (#[.func (.yield l) #[] #[]] ++ lb) W fun e W' => (∃ v, e = .returned v) ∧ ((∃ s, fin s ∧ J s W') ∨ Jx W')
/-- What a round must come to. -/
def roundEndU {σ α : Type} (B K : Nat) (I : σ → World → Prop) (Ix : Code → World → Prop) (next : σ → α → σ → Prop) (s : σ) (x : α) (W : World) : Exit → Act → World → Prop
  | .normal, _, W' => Touch (fun k => k < B ∨ B + K ≤ k) W W' ∧ ∃ s', next s x s' ∧ I s' W'
  | .ret, _, W' => Touch (fun k => k < B ∨ B + K ≤ k) W W' ∧ Ix .ret W'
  | .exit id, _, W' => Touch (fun k => k < B ∨ B + K ≤ k) W W' ∧ Ix (.exit id) W'
  | .goto t, _, W' => Touch (fun k => k < B ∨ B + K ≤ k) W W' ∧ Ix (.goto t) W'
  | _, _, _ => False
theorem SeqS.toU {σ α : Type} {g : Nat} {lb : Array Value} {encs : α → Array Value} {Inv : σ → World → Prop} {gives : σ → α → Prop} {next : σ → α → σ → Prop} {fin : σ → Prop} {s0 : σ} {w : World} (h : SeqS F n P g lb encs Inv gives next fin s0 w) : SeqU 0 F n P g lb encs Inv gives next fin s0 w := by
  intro l J Jx W hg hJ hJx hI hY h0
  refine h l (fun s A => J s A ∧ W.heap.size ≤ A.heap.size) Jx W hg (fun s A B hs hAB => ⟨hJ s A B hs.1 (hAB.touch _), Nat.le_trans hs.2 hAB.size⟩) (fun A B hs hAB => hJx A B hs (hAB.touch _)) (fun s A hs => hI s A hs.1) ?_ ⟨h0, Nat.le_refl _⟩ |>.mono ?_
  · rintro s x W1 ⟨hs, hsz⟩ hx
    refine (hY s x W1 hs hsz hx).mono ?_
    rintro e W' ⟨⟨he, s', hn, hJ'⟩ | ⟨he, hx'⟩, ht⟩
    · exact .inl ⟨he, s', hn, hJ', Nat.le_trans hsz ht.size⟩
    · exact .inr ⟨he, hx'⟩
  · rintro e W' ⟨hv, ⟨s, hs, hJ', _⟩ | hx⟩
    · exact ⟨hv, .inl ⟨s, hs, hJ'⟩⟩
    · exact ⟨hv, .inr hx⟩
theorem range_lawU {σ α : Type} {g : Operand} {ps : Array Tmp} {assign body : Code} {Q : Exit → Act → World → Prop} {a : Act} {w : World}
    (hro : F.round = none) (h1 : 1 ≤ n) {gf : Nat} {lb : Array Value} (hg : a.eval g = .func (.func gf) #[] lb) (hFg : F.fn gf) (eg : ∀ args w, (callFunc gf args).run P w = .ok (.enter gf args) w)
    {encs : α → Array Value} {Inv : σ → World → Prop} {gives : σ → α → Prop} {next : σ → α → σ → Prop} {fin : σ → Prop} {s0 : σ} {K : Nat} (hseq : SeqU K F (n - 1) P gf lb encs Inv gives next fin s0 w)
    (hps : ∀ x, (encs x).size = ps.size)
    (I : σ → World → Prop) (Ix : Code → World → Prop) (hI : ∀ s A B, I s A → Touch (fun k => w.heap.size ≤ k ∧ k < w.heap.size + 2 + K) A B → I s B) (hIx : ∀ c A B, Ix c A → Touch (fun k => w.heap.size ≤ k ∧ k < w.heap.size + 2 + K) A B → Ix c B)
    (hInv : ∀ s A, I s A → Inv s A) (h0 : I s0 w)
    (hround : ∀ (l : Nat) (s : σ) (x : α) (W : World), w.heap.size + 2 + K ≤ W.heap.size → I s W → gives s x →
      assign.wpIn (F.inRound l) (n - 1 - 1) P (Exit.then (fun a' Wa => Gr W Wa ∧ ∀ W2, Touch (fun k => k = w.heap.size + 1) Wa W2 → I s W2 → body.wpIn (F.inRound l) (n - 1 - 1) P (roundEndU w.heap.size (2 + K) I Ix next s x W2) a' W2) (fun _ _ _ => False))
        { tmps := (ps.zip (encs x)).foldl (fun t (p, v) => t.setIfInBounds p v) a.tmps, defers := [] } W)
    (hdone : ∀ (D : Nat) (s : σ) (W : World), D = w.heap.size → fin s → I s W → W.heap[D]? = some (.deferred (some [])) → Q .normal { a with defers := { target := .collected D, args := #[] } :: a.defers } W)
    (hstop : ∀ (D : Nat) (c : Code) (W : World), D = w.heap.size → Ix c W → W.heap[D]? = some (.deferred (some [])) → c.wpIn F n P Q { a with defers := { target := .collected D, args := #[] } :: a.defers } W) :
    (Code.rangeFunc g ps assign body).wpIn F n P Q a w := by
  refine wpIn_rangeFunc ?_
  intro fn hfn
  rw [hro]
  obtain ⟨rec, hrec⟩ : ∃ rec : LoopState → Option Code → Loop, rec = fun st pe => { state := st, pending := pe, fn, tmps := a.tmps, params := ps, assign, body, defers := w.heap.size } := ⟨_, rfl⟩
  obtain ⟨W1, hW1⟩ : ∃ W1, (w.alloc (.deferred (some []))).alloc (.loop (rec .ready none)) = W1 := ⟨_, rfl⟩
  have hL1 : W1.heap[w.heap.size + 1]? = some (.loop (rec .ready none)) := by
    rw [← hW1]; have := World.alloc_heap_new (w.alloc (.deferred (some []))) (.loop (rec .ready none)); rwa [World.size_alloc] at this
  have hK1 : W1.heap[w.heap.size]? = some (.deferred (some [])) := by
    rw [← hW1]; exact (Below.heap_alloc _ _ _ (by simp)).trans (World.alloc_heap_new w _)
  have hg1 : Gr w W1 := by rw [← hW1]; exact ((Gr.refl w).alloc _).alloc _
  have tt : ∀ {A B : World}, Gr A B → Touch (fun k => w.heap.size ≤ k ∧ k < w.heap.size + 2 + K) A B := fun h => h.touch _
  have lt_of : ∀ {A : World} {k : Nat} {o : Obj}, A.heap[k]? = some o → k < A.heap.size := fun h => (Array.getElem?_eq_some_iff.1 h).1
  refine ⟨w.heap.size + 1, [{ target := .collected w.heap.size, args := #[] }], W1, { target := .fn (.func gf) lb, args := #[.func (.yield (w.heap.size + 1)) #[] #[]] }, W1, gf,
    #[.func (.yield (w.heap.size + 1)) #[] #[]] ++ lb, W1, ?_, ?_, ?_, ?_, fun _ => h1, ?_⟩
  · rw [← hW1, hrec]; exact run_enterLoop_outer _ _ _ _ _
  · simp only [resolve, hg]
    simp [go_sem]
  · intro f' hf'; simp [Target.leads] at hf'; subst hf'; exact hFg
  · simp [invoke, go_sem, eg]
  · have hs1 : W1.heap.size = w.heap.size + 2 := by rw [← hW1]; simp
    refine (hseq (w.heap.size + 1)
      (fun s W => I s W ∧ W.heap[w.heap.size + 1]? = some (.loop (rec .ready none)) ∧ W.heap[w.heap.size]? = some (.deferred (some [])))
      (fun W => ∃ c, Ix c W ∧ W.heap[w.heap.size + 1]? = some (.loop (rec .done (some c))) ∧ W.heap[w.heap.size]? = some (.deferred (some [])))
      W1 hg1
      (fun s A B hs ht => ⟨hI s A B hs.1 (ht.mono (fun k _ h => by omega)), (ht.block _ (lt_of hs.2.1) (by omega)).trans hs.2.1, (ht.block _ (lt_of hs.2.2) (by omega)).trans hs.2.2⟩)
      (fun A B hs ht => by
        obtain ⟨c, hc, hl, hk⟩ := hs
        exact ⟨c, hIx c A B hc (ht.mono (fun k _ h => by omega)), (ht.block _ (lt_of hl) (by omega)).trans hl, (ht.block _ (lt_of hk) (by omega)).trans hk⟩)
      (fun s A hs => hInv s A hs.1) ?_ ⟨hI _ _ _ h0 (tt hg1), hL1, hK1⟩).mono ?_
    · rintro s x W ⟨hi, hl, hk⟩ hszW hgv
      have hlt : w.heap.size + 1 < W.heap.size := lt_of hl
      have hy := run_yield (P := P) (args := encs x) hl (by rw [hrec]; exact hps x)
      rw [hrec] at hy
      refine ⟨fn, _, assign, body, hy, roundIn_of_wpIn hfn (wpIn_mono (hround _ s x W (by omega) hi hgv) ?_)⟩
      rintro e a' Wa hp
      cases e with
      | normal => ?_
      | _ => exact False.elim hp
      obtain ⟨hga, hbody⟩ := hp
      replace hl := (hga.block hlt).trans hl
      replace hk := (hga.block (by omega)).trans hk
      replace hlt := lt_of hl
      replace hi := hI _ _ _ hi (tt hga)
      clear hy
      revert hbody hga
      generalize W = W0
      intro hga hbody
      obtain ⟨W, rfl⟩ : ∃ W, W = Wa := ⟨_, rfl⟩
      refine ⟨_, run_beginRound hl (by rw [hrec]), ?_⟩
      have hl2 : (W.putObj (w.heap.size + 1) (.loop { rec .ready none with state := .busy })).heap[w.heap.size + 1]? = some (.loop { rec .ready none with state := .busy }) := World.putObj_heap_same hlt
      have hk2 : (W.putObj (w.heap.size + 1) (.loop { rec .ready none with state := .busy })).heap[w.heap.size]? = some (.deferred (some [])) := (World.putObj_heap_other (by omega)).trans hk
      refine wpIn_mono (hbody _ ⟨rfl, rfl, rfl, by simp, fun k _ hn => World.putObj_heap_other hn⟩ (hI _ _ _ hi ((touch_put1 W (w.heap.size + 1) _).mono (fun k _ h => by omega)))) ?_
      have fin : ∀ (jump : Option Code) (W3 : World), Touch (fun k => k < w.heap.size ∨ w.heap.size + (2 + K) ≤ k) (W.putObj (w.heap.size + 1) (.loop { rec .ready none with state := .busy })) W3 →
          (Instr.endRound (w.heap.size + 1) jump).run P W3 = .ok (.bool jump.isNone) (W3.putObj (w.heap.size + 1) (.loop (rec (if jump.isNone then .ready else .done) jump))) ∧
          (W3.putObj (w.heap.size + 1) (.loop (rec (if jump.isNone then .ready else .done) jump))).heap[w.heap.size + 1]? = some (.loop (rec (if jump.isNone then .ready else .done) jump)) ∧
          (W3.putObj (w.heap.size + 1) (.loop (rec (if jump.isNone then .ready else .done) jump))).heap[w.heap.size]? = some (.deferred (some [])) := fun jump W3 hk3 => by
        have hl3 := (hk3.block _ (lt_of hl2) (by omega)).trans hl2
        have := run_endRound (P := P) jump hl3
        rw [hrec] at this ⊢
        exact ⟨this, World.putObj_heap_same (lt_of hl3), (World.putObj_heap_other (by omega)).trans ((hk3.block _ (lt_of hk2) (by omega)).trans hk2)⟩
      have tch : ∀ (o : Obj) (W3 : World), Touch (fun k => k < w.heap.size ∨ w.heap.size + (2 + K) ≤ k) (W.putObj (w.heap.size + 1) (.loop { rec .ready none with state := .busy })) W3 → Touch (fun k => k < W1.heap.size ∨ W1.heap.size + K ≤ k) W0 (W3.putObj (w.heap.size + 1) o) := fun o W3 h3 =>
        (((hga.touch _).trans ((touch_put1 W (w.heap.size + 1) _).mono (fun k _ h => by omega))).trans (h3.mono (fun k _ h => by omega))).trans ((touch_put1 W3 (w.heap.size + 1) o).mono (fun k _ h => by omega))
      rintro e a3 W3 hp
      cases e with
      | normal =>
        obtain ⟨hk3, s', hn3, hi3⟩ := hp
        obtain ⟨hr, hl4, hk4⟩ := fin none W3 hk3
        exact ⟨_, _, hr, .inl ⟨rfl, s', hn3, hI _ _ _ hi3 ((touch_put1 W3 (w.heap.size + 1) _).mono (fun k _ h => by omega)), hl4, hk4⟩, tch _ _ hk3⟩
      | ret =>
        obtain ⟨hk3, hi3⟩ := hp
        obtain ⟨hr, hl4, hk4⟩ := fin (some .ret) W3 hk3
        exact ⟨_, _, hr, .inr ⟨rfl, .ret, hIx _ _ _ hi3 ((touch_put1 W3 (w.heap.size + 1) _).mono (fun k _ h => by omega)), hl4, hk4⟩, tch _ _ hk3⟩
      | exit id =>
        obtain ⟨hk3, hi3⟩ := hp
        obtain ⟨hr, hl4, hk4⟩ := fin (some (.exit id)) W3 hk3
        exact ⟨_, _, hr, .inr ⟨rfl, .exit id, hIx _ _ _ hi3 ((touch_put1 W3 (w.heap.size + 1) _).mono (fun k _ h => by omega)), hl4, hk4⟩, tch _ _ hk3⟩
      | goto t =>
        obtain ⟨hk3, hi3⟩ := hp
        obtain ⟨hr, hl4, hk4⟩ := fin (some (.goto t)) W3 hk3
        exact ⟨_, _, hr, .inr ⟨rfl, .goto t, hIx _ _ _ hi3 ((touch_put1 W3 (w.heap.size + 1) _).mono (fun k _ h => by omega)), hl4, hk4⟩, tch _ _ hk3⟩
      | panic ch => exact hp.elim
      | outgrown => exact hp.elim
    · rintro e W2 ⟨⟨v, rfl⟩, (⟨s, hS, hi, hl, hk⟩ | ⟨c, hi, hl, hk⟩)⟩
      · exact ⟨none, _, by have := run_endLoop (P := P) hl (by rw [hrec]; simp); rw [hrec] at this; exact this, hdone _ s _ rfl hS (hI _ _ _ hi ((touch_put1 W2 (w.heap.size + 1) _).mono (fun k _ h => by omega))) ((World.putObj_heap_other (by omega)).trans hk)⟩
      · exact ⟨some c, _, by have := run_endLoop (P := P) hl (by rw [hrec]; simp); rw [hrec] at this; exact this, hstop _ c _ rfl (hIx _ _ _ hi ((touch_put1 W2 (w.heap.size + 1) _).mono (fun k _ h => by omega))) ((World.putObj_heap_other (by omega)).trans hk)⟩
end
end Go.Proofs.YtbmidhlilafgeaaGreatDoor
end

section
namespace Go.Proofs.YtbmidhlilafgeaaGreatDoor
open Go.RowKit Go.Shelf Word
attribute [local go_sem] Oper.semAt_some

set_option maxRecDepth 100000 in
set_option maxHeartbeats 3200000 in
theorem all_seqU (n' : Nat) (box m p1 b1 p2 b2 n : Nat) (L : List Ob) (w : World) :
    SeqU 4 Fence.wide n' Tryz.prog 150 #[.pointer (some ⟨box, 0, none⟩)] encO (AllInv box m p1 b1 p2 b2 n L) (AllGives L) (fun j _ j' => j' = j + 1) (fun j => j = L.length) 0 w := by
  intro l J Jx W hg hJ hJx hI hY h0
  refine callsIn_wide.2 ((callsIn_wide (n := 5)).1 ?_)
  refine callsIn_of_wp_marks Tryz.func150 rfl trivial ?_ rfl
  have hi0 := hI _ _ h0
  have c0 := hi0.2.2.1
  have k0 := hi0.1.c0
  have HI0 := hid hi0
  have HJ0 := hid h0
  have HII := hid hI
  clear hi0 h0 hI
  simp only [Tryz.ntmps150, List.size_toArray, List.length_cons, List.length_nil, Nat.reduceAdd, Nat.reduceSub, Array.replicate_succ, Array.replicate_zero, List.push_toArray, List.append_toArray, List.nil_append, List.cons_append]
  have hbox : box < W.heap.size := lt_cell c0
  have hmw := HI0.out.1.hm
  gi_wp2_with (first
    | (refine ⟨trivial, ?_⟩; gi_at_call 151; refine (callsIn_wide.2 (ext_none (HI0.out.1.gr ((Gr.refl W).alloc _)))).mono ?_; rintro e w1 ⟨rfl, rfl⟩)
    | (refine ⟨trivial, ?_⟩; gi_at_call 152; refine (callsIn_wide.2 (ones_call (some ⟨p1, 0, none⟩))).mono ?_; rintro e w1 ⟨rfl, rfl⟩))
  obtain ⟨W0, hW0⟩ : ∃ W0, W0 = (W.alloc (.cells #[.func (.yield l) #[] #[]] 56)).alloc (.cells #[.pointer (some ⟨p1, 0, none⟩)] 198) := ⟨_, rfl⟩
  have hg0 : Gr W W0 := by rw [hW0]; exact ((Gr.refl W).alloc _).alloc _
  have hsz0 : W0.heap.size = W.heap.size + 2 := by rw [hW0]; simp
  have bY : W0.cell? ⟨W.heap.size, 0, none⟩ = some (.func (.yield l) #[] #[]) := by rw [hW0]; exact ((Boxed.new W _ _).alloc _).cell
  have bV : W0.cell? ⟨W.heap.size + 1, 0, none⟩ = some (.pointer (some ⟨p1, 0, none⟩)) := by
    rw [hW0]
    have := Boxed.new (W.alloc (.cells #[.func (.yield l) #[] #[]] 56)) 198 (.pointer (some ⟨p1, 0, none⟩))
    rw [World.size_alloc] at this
    exact this.cell
  rw [← hW0]
  have hgood := HI0.out.1.good
  have hnb := HI0.out.1.nb
  have hJ00 : J 0 W0 := hJ _ _ _ HJ0.out (hg0.touch _)
  have HH0 := hid hW0
  clear hW0 c0 k0
  have hn0 : nextO L ((0 : Nat) : Int) = 0 := nextO_eq (Nat.zero_le _) (fun i hi h => by omega) (fun h => by omega)
  have tI : ∀ s A B, InAll n L J W.heap.size (W.heap.size + 1) p1 (.func (.yield l) #[] #[]) s A → Touch (fun k => W0.heap.size ≤ k ∧ k < W0.heap.size + 2 + 0) A B → InAll n L J W.heap.size (W.heap.size + 1) p1 (.func (.yield l) #[] #[]) s B := fun s A B h t =>
    ⟨h.st, h.ps, by obtain ⟨j, hj, e⟩ := h.j; exact ⟨j, hJ _ _ _ hj (t.mono (fun k _ h => by omega)), e⟩, (t.cell (lt_cell h.y) (by show ¬ (W0.heap.size ≤ W.heap.size ∧ _); omega) 0).trans h.y, (t.cell (lt_cell h.v) (by show ¬ (W0.heap.size ≤ W.heap.size + 1 ∧ _); omega) 0).trans h.v⟩
  refine range_lawU (K := 0) (s0 := (startsL n L, 0)) rfl (by omega) (gf := 197) (lb := #[.pointer (some ⟨W.heap.size + 1, 0, none⟩)]) rfl trivial (enters_of Tryz.func197 (by kernel_rfl) rfl)
    (ones_seq _ (W.heap.size + 1) p1 b1 n (startsL n L) _).toU (fun _ => rfl)
    (InAll n L J W.heap.size (W.heap.size + 1) p1 (.func (.yield l) #[] #[])) (fun c A => c = .ret ∧ Jx A) tI (fun c A B h t => ⟨h.1, hJx _ _ h.2 (t.mono (fun k _ h => by omega))⟩)
    (fun s A h => by
      obtain ⟨j, hj, -⟩ := h.j
      have hi := HII.out _ _ hj
      exact ⟨by rw [h.st]; exact hi.1.v1, by rw [h.st, startsL_len], hi.2.1, h.v, h.ps⟩)
    ⟨rfl, Nat.zero_le _, ⟨0, hJ00, hn0⟩, bY, bV⟩ ?round ?done ?stop
  case round =>
    intro lp s x W3 hsz3 hI3 hgv
    gi_wp2
    refine ⟨Gr.refl _, fun W4 ht4 hI4 => ?_⟩
    obtain ⟨hst, hps, ⟨j, hj, hnx⟩, hy, hv⟩ := hI4
    obtain ⟨hx, hlt⟩ := hgv
    have hi4 := HII.out _ _ hj
    rw [hst] at hx hlt
    have hjl : j < L.length := by
      rcases Nat.lt_or_ge j L.length with h | h
      · exact h
      · have := next_start_no hgood (a := (s.2 : Int)) (by rw [hnx]; omega)
        omega
    have hxj : x = L[j].1 := by
      have := (next_start_yes hgood (a := (s.2 : Int)) (by rw [hnx]; exact hjl)).1
      rw [hx, this]; congr 2
    subst hxj
    have hJd : J j W4.drew := hJ _ _ _ hj ((Gr.refl W4).drew.touch _)
    have hsz4 : W.heap.size + 4 ≤ W4.drew.heap.size := by have := ht4.size; show W.heap.size + 4 ≤ W4.heap.size; omega
    obtain ⟨fn, tmps, assign, body, hyy, hR⟩ := yieldAt_wide (m' := 2) (l2 := lp) (hY j L[j] W4.drew hJd hsz4 (List.getElem?_eq_getElem hjl))
    have HZ := hid (ext_size (hi4.1.gr (Gr.refl W4).drew) ((Gr.refl W4).drew.tab hi4.2.1.lt hi4.2.1) hjl)
    have cbx := hi4.2.2.1
    have hbxs := hsz0
    have HS := hid (And.intro hst (And.intro hnx hjl))
    clear hst hnx hj hi4 hx hlt hI3
    dsimp only [encO] at hyy
    have hR2 := hR.mono (R' := fun e W' => ∃ bb : Bool, e = .returned (.bool bb) ∧ ((bb = true ∧ J (j + 1) W') ∨ (bb = false ∧ Jx W')) ∧ Touch (fun k => k < W.heap.size ∨ W.heap.size + 4 ≤ k) W4.drew W') (by
      rintro e W' ⟨⟨he, s', rfl, hs'⟩ | ⟨he, hx⟩, ht⟩
      · exact ⟨true, he, .inl ⟨rfl, hs'⟩, ht⟩
      · exact ⟨false, he, .inr ⟨rfl, hx⟩, ht⟩)
    clear hR
    gi_wp2
    obtain ⟨Sx, hSx⟩ : ∃ S : World → Prop, S = fun A => A.cell? ⟨W.heap.size, 0, none⟩ = some (.func (.yield l) #[] #[]) := ⟨_, rfl⟩
    have x1 : ∀ p : Held Sx, p.w.cell? ⟨W.heap.size, 0, none⟩ = some (.func (.yield l) #[] #[]) := fun p => Held.get hSx p
    have hS0 : Sx W4.drew := by rw [hSx]; exact hy
    have HSx := hid hSx
    clear hSx
    have inst : Inhabited (Held Sx) := ⟨⟨_, hS0⟩⟩
    refine wpIn_region_mixS Sx 7 [([0, 1, 3], 2), ([], 4), ([], 5)] [6] (fun _ => trivial) (by kernel_rfl) (by kernel_rfl) hS0 ?_
    refine segsIn_step ?_
    simp only [opsAt, List.getElem?_cons_zero, List.getElem?_cons_succ]
    repeat (go_big_quiet_step (fail))
    refine wpQuiet_nil ?_
    gi_wp2
    refine ⟨.inr (Held.of hS0), ?_⟩
    refine segsIn_step ?_
    simp only [opsAt, List.getElem?_cons_zero, List.getElem?_cons_succ]
    refine wpQuiet_nil ?_
    gi_wp2_with (refine ⟨trivial, ?_⟩; gi_at_call 153; refine (CallsIn.inRound lp (callsIn_wide.2 HZ.out)).mono ?_; rintro e w' ⟨rfl, rfl⟩)
    refine ⟨.inr (Held.of hS0), ?_⟩
    refine segsIn_step ?_
    simp only [opsAt, List.getElem?_cons_zero, List.getElem?_cons_succ]
    refine wpQuiet_nil ?_
    gi_wp2
    refine hR2.mono ?_
    rintro e W5 ⟨bb, rfl, hor, ht5⟩
    have hy5 := (ht5.cell (lt_cell hy) (by show ¬ (W.heap.size < W.heap.size ∨ W.heap.size + 4 ≤ W.heap.size); omega) 0).trans hy
    have hv5 := (ht5.cell (lt_cell hv) (by show ¬ (W.heap.size + 1 < W.heap.size ∨ W.heap.size + 4 ≤ W.heap.size + 1); omega) 0).trans hv
    gi_wp2
    refine ⟨.inr (Held.of (by rw [HSx.out]; exact hy5)), ?_⟩
    refine segsIn_end ?_
    simp only [opsAt, List.getElem?_cons_zero, List.getElem?_cons_succ]
    repeat (go_big_quiet_step (fail))
    refine wpQuiet_nil ?_
    refine NoPanic.normal ?_
    have T5 := hid (((Gr.refl W4).drew.touch (fun k => k < W0.heap.size ∨ W0.heap.size + (2 + 0) ≤ k)).trans (ht5.mono (fun k _ h => by omega)))
    have HSZ := hid (hgood.sz _ (List.getElem_mem hjl))
    clear x1 hS0 HSx inst hR2 ht5
    clear Sx
    cases bb with
    | true =>
      have hJ5 : J (j + 1) W5 := by
        rcases hor with ⟨_, h⟩ | ⟨h, _⟩
        · exact h
        · cases h
      have HJ5 := hid hJ5
      clear hor hJ5
      gi_wp2
      exact ⟨T5.out, (startsL n L, L[j].1 + 1), rfl, rfl, by have := HSZ.out; show L[j].1 + 1 ≤ n; omega, ⟨j + 1, HJ5.out, by have := next_succ_ob hgood hjl; push_cast; exact this⟩, hy5, hv5⟩
    | false =>
      have hJ5 : Jx W5 := by
        rcases hor with ⟨h, _⟩ | ⟨_, h⟩
        · cases h
        · exact h
      have HJ5 := hid hJ5
      clear hor hJ5
      gi_wp2
      exact ⟨T5.out, rfl, HJ5.out⟩
  case done =>
    rintro D s W3 hD hfin hI3 hK
    obtain ⟨hst, hps, ⟨j, hj, hnx⟩, hy, hv⟩ := hI3
    have hjl : ¬ j < L.length := fun h => by
      have := next_start_yes hgood (a := (s.2 : Int)) (by rw [hnx]; exact h)
      unfold OnesFin at hfin
      rw [hst] at hfin
      exact hfin this.2
    have hje : j = L.length := by have := nextO_le L (s.2 : Int); omega
    have HE := hid (And.intro hje hj)
    have HK := hid hK
    have HD := hid hD
    clear hst hps hnx hy hv hfin hje hj hK hD hjl
    gi_wp2
    refine ⟨by simp, .inl ⟨_, _, rfl, run_takeDeferred HK.out, ?_⟩⟩
    refine ⟨.tuple #[], results_none rfl _ _ _, ⟨_, rfl⟩, .inl ⟨j, HE.out.1, hJ _ _ _ HE.out.2 ((touch_put1 W3 D _).mono (fun k _ h => by have := HD.out; omega))⟩⟩
  case stop =>
    rintro D c W3 hD ⟨rfl, hx⟩ hK
    have HE := hid hx
    have HK := hid hK
    have HD := hid hD
    clear hx hK hD
    gi_wp2
    refine ⟨by simp, .inl ⟨_, _, rfl, run_takeDeferred HK.out, ?_⟩⟩
    refine ⟨.tuple #[], results_none rfl _ _ _, ⟨_, rfl⟩, .inr (hJx _ _ HE.out ((touch_put1 W3 D _).mono (fun k _ h => by have := HD.out; omega)))⟩
end Go.Proofs.YtbmidhlilafgeaaGreatDoor
end
end
