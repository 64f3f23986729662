/- rank's Pick, whole. -/
import Derived.Test.YtlbbkpjfoabobaaDoorRankC
namespace Go.Proofs.YtlbbkpjfoabobaaDoor
open Go.RowKit Word

/-- The number of the last block that begins at or below the k-th one. -/
theorem block_of (l : List Bool) {B k : Nat} (hB : 1 ≤ B) (hk : k < cnt (at_ l) l.length) :
    ∃ j, first (fun i => decide (k < cnt (at_ l) (i * B))) (nbl l.length B) = j + 1 ∧ j < nbl l.length B ∧ cnt (at_ l) (j * B) ≤ k := by
  obtain ⟨f, hf⟩ : ∃ f, f = first (fun i => decide (k < cnt (at_ l) (i * B))) (nbl l.length B) := ⟨_, rfl⟩
  have hle : f ≤ nbl l.length B := by rw [hf]; exact first_le _ _
  have hn : 0 < l.length := by
    rcases Nat.eq_zero_or_pos l.length with h | h
    · rw [h, cnt_zero] at hk; omega
    · exact h
  have hN : 0 < nbl l.length B := (nbl_lt hB).2 (by omega)
  have h0 : f ≠ 0 := fun h => by
    have := first_at (fun i => decide (k < cnt (at_ l) (i * B))) (nbl l.length B) (by rw [← hf, h]; exact hN)
    rw [← hf, h] at this
    simp [cnt_zero] at this
  obtain ⟨j, rfl⟩ : ∃ j, f = j + 1 := ⟨f - 1, by omega⟩
  refine ⟨j, hf.symm, by omega, ?_⟩
  have := first_not (fun i => decide (k < cnt (at_ l) (i * B))) (nbl l.length B) j (by rw [← hf]; omega)
  simpa using this

theorem box2 {w : World} (u v : Value) (T1 T2 : TypeId) :
    Gr w ((w.alloc (.cells #[u] T1)).alloc (.cells #[v] T2)) ∧ ((w.alloc (.cells #[u] T1)).alloc (.cells #[v] T2)).cell? ⟨w.heap.size, 0, none⟩ = some u ∧ ((w.alloc (.cells #[u] T1)).alloc (.cells #[v] T2)).cell? ⟨w.heap.size + 1, 0, none⟩ = some v := by
  refine ⟨((Gr.refl w).alloc _).alloc _, ?_, ?_⟩
  · rw [World.cell?_alloc_lt (h := by simp)]; exact World.cell?_alloc_new ..
  · have h := World.cell?_alloc_new (w := w.alloc (.cells #[u] T1)) (c := #[v]) (t := T2) (i := 0)
    rw [World.size_alloc] at h
    exact h
set_option maxRecDepth 100000 in
set_option maxHeartbeats 1600000 in
theorem rank_pick_low {w : World} (x : Nat) (q : Int) (hq : q < 0) : Gets Tryd.prog 37 #[.pointer (some ⟨x, 0, none⟩), .int .i64 q] w (.tuple #[.int .i64 0, .bool false]) := by
  have d0 : decide (q < 0) = true := by simp [hq]
  unfold Gets
  go_enter Tryd.func37, Tryd.ntmps37
  go_upto_region 1 with (fail)
  obtain ⟨hg, c1, c2⟩ := box2 (w := w) (.pointer (some ⟨x, 0, none⟩)) (.int .i64 q) 52 3
  generalize (w.alloc (.cells #[.pointer (some ⟨x, 0, none⟩)] 52)).alloc (.cells #[.int .i64 q] 3) = W2 at *
  go_quiet (fail)
  go_wp2
  go_ret2
  exact ⟨ret2 rfl rfl, hg.drewN _⟩
theorem rank_pick_nil {w : World} (q : Int) : Gets Tryd.prog 37 #[.pointer none, .int .i64 q] w (.tuple #[.int .i64 0, .bool false]) := by
  unfold Gets
  go_enter Tryd.func37, Tryd.ntmps37
  go_upto_region 1 with (fail)
  obtain ⟨hg, c1, c2⟩ := box2 (w := w) (.pointer none) (.int .i64 q) 52 3
  generalize (w.alloc (.cells #[.pointer none] 52)).alloc (.cells #[.int .i64 q] 3) = W2 at *
  go_quiet (fail)
  go_wp2
  go_ret2
  exact ⟨ret2 rfl rfl, hg.drewN _⟩
set_option maxRecDepth 100000 in
set_option maxHeartbeats 1600000 in
theorem rank_pick_high {w : World} {x p b a : Nat} {l : List Bool} {B : Nat} (hX : Idx w x p b a l B) (q : Nat) (hq : cnt (at_ l) l.length ≤ q) :
    Gets Tryd.prog 37 #[.pointer (some ⟨x, 0, none⟩), .int .i64 q] w (.tuple #[.int .i64 0, .bool false]) := by
  obtain ⟨N, hN⟩ : ∃ N, N = cnt (at_ l) l.length := ⟨_, rfl⟩
  have k3 := hX.c3
  rw [← hN] at k3 hq
  have hx := hX.hx
  have d0 : decide ((q : Int) < 0) = false := by simp
  have d1 : decide (N ≤ q) = true := by simp [hq]
  clear hX hN hq
  unfold Gets
  go_enter Tryd.func37, Tryd.ntmps37
  go_upto_region 1 with (fail)
  obtain ⟨hg, c1, c2⟩ := box2 (w := w) (.pointer (some ⟨x, 0, none⟩)) (.int .i64 q) 52 3
  generalize (w.alloc (.cells #[.pointer (some ⟨x, 0, none⟩)] 52)).alloc (.cells #[.int .i64 q] 3) = W2 at *
  have c3 := (hg.cell hx 3).trans k3
  go_quiet (fail)
  go_wp2
  go_ret2
  exact ⟨ret2 rfl rfl, hg.drewN _⟩
theorem call_pick1 (args : Array Value) (W : World) : (callFunc 88 args).run Tryd.prog W = .ok (.enter 88 args) W := by kernel_rfl
set_option maxRecDepth 100000 in
set_option maxHeartbeats 1600000 in
theorem rank_pick_in {w : World} {x p b a : Nat} {l : List Bool} {B : Nat} (hX : Idx w x p b a l B) (hT : TabAt w) (k : Nat) (hk : k < cnt (at_ l) l.length) :
    Gets Tryd.prog 37 #[.pointer (some ⟨x, 0, none⟩), .int .i64 k] w (.tuple #[.int .i64 (pickL l k : Nat), .bool true]) := by
  have HX := hid hX
  have HT := hid hT
  have HK := hid hk
  obtain ⟨j, hj1, hj2, hj3⟩ := block_of l hX.b1 hk
  obtain ⟨N, hN⟩ : ∃ N, N = cnt (at_ l) l.length := ⟨_, rfl⟩
  have k0 := hX.c0
  have k2 := hX.c2
  have k3 := hX.c3
  obtain ⟨cap, k1⟩ := hX.c1
  have ka := hX.ca j hj2
  have hx := hX.hx
  have n2 := hX.vec.n2
  have hNb := nbl_le (n := l.length) hX.b1
  have hb2 := hX.b2
  rw [← hN] at k3
  have hNk : k < N := by rw [hN]; exact hk
  have hNl : N ≤ l.length := by rw [hN]; exact cnt_le _ _
  have d0 : decide ((k : Int) < 0) = false := by simp
  have d1 : decide (N ≤ k) = false := by simp; omega
  have hkb : k ≤ 1048576 := by omega
  have hjl : j * B < l.length := (nbl_lt hX.b1).1 hj2
  obtain ⟨t, ht⟩ : ∃ t, t = j * B := ⟨_, rfl⟩
  rw [← ht] at hjl ka hj3
  obtain ⟨c, hc⟩ : ∃ c, c = cnt (at_ l) t := ⟨_, rfl⟩
  rw [← hc] at ka hj3
  have hw3 : IntKind.i64.wrap ((j : Int) * (B : Int)) = (t : Int) := by rw [show (j : Int) * (B : Int) = (t : Int) by rw [ht, Int.natCast_mul], IntWalk.i64_in _ (by omega)]
  have HE0 := hid (next_pick l hc.symm)
  have HP : Hid (∀ n, n ≤ k → pickL l n < l.length) := ⟨fun n hn => (pick_lt_all (l := l) (q := n) (by omega)).1⟩
  have HNX : Hid (∀ n, n ≤ k → nextL l ((pickL l n : Int) + 1) = pickL l (n + 1)) := ⟨fun n hn => next_after (by omega)⟩
  obtain ⟨M, hM⟩ : ∃ M, M = nbl l.length B := ⟨_, rfl⟩
  have HFI := hid hj1
  rw [← hM] at k1 hj2 hNb
  have HM := hid hM
  have hjM : (j : Int) < M := by omega
  clear hX hk hN ht hc hj1 hM hT hNl
  unfold Gets
  go_enter Tryd.func37, Tryd.ntmps37
  go_upto_region 1 with (fail)
  obtain ⟨hg, c1, c2⟩ := box2 (w := w) (.pointer (some ⟨x, 0, none⟩)) (.int .i64 k) 52 3
  generalize (w.alloc (.cells #[.pointer (some ⟨x, 0, none⟩)] 52)).alloc (.cells #[.int .i64 k] 3) = W2 at *
  have z0 := (hg.cell hx 0).trans k0
  have z1 := (hg.cell hx 1).trans k1
  have z2 := (hg.cell hx 2).trans k2
  have z3 := (hg.cell hx 3).trans k3
  have K1 := hid k1
  clear k0 k1 k2 k3
  have HG := hid hg
  have HC := hid (And.intro c1 c2)
  clear hg
  go_quiet (fail)
  have HS := hid (search_any 88 ⟨w.heap.size, 0, none⟩ ⟨w.heap.size + 1, 0, none⟩ M (by omega) (fun i => decide (k < cnt (at_ l) (i * B))) (W2.drewN nq) call_pick1
    (fun i i' h1 h2 h3 => by
      have := cnt_mono (at_ l) (Nat.mul_le_mul_right B h1)
      simp at h3 ⊢; omega)
    (fun i W hi hgW => rank_pick1 (HX.out.gr ((HG.out.drewN nq).trans hgW)) _ _ k (by
        rw [hgW.cell (b := w.heap.size) (by have := lt_cell HC.out.1; exact this)]; exact HC.out.1) (by
        rw [hgW.cell (b := w.heap.size + 1) (by have := lt_cell HC.out.2; exact this)]; exact HC.out.2) i (by rw [← HM.out]; exact hi)))
  rw [HM.out, HFI.out, ← HM.out] at HS
  have hmf : ∀ (fn : Fn) (first cap : Array Value) (w : World), (Instr.makeFunc fn first cap).run Tryd.prog w = .ok (.func fn first cap) w := fun _ _ _ _ => rfl
  go_upto_region 4 with (go_at_call 87; refine HS.out.mono ?_; rintro e W3 ⟨rfl, h3⟩; have HG3 := hid (HG.out.trans (((Gr.refl W2).drewN nq).trans h3)); have y0 := (h3.cell (b := w.heap.size) (lt_cell HC.out.1) 0).trans HC.out.1; have y1 := (h3.cell (b := w.heap.size + 1) (lt_cell HC.out.2) 0).trans HC.out.2; clear h3)
  have v0 := (HG3.out.cell hx 0).trans HX.out.c0
  have v2 := (HG3.out.cell hx 2).trans HX.out.c2
  have v1 : W3.cell? ⟨x, 1, none⟩ = some (.slice (some ⟨a, 0, none⟩) M cap) := by
    exact (HG3.out.cell hx 1).trans K1.out
  have va : W3.cell? ⟨a, j, none⟩ = some (.int .i64 c) := (HG3.out.cell HX.out.ha j).trans ka
  have HV3 := hid (HX.out.vec.gr HG3.out)
  have HT3 := hid (HG3.out.tab HT.out.lt HT.out)
  have hc0 := HP.out c hj3
  have HN : Hid (∀ n, Calls Tryd.prog 26 #[.pointer (some ⟨p, 0, none⟩), .int .i64 t] (W3.drewN n) fun e w' => e = .returned (.tuple #[.int .i64 (pickL l c : Nat), .bool true]) ∧ w' = W3.drewN n) := ⟨fun n =>
    (next_vec (HV3.out.gr ((Gr.refl W3).drewN n)) (((Gr.refl W3).drewN n).tab HT3.out.lt HT3.out) t).mono fun e w' ⟨he, hw⟩ => ⟨by rw [he, HE0.out, valN_yes hc0, decide_eq_true hc0], hw.symm⟩⟩
  clear z0 z1 z2 z3 ka HS
  go_quiet ((go_at_call 26; exact Calls.quiet_of_same (HN.out _)))
  go_wp2
  go_loop [7, 9] (fun s7 s9 => ∃ n : Nat, c ≤ n ∧ n ≤ k ∧ s7 = .int .i64 (pickL l n : Nat) ∧ s9 = .int .i64 n) (fun _ s9 => k - (intOf s9).toNat)
  case atStart => exact ⟨c, Nat.le_refl _, hj3, rfl, rfl⟩
  case round =>
    obtain ⟨n, hn1, hn2, rfl, rfl⟩ := hrel
    have hp := HP.out n hn2
    obtain ⟨r, hr⟩ : ∃ r, r = pickL l n := ⟨_, rfl⟩
    have HE := HNX.out n hn2
    rw [← hr] at hp HE ⊢
    by_cases hlt : n < k
    · have hp' := HP.out (n + 1) (by omega)
      have HE' := hid HE
      have HR := hid (And.intro (valN_yes hp') (decide_eq_true hp'))
      clear hr HE hp'
      go_wp2_with (go_at_call 26; refine (next_vec (HV3.out.gr ((Gr.refl W3).drewN _)) (((Gr.refl W3).drewN _).tab HT3.out.lt HT3.out) _).mono ?_; rintro e w' ⟨rfl, rfl⟩; rw [HE'.out, HR.out.1, HR.out.2])
      go_round
      case rel => exact ⟨n + 1, by omega, by omega, rfl, by go_num⟩
      case measure => simp [intOf]; omega
    · obtain rfl : n = k := by omega
      have HR := hid hr
      clear hr HE
      go_wp2
      go_ret2
      exact ⟨ret2 (by rw [HR.out]; rfl) rfl, HG3.out.drewN _⟩
theorem rank_pick {w : World} {x p b a : Nat} {l : List Bool} {B : Nat} (hX : Idx w x p b a l B) (hT : TabAt w) (q : Int) :
    Gets Tryd.prog 37 #[.pointer (some ⟨x, 0, none⟩), .int .i64 q] w (.tuple #[.int .i64 (pickV l q), .bool (pickB l q)]) := by
  by_cases h : q < 0
  · have e1 : pickV l q = 0 := by unfold pickV; rw [if_pos h]
    have e2 : pickB l q = false := by unfold pickB; rw [decide_eq_false (by omega)]; rfl
    rw [e1, e2]
    exact rank_pick_low x q h
  · obtain ⟨k, rfl⟩ : ∃ k : Nat, q = k := ⟨q.toNat, by omega⟩
    have e1 : pickV l k = valN l.length (pickL l k) := by unfold pickV; rw [if_neg h, Int.toNat_natCast]
    have e2 : pickB l k = decide (pickL l k < l.length) := by unfold pickB; rw [decide_eq_true (by omega), Int.toNat_natCast]; rfl
    rw [e1, e2]
    rcases Nat.lt_or_ge k (cnt (at_ l) l.length) with hk | hk
    · have := (pick_lt_all hk).1
      rw [valN_yes this, decide_eq_true this]
      exact rank_pick_in hX hT k hk
    · have := pick_all_none hk
      rw [this, valN_no (by omega), decide_eq_false (by omega)]
      exact rank_pick_high hX k hk
end Go.Proofs.YtlbbkpjfoabobaaDoor
