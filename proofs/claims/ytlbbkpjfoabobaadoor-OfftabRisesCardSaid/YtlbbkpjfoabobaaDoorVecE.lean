/- Contracts of bitvec's Fill, Wipe and Count. -/
import Derived.Test.YtlbbkpjfoabobaaDoorVecC
import Derived.Test.YtlbbkpjfoabobaaDoorVecD
import Derived.Test.YtlbbkpjfoabobaaDoorBitsC
namespace Go.Proofs.YtlbbkpjfoabobaaDoor
open Go.RowKit Word

/-- A vector, with one word and the counter's box written. -/
theorem Vec.write {w : World} {p b bx : Nat} {l m : List Bool} (h : Vec w p b l) (k : Nat) (hk : k < nw l) (hl : m.length = l.length) (hw : ∀ i, i ≠ k → wordOf l i = wordOf m i) {y : Nat} (hy : y = wordOf m k) (hbp : bx ≠ p) (hbb : bx ≠ b) (v : Value) (d : Nat) :
    Vec (((w.setCell ⟨bx, 0, none⟩ v).setCell ⟨b, k, none⟩ (.int .u64 (y : Nat))).drewN d) p b m := by
  have t0 : Touch (fun i => i = bx) w (w.setCell ⟨bx, 0, none⟩ v) := (Touch.refl (fun i => i = bx) w).setCell (a := ⟨bx, 0, none⟩) (fun _ => rfl) _
  have h0 := h.touch t0 (fun e => hbp e.symm) (fun e => hbb e.symm)
  generalize w.setCell ⟨bx, 0, none⟩ v = w1 at *
  have hnw : nw m = nw l := by unfold nw; rw [hl]
  have t : Touch (fun i => i = b) w1 (w1.setCell ⟨b, k, none⟩ (.int .u64 (y : Nat))) := (Touch.refl (fun i => i = b) w1).setCell (a := ⟨b, k, none⟩) (fun _ => rfl) _
  refine Vec.gr ⟨h.ne, Nat.lt_of_lt_of_le h0.hp t.size, Nat.lt_of_lt_of_le h0.hb t.size, by rw [hl]; exact h.n1, by rw [hl]; exact h.n2, ?_, ?_, ?_, ?_⟩ ((Gr.refl _).drewN d)
  · obtain ⟨cap, a1, a2, a3⟩ := h0.c0
    exact ⟨cap, by rw [hnw]; exact a1, a2, by rw [t.cell h0.hp h.ne, a3, hnw]⟩
  · rw [t.cell h0.hp h.ne, h0.c1, hl]
  · intro i hi
    rw [hnw] at hi
    by_cases e : i = k
    · subst e
      rw [hy]
      exact World.cell?_setCell_same (h := h0.cw _ hi) ..
    · rw [World.cell?_setCell_other (h := by intro e2; injection e2 with _ e3; omega), h0.cw i hi, hw i e]
  · intro i; rw [World.frozen?_setCell]; exact h0.fw i

/-- What holds between two words of a run: so much is done, so many are counted in the box. -/
structure LayAt (w0 : World) (p b bx : Nat) (c : Nat → Nat) (m : Nat → List Bool) (k : Nat) (W : World) : Prop where
  vec : Vec W p b (m k)
  box : W.cell? ⟨bx, 0, none⟩ = some (.int .i64 (c k : Nat))
  free : W.frozen? ⟨bx, 0, none⟩ = false
  ne : b ≠ bx
  np : bx ≠ p
  lt : bx < W.heap.size
  touch : Touch (fun i => i = b ∨ i = bx) w0 W
theorem LayAt.drewN {w0 : World} {p b bx : Nat} {c : Nat → Nat} {m : Nat → List Bool} {k : Nat} {W : World} (h : LayAt w0 p b bx c m k W) (d : Nat) : LayAt w0 p b bx c m k (W.drewN d) :=
  ⟨h.vec.gr ((Gr.refl W).drewN d), h.box, h.free, h.ne, h.np, h.lt, h.touch.drewN d⟩

theorem call_fill1 (args : Array Value) (W : World) : (callFunc 76 args).run Tryd.prog W = .ok (.enter 76 args) W := by kernel_rfl
theorem call_wipe1 (args : Array Value) (W : World) : (callFunc 93 args).run Tryd.prog W = .ok (.enter 93 args) W := by kernel_rfl
theorem call_count1 (args : Array Value) (W : World) : (callFunc 79 args).run Tryd.prog W = .ok (.enter 79 args) W := by kernel_rfl

/-- The box of the counter, and all there is when the run begins. -/
theorem box_start {w : World} {p b : Nat} {l : List Bool} (hV : Vec w p b l) (m : Nat → List Bool) (c : Nat → Nat) (k : Nat) (hm : m k = l) (hc : c k = 0) (T : TypeId) :
    LayAt (w.alloc (.cells #[.int .i64 0] T)) p b w.heap.size c m k (w.alloc (.cells #[.int .i64 0] T)) := by
  have hs := hV.hp
  have hs2 := hV.hb
  exact ⟨by rw [hm]; exact hV.gr ((Gr.refl w).alloc _), by rw [hc]; exact World.cell?_alloc_new .., World.frozen?_alloc_new .., by omega, by omega, by simp, Touch.refl _ _⟩
/-- One word. -/
theorem LayAt.step {w0 : World} {p b bx : Nat} {c : Nat → Nat} {m : Nat → List Bool} {k : Nat} {W : World} (h : LayAt w0 p b bx c m k W) (hk : k < nw (m k)) (hl : (m (k + 1)).length = (m k).length)
    (hw : ∀ i, i ≠ k → wordOf (m k) i = wordOf (m (k + 1)) i) {y : Nat} (hy : y = wordOf (m (k + 1)) k) {z : Int} (hz : z = (c (k + 1) : Nat)) (d : Nat) :
    LayAt w0 p b bx c m (k + 1) (((W.setCell ⟨bx, 0, none⟩ (.int .i64 z)).setCell ⟨b, k, none⟩ (.int .u64 (y : Nat))).drewN d) := by
  refine ⟨h.vec.write k hk hl hw hy h.np (fun e => h.ne e.symm) _ d, ?_, ?_, h.ne, h.np, ?_, ?_⟩
  · show World.cell? (World.setCell _ _ _) _ = _
    rw [World.cell?_setCell_other (h := by intro e; injection e with e1 _; exact h.ne e1), hz]
    exact World.cell?_setCell_same (h := h.box) ..
  · show World.frozen? (World.setCell (World.setCell _ _ _) _ _) _ = _
    rw [World.frozen?_setCell, World.frozen?_setCell]; exact h.free
  · have := h.lt; simpa [World.setCell] using this
  · exact ((h.touch.setCell (fun _ => .inr rfl) _).setCell (fun _ => .inl rfl) _).drewN d

/-- What the three need of the slice's header, throughout. -/
theorem LayAt.head {w : World} {p b : Nat} {l : List Bool} (hV : Vec w p b l) {T : TypeId} {c : Nat → Nat} {m : Nat → List Bool} {k : Nat} {W : World} (h : LayAt (w.alloc (.cells #[.int .i64 0] T)) p b w.heap.size c m k W) :
    W.cell? ⟨p, 0, none⟩ = w.cell? ⟨p, 0, none⟩ ∧ W.cell? ⟨p, 1, none⟩ = w.cell? ⟨p, 1, none⟩ := by
  have hp := hV.hp
  have e := fun o => h.touch.cell (b := p) (by simp; omega) (by intro h; rcases h with h | h; exact hV.ne h; omega) o
  have g := fun o => ((Gr.refl w).alloc (.cells #[.int .i64 0] T)).cell (b := p) hp o
  exact ⟨(e 0).trans (g 0), (e 1).trans (g 1)⟩

def layK (l : List Bool) (lo hi : Int) (x : Bool) (k : Nat) : List Bool := layL l lo (min hi (64 * k)) x
def chgK (l : List Bool) (lo hi : Int) (x : Bool) (k : Nat) : Nat := chgL l lo (min hi (64 * k)) x
theorem layK_end {l : List Bool} {lo hi : Int} {x : Bool} {k : Nat} (hk : lo < hi → hi ≤ 64 * k) : layK l lo hi x k = layL l lo hi x ∧ chgK l lo hi x k = chgL l lo hi x := by
  unfold layK chgK
  by_cases h : lo < hi
  · rw [Int.min_eq_left (hk h)]; exact ⟨rfl, rfl⟩
  · rw [layL_empty x (show min hi (64 * k) ≤ lo by omega), layL_empty x (show hi ≤ lo by omega), chgL_eq, chgL_eq, cntI_empty _ _ (show min hi (64 * k) ≤ lo by omega), cntI_empty _ _ (show hi ≤ lo by omega)]; exact ⟨rfl, rfl⟩

set_option maxRecDepth 100000 in
set_option maxHeartbeats 800000 in
theorem fill_vec {w : World} {p b : Nat} {l : List Bool} (hV : Vec w p b l) (f t : Int) (hf64 : f ≤ 9223372036854775807) :
    Calls Tryd.prog 17 #[.pointer (some ⟨p, 0, none⟩), .int .i64 f, .int .i64 t] w fun e w' =>
      e = .returned (.int .i64 (chgL l f t true : Nat)) ∧ Touch (fun i => i = b) w w' ∧ Vec w' p b (layL l f t true) := by
  obtain ⟨lo, hlo⟩ : ∃ lo : Nat, (lo : Int) = max f 0 := ⟨(max f 0).toNat, by omega⟩
  obtain ⟨hi, hhi⟩ : ∃ hi : Int, hi = min t l.length := ⟨_, rfl⟩
  have hh : hi ≤ l.length := by omega
  have hn := hV.n2
  obtain ⟨cap, a1, a2, c0⟩ := hV.c0
  have hm0 : layK l lo hi true (lo / 64) = l := layL_empty _ (by omega)
  have hc0 : chgK l lo hi true (lo / 64) = 0 := by unfold chgK; rw [chgL_eq]; exact cntI_empty _ _ (by omega)
  have H0 := fun T => box_start hV (layK l lo hi true) (chgK l lo hi true) (lo / 64) hm0 hc0 T
  have HE := fun T => each_any 76 ⟨w.heap.size, 0, none⟩ p b l.length (nw l) cap (LayAt (w.alloc (.cells #[.int .i64 0] T)) p b w.heap.size (chgK l lo hi true) (layK l lo hi true))
    call_fill1 (fun k W h => ⟨(LayAt.head hV h).1.trans c0, (LayAt.head hV h).2.trans hV.c1⟩) (fun k W d h => h.drewN d) (by unfold nw; omega) (by omega) f t hf64 lo hlo hi hhi
    (fun k W hk1 hk2 hlt h => by
      have hkw : k < nw (layK l lo hi true k) := by unfold layK; rw [nw_layL]; unfold nw; omega
      have hcb : chgK l lo hi true k ≤ l.length := cntI_le _ _ _ _
      refine (fill1_any W b k (wordOf (layK l lo hi true k) k) _ w.heap.size (chgK l lo hi true k : Nat) (wordOf_lt _ _) (runW_lt _ _) (h.vec.cw k hkw) (h.vec.fw k) h.box h.free h.ne (by omega) (by omega)).mono ?_
      rintro e W' ⟨rfl, d, rfl⟩
      refine ⟨rfl, h.step hkw ?_ ?_ ?_ ?_ d⟩
      · unfold layK; rw [layL_length, layL_length]
      · intro i hi'; exact word_other hk2 hh true hi'
      · exact word_on hk2 hh
      · have := chg_on hk2 hh (lo := (lo : Int)); unfold chgK layK; omega)
    _ (H0 T)
  have HE := hid HE
  have HV := hid hV
  have HLO := hid hlo
  have HHI := hid hhi
  clear hV hm0 hc0 H0 hh a1 a2 c0 hhi hlo hn hf64
  have hmf : ∀ (fn : Fn) (first cap : Array Value) (w : World), (Instr.makeFunc fn first cap).run Tryd.prog w = .ok (.func fn first cap) w := fun _ _ _ _ => rfl
  go_enter Tryd.func17, Tryd.ntmps17
  go_wp2_with (go_at_call 75; refine (HE.out _).mono ?_; rintro e W2 ⟨rfl, k, hk1, hk2, hL⟩; have hbox := hL.box)
  go_ret
  obtain ⟨e1, e2⟩ := layK_end (l := l) (x := true) hk2
  refine ⟨ret_int (by rw [e2, HLO.out, HHI.out, chgL_eq, chgL_eq, cntI_clip]), ?_, ?_⟩
  · refine (((Gr.refl w).alloc _).touch _).trans' hL.touch ?_
    rintro i hi (h | h)
    · exact h
    · omega
  · have := hL.vec
    rw [e1, HLO.out, HHI.out, layL_clip] at this
    exact this

set_option maxRecDepth 100000 in
set_option maxHeartbeats 800000 in
theorem wipe_vec {w : World} {p b : Nat} {l : List Bool} (hV : Vec w p b l) (f t : Int) (hf64 : f ≤ 9223372036854775807) :
    Calls Tryd.prog 53 #[.pointer (some ⟨p, 0, none⟩), .int .i64 f, .int .i64 t] w fun e w' =>
      e = .returned (.int .i64 (chgL l f t false : Nat)) ∧ Touch (fun i => i = b) w w' ∧ Vec w' p b (layL l f t false) := by
  obtain ⟨lo, hlo⟩ : ∃ lo : Nat, (lo : Int) = max f 0 := ⟨(max f 0).toNat, by omega⟩
  obtain ⟨hi, hhi⟩ : ∃ hi : Int, hi = min t l.length := ⟨_, rfl⟩
  have hh : hi ≤ l.length := by omega
  have hn := hV.n2
  obtain ⟨cap, a1, a2, c0⟩ := hV.c0
  have hm0 : layK l lo hi false (lo / 64) = l := layL_empty _ (by omega)
  have hc0 : chgK l lo hi false (lo / 64) = 0 := by unfold chgK; rw [chgL_eq]; exact cntI_empty _ _ (by omega)
  have H0 := fun T => box_start hV (layK l lo hi false) (chgK l lo hi false) (lo / 64) hm0 hc0 T
  have HE := fun T => each_any 93 ⟨w.heap.size, 0, none⟩ p b l.length (nw l) cap (LayAt (w.alloc (.cells #[.int .i64 0] T)) p b w.heap.size (chgK l lo hi false) (layK l lo hi false))
    call_wipe1 (fun k W h => ⟨(LayAt.head hV h).1.trans c0, (LayAt.head hV h).2.trans hV.c1⟩) (fun k W d h => h.drewN d) (by unfold nw; omega) (by omega) f t hf64 lo hlo hi hhi
    (fun k W hk1 hk2 hlt h => by
      have hkw : k < nw (layK l lo hi false k) := by unfold layK; rw [nw_layL]; unfold nw; omega
      have hcb : chgK l lo hi false k ≤ l.length := cntI_le _ _ _ _
      refine (wipe1_any W b k (wordOf (layK l lo hi false k) k) _ w.heap.size (chgK l lo hi false k : Nat) (wordOf_lt _ _) (runW_lt _ _) (h.vec.cw k hkw) (h.vec.fw k) h.box h.free h.ne (by omega) (by omega)).mono ?_
      rintro e W' ⟨rfl, d, rfl⟩
      refine ⟨rfl, h.step hkw ?_ ?_ ?_ ?_ d⟩
      · unfold layK; rw [layL_length, layL_length]
      · intro i hi'; exact word_other hk2 hh false hi'
      · exact word_off hk2 hh
      · have := chg_off hk2 hh (lo := (lo : Int)); unfold chgK layK; omega)
    _ (H0 T)
  have HE := hid HE
  have HV := hid hV
  have HLO := hid hlo
  have HHI := hid hhi
  clear hV hm0 hc0 H0 hh a1 a2 c0 hhi hlo hn hf64
  have hmf : ∀ (fn : Fn) (first cap : Array Value) (w : World), (Instr.makeFunc fn first cap).run Tryd.prog w = .ok (.func fn first cap) w := fun _ _ _ _ => rfl
  go_enter Tryd.func53, Tryd.ntmps53
  go_wp2_with (go_at_call 75; refine (HE.out _).mono ?_; rintro e W2 ⟨rfl, k, hk1, hk2, hL⟩; have hbox := hL.box)
  go_ret
  obtain ⟨e1, e2⟩ := layK_end (l := l) (x := false) hk2
  refine ⟨ret_int (by rw [e2, HLO.out, HHI.out, chgL_eq, chgL_eq, cntI_clip]), ?_, ?_⟩
  · refine (((Gr.refl w).alloc _).touch _).trans' hL.touch ?_
    rintro i hi (h | h)
    · exact h
    · omega
  · have := hL.vec
    rw [e1, HLO.out, HHI.out, layL_clip] at this
    exact this

/-- What holds between two words of a run that is counted. -/
structure CountAt (w0 : World) (bx : Nat) (c : Nat → Nat) (k : Nat) (W : World) : Prop where
  box : W.cell? ⟨bx, 0, none⟩ = some (.int .i64 (c k : Nat))
  free : W.frozen? ⟨bx, 0, none⟩ = false
  touch : Touch (fun i => i = bx) w0 W
set_option maxRecDepth 100000 in
set_option maxHeartbeats 800000 in
theorem count_vec {w : World} {p b : Nat} {l : List Bool} (hV : Vec w p b l) (f t : Int) (hf64 : f ≤ 9223372036854775807) :
    Gets Tryd.prog 19 #[.pointer (some ⟨p, 0, none⟩), .int .i64 f, .int .i64 t] w (.int .i64 (countL l f t : Nat)) := by
  obtain ⟨lo, hlo⟩ : ∃ lo : Nat, (lo : Int) = max f 0 := ⟨(max f 0).toNat, by omega⟩
  obtain ⟨hi, hhi⟩ : ∃ hi : Int, hi = min t l.length := ⟨_, rfl⟩
  have hh : hi ≤ l.length := by omega
  have hn := hV.n2
  have hp := hV.hp
  have hb := hV.hb
  obtain ⟨cap, a1, a2, c0⟩ := hV.c0
  obtain ⟨c, hc⟩ : ∃ c : Nat → Nat, c = fun k => cntI (at_ l) lo (min hi (64 * (k : Nat))) l.length := ⟨_, rfl⟩
  have hc0 : c (lo / 64) = 0 := by rw [hc]; exact cntI_empty _ _ (by omega)
  have H0 : ∀ T, CountAt (w.alloc (.cells #[.int .i64 0] T)) w.heap.size c (lo / 64) (w.alloc (.cells #[.int .i64 0] T)) := fun T => ⟨by rw [hc0]; exact World.cell?_alloc_new .., World.frozen?_alloc_new .., Touch.refl _ _⟩
  have HR : ∀ T k W, CountAt (w.alloc (.cells #[.int .i64 0] T)) w.heap.size c k W → ∀ q o, q < w.heap.size → W.cell? ⟨q, o, none⟩ = w.cell? ⟨q, o, none⟩ := fun T k W h q o hq => by
    rw [h.touch.cell (by simp; omega) (by omega), ((Gr.refl w).alloc _).cell hq]
  have HE := fun T => each_any 79 ⟨w.heap.size, 0, none⟩ p b l.length (nw l) cap (CountAt (w.alloc (.cells #[.int .i64 0] T)) w.heap.size c)
    call_count1 (fun k W h => ⟨(HR T k W h p 0 hp).trans c0, (HR T k W h p 1 hp).trans hV.c1⟩) (fun k W d h => ⟨h.box, h.free, h.touch.drewN d⟩) (by unfold nw; omega) (by omega) f t hf64 lo hlo hi hhi
    (fun k W hk1 hk2 hlt h => by
      have hkw : k < nw l := by unfold nw; omega
      have hcb : c k ≤ l.length := by rw [hc]; exact cntI_le _ _ _ _
      refine (count1_any W b k (wordOf l k) _ w.heap.size (c k : Nat) (wordOf_lt _ _) (runW_lt _ _) ((HR T k W h b k hb).trans (hV.cw k hkw)) h.box h.free (by omega) (by omega)).mono ?_
      rintro e W' ⟨rfl, d, rfl⟩
      refine ⟨rfl, ?_, ?_, (h.touch.setCell (fun _ => rfl) _).drewN d⟩
      · have := count_on hk2 hh (lo := (lo : Int))
        have e : ((c k : Nat) : Int) + (pc (runW ((lo : Int) - 64 * k) (hi - 64 * k) &&& wordOf l k) : Nat) = (c (k + 1) : Nat) := by rw [hc]; simp only []; omega
        rw [e]
        exact World.cell?_setCell_same (h := h.box) ..
      · show World.frozen? (World.setCell _ _ _) _ = _
        rw [World.frozen?_setCell]; exact h.free)
    _ (H0 T)
  have HE := hid HE
  have HLO := hid hlo
  have HHI := hid hhi
  have HC := hid hc
  clear hV hc0 H0 hh a1 a2 c0 hhi hlo hn hf64 HR hc
  have hmf : ∀ (fn : Fn) (first cap : Array Value) (w : World), (Instr.makeFunc fn first cap).run Tryd.prog w = .ok (.func fn first cap) w := fun _ _ _ _ => rfl
  unfold Gets
  go_enter Tryd.func19, Tryd.ntmps19
  go_wp2_with (go_at_call 75; refine (HE.out _).mono ?_; rintro e W2 ⟨rfl, k, hk1, hk2, hL⟩; have hbox := hL.box)
  go_ret
  refine ⟨ret_int ?_, Touch.gr ?_⟩
  · rw [HC.out, countL_eq, ← cntI_clip (at_ l) f t, ← HLO.out, ← HHI.out]
    simp only []
    by_cases h : (lo : Int) < hi
    · rw [Int.min_eq_left (hk2 h)]
    · rw [cntI_empty _ _ (show min hi (64 * k) ≤ lo by omega), cntI_empty _ _ (show hi ≤ lo by omega)]
  · refine (((Gr.refl w).alloc _).touch _).trans' hL.touch ?_
    rintro i hi rfl; omega

end Go.Proofs.YtlbbkpjfoabobaaDoor
