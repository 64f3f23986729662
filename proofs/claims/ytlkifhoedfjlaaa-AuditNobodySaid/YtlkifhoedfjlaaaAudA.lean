/- Package audit: nobody's model, and the example. -/
import Derived.Test.YtlkifhoedfjlaaaHdr
import Derived.Test.YtlkifhoedfjlaaaRec
import Derived.Deep.CutBlock
import Derived.Deep.DeepCutAuto
import Derived.MapKept
import Derived.Carry
import Derived.RegionTactic
import Derived.ChangeAlike
import Derived.BigRegion
namespace Go.Proofs.Ytlkifhoedfjlaaa
open Go.RowKit Word

theorem wpList_lookup_run {P : Program} {w : World} {ops : Array Oper} {rest : List Oper} {o : Oper} {a : Act} {Q : Exit → Act → World → Prop} (hg : o.guard = none) (m x : Operand) (t : TypeId) (hop : o.op = Op.lookup t m x true) {mv xv v : Value} (hm : a.eval m = mv) (hx : a.eval x = xv)
    (hrun : (Instr.lookup t mv xv true).run P w = .ok v w) (hK : wpList P ops Q rest (a.put o.dst v) w) : wpList P ops Q (o :: rest) a w := by
  refine wpList_plain hg fun K' hK' => ?_
  unfold Oper.wp
  simp [execOp, hop, hm, hx, hrun, Result.andThen]
  exact hK' _ _ hK
theorem look_empty (w : World) (b : Nat) (hb : w.heap[b]? = some (.map #[] 0)) : (Instr.lookup 77 (.map (some b)) (.pointer none) true).run Try.prog w = .ok (.tuple #[.int .i64 0, .bool false]) w := by
  have hu : (underlying 77).run Try.prog w = .ok (.map 80 3) w := by kernel_rfl
  have hp : (underlying 80).run Try.prog w = .ok (.pointer 82) w := by kernel_rfl
  have hz : (zeroValue 3).run Try.prog w = .ok (.int .i64 0) w := by kernel_rfl
  have hc : (Instr.checkKey true 10000 80 (.pointer none)).run Try.prog w = .ok () w := by kernel_rfl
  have hf : (Instr.findKey 80 (.pointer none) []).run Try.prog w = .ok none w := by kernel_rfl
  simp [Instr.lookup, hu, hz, hc, hf, MapKept.run_getObj_map hb, Result.andThen]
/-- A model of n words, and one empty slot. -/
structure AudAt (w : World) (m b n : Nat) : Prop where
  rm : Rec w m 55 [.int .i64 n, .slice (some ⟨b, 0, none⟩) 1 1]
  c : w.cell? ⟨b, 0, none⟩ = some (.pointer none)
  f : w.frozen? ⟨b, 0, none⟩ = false
  bm : b < m
theorem AudAt.gr {w w' : World} {m b n : Nat} (h : AudAt w m b n) (g : Gr w w') : AudAt w' m b n :=
  ⟨h.rm.gr g, (g.cell (lt_cell h.c) 0).trans h.c, (g.frozen (lt_cell h.c) 0).trans h.f, h.bm⟩
def AudNew (w : World) (n : Nat) (e : Ending) (w' : World) : Prop := e = .returned (.tuple #[.pointer (some ⟨w.heap.size + 1, 0, none⟩), .int .i64 0]) ∧ Gr w w' ∧ AudAt w' (w.heap.size + 1) w.heap.size n
set_option maxRecDepth 100000 in
theorem aud_new (w : World) : Calls Try.prog 5 #[.int .i64 4, .int .i64 1] w (AudNew w 4) := by
  have hmk : ∀ w : World, (Instr.makeSlice 53 (.int .i64 1) (.int .i64 1)).run Try.prog w = .ok (.slice (some ⟨w.heap.size, 0, none⟩) 1 1) (w.alloc (.cells #[.pointer none] 80)) := fun _ => by kernel_rfl
  go_enter Try.func5, Try.ntmps5
  go_wp2
  go_ret2
  have g : Gr w ((w.alloc (.cells #[.pointer none] 80)).alloc (.cells #[.int .i64 4, .slice (some ⟨w.heap.size, 0, none⟩) 1 1] 55)) := ((Gr.refl w).alloc _).alloc _
  refine ⟨rfl, g, ?_, ?_, ?_, Nat.lt_succ_self _⟩
  · have := Rec.new (w.alloc (.cells #[.pointer none] 80)) 55 [.int .i64 4, .slice (some ⟨w.heap.size, 0, none⟩) 1 1]
    rw [World.size_alloc] at this
    exact this
  · exact (((Gr.refl _).alloc _).cell (by simp) 0).trans ((Rec.new w 80 [.pointer none]).cell (j := 0) rfl)
  · exact (((Gr.refl _).alloc _).frozen (by simp) 0).trans ((Rec.new w 80 [.pointer none]).free 0)
set_option maxRecDepth 100000 in
theorem aud_live_nil (w : World) : Calls Try.prog 12 #[.pointer none] w fun e w' => e = .returned (.tuple #[.int .i64 0, .int .i64 0]) ∧ w = w' := by
  go_enter Try.func12, Try.ntmps12
  go_wp2
  go_ret2
  exact ⟨rfl, rfl⟩
set_option maxRecDepth 100000 in
theorem aud_meet {w : World} {b p1 p2 bm : Nat} (c : w.cell? ⟨b, 0, none⟩ = some (.pointer none)) (c1 : w.cell? ⟨p1, 0, none⟩ = some (.map (some bm))) (hb : w.heap[bm]? = some (.map #[] 0)) :
    Calls Try.prog 48 #[.slice (some ⟨b, 0, none⟩) 1 1, .pointer (some ⟨p1, 0, none⟩), .pointer (some ⟨p2, 0, none⟩)] w fun e w' => e = .returned (.tuple #[]) ∧ w = w' := by
  have HL := hid (look_empty w bm hb)
  clear hb
  go_enter Try.func48, Try.ntmps48
  go_wp2
  go_loop [10] (fun i => ∃ j : Nat, j ≤ 1 ∧ i = .int .i64 j) (fun i => 1 - (intOf i).toNat)
  case atStart => exact ⟨0, by omega, rfl⟩
  case round =>
    obtain ⟨j, hj, rfl⟩ := hrel
    rcases (by omega : j = 0 ∨ j = 1) with rfl | rfl
    · go_wp2_with (at_lookup; refine wpList_lookup_run rfl _ _ 77 rfl rfl rfl HL.out ?_)
      go_round
      case rel => exact ⟨1, by omega, by go_num⟩
      case measure => simp [intOf]
    · go_wp2
      refine bodyPost_end (results_none rfl _ _ _) rfl ?_
      exact ⟨rfl, rfl⟩
theorem new2 (w : World) (o : Obj) (T : Nat) (xs : List Value) : Rec ((w.alloc o).alloc (.cells xs.toArray T)) (w.heap.size + 1) T xs := by
  have := Rec.new (w.alloc o) T xs
  rw [World.size_alloc] at this
  exact this
theorem touch_old' {w w' : World} (h : Touch (fun k => w.heap.size ≤ k) w w') : Gr w w' := (h.mono (T := fun _ => False) (fun k hk h => by omega)).gr
section
variable {w : World} {m b n : Nat}
def AudReach (w : World) (e : Ending) (w' : World) : Prop := ∃ bm : Nat, e = .returned (.tuple #[.slice none 0 0, .map (some bm)]) ∧ Gr w w'
set_option maxRecDepth 100000 in
set_option maxHeartbeats 800000 in
theorem aud_reached (h : AudAt w m b n) : Calls Try.prog 29 #[.pointer (some ⟨m, 0, none⟩)] w (AudReach w) := by
  have c1 := h.rm.cell (j := 1) rfl
  have hml := h.rm.lt
  have H := hid h
  have hmm := @run_makeMap Try.prog
  clear h
  go_enter Try.func29, Try.ntmps29
  go_upto_region 4 with (fail)
  have hG : Gr w (((w.alloc (.cells #[.slice none 0 0] 53)).alloc (.map #[] 0)).alloc (.cells #[.map (some (w.heap.size + 1))] 77)) := (((Gr.refl w).alloc _).alloc _).alloc _
  have r0 : Rec (((w.alloc (.cells #[.slice none 0 0] 53)).alloc (.map #[] 0)).alloc (.cells #[.map (some (w.heap.size + 1))] 77)) w.heap.size 53 [.slice none 0 0] := (Rec.new w 53 [.slice none 0 0]).gr (((Gr.refl _).alloc _).alloc _)
  have r2 : Rec (((w.alloc (.cells #[.slice none 0 0] 53)).alloc (.map #[] 0)).alloc (.cells #[.map (some (w.heap.size + 1))] 77)) (w.heap.size + 2) 77 [.map (some (w.heap.size + 1))] := by
    have := Rec.new ((w.alloc (.cells #[.slice none 0 0] 53)).alloc (.map #[] 0)) 77 [.map (some (w.heap.size + 1))]
    rw [World.size_alloc, World.size_alloc] at this
    exact this
  have hb1 : (((w.alloc (.cells #[.slice none 0 0] 53)).alloc (.map #[] 0)).alloc (.cells #[.map (some (w.heap.size + 1))] 77)).heap[w.heap.size + 1]? = some (.map #[] 0) := by
    rw [((Gr.refl ((w.alloc (.cells #[.slice none 0 0] 53)).alloc (.map #[] 0))).alloc _).block (by simp)]
    have := (MapKept.heap_alloc (w.alloc (.cells #[.slice none 0 0] 53)) (.map #[] 0)).1
    rw [World.size_alloc] at this
    exact this
  obtain ⟨W3, hW3⟩ : ∃ W3, W3 = (((w.alloc (.cells #[.slice none 0 0] 53)).alloc (.map #[] 0)).alloc (.cells #[.map (some (w.heap.size + 1))] 77)) := ⟨_, rfl⟩
  rw [← hW3] at hG r0 r2 hb1 ⊢
  have e2 : w.heap.size + 1 + 1 = w.heap.size + 2 := rfl
  rw [e2]
  have k0 := r0.cell (j := 0) rfl
  have k2 := r2.cell (j := 0) rfl
  have k1 := (H.out.gr hG).rm.cell (j := 1) rfl
  have kb := (H.out.gr hG).c
  have HM := hid (fun (c : W3.cell? ⟨b, 0, none⟩ = some (.pointer none)) => aud_meet (p2 := w.heap.size) c k2 hb1)
  have HG := hid hG
  have HB := hid kb
  clear hW3 hG r0 r2 hb1 kb c1 hml hmm e2
  go_wp2_with (go_at_call 48; refine (HM.out HB.out).mono ?_; rintro e w1 ⟨rfl, rfl⟩)
  go_loop [7] (fun i => i = .int .i64 0) (fun _ => 0)
  case atStart => rfl
  case round =>
    obtain rfl := hrel
    go_wp2
    go_quiet (fail)
    go_wp2
    go_ret2
    exact ⟨_, rfl, HG.out.drewN _⟩
set_option maxRecDepth 100000 in
theorem aud_live (h : AudAt w m b n) : Calls Try.prog 12 #[.pointer (some ⟨m, 0, none⟩)] w fun e w' => e = .returned (.tuple #[.int .i64 0, .int .i64 0]) ∧ Gr w w' := by
  have H := hid h
  clear h
  go_enter Try.func12, Try.ntmps12
  go_wp2_with (go_at_call 29; refine (aud_reached H.out).mono ?_; rintro e w1 ⟨bm, rfl, hg1⟩; have HG1 := hid hg1; clear hg1)
  go_loop [6, 18] (fun n i => n = .int .i64 0 ∧ i = .int .i64 0) (fun _ _ => 0)
  case atStart => exact ⟨rfl, rfl⟩
  case round =>
    obtain ⟨rfl, rfl⟩ := hrel
    go_wp2
    go_ret2
    exact ⟨rfl, HG1.out⟩
set_option maxRecDepth 100000 in
theorem aud_in (h : AudAt w m b n) {x : Nat} (hx : w.cell? ⟨x, 0, none⟩ = some (.int .i64 0)) : Calls Try.prog 36 #[.pointer (some ⟨m, 0, none⟩), .slice (some ⟨x, 0, none⟩) 1 1] w fun e w' => e = .returned (.bool true) ∧ w = w' := by
  have c1 := h.rm.cell (j := 1) rfl
  have H := hid h
  clear h
  go_enter Try.func36, Try.ntmps36
  go_wp2
  go_loop [9] (fun i => ∃ j : Nat, j ≤ 1 ∧ i = .int .i64 j) (fun i => 1 - (intOf i).toNat)
  case atStart => exact ⟨0, by omega, rfl⟩
  case round =>
    obtain ⟨j, hj, rfl⟩ := hrel
    rcases (by omega : j = 0 ∨ j = 1) with rfl | rfl
    · go_wp2
      go_round
      case rel => exact ⟨1, by omega, by go_num⟩
      case measure => simp [intOf]
    · go_wp2
      go_ret
      exact ⟨rfl, rfl⟩
theorem load_reply (W : World) (blk : Nat) (c b n x p f k : Value) (h0 : W.cell? ⟨blk, 0, none⟩ = some c) (h1 : W.cell? ⟨blk, 1, none⟩ = some b) (h2 : W.cell? ⟨blk, 2, none⟩ = some n) (h3 : W.cell? ⟨blk, 3, none⟩ = some x) (h4 : W.cell? ⟨blk, 4, none⟩ = some p) (h5 : W.cell? ⟨blk, 5, none⟩ = some f) (h6 : W.cell? ⟨blk, 6, none⟩ = some k) : (loadVar 37 ⟨blk, 0, none⟩).run Try.prog W = .ok (.agg #[c, b, n, x, p, f, k]) W := by
  have a1 : (isAgg 37).run Try.prog W = .ok true W := by kernel_rfl
  have a2 : (sizeOf 37).run Try.prog W = .ok 7 W := by kernel_rfl
  simp [loadVar, Sem.run_bind, a1, a2, Result.andThen, loadCells, go_sem, h0, h1, h2, h3, h4, h5, h6]
def repV (c : Int) : Value := .agg #[.int .i64 c, .bool false, .int .i64 0, .int .u64 0, .int .i64 0, .int .i64 0, .int .i64 0]
def opV (k : Int) : Value := .agg #[.int .i64 1, .int .i64 0, .int .i64 0, .int .i64 0, .int .i64 0, .int .i64 0, .int .i64 k, .int .u64 0, .float .f64 0]
set_option maxRecDepth 100000 in
set_option maxHeartbeats 800000 in
theorem aud_asks (k : Int) (w : World) : Calls Try.prog 16 #[.pointer (some ⟨m, 0, none⟩), opV k] w fun e w' => e = .returned (.tuple #[repV 0, .bool false]) ∧ Gr w w' := by
  have r1 := new2 w (.cells #[.int .i64 1, .int .i64 0, .int .i64 0, .int .i64 0, .int .i64 0, .int .i64 0, .int .i64 k, .int .u64 0, .float .f64 0] 35) 37 [.int .i64 0, .bool false, .int .i64 0, .int .u64 0, .int .i64 0, .int .i64 0, .int .i64 0]
  have hl := hid (load_reply _ _ _ _ _ _ _ _ _ (r1.cell (j := 0) rfl) (r1.cell (j := 1) rfl) (r1.cell (j := 2) rfl) (r1.cell (j := 3) rfl) (r1.cell (j := 4) rfl) (r1.cell (j := 5) rfl) (r1.cell (j := 6) rfl))
  clear r1
  unfold opV repV
  go_enter Try.func16, Try.ntmps16
  go_wp2
  refine bodyPost_ret (v := .tuple #[.agg #[.int .i64 0, .bool false, .int .i64 0, .int .u64 0, .int .i64 0, .int .i64 0, .int .i64 0], .bool false]) ?_ rfl ⟨rfl, ((Gr.refl w).alloc _).alloc _⟩
  simp [results, Try.results16, asAddr, Result.andThen, go_sem]
set_option maxRecDepth 100000 in
set_option maxHeartbeats 1600000 in
theorem aud_alloc_no (h : AudAt w m b 4) : Calls Try.prog 40 #[.pointer (some ⟨m, 0, none⟩), .int .i64 0, hdrV ⟨0, 0, 4⟩] w fun e w' => e = .returned (.int .i64 21) ∧ Gr w w' := by
  have H := hid h
  have HC := hid (fun W => hdr_check ⟨0, 0, 4⟩ W)
  have HZ := hid (fun W => hdr_size ⟨0, 0, 4⟩ W)
  have HN := hid (new2 w (.cells #[.int .i64 0, .int .i64 0, .int .i64 4] 31) 3 [.int .i64 0])
  have HR := hid (Rec.new w 31 [.int .i64 0, .int .i64 0, .int .i64 4])
  rw [show hdrE ⟨0, 0, 4⟩ = 0 by decide +kernel] at HC
  rw [show hdrN ⟨0, 0, 4⟩ = 5 by decide +kernel] at HZ
  unfold hdrV at HC HZ ⊢
  clear h
  go_enter Try.func40, Try.ntmps40
  go_wp2_with (first
    | (go_at_call 36; refine (aud_in (H.out.gr (((Gr.refl w).alloc _).alloc _)) (HN.out.cell (j := 0) rfl)).mono ?_; rintro e w1 ⟨rfl, rfl⟩)
    | (go_at_call 49; refine (HC.out _).mono ?_; rintro e w2 ⟨rfl, hg2⟩; have HG2 := hid ((((Gr.refl w).alloc _).alloc _).trans hg2); have HR2 := hid (HR.out.gr (((Gr.refl _).alloc _).trans hg2)); clear hg2)
    | (go_at_call 12; refine (aud_live (H.out.gr HG2.out)).mono ?_; rintro e w3 ⟨rfl, hg3⟩; have HG3 := hid (HG2.out.trans hg3); have HR3 := hid (HR2.out.gr hg3); clear hg3))
  have y0 : ∀ xs n, (grow w3 xs n).cell? ⟨w.heap.size, 0, none⟩ = some (.int .i64 0) := fun xs n => (HR3.out.gr (grown w3 xs n)).cell (j := 0) rfl
  have y1 : ∀ xs n, (grow w3 xs n).cell? ⟨w.heap.size, 1, none⟩ = some (.int .i64 0) := fun xs n => (HR3.out.gr (grown w3 xs n)).cell (j := 1) rfl
  have y2 : ∀ xs n, (grow w3 xs n).cell? ⟨w.heap.size, 2, none⟩ = some (.int .i64 4) := fun xs n => (HR3.out.gr (grown w3 xs n)).cell (j := 2) rfl
  have z0 : ∀ xs n, (grow w3 xs n).cell? ⟨m, 0, none⟩ = some (.int .i64 4) := fun xs n => ((H.out.gr HG3.out).gr (grown w3 xs n)).rm.cell (j := 0) rfl
  refine wp_region_by (by kernel_rfl) (by kernel_rfl) ?_
  repeat (go_big_quiet_step ((go_at_call 30; exact Gets.grown (HZ.out _))))
  refine wpQuiet_nil ?_
  intro _ hw'
  obtain ⟨⟨xs, nq⟩, hw''⟩ := hw'
  subst hw''
  go_wp2
  go_ret
  exact ⟨rfl, HG3.out.trans (grown w3 _ _)⟩
set_option maxRecDepth 100000 in
set_option maxHeartbeats 1600000 in
theorem aud_alloc_ok (h : AudAt w m b 4) : Calls Try.prog 40 #[.pointer (some ⟨m, 0, none⟩), .int .i64 0, hdrV ⟨0, 0, 3⟩] w fun e w' => e = .returned (.int .i64 0) ∧ Touch (fun i => i = b) w w' := by
  have H := hid h
  have HC := hid (fun W => hdr_check ⟨0, 0, 3⟩ W)
  have HZ := hid (fun W => hdr_size ⟨0, 0, 3⟩ W)
  have HN := hid (new2 w (.cells #[.int .i64 0, .int .i64 0, .int .i64 3] 31) 3 [.int .i64 0])
  have HR := hid (Rec.new w 31 [.int .i64 0, .int .i64 0, .int .i64 3])
  rw [show hdrE ⟨0, 0, 3⟩ = 0 by decide +kernel] at HC
  rw [show hdrN ⟨0, 0, 3⟩ = 4 by decide +kernel] at HZ
  unfold hdrV at HC HZ ⊢
  clear h
  go_enter Try.func40, Try.ntmps40
  go_wp2_with (first
    | (go_at_call 36; refine (aud_in (H.out.gr (((Gr.refl w).alloc _).alloc _)) (HN.out.cell (j := 0) rfl)).mono ?_; rintro e w1 ⟨rfl, rfl⟩)
    | (go_at_call 49; refine (HC.out _).mono ?_; rintro e w2 ⟨rfl, hg2⟩; have HG2 := hid ((((Gr.refl w).alloc _).alloc _).trans hg2); have HR2 := hid (HR.out.gr (((Gr.refl _).alloc _).trans hg2)); clear hg2)
    | (go_at_call 12; refine (aud_live (H.out.gr HG2.out)).mono ?_; rintro e w3 ⟨rfl, hg3⟩; have HG3 := hid (HG2.out.trans hg3); have HR3 := hid (HR2.out.gr hg3); clear hg3))
  have y0 : ∀ xs n, (grow w3 xs n).cell? ⟨w.heap.size, 0, none⟩ = some (.int .i64 0) := fun xs n => (HR3.out.gr (grown w3 xs n)).cell (j := 0) rfl
  have y1 : ∀ xs n, (grow w3 xs n).cell? ⟨w.heap.size, 1, none⟩ = some (.int .i64 0) := fun xs n => (HR3.out.gr (grown w3 xs n)).cell (j := 1) rfl
  have y2 : ∀ xs n, (grow w3 xs n).cell? ⟨w.heap.size, 2, none⟩ = some (.int .i64 3) := fun xs n => (HR3.out.gr (grown w3 xs n)).cell (j := 2) rfl
  have z0 : ∀ xs n, (grow w3 xs n).cell? ⟨m, 0, none⟩ = some (.int .i64 4) := fun xs n => ((H.out.gr HG3.out).gr (grown w3 xs n)).rm.cell (j := 0) rfl
  refine wp_region_by (by kernel_rfl) (by kernel_rfl) ?_
  repeat (go_big_quiet_step ((go_at_call 30; exact Gets.grown (HZ.out _))))
  refine wpQuiet_nil ?_
  intro _ hw'
  obtain ⟨⟨xs, nq⟩, hw''⟩ := hw'
  subst hw''
  have H4 := hid ((H.out.gr HG3.out).gr (grown w3 xs nq))
  have HR4 := hid (HR3.out.gr (grown w3 xs nq))
  have HG4 := hid (HG3.out.trans (grown w3 xs nq))
  obtain ⟨w4, hw4⟩ : ∃ w4, w4 = grow w3 xs nq := ⟨_, rfl⟩
  rw [← hw4] at H4 HR4 HG4 ⊢
  clear y0 y1 y2 z0 hw4
  go_wp2
  have y0 := HR4.out.cell (j := 0) rfl
  have y1 := HR4.out.cell (j := 1) rfl
  have y2 := HR4.out.cell (j := 2) rfl
  have z1 := H4.out.rm.cell (j := 1) rfl
  have zb := H4.out.c
  have zf := H4.out.f
  have hmk0 : ∀ w : World, (Instr.makeSlice 53 (.int .i64 0) (.int .i64 0)).run Try.prog w = .ok (.slice (some ⟨w.heap.size, 0, none⟩) 0 0) (w.alloc (.cells #[] 80)) := fun _ => by kernel_rfl
  have hmk3 : ∀ w : World, (Instr.makeSlice 73 (.int .i64 3) (.int .i64 3)).run Try.prog w = .ok (.slice (some ⟨w.heap.size, 0, none⟩) 3 3) (w.alloc (.cells #[.int .u64 0, .int .u64 0, .int .u64 0] 32)) := fun _ => by kernel_rfl
  have hl0 := HR4.out.lt
  have hl1 := H4.out.rm.lt
  have hl2 := lt_cell zb
  have x0 : ∀ o, (w4.alloc o).cell? ⟨w.heap.size, 0, none⟩ = some (.int .i64 0) := fun o => (((Gr.refl w4).alloc o).cell hl0 0).trans y0
  have x1 : ∀ o, (w4.alloc o).cell? ⟨w.heap.size, 1, none⟩ = some (.int .i64 0) := fun o => (((Gr.refl w4).alloc o).cell hl0 1).trans y1
  have x2 : ∀ o, (w4.alloc o).cell? ⟨w.heap.size, 2, none⟩ = some (.int .i64 3) := fun o => (((Gr.refl w4).alloc o).cell hl0 2).trans y2
  have x3 : ∀ o, (w4.alloc o).cell? ⟨m, 1, none⟩ = some (.slice (some ⟨b, 0, none⟩) 1 1) := fun o => (((Gr.refl w4).alloc o).cell hl1 1).trans z1
  have x4 : ∀ o o', ((w4.alloc o).alloc o').cell? ⟨m, 1, none⟩ = some (.slice (some ⟨b, 0, none⟩) 1 1) := fun o o' => ((((Gr.refl w4).alloc o).alloc o').cell hl1 1).trans z1
  have x5 : ∀ o o' o2, (((w4.alloc o).alloc o').alloc o2).cell? ⟨m, 1, none⟩ = some (.slice (some ⟨b, 0, none⟩) 1 1) := fun o o' o2 => (((((Gr.refl w4).alloc o).alloc o').alloc o2).cell hl1 1).trans z1
  have x6 : ∀ o o' o2, (((w4.alloc o).alloc o').alloc o2).cell? ⟨b, 0, none⟩ = some (.pointer none) := fun o o' o2 => (((((Gr.refl w4).alloc o).alloc o').alloc o2).cell hl2 0).trans zb
  have x7 : ∀ o o' o2, (((w4.alloc o).alloc o').alloc o2).frozen? ⟨b, 0, none⟩ = false := fun o o' o2 => (((((Gr.refl w4).alloc o).alloc o').alloc o2).frozen hl2 0).trans zf
  go_region
  all_goals go_wp2
  all_goals go_ret
  all_goals exact ⟨rfl, ((((((HG4.out.touch (fun i => i = b)).alloc _).alloc _).alloc _).setCell (a := ⟨b, 0, none⟩) (fun _ => rfl) _)).drew⟩
set_option maxRecDepth 100000 in
set_option maxHeartbeats 800000 in
theorem aud_turns_no (h : AudAt w m b 4) : Calls Try.prog 17 #[.pointer (some ⟨m, 0, none⟩), opV 4] w fun e w' => e = .returned (.int .i64 21) ∧ Gr w w' := by
  have H := hid h
  unfold opV
  have HA := hid (fun W (g : Gr w W) => aud_alloc_no (h.gr g))
  unfold hdrV at HA
  clear h
  go_enter Try.func17, Try.ntmps17
  go_wp2_with (go_at_call 40; refine (HA.out _ ((Gr.refl w).alloc _)).mono ?_; rintro e w1 ⟨rfl, hg1⟩; have HG1 := hid hg1; clear hg1)
  go_ret
  exact ⟨rfl, ((Gr.refl w).alloc _).trans HG1.out⟩
set_option maxRecDepth 100000 in
set_option maxHeartbeats 800000 in
theorem aud_turns_ok (h : AudAt w m b 4) : Calls Try.prog 17 #[.pointer (some ⟨m, 0, none⟩), opV 3] w fun e w' => e = .returned (.int .i64 0) ∧ Touch (fun i => i = b) w w' := by
  have H := hid h
  unfold opV
  have HA := hid (fun W (g : Gr w W) => aud_alloc_ok (h.gr g))
  unfold hdrV at HA
  clear h
  go_enter Try.func17, Try.ntmps17
  go_wp2_with (go_at_call 40; refine (HA.out _ ((Gr.refl w).alloc _)).mono ?_; rintro e w1 ⟨rfl, hg1⟩; have HG1 := hid hg1; clear hg1)
  go_ret
  exact ⟨rfl, ((Touch.refl _ w).alloc _).trans HG1.out⟩
set_option maxRecDepth 100000 in
set_option maxHeartbeats 1600000 in
theorem aud_do_no (h : AudAt w m b 4) : Calls Try.prog 8 #[.pointer (some ⟨m, 0, none⟩), opV 4] w fun e w' => e = .returned (repV 21) ∧ Gr w w' := by
  have H := hid h
  have HA := hid (fun W => aud_asks (m := m) 4 W)
  have HT := hid (fun W (g : Gr w W) => aud_turns_no (h.gr g))
  have HR := hid (fun (W : World) (g : Gr (w.alloc (.cells #[.int .i64 1, .int .i64 0, .int .i64 0, .int .i64 0, .int .i64 0, .int .i64 0, .int .i64 4, .int .u64 0, .float .f64 0] 35)) W) => (Rec.new w 35 [.int .i64 1, .int .i64 0, .int .i64 0, .int .i64 0, .int .i64 0, .int .i64 0, .int .i64 4, .int .u64 0, .float .f64 0]).gr g)
  have HP := hid (new2 w (.cells #[.int .i64 1, .int .i64 0, .int .i64 0, .int .i64 0, .int .i64 0, .int .i64 0, .int .i64 4, .int .u64 0, .float .f64 0] 35) 37 [.int .i64 0, .bool false, .int .i64 0, .int .u64 0, .int .i64 0, .int .i64 0, .int .i64 0])
  unfold opV repV at *
  clear h
  go_enter Try.func8, Try.ntmps8
  go_wp2_with (first
    | (go_at_call 16; refine (HA.out _).mono ?_; rintro e w1 ⟨rfl, hg1⟩; have HR1 := hid (HR.out w1 (((Gr.refl _).alloc _).trans hg1)); have HP1 := hid (HP.out.gr hg1); have HG1 := hid ((((Gr.refl w).alloc _).alloc _).trans hg1); have y0 := HR1.out.cell (j := 0) rfl; have y1 := HR1.out.cell (j := 1) rfl; have y2 := HR1.out.cell (j := 2) rfl; have y3 := HR1.out.cell (j := 3) rfl; have y4 := HR1.out.cell (j := 4) rfl; have y5 := HR1.out.cell (j := 5) rfl; have y6 := HR1.out.cell (j := 6) rfl; have y7 := HR1.out.cell (j := 7) rfl; have y8 := HR1.out.cell (j := 8) rfl; have hlt1 := HR1.out.lt; clear hg1)
    | (go_at_call 17; refine (HT.out _ (HG1.out.alloc _)).mono ?_; rintro e w2 ⟨rfl, hg2⟩; have HP2 := hid ((HP1.out.gr ((Gr.refl _).alloc _)).gr hg2); have HG2 := hid (((HG1.out.alloc _).trans hg2).touch (fun k => w.heap.size ≤ k)); have z0 := HP2.out.cell (j := 0) rfl; have z1 := HP2.out.cell (j := 1) rfl; have z2 := HP2.out.cell (j := 2) rfl; have z3 := HP2.out.cell (j := 3) rfl; have z4 := HP2.out.cell (j := 4) rfl; have z5 := HP2.out.cell (j := 5) rfl; have z6 := HP2.out.cell (j := 6) rfl; have zf := HP2.out.free; clear hg2))
  have R := (Rec.set (Rec.set (Rec.set (Rec.set (Rec.set (Rec.set (Rec.set HP2.out 0 (.int .i64 21)) 1 (.bool false)) 2 (.int .i64 0)) 3 (.int .u64 0)) 4 (.int .i64 0)) 5 (.int .i64 0)) 6 (.int .i64 0))
  have hl := load_reply _ _ _ _ _ _ _ _ _ (R.cell (j := 0) rfl) (R.cell (j := 1) rfl) (R.cell (j := 2) rfl) (R.cell (j := 3) rfl) (R.cell (j := 4) rfl) (R.cell (j := 5) rfl) (R.cell (j := 6) rfl)
  refine bodyPost_ret (v := .agg #[.int .i64 21, .bool false, .int .i64 0, .int .u64 0, .int .i64 0, .int .i64 0, .int .i64 0]) ?_ rfl ⟨rfl, ?_⟩
  · simp [results, Try.results8, asAddr, hl]
  · exact (touch_old' (((((((HG2.out.setCell (a := ⟨w.heap.size + 1, 0, none⟩) (fun _ => Nat.le_succ _) (.int .i64 21)).setCell (a := ⟨w.heap.size + 1, 1, none⟩) (fun _ => Nat.le_succ _) (.bool false)).setCell (a := ⟨w.heap.size + 1, 2, none⟩) (fun _ => Nat.le_succ _) (.int .i64 0)).setCell (a := ⟨w.heap.size + 1, 3, none⟩) (fun _ => Nat.le_succ _) (.int .u64 0)).setCell (a := ⟨w.heap.size + 1, 4, none⟩) (fun _ => Nat.le_succ _) (.int .i64 0)).setCell (a := ⟨w.heap.size + 1, 5, none⟩) (fun _ => Nat.le_succ _) (.int .i64 0)).setCell (a := ⟨w.heap.size + 1, 6, none⟩) (fun _ => Nat.le_succ _) (.int .i64 0)))
set_option maxRecDepth 100000 in
set_option maxHeartbeats 1600000 in
theorem aud_do_ok (h : AudAt w m b 4) : Calls Try.prog 8 #[.pointer (some ⟨m, 0, none⟩), opV 3] w fun e w' => e = .returned (repV 0) ∧ Touch (fun i => i = b) w w' := by
  have H := hid h
  have HA := hid (fun W => aud_asks (m := m) 3 W)
  have HT := hid (fun W (g : Gr w W) => aud_turns_ok (h.gr g))
  have HR := hid (fun (W : World) (g : Gr (w.alloc (.cells #[.int .i64 1, .int .i64 0, .int .i64 0, .int .i64 0, .int .i64 0, .int .i64 0, .int .i64 3, .int .u64 0, .float .f64 0] 35)) W) => (Rec.new w 35 [.int .i64 1, .int .i64 0, .int .i64 0, .int .i64 0, .int .i64 0, .int .i64 0, .int .i64 3, .int .u64 0, .float .f64 0]).gr g)
  have HP := hid (new2 w (.cells #[.int .i64 1, .int .i64 0, .int .i64 0, .int .i64 0, .int .i64 0, .int .i64 0, .int .i64 3, .int .u64 0, .float .f64 0] 35) 37 [.int .i64 0, .bool false, .int .i64 0, .int .u64 0, .int .i64 0, .int .i64 0, .int .i64 0])
  unfold opV repV at *
  clear h
  go_enter Try.func8, Try.ntmps8
  go_wp2_with (first
    | (go_at_call 16; refine (HA.out _).mono ?_; rintro e w1 ⟨rfl, hg1⟩; have HR1 := hid (HR.out w1 (((Gr.refl _).alloc _).trans hg1)); have HP1 := hid (HP.out.gr hg1); have HG1 := hid ((((Gr.refl w).alloc _).alloc _).trans hg1); have y0 := HR1.out.cell (j := 0) rfl; have y1 := HR1.out.cell (j := 1) rfl; have y2 := HR1.out.cell (j := 2) rfl; have y3 := HR1.out.cell (j := 3) rfl; have y4 := HR1.out.cell (j := 4) rfl; have y5 := HR1.out.cell (j := 5) rfl; have y6 := HR1.out.cell (j := 6) rfl; have y7 := HR1.out.cell (j := 7) rfl; have y8 := HR1.out.cell (j := 8) rfl; have hlt1 := HR1.out.lt; clear hg1)
    | (go_at_call 17; refine (HT.out _ (HG1.out.alloc _)).mono ?_; rintro e w2 ⟨rfl, hg2⟩; have HP2 := hid ((HP1.out.gr ((Gr.refl _).alloc _)).touch hg2 (fun e => by have := H.out.bm; have := H.out.rm.lt; omega)); have HG2 := hid (((HG1.out.alloc _).touch _).trans hg2); have z0 := HP2.out.cell (j := 0) rfl; have z1 := HP2.out.cell (j := 1) rfl; have z2 := HP2.out.cell (j := 2) rfl; have z3 := HP2.out.cell (j := 3) rfl; have z4 := HP2.out.cell (j := 4) rfl; have z5 := HP2.out.cell (j := 5) rfl; have z6 := HP2.out.cell (j := 6) rfl; have zf := HP2.out.free; clear hg2))
  have R := (Rec.set (Rec.set (Rec.set (Rec.set (Rec.set (Rec.set (Rec.set HP2.out 0 (.int .i64 0)) 1 (.bool false)) 2 (.int .i64 0)) 3 (.int .u64 0)) 4 (.int .i64 0)) 5 (.int .i64 0)) 6 (.int .i64 0))
  have hl := load_reply _ _ _ _ _ _ _ _ _ (R.cell (j := 0) rfl) (R.cell (j := 1) rfl) (R.cell (j := 2) rfl) (R.cell (j := 3) rfl) (R.cell (j := 4) rfl) (R.cell (j := 5) rfl) (R.cell (j := 6) rfl)
  refine bodyPost_ret (v := .agg #[.int .i64 0, .bool false, .int .i64 0, .int .u64 0, .int .i64 0, .int .i64 0, .int .i64 0]) ?_ rfl ⟨rfl, ?_⟩
  · simp [results, Try.results8, asAddr, hl]
  · exact (((((((HG2.out.setCell (a := ⟨w.heap.size + 1, 0, none⟩) (fun h => absurd h (by show ¬ (w.heap.size + 1 < w.heap.size); omega)) (.int .i64 0)).setCell (a := ⟨w.heap.size + 1, 1, none⟩) (fun h => absurd h (by show ¬ (w.heap.size + 1 < w.heap.size); omega)) (.bool false)).setCell (a := ⟨w.heap.size + 1, 2, none⟩) (fun h => absurd h (by show ¬ (w.heap.size + 1 < w.heap.size); omega)) (.int .i64 0)).setCell (a := ⟨w.heap.size + 1, 3, none⟩) (fun h => absurd h (by show ¬ (w.heap.size + 1 < w.heap.size); omega)) (.int .u64 0)).setCell (a := ⟨w.heap.size + 1, 4, none⟩) (fun h => absurd h (by show ¬ (w.heap.size + 1 < w.heap.size); omega)) (.int .i64 0)).setCell (a := ⟨w.heap.size + 1, 5, none⟩) (fun h => absurd h (by show ¬ (w.heap.size + 1 < w.heap.size); omega)) (.int .i64 0)).setCell (a := ⟨w.heap.size + 1, 6, none⟩) (fun h => absurd h (by show ¬ (w.heap.size + 1 < w.heap.size); omega)) (.int .i64 0))
end
set_option maxRecDepth 100000 in
theorem aud_do_nil (a0 a1 a2 a3 a4 a5 a6 a7 a8 : Value) (w : World) : Calls Try.prog 8 #[.pointer none, .agg #[a0, a1, a2, a3, a4, a5, a6, a7, a8]] w fun e w' => e = .returned (repV 9) ∧ Gr w w' := by
  unfold repV
  have r1 := new2 w (.cells #[a0, a1, a2, a3, a4, a5, a6, a7, a8] 35) 37 [.int .i64 9, .bool false, .int .i64 0, .int .u64 0, .int .i64 0, .int .i64 0, .int .i64 0]
  have hl := hid (load_reply _ _ _ _ _ _ _ _ _ (r1.cell (j := 0) rfl) (r1.cell (j := 1) rfl) (r1.cell (j := 2) rfl) (r1.cell (j := 3) rfl) (r1.cell (j := 4) rfl) (r1.cell (j := 5) rfl) (r1.cell (j := 6) rfl))
  clear r1
  go_enter Try.func8, Try.ntmps8
  go_wp2
  refine bodyPost_ret (v := .agg #[.int .i64 9, .bool false, .int .i64 0, .int .u64 0, .int .i64 0, .int .i64 0, .int .i64 0]) ?_ rfl ⟨rfl, ((Gr.refl w).alloc _).alloc _⟩
  simp [results, Try.results8, asAddr, Result.andThen, go_sem]
set_option maxRecDepth 100000 in
theorem aud_graph_nil (w : World) : Calls Try.prog 14 #[.pointer none] w fun e w' => e = .returned (.agg #[.slice none 0 0, .slice none 0 0]) ∧ Gr w w' := by
  go_enter Try.func14, Try.ntmps14
  go_wp2
  refine bodyPost_ret (v := .agg #[.slice none 0 0, .slice none 0 0]) ?_ rfl ⟨rfl, ((Gr.refl w).alloc _).alloc _⟩
  simp [results, Try.results14, asAddr, Result.andThen, go_sem]
set_option maxRecDepth 100000 in
set_option maxHeartbeats 1600000 in
theorem lives33 (w : World) : Gets Try.prog 6 #[] w (.bool true) := by
  have H4 := hid (fun (W : World) (m b : Nat) (h : AudAt W m b 4) => aud_do_no h)
  have H3 := hid (fun (W : World) (m b : Nat) (h : AudAt W m b 4) => aud_do_ok h)
  unfold opV repV at H4 H3
  unfold Gets
  go_enter Try.func6, Try.ntmps6
  go_upto_region 4 with (go_at_call 5; refine (aud_new _).mono ?_; rintro e w1 ⟨rfl, hg1, ha1⟩; have HG1 := hid hg1; have HA1 := hid ha1; clear hg1 ha1)
  go_upto_region 5 with (go_at_call 8; refine (H4.out _ _ _ HA1.out).mono ?_; rintro e w2 ⟨rfl, hg2⟩; have HG2 := hid (HG1.out.trans hg2); have HA2 := hid (HA1.out.gr hg2); clear hg2)
  obtain ⟨q3, hq3⟩ : ∃ q3, q3 = w2.heap.size := ⟨_, rfl⟩
  obtain ⟨W3, hW3⟩ : ∃ W3, W3 = w2.alloc (.cells #[.int .i64 21, .bool false, .int .i64 0, .int .u64 0, .int .i64 0, .int .i64 0, .int .i64 0] 37) := ⟨_, rfl⟩
  have hR := Rec.new w2 37 [.int .i64 21, .bool false, .int .i64 0, .int .u64 0, .int .i64 0, .int .i64 0, .int .i64 0]
  have hG3 : Gr w W3 := by rw [hW3]; exact HG2.out.alloc _
  have hA3 : AudAt W3 (w.heap.size + 1) w.heap.size 4 := by rw [hW3]; exact HA2.out.gr ((Gr.refl _).alloc _)
  have hq : w.heap.size < q3 := by rw [hq3]; exact Nat.lt_of_lt_of_le (by simp) (Nat.le_of_lt HA2.out.rm.lt)
  rw [← hq3] at hR
  rw [show w2.alloc (.cells ([.int .i64 21, .bool false, .int .i64 0, .int .u64 0, .int .i64 0, .int .i64 0, .int .i64 0] : List Value).toArray 37) = W3 from hW3.symm] at hR
  rw [← hq3, ← hW3]
  have HQ := hid hq
  have HG3 := hid hG3
  have HA3 := hid hA3
  have HR3 := hid hR
  clear hq hW3 hG3 hA3 hR hq3
  go_wp2_with (go_at_call 8; refine (H3.out _ _ _ HA3.out).mono ?_; rintro e w4 ⟨rfl, hg4⟩; have HR4 := hid (HR3.out.touch hg4 (fun e => by have := HQ.out; omega)); have HG4 := hid ((HG3.out.touch (fun k => w.heap.size ≤ k)).trans (hg4.mono (fun k _ e => by omega))); have y0 := HR4.out.cell (j := 0) rfl; have hlt4 := HR4.out.lt; clear hg4)
  go_ret
  exact ⟨rfl, touch_old' (HG4.out.alloc _)⟩
set_option maxRecDepth 100000 in
set_option maxHeartbeats 1600000 in
theorem nobody33_walk (a0 a1 a2 a3 a4 a5 a6 a7 a8 : Value) (w : World) : Gets Try.prog 4 #[.agg #[a0, a1, a2, a3, a4, a5, a6, a7, a8]] w (.bool true) := by
  have HD := hid (aud_do_nil a0 a1 a2 a3 a4 a5 a6 a7 a8)
  have HR := hid (Rec.new w 35 [a0, a1, a2, a3, a4, a5, a6, a7, a8])
  unfold repV at HD
  unfold Gets
  go_enter Try.func4, Try.ntmps4
  go_upto_region 4 with (first
    | (go_at_call 12; refine (aud_live_nil _).mono ?_; rintro e w1 ⟨rfl, rfl⟩)
    | (go_at_call 14; refine (aud_graph_nil _).mono ?_; rintro e w2 ⟨rfl, hg2⟩; have HG2 := hid (((Gr.refl w).alloc _).trans hg2); have HR2 := hid (HR.out.gr hg2); clear hg2))
  have hR2 := HR2.out.gr ((Gr.refl w2).alloc (.cells #[.slice none 0 0, .slice none 0 0] 49))
  have hQ2 := Rec.new w2 49 [.slice none 0 0, .slice none 0 0]
  have hG2 := HG2.out.alloc (.cells #[.slice none 0 0, .slice none 0 0] 49)
  obtain ⟨q3, hq3⟩ : ∃ q3, q3 = w2.heap.size := ⟨_, rfl⟩
  obtain ⟨W3, hW3⟩ : ∃ W3, W3 = w2.alloc (.cells #[.slice none 0 0, .slice none 0 0] 49) := ⟨_, rfl⟩
  rw [show w2.alloc (.cells ([.slice none 0 0, .slice none 0 0] : List Value).toArray 49) = W3 from hW3.symm] at hQ2
  rw [← hW3] at hR2 hG2
  rw [← hq3] at hQ2
  rw [← hq3, ← hW3]
  have y0 := hR2.cell (j := 0) rfl
  have y1 := hR2.cell (j := 1) rfl
  have y2 := hR2.cell (j := 2) rfl
  have y3 := hR2.cell (j := 3) rfl
  have y4 := hR2.cell (j := 4) rfl
  have y5 := hR2.cell (j := 5) rfl
  have y6 := hR2.cell (j := 6) rfl
  have y7 := hR2.cell (j := 7) rfl
  have y8 := hR2.cell (j := 8) rfl
  have HG3 := hid hG2
  have HQ3 := hid hQ2
  clear hR2 hQ2 hG2 hW3 hq3
  go_wp2_with (first
    | (go_at_call 8; refine (HD.out _).mono ?_; rintro e w4 ⟨rfl, hg4⟩; have HG4 := hid (HG3.out.trans hg4); have HQ4 := hid (HQ3.out.gr hg4); have z0 := HQ4.out.cell (j := 0) rfl; have z1 := HQ4.out.cell (j := 1) rfl; clear hg4)
    | (go_at_call 6; refine (lives33 _).mono ?_; rintro e w5 ⟨rfl, hg5⟩; have HG5 := hid (HG4.out.trans hg5); clear hg5))
  go_ret
  exact ⟨rfl, HG5.out⟩
end Go.Proofs.Ytlkifhoedfjlaaa
