/- The example of layer 13's statements; what a nil map tells. -/
import Derived.Test.YtlbbkpjfoabobaaDoorExtW
namespace Go.Proofs.YtlbbkpjfoabobaaDoor
open Go.RowKit Go.Shelf Word
attribute [local go_sem] Oper.semAt_some

theorem ext_live_nil (f t : Int) (w : World) : Calls Tryd.prog 45 #[.pointer none, .int .i64 f, .int .i64 t] w fun e w' => e = .returned (.int .i64 0) ∧ w = w' := by
  go_enter Tryd.func45, Tryd.ntmps45
  go_wp2_with (go_at_call 90; refine (ext_none_nil _).mono ?_; rintro e w' ⟨rfl, rfl⟩)
  go_ret
  exact ⟨rfl, rfl⟩
set_option maxRecDepth 100000 in
set_option maxHeartbeats 3200000 in
theorem ext_word_none {w : World} (k : Int) (hk : 0 ≤ k) : Gets Tryd.prog 44 #[.pointer none, .int .i64 k] w (.tuple #[.int .i64 0, .bool false]) := by
  have d0 : decide (k < 0) = false := by simp; omega
  unfold Gets
  refine (callsIn_wide (n := 5)).1 ?_
  refine callsIn_of_wp_marks Tryd.func44 rfl trivial ?_ rfl
  simp only [Tryd.ntmps44, List.size_toArray, List.length_cons, List.length_nil, Nat.reduceAdd, Nat.reduceSub, Array.replicate_succ, Array.replicate_zero, List.push_toArray, List.append_toArray, List.nil_append, List.cons_append]
  gi_wp2_with (refine ⟨trivial, ?_⟩; gi_at_call 43; refine (callsIn_wide.2 (all_call none)).mono ?_; rintro e w1 ⟨rfl, rfl⟩)
  obtain ⟨W2, hW2, hg2, hs2, hb1, hb2, hb3⟩ := box3 (w := w) (.int .i64 k) (.int .i64 0) (.bool false) 3 3 4
  rw [← hW2]
  obtain ⟨W0, hW0⟩ : ∃ W0, W0 = W2.alloc (.cells #[.pointer none] 61) := ⟨_, rfl⟩
  have hg0 : Gr w W0 := by rw [hW0]; exact hg2.alloc _
  have hsz : W0.heap.size = w.heap.size + 4 := by rw [hW0]; simp; omega
  have k2 : Boxed W0 (w.heap.size + 1) 3 (.int .i64 0) := by rw [hW0]; exact hb2.alloc _
  have k3 : Boxed W0 (w.heap.size + 1 + 1) 4 (.bool false) := by rw [hW0]; exact hb3.alloc _
  have k4 : W0.cell? ⟨w.heap.size + 1 + 1 + 1, 0, none⟩ = some (.pointer none) := by
    rw [hW0]
    have := (Boxed.new W2 61 (.pointer none)).cell
    rwa [show W2.heap.size = w.heap.size + 1 + 1 + 1 by omega] at this
  rw [← hW0]
  clear hW2 hW0 hg2 hs2 hb1 hb2 hb3
  refine range_lawT (s0 := ()) rfl (by omega) (gf := 91) (lb := #[.pointer (some ⟨w.heap.size + 1 + 1 + 1, 0, none⟩)]) rfl trivial (enters_of Tryd.func91 (by kernel_rfl) rfl)
    (all_seq_nil _ (w.heap.size + 1 + 1 + 1) _) (fun _ => rfl) (fun _ A => Touch (fun i => W0.heap.size ≤ i) W0 A) (fun _ _ => False)
    (fun _ A B h t => h.trans t) (fun _ _ _ h _ => h) (fun _ A h => (h.cell (by omega) (by omega) 0).trans k4) (Touch.refl _ _)
    (fun _ _ _ _ _ _ h => h.elim) ?done (fun _ _ _ _ h _ => h.elim)
  case done =>
    rintro D s W3 hD - ht hK
    have y1 := (ht.cell (b := w.heap.size + 1) (by omega) (by omega) 0).trans k2.cell
    have y2 := (ht.cell (b := w.heap.size + 1 + 1) (by omega) (by omega) 0).trans k3.cell
    have f1 := (ht.frozen (b := w.heap.size + 1) (by omega) (by omega) 0).trans k2.frozen
    have f2 := (ht.frozen (b := w.heap.size + 1 + 1) (by omega) (by omega) 0).trans k3.frozen
    have HK := hid hK
    have HD := hid hD
    have HT := hid ht
    have hs3 := ht.size
    clear hK hD ht
    gi_wp2
    have c1 : ((W3.setCell ⟨w.heap.size + 1, 0, none⟩ (.int .i64 0)).setCell ⟨w.heap.size + 1 + 1, 0, none⟩ (.bool false)).cell? ⟨w.heap.size + 1, 0, none⟩ = some (.int .i64 0) := by
      rw [World.cell?_setCell_other (h := by intro e; injection e with e1 _; omega)]
      exact World.cell?_setCell_same' W3 ⟨w.heap.size + 1, 0, none⟩ _ (by rw [y1]; rfl)
    have c2 : ((W3.setCell ⟨w.heap.size + 1, 0, none⟩ (.int .i64 0)).setCell ⟨w.heap.size + 1 + 1, 0, none⟩ (.bool false)).cell? ⟨w.heap.size + 1 + 1, 0, none⟩ = some (.bool false) := by
      refine World.cell?_setCell_same' _ ⟨w.heap.size + 1 + 1, 0, none⟩ _ ?_
      rw [World.cell?_setCell_other (h := by intro e; injection e with e1 _; omega), y2]; rfl
    have tt : Touch (fun i => i = w.heap.size + 1 ∨ i = w.heap.size + 1 + 1) W3 ((W3.setCell ⟨w.heap.size + 1, 0, none⟩ (.int .i64 0)).setCell ⟨w.heap.size + 1 + 1, 0, none⟩ (.bool false)) :=
      ((Touch.refl _ W3).setCell (a := ⟨w.heap.size + 1, 0, none⟩) (fun _ => .inl rfl) _).setCell (a := ⟨w.heap.size + 1 + 1, 0, none⟩) (fun _ => .inr rfl) _
    have hK' : ((W3.setCell ⟨w.heap.size + 1, 0, none⟩ (.int .i64 0)).setCell ⟨w.heap.size + 1 + 1, 0, none⟩ (.bool false)).heap[D]? = some (.deferred (some [])) :=
      (tt.block D (Array.getElem?_eq_some_iff.1 HK.out).1 (by have := HD.out; omega)).trans HK.out
    generalize (W3.setCell ⟨w.heap.size + 1, 0, none⟩ (.int .i64 0)).setCell ⟨w.heap.size + 1 + 1, 0, none⟩ (.bool false) = W5 at *
    refine ⟨by simp, .inl ⟨_, _, rfl, run_takeDeferred hK', ?_⟩⟩
    have h1' := cell_kept c1 (grownBy_putObj' _ D (.deferred none)) (fun r e => by cases e; exact ⟨_, hK', rfl⟩)
    have h2' := cell_kept c2 (grownBy_putObj' _ D (.deferred none)) (fun r e => by cases e; exact ⟨_, hK', rfl⟩)
    refine ⟨.tuple #[.int .i64 0, .bool false], ?_, rfl, ?_⟩
    · simp [results, Tryd.f44, go_sem, h1', h2']
    · exact ((((hg0.touch (fun _ => False)).trans' HT.out (fun i hi h => by omega)).trans' tt (fun i hi h => by omega)).trans' (touch_putObj _ D _ (Nat.le_refl D)) (fun i hi h => by have := HD.out; omega)).gr
theorem ext_word_nil {w : World} (k : Int) : Gets Tryd.prog 44 #[.pointer none, .int .i64 k] w (.tuple #[.int .i64 0, .bool false]) := by
  by_cases h : k < 0
  · exact ext_word_neg _ k h
  · exact ext_word_none k (by omega)

theorem live13_a : addE [] 10 3 3 = 0 ∧ addL [] 10 3 3 = [(3, 3)] := by decide +kernel
theorem live13_b : addE [(3, 3)] 10 6 1 = 0 ∧ addL [(3, 3)] 10 6 1 = [(3, 3), (6, 1)] := by decide +kernel
theorem live13_c : addE [(3, 3), (6, 1)] 10 5 1 = 7 ∧ addL [(3, 3), (6, 1)] 10 5 1 = [(3, 3), (6, 1)] := by decide +kernel
theorem live13_d : findO [(3, 3), (6, 1)] 5 = 0 ∧ wordV [(3, 3), (6, 1)] 3 = 6 ∧ wordY [(3, 3), (6, 1)] 3 = true ∧ overs [(3, 3), (6, 1)] 4 7 = 3 := by decide +kernel
set_option maxRecDepth 100000 in
set_option maxHeartbeats 3200000 in
theorem lives13 {w : World} (hT : TabAt w) : Gets Tryd.prog 40 #[] w (.bool true) := by
  have HT := hid hT
  have htl := hT.lt
  clear hT
  have HF : Hid (tellO [(3, 3), (6, 1)] (findO [(3, 3), (6, 1)] 5) = .tuple #[.int .i64 3, .int .i64 3, .bool true]) := ⟨by rw [live13_d.1]; rfl⟩
  unfold Gets
  go_enter Tryd.func40, Tryd.ntmps40
  go_wp2_with (first
    | (go_at_call 41; refine (ext_new 10 (by decide) (by decide) _).mono ?_; rintro e w1 ⟨m, p1, b1, p2, b2, rfl, hg1, hE1, s1, -, s3, -, s5⟩; have HS := hid (And.intro s1 (And.intro s3 s5)); have HG1 := hid hg1; have HE1 := hid hE1; clear hg1 hE1 s1 s3 s5)
    | (go_at_call 42; refine (ext_add HE3.out (HG3.out.tab htl HT.out) 5 1).mono ?_; rintro e w4 ⟨rfl, ht4, hE4⟩; rw [live13_c.1]; rw [live13_c.2] at hE4; have HG4 := hid ((HG3.out.touch (fun _ => False)).trans' ht4 (fun i hi h => by have := HS.out; unfold mine at h; omega)).gr; have HE4 := hid hE4; clear ht4 hE4)
    | (go_at_call 42; refine (ext_add HE2.out (HG2.out.tab htl HT.out) 6 1).mono ?_; rintro e w3 ⟨rfl, ht3, hE3⟩; rw [live13_b.1]; rw [live13_b.2] at hE3; have HG3 := hid ((HG2.out.touch (fun _ => False)).trans' ht3 (fun i hi h => by have := HS.out; unfold mine at h; omega)).gr; have HE3 := hid hE3; clear ht3 hE3)
    | (go_at_call 42; refine (ext_add HE1.out (HG1.out.tab htl HT.out) 3 3).mono ?_; rintro e w2 ⟨rfl, ht2, hE2⟩; rw [live13_a.1]; rw [live13_a.2] at hE2; have HG2 := hid ((HG1.out.touch (fun _ => False)).trans' ht2 (fun i hi h => by have := HS.out; unfold mine at h; omega)).gr; have HE2 := hid hE2; clear ht2 hE2)
    | (go_at_call 58; refine (ext_find HE4.out (HG4.out.tab htl HT.out) 5).mono ?_; rintro e w5 ⟨rfl, rfl⟩; rw [HF.out])
    | (go_at_call 44; refine (ext_word HE4.out (HG4.out.tab htl HT.out) 3 (by decide)).mono ?_; rintro e w6 ⟨rfl, hg6⟩; rw [live13_d.2.1, live13_d.2.2.1]; have HG6 := hid (HG4.out.trans hg6); have HE6 := hid (HE4.out.gr hg6); clear hg6)
    | (go_at_call 45; refine (ext_live HE6.out (HG6.out.tab htl HT.out) 4 7 (by decide) (by decide)).mono ?_; rintro e w7 ⟨rfl, rfl⟩; rw [live13_d.2.2.2]))
  go_ret
  exact ⟨rfl, HG6.out⟩
end Go.Proofs.YtlbbkpjfoabobaaDoor
