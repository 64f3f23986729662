/- ExtentNobody: the walk. -/
import Derived.Test.YtlbbkpjfoabobaaDoorLive13
import Derived.Test.YtlbbkpjfoabobaaDoorQuiet
namespace Go.Proofs.YtlbbkpjfoabobaaDoor
open Go.RowKit Go.Shelf Word
attribute [local go_sem] Oper.semAt_some

set_option maxRecDepth 100000 in
set_option maxHeartbeats 1600000 in
theorem nobody13_walk {W : World} (hT : TabAt W) (a b : Int) : Gets Tryd.prog 13 #[.int .i64 a, .int .i64 b] W (.bool true) := by
  have HT := hid hT
  clear hT
  unfold Gets
  have hfe : ∀ (q : Array Value) (w : World), (binOp BinOp.eql 67 (.func (.func 91) #[] q) .nilFunc).run Tryd.prog w = .ok (.bool false) w := fun _ _ => by kernel_rfl
  refine (callsIn_wide (n := 5)).1 ?_
  refine callsIn_of_wp_marks Tryd.func13 rfl trivial ?_ rfl
  simp only [Tryd.ntmps13, List.size_toArray, List.length_cons, List.length_nil, Nat.reduceAdd, Nat.reduceSub, Array.replicate_succ, Array.replicate_zero, List.push_toArray, List.append_toArray, List.nil_append, List.cons_append]
  gi_wp2_with (first
    | (refine ⟨trivial, ?_⟩; gi_at_call 58; refine (callsIn_wide.2 (ext_find_nil _ _)).mono ?_; rintro e w1 ⟨rfl, rfl⟩)
    | (refine ⟨trivial, ?_⟩; gi_at_call 61; refine (callsIn_wide.2 (ext_next_nil _ _)).mono ?_; rintro e w1 ⟨rfl, rfl⟩)
    | (refine ⟨trivial, ?_⟩; gi_at_call 54; refine (callsIn_wide.2 (ext_drop_nil _ _)).mono ?_; rintro e w1 ⟨rfl, rfl⟩)
    | (refine ⟨trivial, ?_⟩; gi_at_call 44; refine (callsIn_wide.2 (ext_word_nil a)).mono ?_; rintro e w1 ⟨rfl, hg1⟩; have HG1 := hid hg1; clear hg1)
    | (refine ⟨trivial, ?_⟩; gi_at_call 56; refine (callsIn_wide.2 (ext_wipe_nil _)).mono ?_; rintro e w2 ⟨rfl, rfl⟩)
    | (refine ⟨trivial, ?_⟩; gi_at_call 43; refine (callsIn_wide.2 (all_call none)).mono ?_; rintro e w1 ⟨rfl, rfl⟩))
  obtain ⟨W0, hW0⟩ : ∃ W0, W0 = w1.alloc (.cells #[.pointer none] 61) := ⟨_, rfl⟩
  have hs1 := HG1.out.size
  rw [World.size_alloc] at hs1
  have hg0 : Gr W W0 := by rw [hW0]; exact (((Gr.refl W).alloc _).trans HG1.out).alloc _
  have hsz : W0.heap.size = w1.heap.size + 1 := by rw [hW0]; simp
  have bR : Boxed W0 W.heap.size 4 (.bool false) := by
    rw [hW0]
    have b0 := Boxed.new W 4 (.bool false)
    have b1 : Boxed w1 W.heap.size 4 (.bool false) := (HG1.out.block (by rw [World.size_alloc]; omega)).trans b0
    exact b1.alloc _
  have hb0 : W0.cell? ⟨w1.heap.size, 0, none⟩ = some (.pointer none) := by rw [hW0]; exact (Boxed.new w1 61 (.pointer none)).cell
  rw [← hW0]
  refine range_lawT (s0 := ()) rfl (by omega) (gf := 91) (lb := #[.pointer (some ⟨w1.heap.size, 0, none⟩)]) rfl trivial (enters_of Tryd.func91 (by kernel_rfl) rfl)
    (all_seq_nil _ w1.heap.size _) (fun _ => rfl) (fun _ A => Touch (fun k => W0.heap.size ≤ k) W0 A) (fun _ _ => False)
    (fun _ A B h t => h.trans t) (fun _ _ _ h _ => h) (fun _ A h => (h.cell (by omega) (by omega) 0).trans hb0) (Touch.refl _ _)
    (fun _ _ _ _ _ _ h => h.elim) ?done (fun _ _ _ _ h _ => h.elim)
  case done =>
    rintro D s W3 hD - ht hK
    have hr3 := (ht.cell (b := W.heap.size) (by omega) (by omega) 0).trans bR.cell
    have hf3 := (ht.frozen (b := W.heap.size) (by omega) (by omega) 0).trans bR.frozen
    have HG3 := hid ((hg0.touch (fun _ => False)).trans' ht (fun i hi h => by omega)).gr
    have HK := hid hK
    have HD := hid hD
    clear hK ht hD hg0 hb0 hW0
    gi_wp2_with (first
      | (refine ⟨trivial, ?_⟩; gi_at_call 42; refine (callsIn_wide.2 (ext_add_nil _ _ _)).mono ?_; rintro e w3 ⟨rfl, rfl⟩)
      | (refine ⟨trivial, ?_⟩; gi_at_call 45; refine (callsIn_wide.2 (ext_live_nil _ _ _)).mono ?_; rintro e w3 ⟨rfl, rfl⟩)
      | (refine ⟨trivial, ?_⟩; gi_at_call 46; refine (callsIn_wide.2 (ext_objects_nil _)).mono ?_; rintro e w3 ⟨rfl, rfl⟩)
      | (refine ⟨trivial, ?_⟩; gi_at_call 65; refine (callsIn_wide.2 (ext_words_nil _)).mono ?_; rintro e w3 ⟨rfl, rfl⟩)
      | (refine ⟨trivial, ?_⟩; gi_at_call 40; refine (callsIn_wide.2 (lives13 (HG3.out.tab HT.out.lt HT.out))).mono ?_; rintro e w7 ⟨rfl, hg7⟩; have HG7 := hid hg7; have hr7 := (HG7.out.cell (b := W.heap.size) (by have := lt_cell hr3; exact this) 0).trans hr3; have hf7 := (HG7.out.frozen (b := W.heap.size) (by have := lt_cell hr3; exact this) 0).trans hf3; clear hg7))
    have hK7 : (w7.setCell ⟨W.heap.size, 0, none⟩ (.bool true)).heap[D]? = some (.deferred (some [])) := by
      have h7 : w7.heap[D]? = some (.deferred (some [])) := (HG7.out.block (Array.getElem?_eq_some_iff.1 HK.out).1).trans HK.out
      exact (Below.heap_setCell _ _ _ _ (by have := HD.out; show D ≠ W.heap.size; omega)).trans h7
    refine ⟨by simp, .inl ⟨_, _, rfl, run_takeDeferred hK7, ?_⟩⟩
    have hc5 := cell_kept (World.cell?_setCell_same' w7 ⟨W.heap.size, 0, none⟩ (.bool true) (by rw [hr7]; rfl)) (grownBy_putObj' _ D (.deferred none)) (fun r e => by cases e; exact ⟨_, hK7, rfl⟩)
    refine ⟨.bool true, ?_, rfl, ((((HG3.out.trans HG7.out).touch (fun _ => False)).setCell (a := ⟨W.heap.size, 0, none⟩) (fun h => absurd h (Nat.lt_irrefl _)) _).trans' (touch_putObj _ D _ (Nat.le_refl D)) (fun i hi h => by have := HD.out; omega)).gr⟩
    simp [results, Tryd.f13, go_sem, hc5]
end Go.Proofs.YtlbbkpjfoabobaaDoor
