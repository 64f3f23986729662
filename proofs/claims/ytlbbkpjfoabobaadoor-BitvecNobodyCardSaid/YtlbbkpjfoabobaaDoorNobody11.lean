/- BitvecNobody: the walk. -/
import Derived.Test.YtlbbkpjfoabobaaDoorOnes
import Derived.Test.YtlbbkpjfoabobaaDoorVecN
import Derived.Test.YtlbbkpjfoabobaaDoorQuiet
namespace Go.Proofs.YtlbbkpjfoabobaaDoor
open Go.RowKit Go.Shelf Word
attribute [local go_sem] Oper.semAt_some

set_option maxRecDepth 100000 in
set_option maxHeartbeats 1600000 in
theorem ones_seq_nil (n : Nat) (box : Nat) (w : World) :
    SeqS Fence.wide n Tryd.prog 83 #[.pointer (some ⟨box, 0, none⟩)] (fun x : Int => #[.int .i64 x]) (fun (_ : Unit) W => W.cell? ⟨box, 0, none⟩ = some (.pointer none)) (fun _ _ => False) (fun _ _ _ => False) (fun _ => True) () w := by
  intro l J Jx W hg hJ hJx hI hY h0
  refine callsIn_of_wp Tryd.func83 rfl trivial ?_ rfl
  have c0 := hI _ _ h0
  clear hI hY
  simp only [Tryd.ntmps83, List.size_toArray, List.length_cons, List.length_nil, Nat.reduceAdd, Nat.reduceSub, Array.replicate_succ, Array.replicate_zero, List.push_toArray, List.append_toArray, List.nil_append, List.cons_append]
  gi_wp2_with (refine ⟨trivial, fun h => Bool.noConfusion h, ?_⟩; gi_at_call 26; refine (callsIn_wide.2 (next_vnil _ _)).mono ?_; rintro e w1 ⟨rfl, rfl⟩)
  gi_loopw [3, 4] (fun x3 x4 wr => J () wr ∧ x3 = .int .i64 0 ∧ x4 = .bool false) (fun _ _ _ => 0)
  case atStart => exact ⟨h0, rfl, rfl⟩
  case round =>
    obtain ⟨hs, rfl, rfl⟩ := hrel
    gi_wp2
    refine ⟨fun _ h => (by cases h), ?_⟩
    gi_wp2
    go_end0
    exact ⟨⟨_, rfl⟩, .inl ⟨(), trivial, hs⟩⟩

set_option maxRecDepth 100000 in
set_option maxHeartbeats 1600000 in
theorem nobody11_walk {W : World} (hT : TabAt W) (a b : Int) : Gets Tryd.prog 11 #[.int .i64 a, .int .i64 b] W (.bool true) := by
  have HT := hid hT
  clear hT
  unfold Gets
  have hfe : ∀ (q : Array Value) (w : World), (binOp BinOp.eql 44 (.func (.func 83) #[] q) .nilFunc).run Tryd.prog w = .ok (.bool false) w := fun _ _ => by kernel_rfl
  refine (callsIn_wide (n := 5)).1 ?_
  refine callsIn_of_wp_marks Tryd.func11 rfl trivial ?_ rfl
  simp only [Tryd.ntmps11, List.size_toArray, List.length_cons, List.length_nil, Nat.reduceAdd, Nat.reduceSub, Array.replicate_succ, Array.replicate_zero, List.push_toArray, List.append_toArray, List.nil_append, List.cons_append]
  gi_wp2_with (first
    | (refine ⟨trivial, ?_⟩; gi_at_call 26; refine (callsIn_wide.2 (next_vnil _ _)).mono ?_; rintro e w1 ⟨rfl, rfl⟩)
    | (refine ⟨trivial, ?_⟩; gi_at_call 27; refine (callsIn_wide.2 (last_vnil _ _)).mono ?_; rintro e w1 ⟨rfl, rfl⟩)
    | (refine ⟨trivial, ?_⟩; gi_at_call 20; refine (callsIn_wide.2 (pick_vnil _ _)).mono ?_; rintro e w1 ⟨rfl, rfl⟩)
    | (refine ⟨trivial, ?_⟩; gi_at_call 23; refine (callsIn_wide.2 (ones_call none)).mono ?_; rintro e w1 ⟨rfl, rfl⟩))
  obtain ⟨W0, hW0⟩ : ∃ W0, W0 = (W.alloc (.cells #[.bool false] 4)).alloc (.cells #[.pointer none] 26) := ⟨_, rfl⟩
  have hg0 : Gr W W0 := by rw [hW0]; exact ((Gr.refl W).alloc _).alloc _
  have hsz : W0.heap.size = W.heap.size + 2 := by rw [hW0]; simp
  have bR : Boxed W0 W.heap.size 4 (.bool false) := by rw [hW0]; exact (Boxed.new W _ _).alloc _
  have bB : Boxed W0 (W.heap.size + 1) 26 (.pointer none) := by
    rw [hW0]
    have := Boxed.new (W.alloc (.cells #[.bool false] 4)) 26 (.pointer none)
    rwa [World.size_alloc] at this
  have hb0 := bB.cell
  try simp only [World.size_alloc]
  rw [← hW0]
  refine range_law (s0 := ()) rfl (by omega) (gf := 83) (lb := #[.pointer (some ⟨W.heap.size + 1, 0, none⟩)]) rfl trivial (enters_of Tryd.func83 (by kernel_rfl) rfl)
    (ones_seq_nil _ (W.heap.size + 1) _) (fun _ => rfl) (fun _ A => Touch (fun k => W0.heap.size ≤ k) W0 A) (fun _ _ => False)
    (fun _ A B h t => h.trans t) (fun _ _ _ h _ => h) (fun _ A h => (h.cell (by omega) (by omega) 0).trans hb0) (Touch.refl _ _)
    (fun _ _ _ _ _ _ h => h.elim) ?done (fun _ _ _ _ h _ => h.elim)
  case done =>
    rintro D s W3 hD - ht hK
    have hr3 := (ht.cell (b := W.heap.size) (by omega) (by omega) 0).trans bR.cell
    have hf3 := (ht.frozen (b := W.heap.size) (by omega) (by omega) 0).trans bR.frozen
    have HG3 := hid ((hg0.touch (fun _ => False)).trans' ht (fun i hi h => by omega)).gr
    have HK := hid hK
    have HD := hid hD
    clear hK ht hD hg0 hb0 hW0
    gi_wp2_with (first
      | (refine ⟨trivial, ?_⟩; gi_at_call 52; refine (callsIn_wide.2 (set_nil _ _)).mono ?_; rintro e w1 ⟨rfl, rfl⟩)
      | (refine ⟨trivial, ?_⟩; gi_at_call 18; refine (callsIn_wide.2 (clear_nil _ _)).mono ?_; rintro e w1 ⟨rfl, rfl⟩)
      | (refine ⟨trivial, ?_⟩; gi_at_call 21; refine (callsIn_wide.2 (test_nil _ _)).mono ?_; rintro e w1 ⟨rfl, rfl⟩)
      | (refine ⟨trivial, ?_⟩; gi_at_call 17; refine (callsIn_wide.2 (fill_nil a b _)).mono ?_; rintro e w4 ⟨rfl, hg4⟩; have HG4 := hid hg4; clear hg4)
      | (refine ⟨trivial, ?_⟩; gi_at_call 53; refine (callsIn_wide.2 (wipe_nil a b _)).mono ?_; rintro e w5 ⟨rfl, hg5⟩; have HG5 := hid (HG4.out.trans hg5); clear hg5)
      | (refine ⟨trivial, ?_⟩; gi_at_call 19; refine (callsIn_wide.2 (count_nil a b _)).mono ?_; rintro e w6 ⟨rfl, hg6⟩; have HG6 := hid (HG5.out.trans hg6); clear hg6)
      | (refine ⟨trivial, ?_⟩; gi_at_call 32; refine (callsIn_wide.2 (len_nil _)).mono ?_; rintro e w1 ⟨rfl, rfl⟩)
      | (refine ⟨trivial, ?_⟩; gi_at_call 39; refine (callsIn_wide.2 (copy_nil _)).mono ?_; rintro e w1 ⟨rfl, rfl⟩)
      | (refine ⟨trivial, ?_⟩; gi_at_call 15; refine (callsIn_wide.2 (lives11 ((HG3.out.trans HG6.out).tab HT.out.lt HT.out))).mono ?_; rintro e w7 ⟨rfl, hg7⟩; have HG7 := hid (HG6.out.trans hg7); have hr7 := (HG7.out.cell (b := W.heap.size) (by have := lt_cell hr3; exact this) 0).trans hr3; have hf7 := (HG7.out.frozen (b := W.heap.size) (by have := lt_cell hr3; exact this) 0).trans hf3; clear hg7))
    have hK7 : (w7.setCell ⟨W.heap.size, 0, none⟩ (.bool true)).heap[D]? = some (.deferred (some [])) := by
      have h7 : w7.heap[D]? = some (.deferred (some [])) := (HG7.out.block (Array.getElem?_eq_some_iff.1 HK.out).1).trans HK.out
      exact (Below.heap_setCell _ _ _ _ (by have := HD.out; show D ≠ W.heap.size; omega)).trans h7
    refine ⟨by simp, .inl ⟨_, _, rfl, run_takeDeferred hK7, ?_⟩⟩
    have hc5 := cell_kept (World.cell?_setCell_same' w7 ⟨W.heap.size, 0, none⟩ (.bool true) (by rw [hr7]; rfl)) (grownBy_putObj' _ D (.deferred none)) (fun r e => by cases e; exact ⟨_, hK7, rfl⟩)
    refine ⟨.bool true, ?_, rfl, ((((HG3.out.trans HG7.out).touch (fun _ => False)).setCell (a := ⟨W.heap.size, 0, none⟩) (fun h => absurd h (Nat.lt_irrefl _)) _).trans' (touch_putObj _ D _ (Nat.le_refl D)) (fun i hi h => by have := HD.out; omega)).gr⟩
    simp [results, Tryd.f11, go_sem, hc5]
end Go.Proofs.YtlbbkpjfoabobaaDoor
