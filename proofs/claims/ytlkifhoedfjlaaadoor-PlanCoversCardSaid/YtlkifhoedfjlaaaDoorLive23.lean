/- The example of layer 23's statements; PlanNobody: the walk. -/
import Derived.Test.YtlkifhoedfjlaaaDoorPieces
import Derived.Test.YtlkifhoedfjlaaaDoorLive22
namespace Go.Proofs.YtlkifhoedfjlaaaDoor
open Go.RowKit Word

theorem live23_p : pcsOf [(3, 3), (9, 1)] 2 100 0 = [⟨3, 100, 2⟩] ∧ pcsOf [(3, 3), (9, 1)] 2 100 1 = [⟨5, 102, 1⟩, ⟨9, 103, 1⟩] := by decide +kernel
theorem live23_e : rngE [(3, 3), (9, 1)] 2 0 = 0 ∧ rngE [(3, 3), (9, 1)] 2 1 = 0 ∧ (blockOk 2 && baseOk 100) = true := by decide +kernel
set_option maxRecDepth 100000 in
set_option maxHeartbeats 1600000 in
theorem lives23 {w : World} (hT : TabAt w) : Gets Tryd.prog 39 #[] w (.bool true) := by
  have HT := hid hT
  have htl := hT.lt
  obtain ⟨w0, hw0⟩ : ∃ w0, w0 = w.alloc (.cells #[.int .u8 3, .int .u8 3, .int .u8 3, .int .u8 1] 5) := ⟨_, rfl⟩
  have hg0 : Gr w w0 := by rw [hw0]; exact (Gr.refl w).alloc _
  have hB : BytesAt w0 (some ⟨w.heap.size, 0, none⟩) [3, 3, 3, 1] := by rw [hw0]; exact bytes4 w 3 3 3 1 (by decide) (by decide) (by decide) (by decide)
  have HB := hid hB
  have HG0 := hid hg0
  have HW := hid hw0
  have HT0 := hid (hg0.tab hT.lt hT)
  clear hT hg0 hB hw0
  unfold Gets
  go_enter Tryd.func39, Tryd.ntmps39
  go_wp2_with (first
    | (go_at_call 21; rw [← HW.out]; refine (lay_walk HT0.out 20 (by decide) (by decide) _ _ [3, 3, 3, 1] HB.out (by decide)).mono ?_; rw [live22_a]; rintro e w1 ⟨m, p1, b1, p2, b2, A', c', rfl, hg1, hE1, -, -, -⟩; have HG1 := hid (HG0.out.trans hg1); have HE1 := hid hE1; clear hg1 hE1)
    | (go_at_call 40; refine (pln_new HE1.out (HG1.out.tab htl HT.out) 2 100 (by decide)).mono ?_; rintro e w2 ⟨hg2, ⟨hb, -⟩ | ⟨-, p, B, base, hB, hbase, rfl, hO⟩⟩; rw [live23_e.2.2] at hb; cases hb; obtain rfl : base = 100 := (by omega); obtain rfl : B = 2 := (by omega); have HO := hid hO; have HG2 := hid (HG1.out.trans hg2); clear hO hg2 hB hbase)
    | (go_at_call_of 43 (Value.int .i64 1); have hnx := HNX.out; clear hnx; refine (pln_pieces (HO.out.gr HG3.out) (HG4.out.tab htl HT.out) 1).mono ?_; rw [live23_p.2, live23_e.2.1]; rintro e w4 ⟨A4, c4, rfl, hg4, hp4⟩; (obtain ⟨g4, rfl, hl4, y0, y1, y2⟩ := hp4 1 (by decide)); (have y0 : w4.cell? ⟨g4, 3, none⟩ = some (.int .i64 9) := y0); (have y1 : w4.cell? ⟨g4, 4, none⟩ = some (.int .i64 103) := y1); (have y2 : w4.cell? ⟨g4, 5, none⟩ = some (.int .i64 1) := y2); (have x0 := (hg4.cell (lt_cell x0) _).trans x0); (have x1 := (hg4.cell (lt_cell x1) _).trans x1); (have x2 := (hg4.cell (lt_cell x2) _).trans x2); have HG5 := hid (HG4.out.trans hg4); clear hg4 hp4)
    | (go_at_call_of 43 (Value.int .i64 0); refine (pln_pieces HO.out (HG2.out.tab htl HT.out) 0).mono ?_; rw [live23_p.1, live23_e.1]; rintro e w3 ⟨A3, c3, rfl, hg3, hp3⟩; (obtain ⟨g3, rfl, hl3, x0, x1, x2⟩ := hp3 0 (by decide)); (have x0 : w3.cell? ⟨g3, 0, none⟩ = some (.int .i64 3) := x0); (have x1 : w3.cell? ⟨g3, 1, none⟩ = some (.int .i64 100) := x1); (have x2 : w3.cell? ⟨g3, 2, none⟩ = some (.int .i64 2) := x2); have HG3 := hid hg3; have HG4 := hid (HG2.out.trans hg3); have HNX := hid True.intro; clear hg3 hp3))
  go_ret
  exact ⟨rfl, HG5.out⟩
set_option maxRecDepth 100000 in
set_option maxHeartbeats 1600000 in
theorem nobody23_walk {W : World} (hT : TabAt W) (a b : Int) : Gets Tryd.prog 10 #[.int .i64 a, .int .i64 b] W (.bool true) := by
  have HT := hid hT
  clear hT
  unfold Gets
  go_enter Tryd.func10, Tryd.ntmps10
  go_wp2_with (first
    | (go_at_call 40; refine (pln_new_nil b a _).mono ?_; rintro e w1 ⟨rfl, rfl⟩)
    | (go_at_call 47; refine (pln_block_nil a _).mono ?_; rintro e w1 ⟨rfl, rfl⟩)
    | (go_at_call 42; refine (pln_range_nil a _).mono ?_; rintro e w1 ⟨rfl, rfl⟩)
    | (go_at_call 43; refine (pln_pieces_nil a _).mono ?_; rintro e w1 ⟨rfl, rfl⟩)
    | (go_at_call 41; refine (pln_blocks_nil _).mono ?_; rintro e w1 ⟨rfl, rfl⟩)
    | (go_at_call 44; refine (pln_forward_nil _).mono ?_; rintro e w1 ⟨rfl, rfl⟩)
    | (go_at_call 39; refine (lives23 HT.out).mono ?_; rintro e w4 ⟨rfl, hg4⟩))
  go_ret
  exact ⟨rfl, hg4⟩
end Go.Proofs.YtlkifhoedfjlaaaDoor
