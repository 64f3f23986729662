/- The example of layer 22's statements; ForwardNobody: the walk. -/
import Derived.Test.YtlkifhoedfjlaaaDoorFwdN
import Derived.Test.YtlkifhoedfjlaaaDoorLayA
namespace Go.Proofs.YtlkifhoedfjlaaaDoor
open Go.RowKit Word

theorem live22_a : layL2 20 [3, 3, 3, 1] = [(3, 3), (9, 1)] := by decide +kernel
theorem live22_b : toV [(3, 3), (9, 1)] 100 3 = 100 ∧ toV [(3, 3), (9, 1)] 100 9 = 103 ∧ toE [(3, 3), (9, 1)] 3 = 0 ∧ toE [(3, 3), (9, 1)] 9 = 0 := by decide +kernel
theorem live22_c : sizes [(3, 3), (9, 1)] = 4 ∧ (blockOk 4 && baseOk 100) = true := by decide +kernel
theorem bytes4 (w : World) (a b c d : Nat) (ha : a ≤ 255) (hb : b ≤ 255) (hc : c ≤ 255) (hd : d ≤ 255) : BytesAt (w.alloc (.cells #[.int .u8 (a : Nat), .int .u8 (b : Nat), .int .u8 (c : Nat), .int .u8 (d : Nat)] 5)) (some ⟨w.heap.size, 0, none⟩) [a, b, c, d] := fun i hi => by
  have hs : w.heap.size < (w.alloc (.cells #[.int .u8 (a : Nat), .int .u8 (b : Nat), .int .u8 (c : Nat), .int .u8 (d : Nat)] 5)).heap.size := by rw [World.size_alloc]; omega
  match i, hi with
  | 0, _ => exact ⟨ha, _, 0, rfl, hs, World.cell?_alloc_new ..⟩
  | 1, _ => exact ⟨hb, _, 0, rfl, hs, World.cell?_alloc_new ..⟩
  | 2, _ => exact ⟨hc, _, 0, rfl, hs, World.cell?_alloc_new ..⟩
  | 3, _ => exact ⟨hd, _, 0, rfl, hs, World.cell?_alloc_new ..⟩
set_option maxRecDepth 100000 in
set_option maxHeartbeats 1600000 in
theorem lives22 {w : World} (hT : TabAt w) : Gets Tryd.prog 20 #[] w (.bool true) := by
  have HT := hid hT
  have htl := hT.lt
  obtain ⟨w0, hw0⟩ : ∃ w0, w0 = w.alloc (.cells #[.int .u8 3, .int .u8 3, .int .u8 3, .int .u8 1] 5) := ⟨_, rfl⟩
  have hg0 : Gr w w0 := by rw [hw0]; exact (Gr.refl w).alloc _
  have hB : BytesAt w0 (some ⟨w.heap.size, 0, none⟩) [3, 3, 3, 1] := by rw [hw0]; exact bytes4 w 3 3 3 1 (by decide) (by decide) (by decide) (by decide)
  have HB := hid hB
  have HG0 := hid hg0
  have HW := hid hw0
  have HT0 := hid (hg0.tab hT.lt hT)
  clear hT hg0 hB hw0
  unfold Gets
  go_enter Tryd.func20, Tryd.ntmps20
  go_wp2_with (first
    | (go_at_call 21; rw [← HW.out]; refine (lay_walk HT0.out 20 (by decide) (by decide) _ _ [3, 3, 3, 1] HB.out (by decide)).mono ?_; rw [live22_a]; rintro e w1 ⟨m, p1, b1, p2, b2, A', c', rfl, hg1, hE1, -, -, -⟩; have HG1 := hid (HG0.out.trans hg1); have HE1 := hid hE1; clear hg1 hE1)
    | (go_at_call 22; refine (fwd_new HE1.out (HG1.out.tab htl HT.out) 4 100 (by decide)).mono ?_; rintro e w2 ⟨hg2, ⟨hb, -⟩ | ⟨-, f, B, base, hB, hbase, rfl, hO⟩⟩; rw [live22_c.2] at hb; cases hb; obtain rfl : base = 100 := (by omega); have HO := hid hO; have HG2 := hid (HG1.out.trans hg2); clear hO hg2 hB hbase)
    | (go_at_call_of 23 (Value.int .i64 9); have hnx := HNX.out; clear hnx; refine (fwd_to (HO.out.gr HG3.out) 9).mono ?_; rintro e w4 ⟨rfl, hg4⟩; rw [show ((100 : Nat) : Int) = 100 from rfl, live22_b.2.1, live22_b.2.2.2]; have HG4 := hid (HG3.out.trans hg4); clear hg4)
    | (go_at_call_of 23 (Value.int .i64 3); refine (fwd_to HO.out 3).mono ?_; rintro e w3 ⟨rfl, hg3⟩; rw [show ((100 : Nat) : Int) = 100 from rfl, live22_b.1, live22_b.2.2.1]; have HG3 := hid hg3; have HNX := hid True.intro; clear hg3)
    | (go_at_call 25; refine (fwd_top (HO.out.gr HG4.out)).mono ?_; rintro e w5 ⟨rfl, hg5⟩; rw [live22_c.1]; have HG5 := hid (HG4.out.trans hg5); clear hg5))
  go_ret
  exact ⟨rfl, HG2.out.trans HG5.out⟩
set_option maxRecDepth 100000 in
set_option maxHeartbeats 1600000 in
theorem nobody22_walk {W : World} (hT : TabAt W) (a b : Int) : Gets Tryd.prog 6 #[.int .i64 a, .int .i64 b] W (.bool true) := by
  have HT := hid hT
  clear hT
  unfold Gets
  go_enter Tryd.func6, Tryd.ntmps6
  go_wp2_with (first
    | (go_at_call 22; refine (fwd_new_nil b a _).mono ?_; rintro e w1 ⟨rfl, rfl⟩)
    | (go_at_call 23; refine (fwd_to_nil a _).mono ?_; rintro e w1 ⟨rfl, rfl⟩)
    | (go_at_call 24; refine (fwd_from_nil a _).mono ?_; rintro e w1 ⟨rfl, rfl⟩)
    | (go_at_call 34; refine (fwd_object_nil a _).mono ?_; rintro e w1 ⟨rfl, rfl⟩)
    | (go_at_call 35; refine (fwd_base_nil _).mono ?_; rintro e w1 ⟨rfl, rfl⟩)
    | (go_at_call 25; refine (fwd_top_nil _).mono ?_; rintro e w1 ⟨rfl, rfl⟩)
    | (go_at_call 36; refine (fwd_words_nil _).mono ?_; rintro e w1 ⟨rfl, rfl⟩)
    | (go_at_call 20; refine (lives22 HT.out).mono ?_; rintro e w4 ⟨rfl, hg4⟩))
  go_ret
  exact ⟨rfl, hg4⟩
end Go.Proofs.YtlkifhoedfjlaaaDoor
