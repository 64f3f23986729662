/- The example of layer 11's statements: it holds, and leaves what was there alone. -/
import Derived.Test.YtlbbkpjfoabobaaDoorVecF
import Derived.Test.YtlbbkpjfoabobaaDoorVecN
namespace Go.Proofs.YtlbbkpjfoabobaaDoor
open Go.RowKit Word

theorem Gr.tab {w W : World} (h : Gr w W) (hz : 0 < w.heap.size) (ht : TabAt w) : TabAt W := fun i hi => by rw [h.cell hz]; exact ht i hi
theorem Touch.tab {S : Nat → Prop} {w W : World} (h : Touch S w W) (hz : 0 < w.heap.size) (hS : ¬ S 0) (ht : TabAt w) : TabAt W := fun i hi => by rw [h.cell hz hS]; exact ht i hi
/-- The table's block is there. -/
theorem TabAt.lt {w : World} (h : TabAt w) : 0 < w.heap.size := by
  have := h 0 (by decide)
  unfold World.cell? at this
  rcases Nat.lt_or_ge 0 w.heap.size with h | h
  · exact h
  · rw [Array.getElem?_eq_none h] at this; cases this

def live11 : List Bool := layL (List.replicate 100 false) 60 70 true
theorem live11_fill : chgL (List.replicate 100 false) 60 70 true = 10 := by decide +kernel
theorem live11_next : valN live11.length (nextL live11 65) = 65 ∧ decide (nextL live11 65 < live11.length) = true := by decide +kernel
theorem live11_last : valI (lastL live11 65) = 64 ∧ decide (0 ≤ lastL live11 65) = true := by decide +kernel
theorem live11_pick : valN live11.length (pickL live11 9) = 69 ∧ decide (pickL live11 9 < live11.length) = true := by decide +kernel

set_option maxRecDepth 100000 in
set_option maxHeartbeats 800000 in
theorem lives11 {w : World} (hT : TabAt w) : Gets Tryd.prog 15 #[] w (.bool true) := by
  have HT := hid hT
  clear hT
  unfold Gets
  go_enter Tryd.func15, Tryd.ntmps15
  go_wp2_with (first
    | (go_at_call 16; refine (new_vec 100 (by decide) (by decide) _).mono ?_; rintro e w1 ⟨p, b, rfl, hg1, hV1, hp, hb⟩; have HT1 := hid (hg1.tab HT.out.lt HT.out); have HG1 := hid hg1; have HV1 := hid hV1; clear hg1 hV1)
    | (go_at_call 17; refine (fill_vec HV1.out _ _ (by decide)).mono ?_; rintro e w2 ⟨rfl, hg2, hV2⟩; rw [live11_fill]; have HV2 := hid (show Vec w2 p b live11 from hV2); have HG2 := hid hg2; have HT2 := hid (hg2.tab HT1.out.lt (by have := HT.out.lt; show ¬ _ = b; omega) HT1.out); clear hg2 hV2)
    | (go_at_call 26; refine (next_vec HV2.out HT2.out _).mono ?_; rintro e w3 ⟨rfl, rfl⟩; rw [live11_next.1, live11_next.2])
    | (go_at_call 27; refine (last_vec HV2.out _).mono ?_; rintro e w3 ⟨rfl, rfl⟩; rw [live11_last.1, live11_last.2])
    | (go_at_call 20; refine (pick_vec HV2.out 9 (by decide)).mono ?_; rintro e w3 ⟨rfl, rfl⟩; rw [live11_pick.1, live11_pick.2]))
  go_ret
  exact ⟨rfl, ((HG1.out.touch (fun _ => False)).trans' HG2.out (fun i hi h => by have h : i = b := h; omega)).gr⟩
end Go.Proofs.YtlbbkpjfoabobaaDoor
