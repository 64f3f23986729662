/- ExtentAdds: too many Acts; the walk as a whole. -/
import Derived.Test.YtlbbkpjfoabobaaDoorAdds13
namespace Go.Proofs.YtlbbkpjfoabobaaDoor
open Go.RowKit Go.Shelf Word
attribute [local go_sem] Oper.semAt_some

set_option maxRecDepth 100000 in
set_option maxHeartbeats 800000 in
theorem adds13_far {W : World} (hT : TabAt W) (A0 : Option Addr) (len cap : Nat) (h80 : 80 < len) (cut : Int) (stop : Nat) :
    Gets Tryd.prog 8 #[.slice A0 len cap, .int .i64 cut, .int .u8 stop] W (.bool true) := by
  have d2 : decide ((80 : Int) < (len : Int)) = true := by simp; omega
  clear h80
  unfold Gets
  refine (callsIn_wide (n := 5)).1 ?_
  refine callsIn_of_wp_marks Tryd.func8 rfl trivial ?_ rfl
  simp only [Tryd.ntmps8, List.size_toArray, List.length_cons, List.length_nil, Nat.reduceAdd, Nat.reduceSub, Array.replicate_succ, Array.replicate_zero, List.push_toArray, List.append_toArray, List.nil_append, List.cons_append]
  have hg0 : Gr W ((W.alloc (.cells #[.int .u8 stop] 5)).alloc (.cells #[.bool false] 4)) := ((Gr.refl W).alloc _).alloc _
  have tR := Boxed.new (W.alloc (.cells #[.int .u8 stop] 5)) 4 (.bool false)
  rw [World.size_alloc] at tR
  have cR := tR.cell
  have fR := tR.frozen
  have HTT := hid (hg0.tab hT.lt hT)
  have HG0 := hid hg0
  clear hg0 tR hT
  gi_wp2_with (refine ⟨trivial, ?_⟩; gi_at_call 40; refine (callsIn_wide.2 (lives13 HTT.out)).mono ?_; rintro e w8 ⟨rfl, hg8⟩; have HG8 := hid (HG0.out.trans hg8); have r8 := (hg8.cell (b := W.heap.size + 1) (lt_cell cR) 0).trans cR; have rf8 := (hg8.frozen (b := W.heap.size + 1) (lt_cell cR) 0).trans fR; clear hg8)
  have hc := World.cell?_setCell_same' w8 ⟨W.heap.size + 1, 0, none⟩ (.bool true) (by rw [r8]; rfl)
  have hg := ((HG8.out.touch (fun _ => False)).setCell (a := ⟨W.heap.size + 1, 0, none⟩) (fun h => by have h : W.heap.size + 1 < W.heap.size := h; omega) (.bool true)).gr
  refine ⟨.bool true, ?_, rfl, hg⟩
  simp [results, Tryd.f8, go_sem, hc]
theorem adds13_walk {W : World} (hT : TabAt W) (A : Option Addr) (cap : Nat) (l : List ActD) (hA : ActsAt W A l) (cut : Int) (stop : Nat) (hs : stop ≤ 255) :
    Gets Tryd.prog 8 #[.slice A l.length cap, .int .i64 cut, .int .u8 stop] W (.bool true) := by
  by_cases h : 80 < l.length
  · exact adds13_far hT A l.length cap h cut stop
  · exact adds13_in hT A cap l hA (by omega) cut stop hs
end Go.Proofs.YtlbbkpjfoabobaaDoor
