/- The reference of layers 14 and 15: headers and objects on a row of words. -/
import Derived.Test.YtlkifhoedfjlaaaGreatDoorLay18P
import Derived.Test.YtlkifhoedfjlaaaGreatDoorStk
namespace Go.Proofs.YtlkifhoedfjlaaaGreatDoor
open Go.RowKit Word

set_option maxRecDepth 100000 in
set_option maxHeartbeats 800000 in
theorem ref14_may {p f k : Nat} (hp : p ≤ 255) (hf : f ≤ 255) (hk : k ≤ 255) (w : World) : Calls Tryz.prog 67 #[.agg #[.int .i64 p, .int .i64 f, .int .i64 k]] w fun e w' => e = .returned (.bool (decide (p + f + k ≤ 255))) ∧ Gr w w' := by
  have d1 : decide (255 < (p : Int)) = false := decide_eq_false (by omega)
  have d2 : decide (255 < (f : Int)) = false := decide_eq_false (by omega)
  have d3 : decide (255 < (k : Int)) = false := decide_eq_false (by omega)
  have HD : Hid (decide ((p : Int) + f + k ≤ 255) = decide (p + f + k ≤ 255)) := ⟨by by_cases h : p + f + k ≤ 255 <;> simp [h] <;> omega⟩
  go_enter Tryz.func67, Tryz.ntmps67
  go_wp2
  go_ret
  exact ⟨congrArg (fun b => Ending.returned (.bool b)) HD.out, (Gr.refl w).alloc _⟩
set_option maxRecDepth 100000 in
set_option maxHeartbeats 800000 in
theorem ref14_size {p f k : Nat} (hs : p + f + k ≤ 255) (w : World) : Calls Tryz.prog 35 #[.agg #[.int .i64 p, .int .i64 f, .int .i64 k]] w fun e w' => e = .returned (.int .i64 (hdrN ⟨p, f, k⟩)) ∧ Gr w w' := by
  have HM := hid (fun W => ref14_may (p := p) (f := f) (k := k) (by omega) (by omega) (by omega) W)
  rw [decide_eq_true hs] at HM
  have HN : Hid (hdrN ⟨p, f, k⟩ = 1 + (p : Int) + f + k) := ⟨if_pos (hdrE_of hs)⟩
  have HR := hid (Rec.new w 52 [.int .i64 p, .int .i64 f, .int .i64 k])
  go_enter Tryz.func35, Tryz.ntmps35
  go_wp2_with (go_at_call 67; refine (HM.out _).mono ?_; rintro e w1 ⟨rfl, hg1⟩; have HG1 := hid (((Gr.refl w).alloc _).trans hg1); have R1 := HR.out.gr hg1; have y0 := R1.cell (j := 0) rfl; have y1 := R1.cell (j := 1) rfl; have y2 := R1.cell (j := 2) rfl; clear hg1 R1)
  go_ret
  exact ⟨ret_int (by rw [HN.out]; omega), HG1.out⟩
def PutEnd14 (w : World) (p f k : Nat) (e : Ending) (w' : World) : Prop := e = .returned (if p + f + k ≤ 255 then .tuple #[.int .u64 (hdrW p f k : Nat), .int .i64 0] else .tuple #[.int .u64 0, .int .i64 15]) ∧ Gr w w'
set_option maxRecDepth 100000 in
set_option maxHeartbeats 1600000 in
theorem ref14_put {p f k : Nat} (hp : p ≤ 255) (hf : f ≤ 255) (hk : k ≤ 255) (w : World) : Calls Tryz.prog 92 #[.agg #[.int .i64 p, .int .i64 f, .int .i64 k]] w (PutEnd14 w p f k) := by
  have HM := hid (fun W => ref14_may hp hf hk W)
  have HR := hid (Rec.new w 52 [.int .i64 p, .int .i64 f, .int .i64 k])
  by_cases hs : p + f + k ≤ 255
  · rw [decide_eq_true hs] at HM
    have HS := hid hs
    have hw1 : IntKind.u64.wrap (p : Int) = p := by rw [IntKind.wrap_u64]; omega
    have hw2 : IntKind.u64.wrap (f : Int) = f := by rw [IntKind.wrap_u64]; omega
    have hw3 : IntKind.u64.wrap (k : Int) = k := by rw [IntKind.wrap_u64]; omega
    have HW : Hid (((hdrW p f k : Nat) : Int) = ((p : Int) + (f : Int) * 256 + (k : Int) * 65536 + 2768240640) + (4294967295 - ((p : Int) + (f : Int) * 256 + (k : Int) * 65536 + 2768240640)) * 4294967296) := ⟨by unfold hdrW hdrL; omega⟩
    go_enter Tryz.func92, Tryz.ntmps92
    go_wp2_with (go_at_call 67; refine (HM.out _).mono ?_; rintro e w1 ⟨rfl, hg1⟩; have HG1 := hid (((Gr.refl w).alloc _).trans hg1); have R1 := HR.out.gr hg1; have y0 := R1.cell (j := 0) rfl; have y1 := R1.cell (j := 1) rfl; have y2 := R1.cell (j := 2) rfl; clear hg1 R1)
    go_ret2
    exact ⟨by rw [if_pos HS.out, HW.out]; rfl, HG1.out⟩
  · rw [decide_eq_false hs] at HM
    have HS := hid hs
    clear hs
    go_enter Tryz.func92, Tryz.ntmps92
    go_wp2_with (go_at_call 67; refine (HM.out _).mono ?_; rintro e w1 ⟨rfl, hg1⟩; have HG1 := hid (((Gr.refl w).alloc _).trans hg1); clear hg1)
    go_ret2
    exact ⟨by rw [if_neg HS.out]; rfl, HG1.out⟩
end Go.Proofs.YtlkifhoedfjlaaaGreatDoor
