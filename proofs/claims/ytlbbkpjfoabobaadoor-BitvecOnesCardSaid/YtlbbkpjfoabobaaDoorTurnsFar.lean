/- BitvecOnes, where there are too many acts. -/
import Derived.Test.YtlbbkpjfoabobaaDoorPlays11
import Derived.Test.YtlbbkpjfoabobaaDoorOnes
namespace Go.Proofs.YtlbbkpjfoabobaaDoor
open Go.RowKit Go.Shelf Word
attribute [local go_sem] Oper.semAt_some

set_option maxRecDepth 100000 in
set_option maxHeartbeats 1600000 in
theorem turns_far {W : World} (hT : TabAt W) (n : Nat) (A A' : Option Addr) (cap cap' len len' : Nat) (stop : Nat) (h : 100 < len ∨ 100 < len') :
    Gets Tryd.prog 4 #[.int .u8 n, .slice A len cap, .agg #[.slice A' len' cap', .int .u8 stop]] W (.bool true) := by
  have HT := hid hT
  clear hT
  obtain ⟨W1, hW1⟩ : ∃ W1, W1 = W.alloc (.cells #[.slice A' len' cap', .int .u8 stop] 40) := ⟨_, rfl⟩
  have hz1 : W1.heap.size = W.heap.size + 1 := by rw [hW1]; simp
  have hg1 : Gr W W1 := by rw [hW1]; exact (Gr.refl W).alloc _
  obtain ⟨W3, hW3⟩ : ∃ W3, W3 = ((W1.alloc (.cells #[.bool false] 4)).alloc (.cells #[.slice A' len' cap'] 23)) := ⟨_, rfl⟩
  have hg3 : Gr W1 W3 := by rw [hW3]; exact ((Gr.refl W1).alloc _).alloc _
  have bR : Boxed W3 (W.heap.size + 1) 4 (.bool false) := by rw [hW3, ← hz1]; exact (Boxed.new W1 _ _).alloc _
  have HG := hid (hg1.trans hg3)
  have HTB := hid ((hg1.trans hg3).tab HT.out.lt HT.out)
  have HR := hid bR
  have HW := hid (show W3 = ((W.alloc (.cells #[.slice A' len' cap', .int .u8 stop] 40)).alloc (.cells #[.bool false] 4)).alloc (.cells #[.slice A' len' cap'] 23) from by rw [hW3, hW1])
  clear hW1 hz1 hg1 hW3 hg3 bR
  have hend : ∀ w2, Gr W3 w2 → (w2.setCell ⟨W.heap.size + 1, 0, none⟩ (.bool true)).cell? ⟨W.heap.size + 1, 0, none⟩ = some (.bool true) ∧ Gr W (w2.setCell ⟨W.heap.size + 1, 0, none⟩ (.bool true)) := fun w2 hg =>
    ⟨World.cell?_setCell_same' w2 _ _ (by rw [hg.cell HR.out.lt, HR.out.cell]; rfl), (((HG.out.trans hg).touch (fun _ => False)).setCell (a := ⟨W.heap.size + 1, 0, none⟩) (fun h => by have h : W.heap.size + 1 < W.heap.size := h; omega) _).gr⟩
  have HE := hid hend
  have HC := hid (fun w2 (hg : Gr W3 w2) => And.intro ((hg.cell HR.out.lt 0).trans HR.out.cell) ((hg.frozen HR.out.lt 0).trans HR.out.frozen))
  clear hend
  unfold Gets
  refine (callsIn_wide (n := 5)).1 ?_
  refine callsIn_of_wp_marks Tryd.func4 rfl trivial ?_ rfl
  simp only [Tryd.ntmps4, List.size_toArray, List.length_cons, List.length_nil, Nat.reduceAdd, Nat.reduceSub, Array.replicate_succ, Array.replicate_zero, List.push_toArray, List.append_toArray, List.nil_append, List.cons_append]
  rcases Nat.lt_or_ge 100 len with h3 | h3
  · have d1 : decide ((100 : Int) < (len : Int)) = true := by simp; omega
    clear h h3
    gi_wp2_with (refine ⟨trivial, ?_⟩; gi_at_call 15; rw [← HW.out]; refine (callsIn_wide.2 (lives11 HTB.out)).mono ?_; rintro e w2 ⟨rfl, hg⟩; obtain ⟨r2, f2⟩ := HC.out w2 hg; have HG2 := hid hg; clear hg)
    obtain ⟨hc, hg⟩ := HE.out w2 HG2.out
    refine ⟨.bool true, ?_, rfl, hg⟩
    simp [results, Tryd.f4, go_sem, hc]
  · have d1 : decide ((100 : Int) < (len : Int)) = false := by simp; omega
    have d2 : decide ((100 : Int) < (len' : Int)) = true := by simp; omega
    clear h h3
    gi_wp2_with (refine ⟨trivial, ?_⟩; gi_at_call 15; rw [← HW.out]; refine (callsIn_wide.2 (lives11 HTB.out)).mono ?_; rintro e w2 ⟨rfl, hg⟩; obtain ⟨r2, f2⟩ := HC.out w2 hg; have HG2 := hid hg; clear hg)
    obtain ⟨hc, hg⟩ := HE.out w2 HG2.out
    refine ⟨.bool true, ?_, rfl, hg⟩
    simp [results, Tryd.f4, go_sem, hc]
end Go.Proofs.YtlbbkpjfoabobaaDoor
