/- Layer 21: Live21, Rises21, Rises21B in one text (a claim has at most 60 files). -/
import Derived.Test.YtlkifhoedfjlaaaDoorLayA
import Derived.Test.YtlkifhoedfjlaaaDoorK2
import Derived.Deep.CutBlock
import Derived.Deep.DeepCutAuto
import Derived.Test.YtlkifhoedfjlaaaDoorK4
namespace Go.Proofs.YtlkifhoedfjlaaaDoor
open Go.RowKit Word

theorem live21_a : layL2 20 [3, 7] = [(3, 7)] := by decide +kernel
theorem live21_b : aheadV (liveL 20 [(3, 7)]) 4 1 = 1 ∧ aheadV (liveL 20 [(3, 7)]) 4 2 = 5 ∧ aheadE 20 4 1 = 0 ∧ aheadE 20 4 2 = 0 := by decide +kernel
theorem live21_c : overs [(3, 7)] 0 9 = 6 ∧ sizes [(3, 7)] = 7 ∧ blockOk 4 = true := by decide +kernel
set_option maxRecDepth 100000 in
set_option maxHeartbeats 1600000 in
theorem lives21 {w : World} (hT : TabAt w) : Gets Tryd.prog 19 #[] w (.bool true) := by
  have HT := hid hT
  have htl := hT.lt
  obtain ⟨w0, hw0⟩ : ∃ w0, w0 = w.alloc (.cells #[.int .u8 3, .int .u8 7] 5) := ⟨_, rfl⟩
  have hg0 : Gr w w0 := by rw [hw0]; exact (Gr.refl w).alloc _
  have hB : BytesAt w0 (some ⟨w.heap.size, 0, none⟩) [3, 7] := fun i hi => by
    have hs : w.heap.size < w0.heap.size := by rw [hw0, World.size_alloc]; omega
    match i, hi with
    | 0, _ => exact ⟨(by decide : 3 ≤ 255), _, 0, rfl, hs, by rw [hw0]; exact World.cell?_alloc_new ..⟩
    | 1, _ => exact ⟨(by decide : 7 ≤ 255), _, 0, rfl, hs, by rw [hw0]; exact World.cell?_alloc_new ..⟩
  have HB := hid hB
  have HG0 := hid hg0
  have HW := hid hw0
  have HT0 := hid (hg0.tab hT.lt hT)
  clear hT hg0 hB hw0
  unfold Gets
  go_enter Tryd.func19, Tryd.ntmps19
  go_wp2_with (first
    | (go_at_call 21; rw [← HW.out]; refine (lay_walk HT0.out 20 (by decide) (by decide) _ _ [3, 7] HB.out (by decide)).mono ?_; rw [live21_a]; rintro e w1 ⟨m, p1, b1, p2, b2, A', c', rfl, hg1, hE1, -, -, -⟩; have HG1 := hid (HG0.out.trans hg1); have HE1 := hid hE1; clear hg1 hE1)
    | (go_at_call 12; refine (off_new HE1.out (HG1.out.tab htl HT.out) 4 (by decide)).mono ?_; rintro e w2 ⟨hg2, ⟨hb, -⟩ | ⟨-, t, B, hB, rfl, hO⟩⟩; rw [live21_c.2.2] at hb; cases hb; obtain rfl : B = 4 := (by omega); have HO := hid hO; have HG2 := hid (HG1.out.trans hg2); clear hO hg2 hB)
    | (go_at_call_of 13 (Value.pointer (some ⟨t, 0, none⟩)); refine (off_ahead HO.out _).mono ?_; rintro e w3 ⟨rfl, rfl⟩; first | rw [live21_b.1, live21_b.2.2.1] | rw [live21_b.2.1, live21_b.2.2.2])
    | (go_at_call 15; refine (off_before HO.out 9).mono ?_; rintro e w4 ⟨rfl, hg4⟩; rw [live21_c.1]; have HG4 := hid hg4; clear hg4)
    | (go_at_call 17; refine (off_live (HO.out.gr HG4.out)).mono ?_; rintro e w5 ⟨rfl, rfl⟩; rw [live21_c.2.1]))
  go_ret
  exact ⟨rfl, HG2.out.trans HG4.out⟩
end Go.Proofs.YtlkifhoedfjlaaaDoor

namespace Go.Proofs.YtlkifhoedfjlaaaDoor
open Go.RowKit Word

end Go.Proofs.YtlkifhoedfjlaaaDoor

namespace Go.Proofs.YtlkifhoedfjlaaaDoor
open Go.ChangeShapes Go.WideShapes Go.ChangeAt Go.RowKit Word

set_option maxRecDepth 100000 in
theorem open_bytes {H : Type} {enc : TypeId × Value → H} {W : World} {r : Reach} {b0 : Nat} {v : Value} {d : DataW H} {p : List MemPlace}
    (hv : Value.okWide Tryd.prog W r b0 36 v) (h : DataW.Trod enc Tryd.prog W 0 (fun _ => true) true 36 v d p) :
    ∃ (A : Option Addr) (cap : Nat) (l : List Nat), v = .slice A l.length cap ∧ l.length ≤ maxLen ∧ BytesAt W A l := by
  obtain ⟨A, len, cap, rfl⟩ := okWide_slice Tryd.underlying36 hv
  obtain ⟨fuel, hf⟩ := h
  rcases Go.Deep.open_slice Tryd.underlying36 hf with ⟨hcs, _⟩ | ⟨a, len', cap', m, n, D, Pl, hcs, _, hl, hm, hmm, _, hi⟩
  · simp [Value.cells] at hcs
    obtain ⟨rfl, rfl, rfl⟩ := hcs
    exact ⟨none, 0, [], rfl, Nat.zero_le _, fun i h => absurd h (by simp)⟩
  · simp [Value.cells] at hcs
    obtain ⟨rfl, rfl, rfl⟩ := hcs
    have hle : len ≤ m := by rw [hmm]; simpa using hl
    obtain ⟨l, hlen, hR⟩ := list_of (fun i (x : Nat) => x ≤ 255 ∧ W.cell? (a.add i) = some (.int .u8 (x : Nat))) len (fun i hil => by
      obtain ⟨cs, hc, ht⟩ := hi i (by omega)
      rw [cellsU8, Nat.mul_one] at hc
      obtain ⟨_, hcl, hat⟩ := World.cells?_some hc
      obtain ⟨k, e0, _, w0⟩ := DataW.trod_int Tryd.underlying5 ht
      subst e0
      have hb := bd_u8 w0
      refine ⟨k.toNat, by omega, ?_⟩
      have := hat 0 (by simp)
      rw [add_add_, Nat.add_zero] at this
      rw [this]
      show some (Value.int .u8 k) = some (Value.int .u8 ((k.toNat : Nat) : Int))
      rw [show ((k.toNat : Nat) : Int) = k by omega])
    subst hlen
    refine ⟨some a, cap, l, rfl, by omega, fun i hil => ?_⟩
    obtain ⟨h0, h1⟩ := hR i hil
    have hs : a.spot = none := by
      have h0 := (hR 0 (by omega)).2
      have := spot_of_cell h0
      simpa [Addr.add] using this
    obtain ⟨b, o, s⟩ := a
    simp only at hs
    subst hs
    have ha : ∀ k, Addr.add ⟨b, o, none⟩ k = ⟨b, o + k, none⟩ := fun k => by unfold Addr.add; split <;> simp_all
    rw [ha] at h1
    exact ⟨h0, b, o, rfl, lt_of_cell h1, h1⟩
end Go.Proofs.YtlkifhoedfjlaaaDoor
