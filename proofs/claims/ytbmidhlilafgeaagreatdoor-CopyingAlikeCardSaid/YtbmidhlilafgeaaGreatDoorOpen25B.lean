/- Layer 24: a Laid among the arguments. -/
import Derived.Test.YtbmidhlilafgeaaGreatDoorOpen25
import Derived.Test.YtbmidhlilafgeaaGreatDoorLay24
import Derived.SizedLaws
namespace Go.Proofs.YtbmidhlilafgeaaGreatDoor
open Go.ChangeShapes Go.WideShapes Go.ChangeAt Go.RowKit Word

theorem cells25L : Tryz.prog.cellsOf 25 = 7 := by kernel_rfl
theorem cells25H : Tryz.prog.cellsOf 22 = 1 := by kernel_rfl
theorem cells25h : Tryz.prog.cellsOf 90 = 3 := by kernel_rfl
theorem cells25B : Tryz.prog.cellsOf 23 = 1 := by kernel_rfl
theorem cells25b : Tryz.prog.cellsOf 5 = 1 := by kernel_rfl
theorem bytes25b : Tryz.prog.bytesOf 5 = 1 := by kernel_rfl
section
variable {H : Type} {enc : TypeId × Value → H} {W : World} {fuel : Nat} {cs0 : List Value} {x : DataW H × List MemPlace}
set_option maxRecDepth 100000 in
theorem u8_cells (hf : DataW.trod enc Tryz.prog W 0 (fun _ => true) true fuel 23 cs0 = some x) :
    ∃ (A : Option Addr) (cap : Nat) (l : List Nat), cs0 = [.slice A l.length cap] ∧ l.length ≤ maxLen ∧ U8sAt W A l ∧ (l = [] ∨ ∃ e s, x.1 = .slice e s ∧ e.length = l.length) := by
  rcases Go.Deep.open_slice Tryz.underlying23 hf with ⟨hcs, _⟩ | ⟨a, len, cap, m, n, D, Pl, hcs, _, hl, hm, hmm, hx, hi⟩
  · exact ⟨none, 0, [], hcs, Nat.zero_le _, (fun i h => absurd h (by simp)), .inl rfl⟩
  · have hle : len ≤ m := by rw [hmm]; simpa using hl
    obtain ⟨l, hlen, hR⟩ := list_of (fun i (x : Nat) => x < 256 ∧ W.cell? (a.add i) = some (.int .u8 (x : Nat))) len (fun i hil => by
      obtain ⟨cs, hc, ht⟩ := hi i (by omega)
      rw [cells25b, Nat.mul_one] at hc
      obtain ⟨_, hcl, hat⟩ := World.cells?_some hc
      obtain ⟨k, e0, _, w0⟩ := DataW.trod_int Tryz.underlying5 ht
      subst e0
      have hb := bd_u8 w0
      refine ⟨k.toNat, by omega, ?_⟩
      have := hat 0 (by simp)
      rw [add_add_, Nat.add_zero] at this
      rw [this]
      show some (Value.int .u8 k) = some (Value.int .u8 ((k.toNat : Nat) : Int))
      rw [show ((k.toNat : Nat) : Int) = k by omega])
    subst hlen
    refine ⟨some a, cap, l, hcs, by omega, fun i hil => ?_, .inr ⟨_, _, by rw [hx], by simp⟩⟩
    obtain ⟨h0, h1⟩ := hR i hil
    have hs : a.spot = none := by
      have h0 := (hR 0 (by omega)).2
      have := spot_of_cell h0
      simpa [Addr.add] using this
    obtain ⟨b, o, s⟩ := a
    simp only at hs
    subst hs
    have ha : ∀ k, Addr.add ⟨b, o, none⟩ k = ⟨b, o + k, none⟩ := fun k => by unfold Addr.add; split <;> simp_all
    rw [ha] at h1
    exact ⟨b, o, rfl, lt_of_cell h1, h0, h1⟩
set_option maxRecDepth 100000 in
theorem hds_cells (hf : DataW.trod enc Tryz.prog W 0 (fun _ => true) true fuel 22 cs0 = some x) :
    ∃ (A : Option Addr) (cap : Nat) (l : List Hdr), cs0 = [.slice A l.length cap] ∧ l.length ≤ maxLen ∧ HdsAt W A l := by
  rcases Go.Deep.open_slice Tryz.underlying22 hf with ⟨hcs, _⟩ | ⟨a, len, cap, m, n, D, Pl, hcs, _, hl, hm, hmm, _, hi⟩
  · exact ⟨none, 0, [], hcs, Nat.zero_le _, fun i h => absurd h (by simp)⟩
  · have hle : len ≤ m := by rw [hmm]; simpa using hl
    obtain ⟨l, hlen, hR⟩ := list_of (fun i (x : Hdr) => W.cell? (a.add (i * 3 + 0)) = some (.int .i64 x.p) ∧ W.cell? (a.add (i * 3 + 1)) = some (.int .i64 x.f) ∧ W.cell? (a.add (i * 3 + 2)) = some (.int .i64 x.k)) len (fun i hil => by
      obtain ⟨cs, hc, ht⟩ := hi i (by omega)
      rw [cells25h] at hc
      obtain ⟨_, hcl, hat⟩ := World.cells?_some hc
      obtain ⟨y0, y1, y2, n', _, _, t0, t1, t2⟩ := Go.Deep.trod_struct3 Tryz.underlying90 ht
      simp only [cellsInt] at t0 t1 t2
      match cs, hcl with
      | [c0, c1, c2], _ =>
        have g : ∀ j, j < 3 → W.cell? ((a.add (i * 3)).add j) = [c0, c1, c2][j]? := fun j hj => hat j hj
        obtain ⟨x0, e0, _, _⟩ := DataW.trod_int Tryz.underlying3 t0
        obtain ⟨x1, e1, _, _⟩ := DataW.trod_int Tryz.underlying3 t1
        obtain ⟨x2, e2, _, _⟩ := DataW.trod_int Tryz.underlying3 t2
        simp at e0 e1 e2
        subst e0 e1 e2
        have add3 : ∀ j, (a.add (i * 3)).add j = a.add (i * 3 + j) := fun j => add_add_ a (i * 3) j
        refine ⟨⟨x0, x1, x2⟩, ?_, ?_, ?_⟩
        · rw [← add3, g 0 (by omega)]; rfl
        · rw [← add3, g 1 (by omega)]; rfl
        · rw [← add3, g 2 (by omega)]; rfl)
    subst hlen
    refine ⟨some a, cap, l, hcs, by omega, fun i hil => ?_⟩
    obtain ⟨h2, h3, h4⟩ := hR i hil
    have hs : a.spot = none := by
      have h0 := (hR 0 (by omega)).1
      have := spot_of_cell h0
      simpa [Addr.add] using this
    obtain ⟨b, o, s⟩ := a
    simp only at hs
    subst hs
    have ha : ∀ k, Addr.add ⟨b, o, none⟩ k = ⟨b, o + k, none⟩ := fun k => by unfold Addr.add; split <;> simp_all
    rw [ha] at h2 h3 h4
    exact ⟨b, o, rfl, lt_of_cell h2, h2, by rw [Nat.add_assoc]; exact h3, by rw [Nat.add_assoc]; exact h4⟩
end
theorem nat_u8 {k : Int} (h : (Lit.int .u8 k).wf = true) : ∃ m : Nat, k = m ∧ m < 256 := by
  have hb := bd_u8 h
  exact ⟨k.toNat, by omega, by omega⟩
set_option maxRecDepth 100000 in
set_option maxHeartbeats 800000 in
theorem open_laidC {H : Type} {enc : TypeId × Value → H} {W : World} {r : Reach} {b0 : Nat} {v : Value} {d : DataW H} {p : List MemPlace}
    (hv : Value.okWide Tryz.prog W r b0 25 v) (h : DataW.Trod enc Tryz.prog W 0 (fun _ => true) true 25 v d p) (hz : ∀ n ∈ d.weights Tryz.prog 25, n ≤ reachBytes) :
    ∃ (A1 A2 A3 : Option Addr) (c1 c2 c3 : Nat) (x : LaidC), v = .agg (laidV x A1 A2 A3 c1 c2 c3).toArray ∧ LaidCAt W A1 A2 A3 x := by
  obtain ⟨cs, rfl, hsz⟩ := okWide_struct Tryz.underlying25 hv
  obtain ⟨c0, c1, c2, c3, c4, c5, c6, rfl⟩ := array7 cs (hsz.trans cells25L)
  obtain ⟨fuel, hf⟩ := h
  obtain ⟨y0, y1, y2, y3, y4, y5, y6, n, t0, t1, t2, t3, t4, t5, t6, hd⟩ := trod_struct7 Tryz.underlying25 hf
  simp only [cells25b, cells25H, cells25B] at t0 t1 t2 t3 t4 t5 t6
  obtain ⟨A1, p1, l1, e1, k1, h1⟩ := hds_cells t1
  obtain ⟨A2, p2, l2, e2, k2, h2, z2⟩ := u8_cells t2
  obtain ⟨A3, p3, l3, e3, k3, h3, _⟩ := u8_cells t3
  obtain ⟨x0, e0, _, w0⟩ := DataW.trod_int Tryz.underlying5 t0
  obtain ⟨x4, e4, _, w4⟩ := DataW.trod_int Tryz.underlying5 t4
  obtain ⟨x5, e5, _, w5⟩ := DataW.trod_int Tryz.underlying5 t5
  obtain ⟨x6, e6, _, w6⟩ := DataW.trod_int Tryz.underlying5 t6
  simp [Value.cells] at e0 e1 e2 e3 e4 e5 e6
  obtain ⟨m0, rfl, b0'⟩ := nat_u8 w0
  obtain ⟨m4, rfl, b4⟩ := nat_u8 w4
  obtain ⟨m5, rfl, b5⟩ := nat_u8 w5
  obtain ⟨m6, rfl, b6⟩ := nat_u8 w6
  subst e0 e1 e2 e3 e4 e5 e6
  have hl2 : l2.length ≤ 4611686018427387904 := by
    rcases z2 with rfl | ⟨e, s, he, hl⟩
    · decide
    · have hd : d = .agg [y0.1, y1.1, y2.1, y3.1, y4.1, y5.1, y6.1] := hd
      have hw : ((e.length + s.length) * Tryz.prog.bytesOf 5) ∈ d.weights Tryz.prog 25 := by
        rw [hd, he]
        simp only [DataW.weights, Tryz.underlying25]
        exact DataW.weights_mem_each (j := 2) (t := 23) (d := .slice e s) rfl rfl _ (by simp [DataW.weights, Tryz.underlying23])
      have := hz _ hw
      rw [bytes25b] at this
      have := reachBytes_lt
      omega
  unfold maxLen at k1 k3
  exact ⟨A1, A2, A3, p1, p2, p3, ⟨m0, l1, l2, l3, m4, m5, m6⟩, rfl, ⟨h1, h2, h3, k1, hl2, k3, b0', b4, b5, b6⟩⟩
end Go.Proofs.YtbmidhlilafgeaaGreatDoor
