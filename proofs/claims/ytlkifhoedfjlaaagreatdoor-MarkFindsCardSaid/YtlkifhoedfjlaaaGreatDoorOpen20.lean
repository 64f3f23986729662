/- Layer 20: a Laid, roots and pairs among the arguments. -/
import Derived.Test.YtlkifhoedfjlaaaGreatDoorK4
import Derived.Test.YtlkifhoedfjlaaaGreatDoorLay18
namespace Go.Proofs.YtlkifhoedfjlaaaGreatDoor
open Go.ChangeShapes Go.WideShapes Go.ChangeAt Go.RowKit Word

theorem cellsInts : Tryz.prog.cellsOf 23 = 1 := by kernel_rfl
theorem cellsHdrs : Tryz.prog.cellsOf 22 = 1 := by kernel_rfl
theorem cellsHdr : Tryz.prog.cellsOf 52 = 3 := by kernel_rfl
theorem cellsLaid : Tryz.prog.cellsOf 25 = 3 := by kernel_rfl
theorem cellsTwo : Tryz.prog.cellsOf 26 = 2 := by kernel_rfl
set_option maxRecDepth 100000 in
theorem ints_cells {H : Type} {enc : TypeId × Value → H} {W : World} {fuel : Nat} {cs0 : List Value} {x : DataW H × List MemPlace}
    (hf : DataW.trod enc Tryz.prog W 0 (fun _ => true) true fuel 23 cs0 = some x) :
    ∃ (A : Option Addr) (cap : Nat) (l : List Int), cs0 = [.slice A l.length cap] ∧ l.length ≤ maxLen ∧ IntsAt W A l := by
  rcases Go.Deep.open_slice Tryz.underlying23 hf with ⟨hcs, _⟩ | ⟨a, len, cap, m, n, D, Pl, hcs, _, hl, hm, hmm, _, hi⟩
  · exact ⟨none, 0, [], hcs, Nat.zero_le _, fun i h => absurd h (by simp)⟩
  · have hle : len ≤ m := by rw [hmm]; simpa using hl
    obtain ⟨l, hlen, hR⟩ := list_of (fun i (x : Int) => W.cell? (a.add i) = some (.int .i64 x)) len (fun i hil => by
      obtain ⟨cs, hc, ht⟩ := hi i (by omega)
      rw [cellsInt, Nat.mul_one] at hc
      obtain ⟨_, hcl, hat⟩ := World.cells?_some hc
      obtain ⟨k, e0, _, _⟩ := DataW.trod_int Tryz.underlying3 ht
      subst e0
      refine ⟨k, ?_⟩
      have := hat 0 (by simp)
      rwa [add_add_, Nat.add_zero] at this)
    subst hlen
    refine ⟨some a, cap, l, hcs, by omega, fun i hil => ?_⟩
    have h1 := hR i hil
    have hs : a.spot = none := by
      have h0 := hR 0 (by omega)
      have := spot_of_cell h0
      simpa [Addr.add] using this
    obtain ⟨b, o, s⟩ := a
    simp only at hs
    subst hs
    have ha : ∀ k, Addr.add ⟨b, o, none⟩ k = ⟨b, o + k, none⟩ := fun k => by unfold Addr.add; split <;> simp_all
    rw [ha] at h1
    exact ⟨b, o, rfl, lt_of_cell h1, h1⟩
set_option maxRecDepth 100000 in
theorem hdrs_cells {H : Type} {enc : TypeId × Value → H} {W : World} {fuel : Nat} {cs0 : List Value} {x : DataW H × List MemPlace}
    (hf : DataW.trod enc Tryz.prog W 0 (fun _ => true) true fuel 22 cs0 = some x) :
    ∃ (A : Option Addr) (cap : Nat) (l : List Hdr), cs0 = [.slice A l.length cap] ∧ l.length ≤ maxLen ∧ HdrsAt W A l := by
  rcases Go.Deep.open_slice Tryz.underlying22 hf with ⟨hcs, _⟩ | ⟨a, len, cap, m, n, D, Pl, hcs, _, hl, hm, hmm, _, hi⟩
  · exact ⟨none, 0, [], hcs, Nat.zero_le _, fun i h => absurd h (by simp)⟩
  · have hle : len ≤ m := by rw [hmm]; simpa using hl
    obtain ⟨l, hlen, hR⟩ := list_of (fun i (x : Hdr) => W.cell? (a.add (i * 3 + 0)) = some (.int .i64 x.p) ∧ W.cell? (a.add (i * 3 + 1)) = some (.int .i64 x.f) ∧ W.cell? (a.add (i * 3 + 2)) = some (.int .i64 x.k)) len (fun i hil => by
      obtain ⟨cs, hc, ht⟩ := hi i (by omega)
      rw [cellsHdr] at hc
      obtain ⟨_, hcl, hat⟩ := World.cells?_some hc
      obtain ⟨y0, y1, y2, n', _, _, t0, t1, t2⟩ := Go.Deep.trod_struct3 Tryz.underlying52 ht
      simp only [cellsInt] at t0 t1 t2
      match cs, hcl with
      | [c0, c1, c2], _ =>
        have g : ∀ j, j < 3 → W.cell? ((a.add (i * 3)).add j) = [c0, c1, c2][j]? := fun j hj => hat j hj
        obtain ⟨x0, e0, _, _⟩ := DataW.trod_int Tryz.underlying3 t0
        obtain ⟨x1, e1, _, _⟩ := DataW.trod_int Tryz.underlying3 t1
        obtain ⟨x2, e2, _, _⟩ := DataW.trod_int Tryz.underlying3 t2
        simp at e0 e1 e2
        subst e0 e1 e2
        have add3 : ∀ j, (a.add (i * 3)).add j = a.add (i * 3 + j) := fun j => add_add_ a (i * 3) j
        refine ⟨⟨x0, x1, x2⟩, ?_, ?_, ?_⟩
        · rw [← add3, g 0 (by omega)]; rfl
        · rw [← add3, g 1 (by omega)]; rfl
        · rw [← add3, g 2 (by omega)]; rfl)
    subst hlen
    refine ⟨some a, cap, l, hcs, by omega, fun i hil => ?_⟩
    obtain ⟨h2, h3, h4⟩ := hR i hil
    have hs : a.spot = none := by
      have h0 := (hR 0 (by omega)).1
      have := spot_of_cell h0
      simpa [Addr.add] using this
    obtain ⟨b, o, s⟩ := a
    simp only at hs
    subst hs
    have ha : ∀ k, Addr.add ⟨b, o, none⟩ k = ⟨b, o + k, none⟩ := fun k => by unfold Addr.add; split <;> simp_all
    rw [ha] at h2 h3 h4
    exact ⟨b, o, rfl, lt_of_cell h2, h2, by rw [Nat.add_assoc]; exact h3, by rw [Nat.add_assoc]; exact h4⟩
set_option maxRecDepth 100000 in
theorem open_laid {H : Type} {enc : TypeId × Value → H} {W : World} {r : Reach} {b0 : Nat} {v : Value} {d : DataW H} {p : List MemPlace}
    (hv : Value.okWide Tryz.prog W r b0 25 v) (h : DataW.Trod enc Tryz.prog W 0 (fun _ => true) true 25 v d p) :
    ∃ (A1 A2 A3 : Option Addr) (c1 c2 c3 : Nat) (x : Laid), v = .agg #[.slice A1 x.H.length c1, .slice A2 x.P.length c2, .slice A3 x.W.length c3] ∧ HdrsAt W A1 x.H ∧ IntsAt W A2 x.P ∧ IntsAt W A3 x.W ∧
      (x.H.length ≤ 9223372036854775807 ∧ x.P.length ≤ 9223372036854775807 ∧ x.W.length ≤ 9223372036854775807) := by
  obtain ⟨cs, rfl, hsz⟩ := okWide_struct Tryz.underlying25 hv
  obtain ⟨c0, c1, c2, rfl⟩ := Go.Joins.array3 (hsz.trans cellsLaid)
  obtain ⟨fuel, hf⟩ := h
  obtain ⟨y0, y1, y2, n, _, _, t0, t1, t2⟩ := Go.Deep.trod_struct3 Tryz.underlying25 hf
  simp only [cellsHdrs, cellsInts] at t0 t1 t2
  obtain ⟨A1, p1, l1, e0, h0, k0⟩ := hdrs_cells t0
  obtain ⟨A2, p2, l2, e1, h1, k1⟩ := ints_cells t1
  obtain ⟨A3, p3, l3, e2, h2, k2⟩ := ints_cells t2
  simp [Value.cells] at e0 e1 e2
  subst e0 e1 e2
  exact ⟨A1, A2, A3, p1, p2, p3, ⟨l1, l2, l3⟩, rfl, k0, k1, k2, h0, h1, h2⟩
set_option maxRecDepth 100000 in
theorem open_ints20 {H : Type} {enc : TypeId × Value → H} {W : World} {r : Reach} {b0 : Nat} {v : Value} {d : DataW H} {p : List MemPlace}
    (hv : Value.okWide Tryz.prog W r b0 23 v) (h : DataW.Trod enc Tryz.prog W 0 (fun _ => true) true 23 v d p) :
    ∃ (A : Option Addr) (cap : Nat) (l : List Int), v = .slice A l.length cap ∧ l.length ≤ maxLen ∧ IntsAt W A l := by
  obtain ⟨A, len, cap, rfl⟩ := okWide_slice Tryz.underlying23 hv
  obtain ⟨fuel, hf⟩ := h
  obtain ⟨A', c', l, e, h1, h2⟩ := ints_cells hf
  simp [Value.cells] at e
  obtain ⟨rfl, rfl, rfl⟩ := e
  exact ⟨A, cap, l, rfl, h1, h2⟩
set_option maxRecDepth 100000 in
theorem open_two {H : Type} {enc : TypeId × Value → H} {W : World} {r : Reach} {b0 : Nat} {v : Value} {d : DataW H} {p : List MemPlace}
    (hv : Value.okWide Tryz.prog W r b0 26 v) (h : DataW.Trod enc Tryz.prog W 0 (fun _ => true) true 26 v d p) :
    ∃ x y : Int, v = .agg #[.int .i64 x, .int .i64 y] := by
  have hv' : ∃ cs, v = Value.agg cs ∧ cs.size = Tryz.prog.cellsOf 26 := by
    unfold Value.okWide at hv
    rw [Tryz.underlying26] at hv
    obtain ⟨cs, h1, h2, _⟩ := hv
    exact ⟨cs, h1, h2⟩
  obtain ⟨cs, rfl, hsz⟩ := hv'
  obtain ⟨c0, c1, rfl⟩ := Go.Joins.array2 (hsz.trans cellsTwo)
  obtain ⟨fuel, hf⟩ := h
  obtain ⟨xs, m, _, _, _, hlen, hel⟩ := DataW.trod_array Tryz.underlying26 hf
  match xs, hlen with
  | [y0, y1], _ =>
    have t0 := hel 0 (by decide)
    have t1 := hel 1 (by decide)
    simp only [cellsInt] at t0 t1
    obtain ⟨x, e0, _, _⟩ := DataW.trod_int Tryz.underlying3 t0
    obtain ⟨y, e1, _, _⟩ := DataW.trod_int Tryz.underlying3 t1
    simp [Value.cells] at e0 e1
    subst e0 e1
    exact ⟨x, y, rfl⟩
end Go.Proofs.YtlkifhoedfjlaaaGreatDoor
