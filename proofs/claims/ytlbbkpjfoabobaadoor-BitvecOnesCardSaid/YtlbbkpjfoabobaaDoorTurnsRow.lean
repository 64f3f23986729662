/- A struct of acts and a byte among the arguments. -/
import Derived.Test.YtlbbkpjfoabobaaDoorActs
namespace Go.Proofs.YtlbbkpjfoabobaaDoor
open Go.ChangeShapes Go.WideShapes Go.ChangeAt Go.RowKit Word

theorem cellsActs : Tryd.prog.cellsOf 23 = 1 := by kernel_rfl
theorem cellsTurns : Tryd.prog.cellsOf 40 = 2 := by kernel_rfl
set_option maxRecDepth 100000 in
theorem acts_cells {H : Type} {enc : TypeId × Value → H} {W : World} {fuel : Nat} {cs0 : List Value} {x : DataW H × List MemPlace}
    (hf : DataW.trod enc Tryd.prog W 0 (fun _ => true) true fuel 23 cs0 = some x) :
    ∃ (A : Option Addr) (cap : Nat) (l : List ActD), cs0 = [.slice A l.length cap] ∧ l.length ≤ maxLen ∧ ActsAt W A l := by
  rcases Go.Deep.open_slice Tryd.underlying23 hf with ⟨hcs, _⟩ | ⟨a, len, cap, m, n, D, Pl, hcs, _, hl, hm, hmm, _, hi⟩
  · exact ⟨none, 0, [], hcs, Nat.zero_le _, fun i h => absurd h (by simp)⟩
  · have hle : len ≤ m := by rw [hmm]; simpa using hl
    obtain ⟨l, hlen, hR⟩ := list_of (fun i (x : ActD) => x.ok ∧ W.cell? (a.add (i * 3 + 0)) = some (.int .u8 x.kind) ∧ W.cell? (a.add (i * 3 + 1)) = some (.int .i64 x.a) ∧ W.cell? (a.add (i * 3 + 2)) = some (.int .i64 x.b)) len (fun i hil => by
      obtain ⟨cs, hc, ht⟩ := hi i (by omega)
      rw [cellsAct] at hc
      obtain ⟨_, hcl, hat⟩ := World.cells?_some hc
      obtain ⟨y0, y1, y2, n', _, _, t0, t1, t2⟩ := Go.Deep.trod_struct3 Tryd.underlying31 ht
      simp only [cellsU8, cellsInt] at t0 t1 t2
      match cs, hcl with
      | [c0, c1, c2], _ =>
        have g : ∀ j, j < 3 → W.cell? ((a.add (i * 3)).add j) = [c0, c1, c2][j]? := fun j hj => hat j hj
        obtain ⟨k, e0, _, w0⟩ := DataW.trod_int Tryd.underlying5 t0
        obtain ⟨x, e1, _, w1⟩ := DataW.trod_int Tryd.underlying3 t1
        obtain ⟨y, e2, _, w2⟩ := DataW.trod_int Tryd.underlying3 t2
        simp at e0 e1 e2
        subst e0 e1 e2
        have b0 := bd_u8 w0
        have b1 := bd_i64 w1
        have b2 := bd_i64 w2
        have add3 : ∀ j, (a.add (i * 3)).add j = a.add (i * 3 + j) := fun j => add_add_ a (i * 3) j
        have hk : k = (k.toNat : Int) := by omega
        refine ⟨⟨k.toNat, x, y⟩, ⟨by show k.toNat ≤ 255; omega, b1.1, b1.2, b2.1, b2.2⟩, ?_, ?_, ?_⟩
        · rw [← add3, g 0 (by omega)]; show some (Value.int .u8 k) = some (Value.int .u8 (k.toNat : Int)); rw [← hk]
        · rw [← add3, g 1 (by omega)]; rfl
        · rw [← add3, g 2 (by omega)]; rfl)
    subst hlen
    refine ⟨some a, cap, l, hcs, by omega, fun i hil => ?_⟩
    obtain ⟨h1, h2, h3, h4⟩ := hR i hil
    have hs : a.spot = none := by
      have h0 := (hR 0 (by omega)).2.1
      have := spot_of_cell h0
      simpa [Addr.add] using this
    obtain ⟨b, o, s⟩ := a
    simp only at hs
    subst hs
    have ha : ∀ k, Addr.add ⟨b, o, none⟩ k = ⟨b, o + k, none⟩ := fun k => by unfold Addr.add; split <;> simp_all
    rw [ha] at h2 h3 h4
    exact ⟨h1, b, o, rfl, lt_of_cell h2, h2, by rw [Nat.add_assoc]; exact h3, by rw [Nat.add_assoc]; exact h4⟩
set_option maxRecDepth 100000 in
theorem open_turns {H : Type} {enc : TypeId × Value → H} {W : World} {r : Reach} {b0 : Nat} {v : Value} {d : DataW H} {p : List MemPlace}
    (hv : Value.okWide Tryd.prog W r b0 40 v) (h : DataW.Trod enc Tryd.prog W 0 (fun _ => true) true 40 v d p) :
    ∃ (A : Option Addr) (cap : Nat) (l : List ActD) (stop : Nat), v = .agg #[.slice A l.length cap, .int .u8 stop] ∧ l.length ≤ maxLen ∧ ActsAt W A l ∧ stop ≤ 255 := by
  obtain ⟨cs, rfl, hsz⟩ := okWide_struct Tryd.underlying40 hv
  obtain ⟨c0, c1, rfl⟩ := Go.Joins.array2 (hsz.trans cellsTurns)
  obtain ⟨fuel, hf⟩ := h
  obtain ⟨y0, y1, n, _, _, t0, t1⟩ := trod_struct2 Tryd.underlying40 hf
  simp only [cellsActs, cellsU8] at t0 t1
  obtain ⟨A, cap, l, e0, hl, hA⟩ := acts_cells t0
  obtain ⟨k, e1, _, w1⟩ := DataW.trod_int Tryd.underlying5 t1
  simp [Value.cells] at e0 e1
  subst e0 e1
  have b1 := bd_u8 w1
  refine ⟨A, cap, l, k.toNat, ?_, hl, hA, by omega⟩
  rw [show ((k.toNat : Nat) : Int) = k by omega]
end Go.Proofs.YtlbbkpjfoabobaaDoor
