/- A slice of Acts among the arguments. -/
import Derived.Test.YtlbbkpjfoabobaaDoorRow
import Derived.Test.YtlbbkpjfoabobaaDoorAdds
namespace Go.Proofs.YtlbbkpjfoabobaaDoor
open Go.ChangeShapes Go.WideShapes Go.ChangeAt Go.RowKit Word

theorem cellsAct : Tryd.prog.cellsOf 31 = 3 := by kernel_rfl
theorem cellsInt : Tryd.prog.cellsOf 3 = 1 := by kernel_rfl
theorem bd_i64 {n : Int} (h : (Lit.int .i64 n).wf = true) : -9223372036854775808 ≤ n ∧ n ≤ 9223372036854775807 := by
  simpa [Lit.wf, IntKind.min, IntKind.max, IntKind.signed, IntKind.bits] using h
theorem bd_u8 {n : Int} (h : (Lit.int .u8 n).wf = true) : 0 ≤ n ∧ n ≤ 255 := by
  simpa [Lit.wf, IntKind.min, IntKind.max, IntKind.signed, IntKind.bits] using h

theorem add_add_ (a : Addr) (i j : Nat) : (a.add i).add j = a.add (i + j) := by
  obtain ⟨b, o, s⟩ := a
  unfold Addr.add
  by_cases h1 : i = 0
  · subst h1; simp
  · by_cases h2 : j = 0
    · subst h2; simp
    · have : i + j ≠ 0 := by omega
      simp [h1, h2, Nat.add_assoc]
set_option maxRecDepth 100000 in
theorem open_acts {H : Type} {enc : TypeId × Value → H} {W : World} {r : Reach} {b0 : Nat} {v : Value} {d : DataW H} {p : List MemPlace}
    (hv : Value.okWide Tryd.prog W r b0 23 v) (h : DataW.Trod enc Tryd.prog W 0 (fun _ => true) true 23 v d p) :
    ∃ (A : Option Addr) (cap : Nat) (l : List ActD), v = .slice A l.length cap ∧ l.length ≤ maxLen ∧ ActsAt W A l := by
  obtain ⟨A, len, cap, rfl⟩ := okWide_slice Tryd.underlying23 hv
  obtain ⟨fuel, hf⟩ := h
  rcases Go.Deep.open_slice Tryd.underlying23 hf with ⟨hcs, _⟩ | ⟨a, len', cap', m, n, D, Pl, hcs, _, hl, hm, hmm, _, hi⟩
  · simp [Value.cells] at hcs
    obtain ⟨rfl, rfl, rfl⟩ := hcs
    exact ⟨none, 0, [], rfl, Nat.zero_le _, fun i h => absurd h (by simp)⟩
  · simp [Value.cells] at hcs
    obtain ⟨rfl, rfl, rfl⟩ := hcs
    have hle : len ≤ m := by rw [hmm]; simpa using hl
    obtain ⟨l, hlen, hR⟩ := list_of (fun i (x : ActD) => x.ok ∧ W.cell? (a.add (i * 3 + 0)) = some (.int .u8 x.kind) ∧ W.cell? (a.add (i * 3 + 1)) = some (.int .i64 x.a) ∧ W.cell? (a.add (i * 3 + 2)) = some (.int .i64 x.b)) len (fun i hil => by
      obtain ⟨cs, hc, ht⟩ := hi i (by omega)
      rw [cellsAct] at hc
      obtain ⟨_, hcl, hat⟩ := World.cells?_some hc
      obtain ⟨y0, y1, y2, n', _, _, t0, t1, t2⟩ := Go.Deep.trod_struct3 Tryd.underlying31 ht
      simp only [cellsU8, cellsInt] at t0 t1 t2
      match cs, hcl with
      | [c0, c1, c2], _ =>
        have g : ∀ j, j < 3 → W.cell? ((a.add (i * 3)).add j) = [c0, c1, c2][j]? := fun j hj => hat j hj
        obtain ⟨k, e0, _, w0⟩ := DataW.trod_int Tryd.underlying5 t0
        obtain ⟨x, e1, _, w1⟩ := DataW.trod_int Tryd.underlying3 t1
        obtain ⟨y, e2, _, w2⟩ := DataW.trod_int Tryd.underlying3 t2
        simp at e0 e1 e2
        subst e0 e1 e2
        have b0 := bd_u8 w0
        have b1 := bd_i64 w1
        have b2 := bd_i64 w2
        have add3 : ∀ j, (a.add (i * 3)).add j = a.add (i * 3 + j) := fun j => add_add_ a (i * 3) j
        have hk : k = (k.toNat : Int) := by omega
        refine ⟨⟨k.toNat, x, y⟩, ⟨by show k.toNat ≤ 255; omega, b1.1, b1.2, b2.1, b2.2⟩, ?_, ?_, ?_⟩
        · rw [← add3, g 0 (by omega)]; show some (Value.int .u8 k) = some (Value.int .u8 (k.toNat : Int)); rw [← hk]
        · rw [← add3, g 1 (by omega)]; rfl
        · rw [← add3, g 2 (by omega)]; rfl)
    subst hlen
    refine ⟨some a, cap, l, rfl, by omega, fun i hil => ?_⟩
    obtain ⟨h1, h2, h3, h4⟩ := hR i hil
    have hs : a.spot = none := by
      have h0 := (hR 0 (by omega)).2.1
      have := spot_of_cell h0
      simpa [Addr.add] using this
    obtain ⟨b, o, s⟩ := a
    simp only at hs
    subst hs
    have ha : ∀ k, Addr.add ⟨b, o, none⟩ k = ⟨b, o + k, none⟩ := fun k => by unfold Addr.add; split <;> simp_all
    rw [ha] at h2 h3 h4
    exact ⟨h1, b, o, rfl, lt_of_cell h2, h2, by rw [Nat.add_assoc]; exact h3, by rw [Nat.add_assoc]; exact h4⟩
end Go.Proofs.YtlbbkpjfoabobaaDoor
