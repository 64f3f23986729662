/- Rows of bools and triples of ints among the arguments. -/
import Derived.Test.YtlkifhoedfjlaaaDoorK4
import Derived.Test.YtlkifhoedfjlaaaDoorTells12
namespace Go.Proofs.YtlkifhoedfjlaaaDoor
open Go.ChangeShapes Go.WideShapes Go.ChangeAt Go.RowKit Word

theorem cellsArr3 : Tryd.prog.cellsOf 47 = 3 := by kernel_rfl
set_option maxRecDepth 100000 in
theorem open_three {H : Type} {enc : TypeId × Value → H} {W : World} {r : Reach} {b0 : Nat} {v : Value} {d : DataW H} {p : List MemPlace}
    (hv : Value.okWide Tryd.prog W r b0 47 v) (h : DataW.Trod enc Tryd.prog W 0 (fun _ => true) true 47 v d p) :
    ∃ x y z : Int, v = .agg #[.int .i64 x, .int .i64 y, .int .i64 z] ∧ x ≤ 9223372036854775807 ∧ y ≤ 9223372036854775807 ∧ z ≤ 9223372036854775807 := by
  have hv' : ∃ cs, v = Value.agg cs ∧ cs.size = Tryd.prog.cellsOf 47 := by
    unfold Value.okWide at hv
    rw [Tryd.underlying47] at hv
    obtain ⟨cs, h1, h2, _⟩ := hv
    exact ⟨cs, h1, h2⟩
  obtain ⟨cs, rfl, hsz⟩ := hv'
  obtain ⟨c0, c1, c2, rfl⟩ := Go.Joins.array3 (hsz.trans cellsArr3)
  obtain ⟨fuel, hf⟩ := h
  obtain ⟨xs, m, _, _, _, hlen, hel⟩ := DataW.trod_array Tryd.underlying47 hf
  match xs, hlen with
  | [y0, y1, y2], _ =>
    have t0 := hel 0 (by decide)
    have t1 := hel 1 (by decide)
    have t2 := hel 2 (by decide)
    simp only [cellsInt] at t0 t1 t2
    obtain ⟨x, e0, _, w0⟩ := DataW.trod_int Tryd.underlying3 t0
    obtain ⟨y, e1, _, w1⟩ := DataW.trod_int Tryd.underlying3 t1
    obtain ⟨z, e2, _, w2⟩ := DataW.trod_int Tryd.underlying3 t2
    simp [Value.cells] at e0 e1 e2
    subst e0 e1 e2
    exact ⟨x, y, z, rfl, (bd_i64 w0).2, (bd_i64 w1).2, (bd_i64 w2).2⟩

theorem cellsBool : Tryd.prog.cellsOf 4 = 1 := by kernel_rfl
set_option maxRecDepth 100000 in
theorem open_row {H : Type} {enc : TypeId × Value → H} {W : World} {r : Reach} {b0 : Nat} {v : Value} {d : DataW H} {p : List MemPlace}
    (hv : Value.okWide Tryd.prog W r b0 153 v) (h : DataW.Trod enc Tryd.prog W 0 (fun _ => true) true 153 v d p) :
    ∃ (A : Option Addr) (cap : Nat) (l : List Bool), v = .slice A l.length cap ∧ l.length ≤ maxLen ∧ RowAt W A l := by
  obtain ⟨A, len, cap, rfl⟩ := okWide_slice Tryd.underlying153 hv
  obtain ⟨fuel, hf⟩ := h
  rcases Go.Deep.open_slice Tryd.underlying153 hf with ⟨hcs, _⟩ | ⟨a, len', cap', m, n, D, Pl, hcs, _, hl, hm, hmm, _, hi⟩
  · simp [Value.cells] at hcs
    obtain ⟨rfl, rfl, rfl⟩ := hcs
    exact ⟨none, 0, [], rfl, Nat.zero_le _, fun i h => absurd h (by simp)⟩
  · simp [Value.cells] at hcs
    obtain ⟨rfl, rfl, rfl⟩ := hcs
    have hle : len ≤ m := by rw [hmm]; simpa using hl
    obtain ⟨l, hlen, hR⟩ := list_of (fun i (x : Bool) => W.cell? (a.add i) = some (.bool x)) len (fun i hil => by
      obtain ⟨cs, hc, ht⟩ := hi i (by omega)
      rw [cellsBool, Nat.mul_one] at hc
      obtain ⟨_, hcl, hat⟩ := World.cells?_some hc
      obtain ⟨b, e0, _⟩ := DataW.trod_bool Tryd.underlying4 ht
      subst e0
      refine ⟨b, ?_⟩
      have := hat 0 (by simp)
      rwa [add_add_, Nat.add_zero] at this)
    subst hlen
    refine ⟨some a, cap, l, rfl, by omega, fun i hil => ?_⟩
    have h1 := hR i hil
    have hs : a.spot = none := by
      have h0 := hR 0 (by omega)
      have := spot_of_cell h0
      simpa [Addr.add] using this
    obtain ⟨b, o, s⟩ := a
    simp only at hs
    subst hs
    have ha : ∀ k, Addr.add ⟨b, o, none⟩ k = ⟨b, o + k, none⟩ := fun k => by unfold Addr.add; split <;> simp_all
    rw [ha] at h1
    have hat : at_ l i = l[i] := by unfold at_; rw [List.getD_eq_getElem?_getD, List.getElem?_eq_getElem hil]; rfl
    exact ⟨b, o, rfl, lt_of_cell h1, by rw [hat]; exact h1⟩
end Go.Proofs.YtlkifhoedfjlaaaDoor
