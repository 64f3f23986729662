/- Layers 24, 25: a configuration among the arguments. -/
import Derived.Test.YtbmidhlilafgeaaGreatDoorK4
namespace Go.Proofs.YtbmidhlilafgeaaGreatDoor
open Go.ChangeShapes Go.WideShapes Go.ChangeAt Go.RowKit Word

theorem cellsConf : Tryz.prog.cellsOf 44 = 7 := by kernel_rfl
theorem array7 (T : Array Value) (h : T.size = 7) : ∃ v0 v1 v2 v3 v4 v5 v6 : Value, T = #[v0, v1, v2, v3, v4, v5, v6] := by
  obtain ⟨l⟩ := T
  match l, h with
  | [v0, v1, v2, v3, v4, v5, v6], _ => exact ⟨v0, v1, v2, v3, v4, v5, v6, rfl⟩
section
variable {P : Program} {H : Type} {enc : TypeId × Value → H} {w : World} {base : Nat} {spare : Nat → Bool} {held : Bool}
theorem trod_struct7 {t : TypeId} {f0 f1 f2 f3 f4 f5 f6 : Field} {fuel : Nat} {cs : List Value} {x : DataW H × List MemPlace} (ht : P.underlying t = some (.struct #[f0, f1, f2, f3, f4, f5, f6])) (h : DataW.trod enc P w base spare held fuel t cs = some x) :
    ∃ y0 y1 y2 y3 y4 y5 y6 n, DataW.trod enc P w base spare held n f0.type ((cs.drop f0.offset).take (P.cellsOf f0.type)) = some y0 ∧ DataW.trod enc P w base spare held n f1.type ((cs.drop f1.offset).take (P.cellsOf f1.type)) = some y1 ∧
      DataW.trod enc P w base spare held n f2.type ((cs.drop f2.offset).take (P.cellsOf f2.type)) = some y2 ∧ DataW.trod enc P w base spare held n f3.type ((cs.drop f3.offset).take (P.cellsOf f3.type)) = some y3 ∧
      DataW.trod enc P w base spare held n f4.type ((cs.drop f4.offset).take (P.cellsOf f4.type)) = some y4 ∧ DataW.trod enc P w base spare held n f5.type ((cs.drop f5.offset).take (P.cellsOf f5.type)) = some y5 ∧
      DataW.trod enc P w base spare held n f6.type ((cs.drop f6.offset).take (P.cellsOf f6.type)) = some y6 ∧ x.1 = .agg [y0.1, y1.1, y2.1, y3.1, y4.1, y5.1, y6.1] := by
  obtain ⟨xs, n, _, rfl, hl, hlen, hf⟩ := DataW.trod_struct ht h
  match xs, hlen with
  | [y0, y1, y2, y3, y4, y5, y6], _ => exact ⟨y0, y1, y2, y3, y4, y5, y6, n, by simpa using hf 0 f0 rfl, by simpa using hf 1 f1 rfl, by simpa using hf 2 f2 rfl, by simpa using hf 3 f3 rfl, by simpa using hf 4 f4 rfl, by simpa using hf 5 f5 rfl, by simpa using hf 6 f6 rfl, by simp⟩
end
set_option maxRecDepth 100000 in
theorem open_conf {H : Type} {enc : TypeId × Value → H} {W : World} {r : Reach} {b0 : Nat} {v : Value} {d : DataW H} {p : List MemPlace}
    (hv : Value.okWide Tryz.prog W r b0 44 v) (h : DataW.Trod enc Tryz.prog W 0 (fun _ => true) true 44 v d p) :
    ∃ x0 x1 x2 x3 x4 x5 x6 : Int, v = .agg #[.int .i64 x0, .int .i64 x1, .int .i64 x2, .int .i64 x3, .int .i64 x4, .int .i64 x5, .int .i64 x6] := by
  obtain ⟨cs, rfl, hsz⟩ := okWide_struct Tryz.underlying44 hv
  obtain ⟨c0, c1, c2, c3, c4, c5, c6, rfl⟩ := array7 cs (hsz.trans cellsConf)
  obtain ⟨fuel, hf⟩ := h
  obtain ⟨y0, y1, y2, y3, y4, y5, y6, n, t0, t1, t2, t3, t4, t5, t6, -⟩ := trod_struct7 Tryz.underlying44 hf
  simp only [cellsInt] at t0 t1 t2 t3 t4 t5 t6
  obtain ⟨x0, e0, _, _⟩ := DataW.trod_int Tryz.underlying3 t0
  obtain ⟨x1, e1, _, _⟩ := DataW.trod_int Tryz.underlying3 t1
  obtain ⟨x2, e2, _, _⟩ := DataW.trod_int Tryz.underlying3 t2
  obtain ⟨x3, e3, _, _⟩ := DataW.trod_int Tryz.underlying3 t3
  obtain ⟨x4, e4, _, _⟩ := DataW.trod_int Tryz.underlying3 t4
  obtain ⟨x5, e5, _, _⟩ := DataW.trod_int Tryz.underlying3 t5
  obtain ⟨x6, e6, _, _⟩ := DataW.trod_int Tryz.underlying3 t6
  simp [Value.cells] at e0 e1 e2 e3 e4 e5 e6
  subst e0 e1 e2 e3 e4 e5 e6
  exact ⟨x0, x1, x2, x3, x4, x5, x6, rfl⟩
end Go.Proofs.YtbmidhlilafgeaaGreatDoor
