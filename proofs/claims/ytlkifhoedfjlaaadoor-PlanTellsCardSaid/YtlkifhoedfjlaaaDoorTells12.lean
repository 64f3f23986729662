/- RankTells: the walk. -/
import Derived.Test.YtlkifhoedfjlaaaDoorK6
namespace Go.Proofs.YtlkifhoedfjlaaaDoor
open Go.RowKit Word

/-- A row of bools among the arguments. -/
def RowAt (w : World) (A : Option Addr) (l : List Bool) : Prop :=
  ∀ i (_ : i < l.length), ∃ b o : Nat, A = some ⟨b, o, none⟩ ∧ b < w.heap.size ∧ w.cell? ⟨b, o + i, none⟩ = some (.bool (at_ l i))
theorem RowAt.row {w : World} {A : Option Addr} {l : List Bool} (h : RowAt w A l) (h1 : 1 ≤ l.length) (h2 : l.length ≤ 1048576) : ∃ g o, A = some ⟨g, o, none⟩ ∧ BoolsO w g o l := by
  obtain ⟨g, o, rfl, hg, _⟩ := h 0 (by omega)
  refine ⟨g, o, rfl, hg, h2, fun i hi => ?_⟩
  obtain ⟨g', o', e, _, hc⟩ := h i hi
  simp only [Option.some.injEq, Addr.mk.injEq, and_true] at e
  obtain ⟨rfl, rfl⟩ := e
  exact hc
theorem q_box {w : World} (x y z : Int) (T : TypeId) : Gr w (w.alloc (.cells #[.int .i64 x, .int .i64 y, .int .i64 z] T)) ∧ (w.alloc (.cells #[.int .i64 x, .int .i64 y, .int .i64 z] T)).cell? ⟨w.heap.size, 0, none⟩ = some (.int .i64 x) ∧
    (w.alloc (.cells #[.int .i64 x, .int .i64 y, .int .i64 z] T)).cell? ⟨w.heap.size, 1, none⟩ = some (.int .i64 y) ∧ (w.alloc (.cells #[.int .i64 x, .int .i64 y, .int .i64 z] T)).cell? ⟨w.heap.size, 2, none⟩ = some (.int .i64 z) :=
  ⟨(Gr.refl w).alloc _, World.cell?_alloc_new .., World.cell?_alloc_new .., World.cell?_alloc_new ..⟩
end Go.Proofs.YtlkifhoedfjlaaaDoor
