/- TreeRises: the closed facts of its row. Written by mklaw.py. -/
import Derived.Test.YtbdimhlaaoadgaaGreatDoorTreesM
namespace Go.Proofs.YtbdimhlaaoadgaaGreatDoor
open _root_.Go.Proofs.Tryz
set_option maxRecDepth 100000
open Go.ChangeShapes Go.WideShapes Go.ChangeAt Go.RowKit
namespace treeRises
theorem O9:Tryz.pinned.checked.prog.funcNamed Rows.treeRisesRow.func=some 3:=by kernel_rfl
set_option maxHeartbeats 0 in
theorem NL:joinedFacts Tryz.pinned.checked.prog 3 f3 (OpenSpec.ofChange Rows.treeRisesSpec).bare Rows.treeRisesRow=true:=by
 unfold joinedFacts
 repeat' (with_reducible refine ζY.2 ⟨?_,?_⟩)
 all_goals (as_aux_lemma=>kernel_rfl)
end treeRises
end Go.Proofs.YtbdimhlaaoadgaaGreatDoor
