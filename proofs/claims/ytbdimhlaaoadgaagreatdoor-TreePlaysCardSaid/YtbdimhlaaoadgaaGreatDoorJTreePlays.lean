/- TreePlays: the closed facts of its row. Written by mklaw.py. -/
import Derived.Test.YtbdimhlaaoadgaaGreatDoorTreesM
namespace Go.Proofs.YtbdimhlaaoadgaaGreatDoor
open _root_.Go.Proofs.Tryz
set_option maxRecDepth 100000
open Go.ChangeShapes Go.WideShapes Go.ChangeAt Go.RowKit
namespace treePlays
theorem O9:Tryz.pinned.checked.prog.funcNamed Rows.treePlaysRow.func=some 5:=by kernel_rfl
set_option maxHeartbeats 0 in
theorem NL:joinedFacts Tryz.pinned.checked.prog 5 f5 (OpenSpec.ofChange Rows.treePlaysSpec).bare Rows.treePlaysRow=true:=by
 unfold joinedFacts
 repeat' (with_reducible refine ζY.2 ⟨?_,?_⟩)
 all_goals (as_aux_lemma=>kernel_rfl)
end treePlays
end Go.Proofs.YtbdimhlaaoadgaaGreatDoor
