/- HeapFits: the closed facts of its row. Written by mklaw.py. -/
import Derived.Test.YtbdimhlaaoadgaaGreatDoorHeapsM
namespace Go.Proofs.YtbdimhlaaoadgaaGreatDoor
open _root_.Go.Proofs.Tryz
set_option maxRecDepth 100000
open Go.ChangeShapes Go.WideShapes Go.ChangeAt Go.RowKit
namespace heapFits
theorem YUs:Tryz.pinned.checked.prog.funcNamed Rows.heapFitsRow.func=some 7:=by kernel_rfl
set_option maxHeartbeats 0 in
theorem JSQ:joinedFacts Tryz.pinned.checked.prog 7 f7 (OpenSpec.ofChange Rows.heapFitsSpec).bare Rows.heapFitsRow=true:=by
 unfold joinedFacts
 repeat' (with_reducible refine ζ8.2 ⟨?_,?_⟩)
 all_goals (as_aux_lemma=>kernel_rfl)
end heapFits
end Go.Proofs.YtbdimhlaaoadgaaGreatDoor
