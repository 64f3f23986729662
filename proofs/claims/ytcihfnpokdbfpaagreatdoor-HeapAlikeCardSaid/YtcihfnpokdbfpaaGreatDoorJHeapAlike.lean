/- HeapAlike: the closed facts of its row. Written by mklaw.py. -/
import Derived.Test.YtcihfnpokdbfpaaGreatDoorTwoN
namespace Go.Proofs.YtcihfnpokdbfpaaGreatDoor
open _root_.Go.Proofs.Tryz
set_option maxRecDepth 100000
open Go.ChangeShapes Go.WideShapes Go.ChangeAt Go.RowKit
namespace heapAlike
theorem Y4:Tryz.pinned.checked.prog.funcNamed Rows.heapAlikeRow.func=some 4:=by kernel_rfl
set_option maxHeartbeats 0 in
theorem VN:joinedFacts Tryz.pinned.checked.prog 4 f4 (OpenSpec.ofChange Rows.heapAlikeSpec).bare Rows.heapAlikeRow=true:=by
 unfold joinedFacts
 repeat' (with_reducible refine ξa.2 ⟨?_,?_⟩)
 all_goals (as_aux_lemma=>kernel_rfl)
end heapAlike
end Go.Proofs.YtcihfnpokdbfpaaGreatDoor
