/- RankNobody: the walk. -/
import Derived.Test.YtlbbkpjfoabobaaDoorLive12
namespace Go.Proofs.YtlbbkpjfoabobaaDoor
open Go.RowKit Word

set_option maxRecDepth 100000 in
set_option maxHeartbeats 1600000 in
theorem nobody12_walk {W : World} (hT : TabAt W) (i n : Int) : Gets Tryd.prog 10 #[.int .i64 i, .int .i64 n] W (.bool true) := by
  have HT := hid hT
  clear hT
  unfold Gets
  go_enter Tryd.func10, Tryd.ntmps10
  go_wp2_with (first
    | (go_at_call 34; refine (rank_new_nil n _).mono ?_; rintro e w1 ⟨rfl, rfl⟩)
    | (go_at_call 48; refine (rank_ahead_nil i _).mono ?_; rintro e w1 ⟨rfl, rfl⟩)
    | (go_at_call 37; refine (rank_pick_nil i).mono ?_; rintro e w2 ⟨rfl, hg2⟩; have HG := hid hg2; clear hg2)
    | (go_at_call 38; refine (rank_before_nil i _).mono ?_; rintro e w3 ⟨rfl, rfl⟩)
    | (go_at_call 50; refine (rank_blocks_nil _).mono ?_; rintro e w3 ⟨rfl, rfl⟩)
    | (go_at_call 36; refine (rank_ones_nil _).mono ?_; rintro e w3 ⟨rfl, rfl⟩)
    | (go_at_call 33; refine (lives12 (HG.out.tab HT.out.lt HT.out)).mono ?_; rintro e w4 ⟨rfl, hg4⟩))
  go_ret
  exact ⟨rfl, HG.out.trans hg4⟩
end Go.Proofs.YtlbbkpjfoabobaaDoor
