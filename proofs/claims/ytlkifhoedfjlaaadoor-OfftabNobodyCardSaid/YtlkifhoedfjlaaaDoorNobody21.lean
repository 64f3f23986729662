/- OfftabNobody: the walk. -/
import Derived.Test.YtlkifhoedfjlaaaDoorRisesA
namespace Go.Proofs.YtlkifhoedfjlaaaDoor
open Go.RowKit Word

set_option maxRecDepth 100000 in
set_option maxHeartbeats 1600000 in
theorem nobody21_walk {W : World} (hT : TabAt W) (i n : Int) : Gets Tryd.prog 3 #[.int .i64 i, .int .i64 n] W (.bool true) := by
  have HT := hid hT
  clear hT
  unfold Gets
  go_enter Tryd.func3, Tryd.ntmps3
  go_wp2_with (first
    | (go_at_call 12; refine (off_new_nil n _).mono ?_; rintro e w1 ⟨rfl, rfl⟩)
    | (go_at_call 13; refine (off_ahead_nil i _).mono ?_; rintro e w1 ⟨rfl, rfl⟩)
    | (go_at_call 14; refine (off_word_nil i).mono ?_; rintro e w2 ⟨rfl, hg2⟩; have HG := hid hg2; clear hg2)
    | (go_at_call 15; refine (off_before_nil i _).mono ?_; rintro e w3 ⟨rfl, rfl⟩)
    | (go_at_call 16; refine (off_blocks_nil _).mono ?_; rintro e w3 ⟨rfl, rfl⟩)
    | (go_at_call 17; refine (off_live_nil _).mono ?_; rintro e w3 ⟨rfl, rfl⟩)
    | (go_at_call 18; refine (off_is_nil i _).mono ?_; rintro e w3 ⟨rfl, rfl⟩)
    | (go_at_call 19; refine (lives21 (HG.out.tab HT.out.lt HT.out)).mono ?_; rintro e w4 ⟨rfl, hg4⟩))
  go_ret
  exact ⟨rfl, HG.out.trans hg4⟩
end Go.Proofs.YtlkifhoedfjlaaaDoor
