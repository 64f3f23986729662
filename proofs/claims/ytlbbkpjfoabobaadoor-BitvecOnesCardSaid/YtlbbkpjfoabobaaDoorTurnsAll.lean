/- BitvecOnes: of every input. -/
import Derived.Test.YtlbbkpjfoabobaaDoorTurns11
import Derived.Test.YtlbbkpjfoabobaaDoorTurnsFar
namespace Go.Proofs.YtlbbkpjfoabobaaDoor
theorem turns_walk {W : World} (hT : TabAt W) (n : Nat) (hn : n ≤ 255) (A : Option Addr) (cap : Nat) (l : List ActD) (hA : ActsAt W A l) (A' : Option Addr) (cap' : Nat) (l' : List ActD) (hA' : ActsAt W A' l') (stop : Nat) (hs : stop ≤ 255) :
    Gets Tryd.prog 4 #[.int .u8 n, .slice A l.length cap, .agg #[.slice A' l'.length cap', .int .u8 stop]] W (.bool true) := by
  by_cases h : 100 < l.length ∨ 100 < l'.length
  · exact turns_far hT n A A' cap cap' _ _ stop h
  · exact turns_in hT n hn A cap l hA (by omega) A' cap' l' hA' (by omega) stop hs
end Go.Proofs.YtlbbkpjfoabobaaDoor
