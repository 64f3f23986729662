/-
  NARROWER THAN 'FOR EVERY INPUT', by the rows' own cells (each row's printed sentence says how): CopyingAlike: laid · CopyingNobody: laid · CopyingPlays: laid · PackingAlike: laid · PackingNobody: laid · PackingPlays: laid · SlidePlays: laid · SlideEnds: laid · SlideNobody: laid · SlideReads: laid.
  DERIVED. THE GIVEN ROWS OF THIS SEAT. 10 by the template 'for every input the law returns true; each argument reads behind the call as it read before'; 0 by the template 'total and deterministic' (their statements: YtbmidhlilafgeaaGreatDoorTotals.lean).
  GIVEN WITH THE SEED: the statements are not yours to turn. If you find one false, say at which input.
  Laid BY PROGRAM, IN A SANDBOX (cutbox-rows.mjs): the forced cells as the released guide's own fill.sh prints them over the translation 4ecb6176914003e7… (all of the seat's roots in one cut). By AI agents, Wed Nov 11 2026. No macro, syntax, notation, axiom, sorry.
-/
import Derived.Test.YtbmidhlilafgeaaGreatDoorChecked
import GoSem.Claim
import GoSem.ClaimJoined
import GoSem.ClaimMapViews
import Derived.JoinedTies
import Derived.KernelRfl
namespace Go.Proofs.YtbmidhlilafgeaaGreatDoor
/- THE CELL 'sum', in the pinned program and in every row, IS THE sha256 OF THE DUMP (.gsa) THAT YtbmidhlilafgeaaGreatDoorProg.lean LOADS. Nothing in Lean hashes anything: it is a label: what it is worth is what the hold of that sum in a sandbox is worth. -/
noncomputable def Tryz.pinned : Pinned := { name := "ytbmidhlilafgeaagreatdoor", sum := "4ecb6176914003e797b2cf46b03f4b2bc56bc922816a4ce0e7d36a61bd0d6d4d", checked := Tryz.checked }
namespace Rows
def none {H : Type} : Left H := { results := [], args := [] }

/- WHAT THE LISTED PACKAGE-LEVEL VARIABLES READ AS WHEN THE CALL BEGINS. Each datum BY PROGRAM (the guide's laid-datum.mjs) off the statement by which the dump's own 'gosem.cut.vars' lays the variable. In a bare row this is a premise. The card (YtbmidhlilafgeaaGreatDoorCards.lean) ties it to the program's text. -/
def laid_math_bits_deBruijn64tab {H : Type} : DataW H := .agg [.lit (.int .u8 0), .lit (.int .u8 1), .lit (.int .u8 56), .lit (.int .u8 2), .lit (.int .u8 57), .lit (.int .u8 49), .lit (.int .u8 28), .lit (.int .u8 3), .lit (.int .u8 61), .lit (.int .u8 58), .lit (.int .u8 42), .lit (.int .u8 50), .lit (.int .u8 38), .lit (.int .u8 29), .lit (.int .u8 17), .lit (.int .u8 4), .lit (.int .u8 62), .lit (.int .u8 47), .lit (.int .u8 59), .lit (.int .u8 36), .lit (.int .u8 45), .lit (.int .u8 43), .lit (.int .u8 51), .lit (.int .u8 22), .lit (.int .u8 53), .lit (.int .u8 39), .lit (.int .u8 33), .lit (.int .u8 30), .lit (.int .u8 24), .lit (.int .u8 18), .lit (.int .u8 12), .lit (.int .u8 5), .lit (.int .u8 63), .lit (.int .u8 55), .lit (.int .u8 48), .lit (.int .u8 27), .lit (.int .u8 60), .lit (.int .u8 41), .lit (.int .u8 37), .lit (.int .u8 16), .lit (.int .u8 46), .lit (.int .u8 35), .lit (.int .u8 44), .lit (.int .u8 21), .lit (.int .u8 52), .lit (.int .u8 32), .lit (.int .u8 23), .lit (.int .u8 11), .lit (.int .u8 54), .lit (.int .u8 26), .lit (.int .u8 40), .lit (.int .u8 15), .lit (.int .u8 34), .lit (.int .u8 20), .lit (.int .u8 31), .lit (.int .u8 10), .lit (.int .u8 25), .lit (.int .u8 14), .lit (.int .u8 19), .lit (.int .u8 9), .lit (.int .u8 13), .lit (.int .u8 8), .lit (.int .u8 7), .lit (.int .u8 6)]

/-- 'ullagelaw25.CopyingAlike': WHATEVER THE INPUT: true; the input reads as it did. -/
def copyingAlikeSpec : ChangeSpec := { name := "copyingAlike", fn := fun _ => fun
  | [d] => { results := [.lit (.bool true)], args := [d] }
  | _ => none }
def copyingAlikeRow : OpenClaim := { program := "ytbmidhlilafgeaagreatdoor", sum := "4ecb6176914003e797b2cf46b03f4b2bc56bc922816a4ce0e7d36a61bd0d6d4d", func := "ullage/ullagelaw25.CopyingAlike", spec := "copyingAlike", unfollowed := true, recurses := true, named := ["math/bits.deBruijn64tab"], apart := false, laid := [("math/bits.deBruijn64tab", laid_math_bits_deBruijn64tab)] }
def CopyingAlikeSaid : Prop := copyingAlikeRow.holds Tryz.pinned (OpenSpec.ofChange copyingAlikeSpec)

/-- ITS FALSE NEIGHBOUR: 'it returns false'. Refute it at one input. -/
def copyingAlikeWrong : ChangeSpec := { name := "copyingAlike", fn := fun _ => fun
  | [d] => { results := [.lit (.bool false)], args := [d] }
  | _ => none }
def CopyingAlikeWrongFalsely : Prop := copyingAlikeRow.holds Tryz.pinned (OpenSpec.ofChange copyingAlikeWrong)

/-- 'ullagelaw25.CopyingNobody': WHATEVER THE INPUT: true; the input reads as it did. -/
def copyingNobodySpec : ChangeSpec := { name := "copyingNobody", fn := fun _ => fun
  | [d] => { results := [.lit (.bool true)], args := [d] }
  | _ => none }
def copyingNobodyRow : OpenClaim := { program := "ytbmidhlilafgeaagreatdoor", sum := "4ecb6176914003e797b2cf46b03f4b2bc56bc922816a4ce0e7d36a61bd0d6d4d", func := "ullage/ullagelaw25.CopyingNobody", spec := "copyingNobody", unfollowed := true, recurses := true, named := ["math/bits.deBruijn64tab"], apart := false, laid := [("math/bits.deBruijn64tab", laid_math_bits_deBruijn64tab)] }
def CopyingNobodySaid : Prop := copyingNobodyRow.holds Tryz.pinned (OpenSpec.ofChange copyingNobodySpec)

/-- ITS FALSE NEIGHBOUR: 'it returns false'. Refute it at one input. -/
def copyingNobodyWrong : ChangeSpec := { name := "copyingNobody", fn := fun _ => fun
  | [d] => { results := [.lit (.bool false)], args := [d] }
  | _ => none }
def CopyingNobodyWrongFalsely : Prop := copyingNobodyRow.holds Tryz.pinned (OpenSpec.ofChange copyingNobodyWrong)

/-- 'ullagelaw25.CopyingPlays': WHATEVER THE INPUT: true; the input reads as it did. -/
def copyingPlaysSpec : ChangeSpec := { name := "copyingPlays", fn := fun _ => fun
  | [d1, d2] => { results := [.lit (.bool true)], args := [d1, d2] }
  | _ => none }
def copyingPlaysRow : OpenClaim := { program := "ytbmidhlilafgeaagreatdoor", sum := "4ecb6176914003e797b2cf46b03f4b2bc56bc922816a4ce0e7d36a61bd0d6d4d", func := "ullage/ullagelaw25.CopyingPlays", spec := "copyingPlays", unfollowed := true, recurses := true, named := ["math/bits.deBruijn64tab"], apart := false, laid := [("math/bits.deBruijn64tab", laid_math_bits_deBruijn64tab)] }
def CopyingPlaysSaid : Prop := copyingPlaysRow.holds Tryz.pinned (OpenSpec.ofChange copyingPlaysSpec)

/-- ITS FALSE NEIGHBOUR: 'it returns false'. Refute it at one input. -/
def copyingPlaysWrong : ChangeSpec := { name := "copyingPlays", fn := fun _ => fun
  | [d1, d2] => { results := [.lit (.bool false)], args := [d1, d2] }
  | _ => none }
def CopyingPlaysWrongFalsely : Prop := copyingPlaysRow.holds Tryz.pinned (OpenSpec.ofChange copyingPlaysWrong)

/-- 'ullagelaw26.PackingAlike': WHATEVER THE INPUT: true; the input reads as it did. -/
def packingAlikeSpec : ChangeSpec := { name := "packingAlike", fn := fun _ => fun
  | [d] => { results := [.lit (.bool true)], args := [d] }
  | _ => none }
def packingAlikeRow : OpenClaim := { program := "ytbmidhlilafgeaagreatdoor", sum := "4ecb6176914003e797b2cf46b03f4b2bc56bc922816a4ce0e7d36a61bd0d6d4d", func := "ullage/ullagelaw26.PackingAlike", spec := "packingAlike", unfollowed := true, recurses := true, named := ["math/bits.deBruijn64tab"], apart := false, laid := [("math/bits.deBruijn64tab", laid_math_bits_deBruijn64tab)] }
def PackingAlikeSaid : Prop := packingAlikeRow.holds Tryz.pinned (OpenSpec.ofChange packingAlikeSpec)

/-- ITS FALSE NEIGHBOUR: 'it returns false'. Refute it at one input. -/
def packingAlikeWrong : ChangeSpec := { name := "packingAlike", fn := fun _ => fun
  | [d] => { results := [.lit (.bool false)], args := [d] }
  | _ => none }
def PackingAlikeWrongFalsely : Prop := packingAlikeRow.holds Tryz.pinned (OpenSpec.ofChange packingAlikeWrong)

/-- 'ullagelaw26.PackingNobody': WHATEVER THE INPUT: true; the input reads as it did. -/
def packingNobodySpec : ChangeSpec := { name := "packingNobody", fn := fun _ => fun
  | [d1, d2] => { results := [.lit (.bool true)], args := [d1, d2] }
  | _ => none }
def packingNobodyRow : OpenClaim := { program := "ytbmidhlilafgeaagreatdoor", sum := "4ecb6176914003e797b2cf46b03f4b2bc56bc922816a4ce0e7d36a61bd0d6d4d", func := "ullage/ullagelaw26.PackingNobody", spec := "packingNobody", unfollowed := true, recurses := true, named := ["math/bits.deBruijn64tab"], apart := false, laid := [("math/bits.deBruijn64tab", laid_math_bits_deBruijn64tab)] }
def PackingNobodySaid : Prop := packingNobodyRow.holds Tryz.pinned (OpenSpec.ofChange packingNobodySpec)

/-- ITS FALSE NEIGHBOUR: 'it returns false'. Refute it at one input. -/
def packingNobodyWrong : ChangeSpec := { name := "packingNobody", fn := fun _ => fun
  | [d1, d2] => { results := [.lit (.bool false)], args := [d1, d2] }
  | _ => none }
def PackingNobodyWrongFalsely : Prop := packingNobodyRow.holds Tryz.pinned (OpenSpec.ofChange packingNobodyWrong)

/-- 'ullagelaw26.PackingPlays': WHATEVER THE INPUT: true; the input reads as it did. -/
def packingPlaysSpec : ChangeSpec := { name := "packingPlays", fn := fun _ => fun
  | [d1, d2, d3] => { results := [.lit (.bool true)], args := [d1, d2, d3] }
  | _ => none }
def packingPlaysRow : OpenClaim := { program := "ytbmidhlilafgeaagreatdoor", sum := "4ecb6176914003e797b2cf46b03f4b2bc56bc922816a4ce0e7d36a61bd0d6d4d", func := "ullage/ullagelaw26.PackingPlays", spec := "packingPlays", unfollowed := true, recurses := true, named := ["math/bits.deBruijn64tab"], apart := false, laid := [("math/bits.deBruijn64tab", laid_math_bits_deBruijn64tab)] }
def PackingPlaysSaid : Prop := packingPlaysRow.holds Tryz.pinned (OpenSpec.ofChange packingPlaysSpec)

/-- ITS FALSE NEIGHBOUR: 'it returns false'. Refute it at one input. -/
def packingPlaysWrong : ChangeSpec := { name := "packingPlays", fn := fun _ => fun
  | [d1, d2, d3] => { results := [.lit (.bool false)], args := [d1, d2, d3] }
  | _ => none }
def PackingPlaysWrongFalsely : Prop := packingPlaysRow.holds Tryz.pinned (OpenSpec.ofChange packingPlaysWrong)

/-- 'ullagelaw24.SlidePlays': WHATEVER THE INPUT: true; the input reads as it did. -/
def slidePlaysSpec : ChangeSpec := { name := "slidePlays", fn := fun _ => fun
  | [d1, d2] => { results := [.lit (.bool true)], args := [d1, d2] }
  | _ => none }
def slidePlaysRow : OpenClaim := { program := "ytbmidhlilafgeaagreatdoor", sum := "4ecb6176914003e797b2cf46b03f4b2bc56bc922816a4ce0e7d36a61bd0d6d4d", func := "ullage/ullagelaw24.SlidePlays", spec := "slidePlays", unfollowed := true, recurses := true, named := ["math/bits.deBruijn64tab"], apart := false, laid := [("math/bits.deBruijn64tab", laid_math_bits_deBruijn64tab)] }
def SlidePlaysSaid : Prop := slidePlaysRow.holds Tryz.pinned (OpenSpec.ofChange slidePlaysSpec)

/-- ITS FALSE NEIGHBOUR: 'it returns false'. Refute it at one input. -/
def slidePlaysWrong : ChangeSpec := { name := "slidePlays", fn := fun _ => fun
  | [d1, d2] => { results := [.lit (.bool false)], args := [d1, d2] }
  | _ => none }
def SlidePlaysWrongFalsely : Prop := slidePlaysRow.holds Tryz.pinned (OpenSpec.ofChange slidePlaysWrong)

/-- 'ullagelaw24.SlideEnds': WHATEVER THE INPUT: true; the input reads as it did. -/
def slideEndsSpec : ChangeSpec := { name := "slideEnds", fn := fun _ => fun
  | [d1, d2] => { results := [.lit (.bool true)], args := [d1, d2] }
  | _ => none }
def slideEndsRow : OpenClaim := { program := "ytbmidhlilafgeaagreatdoor", sum := "4ecb6176914003e797b2cf46b03f4b2bc56bc922816a4ce0e7d36a61bd0d6d4d", func := "ullage/ullagelaw24.SlideEnds", spec := "slideEnds", unfollowed := true, recurses := true, named := ["math/bits.deBruijn64tab"], apart := false, laid := [("math/bits.deBruijn64tab", laid_math_bits_deBruijn64tab)] }
def SlideEndsSaid : Prop := slideEndsRow.holds Tryz.pinned (OpenSpec.ofChange slideEndsSpec)

/-- ITS FALSE NEIGHBOUR: 'it returns false'. Refute it at one input. -/
def slideEndsWrong : ChangeSpec := { name := "slideEnds", fn := fun _ => fun
  | [d1, d2] => { results := [.lit (.bool false)], args := [d1, d2] }
  | _ => none }
def SlideEndsWrongFalsely : Prop := slideEndsRow.holds Tryz.pinned (OpenSpec.ofChange slideEndsWrong)

/-- 'ullagelaw24.SlideNobody': WHATEVER THE INPUT: true; the input reads as it did. -/
def slideNobodySpec : ChangeSpec := { name := "slideNobody", fn := fun _ => fun
  | [d1, d2] => { results := [.lit (.bool true)], args := [d1, d2] }
  | _ => none }
def slideNobodyRow : OpenClaim := { program := "ytbmidhlilafgeaagreatdoor", sum := "4ecb6176914003e797b2cf46b03f4b2bc56bc922816a4ce0e7d36a61bd0d6d4d", func := "ullage/ullagelaw24.SlideNobody", spec := "slideNobody", unfollowed := true, recurses := true, named := ["math/bits.deBruijn64tab"], apart := false, laid := [("math/bits.deBruijn64tab", laid_math_bits_deBruijn64tab)] }
def SlideNobodySaid : Prop := slideNobodyRow.holds Tryz.pinned (OpenSpec.ofChange slideNobodySpec)

/-- ITS FALSE NEIGHBOUR: 'it returns false'. Refute it at one input. -/
def slideNobodyWrong : ChangeSpec := { name := "slideNobody", fn := fun _ => fun
  | [d1, d2] => { results := [.lit (.bool false)], args := [d1, d2] }
  | _ => none }
def SlideNobodyWrongFalsely : Prop := slideNobodyRow.holds Tryz.pinned (OpenSpec.ofChange slideNobodyWrong)

/-- 'ullagelaw24.SlideReads': WHATEVER THE INPUT: true; the input reads as it did. -/
def slideReadsSpec : ChangeSpec := { name := "slideReads", fn := fun _ => fun
  | [d1, d2, d3] => { results := [.lit (.bool true)], args := [d1, d2, d3] }
  | _ => none }
def slideReadsRow : OpenClaim := { program := "ytbmidhlilafgeaagreatdoor", sum := "4ecb6176914003e797b2cf46b03f4b2bc56bc922816a4ce0e7d36a61bd0d6d4d", func := "ullage/ullagelaw24.SlideReads", spec := "slideReads", unfollowed := true, recurses := true, named := ["math/bits.deBruijn64tab"], apart := false, laid := [("math/bits.deBruijn64tab", laid_math_bits_deBruijn64tab)] }
def SlideReadsSaid : Prop := slideReadsRow.holds Tryz.pinned (OpenSpec.ofChange slideReadsSpec)

/-- ITS FALSE NEIGHBOUR: 'it returns false'. Refute it at one input. -/
def slideReadsWrong : ChangeSpec := { name := "slideReads", fn := fun _ => fun
  | [d1, d2, d3] => { results := [.lit (.bool false)], args := [d1, d2, d3] }
  | _ => none }
def SlideReadsWrongFalsely : Prop := slideReadsRow.holds Tryz.pinned (OpenSpec.ofChange slideReadsWrong)

/- THE SECOND FORM. 'bulk': how many values and letters a reading holds, each counted each time it is reached (what is shared counts as often as it is met; a slice's spare places count too). A statement '..UptoSaid' is the law's where the arguments, and the package variables that the reading takes, are together of bulk at most 1048576: NARROWER than '..Said'. Prove '..Said' where nothing that the law and all that it calls make is longer than what came in: it says more and counts as full. Else prove '..UptoSaid'. A law counts once. -/
mutual
def uptoBulk {H : Type} : DataW H → Nat
  | .lit (.string bytes) => bytes.length + 1
  | .lit _ => 1
  | .nil => 1
  | .ptr d => uptoBulk d + 1
  | .slice elems spare => uptoBulkAll elems + uptoBulkAll spare + 1
  | .agg parts => uptoBulkAll parts + 1
  | .iface _ d => uptoBulk d + 1
  | .map entries => uptoBulkEntries entries + 1
  | .held _ => 1
def uptoBulkAll {H : Type} : List (DataW H) → Nat
  | [] => 0
  | d :: r => uptoBulk d + uptoBulkAll r
def uptoBulkEntries {H : Type} : List (Lit × DataW H) → Nat
  | [] => 0
  | x :: r => uptoBulkEntry x + uptoBulkEntries r
def uptoBulkEntry {H : Type} : Lit × DataW H → Nat
  | (.string bytes, d) => bytes.length + uptoBulk d + 1
  | (_, d) => uptoBulk d + 1
 end
def uptoSmall : (H : Type) → List (DataW H) → Bool := fun _ ds => decide (uptoBulkAll ds ≤ 1048576)
def OpenSpec.upto (s : _root_.Go.ChangeSpec) : _root_.Go.OpenSpec := { _root_.Go.OpenSpec.ofChange s with cond := some uptoSmall }

/-- 'ullagelaw25.CopyingAlike', WHERE WHAT IT READS IS OF BULK AT MOST 1048576: true; the input reads as it did. -/
def copyingAlikeUptoRow : OpenClaim := { program := "ytbmidhlilafgeaagreatdoor", sum := "4ecb6176914003e797b2cf46b03f4b2bc56bc922816a4ce0e7d36a61bd0d6d4d", func := "ullage/ullagelaw25.CopyingAlike", spec := "copyingAlike", unfollowed := true, recurses := true, named := ["math/bits.deBruijn64tab"], apart := false, laid := [("math/bits.deBruijn64tab", laid_math_bits_deBruijn64tab)], narrowed := true }
def CopyingAlikeUptoSaid : Prop := copyingAlikeUptoRow.holds Tryz.pinned (OpenSpec.upto copyingAlikeSpec)

/-- 'ullagelaw25.CopyingNobody', WHERE WHAT IT READS IS OF BULK AT MOST 1048576: true; the input reads as it did. -/
def copyingNobodyUptoRow : OpenClaim := { program := "ytbmidhlilafgeaagreatdoor", sum := "4ecb6176914003e797b2cf46b03f4b2bc56bc922816a4ce0e7d36a61bd0d6d4d", func := "ullage/ullagelaw25.CopyingNobody", spec := "copyingNobody", unfollowed := true, recurses := true, named := ["math/bits.deBruijn64tab"], apart := false, laid := [("math/bits.deBruijn64tab", laid_math_bits_deBruijn64tab)], narrowed := true }
def CopyingNobodyUptoSaid : Prop := copyingNobodyUptoRow.holds Tryz.pinned (OpenSpec.upto copyingNobodySpec)

/-- 'ullagelaw25.CopyingPlays', WHERE WHAT IT READS IS OF BULK AT MOST 1048576: true; the input reads as it did. -/
def copyingPlaysUptoRow : OpenClaim := { program := "ytbmidhlilafgeaagreatdoor", sum := "4ecb6176914003e797b2cf46b03f4b2bc56bc922816a4ce0e7d36a61bd0d6d4d", func := "ullage/ullagelaw25.CopyingPlays", spec := "copyingPlays", unfollowed := true, recurses := true, named := ["math/bits.deBruijn64tab"], apart := false, laid := [("math/bits.deBruijn64tab", laid_math_bits_deBruijn64tab)], narrowed := true }
def CopyingPlaysUptoSaid : Prop := copyingPlaysUptoRow.holds Tryz.pinned (OpenSpec.upto copyingPlaysSpec)

/-- 'ullagelaw26.PackingAlike', WHERE WHAT IT READS IS OF BULK AT MOST 1048576: true; the input reads as it did. -/
def packingAlikeUptoRow : OpenClaim := { program := "ytbmidhlilafgeaagreatdoor", sum := "4ecb6176914003e797b2cf46b03f4b2bc56bc922816a4ce0e7d36a61bd0d6d4d", func := "ullage/ullagelaw26.PackingAlike", spec := "packingAlike", unfollowed := true, recurses := true, named := ["math/bits.deBruijn64tab"], apart := false, laid := [("math/bits.deBruijn64tab", laid_math_bits_deBruijn64tab)], narrowed := true }
def PackingAlikeUptoSaid : Prop := packingAlikeUptoRow.holds Tryz.pinned (OpenSpec.upto packingAlikeSpec)

/-- 'ullagelaw26.PackingNobody', WHERE WHAT IT READS IS OF BULK AT MOST 1048576: true; the input reads as it did. -/
def packingNobodyUptoRow : OpenClaim := { program := "ytbmidhlilafgeaagreatdoor", sum := "4ecb6176914003e797b2cf46b03f4b2bc56bc922816a4ce0e7d36a61bd0d6d4d", func := "ullage/ullagelaw26.PackingNobody", spec := "packingNobody", unfollowed := true, recurses := true, named := ["math/bits.deBruijn64tab"], apart := false, laid := [("math/bits.deBruijn64tab", laid_math_bits_deBruijn64tab)], narrowed := true }
def PackingNobodyUptoSaid : Prop := packingNobodyUptoRow.holds Tryz.pinned (OpenSpec.upto packingNobodySpec)

/-- 'ullagelaw26.PackingPlays', WHERE WHAT IT READS IS OF BULK AT MOST 1048576: true; the input reads as it did. -/
def packingPlaysUptoRow : OpenClaim := { program := "ytbmidhlilafgeaagreatdoor", sum := "4ecb6176914003e797b2cf46b03f4b2bc56bc922816a4ce0e7d36a61bd0d6d4d", func := "ullage/ullagelaw26.PackingPlays", spec := "packingPlays", unfollowed := true, recurses := true, named := ["math/bits.deBruijn64tab"], apart := false, laid := [("math/bits.deBruijn64tab", laid_math_bits_deBruijn64tab)], narrowed := true }
def PackingPlaysUptoSaid : Prop := packingPlaysUptoRow.holds Tryz.pinned (OpenSpec.upto packingPlaysSpec)

/-- 'ullagelaw24.SlidePlays', WHERE WHAT IT READS IS OF BULK AT MOST 1048576: true; the input reads as it did. -/
def slidePlaysUptoRow : OpenClaim := { program := "ytbmidhlilafgeaagreatdoor", sum := "4ecb6176914003e797b2cf46b03f4b2bc56bc922816a4ce0e7d36a61bd0d6d4d", func := "ullage/ullagelaw24.SlidePlays", spec := "slidePlays", unfollowed := true, recurses := true, named := ["math/bits.deBruijn64tab"], apart := false, laid := [("math/bits.deBruijn64tab", laid_math_bits_deBruijn64tab)], narrowed := true }
def SlidePlaysUptoSaid : Prop := slidePlaysUptoRow.holds Tryz.pinned (OpenSpec.upto slidePlaysSpec)

/-- 'ullagelaw24.SlideEnds', WHERE WHAT IT READS IS OF BULK AT MOST 1048576: true; the input reads as it did. -/
def slideEndsUptoRow : OpenClaim := { program := "ytbmidhlilafgeaagreatdoor", sum := "4ecb6176914003e797b2cf46b03f4b2bc56bc922816a4ce0e7d36a61bd0d6d4d", func := "ullage/ullagelaw24.SlideEnds", spec := "slideEnds", unfollowed := true, recurses := true, named := ["math/bits.deBruijn64tab"], apart := false, laid := [("math/bits.deBruijn64tab", laid_math_bits_deBruijn64tab)], narrowed := true }
def SlideEndsUptoSaid : Prop := slideEndsUptoRow.holds Tryz.pinned (OpenSpec.upto slideEndsSpec)

/-- 'ullagelaw24.SlideNobody', WHERE WHAT IT READS IS OF BULK AT MOST 1048576: true; the input reads as it did. -/
def slideNobodyUptoRow : OpenClaim := { program := "ytbmidhlilafgeaagreatdoor", sum := "4ecb6176914003e797b2cf46b03f4b2bc56bc922816a4ce0e7d36a61bd0d6d4d", func := "ullage/ullagelaw24.SlideNobody", spec := "slideNobody", unfollowed := true, recurses := true, named := ["math/bits.deBruijn64tab"], apart := false, laid := [("math/bits.deBruijn64tab", laid_math_bits_deBruijn64tab)], narrowed := true }
def SlideNobodyUptoSaid : Prop := slideNobodyUptoRow.holds Tryz.pinned (OpenSpec.upto slideNobodySpec)

/-- 'ullagelaw24.SlideReads', WHERE WHAT IT READS IS OF BULK AT MOST 1048576: true; the input reads as it did. -/
def slideReadsUptoRow : OpenClaim := { program := "ytbmidhlilafgeaagreatdoor", sum := "4ecb6176914003e797b2cf46b03f4b2bc56bc922816a4ce0e7d36a61bd0d6d4d", func := "ullage/ullagelaw24.SlideReads", spec := "slideReads", unfollowed := true, recurses := true, named := ["math/bits.deBruijn64tab"], apart := false, laid := [("math/bits.deBruijn64tab", laid_math_bits_deBruijn64tab)], narrowed := true }
def SlideReadsUptoSaid : Prop := slideReadsUptoRow.holds Tryz.pinned (OpenSpec.upto slideReadsSpec)

end Rows
end Go.Proofs.YtbmidhlilafgeaaGreatDoor
