/-
  NARROWER THAN 'FOR EVERY INPUT', by the rows' own cells (each row's printed sentence says how): TreeRises: laid · TreeNobody: laid · TreePlays: laid · ListTurns: laid · HeapFits: laid · HeapQuiet: laid · HeapAlike: laid.
  DERIVED. THE GIVEN ROWS OF THIS SEAT. 7 by the template 'for every input the law returns true; each argument reads behind the call as it read before'; 0 by the template 'total and deterministic' (their statements: YtbdimhlaaoadgaaGreatDoorTotals.lean).
  GIVEN WITH THE SEED: the statements are not yours to turn. If you find one false, say at which input.
  Laid BY PROGRAM, IN A SANDBOX (cutbox-rows.mjs): the forced cells as the released guide's own fill.sh prints them over the translation ff0a8a85a7f1d94b… (all of the seat's roots in one cut). By AI agents, Wed Nov 11 2026. No macro, syntax, notation, axiom, sorry.
-/
import Derived.Test.YtbdimhlaaoadgaaGreatDoorChecked
import GoSem.Claim
import GoSem.ClaimJoined
import GoSem.ClaimMapViews
import Derived.JoinedTies
import Derived.KernelRfl
namespace Go.Proofs.YtbdimhlaaoadgaaGreatDoor
/- THE CELL 'sum', in the pinned program and in every row, IS THE sha256 OF THE DUMP (.gsa) THAT YtbdimhlaaoadgaaGreatDoorProg.lean LOADS. Nothing in Lean hashes anything: it is a label: what it is worth is what the hold of that sum in a sandbox is worth. -/
noncomputable def Tryz.pinned : Pinned := { name := "ytbdimhlaaoadgaagreatdoor", sum := "ff0a8a85a7f1d94bb5706dbcfe37b168958a5414d7bedf151798035e046a8967", checked := Tryz.checked }
namespace Rows
def none {H : Type} : Left H := { results := [], args := [] }

/- WHAT THE LISTED PACKAGE-LEVEL VARIABLES READ AS WHEN THE CALL BEGINS. Each datum BY PROGRAM (the guide's laid-datum.mjs) off the statement by which the dump's own 'gosem.cut.vars' lays the variable. In a bare row this is a premise. The card (YtbdimhlaaoadgaaGreatDoorCards.lean) ties it to the program's text. -/
def laid_math_bits_deBruijn64tab {H : Type} : DataW H := .agg [.lit (.int .u8 0), .lit (.int .u8 1), .lit (.int .u8 56), .lit (.int .u8 2), .lit (.int .u8 57), .lit (.int .u8 49), .lit (.int .u8 28), .lit (.int .u8 3), .lit (.int .u8 61), .lit (.int .u8 58), .lit (.int .u8 42), .lit (.int .u8 50), .lit (.int .u8 38), .lit (.int .u8 29), .lit (.int .u8 17), .lit (.int .u8 4), .lit (.int .u8 62), .lit (.int .u8 47), .lit (.int .u8 59), .lit (.int .u8 36), .lit (.int .u8 45), .lit (.int .u8 43), .lit (.int .u8 51), .lit (.int .u8 22), .lit (.int .u8 53), .lit (.int .u8 39), .lit (.int .u8 33), .lit (.int .u8 30), .lit (.int .u8 24), .lit (.int .u8 18), .lit (.int .u8 12), .lit (.int .u8 5), .lit (.int .u8 63), .lit (.int .u8 55), .lit (.int .u8 48), .lit (.int .u8 27), .lit (.int .u8 60), .lit (.int .u8 41), .lit (.int .u8 37), .lit (.int .u8 16), .lit (.int .u8 46), .lit (.int .u8 35), .lit (.int .u8 44), .lit (.int .u8 21), .lit (.int .u8 52), .lit (.int .u8 32), .lit (.int .u8 23), .lit (.int .u8 11), .lit (.int .u8 54), .lit (.int .u8 26), .lit (.int .u8 40), .lit (.int .u8 15), .lit (.int .u8 34), .lit (.int .u8 20), .lit (.int .u8 31), .lit (.int .u8 10), .lit (.int .u8 25), .lit (.int .u8 14), .lit (.int .u8 19), .lit (.int .u8 9), .lit (.int .u8 13), .lit (.int .u8 8), .lit (.int .u8 7), .lit (.int .u8 6)]

/-- 'ullagelaw39.TreeRises': WHATEVER THE INPUT: true; the input reads as it did. -/
def treeRisesSpec : ChangeSpec := { name := "treeRises", fn := fun _ => fun
  | [d1, d2] => { results := [.lit (.bool true)], args := [d1, d2] }
  | _ => none }
def treeRisesRow : OpenClaim := { program := "ytbdimhlaaoadgaagreatdoor", sum := "ff0a8a85a7f1d94bb5706dbcfe37b168958a5414d7bedf151798035e046a8967", func := "ullage/ullagelaw39.TreeRises", spec := "treeRises", inPlace := ["math.Float64bits", "math.Float64frombits"], unfollowed := true, recurses := true, named := ["math/bits.deBruijn64tab"], apart := false, laid := [("math/bits.deBruijn64tab", laid_math_bits_deBruijn64tab)] }
def TreeRisesSaid : Prop := treeRisesRow.holds Tryz.pinned (OpenSpec.ofChange treeRisesSpec)

/-- ITS FALSE NEIGHBOUR: 'it returns false'. Refute it at one input. -/
def treeRisesWrong : ChangeSpec := { name := "treeRises", fn := fun _ => fun
  | [d1, d2] => { results := [.lit (.bool false)], args := [d1, d2] }
  | _ => none }
def TreeRisesWrongFalsely : Prop := treeRisesRow.holds Tryz.pinned (OpenSpec.ofChange treeRisesWrong)

/-- 'ullagelaw39.TreeNobody': WHATEVER THE INPUT: true; the input reads as it did. -/
def treeNobodySpec : ChangeSpec := { name := "treeNobody", fn := fun _ => fun
  | [d] => { results := [.lit (.bool true)], args := [d] }
  | _ => none }
def treeNobodyRow : OpenClaim := { program := "ytbdimhlaaoadgaagreatdoor", sum := "ff0a8a85a7f1d94bb5706dbcfe37b168958a5414d7bedf151798035e046a8967", func := "ullage/ullagelaw39.TreeNobody", spec := "treeNobody", inPlace := ["math.Float64frombits", "math.Float64bits"], unfollowed := true, recurses := true, named := ["math/bits.deBruijn64tab"], apart := false, laid := [("math/bits.deBruijn64tab", laid_math_bits_deBruijn64tab)] }
def TreeNobodySaid : Prop := treeNobodyRow.holds Tryz.pinned (OpenSpec.ofChange treeNobodySpec)

/-- ITS FALSE NEIGHBOUR: 'it returns false'. Refute it at one input. -/
def treeNobodyWrong : ChangeSpec := { name := "treeNobody", fn := fun _ => fun
  | [d] => { results := [.lit (.bool false)], args := [d] }
  | _ => none }
def TreeNobodyWrongFalsely : Prop := treeNobodyRow.holds Tryz.pinned (OpenSpec.ofChange treeNobodyWrong)

/-- 'ullagelaw39.TreePlays': WHATEVER THE INPUT: true; the input reads as it did. -/
def treePlaysSpec : ChangeSpec := { name := "treePlays", fn := fun _ => fun
  | [d1, d2, d3] => { results := [.lit (.bool true)], args := [d1, d2, d3] }
  | _ => none }
def treePlaysRow : OpenClaim := { program := "ytbdimhlaaoadgaagreatdoor", sum := "ff0a8a85a7f1d94bb5706dbcfe37b168958a5414d7bedf151798035e046a8967", func := "ullage/ullagelaw39.TreePlays", spec := "treePlays", inPlace := ["math.Float64bits", "math.Float64frombits"], unfollowed := true, recurses := true, named := ["math/bits.deBruijn64tab"], apart := false, laid := [("math/bits.deBruijn64tab", laid_math_bits_deBruijn64tab)] }
def TreePlaysSaid : Prop := treePlaysRow.holds Tryz.pinned (OpenSpec.ofChange treePlaysSpec)

/-- ITS FALSE NEIGHBOUR: 'it returns false'. Refute it at one input. -/
def treePlaysWrong : ChangeSpec := { name := "treePlays", fn := fun _ => fun
  | [d1, d2, d3] => { results := [.lit (.bool false)], args := [d1, d2, d3] }
  | _ => none }
def TreePlaysWrongFalsely : Prop := treePlaysRow.holds Tryz.pinned (OpenSpec.ofChange treePlaysWrong)

/-- 'ullagelaw38.ListTurns': WHATEVER THE INPUT: true; the input reads as it did. -/
def listTurnsSpec : ChangeSpec := { name := "listTurns", fn := fun _ => fun
  | [d1, d2, d3] => { results := [.lit (.bool true)], args := [d1, d2, d3] }
  | _ => none }
def listTurnsRow : OpenClaim := { program := "ytbdimhlaaoadgaagreatdoor", sum := "ff0a8a85a7f1d94bb5706dbcfe37b168958a5414d7bedf151798035e046a8967", func := "ullage/ullagelaw38.ListTurns", spec := "listTurns", inPlace := ["math.Float64bits", "math.Float64frombits"], unfollowed := true, recurses := true, named := ["math/bits.deBruijn64tab"], apart := false, laid := [("math/bits.deBruijn64tab", laid_math_bits_deBruijn64tab)] }
def ListTurnsSaid : Prop := listTurnsRow.holds Tryz.pinned (OpenSpec.ofChange listTurnsSpec)

/-- ITS FALSE NEIGHBOUR: 'it returns false'. Refute it at one input. -/
def listTurnsWrong : ChangeSpec := { name := "listTurns", fn := fun _ => fun
  | [d1, d2, d3] => { results := [.lit (.bool false)], args := [d1, d2, d3] }
  | _ => none }
def ListTurnsWrongFalsely : Prop := listTurnsRow.holds Tryz.pinned (OpenSpec.ofChange listTurnsWrong)

/-- 'ullagelaw27.HeapFits': WHATEVER THE INPUT: true; the input reads as it did. -/
def heapFitsSpec : ChangeSpec := { name := "heapFits", fn := fun _ => fun
  | [d1, d2] => { results := [.lit (.bool true)], args := [d1, d2] }
  | _ => none }
def heapFitsRow : OpenClaim := { program := "ytbdimhlaaoadgaagreatdoor", sum := "ff0a8a85a7f1d94bb5706dbcfe37b168958a5414d7bedf151798035e046a8967", func := "ullage/ullagelaw27.HeapFits", spec := "heapFits", inPlace := ["math.Float64frombits", "math.Float64bits", "math/bits.Sub64", "math/bits.Add64"], unfollowed := true, recurses := true, named := ["math/bits.deBruijn64tab"], apart := false, laid := [("math/bits.deBruijn64tab", laid_math_bits_deBruijn64tab)] }
def HeapFitsSaid : Prop := heapFitsRow.holds Tryz.pinned (OpenSpec.ofChange heapFitsSpec)

/-- ITS FALSE NEIGHBOUR: 'it returns false'. Refute it at one input. -/
def heapFitsWrong : ChangeSpec := { name := "heapFits", fn := fun _ => fun
  | [d1, d2] => { results := [.lit (.bool false)], args := [d1, d2] }
  | _ => none }
def HeapFitsWrongFalsely : Prop := heapFitsRow.holds Tryz.pinned (OpenSpec.ofChange heapFitsWrong)

/-- 'ullagelaw27.HeapQuiet': WHATEVER THE INPUT: true; the input reads as it did. -/
def heapQuietSpec : ChangeSpec := { name := "heapQuiet", fn := fun _ => fun
  | [d1, d2, d3] => { results := [.lit (.bool true)], args := [d1, d2, d3] }
  | _ => none }
def heapQuietRow : OpenClaim := { program := "ytbdimhlaaoadgaagreatdoor", sum := "ff0a8a85a7f1d94bb5706dbcfe37b168958a5414d7bedf151798035e046a8967", func := "ullage/ullagelaw27.HeapQuiet", spec := "heapQuiet", inPlace := ["math.Float64frombits", "math.Float64bits", "math/bits.Sub64", "math/bits.Add64"], unfollowed := true, recurses := true, named := ["math/bits.deBruijn64tab"], apart := false, laid := [("math/bits.deBruijn64tab", laid_math_bits_deBruijn64tab)] }
def HeapQuietSaid : Prop := heapQuietRow.holds Tryz.pinned (OpenSpec.ofChange heapQuietSpec)

/-- ITS FALSE NEIGHBOUR: 'it returns false'. Refute it at one input. -/
def heapQuietWrong : ChangeSpec := { name := "heapQuiet", fn := fun _ => fun
  | [d1, d2, d3] => { results := [.lit (.bool false)], args := [d1, d2, d3] }
  | _ => none }
def HeapQuietWrongFalsely : Prop := heapQuietRow.holds Tryz.pinned (OpenSpec.ofChange heapQuietWrong)

/-- 'ullagelaw27.HeapAlike': WHATEVER THE INPUT: true; the input reads as it did. -/
def heapAlikeSpec : ChangeSpec := { name := "heapAlike", fn := fun _ => fun
  | [d1, d2, d3] => { results := [.lit (.bool true)], args := [d1, d2, d3] }
  | _ => none }
def heapAlikeRow : OpenClaim := { program := "ytbdimhlaaoadgaagreatdoor", sum := "ff0a8a85a7f1d94bb5706dbcfe37b168958a5414d7bedf151798035e046a8967", func := "ullage/ullagelaw27.HeapAlike", spec := "heapAlike", inPlace := ["math.Float64frombits", "math.Float64bits", "math/bits.Sub64", "math/bits.Add64"], unfollowed := true, recurses := true, named := ["math/bits.deBruijn64tab"], apart := false, laid := [("math/bits.deBruijn64tab", laid_math_bits_deBruijn64tab)] }
def HeapAlikeSaid : Prop := heapAlikeRow.holds Tryz.pinned (OpenSpec.ofChange heapAlikeSpec)

/-- ITS FALSE NEIGHBOUR: 'it returns false'. Refute it at one input. -/
def heapAlikeWrong : ChangeSpec := { name := "heapAlike", fn := fun _ => fun
  | [d1, d2, d3] => { results := [.lit (.bool false)], args := [d1, d2, d3] }
  | _ => none }
def HeapAlikeWrongFalsely : Prop := heapAlikeRow.holds Tryz.pinned (OpenSpec.ofChange heapAlikeWrong)

/- THE SECOND FORM. 'bulk': how many values and letters a reading holds, each counted each time it is reached (what is shared counts as often as it is met; a slice's spare places count too). A statement '..UptoSaid' is the law's where the arguments, and the package variables that the reading takes, are together of bulk at most 1048576: NARROWER than '..Said'. Prove '..Said' where nothing that the law and all that it calls make is longer than what came in: it says more and counts as full. Else prove '..UptoSaid'. A law counts once. -/
mutual
def uptoBulk {H : Type} : DataW H → Nat
  | .lit (.string bytes) => bytes.length + 1
  | .lit _ => 1
  | .nil => 1
  | .ptr d => uptoBulk d + 1
  | .slice elems spare => uptoBulkAll elems + uptoBulkAll spare + 1
  | .agg parts => uptoBulkAll parts + 1
  | .iface _ d => uptoBulk d + 1
  | .map entries => uptoBulkEntries entries + 1
  | .held _ => 1
def uptoBulkAll {H : Type} : List (DataW H) → Nat
  | [] => 0
  | d :: r => uptoBulk d + uptoBulkAll r
def uptoBulkEntries {H : Type} : List (Lit × DataW H) → Nat
  | [] => 0
  | x :: r => uptoBulkEntry x + uptoBulkEntries r
def uptoBulkEntry {H : Type} : Lit × DataW H → Nat
  | (.string bytes, d) => bytes.length + uptoBulk d + 1
  | (_, d) => uptoBulk d + 1
 end
def uptoSmall : (H : Type) → List (DataW H) → Bool := fun _ ds => decide (uptoBulkAll ds ≤ 1048576)
def OpenSpec.upto (s : _root_.Go.ChangeSpec) : _root_.Go.OpenSpec := { _root_.Go.OpenSpec.ofChange s with cond := some uptoSmall }

/-- 'ullagelaw39.TreeRises', WHERE WHAT IT READS IS OF BULK AT MOST 1048576: true; the input reads as it did. -/
def treeRisesUptoRow : OpenClaim := { program := "ytbdimhlaaoadgaagreatdoor", sum := "ff0a8a85a7f1d94bb5706dbcfe37b168958a5414d7bedf151798035e046a8967", func := "ullage/ullagelaw39.TreeRises", spec := "treeRises", inPlace := ["math.Float64bits", "math.Float64frombits"], unfollowed := true, recurses := true, named := ["math/bits.deBruijn64tab"], apart := false, laid := [("math/bits.deBruijn64tab", laid_math_bits_deBruijn64tab)], narrowed := true }
def TreeRisesUptoSaid : Prop := treeRisesUptoRow.holds Tryz.pinned (OpenSpec.upto treeRisesSpec)

/-- 'ullagelaw39.TreeNobody', WHERE WHAT IT READS IS OF BULK AT MOST 1048576: true; the input reads as it did. -/
def treeNobodyUptoRow : OpenClaim := { program := "ytbdimhlaaoadgaagreatdoor", sum := "ff0a8a85a7f1d94bb5706dbcfe37b168958a5414d7bedf151798035e046a8967", func := "ullage/ullagelaw39.TreeNobody", spec := "treeNobody", inPlace := ["math.Float64frombits", "math.Float64bits"], unfollowed := true, recurses := true, named := ["math/bits.deBruijn64tab"], apart := false, laid := [("math/bits.deBruijn64tab", laid_math_bits_deBruijn64tab)], narrowed := true }
def TreeNobodyUptoSaid : Prop := treeNobodyUptoRow.holds Tryz.pinned (OpenSpec.upto treeNobodySpec)

/-- 'ullagelaw39.TreePlays', WHERE WHAT IT READS IS OF BULK AT MOST 1048576: true; the input reads as it did. -/
def treePlaysUptoRow : OpenClaim := { program := "ytbdimhlaaoadgaagreatdoor", sum := "ff0a8a85a7f1d94bb5706dbcfe37b168958a5414d7bedf151798035e046a8967", func := "ullage/ullagelaw39.TreePlays", spec := "treePlays", inPlace := ["math.Float64bits", "math.Float64frombits"], unfollowed := true, recurses := true, named := ["math/bits.deBruijn64tab"], apart := false, laid := [("math/bits.deBruijn64tab", laid_math_bits_deBruijn64tab)], narrowed := true }
def TreePlaysUptoSaid : Prop := treePlaysUptoRow.holds Tryz.pinned (OpenSpec.upto treePlaysSpec)

/-- 'ullagelaw38.ListTurns', WHERE WHAT IT READS IS OF BULK AT MOST 1048576: true; the input reads as it did. -/
def listTurnsUptoRow : OpenClaim := { program := "ytbdimhlaaoadgaagreatdoor", sum := "ff0a8a85a7f1d94bb5706dbcfe37b168958a5414d7bedf151798035e046a8967", func := "ullage/ullagelaw38.ListTurns", spec := "listTurns", inPlace := ["math.Float64bits", "math.Float64frombits"], unfollowed := true, recurses := true, named := ["math/bits.deBruijn64tab"], apart := false, laid := [("math/bits.deBruijn64tab", laid_math_bits_deBruijn64tab)], narrowed := true }
def ListTurnsUptoSaid : Prop := listTurnsUptoRow.holds Tryz.pinned (OpenSpec.upto listTurnsSpec)

/-- 'ullagelaw27.HeapFits', WHERE WHAT IT READS IS OF BULK AT MOST 1048576: true; the input reads as it did. -/
def heapFitsUptoRow : OpenClaim := { program := "ytbdimhlaaoadgaagreatdoor", sum := "ff0a8a85a7f1d94bb5706dbcfe37b168958a5414d7bedf151798035e046a8967", func := "ullage/ullagelaw27.HeapFits", spec := "heapFits", inPlace := ["math.Float64frombits", "math.Float64bits", "math/bits.Sub64", "math/bits.Add64"], unfollowed := true, recurses := true, named := ["math/bits.deBruijn64tab"], apart := false, laid := [("math/bits.deBruijn64tab", laid_math_bits_deBruijn64tab)], narrowed := true }
def HeapFitsUptoSaid : Prop := heapFitsUptoRow.holds Tryz.pinned (OpenSpec.upto heapFitsSpec)

/-- 'ullagelaw27.HeapQuiet', WHERE WHAT IT READS IS OF BULK AT MOST 1048576: true; the input reads as it did. -/
def heapQuietUptoRow : OpenClaim := { program := "ytbdimhlaaoadgaagreatdoor", sum := "ff0a8a85a7f1d94bb5706dbcfe37b168958a5414d7bedf151798035e046a8967", func := "ullage/ullagelaw27.HeapQuiet", spec := "heapQuiet", inPlace := ["math.Float64frombits", "math.Float64bits", "math/bits.Sub64", "math/bits.Add64"], unfollowed := true, recurses := true, named := ["math/bits.deBruijn64tab"], apart := false, laid := [("math/bits.deBruijn64tab", laid_math_bits_deBruijn64tab)], narrowed := true }
def HeapQuietUptoSaid : Prop := heapQuietUptoRow.holds Tryz.pinned (OpenSpec.upto heapQuietSpec)

/-- 'ullagelaw27.HeapAlike', WHERE WHAT IT READS IS OF BULK AT MOST 1048576: true; the input reads as it did. -/
def heapAlikeUptoRow : OpenClaim := { program := "ytbdimhlaaoadgaagreatdoor", sum := "ff0a8a85a7f1d94bb5706dbcfe37b168958a5414d7bedf151798035e046a8967", func := "ullage/ullagelaw27.HeapAlike", spec := "heapAlike", inPlace := ["math.Float64frombits", "math.Float64bits", "math/bits.Sub64", "math/bits.Add64"], unfollowed := true, recurses := true, named := ["math/bits.deBruijn64tab"], apart := false, laid := [("math/bits.deBruijn64tab", laid_math_bits_deBruijn64tab)], narrowed := true }
def HeapAlikeUptoSaid : Prop := heapAlikeUptoRow.holds Tryz.pinned (OpenSpec.upto heapAlikeSpec)

end Rows
end Go.Proofs.YtbdimhlaaoadgaaGreatDoor
