/-
  NARROWER THAN 'FOR EVERY INPUT', by the rows' own cells (each row's printed sentence says how): HeapQuiet: laid · HeapAlike: laid · HeapEnds: laid · ListTurns: laid · TableSums: laid · TableNobody: laid · TablePlays: laid.
  DERIVED. THE GIVEN ROWS OF THIS SEAT. 7 by the template 'for every input the law returns true; each argument reads behind the call as it read before'; 0 by the template 'total and deterministic' (their statements: YtcihfnpokdbfpaaGreatDoorTotals.lean).
  GIVEN WITH THE SEED: the statements are not yours to turn. If you find one false, say at which input.
  Laid BY PROGRAM, IN A SANDBOX (cutbox-rows.mjs): the forced cells as the released guide's own fill.sh prints them over the translation 6e7f540b6143a2cc… (all of the seat's roots in one cut). By AI agents, Wed Nov 11 2026. No macro, syntax, notation, axiom, sorry.
-/
import Derived.Test.YtcihfnpokdbfpaaGreatDoorChecked
import GoSem.Claim
import GoSem.ClaimJoined
import GoSem.ClaimMapViews
import Derived.JoinedTies
import Derived.KernelRfl
namespace Go.Proofs.YtcihfnpokdbfpaaGreatDoor
/- THE CELL 'sum', in the pinned program and in every row, IS THE sha256 OF THE DUMP (.gsa) THAT YtcihfnpokdbfpaaGreatDoorProg.lean LOADS. Nothing in Lean hashes anything: it is a label: what it is worth is what the hold of that sum in a sandbox is worth. -/
noncomputable def Tryz.pinned : Pinned := { name := "ytcihfnpokdbfpaagreatdoor", sum := "6e7f540b6143a2ccc1cbfbfd60b2a822b40bdcc9ca806b4a3db788326d2c3c77", checked := Tryz.checked }
namespace Rows
def none {H : Type} : Left H := { results := [], args := [] }

/- WHAT THE LISTED PACKAGE-LEVEL VARIABLES READ AS WHEN THE CALL BEGINS. Each datum BY PROGRAM (the guide's laid-datum.mjs) off the statement by which the dump's own 'gosem.cut.vars' lays the variable. In a bare row this is a premise. The card (YtcihfnpokdbfpaaGreatDoorCards.lean) ties it to the program's text. -/
def laid_math_bits_deBruijn64tab {H : Type} : DataW H := .agg [.lit (.int .u8 0), .lit (.int .u8 1), .lit (.int .u8 56), .lit (.int .u8 2), .lit (.int .u8 57), .lit (.int .u8 49), .lit (.int .u8 28), .lit (.int .u8 3), .lit (.int .u8 61), .lit (.int .u8 58), .lit (.int .u8 42), .lit (.int .u8 50), .lit (.int .u8 38), .lit (.int .u8 29), .lit (.int .u8 17), .lit (.int .u8 4), .lit (.int .u8 62), .lit (.int .u8 47), .lit (.int .u8 59), .lit (.int .u8 36), .lit (.int .u8 45), .lit (.int .u8 43), .lit (.int .u8 51), .lit (.int .u8 22), .lit (.int .u8 53), .lit (.int .u8 39), .lit (.int .u8 33), .lit (.int .u8 30), .lit (.int .u8 24), .lit (.int .u8 18), .lit (.int .u8 12), .lit (.int .u8 5), .lit (.int .u8 63), .lit (.int .u8 55), .lit (.int .u8 48), .lit (.int .u8 27), .lit (.int .u8 60), .lit (.int .u8 41), .lit (.int .u8 37), .lit (.int .u8 16), .lit (.int .u8 46), .lit (.int .u8 35), .lit (.int .u8 44), .lit (.int .u8 21), .lit (.int .u8 52), .lit (.int .u8 32), .lit (.int .u8 23), .lit (.int .u8 11), .lit (.int .u8 54), .lit (.int .u8 26), .lit (.int .u8 40), .lit (.int .u8 15), .lit (.int .u8 34), .lit (.int .u8 20), .lit (.int .u8 31), .lit (.int .u8 10), .lit (.int .u8 25), .lit (.int .u8 14), .lit (.int .u8 19), .lit (.int .u8 9), .lit (.int .u8 13), .lit (.int .u8 8), .lit (.int .u8 7), .lit (.int .u8 6)]

/-- 'ullagelaw27.HeapQuiet': WHATEVER THE INPUT: true; the input reads as it did. -/
def heapQuietSpec : ChangeSpec := { name := "heapQuiet", fn := fun _ => fun
  | [d1, d2, d3] => { results := [.lit (.bool true)], args := [d1, d2, d3] }
  | _ => none }
def heapQuietRow : OpenClaim := { program := "ytcihfnpokdbfpaagreatdoor", sum := "6e7f540b6143a2ccc1cbfbfd60b2a822b40bdcc9ca806b4a3db788326d2c3c77", func := "ullage/ullagelaw27.HeapQuiet", spec := "heapQuiet", inPlace := ["math.Float64frombits", "math.Float64bits", "math/bits.Sub64", "math/bits.Add64"], unfollowed := true, recurses := true, named := ["math/bits.deBruijn64tab"], apart := false, laid := [("math/bits.deBruijn64tab", laid_math_bits_deBruijn64tab)] }
def HeapQuietSaid : Prop := heapQuietRow.holds Tryz.pinned (OpenSpec.ofChange heapQuietSpec)

/-- ITS FALSE NEIGHBOUR: 'it returns false'. Refute it at one input. -/
def heapQuietWrong : ChangeSpec := { name := "heapQuiet", fn := fun _ => fun
  | [d1, d2, d3] => { results := [.lit (.bool false)], args := [d1, d2, d3] }
  | _ => none }
def HeapQuietWrongFalsely : Prop := heapQuietRow.holds Tryz.pinned (OpenSpec.ofChange heapQuietWrong)

/-- 'ullagelaw27.HeapAlike': WHATEVER THE INPUT: true; the input reads as it did. -/
def heapAlikeSpec : ChangeSpec := { name := "heapAlike", fn := fun _ => fun
  | [d1, d2, d3] => { results := [.lit (.bool true)], args := [d1, d2, d3] }
  | _ => none }
def heapAlikeRow : OpenClaim := { program := "ytcihfnpokdbfpaagreatdoor", sum := "6e7f540b6143a2ccc1cbfbfd60b2a822b40bdcc9ca806b4a3db788326d2c3c77", func := "ullage/ullagelaw27.HeapAlike", spec := "heapAlike", inPlace := ["math.Float64frombits", "math.Float64bits", "math/bits.Sub64", "math/bits.Add64"], unfollowed := true, recurses := true, named := ["math/bits.deBruijn64tab"], apart := false, laid := [("math/bits.deBruijn64tab", laid_math_bits_deBruijn64tab)] }
def HeapAlikeSaid : Prop := heapAlikeRow.holds Tryz.pinned (OpenSpec.ofChange heapAlikeSpec)

/-- ITS FALSE NEIGHBOUR: 'it returns false'. Refute it at one input. -/
def heapAlikeWrong : ChangeSpec := { name := "heapAlike", fn := fun _ => fun
  | [d1, d2, d3] => { results := [.lit (.bool false)], args := [d1, d2, d3] }
  | _ => none }
def HeapAlikeWrongFalsely : Prop := heapAlikeRow.holds Tryz.pinned (OpenSpec.ofChange heapAlikeWrong)

/-- 'ullagelaw27.HeapEnds': WHATEVER THE INPUT: true; the input reads as it did. -/
def heapEndsSpec : ChangeSpec := { name := "heapEnds", fn := fun _ => fun
  | [d1, d2, d3] => { results := [.lit (.bool true)], args := [d1, d2, d3] }
  | _ => none }
def heapEndsRow : OpenClaim := { program := "ytcihfnpokdbfpaagreatdoor", sum := "6e7f540b6143a2ccc1cbfbfd60b2a822b40bdcc9ca806b4a3db788326d2c3c77", func := "ullage/ullagelaw27.HeapEnds", spec := "heapEnds", inPlace := ["math.Float64frombits", "math.Float64bits", "math/bits.Sub64", "math/bits.Add64"], unfollowed := true, recurses := true, named := ["math/bits.deBruijn64tab"], apart := false, laid := [("math/bits.deBruijn64tab", laid_math_bits_deBruijn64tab)] }
def HeapEndsSaid : Prop := heapEndsRow.holds Tryz.pinned (OpenSpec.ofChange heapEndsSpec)

/-- ITS FALSE NEIGHBOUR: 'it returns false'. Refute it at one input. -/
def heapEndsWrong : ChangeSpec := { name := "heapEnds", fn := fun _ => fun
  | [d1, d2, d3] => { results := [.lit (.bool false)], args := [d1, d2, d3] }
  | _ => none }
def HeapEndsWrongFalsely : Prop := heapEndsRow.holds Tryz.pinned (OpenSpec.ofChange heapEndsWrong)

/-- 'ullagelaw38.ListTurns': WHATEVER THE INPUT: true; the input reads as it did. -/
def listTurnsSpec : ChangeSpec := { name := "listTurns", fn := fun _ => fun
  | [d1, d2, d3] => { results := [.lit (.bool true)], args := [d1, d2, d3] }
  | _ => none }
def listTurnsRow : OpenClaim := { program := "ytcihfnpokdbfpaagreatdoor", sum := "6e7f540b6143a2ccc1cbfbfd60b2a822b40bdcc9ca806b4a3db788326d2c3c77", func := "ullage/ullagelaw38.ListTurns", spec := "listTurns", inPlace := ["math.Float64bits", "math.Float64frombits"], unfollowed := true, recurses := true, named := ["math/bits.deBruijn64tab"], apart := false, laid := [("math/bits.deBruijn64tab", laid_math_bits_deBruijn64tab)] }
def ListTurnsSaid : Prop := listTurnsRow.holds Tryz.pinned (OpenSpec.ofChange listTurnsSpec)

/-- ITS FALSE NEIGHBOUR: 'it returns false'. Refute it at one input. -/
def listTurnsWrong : ChangeSpec := { name := "listTurns", fn := fun _ => fun
  | [d1, d2, d3] => { results := [.lit (.bool false)], args := [d1, d2, d3] }
  | _ => none }
def ListTurnsWrongFalsely : Prop := listTurnsRow.holds Tryz.pinned (OpenSpec.ofChange listTurnsWrong)

/-- 'ullagelaw41.TableSums': WHATEVER THE INPUT: true; the input reads as it did. -/
def tableSumsSpec : ChangeSpec := { name := "tableSums", fn := fun _ => fun
  | [d1, d2, d3] => { results := [.lit (.bool true)], args := [d1, d2, d3] }
  | _ => none }
def tableSumsRow : OpenClaim := { program := "ytcihfnpokdbfpaagreatdoor", sum := "6e7f540b6143a2ccc1cbfbfd60b2a822b40bdcc9ca806b4a3db788326d2c3c77", func := "ullage/ullagelaw41.TableSums", spec := "tableSums", inPlace := ["math.Float64bits", "math.Float64frombits", "math/bits.Sub64", "math/bits.Add64"], unfollowed := true, recurses := true, named := ["math/bits.deBruijn64tab"], apart := false, laid := [("math/bits.deBruijn64tab", laid_math_bits_deBruijn64tab)] }
def TableSumsSaid : Prop := tableSumsRow.holds Tryz.pinned (OpenSpec.ofChange tableSumsSpec)

/-- ITS FALSE NEIGHBOUR: 'it returns false'. Refute it at one input. -/
def tableSumsWrong : ChangeSpec := { name := "tableSums", fn := fun _ => fun
  | [d1, d2, d3] => { results := [.lit (.bool false)], args := [d1, d2, d3] }
  | _ => none }
def TableSumsWrongFalsely : Prop := tableSumsRow.holds Tryz.pinned (OpenSpec.ofChange tableSumsWrong)

/-- 'ullagelaw41.TableNobody': WHATEVER THE INPUT: true; the input reads as it did. -/
def tableNobodySpec : ChangeSpec := { name := "tableNobody", fn := fun _ => fun
  | [d] => { results := [.lit (.bool true)], args := [d] }
  | _ => none }
def tableNobodyRow : OpenClaim := { program := "ytcihfnpokdbfpaagreatdoor", sum := "6e7f540b6143a2ccc1cbfbfd60b2a822b40bdcc9ca806b4a3db788326d2c3c77", func := "ullage/ullagelaw41.TableNobody", spec := "tableNobody", inPlace := ["math.Float64frombits", "math.Float64bits", "math/bits.Sub64", "math/bits.Add64"], unfollowed := true, recurses := true, named := ["math/bits.deBruijn64tab"], apart := false, laid := [("math/bits.deBruijn64tab", laid_math_bits_deBruijn64tab)] }
def TableNobodySaid : Prop := tableNobodyRow.holds Tryz.pinned (OpenSpec.ofChange tableNobodySpec)

/-- ITS FALSE NEIGHBOUR: 'it returns false'. Refute it at one input. -/
def tableNobodyWrong : ChangeSpec := { name := "tableNobody", fn := fun _ => fun
  | [d] => { results := [.lit (.bool false)], args := [d] }
  | _ => none }
def TableNobodyWrongFalsely : Prop := tableNobodyRow.holds Tryz.pinned (OpenSpec.ofChange tableNobodyWrong)

/-- 'ullagelaw41.TablePlays': WHATEVER THE INPUT: true; the input reads as it did. -/
def tablePlaysSpec : ChangeSpec := { name := "tablePlays", fn := fun _ => fun
  | [d1, d2, d3] => { results := [.lit (.bool true)], args := [d1, d2, d3] }
  | _ => none }
def tablePlaysRow : OpenClaim := { program := "ytcihfnpokdbfpaagreatdoor", sum := "6e7f540b6143a2ccc1cbfbfd60b2a822b40bdcc9ca806b4a3db788326d2c3c77", func := "ullage/ullagelaw41.TablePlays", spec := "tablePlays", inPlace := ["math.Float64bits", "math.Float64frombits", "math/bits.Sub64", "math/bits.Add64"], unfollowed := true, recurses := true, named := ["math/bits.deBruijn64tab"], apart := false, laid := [("math/bits.deBruijn64tab", laid_math_bits_deBruijn64tab)] }
def TablePlaysSaid : Prop := tablePlaysRow.holds Tryz.pinned (OpenSpec.ofChange tablePlaysSpec)

/-- ITS FALSE NEIGHBOUR: 'it returns false'. Refute it at one input. -/
def tablePlaysWrong : ChangeSpec := { name := "tablePlays", fn := fun _ => fun
  | [d1, d2, d3] => { results := [.lit (.bool false)], args := [d1, d2, d3] }
  | _ => none }
def TablePlaysWrongFalsely : Prop := tablePlaysRow.holds Tryz.pinned (OpenSpec.ofChange tablePlaysWrong)

/- THE SECOND FORM. 'bulk': how many values and letters a reading holds, each counted each time it is reached (what is shared counts as often as it is met; a slice's spare places count too). A statement '..UptoSaid' is the law's where the arguments, and the package variables that the reading takes, are together of bulk at most 1048576: NARROWER than '..Said'. Prove '..Said' where nothing that the law and all that it calls make is longer than what came in: it says more and counts as full. Else prove '..UptoSaid'. A law counts once. -/
mutual
def uptoBulk {H : Type} : DataW H → Nat
  | .lit (.string bytes) => bytes.length + 1
  | .lit _ => 1
  | .nil => 1
  | .ptr d => uptoBulk d + 1
  | .slice elems spare => uptoBulkAll elems + uptoBulkAll spare + 1
  | .agg parts => uptoBulkAll parts + 1
  | .iface _ d => uptoBulk d + 1
  | .map entries => uptoBulkEntries entries + 1
  | .held _ => 1
def uptoBulkAll {H : Type} : List (DataW H) → Nat
  | [] => 0
  | d :: r => uptoBulk d + uptoBulkAll r
def uptoBulkEntries {H : Type} : List (Lit × DataW H) → Nat
  | [] => 0
  | x :: r => uptoBulkEntry x + uptoBulkEntries r
def uptoBulkEntry {H : Type} : Lit × DataW H → Nat
  | (.string bytes, d) => bytes.length + uptoBulk d + 1
  | (_, d) => uptoBulk d + 1
 end
def uptoSmall : (H : Type) → List (DataW H) → Bool := fun _ ds => decide (uptoBulkAll ds ≤ 1048576)
def OpenSpec.upto (s : _root_.Go.ChangeSpec) : _root_.Go.OpenSpec := { _root_.Go.OpenSpec.ofChange s with cond := some uptoSmall }

/-- 'ullagelaw27.HeapQuiet', WHERE WHAT IT READS IS OF BULK AT MOST 1048576: true; the input reads as it did. -/
def heapQuietUptoRow : OpenClaim := { program := "ytcihfnpokdbfpaagreatdoor", sum := "6e7f540b6143a2ccc1cbfbfd60b2a822b40bdcc9ca806b4a3db788326d2c3c77", func := "ullage/ullagelaw27.HeapQuiet", spec := "heapQuiet", inPlace := ["math.Float64frombits", "math.Float64bits", "math/bits.Sub64", "math/bits.Add64"], unfollowed := true, recurses := true, named := ["math/bits.deBruijn64tab"], apart := false, laid := [("math/bits.deBruijn64tab", laid_math_bits_deBruijn64tab)], narrowed := true }
def HeapQuietUptoSaid : Prop := heapQuietUptoRow.holds Tryz.pinned (OpenSpec.upto heapQuietSpec)

/-- 'ullagelaw27.HeapAlike', WHERE WHAT IT READS IS OF BULK AT MOST 1048576: true; the input reads as it did. -/
def heapAlikeUptoRow : OpenClaim := { program := "ytcihfnpokdbfpaagreatdoor", sum := "6e7f540b6143a2ccc1cbfbfd60b2a822b40bdcc9ca806b4a3db788326d2c3c77", func := "ullage/ullagelaw27.HeapAlike", spec := "heapAlike", inPlace := ["math.Float64frombits", "math.Float64bits", "math/bits.Sub64", "math/bits.Add64"], unfollowed := true, recurses := true, named := ["math/bits.deBruijn64tab"], apart := false, laid := [("math/bits.deBruijn64tab", laid_math_bits_deBruijn64tab)], narrowed := true }
def HeapAlikeUptoSaid : Prop := heapAlikeUptoRow.holds Tryz.pinned (OpenSpec.upto heapAlikeSpec)

/-- 'ullagelaw27.HeapEnds', WHERE WHAT IT READS IS OF BULK AT MOST 1048576: true; the input reads as it did. -/
def heapEndsUptoRow : OpenClaim := { program := "ytcihfnpokdbfpaagreatdoor", sum := "6e7f540b6143a2ccc1cbfbfd60b2a822b40bdcc9ca806b4a3db788326d2c3c77", func := "ullage/ullagelaw27.HeapEnds", spec := "heapEnds", inPlace := ["math.Float64frombits", "math.Float64bits", "math/bits.Sub64", "math/bits.Add64"], unfollowed := true, recurses := true, named := ["math/bits.deBruijn64tab"], apart := false, laid := [("math/bits.deBruijn64tab", laid_math_bits_deBruijn64tab)], narrowed := true }
def HeapEndsUptoSaid : Prop := heapEndsUptoRow.holds Tryz.pinned (OpenSpec.upto heapEndsSpec)

/-- 'ullagelaw38.ListTurns', WHERE WHAT IT READS IS OF BULK AT MOST 1048576: true; the input reads as it did. -/
def listTurnsUptoRow : OpenClaim := { program := "ytcihfnpokdbfpaagreatdoor", sum := "6e7f540b6143a2ccc1cbfbfd60b2a822b40bdcc9ca806b4a3db788326d2c3c77", func := "ullage/ullagelaw38.ListTurns", spec := "listTurns", inPlace := ["math.Float64bits", "math.Float64frombits"], unfollowed := true, recurses := true, named := ["math/bits.deBruijn64tab"], apart := false, laid := [("math/bits.deBruijn64tab", laid_math_bits_deBruijn64tab)], narrowed := true }
def ListTurnsUptoSaid : Prop := listTurnsUptoRow.holds Tryz.pinned (OpenSpec.upto listTurnsSpec)

/-- 'ullagelaw41.TableSums', WHERE WHAT IT READS IS OF BULK AT MOST 1048576: true; the input reads as it did. -/
def tableSumsUptoRow : OpenClaim := { program := "ytcihfnpokdbfpaagreatdoor", sum := "6e7f540b6143a2ccc1cbfbfd60b2a822b40bdcc9ca806b4a3db788326d2c3c77", func := "ullage/ullagelaw41.TableSums", spec := "tableSums", inPlace := ["math.Float64bits", "math.Float64frombits", "math/bits.Sub64", "math/bits.Add64"], unfollowed := true, recurses := true, named := ["math/bits.deBruijn64tab"], apart := false, laid := [("math/bits.deBruijn64tab", laid_math_bits_deBruijn64tab)], narrowed := true }
def TableSumsUptoSaid : Prop := tableSumsUptoRow.holds Tryz.pinned (OpenSpec.upto tableSumsSpec)

/-- 'ullagelaw41.TableNobody', WHERE WHAT IT READS IS OF BULK AT MOST 1048576: true; the input reads as it did. -/
def tableNobodyUptoRow : OpenClaim := { program := "ytcihfnpokdbfpaagreatdoor", sum := "6e7f540b6143a2ccc1cbfbfd60b2a822b40bdcc9ca806b4a3db788326d2c3c77", func := "ullage/ullagelaw41.TableNobody", spec := "tableNobody", inPlace := ["math.Float64frombits", "math.Float64bits", "math/bits.Sub64", "math/bits.Add64"], unfollowed := true, recurses := true, named := ["math/bits.deBruijn64tab"], apart := false, laid := [("math/bits.deBruijn64tab", laid_math_bits_deBruijn64tab)], narrowed := true }
def TableNobodyUptoSaid : Prop := tableNobodyUptoRow.holds Tryz.pinned (OpenSpec.upto tableNobodySpec)

/-- 'ullagelaw41.TablePlays', WHERE WHAT IT READS IS OF BULK AT MOST 1048576: true; the input reads as it did. -/
def tablePlaysUptoRow : OpenClaim := { program := "ytcihfnpokdbfpaagreatdoor", sum := "6e7f540b6143a2ccc1cbfbfd60b2a822b40bdcc9ca806b4a3db788326d2c3c77", func := "ullage/ullagelaw41.TablePlays", spec := "tablePlays", inPlace := ["math.Float64bits", "math.Float64frombits", "math/bits.Sub64", "math/bits.Add64"], unfollowed := true, recurses := true, named := ["math/bits.deBruijn64tab"], apart := false, laid := [("math/bits.deBruijn64tab", laid_math_bits_deBruijn64tab)], narrowed := true }
def TablePlaysUptoSaid : Prop := tablePlaysUptoRow.holds Tryz.pinned (OpenSpec.upto tablePlaysSpec)

end Rows
end Go.Proofs.YtcihfnpokdbfpaaGreatDoor
