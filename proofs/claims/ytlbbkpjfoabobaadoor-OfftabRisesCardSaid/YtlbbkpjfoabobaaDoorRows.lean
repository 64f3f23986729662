/-
  NARROWER THAN 'FOR EVERY INPUT', by the rows' own cells (each row's printed sentence says how): BitvecAdds: laid · BitvecOnes: laid · BitvecPlays: laid · RankBack: laid · BitvecCopies: laid · ExtentAdds: laid · RankTells: laid · RankNobody: laid · BitvecNobody: laid · ExtentPlays: laid · ExtentNobody: laid · OfftabRises: laid.
  DERIVED. THE GIVEN ROWS OF THIS SEAT. 12 by the template 'for every input the law returns true; each argument reads behind the call as it read before'; 0 by the template 'total and deterministic' (their statements: YtlbbkpjfoabobaaDoorTotals.lean).
  GIVEN WITH THE SEED: the statements are not yours to turn. If you find one false, say at which input.
  Laid BY PROGRAM, IN A SANDBOX (cutbox-rows.mjs): the forced cells as the released guide's own fill.sh prints them over the translation 6028cb868f807e49… (all of the seat's roots in one cut). By AI agents, Wed Nov 11 2026. No macro, syntax, notation, axiom, sorry.
-/
import Derived.Test.YtlbbkpjfoabobaaDoorChecked
import GoSem.Claim
import GoSem.ClaimJoined
import GoSem.ClaimMapViews
import Derived.JoinedTies
import Derived.KernelRfl
namespace Go.Proofs.YtlbbkpjfoabobaaDoor
/- THE CELL 'sum', in the pinned program and in every row, IS THE sha256 OF THE DUMP (.gsa) THAT YtlbbkpjfoabobaaDoorProg.lean LOADS. Nothing in Lean hashes anything: it is a label: what it is worth is what the hold of that sum in a sandbox is worth. -/
noncomputable def Tryd.pinned : Pinned := { name := "ytlbbkpjfoabobaadoor", sum := "6028cb868f807e4956ebfdf13bbda3963a276c12f2a07098c0ce12402cee3c37", checked := Tryd.checked }
namespace Rows
def none {H : Type} : Left H := { results := [], args := [] }

/- WHAT THE LISTED PACKAGE-LEVEL VARIABLES READ AS WHEN THE CALL BEGINS. Each datum BY PROGRAM (the guide's laid-datum.mjs) off the statement by which the dump's own 'gosem.cut.vars' lays the variable. In a bare row this is a premise. The card (YtlbbkpjfoabobaaDoorCards.lean) ties it to the program's text. -/
def laid_math_bits_deBruijn64tab {H : Type} : DataW H := .agg [.lit (.int .u8 0), .lit (.int .u8 1), .lit (.int .u8 56), .lit (.int .u8 2), .lit (.int .u8 57), .lit (.int .u8 49), .lit (.int .u8 28), .lit (.int .u8 3), .lit (.int .u8 61), .lit (.int .u8 58), .lit (.int .u8 42), .lit (.int .u8 50), .lit (.int .u8 38), .lit (.int .u8 29), .lit (.int .u8 17), .lit (.int .u8 4), .lit (.int .u8 62), .lit (.int .u8 47), .lit (.int .u8 59), .lit (.int .u8 36), .lit (.int .u8 45), .lit (.int .u8 43), .lit (.int .u8 51), .lit (.int .u8 22), .lit (.int .u8 53), .lit (.int .u8 39), .lit (.int .u8 33), .lit (.int .u8 30), .lit (.int .u8 24), .lit (.int .u8 18), .lit (.int .u8 12), .lit (.int .u8 5), .lit (.int .u8 63), .lit (.int .u8 55), .lit (.int .u8 48), .lit (.int .u8 27), .lit (.int .u8 60), .lit (.int .u8 41), .lit (.int .u8 37), .lit (.int .u8 16), .lit (.int .u8 46), .lit (.int .u8 35), .lit (.int .u8 44), .lit (.int .u8 21), .lit (.int .u8 52), .lit (.int .u8 32), .lit (.int .u8 23), .lit (.int .u8 11), .lit (.int .u8 54), .lit (.int .u8 26), .lit (.int .u8 40), .lit (.int .u8 15), .lit (.int .u8 34), .lit (.int .u8 20), .lit (.int .u8 31), .lit (.int .u8 10), .lit (.int .u8 25), .lit (.int .u8 14), .lit (.int .u8 19), .lit (.int .u8 9), .lit (.int .u8 13), .lit (.int .u8 8), .lit (.int .u8 7), .lit (.int .u8 6)]

/-- 'ullagelaw11.BitvecAdds': WHATEVER THE INPUT: true; the input reads as it did. -/
def bitvecAddsSpec : ChangeSpec := { name := "bitvecAdds", fn := fun _ => fun
  | [d1, d2, d3] => { results := [.lit (.bool true)], args := [d1, d2, d3] }
  | _ => none }
def bitvecAddsRow : OpenClaim := { program := "ytlbbkpjfoabobaadoor", sum := "6028cb868f807e4956ebfdf13bbda3963a276c12f2a07098c0ce12402cee3c37", func := "ullage/ullagelaw11.BitvecAdds", spec := "bitvecAdds", unfollowed := true, recurses := true, named := ["math/bits.deBruijn64tab"], apart := false, laid := [("math/bits.deBruijn64tab", laid_math_bits_deBruijn64tab)] }
def BitvecAddsSaid : Prop := bitvecAddsRow.holds Tryd.pinned (OpenSpec.ofChange bitvecAddsSpec)

/-- ITS FALSE NEIGHBOUR: 'it returns false'. Refute it at one input. -/
def bitvecAddsWrong : ChangeSpec := { name := "bitvecAdds", fn := fun _ => fun
  | [d1, d2, d3] => { results := [.lit (.bool false)], args := [d1, d2, d3] }
  | _ => none }
def BitvecAddsWrongFalsely : Prop := bitvecAddsRow.holds Tryd.pinned (OpenSpec.ofChange bitvecAddsWrong)

/-- 'ullagelaw11.BitvecOnes': WHATEVER THE INPUT: true; the input reads as it did. -/
def bitvecOnesSpec : ChangeSpec := { name := "bitvecOnes", fn := fun _ => fun
  | [d1, d2, d3] => { results := [.lit (.bool true)], args := [d1, d2, d3] }
  | _ => none }
def bitvecOnesRow : OpenClaim := { program := "ytlbbkpjfoabobaadoor", sum := "6028cb868f807e4956ebfdf13bbda3963a276c12f2a07098c0ce12402cee3c37", func := "ullage/ullagelaw11.BitvecOnes", spec := "bitvecOnes", unfollowed := true, recurses := true, named := ["math/bits.deBruijn64tab"], apart := false, laid := [("math/bits.deBruijn64tab", laid_math_bits_deBruijn64tab)] }
def BitvecOnesSaid : Prop := bitvecOnesRow.holds Tryd.pinned (OpenSpec.ofChange bitvecOnesSpec)

/-- ITS FALSE NEIGHBOUR: 'it returns false'. Refute it at one input. -/
def bitvecOnesWrong : ChangeSpec := { name := "bitvecOnes", fn := fun _ => fun
  | [d1, d2, d3] => { results := [.lit (.bool false)], args := [d1, d2, d3] }
  | _ => none }
def BitvecOnesWrongFalsely : Prop := bitvecOnesRow.holds Tryd.pinned (OpenSpec.ofChange bitvecOnesWrong)

/-- 'ullagelaw11.BitvecPlays': WHATEVER THE INPUT: true; the input reads as it did. -/
def bitvecPlaysSpec : ChangeSpec := { name := "bitvecPlays", fn := fun _ => fun
  | [d1, d2] => { results := [.lit (.bool true)], args := [d1, d2] }
  | _ => none }
def bitvecPlaysRow : OpenClaim := { program := "ytlbbkpjfoabobaadoor", sum := "6028cb868f807e4956ebfdf13bbda3963a276c12f2a07098c0ce12402cee3c37", func := "ullage/ullagelaw11.BitvecPlays", spec := "bitvecPlays", unfollowed := true, recurses := true, named := ["math/bits.deBruijn64tab"], apart := false, laid := [("math/bits.deBruijn64tab", laid_math_bits_deBruijn64tab)] }
def BitvecPlaysSaid : Prop := bitvecPlaysRow.holds Tryd.pinned (OpenSpec.ofChange bitvecPlaysSpec)

/-- ITS FALSE NEIGHBOUR: 'it returns false'. Refute it at one input. -/
def bitvecPlaysWrong : ChangeSpec := { name := "bitvecPlays", fn := fun _ => fun
  | [d1, d2] => { results := [.lit (.bool false)], args := [d1, d2] }
  | _ => none }
def BitvecPlaysWrongFalsely : Prop := bitvecPlaysRow.holds Tryd.pinned (OpenSpec.ofChange bitvecPlaysWrong)

/-- 'ullagelaw12.RankBack': WHATEVER THE INPUT: true; the input reads as it did. -/
def rankBackSpec : ChangeSpec := { name := "rankBack", fn := fun _ => fun
  | [d1, d2] => { results := [.lit (.bool true)], args := [d1, d2] }
  | _ => none }
def rankBackRow : OpenClaim := { program := "ytlbbkpjfoabobaadoor", sum := "6028cb868f807e4956ebfdf13bbda3963a276c12f2a07098c0ce12402cee3c37", func := "ullage/ullagelaw12.RankBack", spec := "rankBack", unfollowed := true, recurses := true, named := ["math/bits.deBruijn64tab"], apart := false, laid := [("math/bits.deBruijn64tab", laid_math_bits_deBruijn64tab)] }
def RankBackSaid : Prop := rankBackRow.holds Tryd.pinned (OpenSpec.ofChange rankBackSpec)

/-- ITS FALSE NEIGHBOUR: 'it returns false'. Refute it at one input. -/
def rankBackWrong : ChangeSpec := { name := "rankBack", fn := fun _ => fun
  | [d1, d2] => { results := [.lit (.bool false)], args := [d1, d2] }
  | _ => none }
def RankBackWrongFalsely : Prop := rankBackRow.holds Tryd.pinned (OpenSpec.ofChange rankBackWrong)

/-- 'ullagelaw11.BitvecCopies': WHATEVER THE INPUT: true; the input reads as it did. -/
def bitvecCopiesSpec : ChangeSpec := { name := "bitvecCopies", fn := fun _ => fun
  | [d1, d2, d3] => { results := [.lit (.bool true)], args := [d1, d2, d3] }
  | _ => none }
def bitvecCopiesRow : OpenClaim := { program := "ytlbbkpjfoabobaadoor", sum := "6028cb868f807e4956ebfdf13bbda3963a276c12f2a07098c0ce12402cee3c37", func := "ullage/ullagelaw11.BitvecCopies", spec := "bitvecCopies", unfollowed := true, recurses := true, named := ["math/bits.deBruijn64tab"], apart := false, laid := [("math/bits.deBruijn64tab", laid_math_bits_deBruijn64tab)] }
def BitvecCopiesSaid : Prop := bitvecCopiesRow.holds Tryd.pinned (OpenSpec.ofChange bitvecCopiesSpec)

/-- ITS FALSE NEIGHBOUR: 'it returns false'. Refute it at one input. -/
def bitvecCopiesWrong : ChangeSpec := { name := "bitvecCopies", fn := fun _ => fun
  | [d1, d2, d3] => { results := [.lit (.bool false)], args := [d1, d2, d3] }
  | _ => none }
def BitvecCopiesWrongFalsely : Prop := bitvecCopiesRow.holds Tryd.pinned (OpenSpec.ofChange bitvecCopiesWrong)

/-- 'ullagelaw13.ExtentAdds': WHATEVER THE INPUT: true; the input reads as it did. -/
def extentAddsSpec : ChangeSpec := { name := "extentAdds", fn := fun _ => fun
  | [d1, d2, d3] => { results := [.lit (.bool true)], args := [d1, d2, d3] }
  | _ => none }
def extentAddsRow : OpenClaim := { program := "ytlbbkpjfoabobaadoor", sum := "6028cb868f807e4956ebfdf13bbda3963a276c12f2a07098c0ce12402cee3c37", func := "ullage/ullagelaw13.ExtentAdds", spec := "extentAdds", unfollowed := true, recurses := true, named := ["math/bits.deBruijn64tab"], apart := false, laid := [("math/bits.deBruijn64tab", laid_math_bits_deBruijn64tab)] }
def ExtentAddsSaid : Prop := extentAddsRow.holds Tryd.pinned (OpenSpec.ofChange extentAddsSpec)

/-- ITS FALSE NEIGHBOUR: 'it returns false'. Refute it at one input. -/
def extentAddsWrong : ChangeSpec := { name := "extentAdds", fn := fun _ => fun
  | [d1, d2, d3] => { results := [.lit (.bool false)], args := [d1, d2, d3] }
  | _ => none }
def ExtentAddsWrongFalsely : Prop := extentAddsRow.holds Tryd.pinned (OpenSpec.ofChange extentAddsWrong)

/-- 'ullagelaw12.RankTells': WHATEVER THE INPUT: true; the input reads as it did. -/
def rankTellsSpec : ChangeSpec := { name := "rankTells", fn := fun _ => fun
  | [d1, d2, d3] => { results := [.lit (.bool true)], args := [d1, d2, d3] }
  | _ => none }
def rankTellsRow : OpenClaim := { program := "ytlbbkpjfoabobaadoor", sum := "6028cb868f807e4956ebfdf13bbda3963a276c12f2a07098c0ce12402cee3c37", func := "ullage/ullagelaw12.RankTells", spec := "rankTells", unfollowed := true, recurses := true, named := ["math/bits.deBruijn64tab"], apart := false, laid := [("math/bits.deBruijn64tab", laid_math_bits_deBruijn64tab)] }
def RankTellsSaid : Prop := rankTellsRow.holds Tryd.pinned (OpenSpec.ofChange rankTellsSpec)

/-- ITS FALSE NEIGHBOUR: 'it returns false'. Refute it at one input. -/
def rankTellsWrong : ChangeSpec := { name := "rankTells", fn := fun _ => fun
  | [d1, d2, d3] => { results := [.lit (.bool false)], args := [d1, d2, d3] }
  | _ => none }
def RankTellsWrongFalsely : Prop := rankTellsRow.holds Tryd.pinned (OpenSpec.ofChange rankTellsWrong)

/-- 'ullagelaw12.RankNobody': WHATEVER THE INPUT: true; the input reads as it did. -/
def rankNobodySpec : ChangeSpec := { name := "rankNobody", fn := fun _ => fun
  | [d1, d2] => { results := [.lit (.bool true)], args := [d1, d2] }
  | _ => none }
def rankNobodyRow : OpenClaim := { program := "ytlbbkpjfoabobaadoor", sum := "6028cb868f807e4956ebfdf13bbda3963a276c12f2a07098c0ce12402cee3c37", func := "ullage/ullagelaw12.RankNobody", spec := "rankNobody", unfollowed := true, recurses := true, named := ["math/bits.deBruijn64tab"], apart := false, laid := [("math/bits.deBruijn64tab", laid_math_bits_deBruijn64tab)] }
def RankNobodySaid : Prop := rankNobodyRow.holds Tryd.pinned (OpenSpec.ofChange rankNobodySpec)

/-- ITS FALSE NEIGHBOUR: 'it returns false'. Refute it at one input. -/
def rankNobodyWrong : ChangeSpec := { name := "rankNobody", fn := fun _ => fun
  | [d1, d2] => { results := [.lit (.bool false)], args := [d1, d2] }
  | _ => none }
def RankNobodyWrongFalsely : Prop := rankNobodyRow.holds Tryd.pinned (OpenSpec.ofChange rankNobodyWrong)

/-- 'ullagelaw11.BitvecNobody': WHATEVER THE INPUT: true; the input reads as it did. -/
def bitvecNobodySpec : ChangeSpec := { name := "bitvecNobody", fn := fun _ => fun
  | [d1, d2] => { results := [.lit (.bool true)], args := [d1, d2] }
  | _ => none }
def bitvecNobodyRow : OpenClaim := { program := "ytlbbkpjfoabobaadoor", sum := "6028cb868f807e4956ebfdf13bbda3963a276c12f2a07098c0ce12402cee3c37", func := "ullage/ullagelaw11.BitvecNobody", spec := "bitvecNobody", unfollowed := true, recurses := true, named := ["math/bits.deBruijn64tab"], apart := false, laid := [("math/bits.deBruijn64tab", laid_math_bits_deBruijn64tab)] }
def BitvecNobodySaid : Prop := bitvecNobodyRow.holds Tryd.pinned (OpenSpec.ofChange bitvecNobodySpec)

/-- ITS FALSE NEIGHBOUR: 'it returns false'. Refute it at one input. -/
def bitvecNobodyWrong : ChangeSpec := { name := "bitvecNobody", fn := fun _ => fun
  | [d1, d2] => { results := [.lit (.bool false)], args := [d1, d2] }
  | _ => none }
def BitvecNobodyWrongFalsely : Prop := bitvecNobodyRow.holds Tryd.pinned (OpenSpec.ofChange bitvecNobodyWrong)

/-- 'ullagelaw13.ExtentPlays': WHATEVER THE INPUT: true; the input reads as it did. -/
def extentPlaysSpec : ChangeSpec := { name := "extentPlays", fn := fun _ => fun
  | [d1, d2] => { results := [.lit (.bool true)], args := [d1, d2] }
  | _ => none }
def extentPlaysRow : OpenClaim := { program := "ytlbbkpjfoabobaadoor", sum := "6028cb868f807e4956ebfdf13bbda3963a276c12f2a07098c0ce12402cee3c37", func := "ullage/ullagelaw13.ExtentPlays", spec := "extentPlays", unfollowed := true, recurses := true, named := ["math/bits.deBruijn64tab"], apart := false, laid := [("math/bits.deBruijn64tab", laid_math_bits_deBruijn64tab)] }
def ExtentPlaysSaid : Prop := extentPlaysRow.holds Tryd.pinned (OpenSpec.ofChange extentPlaysSpec)

/-- ITS FALSE NEIGHBOUR: 'it returns false'. Refute it at one input. -/
def extentPlaysWrong : ChangeSpec := { name := "extentPlays", fn := fun _ => fun
  | [d1, d2] => { results := [.lit (.bool false)], args := [d1, d2] }
  | _ => none }
def ExtentPlaysWrongFalsely : Prop := extentPlaysRow.holds Tryd.pinned (OpenSpec.ofChange extentPlaysWrong)

/-- 'ullagelaw13.ExtentNobody': WHATEVER THE INPUT: true; the input reads as it did. -/
def extentNobodySpec : ChangeSpec := { name := "extentNobody", fn := fun _ => fun
  | [d1, d2] => { results := [.lit (.bool true)], args := [d1, d2] }
  | _ => none }
def extentNobodyRow : OpenClaim := { program := "ytlbbkpjfoabobaadoor", sum := "6028cb868f807e4956ebfdf13bbda3963a276c12f2a07098c0ce12402cee3c37", func := "ullage/ullagelaw13.ExtentNobody", spec := "extentNobody", unfollowed := true, recurses := true, named := ["math/bits.deBruijn64tab"], apart := false, laid := [("math/bits.deBruijn64tab", laid_math_bits_deBruijn64tab)] }
def ExtentNobodySaid : Prop := extentNobodyRow.holds Tryd.pinned (OpenSpec.ofChange extentNobodySpec)

/-- ITS FALSE NEIGHBOUR: 'it returns false'. Refute it at one input. -/
def extentNobodyWrong : ChangeSpec := { name := "extentNobody", fn := fun _ => fun
  | [d1, d2] => { results := [.lit (.bool false)], args := [d1, d2] }
  | _ => none }
def ExtentNobodyWrongFalsely : Prop := extentNobodyRow.holds Tryd.pinned (OpenSpec.ofChange extentNobodyWrong)

/-- 'ullagelaw21.OfftabRises': WHATEVER THE INPUT: true; the input reads as it did. -/
def offtabRisesSpec : ChangeSpec := { name := "offtabRises", fn := fun _ => fun
  | [d1, d2] => { results := [.lit (.bool true)], args := [d1, d2] }
  | _ => none }
def offtabRisesRow : OpenClaim := { program := "ytlbbkpjfoabobaadoor", sum := "6028cb868f807e4956ebfdf13bbda3963a276c12f2a07098c0ce12402cee3c37", func := "ullage/ullagelaw21.OfftabRises", spec := "offtabRises", unfollowed := true, recurses := true, named := ["math/bits.deBruijn64tab"], apart := false, laid := [("math/bits.deBruijn64tab", laid_math_bits_deBruijn64tab)] }
def OfftabRisesSaid : Prop := offtabRisesRow.holds Tryd.pinned (OpenSpec.ofChange offtabRisesSpec)

/-- ITS FALSE NEIGHBOUR: 'it returns false'. Refute it at one input. -/
def offtabRisesWrong : ChangeSpec := { name := "offtabRises", fn := fun _ => fun
  | [d1, d2] => { results := [.lit (.bool false)], args := [d1, d2] }
  | _ => none }
def OfftabRisesWrongFalsely : Prop := offtabRisesRow.holds Tryd.pinned (OpenSpec.ofChange offtabRisesWrong)

/- THE SECOND FORM. 'bulk': how many values and letters a reading holds, each counted each time it is reached (what is shared counts as often as it is met; a slice's spare places count too). A statement '..UptoSaid' is the law's where the arguments, and the package variables that the reading takes, are together of bulk at most 1048576: NARROWER than '..Said'. Prove '..Said' where nothing that the law and all that it calls make is longer than what came in: it says more and counts as full. Else prove '..UptoSaid'. A law counts once. -/
mutual
def uptoBulk {H : Type} : DataW H → Nat
  | .lit (.string bytes) => bytes.length + 1
  | .lit _ => 1
  | .nil => 1
  | .ptr d => uptoBulk d + 1
  | .slice elems spare => uptoBulkAll elems + uptoBulkAll spare + 1
  | .agg parts => uptoBulkAll parts + 1
  | .iface _ d => uptoBulk d + 1
  | .map entries => uptoBulkEntries entries + 1
  | .held _ => 1
def uptoBulkAll {H : Type} : List (DataW H) → Nat
  | [] => 0
  | d :: r => uptoBulk d + uptoBulkAll r
def uptoBulkEntries {H : Type} : List (Lit × DataW H) → Nat
  | [] => 0
  | x :: r => uptoBulkEntry x + uptoBulkEntries r
def uptoBulkEntry {H : Type} : Lit × DataW H → Nat
  | (.string bytes, d) => bytes.length + uptoBulk d + 1
  | (_, d) => uptoBulk d + 1
 end
def uptoSmall : (H : Type) → List (DataW H) → Bool := fun _ ds => decide (uptoBulkAll ds ≤ 1048576)
def OpenSpec.upto (s : _root_.Go.ChangeSpec) : _root_.Go.OpenSpec := { _root_.Go.OpenSpec.ofChange s with cond := some uptoSmall }

/-- 'ullagelaw11.BitvecAdds', WHERE WHAT IT READS IS OF BULK AT MOST 1048576: true; the input reads as it did. -/
def bitvecAddsUptoRow : OpenClaim := { program := "ytlbbkpjfoabobaadoor", sum := "6028cb868f807e4956ebfdf13bbda3963a276c12f2a07098c0ce12402cee3c37", func := "ullage/ullagelaw11.BitvecAdds", spec := "bitvecAdds", unfollowed := true, recurses := true, named := ["math/bits.deBruijn64tab"], apart := false, laid := [("math/bits.deBruijn64tab", laid_math_bits_deBruijn64tab)], narrowed := true }
def BitvecAddsUptoSaid : Prop := bitvecAddsUptoRow.holds Tryd.pinned (OpenSpec.upto bitvecAddsSpec)

/-- 'ullagelaw11.BitvecOnes', WHERE WHAT IT READS IS OF BULK AT MOST 1048576: true; the input reads as it did. -/
def bitvecOnesUptoRow : OpenClaim := { program := "ytlbbkpjfoabobaadoor", sum := "6028cb868f807e4956ebfdf13bbda3963a276c12f2a07098c0ce12402cee3c37", func := "ullage/ullagelaw11.BitvecOnes", spec := "bitvecOnes", unfollowed := true, recurses := true, named := ["math/bits.deBruijn64tab"], apart := false, laid := [("math/bits.deBruijn64tab", laid_math_bits_deBruijn64tab)], narrowed := true }
def BitvecOnesUptoSaid : Prop := bitvecOnesUptoRow.holds Tryd.pinned (OpenSpec.upto bitvecOnesSpec)

/-- 'ullagelaw11.BitvecPlays', WHERE WHAT IT READS IS OF BULK AT MOST 1048576: true; the input reads as it did. -/
def bitvecPlaysUptoRow : OpenClaim := { program := "ytlbbkpjfoabobaadoor", sum := "6028cb868f807e4956ebfdf13bbda3963a276c12f2a07098c0ce12402cee3c37", func := "ullage/ullagelaw11.BitvecPlays", spec := "bitvecPlays", unfollowed := true, recurses := true, named := ["math/bits.deBruijn64tab"], apart := false, laid := [("math/bits.deBruijn64tab", laid_math_bits_deBruijn64tab)], narrowed := true }
def BitvecPlaysUptoSaid : Prop := bitvecPlaysUptoRow.holds Tryd.pinned (OpenSpec.upto bitvecPlaysSpec)

/-- 'ullagelaw12.RankBack', WHERE WHAT IT READS IS OF BULK AT MOST 1048576: true; the input reads as it did. -/
def rankBackUptoRow : OpenClaim := { program := "ytlbbkpjfoabobaadoor", sum := "6028cb868f807e4956ebfdf13bbda3963a276c12f2a07098c0ce12402cee3c37", func := "ullage/ullagelaw12.RankBack", spec := "rankBack", unfollowed := true, recurses := true, named := ["math/bits.deBruijn64tab"], apart := false, laid := [("math/bits.deBruijn64tab", laid_math_bits_deBruijn64tab)], narrowed := true }
def RankBackUptoSaid : Prop := rankBackUptoRow.holds Tryd.pinned (OpenSpec.upto rankBackSpec)

/-- 'ullagelaw11.BitvecCopies', WHERE WHAT IT READS IS OF BULK AT MOST 1048576: true; the input reads as it did. -/
def bitvecCopiesUptoRow : OpenClaim := { program := "ytlbbkpjfoabobaadoor", sum := "6028cb868f807e4956ebfdf13bbda3963a276c12f2a07098c0ce12402cee3c37", func := "ullage/ullagelaw11.BitvecCopies", spec := "bitvecCopies", unfollowed := true, recurses := true, named := ["math/bits.deBruijn64tab"], apart := false, laid := [("math/bits.deBruijn64tab", laid_math_bits_deBruijn64tab)], narrowed := true }
def BitvecCopiesUptoSaid : Prop := bitvecCopiesUptoRow.holds Tryd.pinned (OpenSpec.upto bitvecCopiesSpec)

/-- 'ullagelaw13.ExtentAdds', WHERE WHAT IT READS IS OF BULK AT MOST 1048576: true; the input reads as it did. -/
def extentAddsUptoRow : OpenClaim := { program := "ytlbbkpjfoabobaadoor", sum := "6028cb868f807e4956ebfdf13bbda3963a276c12f2a07098c0ce12402cee3c37", func := "ullage/ullagelaw13.ExtentAdds", spec := "extentAdds", unfollowed := true, recurses := true, named := ["math/bits.deBruijn64tab"], apart := false, laid := [("math/bits.deBruijn64tab", laid_math_bits_deBruijn64tab)], narrowed := true }
def ExtentAddsUptoSaid : Prop := extentAddsUptoRow.holds Tryd.pinned (OpenSpec.upto extentAddsSpec)

/-- 'ullagelaw12.RankTells', WHERE WHAT IT READS IS OF BULK AT MOST 1048576: true; the input reads as it did. -/
def rankTellsUptoRow : OpenClaim := { program := "ytlbbkpjfoabobaadoor", sum := "6028cb868f807e4956ebfdf13bbda3963a276c12f2a07098c0ce12402cee3c37", func := "ullage/ullagelaw12.RankTells", spec := "rankTells", unfollowed := true, recurses := true, named := ["math/bits.deBruijn64tab"], apart := false, laid := [("math/bits.deBruijn64tab", laid_math_bits_deBruijn64tab)], narrowed := true }
def RankTellsUptoSaid : Prop := rankTellsUptoRow.holds Tryd.pinned (OpenSpec.upto rankTellsSpec)

/-- 'ullagelaw12.RankNobody', WHERE WHAT IT READS IS OF BULK AT MOST 1048576: true; the input reads as it did. -/
def rankNobodyUptoRow : OpenClaim := { program := "ytlbbkpjfoabobaadoor", sum := "6028cb868f807e4956ebfdf13bbda3963a276c12f2a07098c0ce12402cee3c37", func := "ullage/ullagelaw12.RankNobody", spec := "rankNobody", unfollowed := true, recurses := true, named := ["math/bits.deBruijn64tab"], apart := false, laid := [("math/bits.deBruijn64tab", laid_math_bits_deBruijn64tab)], narrowed := true }
def RankNobodyUptoSaid : Prop := rankNobodyUptoRow.holds Tryd.pinned (OpenSpec.upto rankNobodySpec)

/-- 'ullagelaw11.BitvecNobody', WHERE WHAT IT READS IS OF BULK AT MOST 1048576: true; the input reads as it did. -/
def bitvecNobodyUptoRow : OpenClaim := { program := "ytlbbkpjfoabobaadoor", sum := "6028cb868f807e4956ebfdf13bbda3963a276c12f2a07098c0ce12402cee3c37", func := "ullage/ullagelaw11.BitvecNobody", spec := "bitvecNobody", unfollowed := true, recurses := true, named := ["math/bits.deBruijn64tab"], apart := false, laid := [("math/bits.deBruijn64tab", laid_math_bits_deBruijn64tab)], narrowed := true }
def BitvecNobodyUptoSaid : Prop := bitvecNobodyUptoRow.holds Tryd.pinned (OpenSpec.upto bitvecNobodySpec)

/-- 'ullagelaw13.ExtentPlays', WHERE WHAT IT READS IS OF BULK AT MOST 1048576: true; the input reads as it did. -/
def extentPlaysUptoRow : OpenClaim := { program := "ytlbbkpjfoabobaadoor", sum := "6028cb868f807e4956ebfdf13bbda3963a276c12f2a07098c0ce12402cee3c37", func := "ullage/ullagelaw13.ExtentPlays", spec := "extentPlays", unfollowed := true, recurses := true, named := ["math/bits.deBruijn64tab"], apart := false, laid := [("math/bits.deBruijn64tab", laid_math_bits_deBruijn64tab)], narrowed := true }
def ExtentPlaysUptoSaid : Prop := extentPlaysUptoRow.holds Tryd.pinned (OpenSpec.upto extentPlaysSpec)

/-- 'ullagelaw13.ExtentNobody', WHERE WHAT IT READS IS OF BULK AT MOST 1048576: true; the input reads as it did. -/
def extentNobodyUptoRow : OpenClaim := { program := "ytlbbkpjfoabobaadoor", sum := "6028cb868f807e4956ebfdf13bbda3963a276c12f2a07098c0ce12402cee3c37", func := "ullage/ullagelaw13.ExtentNobody", spec := "extentNobody", unfollowed := true, recurses := true, named := ["math/bits.deBruijn64tab"], apart := false, laid := [("math/bits.deBruijn64tab", laid_math_bits_deBruijn64tab)], narrowed := true }
def ExtentNobodyUptoSaid : Prop := extentNobodyUptoRow.holds Tryd.pinned (OpenSpec.upto extentNobodySpec)

/-- 'ullagelaw21.OfftabRises', WHERE WHAT IT READS IS OF BULK AT MOST 1048576: true; the input reads as it did. -/
def offtabRisesUptoRow : OpenClaim := { program := "ytlbbkpjfoabobaadoor", sum := "6028cb868f807e4956ebfdf13bbda3963a276c12f2a07098c0ce12402cee3c37", func := "ullage/ullagelaw21.OfftabRises", spec := "offtabRises", unfollowed := true, recurses := true, named := ["math/bits.deBruijn64tab"], apart := false, laid := [("math/bits.deBruijn64tab", laid_math_bits_deBruijn64tab)], narrowed := true }
def OfftabRisesUptoSaid : Prop := offtabRisesUptoRow.holds Tryd.pinned (OpenSpec.upto offtabRisesSpec)

end Rows
end Go.Proofs.YtlbbkpjfoabobaaDoor
