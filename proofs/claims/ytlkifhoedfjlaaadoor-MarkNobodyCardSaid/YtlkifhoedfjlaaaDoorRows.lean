/-
  NARROWER THAN 'FOR EVERY INPUT', by the rows' own cells (each row's printed sentence says how): OfftabNobody: laid · ForwardSums: laid · OfftabTells: laid · ForwardNobody: laid · ForwardTells: laid · PlanCovers: laid · PlanTells: laid · PlanNobody: laid · MarkNobody: laid.
  DERIVED. THE GIVEN ROWS OF THIS SEAT. 9 by the template 'for every input the law returns true; each argument reads behind the call as it read before'; 0 by the template 'total and deterministic' (their statements: YtlkifhoedfjlaaaDoorTotals.lean).
  GIVEN WITH THE SEED: the statements are not yours to turn. If you find one false, say at which input.
  Laid BY PROGRAM, IN A SANDBOX (cutbox-rows.mjs): the forced cells as the released guide's own fill.sh prints them over the translation bcbbc970ca6368cf… (all of the seat's roots in one cut). By AI agents, Wed Nov 11 2026. No macro, syntax, notation, axiom, sorry.
-/
import Derived.Test.YtlkifhoedfjlaaaDoorChecked
import GoSem.Claim
import GoSem.ClaimJoined
import GoSem.ClaimMapViews
import Derived.JoinedTies
import Derived.KernelRfl
namespace Go.Proofs.YtlkifhoedfjlaaaDoor
/- THE CELL 'sum', in the pinned program and in every row, IS THE sha256 OF THE DUMP (.gsa) THAT YtlkifhoedfjlaaaDoorProg.lean LOADS. Nothing in Lean hashes anything: it is a label: what it is worth is what the hold of that sum in a sandbox is worth. -/
noncomputable def Tryd.pinned : Pinned := { name := "ytlkifhoedfjlaaadoor", sum := "bcbbc970ca6368cf382900cb66787b0798af7395e5b912c923b2b91a31002b81", checked := Tryd.checked }
namespace Rows
def none {H : Type} : Left H := { results := [], args := [] }

/- WHAT THE LISTED PACKAGE-LEVEL VARIABLES READ AS WHEN THE CALL BEGINS. Each datum BY PROGRAM (the guide's laid-datum.mjs) off the statement by which the dump's own 'gosem.cut.vars' lays the variable. In a bare row this is a premise. The card (YtlkifhoedfjlaaaDoorCards.lean) ties it to the program's text. -/
def laid_math_bits_deBruijn64tab {H : Type} : DataW H := .agg [.lit (.int .u8 0), .lit (.int .u8 1), .lit (.int .u8 56), .lit (.int .u8 2), .lit (.int .u8 57), .lit (.int .u8 49), .lit (.int .u8 28), .lit (.int .u8 3), .lit (.int .u8 61), .lit (.int .u8 58), .lit (.int .u8 42), .lit (.int .u8 50), .lit (.int .u8 38), .lit (.int .u8 29), .lit (.int .u8 17), .lit (.int .u8 4), .lit (.int .u8 62), .lit (.int .u8 47), .lit (.int .u8 59), .lit (.int .u8 36), .lit (.int .u8 45), .lit (.int .u8 43), .lit (.int .u8 51), .lit (.int .u8 22), .lit (.int .u8 53), .lit (.int .u8 39), .lit (.int .u8 33), .lit (.int .u8 30), .lit (.int .u8 24), .lit (.int .u8 18), .lit (.int .u8 12), .lit (.int .u8 5), .lit (.int .u8 63), .lit (.int .u8 55), .lit (.int .u8 48), .lit (.int .u8 27), .lit (.int .u8 60), .lit (.int .u8 41), .lit (.int .u8 37), .lit (.int .u8 16), .lit (.int .u8 46), .lit (.int .u8 35), .lit (.int .u8 44), .lit (.int .u8 21), .lit (.int .u8 52), .lit (.int .u8 32), .lit (.int .u8 23), .lit (.int .u8 11), .lit (.int .u8 54), .lit (.int .u8 26), .lit (.int .u8 40), .lit (.int .u8 15), .lit (.int .u8 34), .lit (.int .u8 20), .lit (.int .u8 31), .lit (.int .u8 10), .lit (.int .u8 25), .lit (.int .u8 14), .lit (.int .u8 19), .lit (.int .u8 9), .lit (.int .u8 13), .lit (.int .u8 8), .lit (.int .u8 7), .lit (.int .u8 6)]

/-- 'ullagelaw21.OfftabNobody': WHATEVER THE INPUT: true; the input reads as it did. -/
def offtabNobodySpec : ChangeSpec := { name := "offtabNobody", fn := fun _ => fun
  | [d1, d2] => { results := [.lit (.bool true)], args := [d1, d2] }
  | _ => none }
def offtabNobodyRow : OpenClaim := { program := "ytlkifhoedfjlaaadoor", sum := "bcbbc970ca6368cf382900cb66787b0798af7395e5b912c923b2b91a31002b81", func := "ullage/ullagelaw21.OfftabNobody", spec := "offtabNobody", unfollowed := true, recurses := true, named := ["math/bits.deBruijn64tab"], apart := false, laid := [("math/bits.deBruijn64tab", laid_math_bits_deBruijn64tab)] }
def OfftabNobodySaid : Prop := offtabNobodyRow.holds Tryd.pinned (OpenSpec.ofChange offtabNobodySpec)

/-- ITS FALSE NEIGHBOUR: 'it returns false'. Refute it at one input. -/
def offtabNobodyWrong : ChangeSpec := { name := "offtabNobody", fn := fun _ => fun
  | [d1, d2] => { results := [.lit (.bool false)], args := [d1, d2] }
  | _ => none }
def OfftabNobodyWrongFalsely : Prop := offtabNobodyRow.holds Tryd.pinned (OpenSpec.ofChange offtabNobodyWrong)

/-- 'ullagelaw22.ForwardSums': WHATEVER THE INPUT: true; the input reads as it did. -/
def forwardSumsSpec : ChangeSpec := { name := "forwardSums", fn := fun _ => fun
  | [d1, d2, d3] => { results := [.lit (.bool true)], args := [d1, d2, d3] }
  | _ => none }
def forwardSumsRow : OpenClaim := { program := "ytlkifhoedfjlaaadoor", sum := "bcbbc970ca6368cf382900cb66787b0798af7395e5b912c923b2b91a31002b81", func := "ullage/ullagelaw22.ForwardSums", spec := "forwardSums", unfollowed := true, recurses := true, named := ["math/bits.deBruijn64tab"], apart := false, laid := [("math/bits.deBruijn64tab", laid_math_bits_deBruijn64tab)] }
def ForwardSumsSaid : Prop := forwardSumsRow.holds Tryd.pinned (OpenSpec.ofChange forwardSumsSpec)

/-- ITS FALSE NEIGHBOUR: 'it returns false'. Refute it at one input. -/
def forwardSumsWrong : ChangeSpec := { name := "forwardSums", fn := fun _ => fun
  | [d1, d2, d3] => { results := [.lit (.bool false)], args := [d1, d2, d3] }
  | _ => none }
def ForwardSumsWrongFalsely : Prop := forwardSumsRow.holds Tryd.pinned (OpenSpec.ofChange forwardSumsWrong)

/-- 'ullagelaw21.OfftabTells': WHATEVER THE INPUT: true; the input reads as it did. -/
def offtabTellsSpec : ChangeSpec := { name := "offtabTells", fn := fun _ => fun
  | [d1, d2, d3] => { results := [.lit (.bool true)], args := [d1, d2, d3] }
  | _ => none }
def offtabTellsRow : OpenClaim := { program := "ytlkifhoedfjlaaadoor", sum := "bcbbc970ca6368cf382900cb66787b0798af7395e5b912c923b2b91a31002b81", func := "ullage/ullagelaw21.OfftabTells", spec := "offtabTells", unfollowed := true, recurses := true, named := ["math/bits.deBruijn64tab"], apart := false, laid := [("math/bits.deBruijn64tab", laid_math_bits_deBruijn64tab)] }
def OfftabTellsSaid : Prop := offtabTellsRow.holds Tryd.pinned (OpenSpec.ofChange offtabTellsSpec)

/-- ITS FALSE NEIGHBOUR: 'it returns false'. Refute it at one input. -/
def offtabTellsWrong : ChangeSpec := { name := "offtabTells", fn := fun _ => fun
  | [d1, d2, d3] => { results := [.lit (.bool false)], args := [d1, d2, d3] }
  | _ => none }
def OfftabTellsWrongFalsely : Prop := offtabTellsRow.holds Tryd.pinned (OpenSpec.ofChange offtabTellsWrong)

/-- 'ullagelaw22.ForwardNobody': WHATEVER THE INPUT: true; the input reads as it did. -/
def forwardNobodySpec : ChangeSpec := { name := "forwardNobody", fn := fun _ => fun
  | [d1, d2] => { results := [.lit (.bool true)], args := [d1, d2] }
  | _ => none }
def forwardNobodyRow : OpenClaim := { program := "ytlkifhoedfjlaaadoor", sum := "bcbbc970ca6368cf382900cb66787b0798af7395e5b912c923b2b91a31002b81", func := "ullage/ullagelaw22.ForwardNobody", spec := "forwardNobody", unfollowed := true, recurses := true, named := ["math/bits.deBruijn64tab"], apart := false, laid := [("math/bits.deBruijn64tab", laid_math_bits_deBruijn64tab)] }
def ForwardNobodySaid : Prop := forwardNobodyRow.holds Tryd.pinned (OpenSpec.ofChange forwardNobodySpec)

/-- ITS FALSE NEIGHBOUR: 'it returns false'. Refute it at one input. -/
def forwardNobodyWrong : ChangeSpec := { name := "forwardNobody", fn := fun _ => fun
  | [d1, d2] => { results := [.lit (.bool false)], args := [d1, d2] }
  | _ => none }
def ForwardNobodyWrongFalsely : Prop := forwardNobodyRow.holds Tryd.pinned (OpenSpec.ofChange forwardNobodyWrong)

/-- 'ullagelaw22.ForwardTells': WHATEVER THE INPUT: true; the input reads as it did. -/
def forwardTellsSpec : ChangeSpec := { name := "forwardTells", fn := fun _ => fun
  | [d1, d2, d3] => { results := [.lit (.bool true)], args := [d1, d2, d3] }
  | _ => none }
def forwardTellsRow : OpenClaim := { program := "ytlkifhoedfjlaaadoor", sum := "bcbbc970ca6368cf382900cb66787b0798af7395e5b912c923b2b91a31002b81", func := "ullage/ullagelaw22.ForwardTells", spec := "forwardTells", unfollowed := true, recurses := true, named := ["math/bits.deBruijn64tab"], apart := false, laid := [("math/bits.deBruijn64tab", laid_math_bits_deBruijn64tab)] }
def ForwardTellsSaid : Prop := forwardTellsRow.holds Tryd.pinned (OpenSpec.ofChange forwardTellsSpec)

/-- ITS FALSE NEIGHBOUR: 'it returns false'. Refute it at one input. -/
def forwardTellsWrong : ChangeSpec := { name := "forwardTells", fn := fun _ => fun
  | [d1, d2, d3] => { results := [.lit (.bool false)], args := [d1, d2, d3] }
  | _ => none }
def ForwardTellsWrongFalsely : Prop := forwardTellsRow.holds Tryd.pinned (OpenSpec.ofChange forwardTellsWrong)

/-- 'ullagelaw23.PlanCovers': WHATEVER THE INPUT: true; the input reads as it did. -/
def planCoversSpec : ChangeSpec := { name := "planCovers", fn := fun _ => fun
  | [d1, d2, d3] => { results := [.lit (.bool true)], args := [d1, d2, d3] }
  | _ => none }
def planCoversRow : OpenClaim := { program := "ytlkifhoedfjlaaadoor", sum := "bcbbc970ca6368cf382900cb66787b0798af7395e5b912c923b2b91a31002b81", func := "ullage/ullagelaw23.PlanCovers", spec := "planCovers", unfollowed := true, recurses := true, named := ["math/bits.deBruijn64tab"], apart := false, laid := [("math/bits.deBruijn64tab", laid_math_bits_deBruijn64tab)] }
def PlanCoversSaid : Prop := planCoversRow.holds Tryd.pinned (OpenSpec.ofChange planCoversSpec)

/-- ITS FALSE NEIGHBOUR: 'it returns false'. Refute it at one input. -/
def planCoversWrong : ChangeSpec := { name := "planCovers", fn := fun _ => fun
  | [d1, d2, d3] => { results := [.lit (.bool false)], args := [d1, d2, d3] }
  | _ => none }
def PlanCoversWrongFalsely : Prop := planCoversRow.holds Tryd.pinned (OpenSpec.ofChange planCoversWrong)

/-- 'ullagelaw23.PlanTells': WHATEVER THE INPUT: true; the input reads as it did. -/
def planTellsSpec : ChangeSpec := { name := "planTells", fn := fun _ => fun
  | [d1, d2, d3] => { results := [.lit (.bool true)], args := [d1, d2, d3] }
  | _ => none }
def planTellsRow : OpenClaim := { program := "ytlkifhoedfjlaaadoor", sum := "bcbbc970ca6368cf382900cb66787b0798af7395e5b912c923b2b91a31002b81", func := "ullage/ullagelaw23.PlanTells", spec := "planTells", unfollowed := true, recurses := true, named := ["math/bits.deBruijn64tab"], apart := false, laid := [("math/bits.deBruijn64tab", laid_math_bits_deBruijn64tab)] }
def PlanTellsSaid : Prop := planTellsRow.holds Tryd.pinned (OpenSpec.ofChange planTellsSpec)

/-- ITS FALSE NEIGHBOUR: 'it returns false'. Refute it at one input. -/
def planTellsWrong : ChangeSpec := { name := "planTells", fn := fun _ => fun
  | [d1, d2, d3] => { results := [.lit (.bool false)], args := [d1, d2, d3] }
  | _ => none }
def PlanTellsWrongFalsely : Prop := planTellsRow.holds Tryd.pinned (OpenSpec.ofChange planTellsWrong)

/-- 'ullagelaw23.PlanNobody': WHATEVER THE INPUT: true; the input reads as it did. -/
def planNobodySpec : ChangeSpec := { name := "planNobody", fn := fun _ => fun
  | [d1, d2] => { results := [.lit (.bool true)], args := [d1, d2] }
  | _ => none }
def planNobodyRow : OpenClaim := { program := "ytlkifhoedfjlaaadoor", sum := "bcbbc970ca6368cf382900cb66787b0798af7395e5b912c923b2b91a31002b81", func := "ullage/ullagelaw23.PlanNobody", spec := "planNobody", unfollowed := true, recurses := true, named := ["math/bits.deBruijn64tab"], apart := false, laid := [("math/bits.deBruijn64tab", laid_math_bits_deBruijn64tab)] }
def PlanNobodySaid : Prop := planNobodyRow.holds Tryd.pinned (OpenSpec.ofChange planNobodySpec)

/-- ITS FALSE NEIGHBOUR: 'it returns false'. Refute it at one input. -/
def planNobodyWrong : ChangeSpec := { name := "planNobody", fn := fun _ => fun
  | [d1, d2] => { results := [.lit (.bool false)], args := [d1, d2] }
  | _ => none }
def PlanNobodyWrongFalsely : Prop := planNobodyRow.holds Tryd.pinned (OpenSpec.ofChange planNobodyWrong)

/-- 'ullagelaw20.MarkNobody': WHATEVER THE INPUT: true; the input reads as it did. -/
def markNobodySpec : ChangeSpec := { name := "markNobody", fn := fun _ => fun
  | [d1, d2] => { results := [.lit (.bool true)], args := [d1, d2] }
  | _ => none }
def markNobodyRow : OpenClaim := { program := "ytlkifhoedfjlaaadoor", sum := "bcbbc970ca6368cf382900cb66787b0798af7395e5b912c923b2b91a31002b81", func := "ullage/ullagelaw20.MarkNobody", spec := "markNobody", unfollowed := true, recurses := true, named := ["math/bits.deBruijn64tab"], apart := false, laid := [("math/bits.deBruijn64tab", laid_math_bits_deBruijn64tab)] }
def MarkNobodySaid : Prop := markNobodyRow.holds Tryd.pinned (OpenSpec.ofChange markNobodySpec)

/-- ITS FALSE NEIGHBOUR: 'it returns false'. Refute it at one input. -/
def markNobodyWrong : ChangeSpec := { name := "markNobody", fn := fun _ => fun
  | [d1, d2] => { results := [.lit (.bool false)], args := [d1, d2] }
  | _ => none }
def MarkNobodyWrongFalsely : Prop := markNobodyRow.holds Tryd.pinned (OpenSpec.ofChange markNobodyWrong)

/- THE SECOND FORM. 'bulk': how many values and letters a reading holds, each counted each time it is reached (what is shared counts as often as it is met; a slice's spare places count too). A statement '..UptoSaid' is the law's where the arguments, and the package variables that the reading takes, are together of bulk at most 1048576: NARROWER than '..Said'. Prove '..Said' where nothing that the law and all that it calls make is longer than what came in: it says more and counts as full. Else prove '..UptoSaid'. A law counts once. -/
mutual
def uptoBulk {H : Type} : DataW H → Nat
  | .lit (.string bytes) => bytes.length + 1
  | .lit _ => 1
  | .nil => 1
  | .ptr d => uptoBulk d + 1
  | .slice elems spare => uptoBulkAll elems + uptoBulkAll spare + 1
  | .agg parts => uptoBulkAll parts + 1
  | .iface _ d => uptoBulk d + 1
  | .map entries => uptoBulkEntries entries + 1
  | .held _ => 1
def uptoBulkAll {H : Type} : List (DataW H) → Nat
  | [] => 0
  | d :: r => uptoBulk d + uptoBulkAll r
def uptoBulkEntries {H : Type} : List (Lit × DataW H) → Nat
  | [] => 0
  | x :: r => uptoBulkEntry x + uptoBulkEntries r
def uptoBulkEntry {H : Type} : Lit × DataW H → Nat
  | (.string bytes, d) => bytes.length + uptoBulk d + 1
  | (_, d) => uptoBulk d + 1
 end
def uptoSmall : (H : Type) → List (DataW H) → Bool := fun _ ds => decide (uptoBulkAll ds ≤ 1048576)
def OpenSpec.upto (s : _root_.Go.ChangeSpec) : _root_.Go.OpenSpec := { _root_.Go.OpenSpec.ofChange s with cond := some uptoSmall }

/-- 'ullagelaw21.OfftabNobody', WHERE WHAT IT READS IS OF BULK AT MOST 1048576: true; the input reads as it did. -/
def offtabNobodyUptoRow : OpenClaim := { program := "ytlkifhoedfjlaaadoor", sum := "bcbbc970ca6368cf382900cb66787b0798af7395e5b912c923b2b91a31002b81", func := "ullage/ullagelaw21.OfftabNobody", spec := "offtabNobody", unfollowed := true, recurses := true, named := ["math/bits.deBruijn64tab"], apart := false, laid := [("math/bits.deBruijn64tab", laid_math_bits_deBruijn64tab)], narrowed := true }
def OfftabNobodyUptoSaid : Prop := offtabNobodyUptoRow.holds Tryd.pinned (OpenSpec.upto offtabNobodySpec)

/-- 'ullagelaw22.ForwardSums', WHERE WHAT IT READS IS OF BULK AT MOST 1048576: true; the input reads as it did. -/
def forwardSumsUptoRow : OpenClaim := { program := "ytlkifhoedfjlaaadoor", sum := "bcbbc970ca6368cf382900cb66787b0798af7395e5b912c923b2b91a31002b81", func := "ullage/ullagelaw22.ForwardSums", spec := "forwardSums", unfollowed := true, recurses := true, named := ["math/bits.deBruijn64tab"], apart := false, laid := [("math/bits.deBruijn64tab", laid_math_bits_deBruijn64tab)], narrowed := true }
def ForwardSumsUptoSaid : Prop := forwardSumsUptoRow.holds Tryd.pinned (OpenSpec.upto forwardSumsSpec)

/-- 'ullagelaw21.OfftabTells', WHERE WHAT IT READS IS OF BULK AT MOST 1048576: true; the input reads as it did. -/
def offtabTellsUptoRow : OpenClaim := { program := "ytlkifhoedfjlaaadoor", sum := "bcbbc970ca6368cf382900cb66787b0798af7395e5b912c923b2b91a31002b81", func := "ullage/ullagelaw21.OfftabTells", spec := "offtabTells", unfollowed := true, recurses := true, named := ["math/bits.deBruijn64tab"], apart := false, laid := [("math/bits.deBruijn64tab", laid_math_bits_deBruijn64tab)], narrowed := true }
def OfftabTellsUptoSaid : Prop := offtabTellsUptoRow.holds Tryd.pinned (OpenSpec.upto offtabTellsSpec)

/-- 'ullagelaw22.ForwardNobody', WHERE WHAT IT READS IS OF BULK AT MOST 1048576: true; the input reads as it did. -/
def forwardNobodyUptoRow : OpenClaim := { program := "ytlkifhoedfjlaaadoor", sum := "bcbbc970ca6368cf382900cb66787b0798af7395e5b912c923b2b91a31002b81", func := "ullage/ullagelaw22.ForwardNobody", spec := "forwardNobody", unfollowed := true, recurses := true, named := ["math/bits.deBruijn64tab"], apart := false, laid := [("math/bits.deBruijn64tab", laid_math_bits_deBruijn64tab)], narrowed := true }
def ForwardNobodyUptoSaid : Prop := forwardNobodyUptoRow.holds Tryd.pinned (OpenSpec.upto forwardNobodySpec)

/-- 'ullagelaw22.ForwardTells', WHERE WHAT IT READS IS OF BULK AT MOST 1048576: true; the input reads as it did. -/
def forwardTellsUptoRow : OpenClaim := { program := "ytlkifhoedfjlaaadoor", sum := "bcbbc970ca6368cf382900cb66787b0798af7395e5b912c923b2b91a31002b81", func := "ullage/ullagelaw22.ForwardTells", spec := "forwardTells", unfollowed := true, recurses := true, named := ["math/bits.deBruijn64tab"], apart := false, laid := [("math/bits.deBruijn64tab", laid_math_bits_deBruijn64tab)], narrowed := true }
def ForwardTellsUptoSaid : Prop := forwardTellsUptoRow.holds Tryd.pinned (OpenSpec.upto forwardTellsSpec)

/-- 'ullagelaw23.PlanCovers', WHERE WHAT IT READS IS OF BULK AT MOST 1048576: true; the input reads as it did. -/
def planCoversUptoRow : OpenClaim := { program := "ytlkifhoedfjlaaadoor", sum := "bcbbc970ca6368cf382900cb66787b0798af7395e5b912c923b2b91a31002b81", func := "ullage/ullagelaw23.PlanCovers", spec := "planCovers", unfollowed := true, recurses := true, named := ["math/bits.deBruijn64tab"], apart := false, laid := [("math/bits.deBruijn64tab", laid_math_bits_deBruijn64tab)], narrowed := true }
def PlanCoversUptoSaid : Prop := planCoversUptoRow.holds Tryd.pinned (OpenSpec.upto planCoversSpec)

/-- 'ullagelaw23.PlanTells', WHERE WHAT IT READS IS OF BULK AT MOST 1048576: true; the input reads as it did. -/
def planTellsUptoRow : OpenClaim := { program := "ytlkifhoedfjlaaadoor", sum := "bcbbc970ca6368cf382900cb66787b0798af7395e5b912c923b2b91a31002b81", func := "ullage/ullagelaw23.PlanTells", spec := "planTells", unfollowed := true, recurses := true, named := ["math/bits.deBruijn64tab"], apart := false, laid := [("math/bits.deBruijn64tab", laid_math_bits_deBruijn64tab)], narrowed := true }
def PlanTellsUptoSaid : Prop := planTellsUptoRow.holds Tryd.pinned (OpenSpec.upto planTellsSpec)

/-- 'ullagelaw23.PlanNobody', WHERE WHAT IT READS IS OF BULK AT MOST 1048576: true; the input reads as it did. -/
def planNobodyUptoRow : OpenClaim := { program := "ytlkifhoedfjlaaadoor", sum := "bcbbc970ca6368cf382900cb66787b0798af7395e5b912c923b2b91a31002b81", func := "ullage/ullagelaw23.PlanNobody", spec := "planNobody", unfollowed := true, recurses := true, named := ["math/bits.deBruijn64tab"], apart := false, laid := [("math/bits.deBruijn64tab", laid_math_bits_deBruijn64tab)], narrowed := true }
def PlanNobodyUptoSaid : Prop := planNobodyUptoRow.holds Tryd.pinned (OpenSpec.upto planNobodySpec)

/-- 'ullagelaw20.MarkNobody', WHERE WHAT IT READS IS OF BULK AT MOST 1048576: true; the input reads as it did. -/
def markNobodyUptoRow : OpenClaim := { program := "ytlkifhoedfjlaaadoor", sum := "bcbbc970ca6368cf382900cb66787b0798af7395e5b912c923b2b91a31002b81", func := "ullage/ullagelaw20.MarkNobody", spec := "markNobody", unfollowed := true, recurses := true, named := ["math/bits.deBruijn64tab"], apart := false, laid := [("math/bits.deBruijn64tab", laid_math_bits_deBruijn64tab)], narrowed := true }
def MarkNobodyUptoSaid : Prop := markNobodyUptoRow.holds Tryd.pinned (OpenSpec.upto markNobodySpec)

end Rows
end Go.Proofs.YtlkifhoedfjlaaaDoor
