/-
  DERIVED. GIVEN WITH THE SEED: THE CARDS: each row of YtlkifhoedfjlaaaDoorRows.lean that lists a variable, with what it lists TIED to the program's text (the seventh form; the later family's looks); each row that meets fmt, with fmt's text TOLD by the authors' own Lean function (tested against real Go, not proved from fmt's source: count such statements apart). THE CARD IS WHAT COUNTS. Prove the row's statement (the work); the ties are given (YtlkifhoedfjlaaaDoorTie.lean); close each card by the builder's one call (the guide's Derived/Test/ToyasCard.lean, 'card_holds'). Laid BY PROGRAM, IN A SANDBOX (cutbox-door.mjs). By AI agents, Wed Nov 11 2026. No macro, syntax, notation, axiom, sorry.
-/
import Derived.Test.YtlkifhoedfjlaaaDoorRows
import GoSem.ClaimSeven
namespace Go.Proofs.YtlkifhoedfjlaaaDoor
namespace Rows

/-- THE TIED CARD OF 'ullagelaw21.OfftabNobody'. -/
def offtabNobodyCard : Claim7 := { stood := { row := offtabNobodyRow, standIns := [], harness := (true, "45b1b9239bc71760da025e8aaf707aa378c124196e3e6d49d8c5eb3e297f7cf1"), looks := true }, kinds := [], alts := [], laidByText := true, laidKinds := [.data], laidTests := true, laidLooks := .later }
def OfftabNobodyCardSaid : Prop := Claim7.holds Tryd.pinned (.plain (OpenSpec.ofChange offtabNobodySpec)) offtabNobodyCard

/-- THE TIED CARD OF 'ullagelaw22.ForwardSums'. -/
def forwardSumsCard : Claim7 := { stood := { row := forwardSumsRow, standIns := [], harness := (true, "45b1b9239bc71760da025e8aaf707aa378c124196e3e6d49d8c5eb3e297f7cf1"), looks := true }, kinds := [], alts := [], laidByText := true, laidKinds := [.data], laidTests := true, laidLooks := .later }
def ForwardSumsCardSaid : Prop := Claim7.holds Tryd.pinned (.plain (OpenSpec.ofChange forwardSumsSpec)) forwardSumsCard

/-- THE TIED CARD OF 'ullagelaw21.OfftabTells'. -/
def offtabTellsCard : Claim7 := { stood := { row := offtabTellsRow, standIns := [], harness := (true, "45b1b9239bc71760da025e8aaf707aa378c124196e3e6d49d8c5eb3e297f7cf1"), looks := true }, kinds := [], alts := [], laidByText := true, laidKinds := [.data], laidTests := true, laidLooks := .later }
def OfftabTellsCardSaid : Prop := Claim7.holds Tryd.pinned (.plain (OpenSpec.ofChange offtabTellsSpec)) offtabTellsCard

/-- THE TIED CARD OF 'ullagelaw22.ForwardNobody'. -/
def forwardNobodyCard : Claim7 := { stood := { row := forwardNobodyRow, standIns := [], harness := (true, "45b1b9239bc71760da025e8aaf707aa378c124196e3e6d49d8c5eb3e297f7cf1"), looks := true }, kinds := [], alts := [], laidByText := true, laidKinds := [.data], laidTests := true, laidLooks := .later }
def ForwardNobodyCardSaid : Prop := Claim7.holds Tryd.pinned (.plain (OpenSpec.ofChange forwardNobodySpec)) forwardNobodyCard

/-- THE TIED CARD OF 'ullagelaw22.ForwardTells'. -/
def forwardTellsCard : Claim7 := { stood := { row := forwardTellsRow, standIns := [], harness := (true, "45b1b9239bc71760da025e8aaf707aa378c124196e3e6d49d8c5eb3e297f7cf1"), looks := true }, kinds := [], alts := [], laidByText := true, laidKinds := [.data], laidTests := true, laidLooks := .later }
def ForwardTellsCardSaid : Prop := Claim7.holds Tryd.pinned (.plain (OpenSpec.ofChange forwardTellsSpec)) forwardTellsCard

/-- THE TIED CARD OF 'ullagelaw23.PlanCovers'. -/
def planCoversCard : Claim7 := { stood := { row := planCoversRow, standIns := [], harness := (true, "45b1b9239bc71760da025e8aaf707aa378c124196e3e6d49d8c5eb3e297f7cf1"), looks := true }, kinds := [], alts := [], laidByText := true, laidKinds := [.data], laidTests := true, laidLooks := .later }
def PlanCoversCardSaid : Prop := Claim7.holds Tryd.pinned (.plain (OpenSpec.ofChange planCoversSpec)) planCoversCard

/-- THE TIED CARD OF 'ullagelaw23.PlanTells'. -/
def planTellsCard : Claim7 := { stood := { row := planTellsRow, standIns := [], harness := (true, "45b1b9239bc71760da025e8aaf707aa378c124196e3e6d49d8c5eb3e297f7cf1"), looks := true }, kinds := [], alts := [], laidByText := true, laidKinds := [.data], laidTests := true, laidLooks := .later }
def PlanTellsCardSaid : Prop := Claim7.holds Tryd.pinned (.plain (OpenSpec.ofChange planTellsSpec)) planTellsCard

/-- THE TIED CARD OF 'ullagelaw23.PlanNobody'. -/
def planNobodyCard : Claim7 := { stood := { row := planNobodyRow, standIns := [], harness := (true, "45b1b9239bc71760da025e8aaf707aa378c124196e3e6d49d8c5eb3e297f7cf1"), looks := true }, kinds := [], alts := [], laidByText := true, laidKinds := [.data], laidTests := true, laidLooks := .later }
def PlanNobodyCardSaid : Prop := Claim7.holds Tryd.pinned (.plain (OpenSpec.ofChange planNobodySpec)) planNobodyCard

/-- THE TIED CARD OF 'ullagelaw20.MarkNobody'. -/
def markNobodyCard : Claim7 := { stood := { row := markNobodyRow, standIns := [], harness := (true, "45b1b9239bc71760da025e8aaf707aa378c124196e3e6d49d8c5eb3e297f7cf1"), looks := true }, kinds := [], alts := [], laidByText := true, laidKinds := [.data], laidTests := true, laidLooks := .later }
def MarkNobodyCardSaid : Prop := Claim7.holds Tryd.pinned (.plain (OpenSpec.ofChange markNobodySpec)) markNobodyCard

/-- THE SECOND FORM's CARD OF 'ullagelaw21.OfftabNobody'. -/
def offtabNobodyUptoCard : Claim7 := { stood := { row := offtabNobodyUptoRow, standIns := [], harness := (true, "45b1b9239bc71760da025e8aaf707aa378c124196e3e6d49d8c5eb3e297f7cf1"), looks := true }, kinds := [], alts := [], laidByText := true, laidKinds := [.data], laidTests := true, laidLooks := .later }
def OfftabNobodyUptoCardSaid : Prop := Claim7.holds Tryd.pinned (.plain (OpenSpec.upto offtabNobodySpec)) offtabNobodyUptoCard

/-- THE SECOND FORM's CARD OF 'ullagelaw22.ForwardSums'. -/
def forwardSumsUptoCard : Claim7 := { stood := { row := forwardSumsUptoRow, standIns := [], harness := (true, "45b1b9239bc71760da025e8aaf707aa378c124196e3e6d49d8c5eb3e297f7cf1"), looks := true }, kinds := [], alts := [], laidByText := true, laidKinds := [.data], laidTests := true, laidLooks := .later }
def ForwardSumsUptoCardSaid : Prop := Claim7.holds Tryd.pinned (.plain (OpenSpec.upto forwardSumsSpec)) forwardSumsUptoCard

/-- THE SECOND FORM's CARD OF 'ullagelaw21.OfftabTells'. -/
def offtabTellsUptoCard : Claim7 := { stood := { row := offtabTellsUptoRow, standIns := [], harness := (true, "45b1b9239bc71760da025e8aaf707aa378c124196e3e6d49d8c5eb3e297f7cf1"), looks := true }, kinds := [], alts := [], laidByText := true, laidKinds := [.data], laidTests := true, laidLooks := .later }
def OfftabTellsUptoCardSaid : Prop := Claim7.holds Tryd.pinned (.plain (OpenSpec.upto offtabTellsSpec)) offtabTellsUptoCard

/-- THE SECOND FORM's CARD OF 'ullagelaw22.ForwardNobody'. -/
def forwardNobodyUptoCard : Claim7 := { stood := { row := forwardNobodyUptoRow, standIns := [], harness := (true, "45b1b9239bc71760da025e8aaf707aa378c124196e3e6d49d8c5eb3e297f7cf1"), looks := true }, kinds := [], alts := [], laidByText := true, laidKinds := [.data], laidTests := true, laidLooks := .later }
def ForwardNobodyUptoCardSaid : Prop := Claim7.holds Tryd.pinned (.plain (OpenSpec.upto forwardNobodySpec)) forwardNobodyUptoCard

/-- THE SECOND FORM's CARD OF 'ullagelaw22.ForwardTells'. -/
def forwardTellsUptoCard : Claim7 := { stood := { row := forwardTellsUptoRow, standIns := [], harness := (true, "45b1b9239bc71760da025e8aaf707aa378c124196e3e6d49d8c5eb3e297f7cf1"), looks := true }, kinds := [], alts := [], laidByText := true, laidKinds := [.data], laidTests := true, laidLooks := .later }
def ForwardTellsUptoCardSaid : Prop := Claim7.holds Tryd.pinned (.plain (OpenSpec.upto forwardTellsSpec)) forwardTellsUptoCard

/-- THE SECOND FORM's CARD OF 'ullagelaw23.PlanCovers'. -/
def planCoversUptoCard : Claim7 := { stood := { row := planCoversUptoRow, standIns := [], harness := (true, "45b1b9239bc71760da025e8aaf707aa378c124196e3e6d49d8c5eb3e297f7cf1"), looks := true }, kinds := [], alts := [], laidByText := true, laidKinds := [.data], laidTests := true, laidLooks := .later }
def PlanCoversUptoCardSaid : Prop := Claim7.holds Tryd.pinned (.plain (OpenSpec.upto planCoversSpec)) planCoversUptoCard

/-- THE SECOND FORM's CARD OF 'ullagelaw23.PlanTells'. -/
def planTellsUptoCard : Claim7 := { stood := { row := planTellsUptoRow, standIns := [], harness := (true, "45b1b9239bc71760da025e8aaf707aa378c124196e3e6d49d8c5eb3e297f7cf1"), looks := true }, kinds := [], alts := [], laidByText := true, laidKinds := [.data], laidTests := true, laidLooks := .later }
def PlanTellsUptoCardSaid : Prop := Claim7.holds Tryd.pinned (.plain (OpenSpec.upto planTellsSpec)) planTellsUptoCard

/-- THE SECOND FORM's CARD OF 'ullagelaw23.PlanNobody'. -/
def planNobodyUptoCard : Claim7 := { stood := { row := planNobodyUptoRow, standIns := [], harness := (true, "45b1b9239bc71760da025e8aaf707aa378c124196e3e6d49d8c5eb3e297f7cf1"), looks := true }, kinds := [], alts := [], laidByText := true, laidKinds := [.data], laidTests := true, laidLooks := .later }
def PlanNobodyUptoCardSaid : Prop := Claim7.holds Tryd.pinned (.plain (OpenSpec.upto planNobodySpec)) planNobodyUptoCard

/-- THE SECOND FORM's CARD OF 'ullagelaw20.MarkNobody'. -/
def markNobodyUptoCard : Claim7 := { stood := { row := markNobodyUptoRow, standIns := [], harness := (true, "45b1b9239bc71760da025e8aaf707aa378c124196e3e6d49d8c5eb3e297f7cf1"), looks := true }, kinds := [], alts := [], laidByText := true, laidKinds := [.data], laidTests := true, laidLooks := .later }
def MarkNobodyUptoCardSaid : Prop := Claim7.holds Tryd.pinned (.plain (OpenSpec.upto markNobodySpec)) markNobodyUptoCard
end Rows
end Go.Proofs.YtlkifhoedfjlaaaDoor
