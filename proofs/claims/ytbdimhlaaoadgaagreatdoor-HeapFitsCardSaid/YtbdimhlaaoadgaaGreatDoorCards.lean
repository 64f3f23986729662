/-
  DERIVED. GIVEN WITH THE SEED: THE CARDS: each row of YtbdimhlaaoadgaaGreatDoorRows.lean that lists a variable, with what it lists TIED to the program's text (the seventh form; the later family's looks); each row that meets fmt, with fmt's text TOLD by the authors' own Lean function (tested against real Go, not proved from fmt's source: count such statements apart). THE CARD IS WHAT COUNTS. Prove the row's statement (the work); the ties are given (YtbdimhlaaoadgaaGreatDoorTie.lean); close each card by the builder's one call (the guide's Derived/Test/ToyasCard.lean, 'card_holds'). Laid BY PROGRAM, IN A SANDBOX (cutbox-door.mjs). By AI agents, Wed Nov 11 2026. No macro, syntax, notation, axiom, sorry.
-/
import Derived.Test.YtbdimhlaaoadgaaGreatDoorRows
import GoSem.ClaimSeven
namespace Go.Proofs.YtbdimhlaaoadgaaGreatDoor
namespace Rows

/-- THE TIED CARD OF 'ullagelaw39.TreeRises'. -/
def treeRisesCard : Claim7 := { stood := { row := treeRisesRow, standIns := [], harness := (true, "dbbf73f14dedb79d0d86e4cc4e512554283e70d58716140faf4cf83e1dbcc373"), looks := true }, kinds := [], alts := [], laidByText := true, laidKinds := [.data], laidTests := true, laidLooks := .later }
def TreeRisesCardSaid : Prop := Claim7.holds Tryz.pinned (.plain (OpenSpec.ofChange treeRisesSpec)) treeRisesCard

/-- THE TIED CARD OF 'ullagelaw39.TreeNobody'. -/
def treeNobodyCard : Claim7 := { stood := { row := treeNobodyRow, standIns := [], harness := (true, "dbbf73f14dedb79d0d86e4cc4e512554283e70d58716140faf4cf83e1dbcc373"), looks := true }, kinds := [], alts := [], laidByText := true, laidKinds := [.data], laidTests := true, laidLooks := .later }
def TreeNobodyCardSaid : Prop := Claim7.holds Tryz.pinned (.plain (OpenSpec.ofChange treeNobodySpec)) treeNobodyCard

/-- THE TIED CARD OF 'ullagelaw39.TreePlays'. -/
def treePlaysCard : Claim7 := { stood := { row := treePlaysRow, standIns := [], harness := (true, "dbbf73f14dedb79d0d86e4cc4e512554283e70d58716140faf4cf83e1dbcc373"), looks := true }, kinds := [], alts := [], laidByText := true, laidKinds := [.data], laidTests := true, laidLooks := .later }
def TreePlaysCardSaid : Prop := Claim7.holds Tryz.pinned (.plain (OpenSpec.ofChange treePlaysSpec)) treePlaysCard

/-- THE TIED CARD OF 'ullagelaw38.ListTurns'. -/
def listTurnsCard : Claim7 := { stood := { row := listTurnsRow, standIns := [], harness := (true, "dbbf73f14dedb79d0d86e4cc4e512554283e70d58716140faf4cf83e1dbcc373"), looks := true }, kinds := [], alts := [], laidByText := true, laidKinds := [.data], laidTests := true, laidLooks := .later }
def ListTurnsCardSaid : Prop := Claim7.holds Tryz.pinned (.plain (OpenSpec.ofChange listTurnsSpec)) listTurnsCard

/-- THE TIED CARD OF 'ullagelaw27.HeapFits'. -/
def heapFitsCard : Claim7 := { stood := { row := heapFitsRow, standIns := [], harness := (true, "dbbf73f14dedb79d0d86e4cc4e512554283e70d58716140faf4cf83e1dbcc373"), looks := true }, kinds := [], alts := [], laidByText := true, laidKinds := [.data], laidTests := true, laidLooks := .later }
def HeapFitsCardSaid : Prop := Claim7.holds Tryz.pinned (.plain (OpenSpec.ofChange heapFitsSpec)) heapFitsCard

/-- THE TIED CARD OF 'ullagelaw27.HeapQuiet'. -/
def heapQuietCard : Claim7 := { stood := { row := heapQuietRow, standIns := [], harness := (true, "dbbf73f14dedb79d0d86e4cc4e512554283e70d58716140faf4cf83e1dbcc373"), looks := true }, kinds := [], alts := [], laidByText := true, laidKinds := [.data], laidTests := true, laidLooks := .later }
def HeapQuietCardSaid : Prop := Claim7.holds Tryz.pinned (.plain (OpenSpec.ofChange heapQuietSpec)) heapQuietCard

/-- THE TIED CARD OF 'ullagelaw27.HeapAlike'. -/
def heapAlikeCard : Claim7 := { stood := { row := heapAlikeRow, standIns := [], harness := (true, "dbbf73f14dedb79d0d86e4cc4e512554283e70d58716140faf4cf83e1dbcc373"), looks := true }, kinds := [], alts := [], laidByText := true, laidKinds := [.data], laidTests := true, laidLooks := .later }
def HeapAlikeCardSaid : Prop := Claim7.holds Tryz.pinned (.plain (OpenSpec.ofChange heapAlikeSpec)) heapAlikeCard

/-- THE SECOND FORM's CARD OF 'ullagelaw39.TreeRises'. -/
def treeRisesUptoCard : Claim7 := { stood := { row := treeRisesUptoRow, standIns := [], harness := (true, "dbbf73f14dedb79d0d86e4cc4e512554283e70d58716140faf4cf83e1dbcc373"), looks := true }, kinds := [], alts := [], laidByText := true, laidKinds := [.data], laidTests := true, laidLooks := .later }
def TreeRisesUptoCardSaid : Prop := Claim7.holds Tryz.pinned (.plain (OpenSpec.upto treeRisesSpec)) treeRisesUptoCard

/-- THE SECOND FORM's CARD OF 'ullagelaw39.TreeNobody'. -/
def treeNobodyUptoCard : Claim7 := { stood := { row := treeNobodyUptoRow, standIns := [], harness := (true, "dbbf73f14dedb79d0d86e4cc4e512554283e70d58716140faf4cf83e1dbcc373"), looks := true }, kinds := [], alts := [], laidByText := true, laidKinds := [.data], laidTests := true, laidLooks := .later }
def TreeNobodyUptoCardSaid : Prop := Claim7.holds Tryz.pinned (.plain (OpenSpec.upto treeNobodySpec)) treeNobodyUptoCard

/-- THE SECOND FORM's CARD OF 'ullagelaw39.TreePlays'. -/
def treePlaysUptoCard : Claim7 := { stood := { row := treePlaysUptoRow, standIns := [], harness := (true, "dbbf73f14dedb79d0d86e4cc4e512554283e70d58716140faf4cf83e1dbcc373"), looks := true }, kinds := [], alts := [], laidByText := true, laidKinds := [.data], laidTests := true, laidLooks := .later }
def TreePlaysUptoCardSaid : Prop := Claim7.holds Tryz.pinned (.plain (OpenSpec.upto treePlaysSpec)) treePlaysUptoCard

/-- THE SECOND FORM's CARD OF 'ullagelaw38.ListTurns'. -/
def listTurnsUptoCard : Claim7 := { stood := { row := listTurnsUptoRow, standIns := [], harness := (true, "dbbf73f14dedb79d0d86e4cc4e512554283e70d58716140faf4cf83e1dbcc373"), looks := true }, kinds := [], alts := [], laidByText := true, laidKinds := [.data], laidTests := true, laidLooks := .later }
def ListTurnsUptoCardSaid : Prop := Claim7.holds Tryz.pinned (.plain (OpenSpec.upto listTurnsSpec)) listTurnsUptoCard

/-- THE SECOND FORM's CARD OF 'ullagelaw27.HeapFits'. -/
def heapFitsUptoCard : Claim7 := { stood := { row := heapFitsUptoRow, standIns := [], harness := (true, "dbbf73f14dedb79d0d86e4cc4e512554283e70d58716140faf4cf83e1dbcc373"), looks := true }, kinds := [], alts := [], laidByText := true, laidKinds := [.data], laidTests := true, laidLooks := .later }
def HeapFitsUptoCardSaid : Prop := Claim7.holds Tryz.pinned (.plain (OpenSpec.upto heapFitsSpec)) heapFitsUptoCard

/-- THE SECOND FORM's CARD OF 'ullagelaw27.HeapQuiet'. -/
def heapQuietUptoCard : Claim7 := { stood := { row := heapQuietUptoRow, standIns := [], harness := (true, "dbbf73f14dedb79d0d86e4cc4e512554283e70d58716140faf4cf83e1dbcc373"), looks := true }, kinds := [], alts := [], laidByText := true, laidKinds := [.data], laidTests := true, laidLooks := .later }
def HeapQuietUptoCardSaid : Prop := Claim7.holds Tryz.pinned (.plain (OpenSpec.upto heapQuietSpec)) heapQuietUptoCard

/-- THE SECOND FORM's CARD OF 'ullagelaw27.HeapAlike'. -/
def heapAlikeUptoCard : Claim7 := { stood := { row := heapAlikeUptoRow, standIns := [], harness := (true, "dbbf73f14dedb79d0d86e4cc4e512554283e70d58716140faf4cf83e1dbcc373"), looks := true }, kinds := [], alts := [], laidByText := true, laidKinds := [.data], laidTests := true, laidLooks := .later }
def HeapAlikeUptoCardSaid : Prop := Claim7.holds Tryz.pinned (.plain (OpenSpec.upto heapAlikeSpec)) heapAlikeUptoCard
end Rows
end Go.Proofs.YtbdimhlaaoadgaaGreatDoor
