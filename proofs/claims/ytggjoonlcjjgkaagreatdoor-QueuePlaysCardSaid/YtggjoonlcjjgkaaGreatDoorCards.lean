/-
  DERIVED. GIVEN WITH THE SEED: THE CARDS: each row of YtggjoonlcjjgkaaGreatDoorRows.lean that lists a variable, with what it lists TIED to the program's text (the seventh form; the later family's looks); each row that meets fmt, with fmt's text TOLD by the authors' own Lean function (tested against real Go, not proved from fmt's source: count such statements apart). THE CARD IS WHAT COUNTS. Prove the row's statement (the work); the ties are given (YtggjoonlcjjgkaaGreatDoorTie.lean); close each card by the builder's one call (the guide's Derived/Test/ToyasCard.lean, 'card_holds'). Laid BY PROGRAM, IN A SANDBOX (cutbox-door.mjs). By AI agents, Wed Nov 11 2026. No macro, syntax, notation, axiom, sorry.
-/
import Derived.Test.YtggjoonlcjjgkaaGreatDoorRows
import GoSem.ClaimSeven
namespace Go.Proofs.YtggjoonlcjjgkaaGreatDoor
namespace Rows

/-- THE TIED CARD OF 'ullagelaw40.QueueNobody'. -/
def queueNobodyCard : Claim7 := { stood := { row := queueNobodyRow, standIns := [], harness := (true, "87897d098d9b9dd334ac610881d3b38461a3691f58db684aa700c0a1285eacb0"), looks := true }, kinds := [], alts := [], laidByText := true, laidKinds := [.data], laidTests := true, laidLooks := .later }
def QueueNobodyCardSaid : Prop := Claim7.holds Tryz.pinned (.plain (OpenSpec.ofChange queueNobodySpec)) queueNobodyCard

/-- THE TIED CARD OF 'ullagelaw40.QueueSorts'. -/
def queueSortsCard : Claim7 := { stood := { row := queueSortsRow, standIns := [], harness := (true, "87897d098d9b9dd334ac610881d3b38461a3691f58db684aa700c0a1285eacb0"), looks := true }, kinds := [], alts := [], laidByText := true, laidKinds := [.data], laidTests := true, laidLooks := .later }
def QueueSortsCardSaid : Prop := Claim7.holds Tryz.pinned (.plain (OpenSpec.ofChange queueSortsSpec)) queueSortsCard

/-- THE TIED CARD OF 'ullagelaw40.QueuePlays'. -/
def queuePlaysCard : Claim7 := { stood := { row := queuePlaysRow, standIns := [], harness := (true, "87897d098d9b9dd334ac610881d3b38461a3691f58db684aa700c0a1285eacb0"), looks := true }, kinds := [], alts := [], laidByText := true, laidKinds := [.data], laidTests := true, laidLooks := .later }
def QueuePlaysCardSaid : Prop := Claim7.holds Tryz.pinned (.plain (OpenSpec.ofChange queuePlaysSpec)) queuePlaysCard

/-- THE SECOND FORM's CARD OF 'ullagelaw40.QueueNobody'. -/
def queueNobodyUptoCard : Claim7 := { stood := { row := queueNobodyUptoRow, standIns := [], harness := (true, "87897d098d9b9dd334ac610881d3b38461a3691f58db684aa700c0a1285eacb0"), looks := true }, kinds := [], alts := [], laidByText := true, laidKinds := [.data], laidTests := true, laidLooks := .later }
def QueueNobodyUptoCardSaid : Prop := Claim7.holds Tryz.pinned (.plain (OpenSpec.upto queueNobodySpec)) queueNobodyUptoCard

/-- THE SECOND FORM's CARD OF 'ullagelaw40.QueueSorts'. -/
def queueSortsUptoCard : Claim7 := { stood := { row := queueSortsUptoRow, standIns := [], harness := (true, "87897d098d9b9dd334ac610881d3b38461a3691f58db684aa700c0a1285eacb0"), looks := true }, kinds := [], alts := [], laidByText := true, laidKinds := [.data], laidTests := true, laidLooks := .later }
def QueueSortsUptoCardSaid : Prop := Claim7.holds Tryz.pinned (.plain (OpenSpec.upto queueSortsSpec)) queueSortsUptoCard

/-- THE SECOND FORM's CARD OF 'ullagelaw40.QueuePlays'. -/
def queuePlaysUptoCard : Claim7 := { stood := { row := queuePlaysUptoRow, standIns := [], harness := (true, "87897d098d9b9dd334ac610881d3b38461a3691f58db684aa700c0a1285eacb0"), looks := true }, kinds := [], alts := [], laidByText := true, laidKinds := [.data], laidTests := true, laidLooks := .later }
def QueuePlaysUptoCardSaid : Prop := Claim7.holds Tryz.pinned (.plain (OpenSpec.upto queuePlaysSpec)) queuePlaysUptoCard
end Rows
end Go.Proofs.YtggjoonlcjjgkaaGreatDoor
