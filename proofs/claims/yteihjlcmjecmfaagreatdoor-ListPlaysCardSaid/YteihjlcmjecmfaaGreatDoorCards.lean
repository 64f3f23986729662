/-
  DERIVED. GIVEN WITH THE SEED: THE CARDS: each row of YteihjlcmjecmfaaGreatDoorRows.lean that lists a variable, with what it lists TIED to the program's text (the seventh form; the later family's looks); each row that meets fmt, with fmt's text TOLD by the authors' own Lean function (tested against real Go, not proved from fmt's source: count such statements apart). THE CARD IS WHAT COUNTS. Prove the row's statement (the work); the ties are given (YteihjlcmjecmfaaGreatDoorTie.lean); close each card by the builder's one call (the guide's Derived/Test/ToyasCard.lean, 'card_holds'). Laid BY PROGRAM, IN A SANDBOX (cutbox-door.mjs). By AI agents, Wed Nov 11 2026. No macro, syntax, notation, axiom, sorry.
-/
import Derived.Test.YteihjlcmjecmfaaGreatDoorRows
import GoSem.ClaimSeven
namespace Go.Proofs.YteihjlcmjecmfaaGreatDoor
namespace Rows

/-- THE TIED CARD OF 'ullagelaw38.ListNobody'. -/
def listNobodyCard : Claim7 := { stood := { row := listNobodyRow, standIns := [], harness := (true, "be4099becaf7b9a67545727374ebc36f9d4760e0fbe8c8257b3315dd3394b339"), looks := true }, kinds := [], alts := [], laidByText := true, laidKinds := [.data], laidTests := true, laidLooks := .later }
def ListNobodyCardSaid : Prop := Claim7.holds Tryz.pinned (.plain (OpenSpec.ofChange listNobodySpec)) listNobodyCard

/-- THE TIED CARD OF 'ullagelaw38.ListPlays'. -/
def listPlaysCard : Claim7 := { stood := { row := listPlaysRow, standIns := [], harness := (true, "be4099becaf7b9a67545727374ebc36f9d4760e0fbe8c8257b3315dd3394b339"), looks := true }, kinds := [], alts := [], laidByText := true, laidKinds := [.data], laidTests := true, laidLooks := .later }
def ListPlaysCardSaid : Prop := Claim7.holds Tryz.pinned (.plain (OpenSpec.ofChange listPlaysSpec)) listPlaysCard

/-- THE TIED CARD OF 'ullagelaw38.ListTurns'. -/
def listTurnsCard : Claim7 := { stood := { row := listTurnsRow, standIns := [], harness := (true, "be4099becaf7b9a67545727374ebc36f9d4760e0fbe8c8257b3315dd3394b339"), looks := true }, kinds := [], alts := [], laidByText := true, laidKinds := [.data], laidTests := true, laidLooks := .later }
def ListTurnsCardSaid : Prop := Claim7.holds Tryz.pinned (.plain (OpenSpec.ofChange listTurnsSpec)) listTurnsCard

/-- THE SECOND FORM's CARD OF 'ullagelaw38.ListNobody'. -/
def listNobodyUptoCard : Claim7 := { stood := { row := listNobodyUptoRow, standIns := [], harness := (true, "be4099becaf7b9a67545727374ebc36f9d4760e0fbe8c8257b3315dd3394b339"), looks := true }, kinds := [], alts := [], laidByText := true, laidKinds := [.data], laidTests := true, laidLooks := .later }
def ListNobodyUptoCardSaid : Prop := Claim7.holds Tryz.pinned (.plain (OpenSpec.upto listNobodySpec)) listNobodyUptoCard

/-- THE SECOND FORM's CARD OF 'ullagelaw38.ListPlays'. -/
def listPlaysUptoCard : Claim7 := { stood := { row := listPlaysUptoRow, standIns := [], harness := (true, "be4099becaf7b9a67545727374ebc36f9d4760e0fbe8c8257b3315dd3394b339"), looks := true }, kinds := [], alts := [], laidByText := true, laidKinds := [.data], laidTests := true, laidLooks := .later }
def ListPlaysUptoCardSaid : Prop := Claim7.holds Tryz.pinned (.plain (OpenSpec.upto listPlaysSpec)) listPlaysUptoCard

/-- THE SECOND FORM's CARD OF 'ullagelaw38.ListTurns'. -/
def listTurnsUptoCard : Claim7 := { stood := { row := listTurnsUptoRow, standIns := [], harness := (true, "be4099becaf7b9a67545727374ebc36f9d4760e0fbe8c8257b3315dd3394b339"), looks := true }, kinds := [], alts := [], laidByText := true, laidKinds := [.data], laidTests := true, laidLooks := .later }
def ListTurnsUptoCardSaid : Prop := Claim7.holds Tryz.pinned (.plain (OpenSpec.upto listTurnsSpec)) listTurnsUptoCard
end Rows
end Go.Proofs.YteihjlcmjecmfaaGreatDoor
