/-
  DERIVED. GIVEN WITH THE SEED: THE CARDS: each row of YtlkifhoedfjlaaaGreatDoorRows.lean that lists a variable, with what it lists TIED to the program's text (the seventh form; the later family's looks); each row that meets fmt, with fmt's text TOLD by the authors' own Lean function (tested against real Go, not proved from fmt's source: count such statements apart). THE CARD IS WHAT COUNTS. Prove the row's statement (the work); the ties are given (YtlkifhoedfjlaaaGreatDoorTie.lean); close each card by the builder's one call (the guide's Derived/Test/ToyasCard.lean, 'card_holds'). Laid BY PROGRAM, IN A SANDBOX (cutbox-door.mjs). By AI agents, Wed Nov 11 2026. No macro, syntax, notation, axiom, sorry.
-/
import Derived.Test.YtlkifhoedfjlaaaGreatDoorRows
import GoSem.ClaimSeven
namespace Go.Proofs.YtlkifhoedfjlaaaGreatDoor
namespace Rows

/-- THE TIED CARD OF 'ullagelaw20.MarkFinds'. -/
def markFindsCard : Claim7 := { stood := { row := markFindsRow, standIns := [], harness := (true, "eaf12322fce61f892c343a72f718956fcb6b9d10d048751b91cff07809dc0218"), looks := true }, kinds := [], alts := [], laidByText := true, laidKinds := [.data], laidTests := true, laidLooks := .later }
def MarkFindsCardSaid : Prop := Claim7.holds Tryz.pinned (.plain (OpenSpec.ofChange markFindsSpec)) markFindsCard

/-- THE SECOND FORM's CARD OF 'ullagelaw20.MarkFinds'. -/
def markFindsUptoCard : Claim7 := { stood := { row := markFindsUptoRow, standIns := [], harness := (true, "eaf12322fce61f892c343a72f718956fcb6b9d10d048751b91cff07809dc0218"), looks := true }, kinds := [], alts := [], laidByText := true, laidKinds := [.data], laidTests := true, laidLooks := .later }
def MarkFindsUptoCardSaid : Prop := Claim7.holds Tryz.pinned (.plain (OpenSpec.upto markFindsSpec)) markFindsUptoCard
end Rows
end Go.Proofs.YtlkifhoedfjlaaaGreatDoor
