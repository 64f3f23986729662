/-
  DERIVED. GIVEN WITH THE SEED: THE CARDS: each row of YtbmidhlilafgeaaGreatDoorRows.lean that lists a variable, with what it lists TIED to the program's text (the seventh form; the later family's looks); each row that meets fmt, with fmt's text TOLD by the authors' own Lean function (tested against real Go, not proved from fmt's source: count such statements apart). THE CARD IS WHAT COUNTS. Prove the row's statement (the work); the ties are given (YtbmidhlilafgeaaGreatDoorTie.lean); close each card by the builder's one call (the guide's Derived/Test/ToyasCard.lean, 'card_holds'). Laid BY PROGRAM, IN A SANDBOX (cutbox-door.mjs). By AI agents, Wed Nov 11 2026. No macro, syntax, notation, axiom, sorry.
-/
import Derived.Test.YtbmidhlilafgeaaGreatDoorRows
import GoSem.ClaimSeven
namespace Go.Proofs.YtbmidhlilafgeaaGreatDoor
namespace Rows

/-- THE TIED CARD OF 'ullagelaw25.CopyingAlike'. -/
def copyingAlikeCard : Claim7 := { stood := { row := copyingAlikeRow, standIns := [], harness := (true, "91e7984025ffff75ceb2bfcee377c7bf949c7a2a471423192be33331a12cac5a"), looks := true }, kinds := [], alts := [], laidByText := true, laidKinds := [.data], laidTests := true, laidLooks := .later }
def CopyingAlikeCardSaid : Prop := Claim7.holds Tryz.pinned (.plain (OpenSpec.ofChange copyingAlikeSpec)) copyingAlikeCard

/-- THE TIED CARD OF 'ullagelaw25.CopyingNobody'. -/
def copyingNobodyCard : Claim7 := { stood := { row := copyingNobodyRow, standIns := [], harness := (true, "91e7984025ffff75ceb2bfcee377c7bf949c7a2a471423192be33331a12cac5a"), looks := true }, kinds := [], alts := [], laidByText := true, laidKinds := [.data], laidTests := true, laidLooks := .later }
def CopyingNobodyCardSaid : Prop := Claim7.holds Tryz.pinned (.plain (OpenSpec.ofChange copyingNobodySpec)) copyingNobodyCard

/-- THE TIED CARD OF 'ullagelaw25.CopyingPlays'. -/
def copyingPlaysCard : Claim7 := { stood := { row := copyingPlaysRow, standIns := [], harness := (true, "91e7984025ffff75ceb2bfcee377c7bf949c7a2a471423192be33331a12cac5a"), looks := true }, kinds := [], alts := [], laidByText := true, laidKinds := [.data], laidTests := true, laidLooks := .later }
def CopyingPlaysCardSaid : Prop := Claim7.holds Tryz.pinned (.plain (OpenSpec.ofChange copyingPlaysSpec)) copyingPlaysCard

/-- THE TIED CARD OF 'ullagelaw26.PackingAlike'. -/
def packingAlikeCard : Claim7 := { stood := { row := packingAlikeRow, standIns := [], harness := (true, "91e7984025ffff75ceb2bfcee377c7bf949c7a2a471423192be33331a12cac5a"), looks := true }, kinds := [], alts := [], laidByText := true, laidKinds := [.data], laidTests := true, laidLooks := .later }
def PackingAlikeCardSaid : Prop := Claim7.holds Tryz.pinned (.plain (OpenSpec.ofChange packingAlikeSpec)) packingAlikeCard

/-- THE TIED CARD OF 'ullagelaw26.PackingNobody'. -/
def packingNobodyCard : Claim7 := { stood := { row := packingNobodyRow, standIns := [], harness := (true, "91e7984025ffff75ceb2bfcee377c7bf949c7a2a471423192be33331a12cac5a"), looks := true }, kinds := [], alts := [], laidByText := true, laidKinds := [.data], laidTests := true, laidLooks := .later }
def PackingNobodyCardSaid : Prop := Claim7.holds Tryz.pinned (.plain (OpenSpec.ofChange packingNobodySpec)) packingNobodyCard

/-- THE TIED CARD OF 'ullagelaw26.PackingPlays'. -/
def packingPlaysCard : Claim7 := { stood := { row := packingPlaysRow, standIns := [], harness := (true, "91e7984025ffff75ceb2bfcee377c7bf949c7a2a471423192be33331a12cac5a"), looks := true }, kinds := [], alts := [], laidByText := true, laidKinds := [.data], laidTests := true, laidLooks := .later }
def PackingPlaysCardSaid : Prop := Claim7.holds Tryz.pinned (.plain (OpenSpec.ofChange packingPlaysSpec)) packingPlaysCard

/-- THE TIED CARD OF 'ullagelaw24.SlidePlays'. -/
def slidePlaysCard : Claim7 := { stood := { row := slidePlaysRow, standIns := [], harness := (true, "91e7984025ffff75ceb2bfcee377c7bf949c7a2a471423192be33331a12cac5a"), looks := true }, kinds := [], alts := [], laidByText := true, laidKinds := [.data], laidTests := true, laidLooks := .later }
def SlidePlaysCardSaid : Prop := Claim7.holds Tryz.pinned (.plain (OpenSpec.ofChange slidePlaysSpec)) slidePlaysCard

/-- THE TIED CARD OF 'ullagelaw24.SlideEnds'. -/
def slideEndsCard : Claim7 := { stood := { row := slideEndsRow, standIns := [], harness := (true, "91e7984025ffff75ceb2bfcee377c7bf949c7a2a471423192be33331a12cac5a"), looks := true }, kinds := [], alts := [], laidByText := true, laidKinds := [.data], laidTests := true, laidLooks := .later }
def SlideEndsCardSaid : Prop := Claim7.holds Tryz.pinned (.plain (OpenSpec.ofChange slideEndsSpec)) slideEndsCard

/-- THE TIED CARD OF 'ullagelaw24.SlideNobody'. -/
def slideNobodyCard : Claim7 := { stood := { row := slideNobodyRow, standIns := [], harness := (true, "91e7984025ffff75ceb2bfcee377c7bf949c7a2a471423192be33331a12cac5a"), looks := true }, kinds := [], alts := [], laidByText := true, laidKinds := [.data], laidTests := true, laidLooks := .later }
def SlideNobodyCardSaid : Prop := Claim7.holds Tryz.pinned (.plain (OpenSpec.ofChange slideNobodySpec)) slideNobodyCard

/-- THE TIED CARD OF 'ullagelaw24.SlideReads'. -/
def slideReadsCard : Claim7 := { stood := { row := slideReadsRow, standIns := [], harness := (true, "91e7984025ffff75ceb2bfcee377c7bf949c7a2a471423192be33331a12cac5a"), looks := true }, kinds := [], alts := [], laidByText := true, laidKinds := [.data], laidTests := true, laidLooks := .later }
def SlideReadsCardSaid : Prop := Claim7.holds Tryz.pinned (.plain (OpenSpec.ofChange slideReadsSpec)) slideReadsCard

/-- THE SECOND FORM's CARD OF 'ullagelaw25.CopyingAlike'. -/
def copyingAlikeUptoCard : Claim7 := { stood := { row := copyingAlikeUptoRow, standIns := [], harness := (true, "91e7984025ffff75ceb2bfcee377c7bf949c7a2a471423192be33331a12cac5a"), looks := true }, kinds := [], alts := [], laidByText := true, laidKinds := [.data], laidTests := true, laidLooks := .later }
def CopyingAlikeUptoCardSaid : Prop := Claim7.holds Tryz.pinned (.plain (OpenSpec.upto copyingAlikeSpec)) copyingAlikeUptoCard

/-- THE SECOND FORM's CARD OF 'ullagelaw25.CopyingNobody'. -/
def copyingNobodyUptoCard : Claim7 := { stood := { row := copyingNobodyUptoRow, standIns := [], harness := (true, "91e7984025ffff75ceb2bfcee377c7bf949c7a2a471423192be33331a12cac5a"), looks := true }, kinds := [], alts := [], laidByText := true, laidKinds := [.data], laidTests := true, laidLooks := .later }
def CopyingNobodyUptoCardSaid : Prop := Claim7.holds Tryz.pinned (.plain (OpenSpec.upto copyingNobodySpec)) copyingNobodyUptoCard

/-- THE SECOND FORM's CARD OF 'ullagelaw25.CopyingPlays'. -/
def copyingPlaysUptoCard : Claim7 := { stood := { row := copyingPlaysUptoRow, standIns := [], harness := (true, "91e7984025ffff75ceb2bfcee377c7bf949c7a2a471423192be33331a12cac5a"), looks := true }, kinds := [], alts := [], laidByText := true, laidKinds := [.data], laidTests := true, laidLooks := .later }
def CopyingPlaysUptoCardSaid : Prop := Claim7.holds Tryz.pinned (.plain (OpenSpec.upto copyingPlaysSpec)) copyingPlaysUptoCard

/-- THE SECOND FORM's CARD OF 'ullagelaw26.PackingAlike'. -/
def packingAlikeUptoCard : Claim7 := { stood := { row := packingAlikeUptoRow, standIns := [], harness := (true, "91e7984025ffff75ceb2bfcee377c7bf949c7a2a471423192be33331a12cac5a"), looks := true }, kinds := [], alts := [], laidByText := true, laidKinds := [.data], laidTests := true, laidLooks := .later }
def PackingAlikeUptoCardSaid : Prop := Claim7.holds Tryz.pinned (.plain (OpenSpec.upto packingAlikeSpec)) packingAlikeUptoCard

/-- THE SECOND FORM's CARD OF 'ullagelaw26.PackingNobody'. -/
def packingNobodyUptoCard : Claim7 := { stood := { row := packingNobodyUptoRow, standIns := [], harness := (true, "91e7984025ffff75ceb2bfcee377c7bf949c7a2a471423192be33331a12cac5a"), looks := true }, kinds := [], alts := [], laidByText := true, laidKinds := [.data], laidTests := true, laidLooks := .later }
def PackingNobodyUptoCardSaid : Prop := Claim7.holds Tryz.pinned (.plain (OpenSpec.upto packingNobodySpec)) packingNobodyUptoCard

/-- THE SECOND FORM's CARD OF 'ullagelaw26.PackingPlays'. -/
def packingPlaysUptoCard : Claim7 := { stood := { row := packingPlaysUptoRow, standIns := [], harness := (true, "91e7984025ffff75ceb2bfcee377c7bf949c7a2a471423192be33331a12cac5a"), looks := true }, kinds := [], alts := [], laidByText := true, laidKinds := [.data], laidTests := true, laidLooks := .later }
def PackingPlaysUptoCardSaid : Prop := Claim7.holds Tryz.pinned (.plain (OpenSpec.upto packingPlaysSpec)) packingPlaysUptoCard

/-- THE SECOND FORM's CARD OF 'ullagelaw24.SlidePlays'. -/
def slidePlaysUptoCard : Claim7 := { stood := { row := slidePlaysUptoRow, standIns := [], harness := (true, "91e7984025ffff75ceb2bfcee377c7bf949c7a2a471423192be33331a12cac5a"), looks := true }, kinds := [], alts := [], laidByText := true, laidKinds := [.data], laidTests := true, laidLooks := .later }
def SlidePlaysUptoCardSaid : Prop := Claim7.holds Tryz.pinned (.plain (OpenSpec.upto slidePlaysSpec)) slidePlaysUptoCard

/-- THE SECOND FORM's CARD OF 'ullagelaw24.SlideEnds'. -/
def slideEndsUptoCard : Claim7 := { stood := { row := slideEndsUptoRow, standIns := [], harness := (true, "91e7984025ffff75ceb2bfcee377c7bf949c7a2a471423192be33331a12cac5a"), looks := true }, kinds := [], alts := [], laidByText := true, laidKinds := [.data], laidTests := true, laidLooks := .later }
def SlideEndsUptoCardSaid : Prop := Claim7.holds Tryz.pinned (.plain (OpenSpec.upto slideEndsSpec)) slideEndsUptoCard

/-- THE SECOND FORM's CARD OF 'ullagelaw24.SlideNobody'. -/
def slideNobodyUptoCard : Claim7 := { stood := { row := slideNobodyUptoRow, standIns := [], harness := (true, "91e7984025ffff75ceb2bfcee377c7bf949c7a2a471423192be33331a12cac5a"), looks := true }, kinds := [], alts := [], laidByText := true, laidKinds := [.data], laidTests := true, laidLooks := .later }
def SlideNobodyUptoCardSaid : Prop := Claim7.holds Tryz.pinned (.plain (OpenSpec.upto slideNobodySpec)) slideNobodyUptoCard

/-- THE SECOND FORM's CARD OF 'ullagelaw24.SlideReads'. -/
def slideReadsUptoCard : Claim7 := { stood := { row := slideReadsUptoRow, standIns := [], harness := (true, "91e7984025ffff75ceb2bfcee377c7bf949c7a2a471423192be33331a12cac5a"), looks := true }, kinds := [], alts := [], laidByText := true, laidKinds := [.data], laidTests := true, laidLooks := .later }
def SlideReadsUptoCardSaid : Prop := Claim7.holds Tryz.pinned (.plain (OpenSpec.upto slideReadsSpec)) slideReadsUptoCard
end Rows
end Go.Proofs.YtbmidhlilafgeaaGreatDoor
