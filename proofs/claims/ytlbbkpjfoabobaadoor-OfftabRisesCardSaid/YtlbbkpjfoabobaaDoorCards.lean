/-
  DERIVED. GIVEN WITH THE SEED: THE CARDS: each row of YtlbbkpjfoabobaaDoorRows.lean that lists a variable, with what it lists TIED to the program's text (the seventh form; the later family's looks); each row that meets fmt, with fmt's text TOLD by the authors' own Lean function (tested against real Go, not proved from fmt's source: count such statements apart). THE CARD IS WHAT COUNTS. Prove the row's statement (the work); the ties are given (YtlbbkpjfoabobaaDoorTie.lean); close each card by the builder's one call (the guide's Derived/Test/ToyasCard.lean, 'card_holds'). Laid BY PROGRAM, IN A SANDBOX (cutbox-door.mjs). By AI agents, Wed Nov 11 2026. No macro, syntax, notation, axiom, sorry.
-/
import Derived.Test.YtlbbkpjfoabobaaDoorRows
import GoSem.ClaimSeven
namespace Go.Proofs.YtlbbkpjfoabobaaDoor
namespace Rows

/-- THE TIED CARD OF 'ullagelaw11.BitvecAdds'. -/
def bitvecAddsCard : Claim7 := { stood := { row := bitvecAddsRow, standIns := [], harness := (true, "ef856dbda15a7ad1f436f57fe47715072ca6a975cef9da8171670558ffb34fed"), looks := false }, kinds := [], alts := [], laidByText := true, laidKinds := [.data], laidTests := true, laidLooks := .later }
def BitvecAddsCardSaid : Prop := Claim7.holds Tryd.pinned (.plain (OpenSpec.ofChange bitvecAddsSpec)) bitvecAddsCard

/-- THE TIED CARD OF 'ullagelaw11.BitvecOnes'. -/
def bitvecOnesCard : Claim7 := { stood := { row := bitvecOnesRow, standIns := [], harness := (true, "ef856dbda15a7ad1f436f57fe47715072ca6a975cef9da8171670558ffb34fed"), looks := false }, kinds := [], alts := [], laidByText := true, laidKinds := [.data], laidTests := true, laidLooks := .later }
def BitvecOnesCardSaid : Prop := Claim7.holds Tryd.pinned (.plain (OpenSpec.ofChange bitvecOnesSpec)) bitvecOnesCard

/-- THE TIED CARD OF 'ullagelaw11.BitvecPlays'. -/
def bitvecPlaysCard : Claim7 := { stood := { row := bitvecPlaysRow, standIns := [], harness := (true, "ef856dbda15a7ad1f436f57fe47715072ca6a975cef9da8171670558ffb34fed"), looks := false }, kinds := [], alts := [], laidByText := true, laidKinds := [.data], laidTests := true, laidLooks := .later }
def BitvecPlaysCardSaid : Prop := Claim7.holds Tryd.pinned (.plain (OpenSpec.ofChange bitvecPlaysSpec)) bitvecPlaysCard

/-- THE TIED CARD OF 'ullagelaw12.RankBack'. -/
def rankBackCard : Claim7 := { stood := { row := rankBackRow, standIns := [], harness := (true, "ef856dbda15a7ad1f436f57fe47715072ca6a975cef9da8171670558ffb34fed"), looks := false }, kinds := [], alts := [], laidByText := true, laidKinds := [.data], laidTests := true, laidLooks := .later }
def RankBackCardSaid : Prop := Claim7.holds Tryd.pinned (.plain (OpenSpec.ofChange rankBackSpec)) rankBackCard

/-- THE TIED CARD OF 'ullagelaw11.BitvecCopies'. -/
def bitvecCopiesCard : Claim7 := { stood := { row := bitvecCopiesRow, standIns := [], harness := (true, "ef856dbda15a7ad1f436f57fe47715072ca6a975cef9da8171670558ffb34fed"), looks := false }, kinds := [], alts := [], laidByText := true, laidKinds := [.data], laidTests := true, laidLooks := .later }
def BitvecCopiesCardSaid : Prop := Claim7.holds Tryd.pinned (.plain (OpenSpec.ofChange bitvecCopiesSpec)) bitvecCopiesCard

/-- THE TIED CARD OF 'ullagelaw13.ExtentAdds'. -/
def extentAddsCard : Claim7 := { stood := { row := extentAddsRow, standIns := [], harness := (true, "ef856dbda15a7ad1f436f57fe47715072ca6a975cef9da8171670558ffb34fed"), looks := false }, kinds := [], alts := [], laidByText := true, laidKinds := [.data], laidTests := true, laidLooks := .later }
def ExtentAddsCardSaid : Prop := Claim7.holds Tryd.pinned (.plain (OpenSpec.ofChange extentAddsSpec)) extentAddsCard

/-- THE TIED CARD OF 'ullagelaw12.RankTells'. -/
def rankTellsCard : Claim7 := { stood := { row := rankTellsRow, standIns := [], harness := (true, "ef856dbda15a7ad1f436f57fe47715072ca6a975cef9da8171670558ffb34fed"), looks := false }, kinds := [], alts := [], laidByText := true, laidKinds := [.data], laidTests := true, laidLooks := .later }
def RankTellsCardSaid : Prop := Claim7.holds Tryd.pinned (.plain (OpenSpec.ofChange rankTellsSpec)) rankTellsCard

/-- THE TIED CARD OF 'ullagelaw12.RankNobody'. -/
def rankNobodyCard : Claim7 := { stood := { row := rankNobodyRow, standIns := [], harness := (true, "ef856dbda15a7ad1f436f57fe47715072ca6a975cef9da8171670558ffb34fed"), looks := false }, kinds := [], alts := [], laidByText := true, laidKinds := [.data], laidTests := true, laidLooks := .later }
def RankNobodyCardSaid : Prop := Claim7.holds Tryd.pinned (.plain (OpenSpec.ofChange rankNobodySpec)) rankNobodyCard

/-- THE TIED CARD OF 'ullagelaw11.BitvecNobody'. -/
def bitvecNobodyCard : Claim7 := { stood := { row := bitvecNobodyRow, standIns := [], harness := (true, "ef856dbda15a7ad1f436f57fe47715072ca6a975cef9da8171670558ffb34fed"), looks := false }, kinds := [], alts := [], laidByText := true, laidKinds := [.data], laidTests := true, laidLooks := .later }
def BitvecNobodyCardSaid : Prop := Claim7.holds Tryd.pinned (.plain (OpenSpec.ofChange bitvecNobodySpec)) bitvecNobodyCard

/-- THE TIED CARD OF 'ullagelaw13.ExtentPlays'. -/
def extentPlaysCard : Claim7 := { stood := { row := extentPlaysRow, standIns := [], harness := (true, "ef856dbda15a7ad1f436f57fe47715072ca6a975cef9da8171670558ffb34fed"), looks := false }, kinds := [], alts := [], laidByText := true, laidKinds := [.data], laidTests := true, laidLooks := .later }
def ExtentPlaysCardSaid : Prop := Claim7.holds Tryd.pinned (.plain (OpenSpec.ofChange extentPlaysSpec)) extentPlaysCard

/-- THE TIED CARD OF 'ullagelaw13.ExtentNobody'. -/
def extentNobodyCard : Claim7 := { stood := { row := extentNobodyRow, standIns := [], harness := (true, "ef856dbda15a7ad1f436f57fe47715072ca6a975cef9da8171670558ffb34fed"), looks := false }, kinds := [], alts := [], laidByText := true, laidKinds := [.data], laidTests := true, laidLooks := .later }
def ExtentNobodyCardSaid : Prop := Claim7.holds Tryd.pinned (.plain (OpenSpec.ofChange extentNobodySpec)) extentNobodyCard

/-- THE TIED CARD OF 'ullagelaw21.OfftabRises'. -/
def offtabRisesCard : Claim7 := { stood := { row := offtabRisesRow, standIns := [], harness := (true, "ef856dbda15a7ad1f436f57fe47715072ca6a975cef9da8171670558ffb34fed"), looks := false }, kinds := [], alts := [], laidByText := true, laidKinds := [.data], laidTests := true, laidLooks := .later }
def OfftabRisesCardSaid : Prop := Claim7.holds Tryd.pinned (.plain (OpenSpec.ofChange offtabRisesSpec)) offtabRisesCard

/-- THE SECOND FORM's CARD OF 'ullagelaw11.BitvecAdds'. -/
def bitvecAddsUptoCard : Claim7 := { stood := { row := bitvecAddsUptoRow, standIns := [], harness := (true, "ef856dbda15a7ad1f436f57fe47715072ca6a975cef9da8171670558ffb34fed"), looks := false }, kinds := [], alts := [], laidByText := true, laidKinds := [.data], laidTests := true, laidLooks := .later }
def BitvecAddsUptoCardSaid : Prop := Claim7.holds Tryd.pinned (.plain (OpenSpec.upto bitvecAddsSpec)) bitvecAddsUptoCard

/-- THE SECOND FORM's CARD OF 'ullagelaw11.BitvecOnes'. -/
def bitvecOnesUptoCard : Claim7 := { stood := { row := bitvecOnesUptoRow, standIns := [], harness := (true, "ef856dbda15a7ad1f436f57fe47715072ca6a975cef9da8171670558ffb34fed"), looks := false }, kinds := [], alts := [], laidByText := true, laidKinds := [.data], laidTests := true, laidLooks := .later }
def BitvecOnesUptoCardSaid : Prop := Claim7.holds Tryd.pinned (.plain (OpenSpec.upto bitvecOnesSpec)) bitvecOnesUptoCard

/-- THE SECOND FORM's CARD OF 'ullagelaw11.BitvecPlays'. -/
def bitvecPlaysUptoCard : Claim7 := { stood := { row := bitvecPlaysUptoRow, standIns := [], harness := (true, "ef856dbda15a7ad1f436f57fe47715072ca6a975cef9da8171670558ffb34fed"), looks := false }, kinds := [], alts := [], laidByText := true, laidKinds := [.data], laidTests := true, laidLooks := .later }
def BitvecPlaysUptoCardSaid : Prop := Claim7.holds Tryd.pinned (.plain (OpenSpec.upto bitvecPlaysSpec)) bitvecPlaysUptoCard

/-- THE SECOND FORM's CARD OF 'ullagelaw12.RankBack'. -/
def rankBackUptoCard : Claim7 := { stood := { row := rankBackUptoRow, standIns := [], harness := (true, "ef856dbda15a7ad1f436f57fe47715072ca6a975cef9da8171670558ffb34fed"), looks := false }, kinds := [], alts := [], laidByText := true, laidKinds := [.data], laidTests := true, laidLooks := .later }
def RankBackUptoCardSaid : Prop := Claim7.holds Tryd.pinned (.plain (OpenSpec.upto rankBackSpec)) rankBackUptoCard

/-- THE SECOND FORM's CARD OF 'ullagelaw11.BitvecCopies'. -/
def bitvecCopiesUptoCard : Claim7 := { stood := { row := bitvecCopiesUptoRow, standIns := [], harness := (true, "ef856dbda15a7ad1f436f57fe47715072ca6a975cef9da8171670558ffb34fed"), looks := false }, kinds := [], alts := [], laidByText := true, laidKinds := [.data], laidTests := true, laidLooks := .later }
def BitvecCopiesUptoCardSaid : Prop := Claim7.holds Tryd.pinned (.plain (OpenSpec.upto bitvecCopiesSpec)) bitvecCopiesUptoCard

/-- THE SECOND FORM's CARD OF 'ullagelaw13.ExtentAdds'. -/
def extentAddsUptoCard : Claim7 := { stood := { row := extentAddsUptoRow, standIns := [], harness := (true, "ef856dbda15a7ad1f436f57fe47715072ca6a975cef9da8171670558ffb34fed"), looks := false }, kinds := [], alts := [], laidByText := true, laidKinds := [.data], laidTests := true, laidLooks := .later }
def ExtentAddsUptoCardSaid : Prop := Claim7.holds Tryd.pinned (.plain (OpenSpec.upto extentAddsSpec)) extentAddsUptoCard

/-- THE SECOND FORM's CARD OF 'ullagelaw12.RankTells'. -/
def rankTellsUptoCard : Claim7 := { stood := { row := rankTellsUptoRow, standIns := [], harness := (true, "ef856dbda15a7ad1f436f57fe47715072ca6a975cef9da8171670558ffb34fed"), looks := false }, kinds := [], alts := [], laidByText := true, laidKinds := [.data], laidTests := true, laidLooks := .later }
def RankTellsUptoCardSaid : Prop := Claim7.holds Tryd.pinned (.plain (OpenSpec.upto rankTellsSpec)) rankTellsUptoCard

/-- THE SECOND FORM's CARD OF 'ullagelaw12.RankNobody'. -/
def rankNobodyUptoCard : Claim7 := { stood := { row := rankNobodyUptoRow, standIns := [], harness := (true, "ef856dbda15a7ad1f436f57fe47715072ca6a975cef9da8171670558ffb34fed"), looks := false }, kinds := [], alts := [], laidByText := true, laidKinds := [.data], laidTests := true, laidLooks := .later }
def RankNobodyUptoCardSaid : Prop := Claim7.holds Tryd.pinned (.plain (OpenSpec.upto rankNobodySpec)) rankNobodyUptoCard

/-- THE SECOND FORM's CARD OF 'ullagelaw11.BitvecNobody'. -/
def bitvecNobodyUptoCard : Claim7 := { stood := { row := bitvecNobodyUptoRow, standIns := [], harness := (true, "ef856dbda15a7ad1f436f57fe47715072ca6a975cef9da8171670558ffb34fed"), looks := false }, kinds := [], alts := [], laidByText := true, laidKinds := [.data], laidTests := true, laidLooks := .later }
def BitvecNobodyUptoCardSaid : Prop := Claim7.holds Tryd.pinned (.plain (OpenSpec.upto bitvecNobodySpec)) bitvecNobodyUptoCard

/-- THE SECOND FORM's CARD OF 'ullagelaw13.ExtentPlays'. -/
def extentPlaysUptoCard : Claim7 := { stood := { row := extentPlaysUptoRow, standIns := [], harness := (true, "ef856dbda15a7ad1f436f57fe47715072ca6a975cef9da8171670558ffb34fed"), looks := false }, kinds := [], alts := [], laidByText := true, laidKinds := [.data], laidTests := true, laidLooks := .later }
def ExtentPlaysUptoCardSaid : Prop := Claim7.holds Tryd.pinned (.plain (OpenSpec.upto extentPlaysSpec)) extentPlaysUptoCard

/-- THE SECOND FORM's CARD OF 'ullagelaw13.ExtentNobody'. -/
def extentNobodyUptoCard : Claim7 := { stood := { row := extentNobodyUptoRow, standIns := [], harness := (true, "ef856dbda15a7ad1f436f57fe47715072ca6a975cef9da8171670558ffb34fed"), looks := false }, kinds := [], alts := [], laidByText := true, laidKinds := [.data], laidTests := true, laidLooks := .later }
def ExtentNobodyUptoCardSaid : Prop := Claim7.holds Tryd.pinned (.plain (OpenSpec.upto extentNobodySpec)) extentNobodyUptoCard

/-- THE SECOND FORM's CARD OF 'ullagelaw21.OfftabRises'. -/
def offtabRisesUptoCard : Claim7 := { stood := { row := offtabRisesUptoRow, standIns := [], harness := (true, "ef856dbda15a7ad1f436f57fe47715072ca6a975cef9da8171670558ffb34fed"), looks := false }, kinds := [], alts := [], laidByText := true, laidKinds := [.data], laidTests := true, laidLooks := .later }
def OfftabRisesUptoCardSaid : Prop := Claim7.holds Tryd.pinned (.plain (OpenSpec.upto offtabRisesSpec)) offtabRisesUptoCard
end Rows
end Go.Proofs.YtlbbkpjfoabobaaDoor
