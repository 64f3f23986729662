/-
  DERIVED. GIVEN WITH THE SEED: THE CARDS: each row of YtmjoodkiiekjcaaGreatDoorRows.lean that lists a variable, with what it lists TIED to the program's text (the seventh form; the later family's looks); each row that meets fmt, with fmt's text TOLD by the authors' own Lean function (tested against real Go, not proved from fmt's source: count such statements apart). THE CARD IS WHAT COUNTS. Prove the row's statement (the work); the ties are given (YtmjoodkiiekjcaaGreatDoorTie.lean); close each card by the builder's one call (the guide's Derived/Test/ToyasCard.lean, 'card_holds'). Laid BY PROGRAM, IN A SANDBOX (cutbox-door.mjs). By AI agents, Wed Nov 11 2026. No macro, syntax, notation, axiom, sorry.
-/
import Derived.Test.YtmjoodkiiekjcaaGreatDoorRows
import GoSem.ClaimSeven
namespace Go.Proofs.YtmjoodkiiekjcaaGreatDoor
namespace Rows

/-- THE TIED CARD OF 'ullagelaw27.HeapFits'. -/
def heapFitsCard : Claim7 := { stood := { row := heapFitsRow, standIns := [], harness := (true, "77361c505f01908ff543b2a3a4aa2e25ca58937e0bd6442720ca94f0bf0990aa"), looks := true }, kinds := [], alts := [], laidByText := true, laidKinds := [.data], laidTests := true, laidLooks := .later }
def HeapFitsCardSaid : Prop := Claim7.holds Tryz.pinned (.plain (OpenSpec.ofChange heapFitsSpec)) heapFitsCard

/-- THE TIED CARD OF 'ullagelaw27.HeapEnds'. -/
def heapEndsCard : Claim7 := { stood := { row := heapEndsRow, standIns := [], harness := (true, "77361c505f01908ff543b2a3a4aa2e25ca58937e0bd6442720ca94f0bf0990aa"), looks := true }, kinds := [], alts := [], laidByText := true, laidKinds := [.data], laidTests := true, laidLooks := .later }
def HeapEndsCardSaid : Prop := Claim7.holds Tryz.pinned (.plain (OpenSpec.ofChange heapEndsSpec)) heapEndsCard

/-- THE TIED CARD OF 'ullagelaw27.HeapAlike'. -/
def heapAlikeCard : Claim7 := { stood := { row := heapAlikeRow, standIns := [], harness := (true, "77361c505f01908ff543b2a3a4aa2e25ca58937e0bd6442720ca94f0bf0990aa"), looks := true }, kinds := [], alts := [], laidByText := true, laidKinds := [.data], laidTests := true, laidLooks := .later }
def HeapAlikeCardSaid : Prop := Claim7.holds Tryz.pinned (.plain (OpenSpec.ofChange heapAlikeSpec)) heapAlikeCard

/-- THE TIED CARD OF 'ullagelaw27.HeapQuiet'. -/
def heapQuietCard : Claim7 := { stood := { row := heapQuietRow, standIns := [], harness := (true, "77361c505f01908ff543b2a3a4aa2e25ca58937e0bd6442720ca94f0bf0990aa"), looks := true }, kinds := [], alts := [], laidByText := true, laidKinds := [.data], laidTests := true, laidLooks := .later }
def HeapQuietCardSaid : Prop := Claim7.holds Tryz.pinned (.plain (OpenSpec.ofChange heapQuietSpec)) heapQuietCard

/-- THE TIED CARD OF 'ullagelaw27.HeapPlays'. -/
def heapPlaysCard : Claim7 := { stood := { row := heapPlaysRow, standIns := [], harness := (true, "77361c505f01908ff543b2a3a4aa2e25ca58937e0bd6442720ca94f0bf0990aa"), looks := true }, kinds := [], alts := [], laidByText := true, laidKinds := [.data], laidTests := true, laidLooks := .later }
def HeapPlaysCardSaid : Prop := Claim7.holds Tryz.pinned (.plain (OpenSpec.ofChange heapPlaysSpec)) heapPlaysCard

/-- THE TIED CARD OF 'ullagelaw27.HeapLays'. -/
def heapLaysCard : Claim7 := { stood := { row := heapLaysRow, standIns := [], harness := (true, "77361c505f01908ff543b2a3a4aa2e25ca58937e0bd6442720ca94f0bf0990aa"), looks := true }, kinds := [], alts := [], laidByText := true, laidKinds := [.data], laidTests := true, laidLooks := .later }
def HeapLaysCardSaid : Prop := Claim7.holds Tryz.pinned (.plain (OpenSpec.ofChange heapLaysSpec)) heapLaysCard

/-- THE TIED CARD OF 'ullagelaw27.HeapNobody'. -/
def heapNobodyCard : Claim7 := { stood := { row := heapNobodyRow, standIns := [], harness := (true, "77361c505f01908ff543b2a3a4aa2e25ca58937e0bd6442720ca94f0bf0990aa"), looks := true }, kinds := [], alts := [], laidByText := true, laidKinds := [.data], laidTests := true, laidLooks := .later }
def HeapNobodyCardSaid : Prop := Claim7.holds Tryz.pinned (.plain (OpenSpec.ofChange heapNobodySpec)) heapNobodyCard

/-- THE SECOND FORM's CARD OF 'ullagelaw27.HeapFits'. -/
def heapFitsUptoCard : Claim7 := { stood := { row := heapFitsUptoRow, standIns := [], harness := (true, "77361c505f01908ff543b2a3a4aa2e25ca58937e0bd6442720ca94f0bf0990aa"), looks := true }, kinds := [], alts := [], laidByText := true, laidKinds := [.data], laidTests := true, laidLooks := .later }
def HeapFitsUptoCardSaid : Prop := Claim7.holds Tryz.pinned (.plain (OpenSpec.upto heapFitsSpec)) heapFitsUptoCard

/-- THE SECOND FORM's CARD OF 'ullagelaw27.HeapEnds'. -/
def heapEndsUptoCard : Claim7 := { stood := { row := heapEndsUptoRow, standIns := [], harness := (true, "77361c505f01908ff543b2a3a4aa2e25ca58937e0bd6442720ca94f0bf0990aa"), looks := true }, kinds := [], alts := [], laidByText := true, laidKinds := [.data], laidTests := true, laidLooks := .later }
def HeapEndsUptoCardSaid : Prop := Claim7.holds Tryz.pinned (.plain (OpenSpec.upto heapEndsSpec)) heapEndsUptoCard

/-- THE SECOND FORM's CARD OF 'ullagelaw27.HeapAlike'. -/
def heapAlikeUptoCard : Claim7 := { stood := { row := heapAlikeUptoRow, standIns := [], harness := (true, "77361c505f01908ff543b2a3a4aa2e25ca58937e0bd6442720ca94f0bf0990aa"), looks := true }, kinds := [], alts := [], laidByText := true, laidKinds := [.data], laidTests := true, laidLooks := .later }
def HeapAlikeUptoCardSaid : Prop := Claim7.holds Tryz.pinned (.plain (OpenSpec.upto heapAlikeSpec)) heapAlikeUptoCard

/-- THE SECOND FORM's CARD OF 'ullagelaw27.HeapQuiet'. -/
def heapQuietUptoCard : Claim7 := { stood := { row := heapQuietUptoRow, standIns := [], harness := (true, "77361c505f01908ff543b2a3a4aa2e25ca58937e0bd6442720ca94f0bf0990aa"), looks := true }, kinds := [], alts := [], laidByText := true, laidKinds := [.data], laidTests := true, laidLooks := .later }
def HeapQuietUptoCardSaid : Prop := Claim7.holds Tryz.pinned (.plain (OpenSpec.upto heapQuietSpec)) heapQuietUptoCard

/-- THE SECOND FORM's CARD OF 'ullagelaw27.HeapPlays'. -/
def heapPlaysUptoCard : Claim7 := { stood := { row := heapPlaysUptoRow, standIns := [], harness := (true, "77361c505f01908ff543b2a3a4aa2e25ca58937e0bd6442720ca94f0bf0990aa"), looks := true }, kinds := [], alts := [], laidByText := true, laidKinds := [.data], laidTests := true, laidLooks := .later }
def HeapPlaysUptoCardSaid : Prop := Claim7.holds Tryz.pinned (.plain (OpenSpec.upto heapPlaysSpec)) heapPlaysUptoCard

/-- THE SECOND FORM's CARD OF 'ullagelaw27.HeapLays'. -/
def heapLaysUptoCard : Claim7 := { stood := { row := heapLaysUptoRow, standIns := [], harness := (true, "77361c505f01908ff543b2a3a4aa2e25ca58937e0bd6442720ca94f0bf0990aa"), looks := true }, kinds := [], alts := [], laidByText := true, laidKinds := [.data], laidTests := true, laidLooks := .later }
def HeapLaysUptoCardSaid : Prop := Claim7.holds Tryz.pinned (.plain (OpenSpec.upto heapLaysSpec)) heapLaysUptoCard

/-- THE SECOND FORM's CARD OF 'ullagelaw27.HeapNobody'. -/
def heapNobodyUptoCard : Claim7 := { stood := { row := heapNobodyUptoRow, standIns := [], harness := (true, "77361c505f01908ff543b2a3a4aa2e25ca58937e0bd6442720ca94f0bf0990aa"), looks := true }, kinds := [], alts := [], laidByText := true, laidKinds := [.data], laidTests := true, laidLooks := .later }
def HeapNobodyUptoCardSaid : Prop := Claim7.holds Tryz.pinned (.plain (OpenSpec.upto heapNobodySpec)) heapNobodyUptoCard
end Rows
end Go.Proofs.YtmjoodkiiekjcaaGreatDoor
