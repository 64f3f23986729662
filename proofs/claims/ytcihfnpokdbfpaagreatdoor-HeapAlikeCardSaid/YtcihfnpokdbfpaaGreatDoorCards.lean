/-
  DERIVED. GIVEN WITH THE SEED: THE CARDS: each row of YtcihfnpokdbfpaaGreatDoorRows.lean that lists a variable, with what it lists TIED to the program's text (the seventh form; the later family's looks); each row that meets fmt, with fmt's text TOLD by the authors' own Lean function (tested against real Go, not proved from fmt's source: count such statements apart). THE CARD IS WHAT COUNTS. Prove the row's statement (the work); the ties are given (YtcihfnpokdbfpaaGreatDoorTie.lean); close each card by the builder's one call (the guide's Derived/Test/ToyasCard.lean, 'card_holds'). Laid BY PROGRAM, IN A SANDBOX (cutbox-door.mjs). By AI agents, Wed Nov 11 2026. No macro, syntax, notation, axiom, sorry.
-/
import Derived.Test.YtcihfnpokdbfpaaGreatDoorRows
import GoSem.ClaimSeven
namespace Go.Proofs.YtcihfnpokdbfpaaGreatDoor
namespace Rows

/-- THE TIED CARD OF 'ullagelaw27.HeapQuiet'. -/
def heapQuietCard : Claim7 := { stood := { row := heapQuietRow, standIns := [], harness := (true, "5d89f82a3ba566b553abf8419bb9f5e9a90f1ba6cafd915cfaabe1803a3813a6"), looks := true }, kinds := [], alts := [], laidByText := true, laidKinds := [.data], laidTests := true, laidLooks := .later }
def HeapQuietCardSaid : Prop := Claim7.holds Tryz.pinned (.plain (OpenSpec.ofChange heapQuietSpec)) heapQuietCard

/-- THE TIED CARD OF 'ullagelaw27.HeapAlike'. -/
def heapAlikeCard : Claim7 := { stood := { row := heapAlikeRow, standIns := [], harness := (true, "5d89f82a3ba566b553abf8419bb9f5e9a90f1ba6cafd915cfaabe1803a3813a6"), looks := true }, kinds := [], alts := [], laidByText := true, laidKinds := [.data], laidTests := true, laidLooks := .later }
def HeapAlikeCardSaid : Prop := Claim7.holds Tryz.pinned (.plain (OpenSpec.ofChange heapAlikeSpec)) heapAlikeCard

/-- THE TIED CARD OF 'ullagelaw27.HeapEnds'. -/
def heapEndsCard : Claim7 := { stood := { row := heapEndsRow, standIns := [], harness := (true, "5d89f82a3ba566b553abf8419bb9f5e9a90f1ba6cafd915cfaabe1803a3813a6"), looks := true }, kinds := [], alts := [], laidByText := true, laidKinds := [.data], laidTests := true, laidLooks := .later }
def HeapEndsCardSaid : Prop := Claim7.holds Tryz.pinned (.plain (OpenSpec.ofChange heapEndsSpec)) heapEndsCard

/-- THE TIED CARD OF 'ullagelaw38.ListTurns'. -/
def listTurnsCard : Claim7 := { stood := { row := listTurnsRow, standIns := [], harness := (true, "5d89f82a3ba566b553abf8419bb9f5e9a90f1ba6cafd915cfaabe1803a3813a6"), looks := true }, kinds := [], alts := [], laidByText := true, laidKinds := [.data], laidTests := true, laidLooks := .later }
def ListTurnsCardSaid : Prop := Claim7.holds Tryz.pinned (.plain (OpenSpec.ofChange listTurnsSpec)) listTurnsCard

/-- THE TIED CARD OF 'ullagelaw41.TableSums'. -/
def tableSumsCard : Claim7 := { stood := { row := tableSumsRow, standIns := [], harness := (true, "5d89f82a3ba566b553abf8419bb9f5e9a90f1ba6cafd915cfaabe1803a3813a6"), looks := true }, kinds := [], alts := [], laidByText := true, laidKinds := [.data], laidTests := true, laidLooks := .later }
def TableSumsCardSaid : Prop := Claim7.holds Tryz.pinned (.plain (OpenSpec.ofChange tableSumsSpec)) tableSumsCard

/-- THE TIED CARD OF 'ullagelaw41.TableNobody'. -/
def tableNobodyCard : Claim7 := { stood := { row := tableNobodyRow, standIns := [], harness := (true, "5d89f82a3ba566b553abf8419bb9f5e9a90f1ba6cafd915cfaabe1803a3813a6"), looks := true }, kinds := [], alts := [], laidByText := true, laidKinds := [.data], laidTests := true, laidLooks := .later }
def TableNobodyCardSaid : Prop := Claim7.holds Tryz.pinned (.plain (OpenSpec.ofChange tableNobodySpec)) tableNobodyCard

/-- THE TIED CARD OF 'ullagelaw41.TablePlays'. -/
def tablePlaysCard : Claim7 := { stood := { row := tablePlaysRow, standIns := [], harness := (true, "5d89f82a3ba566b553abf8419bb9f5e9a90f1ba6cafd915cfaabe1803a3813a6"), looks := true }, kinds := [], alts := [], laidByText := true, laidKinds := [.data], laidTests := true, laidLooks := .later }
def TablePlaysCardSaid : Prop := Claim7.holds Tryz.pinned (.plain (OpenSpec.ofChange tablePlaysSpec)) tablePlaysCard

/-- THE SECOND FORM's CARD OF 'ullagelaw27.HeapQuiet'. -/
def heapQuietUptoCard : Claim7 := { stood := { row := heapQuietUptoRow, standIns := [], harness := (true, "5d89f82a3ba566b553abf8419bb9f5e9a90f1ba6cafd915cfaabe1803a3813a6"), looks := true }, kinds := [], alts := [], laidByText := true, laidKinds := [.data], laidTests := true, laidLooks := .later }
def HeapQuietUptoCardSaid : Prop := Claim7.holds Tryz.pinned (.plain (OpenSpec.upto heapQuietSpec)) heapQuietUptoCard

/-- THE SECOND FORM's CARD OF 'ullagelaw27.HeapAlike'. -/
def heapAlikeUptoCard : Claim7 := { stood := { row := heapAlikeUptoRow, standIns := [], harness := (true, "5d89f82a3ba566b553abf8419bb9f5e9a90f1ba6cafd915cfaabe1803a3813a6"), looks := true }, kinds := [], alts := [], laidByText := true, laidKinds := [.data], laidTests := true, laidLooks := .later }
def HeapAlikeUptoCardSaid : Prop := Claim7.holds Tryz.pinned (.plain (OpenSpec.upto heapAlikeSpec)) heapAlikeUptoCard

/-- THE SECOND FORM's CARD OF 'ullagelaw27.HeapEnds'. -/
def heapEndsUptoCard : Claim7 := { stood := { row := heapEndsUptoRow, standIns := [], harness := (true, "5d89f82a3ba566b553abf8419bb9f5e9a90f1ba6cafd915cfaabe1803a3813a6"), looks := true }, kinds := [], alts := [], laidByText := true, laidKinds := [.data], laidTests := true, laidLooks := .later }
def HeapEndsUptoCardSaid : Prop := Claim7.holds Tryz.pinned (.plain (OpenSpec.upto heapEndsSpec)) heapEndsUptoCard

/-- THE SECOND FORM's CARD OF 'ullagelaw38.ListTurns'. -/
def listTurnsUptoCard : Claim7 := { stood := { row := listTurnsUptoRow, standIns := [], harness := (true, "5d89f82a3ba566b553abf8419bb9f5e9a90f1ba6cafd915cfaabe1803a3813a6"), looks := true }, kinds := [], alts := [], laidByText := true, laidKinds := [.data], laidTests := true, laidLooks := .later }
def ListTurnsUptoCardSaid : Prop := Claim7.holds Tryz.pinned (.plain (OpenSpec.upto listTurnsSpec)) listTurnsUptoCard

/-- THE SECOND FORM's CARD OF 'ullagelaw41.TableSums'. -/
def tableSumsUptoCard : Claim7 := { stood := { row := tableSumsUptoRow, standIns := [], harness := (true, "5d89f82a3ba566b553abf8419bb9f5e9a90f1ba6cafd915cfaabe1803a3813a6"), looks := true }, kinds := [], alts := [], laidByText := true, laidKinds := [.data], laidTests := true, laidLooks := .later }
def TableSumsUptoCardSaid : Prop := Claim7.holds Tryz.pinned (.plain (OpenSpec.upto tableSumsSpec)) tableSumsUptoCard

/-- THE SECOND FORM's CARD OF 'ullagelaw41.TableNobody'. -/
def tableNobodyUptoCard : Claim7 := { stood := { row := tableNobodyUptoRow, standIns := [], harness := (true, "5d89f82a3ba566b553abf8419bb9f5e9a90f1ba6cafd915cfaabe1803a3813a6"), looks := true }, kinds := [], alts := [], laidByText := true, laidKinds := [.data], laidTests := true, laidLooks := .later }
def TableNobodyUptoCardSaid : Prop := Claim7.holds Tryz.pinned (.plain (OpenSpec.upto tableNobodySpec)) tableNobodyUptoCard

/-- THE SECOND FORM's CARD OF 'ullagelaw41.TablePlays'. -/
def tablePlaysUptoCard : Claim7 := { stood := { row := tablePlaysUptoRow, standIns := [], harness := (true, "5d89f82a3ba566b553abf8419bb9f5e9a90f1ba6cafd915cfaabe1803a3813a6"), looks := true }, kinds := [], alts := [], laidByText := true, laidKinds := [.data], laidTests := true, laidLooks := .later }
def TablePlaysUptoCardSaid : Prop := Claim7.holds Tryz.pinned (.plain (OpenSpec.upto tablePlaysSpec)) tablePlaysUptoCard
end Rows
end Go.Proofs.YtcihfnpokdbfpaaGreatDoor
