/-
  DERIVED. GIVEN WITH THE SEED: THE CARDS: each row of YtaneeadpjelomaaDoorRows.lean that lists a variable, with what it lists TIED to the program's text (the seventh form; the later family's looks); each row that meets fmt, with fmt's text TOLD by the authors' own Lean function (tested against real Go, not proved from fmt's source: count such statements apart). THE CARD IS WHAT COUNTS. Prove the row's statement (the work); the ties are given (YtaneeadpjelomaaDoorTie.lean); close each card by the builder's one call (the guide's Derived/Test/ToyasCard.lean, 'card_holds'). Laid BY PROGRAM, IN A SANDBOX (cutbox-door.mjs). By AI agents, Wed Nov 11 2026. No macro, syntax, notation, axiom, sorry.
-/
import Derived.Test.YtaneeadpjelomaaDoorRows
import GoSem.ClaimSeven
namespace Go.Proofs.YtaneeadpjelomaaDoor
namespace Rows

/-- THE TIED CARD OF 'palletlaw15.XcopyReads'. -/
def xcopyReadsCard : Claim7 := { stood := { row := xcopyReadsRow, standIns := [], harness := (true, "00eb8bd3ba5c2b6e66a68b638b917916a31a6761f00e040fa835b22c3a29b202"), looks := false }, kinds := [], alts := [], laidByText := true, laidKinds := [.data, .pinned], laidTests := true, laidLooks := .later }
def XcopyReadsCardSaid : Prop := Claim7.holds Tryd.pinned (.plain (OpenSpec.ofChange xcopyReadsSpec)) xcopyReadsCard

/-- THE TIED CARD OF 'palletlaw15.XcopyBytes'. -/
def xcopyBytesCard : Claim7 := { stood := { row := xcopyBytesRow, standIns := [], harness := (true, "00eb8bd3ba5c2b6e66a68b638b917916a31a6761f00e040fa835b22c3a29b202"), looks := false }, kinds := [], alts := [], laidByText := true, laidKinds := [.data, .pinned], laidTests := true, laidLooks := .later }
def XcopyBytesCardSaid : Prop := Claim7.holds Tryd.pinned (.plain (OpenSpec.ofChange xcopyBytesSpec)) xcopyBytesCard

/-- THE TIED CARD OF 'palletlaw15.XcopySpoils'. -/
def xcopySpoilsCard : Claim7 := { stood := { row := xcopySpoilsRow, standIns := [], harness := (true, "00eb8bd3ba5c2b6e66a68b638b917916a31a6761f00e040fa835b22c3a29b202"), looks := false }, kinds := [], alts := [], laidByText := true, laidKinds := [.data, .pinned], laidTests := true, laidLooks := .later }
def XcopySpoilsCardSaid : Prop := Claim7.holds Tryd.pinned (.plain (OpenSpec.ofChange xcopySpoilsSpec)) xcopySpoilsCard

/-- THE TIED CARD OF 'palletlaw15.XcopyMoves'. -/
def xcopyMovesCard : Claim7 := { stood := { row := xcopyMovesRow, standIns := [], harness := (true, "00eb8bd3ba5c2b6e66a68b638b917916a31a6761f00e040fa835b22c3a29b202"), looks := false }, kinds := [], alts := [], laidByText := true, laidKinds := [.data, .pinned], laidTests := true, laidLooks := .later }
def XcopyMovesCardSaid : Prop := Claim7.holds Tryd.pinned (.plain (OpenSpec.ofChange xcopyMovesSpec)) xcopyMovesCard

/-- THE TIED CARD OF 'palletlaw15.XcopyStops'. -/
def xcopyStopsCard : Claim7 := { stood := { row := xcopyStopsRow, standIns := [], harness := (true, "00eb8bd3ba5c2b6e66a68b638b917916a31a6761f00e040fa835b22c3a29b202"), looks := false }, kinds := [], alts := [], laidByText := true, laidKinds := [.data, .pinned], laidTests := true, laidLooks := .later }
def XcopyStopsCardSaid : Prop := Claim7.holds Tryd.pinned (.plain (OpenSpec.ofChange xcopyStopsSpec)) xcopyStopsCard

/-- THE SECOND FORM's CARD OF 'palletlaw15.XcopyReads'. -/
def xcopyReadsUptoCard : Claim7 := { stood := { row := xcopyReadsUptoRow, standIns := [], harness := (true, "00eb8bd3ba5c2b6e66a68b638b917916a31a6761f00e040fa835b22c3a29b202"), looks := false }, kinds := [], alts := [], laidByText := true, laidKinds := [.data, .pinned], laidTests := true, laidLooks := .later }
def XcopyReadsUptoCardSaid : Prop := Claim7.holds Tryd.pinned (.plain (OpenSpec.upto xcopyReadsSpec)) xcopyReadsUptoCard

/-- THE SECOND FORM's CARD OF 'palletlaw15.XcopyBytes'. -/
def xcopyBytesUptoCard : Claim7 := { stood := { row := xcopyBytesUptoRow, standIns := [], harness := (true, "00eb8bd3ba5c2b6e66a68b638b917916a31a6761f00e040fa835b22c3a29b202"), looks := false }, kinds := [], alts := [], laidByText := true, laidKinds := [.data, .pinned], laidTests := true, laidLooks := .later }
def XcopyBytesUptoCardSaid : Prop := Claim7.holds Tryd.pinned (.plain (OpenSpec.upto xcopyBytesSpec)) xcopyBytesUptoCard

/-- THE SECOND FORM's CARD OF 'palletlaw15.XcopySpoils'. -/
def xcopySpoilsUptoCard : Claim7 := { stood := { row := xcopySpoilsUptoRow, standIns := [], harness := (true, "00eb8bd3ba5c2b6e66a68b638b917916a31a6761f00e040fa835b22c3a29b202"), looks := false }, kinds := [], alts := [], laidByText := true, laidKinds := [.data, .pinned], laidTests := true, laidLooks := .later }
def XcopySpoilsUptoCardSaid : Prop := Claim7.holds Tryd.pinned (.plain (OpenSpec.upto xcopySpoilsSpec)) xcopySpoilsUptoCard

/-- THE SECOND FORM's CARD OF 'palletlaw15.XcopyMoves'. -/
def xcopyMovesUptoCard : Claim7 := { stood := { row := xcopyMovesUptoRow, standIns := [], harness := (true, "00eb8bd3ba5c2b6e66a68b638b917916a31a6761f00e040fa835b22c3a29b202"), looks := false }, kinds := [], alts := [], laidByText := true, laidKinds := [.data, .pinned], laidTests := true, laidLooks := .later }
def XcopyMovesUptoCardSaid : Prop := Claim7.holds Tryd.pinned (.plain (OpenSpec.upto xcopyMovesSpec)) xcopyMovesUptoCard

/-- THE SECOND FORM's CARD OF 'palletlaw15.XcopyStops'. -/
def xcopyStopsUptoCard : Claim7 := { stood := { row := xcopyStopsUptoRow, standIns := [], harness := (true, "00eb8bd3ba5c2b6e66a68b638b917916a31a6761f00e040fa835b22c3a29b202"), looks := false }, kinds := [], alts := [], laidByText := true, laidKinds := [.data, .pinned], laidTests := true, laidLooks := .later }
def XcopyStopsUptoCardSaid : Prop := Claim7.holds Tryd.pinned (.plain (OpenSpec.upto xcopyStopsSpec)) xcopyStopsUptoCard
end Rows
end Go.Proofs.YtaneeadpjelomaaDoor
