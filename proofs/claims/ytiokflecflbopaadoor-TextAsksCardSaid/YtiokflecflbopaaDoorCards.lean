/-
  DERIVED. GIVEN WITH THE SEED: THE CARDS: each row of YtiokflecflbopaaDoorRows.lean that lists a variable, with what it lists TIED to the program's text (the seventh form; the later family's looks); each row that meets fmt, with fmt's text TOLD by the authors' own Lean function (tested against real Go, not proved from fmt's source: count such statements apart). THE CARD IS WHAT COUNTS. Prove the row's statement (the work); the ties are given (YtiokflecflbopaaDoorTie.lean); close each card by the builder's one call (the guide's Derived/Test/ToyasCard.lean, 'card_holds'). Laid BY PROGRAM, IN A SANDBOX (cutbox-door.mjs). By AI agents, Wed Nov 11 2026. No macro, syntax, notation, axiom, sorry.
-/
import Derived.Test.YtiokflecflbopaaDoorRows
import GoSem.ClaimSeven
namespace Go.Proofs.YtiokflecflbopaaDoor
namespace Rows

/-- THE TIED CARD OF 'palletlaw18.TextAgrees'. -/
def textAgreesCard : Claim7 := { stood := { row := textAgreesRow, standIns := [], harness := (true, "c2e45377789e7775361b0018a8c74cc0785b4ce36e63d8a130de2cd37919ced6"), looks := true }, kinds := [], alts := [], laidByText := true, laidKinds := [.data, .data, .data, .sentinel, .sentinel], laidTests := true, laidLooks := .later }
def TextAgreesCardSaid : Prop := Claim7.holds Tryd.pinned (.plain (OpenSpec.ofChange textAgreesSpec)) textAgreesCard

/-- THE TIED CARD OF 'palletlaw18.TextAsks'. -/
def textAsksCard : Claim7 := { stood := { row := textAsksRow, standIns := [], harness := (true, "c2e45377789e7775361b0018a8c74cc0785b4ce36e63d8a130de2cd37919ced6"), looks := true }, kinds := [], alts := [], laidByText := true, laidKinds := [.data, .data, .data, .data, .sentinel, .sentinel, .pinned], laidTests := true, laidLooks := .later }
def TextAsksCardSaid : Prop := Claim7.holds Tryd.pinned (.plain (OpenSpec.ofChange textAsksSpec)) textAsksCard

/-- THE SECOND FORM's CARD OF 'palletlaw18.TextAgrees'. -/
def textAgreesUptoCard : Claim7 := { stood := { row := textAgreesUptoRow, standIns := [], harness := (true, "c2e45377789e7775361b0018a8c74cc0785b4ce36e63d8a130de2cd37919ced6"), looks := true }, kinds := [], alts := [], laidByText := true, laidKinds := [.data, .data, .data, .sentinel, .sentinel], laidTests := true, laidLooks := .later }
def TextAgreesUptoCardSaid : Prop := Claim7.holds Tryd.pinned (.plain (OpenSpec.upto textAgreesSpec)) textAgreesUptoCard

/-- THE SECOND FORM's CARD OF 'palletlaw18.TextAsks'. -/
def textAsksUptoCard : Claim7 := { stood := { row := textAsksUptoRow, standIns := [], harness := (true, "c2e45377789e7775361b0018a8c74cc0785b4ce36e63d8a130de2cd37919ced6"), looks := true }, kinds := [], alts := [], laidByText := true, laidKinds := [.data, .data, .data, .data, .sentinel, .sentinel, .pinned], laidTests := true, laidLooks := .later }
def TextAsksUptoCardSaid : Prop := Claim7.holds Tryd.pinned (.plain (OpenSpec.upto textAsksSpec)) textAsksUptoCard
end Rows
end Go.Proofs.YtiokflecflbopaaDoor
