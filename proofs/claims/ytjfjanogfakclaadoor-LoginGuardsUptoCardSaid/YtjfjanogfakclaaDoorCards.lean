/-
  DERIVED. GIVEN WITH THE SEED: THE CARDS: each row of YtjfjanogfakclaaDoorRows.lean that lists a variable, with what it lists TIED to the program's text (the seventh form; the later family's looks); each row that meets fmt, with fmt's text TOLD by the authors' own Lean function (tested against real Go, not proved from fmt's source: count such statements apart). THE CARD IS WHAT COUNTS. Prove the row's statement (the work); the ties are given (YtjfjanogfakclaaDoorTie.lean); close each card by the builder's one call (the guide's Derived/Test/ToyasCard.lean, 'card_holds'). Laid BY PROGRAM, IN A SANDBOX (cutbox-door.mjs). By AI agents, Wed Nov 11 2026. No macro, syntax, notation, axiom, sorry.
-/
import Derived.Test.YtjfjanogfakclaaDoorRows
import GoSem.ClaimSeven
namespace Go.Proofs.YtjfjanogfakclaaDoor
namespace Rows

/-- THE TIED CARD OF 'palletlaw20.LoginGuards'. -/
def loginGuardsCard : Claim7 := { stood := { row := loginGuardsRow, standIns := [], harness := (true, "b3249288f66702011c732ccc37b0396b570ebcdb95c3e3a8ea30b02a1d14e0f3"), looks := true }, kinds := [], alts := [], laidByText := true, laidKinds := [.data, .data, .data, .data, .sentinel, .sentinel, .pinned], laidTests := true, laidLooks := .later }
def LoginGuardsCardSaid : Prop := Claim7.holds Tryd.pinned (.plain (OpenSpec.ofChange loginGuardsSpec)) loginGuardsCard

/-- THE TIED CARD OF 'palletlaw20.LoginProves'. -/
def loginProvesCard : Claim7 := { stood := { row := loginProvesRow, standIns := [], harness := (true, "b3249288f66702011c732ccc37b0396b570ebcdb95c3e3a8ea30b02a1d14e0f3"), looks := true }, kinds := [], alts := [], laidByText := true, laidKinds := [.data, .data, .data, .data, .sentinel, .sentinel, .pinned], laidTests := true, laidLooks := .later }
def LoginProvesCardSaid : Prop := Claim7.holds Tryd.pinned (.plain (OpenSpec.ofChange loginProvesSpec)) loginProvesCard

/-- THE TIED CARD OF 'palletlaw20.LoginSums'. -/
def loginSumsCard : Claim7 := { stood := { row := loginSumsRow, standIns := [], harness := (true, "b3249288f66702011c732ccc37b0396b570ebcdb95c3e3a8ea30b02a1d14e0f3"), looks := true }, kinds := [], alts := [], laidByText := true, laidKinds := [.data, .data, .data, .data, .sentinel, .sentinel, .pinned], laidTests := true, laidLooks := .later }
def LoginSumsCardSaid : Prop := Claim7.holds Tryd.pinned (.plain (OpenSpec.ofChange loginSumsSpec)) loginSumsCard

/-- THE TIED CARD OF 'palletlaw20.LoginNil'. -/
def loginNilCard : Claim7 := { stood := { row := loginNilRow, standIns := [], harness := (true, "b3249288f66702011c732ccc37b0396b570ebcdb95c3e3a8ea30b02a1d14e0f3"), looks := true }, kinds := [], alts := [], laidByText := true, laidKinds := [.data, .data, .data, .data, .sentinel, .sentinel, .pinned], laidTests := true, laidLooks := .later }
def LoginNilCardSaid : Prop := Claim7.holds Tryd.pinned (.plain (OpenSpec.ofChange loginNilSpec)) loginNilCard

/-- THE TIED CARD OF 'palletlaw20.LoginNames'. -/
def loginNamesCard : Claim7 := { stood := { row := loginNamesRow, standIns := [], harness := (true, "b3249288f66702011c732ccc37b0396b570ebcdb95c3e3a8ea30b02a1d14e0f3"), looks := true }, kinds := [], alts := [], laidByText := true, laidKinds := [.data, .data, .data, .data, .sentinel, .sentinel, .pinned], laidTests := true, laidLooks := .later }
def LoginNamesCardSaid : Prop := Claim7.holds Tryd.pinned (.plain (OpenSpec.ofChange loginNamesSpec)) loginNamesCard

/-- THE SECOND FORM's CARD OF 'palletlaw20.LoginGuards'. -/
def loginGuardsUptoCard : Claim7 := { stood := { row := loginGuardsUptoRow, standIns := [], harness := (true, "b3249288f66702011c732ccc37b0396b570ebcdb95c3e3a8ea30b02a1d14e0f3"), looks := true }, kinds := [], alts := [], laidByText := true, laidKinds := [.data, .data, .data, .data, .sentinel, .sentinel, .pinned], laidTests := true, laidLooks := .later }
def LoginGuardsUptoCardSaid : Prop := Claim7.holds Tryd.pinned (.plain (OpenSpec.upto loginGuardsSpec)) loginGuardsUptoCard

/-- THE SECOND FORM's CARD OF 'palletlaw20.LoginProves'. -/
def loginProvesUptoCard : Claim7 := { stood := { row := loginProvesUptoRow, standIns := [], harness := (true, "b3249288f66702011c732ccc37b0396b570ebcdb95c3e3a8ea30b02a1d14e0f3"), looks := true }, kinds := [], alts := [], laidByText := true, laidKinds := [.data, .data, .data, .data, .sentinel, .sentinel, .pinned], laidTests := true, laidLooks := .later }
def LoginProvesUptoCardSaid : Prop := Claim7.holds Tryd.pinned (.plain (OpenSpec.upto loginProvesSpec)) loginProvesUptoCard

/-- THE SECOND FORM's CARD OF 'palletlaw20.LoginSums'. -/
def loginSumsUptoCard : Claim7 := { stood := { row := loginSumsUptoRow, standIns := [], harness := (true, "b3249288f66702011c732ccc37b0396b570ebcdb95c3e3a8ea30b02a1d14e0f3"), looks := true }, kinds := [], alts := [], laidByText := true, laidKinds := [.data, .data, .data, .data, .sentinel, .sentinel, .pinned], laidTests := true, laidLooks := .later }
def LoginSumsUptoCardSaid : Prop := Claim7.holds Tryd.pinned (.plain (OpenSpec.upto loginSumsSpec)) loginSumsUptoCard

/-- THE SECOND FORM's CARD OF 'palletlaw20.LoginNil'. -/
def loginNilUptoCard : Claim7 := { stood := { row := loginNilUptoRow, standIns := [], harness := (true, "b3249288f66702011c732ccc37b0396b570ebcdb95c3e3a8ea30b02a1d14e0f3"), looks := true }, kinds := [], alts := [], laidByText := true, laidKinds := [.data, .data, .data, .data, .sentinel, .sentinel, .pinned], laidTests := true, laidLooks := .later }
def LoginNilUptoCardSaid : Prop := Claim7.holds Tryd.pinned (.plain (OpenSpec.upto loginNilSpec)) loginNilUptoCard

/-- THE SECOND FORM's CARD OF 'palletlaw20.LoginNames'. -/
def loginNamesUptoCard : Claim7 := { stood := { row := loginNamesUptoRow, standIns := [], harness := (true, "b3249288f66702011c732ccc37b0396b570ebcdb95c3e3a8ea30b02a1d14e0f3"), looks := true }, kinds := [], alts := [], laidByText := true, laidKinds := [.data, .data, .data, .data, .sentinel, .sentinel, .pinned], laidTests := true, laidLooks := .later }
def LoginNamesUptoCardSaid : Prop := Claim7.holds Tryd.pinned (.plain (OpenSpec.upto loginNamesSpec)) loginNamesUptoCard
end Rows
end Go.Proofs.YtjfjanogfakclaaDoor
