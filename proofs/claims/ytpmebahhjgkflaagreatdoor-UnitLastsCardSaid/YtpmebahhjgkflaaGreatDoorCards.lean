/-
  DERIVED. GIVEN WITH THE SEED: THE CARDS: each row of YtpmebahhjgkflaaGreatDoorRows.lean that lists a variable, with what it lists TIED to the program's text (the seventh form; the later family's looks); each row that meets fmt, with fmt's text TOLD by the authors' own Lean function (tested against real Go, not proved from fmt's source: count such statements apart). THE CARD IS WHAT COUNTS. Prove the row's statement (the work); the ties are given (YtpmebahhjgkflaaGreatDoorTie.lean); close each card by the builder's one call (the guide's Derived/Test/ToyasCard.lean, 'card_holds'). Laid BY PROGRAM, IN A SANDBOX (cutbox-door.mjs). By AI agents, Wed Nov 11 2026. No macro, syntax, notation, axiom, sorry.
-/
import Derived.Test.YtpmebahhjgkflaaGreatDoorRows
import GoSem.ClaimSeven
namespace Go.Proofs.YtpmebahhjgkflaaGreatDoor
namespace Rows

/-- THE TIED CARD OF 'palletlaw16.UnitAttends'. -/
def unitAttendsCard : Claim7 := { stood := { row := unitAttendsRow, standIns := [], harness := (true, "340f1351e3a2f3ee40ecfe04e703320a6b2f1d4a3ac7c8c8b10d5e534216938b"), looks := true }, kinds := [], alts := [], laidByText := true, laidKinds := [.data, .pinned], laidTests := true, laidLooks := .later }
def UnitAttendsCardSaid : Prop := Claim7.holds Tryz.pinned (.plain (OpenSpec.ofChange unitAttendsSpec)) unitAttendsCard

/-- THE TIED CARD OF 'palletlaw16.UnitPeers'. -/
def unitPeersCard : Claim7 := { stood := { row := unitPeersRow, standIns := [], harness := (true, "340f1351e3a2f3ee40ecfe04e703320a6b2f1d4a3ac7c8c8b10d5e534216938b"), looks := true }, kinds := [], alts := [], laidByText := true, laidKinds := [.data, .pinned], laidTests := true, laidLooks := .later }
def UnitPeersCardSaid : Prop := Claim7.holds Tryz.pinned (.plain (OpenSpec.ofChange unitPeersSpec)) unitPeersCard

/-- THE TIED CARD OF 'palletlaw16.UnitExcludes'. -/
def unitExcludesCard : Claim7 := { stood := { row := unitExcludesRow, standIns := [], harness := (true, "340f1351e3a2f3ee40ecfe04e703320a6b2f1d4a3ac7c8c8b10d5e534216938b"), looks := true }, kinds := [], alts := [], laidByText := true, laidKinds := [.data, .pinned], laidTests := true, laidLooks := .later }
def UnitExcludesCardSaid : Prop := Claim7.holds Tryz.pinned (.plain (OpenSpec.ofChange unitExcludesSpec)) unitExcludesCard

/-- THE TIED CARD OF 'palletlaw16.UnitCounts'. -/
def unitCountsCard : Claim7 := { stood := { row := unitCountsRow, standIns := [], harness := (true, "340f1351e3a2f3ee40ecfe04e703320a6b2f1d4a3ac7c8c8b10d5e534216938b"), looks := true }, kinds := [], alts := [], laidByText := true, laidKinds := [.data, .pinned], laidTests := true, laidLooks := .later }
def UnitCountsCardSaid : Prop := Claim7.holds Tryz.pinned (.plain (OpenSpec.ofChange unitCountsSpec)) unitCountsCard

/-- THE TIED CARD OF 'palletlaw16.UnitNews'. -/
def unitNewsCard : Claim7 := { stood := { row := unitNewsRow, standIns := [], harness := (true, "340f1351e3a2f3ee40ecfe04e703320a6b2f1d4a3ac7c8c8b10d5e534216938b"), looks := true }, kinds := [], alts := [], laidByText := true, laidKinds := [.data, .pinned], laidTests := true, laidLooks := .later }
def UnitNewsCardSaid : Prop := Claim7.holds Tryz.pinned (.plain (OpenSpec.ofChange unitNewsSpec)) unitNewsCard

/-- THE TIED CARD OF 'palletlaw16.UnitLasts'. -/
def unitLastsCard : Claim7 := { stood := { row := unitLastsRow, standIns := [], harness := (true, "340f1351e3a2f3ee40ecfe04e703320a6b2f1d4a3ac7c8c8b10d5e534216938b"), looks := true }, kinds := [], alts := [], laidByText := true, laidKinds := [.data, .pinned], laidTests := true, laidLooks := .later }
def UnitLastsCardSaid : Prop := Claim7.holds Tryz.pinned (.plain (OpenSpec.ofChange unitLastsSpec)) unitLastsCard

/-- THE TIED CARD OF 'palletlaw16.UnitSenses'. -/
def unitSensesCard : Claim7 := { stood := { row := unitSensesRow, standIns := [], harness := (true, "340f1351e3a2f3ee40ecfe04e703320a6b2f1d4a3ac7c8c8b10d5e534216938b"), looks := true }, kinds := [], alts := [], laidByText := true, laidKinds := [.data, .pinned], laidTests := true, laidLooks := .later }
def UnitSensesCardSaid : Prop := Claim7.holds Tryz.pinned (.plain (OpenSpec.ofChange unitSensesSpec)) unitSensesCard

/-- THE SECOND FORM's CARD OF 'palletlaw16.UnitAttends'. -/
def unitAttendsUptoCard : Claim7 := { stood := { row := unitAttendsUptoRow, standIns := [], harness := (true, "340f1351e3a2f3ee40ecfe04e703320a6b2f1d4a3ac7c8c8b10d5e534216938b"), looks := true }, kinds := [], alts := [], laidByText := true, laidKinds := [.data, .pinned], laidTests := true, laidLooks := .later }
def UnitAttendsUptoCardSaid : Prop := Claim7.holds Tryz.pinned (.plain (OpenSpec.upto unitAttendsSpec)) unitAttendsUptoCard

/-- THE SECOND FORM's CARD OF 'palletlaw16.UnitPeers'. -/
def unitPeersUptoCard : Claim7 := { stood := { row := unitPeersUptoRow, standIns := [], harness := (true, "340f1351e3a2f3ee40ecfe04e703320a6b2f1d4a3ac7c8c8b10d5e534216938b"), looks := true }, kinds := [], alts := [], laidByText := true, laidKinds := [.data, .pinned], laidTests := true, laidLooks := .later }
def UnitPeersUptoCardSaid : Prop := Claim7.holds Tryz.pinned (.plain (OpenSpec.upto unitPeersSpec)) unitPeersUptoCard

/-- THE SECOND FORM's CARD OF 'palletlaw16.UnitExcludes'. -/
def unitExcludesUptoCard : Claim7 := { stood := { row := unitExcludesUptoRow, standIns := [], harness := (true, "340f1351e3a2f3ee40ecfe04e703320a6b2f1d4a3ac7c8c8b10d5e534216938b"), looks := true }, kinds := [], alts := [], laidByText := true, laidKinds := [.data, .pinned], laidTests := true, laidLooks := .later }
def UnitExcludesUptoCardSaid : Prop := Claim7.holds Tryz.pinned (.plain (OpenSpec.upto unitExcludesSpec)) unitExcludesUptoCard

/-- THE SECOND FORM's CARD OF 'palletlaw16.UnitCounts'. -/
def unitCountsUptoCard : Claim7 := { stood := { row := unitCountsUptoRow, standIns := [], harness := (true, "340f1351e3a2f3ee40ecfe04e703320a6b2f1d4a3ac7c8c8b10d5e534216938b"), looks := true }, kinds := [], alts := [], laidByText := true, laidKinds := [.data, .pinned], laidTests := true, laidLooks := .later }
def UnitCountsUptoCardSaid : Prop := Claim7.holds Tryz.pinned (.plain (OpenSpec.upto unitCountsSpec)) unitCountsUptoCard

/-- THE SECOND FORM's CARD OF 'palletlaw16.UnitNews'. -/
def unitNewsUptoCard : Claim7 := { stood := { row := unitNewsUptoRow, standIns := [], harness := (true, "340f1351e3a2f3ee40ecfe04e703320a6b2f1d4a3ac7c8c8b10d5e534216938b"), looks := true }, kinds := [], alts := [], laidByText := true, laidKinds := [.data, .pinned], laidTests := true, laidLooks := .later }
def UnitNewsUptoCardSaid : Prop := Claim7.holds Tryz.pinned (.plain (OpenSpec.upto unitNewsSpec)) unitNewsUptoCard

/-- THE SECOND FORM's CARD OF 'palletlaw16.UnitLasts'. -/
def unitLastsUptoCard : Claim7 := { stood := { row := unitLastsUptoRow, standIns := [], harness := (true, "340f1351e3a2f3ee40ecfe04e703320a6b2f1d4a3ac7c8c8b10d5e534216938b"), looks := true }, kinds := [], alts := [], laidByText := true, laidKinds := [.data, .pinned], laidTests := true, laidLooks := .later }
def UnitLastsUptoCardSaid : Prop := Claim7.holds Tryz.pinned (.plain (OpenSpec.upto unitLastsSpec)) unitLastsUptoCard

/-- THE SECOND FORM's CARD OF 'palletlaw16.UnitSenses'. -/
def unitSensesUptoCard : Claim7 := { stood := { row := unitSensesUptoRow, standIns := [], harness := (true, "340f1351e3a2f3ee40ecfe04e703320a6b2f1d4a3ac7c8c8b10d5e534216938b"), looks := true }, kinds := [], alts := [], laidByText := true, laidKinds := [.data, .pinned], laidTests := true, laidLooks := .later }
def UnitSensesUptoCardSaid : Prop := Claim7.holds Tryz.pinned (.plain (OpenSpec.upto unitSensesSpec)) unitSensesUptoCard
end Rows
end Go.Proofs.YtpmebahhjgkflaaGreatDoor
