/-
  NARROWER THAN 'FOR EVERY INPUT', by the rows' own cells (each row's printed sentence says how): XcopyReads: laid · XcopyBytes: laid · XcopySpoils: laid · XcopyMoves: laid · XcopyStops: laid.
  DERIVED. THE GIVEN ROWS OF THIS SEAT. 5 by the template 'for every input the law returns true; each argument reads behind the call as it read before'; 0 by the template 'total and deterministic' (their statements: YtaneeadpjelomaaDoorTotals.lean).
  GIVEN WITH THE SEED: the statements are not yours to turn. If you find one false, say at which input.
  Laid BY PROGRAM, IN A SANDBOX (cutbox-rows.mjs): the forced cells as the released guide's own fill.sh prints them over the translation 9955fc69f521ccef… (all of the seat's roots in one cut). By AI agents, Wed Nov 11 2026. No macro, syntax, notation, axiom, sorry.
-/
import Derived.Test.YtaneeadpjelomaaDoorChecked
import GoSem.PinnedTables
import GoSem.Claim
import GoSem.ClaimJoined
import GoSem.ClaimMapViews
import Derived.JoinedTies
import Derived.KernelRfl
namespace Go.Proofs.YtaneeadpjelomaaDoor
/- THE CELL 'sum', in the pinned program and in every row, IS THE sha256 OF THE DUMP (.gsa) THAT YtaneeadpjelomaaDoorProg.lean LOADS. Nothing in Lean hashes anything: it is a label: what it is worth is what the hold of that sum in a sandbox is worth. -/
noncomputable def Tryd.pinned : Pinned := { name := "ytaneeadpjelomaadoor", sum := "9955fc69f521ccefc636966db5de71cca52eaa2d29baeb11811a09d51e8828ef", checked := Tryd.checked }
namespace Rows
def none {H : Type} : Left H := { results := [], args := [] }

/- WHAT THE LISTED PACKAGE-LEVEL VARIABLES READ AS WHEN THE CALL BEGINS. Each datum BY PROGRAM (the guide's laid-datum.mjs) off the statement by which the dump's own 'gosem.cut.vars' lays the variable. In a bare row this is a premise. The card (YtaneeadpjelomaaDoorCards.lean) ties it to the program's text. -/
def laid_unicode_utf8_acceptRanges {H : Type} : DataW H := .agg [.agg [.lit (.int .u8 128), .lit (.int .u8 191)], .agg [.lit (.int .u8 160), .lit (.int .u8 191)], .agg [.lit (.int .u8 128), .lit (.int .u8 159)], .agg [.lit (.int .u8 144), .lit (.int .u8 191)], .agg [.lit (.int .u8 128), .lit (.int .u8 143)], .agg [.lit (.int .u8 0), .lit (.int .u8 0)], .agg [.lit (.int .u8 0), .lit (.int .u8 0)], .agg [.lit (.int .u8 0), .lit (.int .u8 0)], .agg [.lit (.int .u8 0), .lit (.int .u8 0)], .agg [.lit (.int .u8 0), .lit (.int .u8 0)], .agg [.lit (.int .u8 0), .lit (.int .u8 0)], .agg [.lit (.int .u8 0), .lit (.int .u8 0)], .agg [.lit (.int .u8 0), .lit (.int .u8 0)], .agg [.lit (.int .u8 0), .lit (.int .u8 0)], .agg [.lit (.int .u8 0), .lit (.int .u8 0)], .agg [.lit (.int .u8 0), .lit (.int .u8 0)]]
/-- One of Go's own tables, pinned by name: the form's constant. -/
def laid_unicode_utf8_first : DataW Unit := Go.Pinned.utf8First

/-- 'palletlaw15.XcopyReads': WHATEVER THE INPUT: true; the input reads as it did. -/
def xcopyReadsSpec : ChangeSpec := { name := "xcopyReads", fn := fun _ => fun
  | [d] => { results := [.lit (.bool true)], args := [d] }
  | _ => none }
def xcopyReadsRow : OpenClaim := { program := "ytaneeadpjelomaadoor", sum := "9955fc69f521ccefc636966db5de71cca52eaa2d29baeb11811a09d51e8828ef", func := "pallet/palletlaw15.XcopyReads", spec := "xcopyReads", inPlace := ["internal/bytealg.IndexByteString", "internal/bytealg.IndexString"], named := ["unicode/utf8.first", "unicode/utf8.acceptRanges", "internal/bytealg.MaxLen"], apart := false, laid := [("unicode/utf8.acceptRanges", laid_unicode_utf8_acceptRanges), ("unicode/utf8.first", laid_unicode_utf8_first)] }
def XcopyReadsSaid : Prop := xcopyReadsRow.holds Tryd.pinned (OpenSpec.ofChange xcopyReadsSpec)

/-- ITS FALSE NEIGHBOUR: 'it returns false'. Refute it at one input. -/
def xcopyReadsWrong : ChangeSpec := { name := "xcopyReads", fn := fun _ => fun
  | [d] => { results := [.lit (.bool false)], args := [d] }
  | _ => none }
def XcopyReadsWrongFalsely : Prop := xcopyReadsRow.holds Tryd.pinned (OpenSpec.ofChange xcopyReadsWrong)

/-- 'palletlaw15.XcopyBytes': WHATEVER THE INPUT: true; the input reads as it did. -/
def xcopyBytesSpec : ChangeSpec := { name := "xcopyBytes", fn := fun _ => fun
  | [d] => { results := [.lit (.bool true)], args := [d] }
  | _ => none }
def xcopyBytesRow : OpenClaim := { program := "ytaneeadpjelomaadoor", sum := "9955fc69f521ccefc636966db5de71cca52eaa2d29baeb11811a09d51e8828ef", func := "pallet/palletlaw15.XcopyBytes", spec := "xcopyBytes", inPlace := ["internal/bytealg.IndexByteString", "internal/bytealg.IndexString"], named := ["unicode/utf8.first", "unicode/utf8.acceptRanges", "internal/bytealg.MaxLen"], apart := false, laid := [("unicode/utf8.acceptRanges", laid_unicode_utf8_acceptRanges), ("unicode/utf8.first", laid_unicode_utf8_first)] }
def XcopyBytesSaid : Prop := xcopyBytesRow.holds Tryd.pinned (OpenSpec.ofChange xcopyBytesSpec)

/-- ITS FALSE NEIGHBOUR: 'it returns false'. Refute it at one input. -/
def xcopyBytesWrong : ChangeSpec := { name := "xcopyBytes", fn := fun _ => fun
  | [d] => { results := [.lit (.bool false)], args := [d] }
  | _ => none }
def XcopyBytesWrongFalsely : Prop := xcopyBytesRow.holds Tryd.pinned (OpenSpec.ofChange xcopyBytesWrong)

/-- 'palletlaw15.XcopySpoils': WHATEVER THE INPUT: true; the input reads as it did. -/
def xcopySpoilsSpec : ChangeSpec := { name := "xcopySpoils", fn := fun _ => fun
  | [d1, d2, d3] => { results := [.lit (.bool true)], args := [d1, d2, d3] }
  | _ => none }
def xcopySpoilsRow : OpenClaim := { program := "ytaneeadpjelomaadoor", sum := "9955fc69f521ccefc636966db5de71cca52eaa2d29baeb11811a09d51e8828ef", func := "pallet/palletlaw15.XcopySpoils", spec := "xcopySpoils", inPlace := ["internal/bytealg.IndexByteString", "internal/bytealg.IndexString"], named := ["unicode/utf8.first", "unicode/utf8.acceptRanges", "internal/bytealg.MaxLen"], apart := false, laid := [("unicode/utf8.acceptRanges", laid_unicode_utf8_acceptRanges), ("unicode/utf8.first", laid_unicode_utf8_first)] }
def XcopySpoilsSaid : Prop := xcopySpoilsRow.holds Tryd.pinned (OpenSpec.ofChange xcopySpoilsSpec)

/-- ITS FALSE NEIGHBOUR: 'it returns false'. Refute it at one input. -/
def xcopySpoilsWrong : ChangeSpec := { name := "xcopySpoils", fn := fun _ => fun
  | [d1, d2, d3] => { results := [.lit (.bool false)], args := [d1, d2, d3] }
  | _ => none }
def XcopySpoilsWrongFalsely : Prop := xcopySpoilsRow.holds Tryd.pinned (OpenSpec.ofChange xcopySpoilsWrong)

/-- 'palletlaw15.XcopyMoves': WHATEVER THE INPUT: true; the input reads as it did. -/
def xcopyMovesSpec : ChangeSpec := { name := "xcopyMoves", fn := fun _ => fun
  | [d1, d2, d3, d4] => { results := [.lit (.bool true)], args := [d1, d2, d3, d4] }
  | _ => none }
def xcopyMovesRow : OpenClaim := { program := "ytaneeadpjelomaadoor", sum := "9955fc69f521ccefc636966db5de71cca52eaa2d29baeb11811a09d51e8828ef", func := "pallet/palletlaw15.XcopyMoves", spec := "xcopyMoves", inPlace := ["internal/bytealg.IndexByteString", "internal/bytealg.IndexString"], unfollowed := true, recurses := true, named := ["unicode/utf8.first", "unicode/utf8.acceptRanges", "internal/bytealg.MaxLen"], apart := false, laid := [("unicode/utf8.acceptRanges", laid_unicode_utf8_acceptRanges), ("unicode/utf8.first", laid_unicode_utf8_first)] }
def XcopyMovesSaid : Prop := xcopyMovesRow.holds Tryd.pinned (OpenSpec.ofChange xcopyMovesSpec)

/-- ITS FALSE NEIGHBOUR: 'it returns false'. Refute it at one input. -/
def xcopyMovesWrong : ChangeSpec := { name := "xcopyMoves", fn := fun _ => fun
  | [d1, d2, d3, d4] => { results := [.lit (.bool false)], args := [d1, d2, d3, d4] }
  | _ => none }
def XcopyMovesWrongFalsely : Prop := xcopyMovesRow.holds Tryd.pinned (OpenSpec.ofChange xcopyMovesWrong)

/-- 'palletlaw15.XcopyStops': WHATEVER THE INPUT: true; the input reads as it did. -/
def xcopyStopsSpec : ChangeSpec := { name := "xcopyStops", fn := fun _ => fun
  | [d1, d2, d3] => { results := [.lit (.bool true)], args := [d1, d2, d3] }
  | _ => none }
def xcopyStopsRow : OpenClaim := { program := "ytaneeadpjelomaadoor", sum := "9955fc69f521ccefc636966db5de71cca52eaa2d29baeb11811a09d51e8828ef", func := "pallet/palletlaw15.XcopyStops", spec := "xcopyStops", inPlace := ["internal/bytealg.IndexByteString", "internal/bytealg.IndexString"], unfollowed := true, recurses := true, named := ["unicode/utf8.first", "unicode/utf8.acceptRanges", "internal/bytealg.MaxLen"], apart := false, laid := [("unicode/utf8.acceptRanges", laid_unicode_utf8_acceptRanges), ("unicode/utf8.first", laid_unicode_utf8_first)] }
def XcopyStopsSaid : Prop := xcopyStopsRow.holds Tryd.pinned (OpenSpec.ofChange xcopyStopsSpec)

/-- ITS FALSE NEIGHBOUR: 'it returns false'. Refute it at one input. -/
def xcopyStopsWrong : ChangeSpec := { name := "xcopyStops", fn := fun _ => fun
  | [d1, d2, d3] => { results := [.lit (.bool false)], args := [d1, d2, d3] }
  | _ => none }
def XcopyStopsWrongFalsely : Prop := xcopyStopsRow.holds Tryd.pinned (OpenSpec.ofChange xcopyStopsWrong)

/- THE SECOND FORM. 'bulk': how many values and letters a reading holds, each counted each time it is reached (what is shared counts as often as it is met; a slice's spare places count too). A statement '..UptoSaid' is the law's where the arguments, and the package variables that the reading takes, are together of bulk at most 1048576: NARROWER than '..Said'. Prove '..Said' where nothing that the law and all that it calls make is longer than what came in: it says more and counts as full. Else prove '..UptoSaid'. A law counts once. -/
mutual
def uptoBulk {H : Type} : DataW H → Nat
  | .lit (.string bytes) => bytes.length + 1
  | .lit _ => 1
  | .nil => 1
  | .ptr d => uptoBulk d + 1
  | .slice elems spare => uptoBulkAll elems + uptoBulkAll spare + 1
  | .agg parts => uptoBulkAll parts + 1
  | .iface _ d => uptoBulk d + 1
  | .map entries => uptoBulkEntries entries + 1
  | .held _ => 1
def uptoBulkAll {H : Type} : List (DataW H) → Nat
  | [] => 0
  | d :: r => uptoBulk d + uptoBulkAll r
def uptoBulkEntries {H : Type} : List (Lit × DataW H) → Nat
  | [] => 0
  | x :: r => uptoBulkEntry x + uptoBulkEntries r
def uptoBulkEntry {H : Type} : Lit × DataW H → Nat
  | (.string bytes, d) => bytes.length + uptoBulk d + 1
  | (_, d) => uptoBulk d + 1
 end
def uptoSmall : (H : Type) → List (DataW H) → Bool := fun _ ds => decide (uptoBulkAll ds ≤ 1048576)
def OpenSpec.upto (s : _root_.Go.ChangeSpec) : _root_.Go.OpenSpec := { _root_.Go.OpenSpec.ofChange s with cond := some uptoSmall }

/-- 'palletlaw15.XcopyReads', WHERE WHAT IT READS IS OF BULK AT MOST 1048576: true; the input reads as it did. -/
def xcopyReadsUptoRow : OpenClaim := { program := "ytaneeadpjelomaadoor", sum := "9955fc69f521ccefc636966db5de71cca52eaa2d29baeb11811a09d51e8828ef", func := "pallet/palletlaw15.XcopyReads", spec := "xcopyReads", inPlace := ["internal/bytealg.IndexByteString", "internal/bytealg.IndexString"], named := ["unicode/utf8.first", "unicode/utf8.acceptRanges", "internal/bytealg.MaxLen"], apart := false, laid := [("unicode/utf8.acceptRanges", laid_unicode_utf8_acceptRanges), ("unicode/utf8.first", laid_unicode_utf8_first)], narrowed := true }
def XcopyReadsUptoSaid : Prop := xcopyReadsUptoRow.holds Tryd.pinned (OpenSpec.upto xcopyReadsSpec)

/-- 'palletlaw15.XcopyBytes', WHERE WHAT IT READS IS OF BULK AT MOST 1048576: true; the input reads as it did. -/
def xcopyBytesUptoRow : OpenClaim := { program := "ytaneeadpjelomaadoor", sum := "9955fc69f521ccefc636966db5de71cca52eaa2d29baeb11811a09d51e8828ef", func := "pallet/palletlaw15.XcopyBytes", spec := "xcopyBytes", inPlace := ["internal/bytealg.IndexByteString", "internal/bytealg.IndexString"], named := ["unicode/utf8.first", "unicode/utf8.acceptRanges", "internal/bytealg.MaxLen"], apart := false, laid := [("unicode/utf8.acceptRanges", laid_unicode_utf8_acceptRanges), ("unicode/utf8.first", laid_unicode_utf8_first)], narrowed := true }
def XcopyBytesUptoSaid : Prop := xcopyBytesUptoRow.holds Tryd.pinned (OpenSpec.upto xcopyBytesSpec)

/-- 'palletlaw15.XcopySpoils', WHERE WHAT IT READS IS OF BULK AT MOST 1048576: true; the input reads as it did. -/
def xcopySpoilsUptoRow : OpenClaim := { program := "ytaneeadpjelomaadoor", sum := "9955fc69f521ccefc636966db5de71cca52eaa2d29baeb11811a09d51e8828ef", func := "pallet/palletlaw15.XcopySpoils", spec := "xcopySpoils", inPlace := ["internal/bytealg.IndexByteString", "internal/bytealg.IndexString"], named := ["unicode/utf8.first", "unicode/utf8.acceptRanges", "internal/bytealg.MaxLen"], apart := false, laid := [("unicode/utf8.acceptRanges", laid_unicode_utf8_acceptRanges), ("unicode/utf8.first", laid_unicode_utf8_first)], narrowed := true }
def XcopySpoilsUptoSaid : Prop := xcopySpoilsUptoRow.holds Tryd.pinned (OpenSpec.upto xcopySpoilsSpec)

/-- 'palletlaw15.XcopyMoves', WHERE WHAT IT READS IS OF BULK AT MOST 1048576: true; the input reads as it did. -/
def xcopyMovesUptoRow : OpenClaim := { program := "ytaneeadpjelomaadoor", sum := "9955fc69f521ccefc636966db5de71cca52eaa2d29baeb11811a09d51e8828ef", func := "pallet/palletlaw15.XcopyMoves", spec := "xcopyMoves", inPlace := ["internal/bytealg.IndexByteString", "internal/bytealg.IndexString"], unfollowed := true, recurses := true, named := ["unicode/utf8.first", "unicode/utf8.acceptRanges", "internal/bytealg.MaxLen"], apart := false, laid := [("unicode/utf8.acceptRanges", laid_unicode_utf8_acceptRanges), ("unicode/utf8.first", laid_unicode_utf8_first)], narrowed := true }
def XcopyMovesUptoSaid : Prop := xcopyMovesUptoRow.holds Tryd.pinned (OpenSpec.upto xcopyMovesSpec)

/-- 'palletlaw15.XcopyStops', WHERE WHAT IT READS IS OF BULK AT MOST 1048576: true; the input reads as it did. -/
def xcopyStopsUptoRow : OpenClaim := { program := "ytaneeadpjelomaadoor", sum := "9955fc69f521ccefc636966db5de71cca52eaa2d29baeb11811a09d51e8828ef", func := "pallet/palletlaw15.XcopyStops", spec := "xcopyStops", inPlace := ["internal/bytealg.IndexByteString", "internal/bytealg.IndexString"], unfollowed := true, recurses := true, named := ["unicode/utf8.first", "unicode/utf8.acceptRanges", "internal/bytealg.MaxLen"], apart := false, laid := [("unicode/utf8.acceptRanges", laid_unicode_utf8_acceptRanges), ("unicode/utf8.first", laid_unicode_utf8_first)], narrowed := true }
def XcopyStopsUptoSaid : Prop := xcopyStopsUptoRow.holds Tryd.pinned (OpenSpec.upto xcopyStopsSpec)

end Rows
end Go.Proofs.YtaneeadpjelomaaDoor
