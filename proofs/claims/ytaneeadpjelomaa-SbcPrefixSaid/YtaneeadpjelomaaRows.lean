/-
  No cell of these rows narrows 'for every input' (looked for: loops, veiled, ifaces, maps, wideKeys, modest, calm, conditions, laid).
  DERIVED. THE GIVEN ROWS OF THIS SEAT. 7 by the template 'for every input the law returns true; each argument reads behind the call as it read before'; 0 by the template 'total and deterministic' (their statements: YtaneeadpjelomaaTotals.lean).
  GIVEN WITH THE SEED: the statements are not yours to turn. If you find one false, say at which input.
  Laid BY PROGRAM, IN A SANDBOX (cutbox-rows.mjs): the forced cells as the released guide's own fill.sh prints them over the translation 7d9188f9b5efa993… (all of the seat's roots in one cut). By AI agents, Wed Nov 11 2026. No macro, syntax, notation, axiom, sorry.
-/
import Derived.Test.YtaneeadpjelomaaChecked
import GoSem.Claim
import GoSem.ClaimJoined
import GoSem.ClaimMapViews
import Derived.JoinedTies
import Derived.KernelRfl
namespace Go.Proofs.Ytaneeadpjelomaa
/- THE CELL 'sum', in the pinned program and in every row, IS THE sha256 OF THE DUMP (.gsa) THAT YtaneeadpjelomaaProg.lean LOADS. Nothing in Lean hashes anything: it is a label: what it is worth is what the hold of that sum in a sandbox is worth. -/
noncomputable def Try.pinned : Pinned := { name := "ytaneeadpjelomaa", sum := "7d9188f9b5efa993af85dfde3f6557ba84e3c98b9533acc2c5a241d4a7925da1", checked := Try.checked }
namespace Rows
def none {H : Type} : Left H := { results := [], args := [] }

/-- 'palletlaw14.SbcCompares': WHATEVER THE INPUT: true; the input reads as it did. -/
def sbcComparesSpec : ChangeSpec := { name := "sbcCompares", fn := fun _ => fun
  | [d1, d2, d3, d4, d5] => { results := [.lit (.bool true)], args := [d1, d2, d3, d4, d5] }
  | _ => none }
def sbcComparesRow : OpenClaim := { program := "ytaneeadpjelomaa", sum := "7d9188f9b5efa993af85dfde3f6557ba84e3c98b9533acc2c5a241d4a7925da1", func := "pallet/palletlaw14.SbcCompares", spec := "sbcCompares", unfollowed := true, recurses := true, apart := false }
def SbcComparesSaid : Prop := sbcComparesRow.holds Try.pinned (OpenSpec.ofChange sbcComparesSpec)

/-- ITS FALSE NEIGHBOUR: 'it returns false'. Refute it at one input. -/
def sbcComparesWrong : ChangeSpec := { name := "sbcCompares", fn := fun _ => fun
  | [d1, d2, d3, d4, d5] => { results := [.lit (.bool false)], args := [d1, d2, d3, d4, d5] }
  | _ => none }
def SbcComparesWrongFalsely : Prop := sbcComparesRow.holds Try.pinned (OpenSpec.ofChange sbcComparesWrong)

/-- 'palletlaw14.SbcProtects': WHATEVER THE INPUT: true; the input reads as it did. -/
def sbcProtectsSpec : ChangeSpec := { name := "sbcProtects", fn := fun _ => fun
  | [d1, d2, d3, d4, d5] => { results := [.lit (.bool true)], args := [d1, d2, d3, d4, d5] }
  | _ => none }
def sbcProtectsRow : OpenClaim := { program := "ytaneeadpjelomaa", sum := "7d9188f9b5efa993af85dfde3f6557ba84e3c98b9533acc2c5a241d4a7925da1", func := "pallet/palletlaw14.SbcProtects", spec := "sbcProtects", unfollowed := true, recurses := true, apart := false }
def SbcProtectsSaid : Prop := sbcProtectsRow.holds Try.pinned (OpenSpec.ofChange sbcProtectsSpec)

/-- ITS FALSE NEIGHBOUR: 'it returns false'. Refute it at one input. -/
def sbcProtectsWrong : ChangeSpec := { name := "sbcProtects", fn := fun _ => fun
  | [d1, d2, d3, d4, d5] => { results := [.lit (.bool false)], args := [d1, d2, d3, d4, d5] }
  | _ => none }
def SbcProtectsWrongFalsely : Prop := sbcProtectsRow.holds Try.pinned (OpenSpec.ofChange sbcProtectsWrong)

/-- 'palletlaw14.SbcSplits': WHATEVER THE INPUT: true; the input reads as it did. -/
def sbcSplitsSpec : ChangeSpec := { name := "sbcSplits", fn := fun _ => fun
  | [d1, d2, d3, d4] => { results := [.lit (.bool true)], args := [d1, d2, d3, d4] }
  | _ => none }
def sbcSplitsRow : OpenClaim := { program := "ytaneeadpjelomaa", sum := "7d9188f9b5efa993af85dfde3f6557ba84e3c98b9533acc2c5a241d4a7925da1", func := "pallet/palletlaw14.SbcSplits", spec := "sbcSplits", unfollowed := true, recurses := true, apart := false }
def SbcSplitsSaid : Prop := sbcSplitsRow.holds Try.pinned (OpenSpec.ofChange sbcSplitsSpec)

/-- ITS FALSE NEIGHBOUR: 'it returns false'. Refute it at one input. -/
def sbcSplitsWrong : ChangeSpec := { name := "sbcSplits", fn := fun _ => fun
  | [d1, d2, d3, d4] => { results := [.lit (.bool false)], args := [d1, d2, d3, d4] }
  | _ => none }
def SbcSplitsWrongFalsely : Prop := sbcSplitsRow.holds Try.pinned (OpenSpec.ofChange sbcSplitsWrong)

/-- 'palletlaw14.SbcUnmaps': WHATEVER THE INPUT: true; the input reads as it did. -/
def sbcUnmapsSpec : ChangeSpec := { name := "sbcUnmaps", fn := fun _ => fun
  | [d1, d2, d3, d4] => { results := [.lit (.bool true)], args := [d1, d2, d3, d4] }
  | _ => none }
def sbcUnmapsRow : OpenClaim := { program := "ytaneeadpjelomaa", sum := "7d9188f9b5efa993af85dfde3f6557ba84e3c98b9533acc2c5a241d4a7925da1", func := "pallet/palletlaw14.SbcUnmaps", spec := "sbcUnmaps", unfollowed := true, recurses := true, apart := false }
def SbcUnmapsSaid : Prop := sbcUnmapsRow.holds Try.pinned (OpenSpec.ofChange sbcUnmapsSpec)

/-- ITS FALSE NEIGHBOUR: 'it returns false'. Refute it at one input. -/
def sbcUnmapsWrong : ChangeSpec := { name := "sbcUnmaps", fn := fun _ => fun
  | [d1, d2, d3, d4] => { results := [.lit (.bool false)], args := [d1, d2, d3, d4] }
  | _ => none }
def SbcUnmapsWrongFalsely : Prop := sbcUnmapsRow.holds Try.pinned (OpenSpec.ofChange sbcUnmapsWrong)

/-- 'palletlaw14.SbcRefuses': WHATEVER THE INPUT: true; the input reads as it did. -/
def sbcRefusesSpec : ChangeSpec := { name := "sbcRefuses", fn := fun _ => fun
  | [d1, d2, d3] => { results := [.lit (.bool true)], args := [d1, d2, d3] }
  | _ => none }
def sbcRefusesRow : OpenClaim := { program := "ytaneeadpjelomaa", sum := "7d9188f9b5efa993af85dfde3f6557ba84e3c98b9533acc2c5a241d4a7925da1", func := "pallet/palletlaw14.SbcRefuses", spec := "sbcRefuses", unfollowed := true, recurses := true, apart := false }
def SbcRefusesSaid : Prop := sbcRefusesRow.holds Try.pinned (OpenSpec.ofChange sbcRefusesSpec)

/-- ITS FALSE NEIGHBOUR: 'it returns false'. Refute it at one input. -/
def sbcRefusesWrong : ChangeSpec := { name := "sbcRefuses", fn := fun _ => fun
  | [d1, d2, d3] => { results := [.lit (.bool false)], args := [d1, d2, d3] }
  | _ => none }
def SbcRefusesWrongFalsely : Prop := sbcRefusesRow.holds Try.pinned (OpenSpec.ofChange sbcRefusesWrong)

/-- 'palletlaw14.SbcVerifies': WHATEVER THE INPUT: true; the input reads as it did. -/
def sbcVerifiesSpec : ChangeSpec := { name := "sbcVerifies", fn := fun _ => fun
  | [d1, d2, d3, d4] => { results := [.lit (.bool true)], args := [d1, d2, d3, d4] }
  | _ => none }
def sbcVerifiesRow : OpenClaim := { program := "ytaneeadpjelomaa", sum := "7d9188f9b5efa993af85dfde3f6557ba84e3c98b9533acc2c5a241d4a7925da1", func := "pallet/palletlaw14.SbcVerifies", spec := "sbcVerifies", unfollowed := true, recurses := true, apart := false }
def SbcVerifiesSaid : Prop := sbcVerifiesRow.holds Try.pinned (OpenSpec.ofChange sbcVerifiesSpec)

/-- ITS FALSE NEIGHBOUR: 'it returns false'. Refute it at one input. -/
def sbcVerifiesWrong : ChangeSpec := { name := "sbcVerifies", fn := fun _ => fun
  | [d1, d2, d3, d4] => { results := [.lit (.bool false)], args := [d1, d2, d3, d4] }
  | _ => none }
def SbcVerifiesWrongFalsely : Prop := sbcVerifiesRow.holds Try.pinned (OpenSpec.ofChange sbcVerifiesWrong)

/-- 'palletlaw14.SbcPrefix': WHATEVER THE INPUT: true; the input reads as it did. -/
def sbcPrefixSpec : ChangeSpec := { name := "sbcPrefix", fn := fun _ => fun
  | [d1, d2, d3, d4] => { results := [.lit (.bool true)], args := [d1, d2, d3, d4] }
  | _ => none }
def sbcPrefixRow : OpenClaim := { program := "ytaneeadpjelomaa", sum := "7d9188f9b5efa993af85dfde3f6557ba84e3c98b9533acc2c5a241d4a7925da1", func := "pallet/palletlaw14.SbcPrefix", spec := "sbcPrefix", unfollowed := true, recurses := true, apart := false }
def SbcPrefixSaid : Prop := sbcPrefixRow.holds Try.pinned (OpenSpec.ofChange sbcPrefixSpec)

/-- ITS FALSE NEIGHBOUR: 'it returns false'. Refute it at one input. -/
def sbcPrefixWrong : ChangeSpec := { name := "sbcPrefix", fn := fun _ => fun
  | [d1, d2, d3, d4] => { results := [.lit (.bool false)], args := [d1, d2, d3, d4] }
  | _ => none }
def SbcPrefixWrongFalsely : Prop := sbcPrefixRow.holds Try.pinned (OpenSpec.ofChange sbcPrefixWrong)

/- THE SECOND FORM. 'bulk': how many values and letters a reading holds, each counted each time it is reached (what is shared counts as often as it is met; a slice's spare places count too). A statement '..UptoSaid' is the law's where the arguments, and the package variables that the reading takes, are together of bulk at most 1048576: NARROWER than '..Said'. Prove '..Said' where nothing that the law and all that it calls make is longer than what came in: it says more and counts as full. Else prove '..UptoSaid'. A law counts once. -/
mutual
def uptoBulk {H : Type} : DataW H → Nat
  | .lit (.string bytes) => bytes.length + 1
  | .lit _ => 1
  | .nil => 1
  | .ptr d => uptoBulk d + 1
  | .slice elems spare => uptoBulkAll elems + uptoBulkAll spare + 1
  | .agg parts => uptoBulkAll parts + 1
  | .iface _ d => uptoBulk d + 1
  | .map entries => uptoBulkEntries entries + 1
  | .held _ => 1
def uptoBulkAll {H : Type} : List (DataW H) → Nat
  | [] => 0
  | d :: r => uptoBulk d + uptoBulkAll r
def uptoBulkEntries {H : Type} : List (Lit × DataW H) → Nat
  | [] => 0
  | x :: r => uptoBulkEntry x + uptoBulkEntries r
def uptoBulkEntry {H : Type} : Lit × DataW H → Nat
  | (.string bytes, d) => bytes.length + uptoBulk d + 1
  | (_, d) => uptoBulk d + 1
 end
def uptoSmall : (H : Type) → List (DataW H) → Bool := fun _ ds => decide (uptoBulkAll ds ≤ 1048576)
def OpenSpec.upto (s : _root_.Go.ChangeSpec) : _root_.Go.OpenSpec := { _root_.Go.OpenSpec.ofChange s with cond := some uptoSmall }

/-- 'palletlaw14.SbcCompares', WHERE WHAT IT READS IS OF BULK AT MOST 1048576: true; the input reads as it did. -/
def sbcComparesUptoRow : OpenClaim := { program := "ytaneeadpjelomaa", sum := "7d9188f9b5efa993af85dfde3f6557ba84e3c98b9533acc2c5a241d4a7925da1", func := "pallet/palletlaw14.SbcCompares", spec := "sbcCompares", unfollowed := true, recurses := true, apart := false, narrowed := true }
def SbcComparesUptoSaid : Prop := sbcComparesUptoRow.holds Try.pinned (OpenSpec.upto sbcComparesSpec)

/-- 'palletlaw14.SbcProtects', WHERE WHAT IT READS IS OF BULK AT MOST 1048576: true; the input reads as it did. -/
def sbcProtectsUptoRow : OpenClaim := { program := "ytaneeadpjelomaa", sum := "7d9188f9b5efa993af85dfde3f6557ba84e3c98b9533acc2c5a241d4a7925da1", func := "pallet/palletlaw14.SbcProtects", spec := "sbcProtects", unfollowed := true, recurses := true, apart := false, narrowed := true }
def SbcProtectsUptoSaid : Prop := sbcProtectsUptoRow.holds Try.pinned (OpenSpec.upto sbcProtectsSpec)

/-- 'palletlaw14.SbcSplits', WHERE WHAT IT READS IS OF BULK AT MOST 1048576: true; the input reads as it did. -/
def sbcSplitsUptoRow : OpenClaim := { program := "ytaneeadpjelomaa", sum := "7d9188f9b5efa993af85dfde3f6557ba84e3c98b9533acc2c5a241d4a7925da1", func := "pallet/palletlaw14.SbcSplits", spec := "sbcSplits", unfollowed := true, recurses := true, apart := false, narrowed := true }
def SbcSplitsUptoSaid : Prop := sbcSplitsUptoRow.holds Try.pinned (OpenSpec.upto sbcSplitsSpec)

/-- 'palletlaw14.SbcUnmaps', WHERE WHAT IT READS IS OF BULK AT MOST 1048576: true; the input reads as it did. -/
def sbcUnmapsUptoRow : OpenClaim := { program := "ytaneeadpjelomaa", sum := "7d9188f9b5efa993af85dfde3f6557ba84e3c98b9533acc2c5a241d4a7925da1", func := "pallet/palletlaw14.SbcUnmaps", spec := "sbcUnmaps", unfollowed := true, recurses := true, apart := false, narrowed := true }
def SbcUnmapsUptoSaid : Prop := sbcUnmapsUptoRow.holds Try.pinned (OpenSpec.upto sbcUnmapsSpec)

/-- 'palletlaw14.SbcRefuses', WHERE WHAT IT READS IS OF BULK AT MOST 1048576: true; the input reads as it did. -/
def sbcRefusesUptoRow : OpenClaim := { program := "ytaneeadpjelomaa", sum := "7d9188f9b5efa993af85dfde3f6557ba84e3c98b9533acc2c5a241d4a7925da1", func := "pallet/palletlaw14.SbcRefuses", spec := "sbcRefuses", unfollowed := true, recurses := true, apart := false, narrowed := true }
def SbcRefusesUptoSaid : Prop := sbcRefusesUptoRow.holds Try.pinned (OpenSpec.upto sbcRefusesSpec)

/-- 'palletlaw14.SbcVerifies', WHERE WHAT IT READS IS OF BULK AT MOST 1048576: true; the input reads as it did. -/
def sbcVerifiesUptoRow : OpenClaim := { program := "ytaneeadpjelomaa", sum := "7d9188f9b5efa993af85dfde3f6557ba84e3c98b9533acc2c5a241d4a7925da1", func := "pallet/palletlaw14.SbcVerifies", spec := "sbcVerifies", unfollowed := true, recurses := true, apart := false, narrowed := true }
def SbcVerifiesUptoSaid : Prop := sbcVerifiesUptoRow.holds Try.pinned (OpenSpec.upto sbcVerifiesSpec)

/-- 'palletlaw14.SbcPrefix', WHERE WHAT IT READS IS OF BULK AT MOST 1048576: true; the input reads as it did. -/
def sbcPrefixUptoRow : OpenClaim := { program := "ytaneeadpjelomaa", sum := "7d9188f9b5efa993af85dfde3f6557ba84e3c98b9533acc2c5a241d4a7925da1", func := "pallet/palletlaw14.SbcPrefix", spec := "sbcPrefix", unfollowed := true, recurses := true, apart := false, narrowed := true }
def SbcPrefixUptoSaid : Prop := sbcPrefixUptoRow.holds Try.pinned (OpenSpec.upto sbcPrefixSpec)

end Rows
end Go.Proofs.Ytaneeadpjelomaa
