/-
  No cell of these rows narrows 'for every input' (looked for: loops, veiled, ifaces, maps, wideKeys, modest, calm, conditions, laid).
  DERIVED. THE GIVEN ROWS OF THIS SEAT. 10 by the template 'for every input the law returns true; each argument reads behind the call as it read before'; 0 by the template 'total and deterministic' (their statements: YtiokflecflbopaaTotals.lean).
  GIVEN WITH THE SEED: the statements are not yours to turn. If you find one false, say at which input.
  Laid BY PROGRAM, IN A SANDBOX (cutbox-rows.mjs): the forced cells as the released guide's own fill.sh prints them over the translation 98add3f85708163e… (all of the seat's roots in one cut). By AI agents, Wed Nov 11 2026. No macro, syntax, notation, axiom, sorry.
-/
import Derived.Test.YtiokflecflbopaaChecked
import GoSem.Claim
import GoSem.ClaimJoined
import GoSem.ClaimMapViews
import Derived.JoinedTies
import Derived.KernelRfl
namespace Go.Proofs.Ytiokflecflbopaa
/- THE CELL 'sum', in the pinned program and in every row, IS THE sha256 OF THE DUMP (.gsa) THAT YtiokflecflbopaaProg.lean LOADS. Nothing in Lean hashes anything: it is a label: what it is worth is what the hold of that sum in a sandbox is worth. -/
noncomputable def Try.pinned : Pinned := { name := "ytiokflecflbopaa", sum := "98add3f85708163e4062e2a34e967ec6e8ae496f4c12d56ad048b1b14cd6c75c", checked := Try.checked }
namespace Rows
def none {H : Type} : Left H := { results := [], args := [] }

/-- 'palletlaw18.TextReads': WHATEVER THE INPUT: true; the input reads as it did. -/
def textReadsSpec : ChangeSpec := { name := "textReads", fn := fun _ => fun
  | [d] => { results := [.lit (.bool true)], args := [d] }
  | _ => none }
def textReadsRow : OpenClaim := { program := "ytiokflecflbopaa", sum := "98add3f85708163e4062e2a34e967ec6e8ae496f4c12d56ad048b1b14cd6c75c", func := "pallet/palletlaw18.TextReads", spec := "textReads", inPlace := ["internal/bytealg.IndexByteString", "internal/bytealg.IndexString"], named := ["internal/bytealg.MaxLen"], apart := false }
def TextReadsSaid : Prop := textReadsRow.holds Try.pinned (OpenSpec.ofChange textReadsSpec)

/-- ITS FALSE NEIGHBOUR: 'it returns false'. Refute it at one input. -/
def textReadsWrong : ChangeSpec := { name := "textReads", fn := fun _ => fun
  | [d] => { results := [.lit (.bool false)], args := [d] }
  | _ => none }
def TextReadsWrongFalsely : Prop := textReadsRow.holds Try.pinned (OpenSpec.ofChange textReadsWrong)

/-- 'palletlaw04.StoreSplits': WHATEVER THE INPUT: true; the input reads as it did. -/
def storeSplitsSpec : ChangeSpec := { name := "storeSplits", fn := fun _ => fun
  | [d1, d2, d3] => { results := [.lit (.bool true)], args := [d1, d2, d3] }
  | _ => none }
def storeSplitsRow : OpenClaim := { program := "ytiokflecflbopaa", sum := "98add3f85708163e4062e2a34e967ec6e8ae496f4c12d56ad048b1b14cd6c75c", func := "pallet/palletlaw04.StoreSplits", spec := "storeSplits", unfollowed := true, recurses := true, apart := false }
def StoreSplitsSaid : Prop := storeSplitsRow.holds Try.pinned (OpenSpec.ofChange storeSplitsSpec)

/-- ITS FALSE NEIGHBOUR: 'it returns false'. Refute it at one input. -/
def storeSplitsWrong : ChangeSpec := { name := "storeSplits", fn := fun _ => fun
  | [d1, d2, d3] => { results := [.lit (.bool false)], args := [d1, d2, d3] }
  | _ => none }
def StoreSplitsWrongFalsely : Prop := storeSplitsRow.holds Try.pinned (OpenSpec.ofChange storeSplitsWrong)

/-- 'palletlaw18.TextWrites': WHATEVER THE INPUT: true; the input reads as it did. -/
def textWritesSpec : ChangeSpec := { name := "textWrites", fn := fun _ => fun
  | [d] => { results := [.lit (.bool true)], args := [d] }
  | _ => none }
def textWritesRow : OpenClaim := { program := "ytiokflecflbopaa", sum := "98add3f85708163e4062e2a34e967ec6e8ae496f4c12d56ad048b1b14cd6c75c", func := "pallet/palletlaw18.TextWrites", spec := "textWrites", inPlace := ["internal/bytealg.IndexByteString", "internal/bytealg.IndexString"], named := ["internal/bytealg.MaxLen"], apart := false }
def TextWritesSaid : Prop := textWritesRow.holds Try.pinned (OpenSpec.ofChange textWritesSpec)

/-- ITS FALSE NEIGHBOUR: 'it returns false'. Refute it at one input. -/
def textWritesWrong : ChangeSpec := { name := "textWrites", fn := fun _ => fun
  | [d] => { results := [.lit (.bool false)], args := [d] }
  | _ => none }
def TextWritesWrongFalsely : Prop := textWritesRow.holds Try.pinned (OpenSpec.ofChange textWritesWrong)

/-- 'palletlaw18.TextJoins': WHATEVER THE INPUT: true; the input reads as it did. -/
def textJoinsSpec : ChangeSpec := { name := "textJoins", fn := fun _ => fun
  | [d1, d2] => { results := [.lit (.bool true)], args := [d1, d2] }
  | _ => none }
def textJoinsRow : OpenClaim := { program := "ytiokflecflbopaa", sum := "98add3f85708163e4062e2a34e967ec6e8ae496f4c12d56ad048b1b14cd6c75c", func := "pallet/palletlaw18.TextJoins", spec := "textJoins", inPlace := ["internal/bytealg.IndexByteString", "internal/bytealg.IndexString"], named := ["internal/bytealg.MaxLen"], apart := false }
def TextJoinsSaid : Prop := textJoinsRow.holds Try.pinned (OpenSpec.ofChange textJoinsSpec)

/-- ITS FALSE NEIGHBOUR: 'it returns false'. Refute it at one input. -/
def textJoinsWrong : ChangeSpec := { name := "textJoins", fn := fun _ => fun
  | [d1, d2] => { results := [.lit (.bool false)], args := [d1, d2] }
  | _ => none }
def TextJoinsWrongFalsely : Prop := textJoinsRow.holds Try.pinned (OpenSpec.ofChange textJoinsWrong)

/-- 'palletlaw04.StoreBlocks': WHATEVER THE INPUT: true; the input reads as it did. -/
def storeBlocksSpec : ChangeSpec := { name := "storeBlocks", fn := fun _ => fun
  | [d] => { results := [.lit (.bool true)], args := [d] }
  | _ => none }
def storeBlocksRow : OpenClaim := { program := "ytiokflecflbopaa", sum := "98add3f85708163e4062e2a34e967ec6e8ae496f4c12d56ad048b1b14cd6c75c", func := "pallet/palletlaw04.StoreBlocks", spec := "storeBlocks", unfollowed := true, recurses := true, apart := false }
def StoreBlocksSaid : Prop := storeBlocksRow.holds Try.pinned (OpenSpec.ofChange storeBlocksSpec)

/-- ITS FALSE NEIGHBOUR: 'it returns false'. Refute it at one input. -/
def storeBlocksWrong : ChangeSpec := { name := "storeBlocks", fn := fun _ => fun
  | [d] => { results := [.lit (.bool false)], args := [d] }
  | _ => none }
def StoreBlocksWrongFalsely : Prop := storeBlocksRow.holds Try.pinned (OpenSpec.ofChange storeBlocksWrong)

/-- 'palletlaw04.StoreCaches': WHATEVER THE INPUT: true; the input reads as it did. -/
def storeCachesSpec : ChangeSpec := { name := "storeCaches", fn := fun _ => fun
  | [d1, d2, d3] => { results := [.lit (.bool true)], args := [d1, d2, d3] }
  | _ => none }
def storeCachesRow : OpenClaim := { program := "ytiokflecflbopaa", sum := "98add3f85708163e4062e2a34e967ec6e8ae496f4c12d56ad048b1b14cd6c75c", func := "pallet/palletlaw04.StoreCaches", spec := "storeCaches", unfollowed := true, recurses := true, apart := false }
def StoreCachesSaid : Prop := storeCachesRow.holds Try.pinned (OpenSpec.ofChange storeCachesSpec)

/-- ITS FALSE NEIGHBOUR: 'it returns false'. Refute it at one input. -/
def storeCachesWrong : ChangeSpec := { name := "storeCaches", fn := fun _ => fun
  | [d1, d2, d3] => { results := [.lit (.bool false)], args := [d1, d2, d3] }
  | _ => none }
def StoreCachesWrongFalsely : Prop := storeCachesRow.holds Try.pinned (OpenSpec.ofChange storeCachesWrong)

/-- 'palletlaw04.StoreDurable': WHATEVER THE INPUT: true; the input reads as it did. -/
def storeDurableSpec : ChangeSpec := { name := "storeDurable", fn := fun _ => fun
  | [d1, d2, d3, d4, d5, d6, d7] => { results := [.lit (.bool true)], args := [d1, d2, d3, d4, d5, d6, d7] }
  | _ => none }
def storeDurableRow : OpenClaim := { program := "ytiokflecflbopaa", sum := "98add3f85708163e4062e2a34e967ec6e8ae496f4c12d56ad048b1b14cd6c75c", func := "pallet/palletlaw04.StoreDurable", spec := "storeDurable", inPlace := ["maps.clone"], unfollowed := true, recurses := true, apart := false }
def StoreDurableSaid : Prop := storeDurableRow.holds Try.pinned (OpenSpec.ofChange storeDurableSpec)

/-- ITS FALSE NEIGHBOUR: 'it returns false'. Refute it at one input. -/
def storeDurableWrong : ChangeSpec := { name := "storeDurable", fn := fun _ => fun
  | [d1, d2, d3, d4, d5, d6, d7] => { results := [.lit (.bool false)], args := [d1, d2, d3, d4, d5, d6, d7] }
  | _ => none }
def StoreDurableWrongFalsely : Prop := storeDurableRow.holds Try.pinned (OpenSpec.ofChange storeDurableWrong)

/-- 'palletlaw05.SlotsRecords': WHATEVER THE INPUT: true; the input reads as it did. -/
def slotsRecordsSpec : ChangeSpec := { name := "slotsRecords", fn := fun _ => fun
  | [d1, d2, d3] => { results := [.lit (.bool true)], args := [d1, d2, d3] }
  | _ => none }
def slotsRecordsRow : OpenClaim := { program := "ytiokflecflbopaa", sum := "98add3f85708163e4062e2a34e967ec6e8ae496f4c12d56ad048b1b14cd6c75c", func := "pallet/palletlaw05.SlotsRecords", spec := "slotsRecords", apart := false }
def SlotsRecordsSaid : Prop := slotsRecordsRow.holds Try.pinned (OpenSpec.ofChange slotsRecordsSpec)

/-- ITS FALSE NEIGHBOUR: 'it returns false'. Refute it at one input. -/
def slotsRecordsWrong : ChangeSpec := { name := "slotsRecords", fn := fun _ => fun
  | [d1, d2, d3] => { results := [.lit (.bool false)], args := [d1, d2, d3] }
  | _ => none }
def SlotsRecordsWrongFalsely : Prop := slotsRecordsRow.holds Try.pinned (OpenSpec.ofChange slotsRecordsWrong)

/-- 'palletlaw05.SlotsOld': WHATEVER THE INPUT: true; the input reads as it did. -/
def slotsOldSpec : ChangeSpec := { name := "slotsOld", fn := fun _ => fun
  | [d1, d2, d3, d4, d5] => { results := [.lit (.bool true)], args := [d1, d2, d3, d4, d5] }
  | _ => none }
def slotsOldRow : OpenClaim := { program := "ytiokflecflbopaa", sum := "98add3f85708163e4062e2a34e967ec6e8ae496f4c12d56ad048b1b14cd6c75c", func := "pallet/palletlaw05.SlotsOld", spec := "slotsOld", unfollowed := true, recurses := true, apart := false }
def SlotsOldSaid : Prop := slotsOldRow.holds Try.pinned (OpenSpec.ofChange slotsOldSpec)

/-- ITS FALSE NEIGHBOUR: 'it returns false'. Refute it at one input. -/
def slotsOldWrong : ChangeSpec := { name := "slotsOld", fn := fun _ => fun
  | [d1, d2, d3, d4, d5] => { results := [.lit (.bool false)], args := [d1, d2, d3, d4, d5] }
  | _ => none }
def SlotsOldWrongFalsely : Prop := slotsOldRow.holds Try.pinned (OpenSpec.ofChange slotsOldWrong)

/-- 'palletlaw05.SlotsTurns': WHATEVER THE INPUT: true; the input reads as it did. -/
def slotsTurnsSpec : ChangeSpec := { name := "slotsTurns", fn := fun _ => fun
  | [d1, d2] => { results := [.lit (.bool true)], args := [d1, d2] }
  | _ => none }
def slotsTurnsRow : OpenClaim := { program := "ytiokflecflbopaa", sum := "98add3f85708163e4062e2a34e967ec6e8ae496f4c12d56ad048b1b14cd6c75c", func := "pallet/palletlaw05.SlotsTurns", spec := "slotsTurns", apart := false }
def SlotsTurnsSaid : Prop := slotsTurnsRow.holds Try.pinned (OpenSpec.ofChange slotsTurnsSpec)

/-- ITS FALSE NEIGHBOUR: 'it returns false'. Refute it at one input. -/
def slotsTurnsWrong : ChangeSpec := { name := "slotsTurns", fn := fun _ => fun
  | [d1, d2] => { results := [.lit (.bool false)], args := [d1, d2] }
  | _ => none }
def SlotsTurnsWrongFalsely : Prop := slotsTurnsRow.holds Try.pinned (OpenSpec.ofChange slotsTurnsWrong)

/- THE SECOND FORM. 'bulk': how many values and letters a reading holds, each counted each time it is reached (what is shared counts as often as it is met; a slice's spare places count too). A statement '..UptoSaid' is the law's where the arguments, and the package variables that the reading takes, are together of bulk at most 1048576: NARROWER than '..Said'. Prove '..Said' where nothing that the law and all that it calls make is longer than what came in: it says more and counts as full. Else prove '..UptoSaid'. A law counts once. -/
mutual
def uptoBulk {H : Type} : DataW H → Nat
  | .lit (.string bytes) => bytes.length + 1
  | .lit _ => 1
  | .nil => 1
  | .ptr d => uptoBulk d + 1
  | .slice elems spare => uptoBulkAll elems + uptoBulkAll spare + 1
  | .agg parts => uptoBulkAll parts + 1
  | .iface _ d => uptoBulk d + 1
  | .map entries => uptoBulkEntries entries + 1
  | .held _ => 1
def uptoBulkAll {H : Type} : List (DataW H) → Nat
  | [] => 0
  | d :: r => uptoBulk d + uptoBulkAll r
def uptoBulkEntries {H : Type} : List (Lit × DataW H) → Nat
  | [] => 0
  | x :: r => uptoBulkEntry x + uptoBulkEntries r
def uptoBulkEntry {H : Type} : Lit × DataW H → Nat
  | (.string bytes, d) => bytes.length + uptoBulk d + 1
  | (_, d) => uptoBulk d + 1
 end
def uptoSmall : (H : Type) → List (DataW H) → Bool := fun _ ds => decide (uptoBulkAll ds ≤ 1048576)
def OpenSpec.upto (s : _root_.Go.ChangeSpec) : _root_.Go.OpenSpec := { _root_.Go.OpenSpec.ofChange s with cond := some uptoSmall }

/-- 'palletlaw18.TextReads', WHERE WHAT IT READS IS OF BULK AT MOST 1048576: true; the input reads as it did. -/
def textReadsUptoRow : OpenClaim := { program := "ytiokflecflbopaa", sum := "98add3f85708163e4062e2a34e967ec6e8ae496f4c12d56ad048b1b14cd6c75c", func := "pallet/palletlaw18.TextReads", spec := "textReads", inPlace := ["internal/bytealg.IndexByteString", "internal/bytealg.IndexString"], named := ["internal/bytealg.MaxLen"], apart := false, narrowed := true }
def TextReadsUptoSaid : Prop := textReadsUptoRow.holds Try.pinned (OpenSpec.upto textReadsSpec)

/-- 'palletlaw04.StoreSplits', WHERE WHAT IT READS IS OF BULK AT MOST 1048576: true; the input reads as it did. -/
def storeSplitsUptoRow : OpenClaim := { program := "ytiokflecflbopaa", sum := "98add3f85708163e4062e2a34e967ec6e8ae496f4c12d56ad048b1b14cd6c75c", func := "pallet/palletlaw04.StoreSplits", spec := "storeSplits", unfollowed := true, recurses := true, apart := false, narrowed := true }
def StoreSplitsUptoSaid : Prop := storeSplitsUptoRow.holds Try.pinned (OpenSpec.upto storeSplitsSpec)

/-- 'palletlaw18.TextWrites', WHERE WHAT IT READS IS OF BULK AT MOST 1048576: true; the input reads as it did. -/
def textWritesUptoRow : OpenClaim := { program := "ytiokflecflbopaa", sum := "98add3f85708163e4062e2a34e967ec6e8ae496f4c12d56ad048b1b14cd6c75c", func := "pallet/palletlaw18.TextWrites", spec := "textWrites", inPlace := ["internal/bytealg.IndexByteString", "internal/bytealg.IndexString"], named := ["internal/bytealg.MaxLen"], apart := false, narrowed := true }
def TextWritesUptoSaid : Prop := textWritesUptoRow.holds Try.pinned (OpenSpec.upto textWritesSpec)

/-- 'palletlaw18.TextJoins', WHERE WHAT IT READS IS OF BULK AT MOST 1048576: true; the input reads as it did. -/
def textJoinsUptoRow : OpenClaim := { program := "ytiokflecflbopaa", sum := "98add3f85708163e4062e2a34e967ec6e8ae496f4c12d56ad048b1b14cd6c75c", func := "pallet/palletlaw18.TextJoins", spec := "textJoins", inPlace := ["internal/bytealg.IndexByteString", "internal/bytealg.IndexString"], named := ["internal/bytealg.MaxLen"], apart := false, narrowed := true }
def TextJoinsUptoSaid : Prop := textJoinsUptoRow.holds Try.pinned (OpenSpec.upto textJoinsSpec)

/-- 'palletlaw04.StoreBlocks', WHERE WHAT IT READS IS OF BULK AT MOST 1048576: true; the input reads as it did. -/
def storeBlocksUptoRow : OpenClaim := { program := "ytiokflecflbopaa", sum := "98add3f85708163e4062e2a34e967ec6e8ae496f4c12d56ad048b1b14cd6c75c", func := "pallet/palletlaw04.StoreBlocks", spec := "storeBlocks", unfollowed := true, recurses := true, apart := false, narrowed := true }
def StoreBlocksUptoSaid : Prop := storeBlocksUptoRow.holds Try.pinned (OpenSpec.upto storeBlocksSpec)

/-- 'palletlaw04.StoreCaches', WHERE WHAT IT READS IS OF BULK AT MOST 1048576: true; the input reads as it did. -/
def storeCachesUptoRow : OpenClaim := { program := "ytiokflecflbopaa", sum := "98add3f85708163e4062e2a34e967ec6e8ae496f4c12d56ad048b1b14cd6c75c", func := "pallet/palletlaw04.StoreCaches", spec := "storeCaches", unfollowed := true, recurses := true, apart := false, narrowed := true }
def StoreCachesUptoSaid : Prop := storeCachesUptoRow.holds Try.pinned (OpenSpec.upto storeCachesSpec)

/-- 'palletlaw04.StoreDurable', WHERE WHAT IT READS IS OF BULK AT MOST 1048576: true; the input reads as it did. -/
def storeDurableUptoRow : OpenClaim := { program := "ytiokflecflbopaa", sum := "98add3f85708163e4062e2a34e967ec6e8ae496f4c12d56ad048b1b14cd6c75c", func := "pallet/palletlaw04.StoreDurable", spec := "storeDurable", inPlace := ["maps.clone"], unfollowed := true, recurses := true, apart := false, narrowed := true }
def StoreDurableUptoSaid : Prop := storeDurableUptoRow.holds Try.pinned (OpenSpec.upto storeDurableSpec)

/-- 'palletlaw05.SlotsRecords', WHERE WHAT IT READS IS OF BULK AT MOST 1048576: true; the input reads as it did. -/
def slotsRecordsUptoRow : OpenClaim := { program := "ytiokflecflbopaa", sum := "98add3f85708163e4062e2a34e967ec6e8ae496f4c12d56ad048b1b14cd6c75c", func := "pallet/palletlaw05.SlotsRecords", spec := "slotsRecords", apart := false, narrowed := true }
def SlotsRecordsUptoSaid : Prop := slotsRecordsUptoRow.holds Try.pinned (OpenSpec.upto slotsRecordsSpec)

/-- 'palletlaw05.SlotsOld', WHERE WHAT IT READS IS OF BULK AT MOST 1048576: true; the input reads as it did. -/
def slotsOldUptoRow : OpenClaim := { program := "ytiokflecflbopaa", sum := "98add3f85708163e4062e2a34e967ec6e8ae496f4c12d56ad048b1b14cd6c75c", func := "pallet/palletlaw05.SlotsOld", spec := "slotsOld", unfollowed := true, recurses := true, apart := false, narrowed := true }
def SlotsOldUptoSaid : Prop := slotsOldUptoRow.holds Try.pinned (OpenSpec.upto slotsOldSpec)

/-- 'palletlaw05.SlotsTurns', WHERE WHAT IT READS IS OF BULK AT MOST 1048576: true; the input reads as it did. -/
def slotsTurnsUptoRow : OpenClaim := { program := "ytiokflecflbopaa", sum := "98add3f85708163e4062e2a34e967ec6e8ae496f4c12d56ad048b1b14cd6c75c", func := "pallet/palletlaw05.SlotsTurns", spec := "slotsTurns", apart := false, narrowed := true }
def SlotsTurnsUptoSaid : Prop := slotsTurnsUptoRow.holds Try.pinned (OpenSpec.upto slotsTurnsSpec)

end Rows
end Go.Proofs.Ytiokflecflbopaa
