/- More rules of memory: bytes of a constant, elements of slices. -/
import Derived.Test.YtiokflecflbopaaCfE
import Derived.Lib.SlBytesConst
namespace Go.Proofs.Ytiokflecflbopaa.CF
open Go Go.RowKit

theorem bytes_const_rule {P : Program} {w : World} {t e : TypeId} {n : Nat} {parts : Array (Nat × Value)} {l : L8}
    (hr : (Instr.buildSlice t n parts).run P w = .ok (.slice (some ⟨w.heap.size, 0, none⟩) n n) (w.alloc (.cells (bv l).toArray e))) (hn : n = l.length) (hb : n ≤ 140737488355328)
    (ht : P.underlying t = some (.slice e)) (he : P.underlying e = some (.int .u8))
    {K : Sl → World → Prop} (h : ∀ s w', Grow w w' → Rd w' 1 s (bv l) → K s w') :
    RunK P .sl (Instr.buildSlice t n parts) w fun xs w0 => RunK P .sl (convert t t (.slice xs.A xs.n xs.c)) w0 K := by
  refine ⟨⟨some ⟨w.heap.size, 0, none⟩, n, n⟩, _, hr, ⟨some ⟨w.heap.size, 0, none⟩, n, n⟩, _, Go.Lib.run_convert_bytes_const w t e _ n n ht he, ?_⟩
  refine h _ _ (keep_alloc w _) ⟨by rw [bv_length, hn, Nat.mul_one], Nat.le_refl _, hb, fun _ => ⟨_, rfl, fun j v hj => ?_⟩⟩
  rw [add0, Nat.zero_add]
  unfold World.cell?
  simp only [World.alloc, Array.getElem?_push, if_true]
  simpa using hj
end Go.Proofs.Ytiokflecflbopaa.CF
