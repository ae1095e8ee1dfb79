/- Layer 4: the law of blocks. -/
import Derived.Test.YtiokflecflbopaaSt11
namespace Go.Proofs.Ytiokflecflbopaa
open Go CF

theorem place_spec (a : Int) : ∃ F : Nat, F < 32 ∧ IntKind.wrap .i64 ((IntKind.wrap .u64 a).tmod 32) = (F : Int) := by
  have e : IntKind.wrap .u64 a = a % 18446744073709551616 := by simp [IntKind.wrap, IntKind.signed, IntKind.bits]
  have h0 : 0 ≤ a % 18446744073709551616 := Int.emod_nonneg _ (by decide)
  rw [e, Int.tmod_eq_emod_of_nonneg h0]
  refine ⟨((a % 18446744073709551616) % 32).toNat, by omega, ?_⟩
  rw [w64 (by omega) (by omega)]
  omega
theorem rd_act {w : World} {s : Sl} {xs : List Act4} (h : Rd w 5 s (xs.flatMap ac)) : xs.length = s.n := by
  have := h.len; rw [flat_length ac_len] at this; omega
theorem rd_act_at {w : World} {s : Sl} {xs : List Act4} (h : Rd w 5 s (xs.flatMap ac)) {i : Nat} (hi : i < xs.length) : ∃ a, s.A = some a ∧ Cells w (a.add (i * 5)) (ac xs[i]) := by
  obtain ⟨a, ha, hc⟩ := h.elem (i := i) (by rw [← rd_act h]; exact hi) (by decide)
  exact ⟨a, ha, by rw [flat_elem ac_len hi] at hc; exact hc⟩
/-- the state of a script's play -/
structure Play (w u : World) (ps pw wb : Nat) (D : Nat → Prop) (st : Wst) (bs : List Bk) (j : Nat) : Prop where
  grow : Grow w u
  isW : IsW u pw D st
  isS : IsS u ps pw s_f 32 true
  nps : ¬ D ps
  nwb : ¬ D wb
  above : ∀ k, D k → w.heap.size ≤ k
  wba : w.heap.size ≤ wb
  want : Blk u wb (bs.flatMap bc).toArray t_32_api_Block
  len : bs.length = 32
  tells : Tells st s_f bs
  ok : Wok st
  ops : st.ops ≤ 33 * j
  waits : st.waits.length ≤ 33 * j
theorem Play.go {w u u' : World} {ps pw wb : Nat} {D : Nat → Prop} {st : Wst} {bs : List Bk} {j : Nat} (h : Play w u ps pw wb D st bs j) (k : Grow u u') : Play w u' ps pw wb D st bs j :=
  { h with grow := h.grow.trans k, isW := h.isW.grow k, isS := k.heap h.isS (fun q => q), want := k.heap h.want (fun q => q) }
/-- the array takes a list -/
theorem Play.set {w u u' : World} {ps pw wb : Nat} {D : Nat → Prop} {st : Wst} {bs : List Bk} {j : Nat} (h : Play w u ps pw wb D st bs j) (k : Keep (fun k => k = wb) u u') {bs' : List Bk} (hb : Blk u' wb (bs'.flatMap bc).toArray t_32_api_Block)
    : Grow w u' ∧ IsW u' pw D st ∧ IsS u' ps pw s_f 32 true ∧ Blk u' wb (bs'.flatMap bc).toArray t_32_api_Block := by
  have hne : ps ≠ wb := fun q => by
    have h1 := h.isS
    have h2 := h.want
    subst q
    have := blk_type h1 h2
    exact absurd this (by decide)
  refine ⟨h.grow.keep k fun i hi q => by have := h.wba; omega, h.isW.keep k (fun i hi q => h.nwb (q ▸ hi)) (fun g cur hg q => ?_), k.heap h.isS hne, hb⟩
  subst q
  exact absurd (blk_type h.want hg) (by decide)
end Go.Proofs.Ytiokflecflbopaa
