/- Layer 4: scripts as arguments. -/
import Derived.Test.YtiokflecflbopaaSt10
namespace Go.Proofs.Ytiokflecflbopaa
open Go CF

theorem list5 : ∀ {cs : List Value}, cs.length = 5 → ∃ c0 c1 c2 c3 c4, cs = [c0, c1, c2, c3, c4]
  | [a, b, c, d, e], _ => ⟨a, b, c, d, e, rfl⟩
section
variable {H : Type} {enc : TypeId × Value → H} {w : World} {base : Nat} {spare : Nat → Bool} {held : Bool}
theorem u_palletlaw04_Act : Try.prog.underlying t_palletlaw04_Act = some (.struct #[⟨"Kind", t_uint8, 0, false, "", "", 0⟩, ⟨"A", t_int, 1, false, "", "", 8⟩, ⟨"N", t_int, 2, false, "", "", 16⟩, ⟨"L", t_sl_api_Block, 3, false, "", "", 24⟩, ⟨"On", t_bool, 4, false, "", "", 48⟩]) := by kernel_rfl
theorem opens_act : Opens enc Try.prog w base spare held t_palletlaw04_Act fun cs => ∃ x : Act4, cs = ac x ∧ (x.kind < 256 ∧ (Lit.int .i64 x.a).wf = true ∧ Rd w 19 x.l (x.bs.flatMap bc)) := by
  refine (opens_fields u_palletlaw04_Act (Φ := [fun cs => ∃ n, cs = [.int .u8 n] ∧ (Lit.int .u8 n).wf = true, fun cs => ∃ n, cs = [.int .i64 n] ∧ (Lit.int .i64 n).wf = true, fun cs => ∃ n, cs = [.int .i64 n] ∧ (Lit.int .i64 n).wf = true,
    fun cs => ∃ s : Sl, cs = [.slice s.A s.n s.c] ∧ ∃ bs : List Bk, Rd w 19 s (bs.flatMap bc), fun cs => ∃ b, cs = [.bool b]]) rfl ?_).mono ?_
  · intro i f φ hf hφ
    match i with
    | 0 => injection hf with hf; injection hφ with hφ; subst hf; subst hφ; exact opens_int u_uint8
    | 1 => injection hf with hf; injection hφ with hφ; subst hf; subst hφ; exact opens_int u_int
    | 2 => injection hf with hf; injection hφ with hφ; subst hf; subst hφ; exact opens_int u_int
    | 3 => injection hf with hf; injection hφ with hφ; subst hf; subst hφ; exact opens_blocks
    | 4 => injection hf with hf; injection hφ with hφ; subst hf; subst hφ; exact opens_bool u_bool
    | i + 5 => simp at hφ
  · rintro cs ⟨hl, h⟩
    have hl : cs.length = 5 := hl.trans (by kernel_rfl)
    obtain ⟨k, hk, hkw⟩ := h 0 _ _ rfl rfl
    obtain ⟨a, ha, haw⟩ := h 1 _ _ rfl rfl
    obtain ⟨n, hn, _⟩ := h 2 _ _ rfl rfl
    obtain ⟨s, hs, bs, hbs⟩ := h 3 _ _ rfl rfl
    obtain ⟨o, ho⟩ := h 4 _ _ rfl rfl
    have e1 : Try.prog.cellsOf t_uint8 = 1 := by kernel_rfl
    have e2 : Try.prog.cellsOf t_int = 1 := by kernel_rfl
    have e3 : Try.prog.cellsOf t_sl_api_Block = 1 := by kernel_rfl
    have e4 : Try.prog.cellsOf t_bool = 1 := by kernel_rfl
    change (cs.drop 0).take (Try.prog.cellsOf t_uint8) = _ at hk
    change (cs.drop 1).take (Try.prog.cellsOf t_int) = _ at ha
    change (cs.drop 2).take (Try.prog.cellsOf t_int) = _ at hn
    change (cs.drop 3).take (Try.prog.cellsOf t_sl_api_Block) = _ at hs
    change (cs.drop 4).take (Try.prog.cellsOf t_bool) = _ at ho
    rw [e1] at hk
    rw [e2] at ha hn
    rw [e3] at hs
    rw [e4] at ho
    obtain ⟨c0, c1, c2, c3, c4, rfl⟩ := list5 hl
    simp only [List.drop_zero, List.take_succ_cons, List.take_zero, List.drop_succ_cons, List.cons.injEq, and_true] at hk ha hn hs ho
    obtain ⟨K, rfl, hK⟩ := int_u8 hkw
    exact ⟨⟨K, a, n, s, bs, o⟩, by rw [hk, ha, hn, hs, ho]; rfl, hK, haw, hbs⟩
theorem opens_acts : Opens enc Try.prog w base spare held t_sl_palletlaw04_Act fun cs => ∃ s : Sl, cs = [.slice s.A s.n s.c] ∧ ∃ xs : List Act4, Rd w 5 s (xs.flatMap ac) ∧ ∀ x ∈ xs, x.kind < 256 ∧ (Lit.int .i64 x.a).wf = true ∧ Rd w 19 x.l (x.bs.flatMap bc) :=
  (opens_slice (f := ac) (Q := fun x => x.kind < 256 ∧ (Lit.int .i64 x.a).wf = true ∧ Rd w 19 x.l (x.bs.flatMap bc)) (z := 5) (bytes := 56) u_sl_palletlaw04_Act (by kernel_rfl) (by kernel_rfl) (by decide) ac_len opens_act).mono fun _ ⟨s, h1, xs, h2, _, h4, _⟩ => ⟨s, h1, xs, h2, h4⟩
end
def zeroB : Bk := ⟨[0, 0, 0, 0, 0, 0, 0, 0, 0, 0, 0, 0, 0, 0, 0, 0], 0, 0, 0, rfl, by decide, by decide, by decide⟩
end Go.Proofs.Ytiokflecflbopaa
