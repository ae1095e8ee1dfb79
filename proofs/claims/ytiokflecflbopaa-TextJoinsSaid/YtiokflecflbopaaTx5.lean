/- Layer 18: the law of reading. -/
import Derived.Test.YtiokflecflbopaaTx4
import Derived.Test.YtiokflecflbopaaCfN
namespace Go.Proofs.Ytiokflecflbopaa
open Go CF

theorem parse_a1 : parseT [97, 61, 49, 0] = ([([97], [49])], 0) := by
  have hs : step [97, 61, 49, 0] = some (([97], [49]), []) := by decide
  have hp : pairs [97, 61, 49, 0] = some [([97], [49])] := by rw [pairs_some (by decide) hs, pairs_nil]; rfl
  unfold parseT
  rw [if_neg (by decide), hp]
  decide
theorem awake18_spec {w : World} {R : Bool → World → Prop} (h : ∀ w', Grow w w' → R true w') : Cpalletlaw18_awake w R := by
  refine Fpalletlaw18_awake.calls _ _ ?_
  refine bytes_const_rule (l := [97, 61, 49, 0]) (e := t_uint8) (by kernel_rfl) rfl (by decide) u_sl_uint8 u_uint8 fun s w0 hg0 hrd => ?_
  refine parse_text_spec hrd fun s2 w1 hg1 hown hn => ?_
  rw [parse_a1] at hown ⊢
  have hn1 : s2.n = 1 := by have := hown.len; rw [pvs_len] at this; simp at this; omega
  have hr := hown.rd (by omega)
  obtain ⟨p, hp, hc⟩ := rd_pair hr (i := 0) (by show 0 < 1; decide)
  obtain ⟨r, hre, hrun⟩ := eql_rule (x := .tmp 19) (y := .tmp 20) flat_api_Pair kd_api_Pair gt_api_Pair (fit_pc ([97], [49])) (fit_pc ([97], [49]))
  have hrt : r = true := hre.2 rfl
  subst hrt
  refine ⟨fun _ => ⟨by omega, by omega, by rw [hp]; rfl⟩, (pc ([97], [49])).toArray, fun _ => ?_, true, fun _ => hrun w1, ?_⟩
  · rw [hp]; exact loadVar_rule g_api_Pair i_api_Pair rfl hc
  · have := h w1 (hg0.trans hg1)
    rw [hn1]
    exact this
theorem textReads_spec {p : Sl} {bs : L8} {w : World} {R : Bool → World → Prop} (hp : Rd w 1 p (bv bs))
    (h : ∀ w', Grow w w' → R true w') : Cpalletlaw18_TextReads p w R := by
  refine Fpalletlaw18_TextReads.calls _ _ _ ?_
  refine awake18_spec fun w0 hg0 => br_f rfl ?_
  refine parse_text_spec (hp.grow hg0) fun s1 w1 hg1 hown1 hn1 => ?_
  refine parse_ref_spec ((hp.grow hg0).grow hg1) fun s2 w2 hg2 hown2 hn2 => ?_
  refine ⟨fun _ => ?_, fun q => ?_⟩
  · refine same_spec ((hown1.rd (by omega)).grow hg2) (hown2.rd (by omega)) fun w3 hg3 => ?_
    have := h w3 (((hg0.trans hg1).trans hg2).trans hg3)
    simpa using this
  · simp at q
end Go.Proofs.Ytiokflecflbopaa
