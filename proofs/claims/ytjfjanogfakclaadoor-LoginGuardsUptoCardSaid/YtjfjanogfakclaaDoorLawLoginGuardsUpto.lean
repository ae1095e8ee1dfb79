/- No script of requests ends a login that was not proved, where what is read is of bulk at most 1048576. -/
import Derived.Test.YtjfjanogfakclaaDoorCards
import Derived.Test.YtjfjanogfakclaaDoorTie
import Derived.Deep.DeepHandedRow
import Derived.Deep.DeepWitnessRowRef
import Derived.Lay
import Derived.SevenTiedAt
import Derived.Test.YtjfjanogfakclaaDoorRows
import Derived.Test.YtjfjanogfakclaaDoorB7
namespace Go.Proofs.YtjfjanogfakclaaDoor.loginGuardsUpto
open Go Go.ChangeShapes Go.WideShapes Go.ChangeAt Go.RowKit CF
open Go.ChangeMaps (open_string shut_string)
theorem slim : Slim Tryd.prog := slim_of (by kernel_rfl)
theorem own : ownKnob Tryd.prog.godebug = none := by kernel_rfl
theorem laidOut : laidOutB Tryd.prog = true := by kernel_rfl
theorem laid_met (os : Os) (args : Array Value) : laidMet Tryd.prog Rows.loginGuardsUptoRow.laid ((World.laidAll Tryd.prog os Rows.loginGuardsUptoRow.laid).forCall (fun _ _ => 0) ⟨#[], args, []⟩).memory := laidMet_laidAll args (by kernel_rfl) (by kernel_rfl)
set_option maxRecDepth 100000 in
theorem lifted (os : Os) (started : os.Started) (H : Type) (enc : TypeId × Value → H) (F : Stop.Interp) :
    ReturnsInHanded {} Tryd.checked os 3 .any ((Rows.OpenSpec.upto Rows.loginGuardsSpec).preRow enc Tryd.prog Tryd.f3 Rows.loginGuardsUptoRow.domain false Rows.loginGuardsUptoRow.laid) (((Rows.OpenSpec.upto Rows.loginGuardsSpec).at F).post enc Tryd.prog Tryd.f3 false true false false) := by
  obtain ⟨x0, hx0, hk0⟩ := any_of (show (DataW.whole enc Tryd.prog ((World.laidAll Tryd.prog os Rows.loginGuardsUptoRow.laid).forCall (fun _ _ => 0) ⟨#[], #[.slice none 0 0, .int .u8 0, .slice none 0 0, .slice none 0 0], []⟩).memory Tryd.f3.params.toList Rows.loginGuardsSpec.vars false (#[.slice none 0 0, .int .u8 0, .slice none 0 0, .slice none 0 0] : Array Value).toList 8).any (fun x => Rows.uptoSmall H (x.1 ++ x.2.1)) = true by kernel_rfl)
  refine returnsInHanded_of_row (C := Tryd.checked) (s := Rows.OpenSpec.upto Rows.loginGuardsSpec) own started (by kernel_rfl) Tryd.func3
    (witness_row_atRef (enc := enc) (C := Tryd.checked) false (World.laidAll Tryd.prog os Rows.loginGuardsUptoRow.laid) #[.slice none 0 0, .int .u8 0, .slice none 0 0, .slice none 0 0] (World.laidAll_os _ _ _) (by kernel_rfl) (by kernel_rfl) (by kernel_rfl)
      (OpenSpec.preRow_of_cond 8 hx0 rfl (fun k hk => by obtain rfl := Option.some.inj hk; exact hk0) (by kernel_rfl) (laid_met os _))) ?_
  intro W base args ds gs before hval0 hW _ hkc0 hsz0 hL _ _
  have hkc : Rows.uptoSmall H (ds ++ gs) = true := hkc0 _ rfl
  have hsz : (DataW.weightsEach Tryd.prog (Tryd.f3.params.toList ++ Rows.loginGuardsSpec.plain.varTypes Tryd.prog) (ds ++ gs)).all (· ≤ reachBytes) = true := hsz0
  have hval : ∀ (j : Nat) t v, Tryd.f3.params[j]? = some t → args[j]? = some v → Value.okWide Tryd.prog W .any base t v := hval0
  have hW' := hW
  obtain ⟨p, q, hA0, hV, rfl, hfz, hnd⟩ := hW
  have hA : DataW.TrodAll enc Tryd.prog W 0 (fun _ => true) true Tryd.f3.params.toList args.toList ds p := hA0
  rw [Tryd.params3] at hA hval hsz
  obtain ⟨v0, vs0, d0, ds0, p0, q0, hargs, rfl, rfl, h0, r0⟩ := trodAll_cons hA
  obtain ⟨v1, vs1, d1, ds1, p1, q1, rfl, rfl, rfl, h1, r1⟩ := trodAll_cons r0
  obtain ⟨v2, vs2, d2, ds2, p2, q2, rfl, rfl, rfl, h2, r2⟩ := trodAll_cons r1
  obtain ⟨v3, vs3, d3, ds3, p3, q3, rfl, rfl, rfl, h3, r3⟩ := trodAll_cons r2
  obtain ⟨rfl, rfl, rfl⟩ := trodAll_nil r3
  obtain rfl : args = #[v0, v1, v2, v3] := by cases args; simp_all
  obtain ⟨rfl, rfl⟩ := trodVars_none hV
  obtain ⟨a0, len0, cap0, rfl⟩ := okWide_slice Tryd.underlying22 (hval 0 22 v0 rfl rfl)
  have k0 := h0
  have lt0 : ∀ x ∈ p0, x.block < W.heap.size := by obtain ⟨m, hm⟩ := k0; exact DataW.trod_lt m _ _ _ hm
  obtain ⟨fuel0, hf0⟩ := h0
  obtain ⟨s0, hs0, l0, t0, q0, n0⟩ := (opens_users) _ _ _ hf0 (light_of slim hkc (by simp) 22 (of_decide_eq_true (by kernel_rfl)))
  simp only [Value.cells, List.cons.injEq, Value.slice.injEq, and_true] at hs0
  obtain ⟨rfl, rfl, rfl⟩ := hs0
  obtain ⟨a1, rfl, rfl, rfl, w1⟩ := open_int Tryd.underlying5 (hval 1 5 v1 rfl rfl) h1
  obtain ⟨a2, len2, cap2, rfl⟩ := okWide_slice Tryd.underlying23 (hval 2 23 v2 rfl rfl)
  have k2 := h2
  have lt2 : ∀ x ∈ p2, x.block < W.heap.size := by obtain ⟨m, hm⟩ := k2; exact DataW.trod_lt m _ _ _ hm
  obtain ⟨fuel2, hf2⟩ := h2
  obtain ⟨s2, hs2, l2, t2, e2⟩ := (opens_ubytes) _ _ _ hf2 (light_of slim hkc (by simp) 23 (of_decide_eq_true (by kernel_rfl)))
  simp only [Value.cells, List.cons.injEq, Value.slice.injEq, and_true] at hs2
  obtain ⟨rfl, rfl, rfl⟩ := hs2
  obtain ⟨a3, len3, cap3, rfl⟩ := okWide_slice Tryd.underlying24 (hval 3 24 v3 rfl rfl)
  have k3 := h3
  have lt3 : ∀ x ∈ p3, x.block < W.heap.size := by obtain ⟨m, hm⟩ := k3; exact DataW.trod_lt m _ _ _ hm
  obtain ⟨fuel3, hf3⟩ := h3
  obtain ⟨s3, hs3, l3, t3, r3⟩ := (opens_rqs) _ _ _ hf3 (light_of slim hkc (by simp) 24 (of_decide_eq_true (by kernel_rfl)))
  simp only [Value.cells, List.cons.injEq, Value.slice.injEq, and_true] at hs3
  obtain ⟨rfl, rfl, rfl⟩ := hs3
  refine (below_of_call (loginGuards_row t0 q0 n0 w1 t2 e2 t3 r3 (errV_of (laid := Rows.loginGuardsUptoRow.laid) hL (by simp [Rows.loginGuardsUptoRow]) (by simp [Rows.loginGuardsUptoRow])) (tabV_of (laid := Rows.loginGuardsUptoRow.laid) hL (by simp [Rows.loginGuardsUptoRow])) fun w9 hg => ⟨rfl, hg⟩)).mono fun e W' ⟨he, bel⟩ => ?_
  subst he
  exact ⟨_, rfl, _, _, _, [], _, [], hW', trodAll_mk1 (shut_bool Tryd.underlying4 _), (trodAll_cons_mk (Below.trod laidOut (by kernel_rfl) (of_decide_eq_true (by kernel_rfl)) k0 bel lt0) (trodAll_cons_mk (shut_int Tryd.underlying5 w1) (trodAll_cons_mk (Below.trod laidOut (by kernel_rfl) (of_decide_eq_true (by kernel_rfl)) k2 bel lt2) (trodAll_cons_mk (Below.trod laidOut (by kernel_rfl) (of_decide_eq_true (by kernel_rfl)) k3 bel lt3) trodAll_mk0)))), rfl, bel.frame _, fun h => by cases h⟩
theorem over : Rows.LoginGuardsUptoSaid :=
  OpenClaim.holds_of_cond 3 Tryd.f3 rfl rfl rfl rfl rfl rfl rfl ⟨rfl, rfl, rfl, rfl, rfl⟩ rfl rfl rfl rfl rfl (by kernel_rfl) Tryd.func3 (by kernel_rfl)
    (of_decide_eq_true (by kernel_rfl)) (by unfold Func.isWrapper; first | (rw [if_pos (by decide +kernel)]; kernel_rfl) | (rw [if_neg (by decide +kernel)]; exact ⟨rfl, rfl⟩))
    (fun os started H enc _ F => by rw [OpenClaim.pre_eq_preRow]; exact lifted os started H enc F)
theorem plain (f : FuncId) (fn : Func) (hf : Tryd.pinned.checked.prog.funcNamed Rows.loginGuardsUptoRow.func = some f) (hfn : Tryd.pinned.checked.prog.funcs[f]? = some fn) :
    true = Tryd.pinned.checked.prog.looks [] ∧ ∀ (j : Nat) t, fn.params[j]? = some t → Tryd.pinned.checked.prog.wantsStandIn t = false := by
  obtain rfl : f = 3 := Option.some.inj ((show Tryd.prog.funcNamed Rows.loginGuardsUptoRow.func = some 3 by kernel_rfl).symm.trans hf) |>.symm
  obtain rfl : fn = Tryd.f3 := (Option.some.inj (Tryd.func3.symm.trans hfn)).symm
  refine ⟨by kernel_rfl, fun j t ht => ?_⟩
  rw [Tryd.params3] at ht
  have hm : t ∈ [22, 5, 23, 24] := by simpa using Array.mem_of_getElem? ht
  have hall : ([22, 5, 23, 24].all fun u => !Tryd.prog.wantsStandIn u) = true := by kernel_rfl
  exact (show Tryd.prog.wantsStandIn t = false by simpa using List.all_eq_true.1 hall t hm)
end Go.Proofs.YtjfjanogfakclaaDoor.loginGuardsUpto
namespace Go.Proofs.YtjfjanogfakclaaDoor
/-- The card. -/
theorem loginGuardsUpto_holds : Rows.LoginGuardsUptoCardSaid :=
  Claim7.holds_tied_plain_at .later [] _ _ _ _ loginGuardsUpto.over (fun _ h => by cases h) (by kernel_rfl) (fun _ h => by cases h) loginGuardsUpto_row_tie rfl ⟨rfl, rfl⟩ (by kernel_rfl) rfl loginGuardsUpto.plain (by kernel_rfl)
#print axioms loginGuardsUpto_holds
end Go.Proofs.YtjfjanogfakclaaDoor

