/- No login, and a login whose arguments change behind it, where what is read is of bulk at most 1048576. -/
import Derived.Test.YtjfjanogfakclaaDoorCards
import Derived.Test.YtjfjanogfakclaaDoorTie
import Derived.Deep.DeepHandedRow
import Derived.Deep.DeepWitnessRowRef
import Derived.Lay
import Derived.SevenTiedAt
import Derived.Test.YtjfjanogfakclaaDoorRows
import Derived.Test.YtjfjanogfakclaaDoorB7
namespace Go.Proofs.YtjfjanogfakclaaDoor.loginNilUpto
open Go Go.ChangeShapes Go.WideShapes Go.ChangeAt Go.RowKit CF
open Go.ChangeMaps (open_string shut_string)
theorem slim : Slim Tryd.prog := slim_of (by kernel_rfl)
theorem own : ownKnob Tryd.prog.godebug = none := by kernel_rfl
theorem laidOut : laidOutB Tryd.prog = true := by kernel_rfl
theorem laid_met (os : Os) (args : Array Value) : laidMet Tryd.prog Rows.loginNilUptoRow.laid ((World.laidAll Tryd.prog os Rows.loginNilUptoRow.laid).forCall (fun _ _ => 0) ⟨#[], args, []⟩).memory := laidMet_laidAll args (by kernel_rfl) (by kernel_rfl)
set_option maxRecDepth 100000 in
theorem lifted (os : Os) (started : os.Started) (H : Type) (enc : TypeId × Value → H) (F : Stop.Interp) :
    ReturnsInHanded {} Tryd.checked os 6 .any ((Rows.OpenSpec.upto Rows.loginNilSpec).preRow enc Tryd.prog Tryd.f6 Rows.loginNilUptoRow.domain false Rows.loginNilUptoRow.laid) (((Rows.OpenSpec.upto Rows.loginNilSpec).at F).post enc Tryd.prog Tryd.f6 false true false false) := by
  obtain ⟨x0, hx0, hk0⟩ := any_of (show (DataW.whole enc Tryd.prog ((World.laidAll Tryd.prog os Rows.loginNilUptoRow.laid).forCall (fun _ _ => 0) ⟨#[], #[.agg #[.int .u8 0, .int .u8 0, .bool false, .slice none 0 0], .slice none 0 0], []⟩).memory Tryd.f6.params.toList Rows.loginNilSpec.vars false (#[.agg #[.int .u8 0, .int .u8 0, .bool false, .slice none 0 0], .slice none 0 0] : Array Value).toList 8).any (fun x => Rows.uptoSmall H (x.1 ++ x.2.1)) = true by kernel_rfl)
  refine returnsInHanded_of_row (C := Tryd.checked) (s := Rows.OpenSpec.upto Rows.loginNilSpec) own started (by kernel_rfl) Tryd.func6
    (witness_row_atRef (enc := enc) (C := Tryd.checked) false (World.laidAll Tryd.prog os Rows.loginNilUptoRow.laid) #[.agg #[.int .u8 0, .int .u8 0, .bool false, .slice none 0 0], .slice none 0 0] (World.laidAll_os _ _ _) (by kernel_rfl) (by kernel_rfl) (by kernel_rfl)
      (OpenSpec.preRow_of_cond 8 hx0 rfl (fun k hk => by obtain rfl := Option.some.inj hk; exact hk0) (by kernel_rfl) (laid_met os _))) ?_
  intro W base args ds gs before hval0 hW _ hkc0 hsz0 hL _ _
  have hkc : Rows.uptoSmall H (ds ++ gs) = true := hkc0 _ rfl
  have hsz : (DataW.weightsEach Tryd.prog (Tryd.f6.params.toList ++ Rows.loginNilSpec.plain.varTypes Tryd.prog) (ds ++ gs)).all (· ≤ reachBytes) = true := hsz0
  have hval : ∀ (j : Nat) t v, Tryd.f6.params[j]? = some t → args[j]? = some v → Value.okWide Tryd.prog W .any base t v := hval0
  have hW' := hW
  obtain ⟨p, q, hA0, hV, rfl, hfz, hnd⟩ := hW
  have hA : DataW.TrodAll enc Tryd.prog W 0 (fun _ => true) true Tryd.f6.params.toList args.toList ds p := hA0
  rw [Tryd.params6] at hA hval hsz
  obtain ⟨v0, vs0, d0, ds0, p0, q0, hargs, rfl, rfl, h0, r0⟩ := trodAll_cons hA
  obtain ⟨v1, vs1, d1, ds1, p1, q1, rfl, rfl, rfl, h1, r1⟩ := trodAll_cons r0
  obtain ⟨rfl, rfl, rfl⟩ := trodAll_nil r1
  obtain rfl : args = #[v0, v1] := by cases args; simp_all
  obtain ⟨rfl, rfl⟩ := trodVars_none hV
  obtain ⟨cs0, rfl, z0⟩ := okWide_struct Tryd.underlying33 (hval 0 33 v0 rfl rfl)
  have k0 := h0
  have lt0 : ∀ x ∈ p0, x.block < W.heap.size := by obtain ⟨m, hm⟩ := k0; exact DataW.trod_lt m _ _ _ hm
  obtain ⟨fuel0, hf0⟩ := h0
  obtain ⟨c0, hs0, y0⟩ := (opens_rq) _ _ _ hf0 (light_of slim hkc (by simp) 33 (of_decide_eq_true (by kernel_rfl)))
  have hs0 : cs0.toList = _ := hs0
  obtain rfl : cs0 = (rqf c0).toArray := by rw [← hs0]
  obtain ⟨a1, len1, cap1, rfl⟩ := okWide_slice Tryd.underlying23 (hval 1 23 v1 rfl rfl)
  have k1 := h1
  have lt1 : ∀ x ∈ p1, x.block < W.heap.size := by obtain ⟨m, hm⟩ := k1; exact DataW.trod_lt m _ _ _ hm
  obtain ⟨fuel1, hf1⟩ := h1
  obtain ⟨s1, hs1, l1, t1, e1⟩ := (opens_ubytes) _ _ _ hf1 (light_of slim hkc (by simp) 23 (of_decide_eq_true (by kernel_rfl)))
  simp only [Value.cells, List.cons.injEq, Value.slice.injEq, and_true] at hs1
  obtain ⟨rfl, rfl, rfl⟩ := hs1
  refine (below_of_call (loginNil_row t1 e1 (errV_of (laid := Rows.loginNilUptoRow.laid) hL (by simp [Rows.loginNilUptoRow]) (by simp [Rows.loginNilUptoRow])) (tabV_of (laid := Rows.loginNilUptoRow.laid) hL (by simp [Rows.loginNilUptoRow])) fun w9 hg => ⟨rfl, hg⟩)).mono fun e W' ⟨he, bel⟩ => ?_
  subst he
  exact ⟨_, rfl, _, _, _, [], _, [], hW', trodAll_mk1 (shut_bool Tryd.underlying4 _), (trodAll_cons_mk (Below.trod laidOut (by kernel_rfl) (of_decide_eq_true (by kernel_rfl)) k0 bel lt0) (trodAll_cons_mk (Below.trod laidOut (by kernel_rfl) (of_decide_eq_true (by kernel_rfl)) k1 bel lt1) trodAll_mk0)), rfl, bel.frame _, fun h => by cases h⟩
theorem over : Rows.LoginNilUptoSaid :=
  OpenClaim.holds_of_cond 6 Tryd.f6 rfl rfl rfl rfl rfl rfl rfl ⟨rfl, rfl, rfl, rfl, rfl⟩ rfl rfl rfl rfl rfl (by kernel_rfl) Tryd.func6 (by kernel_rfl)
    (of_decide_eq_true (by kernel_rfl)) (by unfold Func.isWrapper; first | (rw [if_pos (by decide +kernel)]; kernel_rfl) | (rw [if_neg (by decide +kernel)]; exact ⟨rfl, rfl⟩))
    (fun os started H enc _ F => by rw [OpenClaim.pre_eq_preRow]; exact lifted os started H enc F)
theorem plain (f : FuncId) (fn : Func) (hf : Tryd.pinned.checked.prog.funcNamed Rows.loginNilUptoRow.func = some f) (hfn : Tryd.pinned.checked.prog.funcs[f]? = some fn) :
    true = Tryd.pinned.checked.prog.looks [] ∧ ∀ (j : Nat) t, fn.params[j]? = some t → Tryd.pinned.checked.prog.wantsStandIn t = false := by
  obtain rfl : f = 6 := Option.some.inj ((show Tryd.prog.funcNamed Rows.loginNilUptoRow.func = some 6 by kernel_rfl).symm.trans hf) |>.symm
  obtain rfl : fn = Tryd.f6 := (Option.some.inj (Tryd.func6.symm.trans hfn)).symm
  refine ⟨by kernel_rfl, fun j t ht => ?_⟩
  rw [Tryd.params6] at ht
  have hm : t ∈ [33, 23] := by simpa using Array.mem_of_getElem? ht
  have hall : ([33, 23].all fun u => !Tryd.prog.wantsStandIn u) = true := by kernel_rfl
  exact (show Tryd.prog.wantsStandIn t = false by simpa using List.all_eq_true.1 hall t hm)
end Go.Proofs.YtjfjanogfakclaaDoor.loginNilUpto
namespace Go.Proofs.YtjfjanogfakclaaDoor
/-- The card. -/
theorem loginNilUpto_holds : Rows.LoginNilUptoCardSaid :=
  Claim7.holds_tied_plain_at .later [] _ _ _ _ loginNilUpto.over (fun _ h => by cases h) (by kernel_rfl) (fun _ h => by cases h) loginNilUpto_row_tie rfl ⟨rfl, rfl⟩ (by kernel_rfl) rfl loginNilUpto.plain (by kernel_rfl)
#print axioms loginNilUpto_holds
end Go.Proofs.YtjfjanogfakclaaDoor

