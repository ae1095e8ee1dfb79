/- A login is done exactly where the answer to its challenge is the right one, where what is read is of bulk at most 1048576. -/
import Derived.Test.YtjfjanogfakclaaDoorCards
import Derived.Test.YtjfjanogfakclaaDoorTie
import Derived.Deep.DeepHandedRow
import Derived.Deep.DeepWitnessRowRef
import Derived.Lay
import Derived.SevenTiedAt
import Derived.Test.YtjfjanogfakclaaDoorRows
import Derived.Test.YtjfjanogfakclaaDoorB7
namespace Go.Proofs.YtjfjanogfakclaaDoor.loginProvesUpto
open Go Go.ChangeShapes Go.WideShapes Go.ChangeAt Go.RowKit CF
open Go.ChangeMaps (open_string shut_string)
theorem slim : Slim Tryd.prog := slim_of (by kernel_rfl)
theorem own : ownKnob Tryd.prog.godebug = none := by kernel_rfl
theorem laidOut : laidOutB Tryd.prog = true := by kernel_rfl
theorem laid_met (os : Os) (args : Array Value) : laidMet Tryd.prog Rows.loginProvesUptoRow.laid ((World.laidAll Tryd.prog os Rows.loginProvesUptoRow.laid).forCall (fun _ _ => 0) ⟨#[], args, []⟩).memory := laidMet_laidAll args (by kernel_rfl) (by kernel_rfl)
set_option maxRecDepth 100000 in
theorem lifted (os : Os) (started : os.Started) (H : Type) (enc : TypeId × Value → H) (F : Stop.Interp) :
    ReturnsInHanded {} Tryd.checked os 4 .any ((Rows.OpenSpec.upto Rows.loginProvesSpec).preRow enc Tryd.prog Tryd.f4 Rows.loginProvesUptoRow.domain false Rows.loginProvesUptoRow.laid) (((Rows.OpenSpec.upto Rows.loginProvesSpec).at F).post enc Tryd.prog Tryd.f4 false true false false) := by
  obtain ⟨x0, hx0, hk0⟩ := any_of (show (DataW.whole enc Tryd.prog ((World.laidAll Tryd.prog os Rows.loginProvesUptoRow.laid).forCall (fun _ _ => 0) ⟨#[], #[.string ByteArray.empty, .string ByteArray.empty, .string ByteArray.empty, .int .u8 0, .slice none 0 0, .bool false], []⟩).memory Tryd.f4.params.toList Rows.loginProvesSpec.vars false (#[.string ByteArray.empty, .string ByteArray.empty, .string ByteArray.empty, .int .u8 0, .slice none 0 0, .bool false] : Array Value).toList 8).any (fun x => Rows.uptoSmall H (x.1 ++ x.2.1)) = true by kernel_rfl)
  refine returnsInHanded_of_row (C := Tryd.checked) (s := Rows.OpenSpec.upto Rows.loginProvesSpec) own started (by kernel_rfl) Tryd.func4
    (witness_row_atRef (enc := enc) (C := Tryd.checked) false (World.laidAll Tryd.prog os Rows.loginProvesUptoRow.laid) #[.string ByteArray.empty, .string ByteArray.empty, .string ByteArray.empty, .int .u8 0, .slice none 0 0, .bool false] (World.laidAll_os _ _ _) (by kernel_rfl) (by kernel_rfl) (by kernel_rfl)
      (OpenSpec.preRow_of_cond 8 hx0 rfl (fun k hk => by obtain rfl := Option.some.inj hk; exact hk0) (by kernel_rfl) (laid_met os _))) ?_
  intro W base args ds gs before hval0 hW _ hkc0 hsz0 hL _ _
  have hkc : Rows.uptoSmall H (ds ++ gs) = true := hkc0 _ rfl
  have hsz : (DataW.weightsEach Tryd.prog (Tryd.f4.params.toList ++ Rows.loginProvesSpec.plain.varTypes Tryd.prog) (ds ++ gs)).all (· ≤ reachBytes) = true := hsz0
  have hval : ∀ (j : Nat) t v, Tryd.f4.params[j]? = some t → args[j]? = some v → Value.okWide Tryd.prog W .any base t v := hval0
  have hW' := hW
  obtain ⟨p, q, hA0, hV, rfl, hfz, hnd⟩ := hW
  have hA : DataW.TrodAll enc Tryd.prog W 0 (fun _ => true) true Tryd.f4.params.toList args.toList ds p := hA0
  rw [Tryd.params4] at hA hval hsz
  obtain ⟨v0, vs0, d0, ds0, p0, q0, hargs, rfl, rfl, h0, r0⟩ := trodAll_cons hA
  obtain ⟨v1, vs1, d1, ds1, p1, q1, rfl, rfl, rfl, h1, r1⟩ := trodAll_cons r0
  obtain ⟨v2, vs2, d2, ds2, p2, q2, rfl, rfl, rfl, h2, r2⟩ := trodAll_cons r1
  obtain ⟨v3, vs3, d3, ds3, p3, q3, rfl, rfl, rfl, h3, r3⟩ := trodAll_cons r2
  obtain ⟨v4, vs4, d4, ds4, p4, q4, rfl, rfl, rfl, h4, r4⟩ := trodAll_cons r3
  obtain ⟨v5, vs5, d5, ds5, p5, q5, rfl, rfl, rfl, h5, r5⟩ := trodAll_cons r4
  obtain ⟨rfl, rfl, rfl⟩ := trodAll_nil r5
  obtain rfl : args = #[v0, v1, v2, v3, v4, v5] := by cases args; simp_all
  obtain ⟨rfl, rfl⟩ := trodVars_none hV
  obtain ⟨a0, rfl, rfl, rfl, y0⟩ := open_string Tryd.underlying9 (hval 0 9 v0 rfl rfl) h0
  have w0 : a0.size ≤ 4294967296 := light_str hkc (by simp)
  obtain ⟨a1, rfl, rfl, rfl, y1⟩ := open_string Tryd.underlying9 (hval 1 9 v1 rfl rfl) h1
  have w1 : a1.size ≤ 4294967296 := light_str hkc (by simp)
  obtain ⟨a2, rfl, rfl, rfl, y2⟩ := open_string Tryd.underlying9 (hval 2 9 v2 rfl rfl) h2
  have w2 : a2.size ≤ 4294967296 := light_str hkc (by simp)
  obtain ⟨a3, rfl, rfl, rfl, w3⟩ := open_int Tryd.underlying5 (hval 3 5 v3 rfl rfl) h3
  obtain ⟨a4, len4, cap4, rfl⟩ := okWide_slice Tryd.underlying23 (hval 4 23 v4 rfl rfl)
  have k4 := h4
  have lt4 : ∀ x ∈ p4, x.block < W.heap.size := by obtain ⟨m, hm⟩ := k4; exact DataW.trod_lt m _ _ _ hm
  obtain ⟨fuel4, hf4⟩ := h4
  obtain ⟨s4, hs4, l4, t4, e4⟩ := (opens_ubytes) _ _ _ hf4 (light_of slim hkc (by simp) 23 (of_decide_eq_true (by kernel_rfl)))
  simp only [Value.cells, List.cons.injEq, Value.slice.injEq, and_true] at hs4
  obtain ⟨rfl, rfl, rfl⟩ := hs4
  obtain ⟨a5, rfl, rfl, rfl⟩ := open_bool Tryd.underlying4 (hval 5 4 v5 rfl rfl) h5
  refine (below_of_call (loginProves_row w3 t4 e4 w0 w1 w2 (errV_of (laid := Rows.loginProvesUptoRow.laid) hL (by simp [Rows.loginProvesUptoRow]) (by simp [Rows.loginProvesUptoRow])) (tabV_of (laid := Rows.loginProvesUptoRow.laid) hL (by simp [Rows.loginProvesUptoRow])) fun w9 hg => ⟨rfl, hg⟩)).mono fun e W' ⟨he, bel⟩ => ?_
  subst he
  exact ⟨_, rfl, _, _, _, [], _, [], hW', trodAll_mk1 (shut_bool Tryd.underlying4 _), (trodAll_cons_mk (shut_string Tryd.underlying9 y0) (trodAll_cons_mk (shut_string Tryd.underlying9 y1) (trodAll_cons_mk (shut_string Tryd.underlying9 y2) (trodAll_cons_mk (shut_int Tryd.underlying5 w3) (trodAll_cons_mk (Below.trod laidOut (by kernel_rfl) (of_decide_eq_true (by kernel_rfl)) k4 bel lt4) (trodAll_cons_mk (shut_bool Tryd.underlying4 _) trodAll_mk0)))))), rfl, bel.frame _, fun h => by cases h⟩
theorem over : Rows.LoginProvesUptoSaid :=
  OpenClaim.holds_of_cond 4 Tryd.f4 rfl rfl rfl rfl rfl rfl rfl ⟨rfl, rfl, rfl, rfl, rfl⟩ rfl rfl rfl rfl rfl (by kernel_rfl) Tryd.func4 (by kernel_rfl)
    (of_decide_eq_true (by kernel_rfl)) (by unfold Func.isWrapper; first | (rw [if_pos (by decide +kernel)]; kernel_rfl) | (rw [if_neg (by decide +kernel)]; exact ⟨rfl, rfl⟩))
    (fun os started H enc _ F => by rw [OpenClaim.pre_eq_preRow]; exact lifted os started H enc F)
theorem plain (f : FuncId) (fn : Func) (hf : Tryd.pinned.checked.prog.funcNamed Rows.loginProvesUptoRow.func = some f) (hfn : Tryd.pinned.checked.prog.funcs[f]? = some fn) :
    true = Tryd.pinned.checked.prog.looks [] ∧ ∀ (j : Nat) t, fn.params[j]? = some t → Tryd.pinned.checked.prog.wantsStandIn t = false := by
  obtain rfl : f = 4 := Option.some.inj ((show Tryd.prog.funcNamed Rows.loginProvesUptoRow.func = some 4 by kernel_rfl).symm.trans hf) |>.symm
  obtain rfl : fn = Tryd.f4 := (Option.some.inj (Tryd.func4.symm.trans hfn)).symm
  refine ⟨by kernel_rfl, fun j t ht => ?_⟩
  rw [Tryd.params4] at ht
  have hm : t ∈ [9, 9, 9, 5, 23, 4] := by simpa using Array.mem_of_getElem? ht
  have hall : ([9, 9, 9, 5, 23, 4].all fun u => !Tryd.prog.wantsStandIn u) = true := by kernel_rfl
  exact (show Tryd.prog.wantsStandIn t = false by simpa using List.all_eq_true.1 hall t hm)
end Go.Proofs.YtjfjanogfakclaaDoor.loginProvesUpto
namespace Go.Proofs.YtjfjanogfakclaaDoor
/-- The card. -/
theorem loginProvesUpto_holds : Rows.LoginProvesUptoCardSaid :=
  Claim7.holds_tied_plain_at .later [] _ _ _ _ loginProvesUpto.over (fun _ h => by cases h) (by kernel_rfl) (fun _ h => by cases h) loginProvesUpto_row_tie rfl ⟨rfl, rfl⟩ (by kernel_rfl) rfl loginProvesUpto.plain (by kernel_rfl)
#print axioms loginProvesUpto_holds
end Go.Proofs.YtjfjanogfakclaaDoor

