/- A reservation that lasts, and pages that were saved, are there behind every crash, as they were told; what doesn't last is gone; and each nexus is told first that the power came on. -/
import Derived.Test.YtpmebahhjgkflaaGreatDoorCards
import Derived.Test.YtpmebahhjgkflaaGreatDoorTie
import Derived.Deep.DeepHandedRow
import Derived.Deep.DeepWitnessRowRef
import Derived.Lay
import Derived.SevenTiedAt
import Derived.Test.YtpmebahhjgkflaaGreatDoorRows
import Derived.Test.YtpmebahhjgkflaaGreatDoorB9
set_option maxHeartbeats 20000000
namespace Go.Proofs.YtpmebahhjgkflaaGreatDoor.unitLasts
open Go Go.ChangeShapes Go.WideShapes Go.ChangeAt Go.RowKit CF
open Go.ChangeMaps (open_string shut_string)
theorem own:ownKnob Tryz.prog.godebug=none:=k_
theorem laidOut:laidOutB Tryz.prog=true:=k_
theorem laid_met (os:Os) (args:A_):laidMet Tryz.prog Rows.unitLastsRow.laid ((World.laidAll Tryz.prog os Rows.unitLastsRow.laid).forCall (fun _ _=>0) ⟨#[],args,[]⟩).memory:=laidMet_laidAll args k_ k_
set_option maxRecDepth 100000 in
theorem lifted (os:Os) (started:os.Started) (H:Type) (enc:TypeId×Value→H) (F:Stop.Interp) :
  ReturnsInHanded {} Tryz.checked os 8 .any ((OpenSpec.ofChange Rows.unitLastsSpec).preRow enc Tryz.prog Tryz.f8 Rows.unitLastsRow.domain false Rows.unitLastsRow.laid) (((OpenSpec.ofChange Rows.unitLastsSpec).at F).post enc Tryz.prog Tryz.f8 false true false false):=by
 obtain⟨x0,hx0⟩:=Option.isSome_iff_exists.1 (show(DataW.whole enc Tryz.prog ((World.laidAll Tryz.prog os Rows.unitLastsRow.laid).forCall (fun _ _=>0) ⟨#[],#[.agg #[.int .u64 0,.int .u64 0,.int .u64 0,.int .u64 0],.int .u8 0,.bool false,.int .u8 0,.int .u8 0,.int .u8 0,.int .u8 0],[]⟩).memory Tryz.f8.params.toList Rows.unitLastsSpec.vars false (#[.agg #[.int .u64 0,.int .u64 0,.int .u64 0,.int .u64 0],.int .u8 0,.bool false,.int .u8 0,.int .u8 0,.int .u8 0,.int .u8 0]:A_).toList 8).isSome=true by kernel_rfl)
 refine returnsInHanded_of_row (C:=Tryz.checked) (s:=OpenSpec.ofChange Rows.unitLastsSpec) own started k_ Tryz.func8
  (witness_row_atRef (enc:=enc) (C:=Tryz.checked) false (World.laidAll Tryz.prog os Rows.unitLastsRow.laid) #[.agg #[.int .u64 0,.int .u64 0,.int .u64 0,.int .u64 0],.int .u8 0,.bool false,.int .u8 0,.int .u8 0,.int .u8 0,.int .u8 0] (World.laidAll_os _ _ _) k_ k_ k_
   (OpenSpec.preRow_of_cond 8 hx0 rfl (fun k hk=>by cases hk) k_ (laid_met os _))) ?_
 intro W base args ds gs before hval0 hW _ _ hsz0 hL _ _
 have hsz:(DataW.weightsEach Tryz.prog (Tryz.f8.params.toList++Rows.unitLastsSpec.plain.varTypes Tryz.prog) (ds++gs)).all (·≤reachBytes)=true:=hsz0
 have hval:∀(j:Nat) t v,Tryz.f8.params[j]?=some t→args[j]?=some v→Value.okWide Tryz.prog W .any base t v:=hval0
 have hW':=hW
 obtain⟨p,q,hA0,hV,rfl,hfz,hnd⟩:=hW
 have hA:DataW.TrodAll enc Tryz.prog W 0 (fun _=>true) true Tryz.f8.params.toList args.toList ds p:=hA0
 rw[Tryz.params8] at hA hval hsz
 obtain⟨v0,vs0,d0,ds0,p0,q0,hargs,rfl,rfl,h0,r0⟩:=trodAll_cons hA
 obtain⟨v1,vs1,d1,ds1,p1,q1,rfl,rfl,rfl,h1,r1⟩:=trodAll_cons r0
 obtain⟨v2,vs2,d2,ds2,p2,q2,rfl,rfl,rfl,h2,r2⟩:=trodAll_cons r1
 obtain⟨v3,vs3,d3,ds3,p3,q3,rfl,rfl,rfl,h3,r3⟩:=trodAll_cons r2
 obtain⟨v4,vs4,d4,ds4,p4,q4,rfl,rfl,rfl,h4,r4⟩:=trodAll_cons r3
 obtain⟨v5,vs5,d5,ds5,p5,q5,rfl,rfl,rfl,h5,r5⟩:=trodAll_cons r4
 obtain⟨v6,vs6,d6,ds6,p6,q6,rfl,rfl,rfl,h6,r6⟩:=trodAll_cons r5
 obtain⟨rfl,rfl,rfl⟩:=trodAll_nil r6
 obtain rfl:args=#[v0,v1,v2,v3,v4,v5,v6]:=by cases args;simp_all
 obtain⟨rfl,rfl⟩:=trodVars_none hV
 obtain⟨cs0,rfl,z0⟩:=s4_ Tryz.underlying94 (hval 0 94 v0 rfl rfl)
 have k0:=h0
 have lt0:∀x∈p0,x.block<W.heap.size:=by obtain⟨m,hm⟩:=k0;exact DataW.trod_lt m _ _ _ hm
 obtain⟨fuel0,hf0⟩:=h0
 obtain⟨c0,hs0,y0⟩:=(s5_) _ _ _ hf0 (fun m hm=>by simpa using List.all_eq_true.1 hsz _ (DataW.weights_mem_each (j:=0) (t:=94) rfl rfl m hm))
 have hs0:cs0.toList=_:=hs0
 obtain rfl:cs0=(kv c0).toArray:=by rw[←hs0]
 obtain⟨a1,rfl,rfl,rfl,w1⟩:=open_int Tryz.underlying5 (hval 1 5 v1 rfl rfl) h1
 obtain⟨a2,rfl,rfl,rfl⟩:=open_bool Tryz.underlying4 (hval 2 4 v2 rfl rfl) h2
 obtain⟨a3,rfl,rfl,rfl,w3⟩:=open_int Tryz.underlying5 (hval 3 5 v3 rfl rfl) h3
 obtain⟨a4,rfl,rfl,rfl,w4⟩:=open_int Tryz.underlying5 (hval 4 5 v4 rfl rfl) h4
 obtain⟨a5,rfl,rfl,rfl,w5⟩:=open_int Tryz.underlying5 (hval 5 5 v5 rfl rfl) h5
 obtain⟨a6,rfl,rfl,rfl,w6⟩:=open_int Tryz.underlying5 (hval 6 5 v6 rfl rfl) h6
 refine(oV_ (oY_ y0 w1 w3 w4 w5 w6 fun w7 hg=>⟨rfl,hg⟩)).mono fun e W' ⟨he,bel⟩=>?_
 subst he
 exact⟨_,rfl,_,_,_,[],_,[],hW',trodAll_mk1 (shut_bool Tryz.underlying4 _),(trodAll_cons_mk (Below.trod laidOut k_ (of_decide_eq_true k_) k0 bel lt0) (trodAll_cons_mk (shut_int Tryz.underlying5 w1) (trodAll_cons_mk (shut_bool Tryz.underlying4 _) (trodAll_cons_mk (shut_int Tryz.underlying5 w3) (trodAll_cons_mk (shut_int Tryz.underlying5 w4) (trodAll_cons_mk (shut_int Tryz.underlying5 w5) (trodAll_cons_mk (shut_int Tryz.underlying5 w6) trodAll_mk0))))))),rfl,bel.frame _,fun h=>by cases h⟩
set_option maxRecDepth 100000 in
theorem closed:joinedFacts Tryz.pinned.checked.prog 8 Tryz.f8 (OpenSpec.ofChange Rows.unitLastsSpec).bare Rows.unitLastsRow=true:=by
 unfold joinedFacts
 simp only[Bool.and_eq_true]
 with_reducible repeat' (refine And.intro ?_ ?_)
 all_goals (as_aux_lemma=>kernel_rfl)
theorem over:Rows.UnitLastsSaid:=
 OpenClaim.holds_of_cond 8 Tryz.f8 rfl rfl rfl rfl rfl rfl rfl ⟨rfl,rfl,rfl,rfl,rfl⟩ rfl rfl rfl rfl rfl k_ Tryz.func8 closed
  (of_decide_eq_true k_) (by unfold Func.isWrapper;first|(rw[if_pos (by decide +kernel)];kernel_rfl)|(rw[if_neg (by decide +kernel)];exact⟨rfl,rfl⟩))
  (fun os started H enc _ F=>by rw[OpenClaim.pre_eq_preRow];exact lifted os started H enc F)
theorem plain (f:FuncId) (fn:Func) (hf:Tryz.pinned.checked.prog.funcNamed Rows.unitLastsRow.func=some f) (hfn:Tryz.pinned.checked.prog.funcs[f]?=some fn) :
  true=Tryz.pinned.checked.prog.looks []∧∀(j:Nat) t,fn.params[j]?=some t→Tryz.pinned.checked.prog.wantsStandIn t=false:=by
 obtain rfl:f=8:=Option.some.inj ((show Tryz.prog.funcNamed Rows.unitLastsRow.func=some 8 by kernel_rfl).symm.trans hf) |>.symm
 obtain rfl:fn=Tryz.f8:=(Option.some.inj (Tryz.func8.symm.trans hfn)).symm
 refine⟨k_,fun j t ht=>?_⟩
 rw[Tryz.params8] at ht
 have hm:t∈[94,5,4,5,5,5,5]:=by simpa using Array.mem_of_getElem? ht
 have hall:([94,5,4,5,5,5,5].all fun u=> !Tryz.prog.wantsStandIn u)=true:=k_
 exact(show Tryz.prog.wantsStandIn t=false by simpa using List.all_eq_true.1 hall t hm)
end Go.Proofs.YtpmebahhjgkflaaGreatDoor.unitLasts
namespace Go.Proofs.YtpmebahhjgkflaaGreatDoor
theorem unitLasts_holds:Rows.UnitLastsCardSaid:=
 Claim7.holds_tied_plain_at .later [] _ _ _ _ unitLasts.over (fun _ h=>by cases h) k_ (fun _ h=>by cases h) unitLasts_row_tie rfl ⟨rfl,rfl⟩ k_ rfl unitLasts.plain k_
#print axioms unitLasts_holds
end Go.Proofs.YtpmebahhjgkflaaGreatDoor
