/- A copy reaches peers, and no unit that is none; a peer that is reserved by somebody else is not written. -/
import Derived.Test.YtpmebahhjgkflaaGreatDoorCards
import Derived.Test.YtpmebahhjgkflaaGreatDoorTie
import Derived.Deep.DeepHandedRow
import Derived.Deep.DeepWitnessRowRef
import Derived.Lay
import Derived.SevenTiedAt
import Derived.Test.YtpmebahhjgkflaaGreatDoorRows
import Derived.Test.YtpmebahhjgkflaaGreatDoorB9
set_option maxHeartbeats 20000000
namespace Go.Proofs.YtpmebahhjgkflaaGreatDoor.unitPeers
open Go Go.ChangeShapes Go.WideShapes Go.ChangeAt Go.RowKit CF
open Go.ChangeMaps (open_string shut_string)
theorem own:ownKnob Tryz.prog.godebug=none:=k_
theorem laidOut:laidOutB Tryz.prog=true:=k_
theorem laid_met (os:Os) (args:A_):laidMet Tryz.prog Rows.unitPeersRow.laid ((World.laidAll Tryz.prog os Rows.unitPeersRow.laid).forCall (fun _ _=>0) ⟨#[],args,[]⟩).memory:=laidMet_laidAll args k_ k_
set_option maxRecDepth 100000 in
theorem lifted (os:Os) (started:os.Started) (H:Type) (enc:TypeId×Value→H) (F:Stop.Interp) :
  ReturnsInHanded {} Tryz.checked os 4 .any ((OpenSpec.ofChange Rows.unitPeersSpec).preRow enc Tryz.prog Tryz.f4 Rows.unitPeersRow.domain false Rows.unitPeersRow.laid) (((OpenSpec.ofChange Rows.unitPeersSpec).at F).post enc Tryz.prog Tryz.f4 false true false false):=by
 obtain⟨x0,hx0⟩:=Option.isSome_iff_exists.1 (show(DataW.whole enc Tryz.prog ((World.laidAll Tryz.prog os Rows.unitPeersRow.laid).forCall (fun _ _=>0) ⟨#[],#[.slice none 0 0,.bool false,.bool false],[]⟩).memory Tryz.f4.params.toList Rows.unitPeersSpec.vars false (#[.slice none 0 0,.bool false,.bool false]:A_).toList 8).isSome=true by kernel_rfl)
 refine returnsInHanded_of_row (C:=Tryz.checked) (s:=OpenSpec.ofChange Rows.unitPeersSpec) own started k_ Tryz.func4
  (witness_row_atRef (enc:=enc) (C:=Tryz.checked) false (World.laidAll Tryz.prog os Rows.unitPeersRow.laid) #[.slice none 0 0,.bool false,.bool false] (World.laidAll_os _ _ _) k_ k_ k_
   (OpenSpec.preRow_of_cond 8 hx0 rfl (fun k hk=>by cases hk) k_ (laid_met os _))) ?_
 intro W base args ds gs before hval0 hW _ _ hsz0 hL _ _
 have hsz:(DataW.weightsEach Tryz.prog (Tryz.f4.params.toList++Rows.unitPeersSpec.plain.varTypes Tryz.prog) (ds++gs)).all (·≤reachBytes)=true:=hsz0
 have hval:∀(j:Nat) t v,Tryz.f4.params[j]?=some t→args[j]?=some v→Value.okWide Tryz.prog W .any base t v:=hval0
 have hW':=hW
 obtain⟨p,q,hA0,hV,rfl,hfz,hnd⟩:=hW
 have hA:DataW.TrodAll enc Tryz.prog W 0 (fun _=>true) true Tryz.f4.params.toList args.toList ds p:=hA0
 rw[Tryz.params4] at hA hval hsz
 obtain⟨v0,vs0,d0,ds0,p0,q0,hargs,rfl,rfl,h0,r0⟩:=trodAll_cons hA
 obtain⟨v1,vs1,d1,ds1,p1,q1,rfl,rfl,rfl,h1,r1⟩:=trodAll_cons r0
 obtain⟨v2,vs2,d2,ds2,p2,q2,rfl,rfl,rfl,h2,r2⟩:=trodAll_cons r1
 obtain⟨rfl,rfl,rfl⟩:=trodAll_nil r2
 obtain rfl:args=#[v0,v1,v2]:=by cases args;simp_all
 obtain⟨rfl,rfl⟩:=trodVars_none hV
 obtain⟨a0,len0,cap0,rfl⟩:=okWide_slice Tryz.underlying33 (hval 0 33 v0 rfl rfl)
 have k0:=h0
 have lt0:∀x∈p0,x.block<W.heap.size:=by obtain⟨m,hm⟩:=k0;exact DataW.trod_lt m _ _ _ hm
 obtain⟨fuel0,hf0⟩:=h0
 obtain⟨s0,hs0,l0,t0,e0,b0⟩:=(su_ aN_ eH_ k_ k_) _ _ _ hf0 (fun m hm=>by simpa using List.all_eq_true.1 hsz _ (DataW.weights_mem_each (j:=0) (t:=33) rfl rfl m hm))
 simp only[Value.cells,List.cons.injEq,Value.slice.injEq,and_true] at hs0
 obtain⟨rfl,rfl,rfl⟩:=hs0
 obtain⟨a1,rfl,rfl,rfl⟩:=open_bool Tryz.underlying4 (hval 1 4 v1 rfl rfl) h1
 obtain⟨a2,rfl,rfl,rfl⟩:=open_bool Tryz.underlying4 (hval 2 4 v2 rfl rfl) h2
 refine(qy_ (pM_ t0 fun w3 hg=>⟨rfl,hg⟩)).mono fun e W' ⟨he,bel⟩=>?_
 subst he
 exact⟨_,rfl,_,_,_,[],_,[],hW',trodAll_mk1 (shut_bool Tryz.underlying4 _),(trodAll_cons_mk (Below.trod laidOut k_ (of_decide_eq_true k_) k0 bel lt0) (trodAll_cons_mk (shut_bool Tryz.underlying4 _) (trodAll_cons_mk (shut_bool Tryz.underlying4 _) trodAll_mk0))),rfl,bel.frame _,fun h=>by cases h⟩
set_option maxRecDepth 100000 in
theorem closed:joinedFacts Tryz.pinned.checked.prog 4 Tryz.f4 (OpenSpec.ofChange Rows.unitPeersSpec).bare Rows.unitPeersRow=true:=by
 unfold joinedFacts
 simp only[Bool.and_eq_true]
 with_reducible repeat' (refine And.intro ?_ ?_)
 all_goals (as_aux_lemma=>kernel_rfl)
theorem over:Rows.UnitPeersSaid:=
 OpenClaim.holds_of_cond 4 Tryz.f4 rfl rfl rfl rfl rfl rfl rfl ⟨rfl,rfl,rfl,rfl,rfl⟩ rfl rfl rfl rfl rfl k_ Tryz.func4 closed
  (of_decide_eq_true k_) (by unfold Func.isWrapper;first|(rw[if_pos (by decide +kernel)];kernel_rfl)|(rw[if_neg (by decide +kernel)];exact⟨rfl,rfl⟩))
  (fun os started H enc _ F=>by rw[OpenClaim.pre_eq_preRow];exact lifted os started H enc F)
theorem plain (f:FuncId) (fn:Func) (hf:Tryz.pinned.checked.prog.funcNamed Rows.unitPeersRow.func=some f) (hfn:Tryz.pinned.checked.prog.funcs[f]?=some fn) :
  true=Tryz.pinned.checked.prog.looks []∧∀(j:Nat) t,fn.params[j]?=some t→Tryz.pinned.checked.prog.wantsStandIn t=false:=by
 obtain rfl:f=4:=Option.some.inj ((show Tryz.prog.funcNamed Rows.unitPeersRow.func=some 4 by kernel_rfl).symm.trans hf) |>.symm
 obtain rfl:fn=Tryz.f4:=(Option.some.inj (Tryz.func4.symm.trans hfn)).symm
 refine⟨k_,fun j t ht=>?_⟩
 rw[Tryz.params4] at ht
 have hm:t∈[33,4,4]:=by simpa using Array.mem_of_getElem? ht
 have hall:([33,4,4].all fun u=> !Tryz.prog.wantsStandIn u)=true:=k_
 exact(show Tryz.prog.wantsStandIn t=false by simpa using List.all_eq_true.1 hall t hm)
end Go.Proofs.YtpmebahhjgkflaaGreatDoor.unitPeers
namespace Go.Proofs.YtpmebahhjgkflaaGreatDoor
theorem unitPeers_holds:Rows.UnitPeersCardSaid:=
 Claim7.holds_tied_plain_at .later [] _ _ _ _ unitPeers.over (fun _ h=>by cases h) k_ (fun _ h=>by cases h) unitPeers_row_tie rfl ⟨rfl,rfl⟩ k_ rfl unitPeers.plain k_
#print axioms unitPeers_holds
end Go.Proofs.YtpmebahhjgkflaaGreatDoor
