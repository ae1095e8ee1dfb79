import Derived.Test.YtpmebahhjgkflaaGreatDoorB6
set_option maxHeartbeats 20000000
namespace Go.Proofs.YtpmebahhjgkflaaGreatDoor
open Go CF
set_option maxRecDepth 100000
def vf:aU_:=⟨false,false,false⟩
def ix_ (b:UInt8):Option L8:=if b=8 then some (fg_ vf) else if b=10 then some (g6_ vf) else none
def kS_ (b:UInt8) (i:Nat):UInt8:=if i=2 then 4 else if i=4∧b=10 then 8 else 0
def pc_ (r:L8) (j:Nat):Option (Nat×Nat):=(eH_ (r.getD (j+2) 0 &&& ~~~(kS_ (r.getD 0 0) (j+2))).toNat 8).map fun k=>(j+2,k)
def sO_ (r:L8) (n:Nat):Option (Nat×Nat):=(List.range (n-2)).findSome? (pc_ r)
def pd_ (v:aU_) (r:L8):aU_:=if r.getD 0 0=8 then {v with wce:=r.getD 2 0 != 0} else {v with ds:=r.getD 2 0 != 0,swp:=r.getD 4 0 != 0}
def f3_ (l:L8) (at_:Nat) (v:aU_):Except Sn (aU_×Nat):=
 match ix_ ((l.drop at_).getD 0 0) with
 | none=>.error (eg_ at_ (-1) false)
 | some W=>
  if (l.drop at_).length<2∨((l.drop at_).length<W.length∧(l.drop at_).getD 1 0=W.getD 1 0) then .error (dN_ 0x1a00)
  else if (l.drop at_).getD 1 0≠W.getD 1 0 then .error (eg_ (at_+1) (-1) false)
  else match sO_ (l.drop at_) W.length with
   | some (i,k)=>.error (eg_ (at_+i) (k:Int) false)
   | none=>.ok (pd_ v (l.drop at_),W.length)
theorem sP_ {b:UInt8} {n:Nat} (hn:n<256):(((b.toNat:Nat):Int)==(n:Int))=decide (b=UInt8.ofNat n):=by
 rw[Bool.eq_iff_iff,beq_iff_eq,decide_eq_true_eq]
 constructor
 ·intro h
  apply UInt8.toNat_inj.1
  rw[UInt8.toNat_ofNat',Nat.mod_eq_of_lt o_];omega
 ·rintro rfl
  rw[UInt8.toNat_ofNat',Nat.mod_eq_of_lt o_]
theorem nz_ {b:UInt8}:(((b.toNat:Nat):Int) != 0)=(b != 0):=by
 rw[Bool.eq_iff_iff,bne_iff_ne,bne_iff_ne]
 constructor
 ·intro h e;subst e;exact h rfl
 ·intro h e
  apply h
  apply UInt8.toNat_inj.1
  show b.toNat=0
  omega
section
variable {w u:World}
theorem sQ_ {p:Sl} {l:L8} {at_:Nat} {V:aU_} {R:A_→Int→A_→Bool→W_} (hp:Rd w 1 p (bv l)) (hpn:p.n≤1000000) (hat:at_<l.length)
  (hR:match f3_ l at_ V with
   | .error s=>∀w',ab_ w w'→R (vlv V).toArray 0 (snv s).toArray false w'
   | .ok (v',n)=>∀w',ab_ w w'→R (vlv v').toArray (n:Int) (snv sn0).toArray true w'):ko_ p (at_:Int) (vlv V).toArray w R:=by
 refine io_.calls _ _ _ _ _ (ag_ fun vb w0 hvb hb0 hg0 hs0=>ag_ fun ab w1 hab hb1 hg1 hs1=>ag_ fun sb w2 hsb hb2 hg2 hs2=>?_)
 simp only[Int.toNat_natCast]
 have hpl:=cV_ hp
 have hgw2:=(hg0.trans hg1).trans hg2
 have hv2:Blk w2 vb (vlv V).toArray aA_:=(hg1.trans hg2).heap hb0 (fun q=>q)
 have ha2:Blk w2 ab _ aA_:=hg2.heap hb1 (fun q=>q)
 have hs2':Blk w2 sb _ av_:=hb2
 have hc2:Rd w2 1 ⟨aM_ p.A p.c at_ 1,p.n-at_,p.c-at_⟩ (bv (l.drop at_)):=by
  have:=(hp.grow hgw2).cutB (l:=at_) (k:=p.n) o_ (Nat.le_refl _)
  rwa [List.take_of_length_le (by rw[List.length_drop];omega)] at this
 have rl:(l.drop at_).length=p.n-at_:=by rw[List.length_drop];omega
 unfold f3_ at hR
 generalize hrest:l.drop at_=r at *
 have cell:∀{v:World} {i:Nat},ab_ w2 v→i<r.length→(aM_ p.A p.c at_ 1).isSome=true∧v.cell? ((gA (aM_ p.A p.c at_ 1)).add (i*1))=some (.int .u8 ((r.getD i 0).toNat:Int)):=fun {v i} g hi=>dC_ (hc2.grow g) hi
 have ret:∀{o:World} {V':aU_} {s:Sn} {n:Int} {b:Bool} {A B:A_},ab_ w o→Blk o ab A aA_→A.size=3→Blk o sb B av_→B.size=8→(∀o',ab_ w o'→R (vlv V').toArray n (snv s).toArray b o')→
   ah_ Tryz.prog (storeVar aA_ ⟨ab,0,none⟩ (.agg (vlv V').toArray)) o fun o1=>ah_ Tryz.prog (storeVar av_ ⟨sb,0,none⟩ (.agg (snv s).toArray)) o1 fun o2=>∃res:A_,(loadVar aA_ ⟨ab,0,none⟩).run Tryz.prog o2=.ok (.agg res) o2∧∃res1:A_,(loadVar av_ ⟨sb,0,none⟩).run Tryz.prog o2=.ok (.agg res1) o2∧R res n res1 b o2:=
  fun {o V' s n b A B} g hA hA3 hB hB8 hK=>ap_ (cells:=(vlv V').toArray) hA a8_ rfl hA3 (by simp[vlv,Value.oneCell']) fun o1 h1 k1 _=>ap_ (cells:=(snv s).toArray) (k1.heap hB o_) aV_ rfl hB8 (by simp[snv,Value.oneCell']) fun o2 h2 k2 _=>
   ⟨_,dF_ (ar_ (k2.heap h1 o_)),_,fK_ (ar_ h2),hK o2 ((g.keep k1 fun i hi q=>by have:=hg0.size;omega).keep k2 fun i hi q=>by have:=hg0.size;have:=hg1.size;omega)⟩
 have bad:∀{o:World} {field:Nat} {bit:Int},ab_ w2 o→(∀o',ab_ w o'→R (vlv V).toArray 0 (snv (eg_ field bit false)).toArray false o')→∀o1,o1=o.drew→∃S:W_,S o1∧∃g1:A_,(∀u4,S u4→(loadVar aA_ ⟨vb,0,none⟩).run Tryz.prog u4=.ok (.agg g1) u4)∧et_ (field:Int) bit false o1 fun g2 w09=>S w09∧ah_ Tryz.prog (storeVar aA_ ⟨ab,0,none⟩ (.agg g1)) w09 fun w010=>ah_ Tryz.prog (storeVar av_ ⟨sb,0,none⟩ (.agg g2)) w010 fun w011=>∃res2:A_,(loadVar aA_ ⟨ab,0,none⟩).run Tryz.prog w011=.ok (.agg res2) w011∧∃res3:A_,(loadVar av_ ⟨sb,0,none⟩).run Tryz.prog w011=.ok (.agg res3) w011∧R res2 0 res3 false w011:=by
  rintro o field bit g hK o1 rfl
  have g1:=g.trans (ak_ o)
  refine⟨fun o=>ab_ w2 o,g1,(vlv V).toArray,fun u q=>dF_ (ar_ (q.heap hv2 (fun q=>q))),lC_ fun o2 g2=>?_⟩
  have g3:=g1.trans g2
  exact⟨g3,ret (hgw2.trans g3) (g3.heap ha2 (fun q=>q)) rfl (g3.heap hs2' (fun q=>q)) rfl hK⟩
 have r0:0<r.length:=o_
 refine⟨⟨o_,o_,by have:=hp.cap;omega,hp.cap⟩,⟨d_,o_,(cell (aa_.refl _ _) r0).1⟩,_,(cell (aa_.refl _ _) r0).2,?_⟩
 have e8:((((r.getD 0 0).toNat:Nat):Int)==8)=decide (r.getD 0 0=8):=sP_ (n:=8) d_
 have e10:((((r.getD 0 0).toNat:Nat):Int)==10)=decide (r.getD 0 0=10):=sP_ (n:=10) d_
 rw[e8,e10]
 refine bc_ (fun(x:Sl) o=>∃W,ix_ (r.getD 0 0)=some W∧ab_ w2 o∧Own o w2.heap.size ae_ 1 x (bv W)) ?_ (fun J=>?_)
 case refine_2=>
  by_cases q8:r.getD 0 0=8
  ·exact am_ (decide_eq_true q8) (oF_ (v:=vf) fun x o g ho=>J x o ⟨_,by unfold ix_;rw[if_pos q8],g,ho⟩)
  refine aj_ (decide_eq_false q8) ?_
  by_cases q10:r.getD 0 0=10
  ·exact am_ (decide_eq_true q10) (oG_ (v:=vf) fun x o g ho=>J x o ⟨_,by unfold ix_;rw[if_neg q8,if_pos q10],g,ho⟩)
  refine aj_ (decide_eq_false q10) (bad (aa_.refl _ _) ?_)
  have:ix_ (r.getD 0 0)=none:=by unfold ix_;rw[if_neg q8,if_neg q10]
  rw[this] at hR
  exact hR
 rintro x o ⟨W,hW,go,hx⟩
 rw[hW] at hR
 dsimp only at hR
 have hWl:(r.getD 0 0=8∧W=fg_ vf)∨(r.getD 0 0=10∧W=g6_ vf):=by
  unfold ix_ at hW
  by_cases q8:r.getD 0 0=8
  ·rw[if_pos q8] at hW;injection hW with hW;exact .inl ⟨q8,hW.symm⟩
  ·rw[if_neg q8] at hW
   by_cases q10:r.getD 0 0=10
   ·rw[if_pos q10] at hW;injection hW with hW;exact .inr ⟨q10,hW.symm⟩
   ·rw[if_neg q10] at hW;cases hW
 have hWn:12≤W.length∧W.length≤20:=by
  rcases hWl with⟨_,rfl⟩|⟨_,rfl⟩
  ·rw[h1_];omega
  ·rw[h2_];omega
 have xn:=j4_ hx
 have hxr:=hx.rd o_
 have cx1:=dC_ hxr (i:=1) o_
 rintro o1 rfl
 have g1:=go.trans (ak_ o)
 have cx:∀{v:World},ab_ o.drew v→v.cell? ((gA x.A).add (1*1))=some (.int .u8 ((W.getD 1 0).toNat:Int)):=fun g=>(dC_ ((hxr.grow (ak_ o)).grow g) (i:=1) o_).2
 generalize o.drew=o1 at *
 have eqb:∀{a b:UInt8},((((a.toNat:Nat):Int)==((b.toNat:Nat):Int)))=decide (a=b):=fun {a b}=>by
  rw[Bool.eq_iff_iff,beq_iff_eq,decide_eq_true_eq]
  exact⟨fun h=>UInt8.toNat_inj.1 o_,fun h=>by rw[h]⟩
 refine⟨fun v=>ab_ o1 v,aa_.refl _ _,?_⟩
 by_cases h2:r.length<2
 ·rw[if_pos (.inl h2)] at hR
  have hf:(decide (((p.n-at_:Nat):Int)<(x.n:Int)) && !decide (((p.n-at_:Nat):Int)<2))=true→False:=fun q=>by
   rw[Bool.and_eq_true,Bool.not_eq_true',decide_eq_false_iff_not] at q
   omega
  refine⟨fun q=>(hf q).elim,0,fun q=>(hf q).elim,fun q=>(hf q).elim,0,fun q=>(hf q).elim,am_ (by rw[Bool.or_eq_true,decide_eq_true_eq];left;omega) ⟨_,dF_ (ar_ (g1.heap hv2 (fun q=>q))),?_⟩⟩
  exact ret (s:=dN_ 0x1a00) (hgw2.trans g1) (g1.heap ha2 (fun q=>q)) rfl (g1.heap hs2' (fun q=>q)) rfl hR
 refine⟨fun _=>⟨d_,o_,(cell g1 (i:=1) o_).1⟩,_,fun _ v q=>(cell (g1.trans q) (i:=1) o_).2,fun _=>⟨d_,o_,cx1.1⟩,_,fun _ v q=>cx q,?_⟩
 rw[eqb]
 by_cases hshort:r.length<W.length∧r.getD 1 0=W.getD 1 0
 ·rw[if_pos (.inr hshort)] at hR
  refine am_ (by rw[Bool.or_eq_true,Bool.and_eq_true,decide_eq_true_eq,decide_eq_true_eq,decide_eq_true_eq];right;exact⟨o_,hshort.2⟩) ⟨_,dF_ (ar_ (g1.heap hv2 (fun q=>q))),?_⟩
  exact ret (s:=dN_ 0x1a00) (hgw2.trans g1) (g1.heap ha2 (fun q=>q)) rfl (g1.heap hs2' (fun q=>q)) rfl hR
 rw[if_neg (fun q=>q.elim h2 hshort)] at hR
 refine aj_ ?_ ?_
 ·rw[Bool.or_eq_false_iff,Bool.and_eq_false_iff,decide_eq_false_iff_not,decide_eq_false_iff_not,decide_eq_false_iff_not]
  refine⟨o_,?_⟩
  by_cases q:r.getD 1 0=W.getD 1 0
  ·left;intro q2;exact hshort ⟨o_,q⟩
  ·right;exact q
 rintro o2 rfl
 have g2:ab_ o1 o1.drew:=ak_ o1
 have gw2:=g1.trans g2
 generalize o1.drew=o2 at *
 refine⟨fun v=>ab_ o2 v,aa_.refl _ _,⟨d_,o_,(cell g1 (i:=1) o_).1⟩,_,fun v q=>(cell (gw2.trans q) (i:=1) o_).2,⟨d_,o_,cx1.1⟩,_,fun v q=>cx (g2.trans q),?_⟩
 by_cases hne:r.getD 1 0=W.getD 1 0
 case neg=>
  rw[if_pos hne] at hR
  refine am_ (by rw[bne,eqb,Bool.not_eq_true',decide_eq_false_iff_not];exact hne) ?_
  rw[w64 o_ o_,show((at_:Int)+1)=((at_+1:Nat):Int) by omega]
  exact bad gw2 hR
 rw[if_neg (fun q=>q hne)] at hR
 have hlen:W.length≤r.length:=by
  rcases Nat.lt_or_ge r.length W.length with q|q
  ·exact absurd ⟨q,hne⟩ hshort
  ·exact q
 refine aj_ (by rw[bne,eqb,Bool.not_eq_false',decide_eq_true_eq];exact hne) ?_
 refine⟨fun i v=>∃j:Nat,i=((j+2:Nat):Int)∧j+2≤W.length∧ab_ o2 v∧∀k,k<j→pc_ r k=none,fun i _=>W.length-i.toNat,⟨0,rfl,o_,aa_.refl _ _,fun _ q=>absurd q (Nat.not_lt_zero _)⟩,?_⟩
 rintro i v ⟨j,rfl,hj,gv,hnon⟩
 have g2v:=gw2.trans gv
 by_cases hjl:j+2<W.length
 ·refine am_ (by rw[decide_eq_true_eq];omega) ?_
  refine cu_ (fun v'=>ab_ o2 v'∧pc_ r j=none) (fun v' hv=>?_) (fun J=>?_)
  ·rw[w64 o_ o_]
   exact⟨⟨j+1,o_,o_,hv.1,fun k hk=>by
    by_cases e:k=j
    ·rw[e];exact hv.2
    ·exact hnon k o_⟩,by dsimp only;omega⟩
  ·refine bc_ (fun(can:Int) v'=>v'=v∧can=(((kS_ (r.getD 0 0) (j+2)).toNat:Nat):Int)) ?_ (fun J2=>?_)
   ·rintro can v' ⟨rfl,rfl⟩
    have hbit:pc_ r j=(eH_ (r.getD (j+2) 0 &&& ~~~(kS_ (r.getD 0 0) (j+2))).toNat 8).map fun k=>(j+2,k):=rfl
    have hB:=(r.getD (j+2) 0 &&& ~~~(kS_ (r.getD 0 0) (j+2))).toNat_lt
    have hclr:=vV_ (r.getD (j+2) 0) (kS_ (r.getD 0 0) (j+2))
    generalize (r.getD (j+2) 0 &&& ~~~(kS_ (r.getD 0 0) (j+2))).toNat=B at *
    refine⟨fun bit u=>∃t:Nat,bit=(t:Int)-1∧t≤8∧u=v'∧eH_ B 8=eH_ B t,fun bit _=>(bit+1).toNat,⟨8,d_,d_,rfl,rfl⟩,?_⟩
    rintro bit u ⟨t,rfl,ht,rfl,ho⟩
    cases t with
    | zero=>exact aj_ d_ (J u ⟨gv,by rw[hbit,ho];rfl⟩)
    | succ t=>
     have hc:=cell g2v (i:=j+2) o_
     refine am_ (by rw[decide_eq_true_eq];omega) ⟨⟨o_,o_,hc.1⟩,_,hc.2,o_,?_⟩
     have e1:(((t+1:Nat):Int)-1).toNat=t:=o_
     have e2:((t+1:Nat):Int)-1=(t:Int):=o_
     rw[hclr,e1,shr .u8 B t (by show t≤8;omega),vg_ (Nat.lt_of_le_of_lt (Nat.div_le_self _ _) o_),e2]
     by_cases q:B/2 ^ t%2=1
     ·refine am_ (by rw[beq_iff_eq];omega) ?_
      have hob:eH_ B (t+1)=some t:=by unfold eH_;rw[if_pos q]
      have hfirst:sO_ r W.length=some (j+2,t):=n5_ (i:=j) o_ hnon (by rw[hbit,ho,hob];rfl)
      rw[hfirst] at hR
      rw[w64 o_ o_,show((at_:Int)+((j+2:Nat):Int))=((at_+(j+2):Nat):Int) by omega]
      exact bad g2v hR
     ·refine aj_ (by rw[beq_eq_false_iff_ne];omega) ?_
      rw[w64 o_ o_]
      refine⟨⟨t,rfl,o_,rfl,ho.trans ?_⟩,by dsimp only;omega⟩
      show(if B/2 ^ t%2=1 then some t else eH_ B t)=_
      rw[if_neg q]
   ·by_cases hj0:j=0
    ·refine am_ (by rw[beq_iff_eq];omega) (J2 _ _ ⟨rfl,?_⟩)
     unfold kS_;rw[if_pos o_];rfl
    ·refine aj_ (by rw[beq_eq_false_iff_ne];omega) ⟨fun _=>⟨d_,o_,(cell g2v r0).1⟩,_,fun _=>(cell g2v r0).2,?_⟩
     rw[e10]
     by_cases h4:j+2=4∧r.getD 0 0=10
     ·refine am_ (by rw[Bool.and_eq_true,beq_iff_eq,decide_eq_true_eq];exact⟨o_,h4.2⟩) (J2 _ _ ⟨rfl,?_⟩)
      unfold kS_;rw[if_neg o_,if_pos h4];rfl
     ·refine aj_ ?_ (J2 _ _ ⟨rfl,?_⟩)
      ·rw[Bool.and_eq_false_iff,beq_eq_false_iff_ne,decide_eq_false_iff_not]
       by_cases q:j+2=4
       ·right;exact fun e=>h4 ⟨q,e⟩
       ·left;omega
      ·unfold kS_;rw[if_neg o_,if_neg h4];rfl
 ·have hnone:sO_ r W.length=none:=k9_ fun k hk=>hnon k o_
  rw[hnone] at hR
  have hvv:Blk v vb (vlv V).toArray aA_:=g2v.heap hv2 (fun q=>q)
  refine aj_ (by rw[decide_eq_false_iff_not];omega) ⟨⟨d_,o_,(cell g2v r0).1⟩,_,(cell g2v r0).2,?_⟩
  rw[e8]
  refine cu_ (fun v'=>aa_ (fun k=>k=vb) w2 v'∧Blk v' vb (vlv (pd_ V r)).toArray aA_) ?_ (fun J=>?_)
  ·rintro v' ⟨kv,bv'⟩
   have ga:Blk v' ab _ aA_:=kv.heap ha2 o_
   have gs:Blk v' sb _ av_:=kv.heap hs2' (by have:=hg1.size;omega)
   refine⟨_,dF_ (ar_ bv'),?_⟩
   rw[xn]
   exact ret (s:=sn0) (hgw2.keep kv fun i hi q=>o_) ga rfl gs rfl hR
  ·by_cases q8:r.getD 0 0=8
   ·have c2:=cell g2v (i:=2) o_
    refine am_ (decide_eq_true q8) ⟨⟨d_,o_,c2.1⟩,_,c2.2,?_⟩
    rw[nz_,aq_]
    refine a0_ hvv (by simp[vlv]) rfl fun v1 h1 k1 _=>J v1 ⟨(g2v.mono fun _ _ q=>q.elim).trans k1 fun _ _ q=>q,?_⟩
    unfold pd_;rw[if_pos q8];exact h1
   ·refine aj_ (decide_eq_false q8) ?_
    rintro v0 rfl
    have g3:=g2v.trans (ak_ v)
    have h3:Blk v.drew vb (vlv V).toArray aA_:=(ak_ v).heap hvv (fun q=>q)
    generalize v.drew=v0 at *
    have lr:∀{v':World},aa_ (fun k=>k=vb) v0 v'→Rd v' 1 ⟨aM_ p.A p.c at_ 1,p.n-at_,p.c-at_⟩ (bv r):=fun k=>(hc2.grow g3).keep k fun a ha _ e=>by
     have hcc:=(hc2.at_ (by intro e;have:=congrArg List.length e;rw[az_,List.length_nil] at this;omega))
     obtain⟨a',ha',hca⟩:=hp.at_ (by intro e;have:=congrArg List.length e;rw[az_,List.length_nil] at this;omega)
     have ha:aM_ p.A p.c at_ 1=some a:=ha
     obtain⟨a2,ha2',eb⟩:∃a2,p.A=some a2∧a.block=a2.block:=by
      unfold aM_ at ha
      split at ha
      ·exact⟨a,ha,rfl⟩
      ·rw[ha'] at ha
       injection ha with ha
       exact⟨a',ha',by rw[←ha,hT_]⟩
     rw[ha'] at ha2'
     injection ha2' with ha2'
     have:=lO_ (hca 0 _ (List.getElem?_eq_getElem (by rw[az_];omega)))
     rw[hT_] at this
     have:a.block<w.heap.size:=by rw[eb,←ha2'];exact this
     omega
    have c2:=cell g3 (i:=2) o_
    have c4:=cell g3 (i:=4) o_
    refine⟨fun v'=>aa_ (fun k=>k=vb) v0 v',aa_.refl _ _,⟨d_,o_,c2.1⟩,_,fun v' q=>(dC_ (lr q) (i:=2) o_).2,⟨d_,o_,c4.1⟩,_,fun v' q=>(dC_ (lr q) (i:=4) o_).2,?_⟩
    rw[nz_,nz_,aq_]
    refine a0_ h3 (by simp[vlv]) rfl fun v1 h1 k1 _=>⟨k1,?_⟩
    rw[aq_]
    refine a0_ h1 (by simp[vlv]) rfl fun v2 h2' k2 _=>J v2 ⟨((g3.mono fun _ _ q=>q.elim).trans k1 fun _ _ q=>q).trans k2 fun _ _ q=>q,?_⟩
    unfold pd_;rw[if_neg q8];exact h2'
end
open Go CF
def jL_ (l:L8):Nat→Nat→aU_→Except Sn aU_
 | 0,_,v=>.ok v
 | k+1,at_,v=>if at_<l.length then(match f3_ l at_ v with
  | .error s=>.error s
  | .ok (v',n)=>jL_ l k (at_+n) v') else .ok v
theorem vm_ {l:L8} {at_:Nat} {v:aU_} (h:l.length≤at_):∀k,jL_ l k at_ v=.ok v
 | 0=>rfl
 | k+1=>by unfold jL_;rw[if_neg o_]
def vne (a b:aU_):Bool:=a.wce != b.wce||a.ds != b.ds||a.swp != b.swp
theorem ww_ {a b:aU_}:vne a b=true↔a≠b:=by
 obtain⟨a1,a2,a3⟩:=a
 obtain⟨b1,b2,b3⟩:=b
 unfold vne
 simp only[Bool.or_eq_true,bne_iff_ne,ne_eq,aU_.mk.injEq,Classical.not_and_iff_not_or_not]
 exact⟨fun q=>q.elim (fun q=>q.elim .inl fun q=>.inr (.inl q)) fun q=>.inr (.inr q),fun q=>q.elim (fun q=>.inl (.inl q)) fun q=>q.elim (fun q=>.inl (.inr q)) .inr⟩
def mhd (c:Cm):Nat:=if c.long then 8 else 4
def mdv (c:Cm):Nat:=if c.long then 3 else 2
def mh1 (l:L8) (c:Cm) (i:Nat):Bool:=decide (l.getD i 0≠0)&&decide (i≠mdv c)
def ju_ (now saved:aU_) (c:Cm) (l:L8):Except Sn (Bool×aU_×aU_):=
 if l = [] then .ok (false,now,saved)
 else if l.length<mhd c then .error (dN_ 0x1a00)
 else match (List.range (mhd c)).find? (mh1 l c) with
  | some i=>.error (eg_ i (-1) false)
  | none=>match jL_ l l.length (mhd c) now with
   | .error s=>.error s
   | .ok v=>.ok (vne v now,v,if c.save then v else saved)
theorem wx_ {l:L8} {at_ n:Nat} {v v':aU_} (h:f3_ l at_ v=.ok (v',n)):12≤n:=by
 unfold f3_ at h
 split at h
 ·cases h
 ·rename_i W hW
  have hWl:12≤W.length:=by
   unfold ix_ at hW
   split at hW
   ·injection hW with hW;rw[←hW];decide
   ·split at hW
    ·injection hW with hW;rw[←hW];decide
    ·cases hW
  split at h
  ·cases h
  ·split at h
   ·cases h
   ·split at h
    ·cases h
    ·injection h with h
     injection h with _ h
     omega
section
variable {w u:World}
theorem t4_:dQ_ Tryz.prog 8 aA_=some [.b,.b,.b]:=k_
theorem wy_:kd Tryz.prog aA_=.ag:=k_
theorem wz_:Tryz.prog.eqGuardType Tryz.prog.depth aA_=false:=k_
theorem rI_ (v:aU_):a1_ [.b,.b,.b] (vlv v):=⟨rfl,rfl,rfl,trivial⟩
theorem wA_ {a b:aU_} (h:vlv a=vlv b):a=b:=by
 obtain⟨a1,a2,a3⟩:=a
 obtain⟨b1,b2,b3⟩:=b
 simp[vlv] at h
 obtain⟨h1,h2,h3⟩:=h
 rw[h1,h2,h3]
theorem oI_ {pb:Nat} {now saved:aU_} {c:Cm} {p:Sl} {l:L8} {R:Bool→A_→Bool→W_} (h:IsP w pb now saved) (hp:Rd w 1 p (bv l)) (hpn:p.n≤1000000)
  (hR:match ju_ now saved c l with
   | .error s=>∀w',ab_ w w'→R false (snv s).toArray false w'
   | .ok (b,n',s')=>∀w',aa_ (fun k=>k=pb) w w'→IsP w' pb n' s'→R b (snv sn0).toArray true w'):dn_ (some ⟨pb,0,none⟩) (cmv c).toArray p w R:=by
 refine dy_.calls _ _ _ _ _ (ag_ fun cb w1 hcb hb1 hg1 hs1=>ag_ fun ab w2 hab hb2 hg2 hs2=>?_)
 have hc2:Blk w2 cb (cmv c).toArray aD_:=hg2.heap hb1 (fun q=>q)
 have ha2:Blk w2 ab _ av_:=hb2
 have hgw2:=hg1.trans hg2
 have hp2:IsP w2 pb now saved:=hgw2.heap h (fun q=>q)
 have lp:=aw_ h
 have hpl:=cV_ hp
 have r2:=hp.grow hgw2
 have s1:=hg1.size
 unfold ju_ at hR
 have ret:∀{o:World} {s:Sn} {b b':Bool} {B:A_},Blk o ab B av_→B.size=8→(∀o',aa_ (fun k=>k=ab) o o'→R b (snv s).toArray b' o')→
   ah_ Tryz.prog (storeVar av_ ⟨ab,0,none⟩ (.agg (snv s).toArray)) o fun o2=>∃res:A_,(loadVar av_ ⟨ab,0,none⟩).run Tryz.prog o2=.ok (.agg res) o2∧R b res b' o2:=
  fun {o s b b' B} hB hB8 hK=>ap_ (cells:=(snv s).toArray) hB aV_ rfl hB8 (by simp[snv,Value.oneCell']) fun o2 h2 k2 _=>⟨_,fK_ (ar_ h2),hK o2 k2⟩
 by_cases hnil:l = []
 ·rw[if_pos hnil] at hR
  subst hnil
  refine am_ (by rw[show p.n=0 from hpl.symm];rfl) (ret (s:=sn0) ha2 rfl fun o k=>?_)
  have g:ab_ w o:=hgw2.keep k fun i hi q=>o_
  exact hR o (g.mono fun _ _ q=>q.elim) (g.heap h (fun q=>q))
 rw[if_neg hnil] at hR
 have l0:0<l.length:=List.length_pos_iff.2 hnil
 refine aj_ (by rw[Bool.or_eq_false_iff,beq_eq_false_iff_ne];exact⟨rfl,o_⟩) ⟨c.long,ny_ hc2 rfl,?_⟩
 refine sh_ (fun(hd dv:Int) o=>o=w2∧hd=((mhd c:Nat):Int)∧dv=((mdv c:Nat):Int)) ?_ (fun J=>?_)
 case refine_2=>
  unfold mhd mdv at J
  cases hlg:c.long with
  | true=>exact am_ rfl (J _ _ _ ⟨rfl,by rw[hlg];rfl,by rw[hlg];rfl⟩)
  | false=>exact aj_ rfl (J _ _ _ ⟨rfl,by rw[hlg];rfl,by rw[hlg];rfl⟩)
 rintro hd dv o ⟨rfl,rfl,rfl⟩
 have hhd:mhd c≤8:=by unfold mhd;split<;>omega
 generalize hH:mhd c=H at *
 by_cases hsh:l.length<H
 ·rw[if_pos hsh] at hR
  refine am_ (by rw[decide_eq_true_eq];omega) (ret (s:=dN_ 0x1a00) ha2 rfl fun o' k=>hR o' (hgw2.keep k fun i hi q=>o_))
 rw[if_neg hsh] at hR
 refine aj_ (by rw[decide_eq_false_iff_not];omega) ⟨fun x v=>∃j:Nat,x=(j:Int)∧j≤H∧v=o∧∀k,k<j→mh1 l c k=false,fun x _=>H-x.toNat,⟨0,rfl,Nat.zero_le _,rfl,fun _ q=>absurd q (Nat.not_lt_zero _)⟩,?_⟩
 rintro x v ⟨j,rfl,hj,rfl,hnon⟩
 by_cases hjH:j<H
 ·refine am_ (by rw[decide_eq_true_eq];omega) ?_
  obtain⟨hA,hc⟩:=dC_ r2 (i:=j) o_
  refine⟨⟨o_,o_,hA⟩,_,by rw[Int.toNat_natCast];exact hc,?_⟩
  have e:((((l.getD j 0).toNat:Nat):Int) != 0&&((j:Int) != ((mdv c:Nat):Int)))=mh1 l c j:=by
   unfold mh1
   rw[nz_]
   congr 1
   ·rw[Bool.eq_iff_iff,bne_iff_ne,decide_eq_true_eq]
   ·rw[Bool.eq_iff_iff,bne_iff_ne,decide_eq_true_eq]
    exact⟨fun h e=>h (by rw[e]),fun h e=>h (Int.ofNat.inj e)⟩
  rw[e]
  cases hq:mh1 l c j with
  | true=>
   rw[g2_ hjH hnon hq] at hR
   refine am_ rfl (lC_ fun v1 g1=>ret (g1.heap ha2 (fun q=>q)) rfl fun o' k=>hR o' ((hgw2.trans g1).keep k fun i hi q=>o_))
  | false=>
   refine aj_ rfl ?_
   rw[w64 o_ o_]
   exact⟨⟨j+1,o_,hjH,rfl,fun k hk=>by
    by_cases e:k=j
    ·rw[e];exact hq
    ·exact hnon k o_⟩,by dsimp only;omega⟩
 have ejH:j=H:=o_
 subst ejH
 rw[g1_ hnon] at hR
 dsimp only at hR
 have now0:(loadVar aA_ ((gA (some (⟨pb,0,none⟩:Addr))).add 0)).run Tryz.prog v=.ok (.agg (vlv now).toArray) v:=by
  rw[gA,aq_]
  refine dF_ fun i x hx=>?_
  rw[aq_,Blk.cell hp2]
  have:((vlv now++vlv saved).toArray)[0+0+i]?=(vlv now)[i]?:=by
   rw[List.getElem?_toArray,show 0+0+i=i by omega,List.getElem?_append_left]
   exact(List.getElem?_eq_some_iff.1 hx).1
  rw[this];exact hx
 refine aj_ (by rw[decide_eq_false_iff_not];omega) ⟨rfl,_,now0,ag_ fun vb w3 hvb hb3 hg3 hs3=>?_⟩
 refine ap_ (cells:=(vlv now).toArray) hb3 a8_ rfl rfl (by simp[vlv,Value.oneCell']) fun w4 hb4 hk4 hs4=>?_
 have g24:ab_ v w4:=hg3.keep hk4 fun i hi q=>o_
 have hvs:v.heap.size≤vb:=o_
 let St (V:aU_) (o:World):Prop:=ab_ v o∧Blk o vb (vlv V).toArray aA_
 have lab:ab<v.heap.size:=aw_ ha2
 have hlow:∀k,l.length-j≤k→k=l.length→jL_ l l.length j now=jL_ l k j now:=fun k _ e=>by rw[e]
 refine⟨fun x o=>∃(t k:Nat) (V:aU_),x=(t:Int)∧t≤2000000∧St V o∧l.length-t≤k∧jL_ l l.length j now=jL_ l k t V,fun x _=>l.length-x.toNat,⟨j,l.length,now,rfl,o_,⟨g24,hb4⟩,o_,rfl⟩,?_⟩
 rintro x o ⟨t,k,V,rfl,ht,⟨go,bo⟩,hk,hgo⟩
 by_cases htl:t<l.length
 ·refine am_ (by rw[decide_eq_true_eq];omega) ⟨_,dF_ (ar_ bo),?_⟩
  obtain⟨k,rfl⟩:∃k',k=k'+1:=⟨k-1,o_⟩
  have hstep:jL_ l (k+1) t V=(match f3_ l t V with
   | .error s=>.error s
   | .ok (v',n)=>jL_ l k (t+n) v'):=by
   show(if t<l.length then _ else _)=_
   rw[if_pos htl]
  rw[hstep] at hgo
  refine sQ_ (r2.grow go) hpn htl ?_
  have hn12:∀v' n,f3_ l t V=.ok (v',n)→12≤n:=fun v' n e=>wx_ e
  have hnle:∀v' n,f3_ l t V=.ok (v',n)→n≤20:=fun v' n e=>by
   unfold f3_ at e
   split at e
   ·cases e
   ·rename_i W hW
    have hWl:W.length≤20:=by
     unfold ix_ at hW
     split at hW
     ·injection hW with hW;rw[←hW];decide
     ·split at hW
      ·injection hW with hW;rw[←hW];decide
      ·cases hW
    split at e
    ·cases e
    ·split at e
     ·cases e
     ·split at e
      ·cases e
      ·injection e with e
       injection e with _ e
       omega
  generalize f3_ l t V=X at hgo hn12 hnle ⊢
  have lay:∀{o1:World} {v':aU_} {s:Sn} {K:Addr→Addr→W_},ab_ o o1→(∀tb sb o2,ab_ o1 o2→o1.heap.size≤tb→Blk o2 tb (vlv v').toArray aA_→Blk o2 sb (snv s).toArray av_→K ⟨tb,0,none⟩ ⟨sb,0,none⟩ o2)→
    New (.cells #[.bool false,.bool false,.bool false] aA_) o1 fun to w012=>New (.cells #[.int .u8 0,.int .u16 0,.int .u64 0,.bool false,.int .i64 0,.int .i64 0,.bool false,.bool false] av_) w012 fun s1 w013=>ah_ Tryz.prog (storeVar aA_ to (.agg (vlv v').toArray)) w013 fun w014=>ah_ Tryz.prog (storeVar av_ s1 (.agg (snv s).toArray)) w014 fun w015=>K to s1 w015:=
   fun {o1 v' s K} g hK=>ag_ fun tb v1 htb hb1 hg1 hs1=>ag_ fun sb v2 hsb hb2 hg2 hs2=>
    ap_ (cells:=(vlv v').toArray) (hg2.heap hb1 (fun q=>q)) a8_ rfl rfl (by simp[vlv,Value.oneCell']) fun v3 hb3 hk3 hs3=>ap_ (cells:=(snv s).toArray) (hk3.heap hb2 o_) aV_ rfl rfl (by simp[snv,Value.oneCell']) fun v4 hb4 hk4 hs4=>
     hK tb sb v4 (((hg1.trans hg2).keep hk3 fun i hi q=>o_).keep hk4 fun i hi q=>o_) o_ (hk4.heap hb3 o_) hb4
  cases X with
  | error s=>
   intro o1 g1
   refine lay g1 fun tb sb o2 g2 htb bt bs=>am_ rfl ?_
   rintro o3 rfl
   have g3:=(g1.trans g2).trans (ak_ o2)
   have bs3:Blk o2.drew sb (snv s).toArray av_:=(ak_ o2).heap bs (fun q=>q)
   refine⟨fun z=>Blk z sb (snv s).toArray av_,bs3,_,fun z q=>fK_ (ar_ q),ret ((go.trans g3).heap ha2 (fun q=>q)) rfl fun o' k=>?_⟩
   rw[hgo] at hR
   exact hR o' ((hgw2.trans (go.trans g3)).keep k fun i hi q=>o_)
  | ok y=>
   obtain⟨v',n⟩:=y
   have h12:=hn12 v' n rfl
   have h20:=hnle v' n rfl
   intro o1 g1
   refine lay g1 fun tb sb o2 g2 htb bt bs=>aj_ rfl ⟨_,dF_ (ar_ bt),?_⟩
   have g3:=g1.trans g2
   refine ap_ (cells:=(vlv v').toArray) (g3.heap bo (fun q=>q)) a8_ rfl rfl (by simp[vlv,Value.oneCell']) fun o4 hb4' hk4' _=>?_
   rw[w64 o_ o_,show((t:Int)+(n:Int))=((t+n:Nat):Int) by omega]
   exact⟨⟨t+n,k,v',rfl,o_,⟨(go.trans g3).keep hk4' fun i hi q=>o_,hb4'⟩,o_,hgo⟩,by dsimp only;omega⟩
 ·refine aj_ (by rw[decide_eq_false_iff_not];omega) ?_
  rw[vm_ o_ k] at hgo
  rw[hgo] at hR
  dsimp only at hR
  rintro o1 rfl
  have g1:=go.trans (ak_ o)
  have b1:Blk o.drew vb (vlv V).toArray aA_:=(ak_ o).heap bo (fun q=>q)
  generalize o.drew=o1 at *
  have hpo:IsP o1 pb now saved:=g1.heap hp2 (fun q=>q)
  have now1:∀{z:World},IsP z pb now saved→(loadVar aA_ ((gA (some (⟨pb,0,none⟩:Addr))).add 0)).run Tryz.prog z=.ok (.agg (vlv now).toArray) z:=fun {z} q=>by
   rw[gA,aq_]
   refine dF_ fun i x hx=>?_
   rw[aq_,Blk.cell q]
   have:((vlv now++vlv saved).toArray)[0+0+i]?=(vlv now)[i]?:=by
    rw[List.getElem?_toArray,show 0+0+i=i by omega,List.getElem?_append_left]
    exact(List.getElem?_eq_some_iff.1 hx).1
   rw[this];exact hx
  obtain⟨r,hr,hrun⟩:=pK_ (x:=.tmp 76) (y:=.tmp 80) t4_ wy_ wz_ (rI_ V) (rI_ now)
  have er:r=vne V now:=by
   rw[Bool.eq_iff_iff,hr,ww_]
   exact⟨fun q e=>q (by rw[e]),fun q e=>q (wA_ e)⟩
  refine⟨fun z=>Blk z vb (vlv V).toArray aA_∧IsP z pb now saved,⟨b1,hpo⟩,_,fun z q=>dF_ (ar_ q.1),rfl,_,fun z q=>now1 q.2,r,fun z _=>hrun z,_,dF_ (ar_ b1),rfl,?_⟩
  rw[gA,aq_]
  refine fp_ (o:=0) (cells:=(vlv V).toArray) hpo a8_ rfl (by simp[vlv]) (by intro x hx;simp[vlv] at hx;rcases hx with rfl|rfl|rfl<;>rfl) fun o2 h2 k2 _=>?_
  have h2:IsP o2 pb V saved:=h2
  have lpb:pb<v.heap.size:=aw_ hp2
  have ks:∀{z z':World} {b:Nat} {cs:A_} {t:TypeId},Blk z b cs t→b≠pb→aa_ (fun k=>k=pb) z z'→Blk z' b cs t:=fun hb hn k=>k.heap hb hn
  have npab:ab≠pb:=fun e=>bu_ (g1.heap ha2 (fun q=>q)) hpo d_ e
  have npcb:cb≠pb:=fun e=>bu_ (g1.heap hc2 (fun q=>q)) hpo d_ e
  have kw2:aa_ (fun k=>k=pb) w o2:=((hgw2.trans g1).mono fun _ _ q=>q.elim).trans k2 fun _ _ q=>q
  refine⟨c.save,ny_ (ks (g1.heap hc2 (fun q=>q)) npcb k2) rfl,?_⟩
  refine cu_ (fun z=>aa_ (fun k=>k=pb) w z∧Blk z ab (snv sn0).toArray av_∧IsP z pb V (if c.save then V else saved)) ?_ (fun J=>?_)
  ·rintro z ⟨kz,bz,pz⟩
   refine ret (s:=sn0) bz rfl fun z' k'=>?_
   rw[er]
   have nw:∀i,i<w.heap.size→i=ab→False:=fun i hi q=>o_
   exact hR z' ⟨k'.os.trans kz.os,k'.tape.trans kz.tape,k'.output.trans kz.output,Nat.le_trans kz.size k'.size,fun i hi hn=>by rw[k'.block i (by have:=kz.size;omega) (fun q=>nw i hi q),kz.block i hi hn]⟩ (k'.heap pz (fun e=>npab e.symm))
  ·have a2:=ks (g1.heap ha2 (fun q=>q)) npab k2
   cases hsv:c.save with
   | false=>exact aj_ rfl (J o2 ⟨kw2,a2,by rw[hsv];exact h2⟩)
   | true=>
    have nv:vb≠pb:=o_
    refine am_ rfl ⟨_,dF_ (ar_ (ks b1 nv k2)),rfl,?_⟩
    show ah_ Tryz.prog (storeVar aA_ ((gA (some (⟨pb,0,none⟩:Addr))).add 3) (.agg (vlv V).toArray)) o2 _
    rw[show(gA (some (⟨pb,0,none⟩:Addr))).add 3=⟨pb,3,none⟩ by rw[gA,aq_]]
    refine fp_ (o:=3) (cells:=(vlv V).toArray) h2 a8_ rfl (by simp[vlv]) (by intro x hx;simp[vlv] at hx;rcases hx with rfl|rfl|rfl<;>rfl) fun o3 h3 k3 _=>?_
    exact J o3 ⟨kw2.trans k3 fun _ _ q=>q,ks a2 npab k3,by rw[hsv];exact h3⟩
end
open Go CF
structure gx_ where
 service:Nat
 type:Nat
 key:Nat
 action:Nat
 aptpl:Bool
def otv (o:gx_):List Value:=[.int .u8 (o.service:Int),.int .u8 (o.type:Int),.int .u64 (o.key:Int),.int .u64 (o.action:Int),.bool o.aptpl]
abbrev Ev:=Nat×Nat
def evc (e:Ev):List Value:=[.int .i64 (e.1:Int),.int .u16 (e.2:Int)]
def evv (l:List Ev):List Value:=l.flatMap evc
theorem rJ_ (e:Ev):(evc e).length=2:=rfl
theorem rK_ (l:List Ev):(evv l).length=l.length*2:=cY_ rJ_ l
theorem sR_ (a b:List Ev):evv (a++b)=evv a++evv b:=List.flatMap_append
theorem sS_ (a b:List (Nat×Nat)):rgv (a++b)=rgv a++rgv b:=List.flatMap_append
def tells (l:List (Nat×Nat)) (f:Nat×Nat→Bool) (code:Nat):List Ev:=(l.filter f).map fun r=>(r.1,code)
def jv_ (t:aT_) (but:Nat):aT_×List Ev:=({t with kind:=0,holder:=-1},if 5≤t.kind then tells t.regs (fun r=>decide (r.1≠but)) 10756 else [])
def iY_ (t:aT_) (n key:Nat):aT_:={t with regs:=t.regs.filter (fun r=>decide (r.1<n))++(if key≠0 then [(n,key)] else [])++t.regs.filter (fun r=>decide (n<r.1))}
def bx_ (t:aT_) (n:Nat) (o:gx_) (known:Bool):aT_×List Ev:=
 if o.action=0∧known=true then
  if (allK t.kind=true∧t.regs.length=1)∨((t.kind≠0∧t.holder=(n:Int))∧allK t.kind=false) then jv_ (iY_ t n 0) n else(iY_ t n 0,[])
 else if o.action≠0 then(iY_ t n o.action,[]) else(t,[])
def dG_ (t:aT_) (n:Nat) (o:gx_) (known:Bool):aT_×List Ev:=({(bx_ t n o known).1 with lasts:=o.aptpl,gen:=((bx_ t n o known).1.gen+1)%4294967296},(bx_ t n o known).2)
structure DoT where
 st:Nat
 code:Nat
 ev:List Ev
 t:aT_
def dO_ (t:aT_) (n:Nat) (o:gx_):DoT:=
 if ep_ o.type=false then⟨2,0x2400,[],t⟩
 else if t.kind=0 then⟨0,0,[],{t with kind:=o.type,holder:=(n:Int)}⟩
 else if cy_ t n=true∧t.kind=o.type then⟨0,0,[],t⟩ else⟨24,0,[],t⟩
def fu_ (t:aT_) (n:Nat) (o:gx_):DoT:=
 if cy_ t n=false then⟨0,0,[],t⟩ else if t.kind≠o.type then⟨2,0x2400,[],t⟩ else⟨0,0,(jv_ t n).2,(jv_ t n).1⟩
def lD_ (t:aT_) (n:Nat):aT_×List Ev:=({t with regs:=[],kind:=0,holder:=-1,gen:=(t.gen+1)%4294967296},tells t.regs (fun r=>decide (r.1≠n)) 10755)
def pe_ (t:aT_) (a:Nat):Bool:=t.regs.any fun r=>(decide (t.kind≠0) && !allK t.kind)&&decide ((r.1:Int)=t.holder)&&decide (r.2=a)
def pf_ (t:aT_) (n a:Nat) (all:Bool) (r:Nat×Nat):Bool:=decide (r.1=n)||(decide (r.2≠a) && !all)
def fv_ (t:aT_) (n:Nat) (o:gx_):DoT:=
 if o.action=0∧(allK t.kind&&decide (o.action=0))=false then⟨2,0x2600,[],t⟩
 else if (pe_ t o.action||(allK t.kind&&decide (o.action=0)))=true∧ep_ o.type=false then⟨2,0x2400,[],t⟩
 else if (t.regs.any fun r=>decide (r.2=o.action))=false∧(allK t.kind&&decide (o.action=0))=false then⟨24,0,[],t⟩
 else
  let left:=t.regs.filter (pf_ t n o.action (allK t.kind&&decide (o.action=0)))
  let out:=tells t.regs (fun r=> !pf_ t n o.action (allK t.kind&&decide (o.action=0)) r) 10757
  if (pe_ t o.action||(allK t.kind&&decide (o.action=0)))=true then
   ⟨0,0,out++(if 5≤t.kind∧t.kind≠o.type then tells left (fun r=>decide (r.1≠n)) 10756 else []),{t with regs:=left,kind:=o.type,holder:=(n:Int),gen:=(t.gen+1)%4294967296}⟩
  else⟨0,0,out,{t with regs:=left,gen:=(t.gen+1)%4294967296}⟩
def bI_ (t:aT_) (n:Nat) (o:gx_):DoT:=
 if 6<o.service then⟨2,0x2400,[],t⟩
 else if o.service=6 then⟨0,0,(dG_ t n o (eq_ t n).isSome).2,(dG_ t n o (eq_ t n).isSome).1⟩
 else if o.service=0 then(if o.key≠(eq_ t n).getD 0 then⟨24,0,[],t⟩ else⟨0,0,(dG_ t n o (eq_ t n).isSome).2,(dG_ t n o (eq_ t n).isSome).1⟩)
 else if (eq_ t n).isSome=false∨o.key≠(eq_ t n).getD 0 then⟨24,0,[],t⟩
 else if o.service=1 then dO_ t n o
 else if o.service=2 then fu_ t n o
 else if o.service=3 then⟨0,0,(lD_ t n).2,(lD_ t n).1⟩
 else fv_ t n o
section
variable {w u v:World} {N:Nat→Prop} {tb n:Nat} {t:aT_}
structure Qr (B:Nat) (w v:World):Prop where
 keep:aa_ (fun k=>B≤k) w v
 regs:∀b cs,Blk w b cs ax_→Blk v b cs ax_
theorem Qr.refl (B:Nat) (w:World):Qr B w w:=⟨aa_.refl _ _,fun _ _ q=>q⟩
theorem Qr.trans {B:Nat} (h:Qr B w u) (g:Qr B u v):Qr B w v:=⟨h.keep.trans g.keep fun _ _ q=>q,fun b cs q=>g.regs b cs (h.regs b cs q)⟩
theorem Qr.grow {B:Nat} (g:ab_ w u):Qr B w u:=⟨g.mono fun _ _ q=>q.elim,fun b cs q=>g.heap q (fun q=>q)⟩
theorem Qr.from {B:Nat} (h:Qr B w u) (g:ab_ v w) (hB:v.heap.size≤B):ab_ v u:=g.keep h.keep fun i hi q=>o_
theorem gy_ {xs:Sl} {l:List (Nat×Nat)} {i:Nat} {K:Addr→W_} (hx:Rd w 2 xs (rgv l)) (hi:i<l.length) (hK:∀rb w',ab_ w w'→Blk w' rb (rgc l[i]).toArray ax_→w.heap.size≤rb→K ⟨rb,0,none⟩ w') :
  (0≤(i:Int)∧(i:Int)<(xs.n:Int)∧xs.A.isSome=true)∧∃g:A_,(loadVar ax_ ((gA xs.A).add ((i:Int).toNat*2))).run Tryz.prog w=.ok (.agg g) w∧New (.cells #[.int .i64 0,.int .u64 0] ax_) w fun r w1=>ah_ Tryz.prog (storeVar ax_ r (.agg g)) w1 fun w2=>K r w2:=by
 have hl:l.length=xs.n:=by have:=hx.len;rw[bG_] at this;omega
 obtain⟨a,ha,hc⟩:=nn_ hx hi
 refine⟨⟨o_,o_,by rw[ha];rfl⟩,(rgc l[i]).toArray,by rw[ha,Int.toNat_natCast];exact aE_ gG_ cZ_ rfl hc,?_⟩
 exact ag_ fun rb v1 hrb hb1 hg1 hs1=>ap_ (cells:=(rgc l[i]).toArray) hb1 cZ_ rfl rfl (by simp[rgc,Value.oneCell']) fun v2 hb2 hk2 hs2=>hK rb v2 (hg1.keep hk2 fun i hi q=>o_) hb2 o_
theorem xj_ (w:World) (a b:Int):(Instr.buildSlice cH_ 1 #[(0,.agg #[.int .i64 a,.int .u16 b])]).run Tryz.prog w=.ok (.slice (some ⟨w.heap.size,0,none⟩) 1 1) (w.alloc (.cells #[.int .i64 a,.int .u16 b] aY_)):=k_
theorem xk_ (w:World) (a b:Int):(Instr.buildSlice c5_ 1 #[(0,.agg #[.int .i64 a,.int .u64 b])]).run Tryz.prog w=.ok (.slice (some ⟨w.heap.size,0,none⟩) 1 1) (w.alloc (.cells #[.int .i64 a,.int .u64 b] ax_)):=k_
theorem xl_ (l:List Ev):∀v∈evv l,v.oneCell'=true:=by
 intro v hv
 simp only[evv,List.mem_flatMap] at hv
 obtain⟨e,_,he⟩:=hv
 simp only[evc,List.mem_cons,List.mem_nil_iff,or_false] at he
 rcases he with rfl|rfl<;>rfl
theorem rL_ {B:Nat} {out:Sl} {evs:List Ev} {a c:Nat} {ty:TypeId} {K:Sl→W_} (ho:Own w B aY_ 2 out (evv evs)) (hB:B≤w.heap.size) (hl:evs.length≤1000) (hK:∀out' w',Qr B w w'→Own w' B aY_ 2 out' (evv (evs++[(a,c)]))→K out' w') :
  an_ Tryz.prog .sl (Instr.buildSlice cH_ 1 #[(0,.agg #[.int .i64 (a:Int),.int .u16 (c:Int)])]) w fun xs w1=>an_ Tryz.prog .sl (Builtin.append_ #[cH_,cH_] ty #[.slice out.A out.n out.c,.slice xs.A xs.n xs.c]) w1 K:=by
 have hn:out.n=evs.length:=by have:=ho.len;rw[rK_] at this;omega
 refine aN_ (cells:=#[.int .i64 (a:Int),.int .u16 (c:Int)]) (e:=aY_) (z:=2) (base:=w.heap.size) (xj_ _ _ _) rfl d_ (Nat.le_refl _) fun w1 h1 g1 _=>?_
 have o1:=ho.grow g1
 refine aZ_ oU_ kv_ rfl d_ d_ o1 (h1.rd (by dsimp only;decide)) (xl_ [(a,c)]) (by show(out.n+1)*16≤_;omega) (by have:=g1.size;omega) fun s' w2 hn' h2 k2 _=>?_
 refine hK s' w2 ((Qr.grow g1).trans ⟨⟨k2.os,k2.tape,k2.output,k2.size,fun k hk q=>k2.block k hk fun e=>q ?_⟩,fun b cs q=>k2.heap q fun e=>be_ o1 q d_ e.symm⟩) (by rw[sR_];exact h2)
 exact(o1.ge k e.symm).1
theorem l2_ {B:Nat} {out:Sl} {l:List (Nat×Nat)} {a c:Nat} {ty:TypeId} {K:Sl→W_} (ho:Own w B ax_ 2 out (rgv l)) (hB:B≤w.heap.size) (hl:l.length≤1000) (hK:∀out' w',aa_ (fun k=>B≤k) w w'→Own w' B ax_ 2 out' (rgv (l++[(a,c)]))→(∀b cs t,Blk w b cs t→t≠ax_→Blk w' b cs t)→K out' w') :
  an_ Tryz.prog .sl (Instr.buildSlice c5_ 1 #[(0,.agg #[.int .i64 (a:Int),.int .u64 (c:Int)])]) w fun xs w1=>an_ Tryz.prog .sl (Builtin.append_ #[c5_,c5_] ty #[.slice out.A out.n out.c,.slice xs.A xs.n xs.c]) w1 K:=by
 have hn:out.n=l.length:=by have:=ho.len;rw[bG_] at this;omega
 refine aN_ (cells:=#[.int .i64 (a:Int),.int .u64 (c:Int)]) (e:=ax_) (z:=2) (base:=w.heap.size) (xk_ _ _ _) rfl d_ (Nat.le_refl _) fun w1 h1 g1 _=>?_
 have o1:=ho.grow g1
 refine aZ_ ln_ cZ_ rfl d_ d_ o1 (h1.rd (by dsimp only;decide)) (rF_ [(a,c)]) (by show(out.n+1)*16≤_;omega) (by have:=g1.size;omega) fun s' w2 hn' h2 k2 _=>?_
 refine hK s' w2 ((g1.mono fun _ _ q=>q.elim).trans ⟨k2.os,k2.tape,k2.output,k2.size,fun k hk q=>k2.block k hk fun e=>q (o1.ge k e.symm).1⟩ fun _ _ q=>q) (by rw[sS_];exact h2) fun b cs t q ht=>k2.heap (g1.heap q (fun q=>q)) fun e=>be_ o1 (g1.heap q (fun q=>q)) ht e.symm
theorem n8_ {B:Nat} {xs out:Sl} {l:List (Nat×Nat)} {evs:List Ev} {but code:Nat} {ty:TypeId} {E:Sl→W_} (hx:∀v,Qr B w v→Rd v 2 xs (rgv l)) (ho:Own w B aY_ 2 out (evv evs)) (hB:B≤w.heap.size) (hl:evs.length+l.length≤1000)
  (hE:∀out' v,Qr B w v→Own v B aY_ 2 out' (evv (evs++tells l (fun r=>decide (r.1≠but)) code))→E out' v) :
  ∃(I:Sl→Int→W_) (μ:Sl→Int→World→Nat),I out 0 w∧∀(out1:Sl) (x:Int) (w03:World),I out1 x w03→Br (decide (x<(xs.n:Int))) (aR_ (fun(out2:Sl) (w04:World)=>I out2 (IntKind.wrap .i64 (x+1)) w04∧μ out2 (IntKind.wrap .i64 (x+1)) w04<μ out1 x w03) fun J_1=>(0≤x∧x<(xs.n:Int)∧xs.A.isSome=true)∧∃g:A_,(loadVar ax_ ((gA xs.A).add (x.toNat*2))).run Tryz.prog w03=.ok (.agg g) w03∧New (.cells #[.int .i64 0,.int .u64 0] ax_) w03 fun r w05=>ah_ Tryz.prog (storeVar ax_ r (.agg g)) w05 fun w06=>
   ∃n1:Int,w06.cell? (r.add 0)=some (.int .i64 n1)∧Br (n1 != (but:Int)) (∃n2:Int,w06.cell? (r.add 0)=some (.int .i64 n2)∧an_ Tryz.prog .sl (Instr.buildSlice cH_ 1 #[(0,.agg #[.int .i64 n2,.int .u16 (code:Int)])]) w06 fun xs1 w08=>an_ Tryz.prog .sl (Builtin.append_ #[cH_,cH_] ty #[.slice out1.A out1.n out1.c,.slice xs1.A xs1.n xs1.c]) w08 fun xs2 w09=>J_1 xs2 w09) (J_1 out1 w06)) (E out1 w03):=by
 have hln:l.length=xs.n:=by have:=(hx w (Qr.refl _ _)).len;rw[bG_] at this;omega
 refine⟨fun o x v=>∃j:Nat,x=j∧j≤l.length∧Qr B w v∧Own v B aY_ 2 o (evv (evs++tells (l.take j) (fun r=>decide (r.1≠but)) code)),fun _ x _=>xs.n-x.toNat,⟨0,rfl,Nat.zero_le _,Qr.refl _ _,by simpa [tells] using ho⟩,?_⟩
 rintro o x v ⟨j,rfl,hj,q,hov⟩
 have tl:∀k,(tells (l.take k) (fun r=>decide (r.1≠but)) code).length≤l.length:=fun k=>by
  unfold tells
  rw[List.length_map]
  exact Nat.le_trans (List.length_filter_le _ _) (by rw[List.length_take];omega)
 refine bl_ (fun hlt=>?_) (fun hge=>?_)
 ·have hjl:j<l.length:=o_
  refine bc_ (fun o2 v'=>Qr B w v'∧Own v' B aY_ 2 o2 (evv (evs++tells (l.take (j+1)) (fun r=>decide (r.1≠but)) code))) (fun o2 v' hv=>?_) (fun J=>?_)
  ·rw[w64 o_ o_]
   exact⟨⟨j+1,o_,o_,hv.1,hv.2⟩,by dsimp only;omega⟩
  ·refine gy_ (hx v q) hjl fun rb v1 g1 b1 _=>?_
   have q1:=q.trans (Qr.grow g1)
   have o1:=hov.grow g1
   have hs:l.take (j+1)=l.take j++[l[j]]:=by rw[List.take_succ_eq_append_getElem hjl]
   refine⟨(l[j].1:Int),by rw[aq_,b1.cell];rfl,?_⟩
   refine hp_ (fun e=>⟨(l[j].1:Int),by rw[aq_,b1.cell];rfl,?_⟩) (fun e=>?_)
   ·refine rL_ o1 (by have:=q1.keep.size;omega) (by rw[List.length_append];have:=tl j;omega) fun o3 v3 q3 h3=>J o3 v3 ⟨q1.trans q3,?_⟩
    have:tells (l.take (j+1)) (fun r=>decide (r.1≠but)) code=tells (l.take j) (fun r=>decide (r.1≠but)) code++[(l[j].1,code)]:=by
     unfold tells
     rw[hs,List.filter_append,List.map_append]
     congr 1
     rw[List.filter_cons,if_pos (by rw[decide_eq_true_eq];omega)];rfl
    rw[this,←List.append_assoc];exact h3
   ·refine J o v1 ⟨q1,?_⟩
    have:tells (l.take (j+1)) (fun r=>decide (r.1≠but)) code=tells (l.take j) (fun r=>decide (r.1≠but)) code:=by
     unfold tells
     rw[hs,List.filter_append,List.map_append]
     have:[l[j]].filter (fun r=>decide (r.1≠but)) = []:=by rw[List.filter_cons,if_neg (by rw[decide_eq_true_eq];omega)];rfl
     rw[this];simp
    rw[this];exact o1
 ·have:j=l.length:=o_
  subst this
  rw[List.take_length] at hov
  exact hE o v q hov
end
open Go CF
theorem nA_:∀(l:List (Nat×Nat)) (m k:Nat),l.Pairwise (fun a b=>a.1<b.1)→(∀r∈l,m≤r.1∧r.1<k)→l.length≤k-m
 | [],_,_,_,_=>Nat.zero_le _
 | a::r,m,k,hp,hb=>by
  have ha:=hb a (.head _)
  have:=nA_ r (a.1+1) k (List.pairwise_cons.1 hp).2 fun x hx=>⟨(List.pairwise_cons.1 hp).1 x hx,(hb x (.tail _ hx)).2⟩
  rw[List.length_cons];omega
structure f4_ (l:List (Nat×Nat)):Prop where
 sorted:l.Pairwise fun a b=>a.1<b.1
 regs:∀r∈l,r.1<8∧0<r.2∧r.2<18446744073709551616
theorem f4_.few {l:List (Nat×Nat)} (h:f4_ l):l.length≤8:=nA_ l 0 8 h.sorted fun r hr=>⟨Nat.zero_le _,(h.regs r hr).1⟩
theorem cv_.rok {t:aT_} (h:cv_ t):f4_ t.regs:=⟨h.sorted,h.regs⟩
theorem f4_.filter {l:List (Nat×Nat)} (h:f4_ l) (f:Nat×Nat→Bool):f4_ (l.filter f):=⟨h.sorted.filter f,fun r hr=>h.regs r (List.mem_filter.1 hr).1⟩
theorem cv_.with {t:aT_} (h:cv_ t) {l:List (Nat×Nat)} (hl:f4_ l) {g k:Nat} {ho:Int} {b:Bool} (hg:g<4294967296) (hk:k<256) (hh : -1≤ho∧ho<8):cv_ ⟨l,g,k,ho,b⟩:=⟨hl.few,hl.sorted,hl.regs,hg,hk,hh⟩
theorem qj_ {t:aT_} (h:cv_ t) {n key:Nat} (hn:n<8) (hk:key<18446744073709551616):f4_ (iY_ t n key).regs:=by
 have hr:=h.rok
 unfold iY_
 dsimp only
 refine⟨?_,fun r hm=>?_⟩
 ·rw[List.pairwise_append,List.pairwise_append]
  refine⟨⟨h.sorted.filter _,?_,fun a ha b hb=>?_⟩,h.sorted.filter _,fun a ha b hb=>?_⟩
  ·split
   ·exact List.pairwise_singleton _ _
   ·exact List.Pairwise.nil
  ·have h1:=(List.mem_filter.1 ha).2
   rw[decide_eq_true_eq] at h1
   split at hb
   ·rw[List.mem_singleton] at hb;rw[hb];exact h1
   ·cases hb
  ·have h2:=(List.mem_filter.1 hb).2
   rw[decide_eq_true_eq] at h2
   rcases List.mem_append.1 ha with ha|ha
   ·have h1:=(List.mem_filter.1 ha).2
    rw[decide_eq_true_eq] at h1
    omega
   ·split at ha
    ·rw[List.mem_singleton] at ha;rw[ha];exact h2
    ·cases ha
 ·rcases List.mem_append.1 hm with hm|hm
  ·rcases List.mem_append.1 hm with hm|hm
   ·exact h.regs r (List.mem_filter.1 hm).1
   ·split at hm
    ·rename_i hk0
     rw[List.mem_singleton] at hm
     rw[hm]
     exact⟨hn,Nat.pos_of_ne_zero hk0,hk⟩
    ·cases hm
  ·exact h.regs r (List.mem_filter.1 hm).1
section
variable {w u v:World} {N:Nat→Prop} {tb n:Nat} {t:aT_}
theorem rM_ (hb:Blk w tb (bM_ au_ t0) bQ_∨∃cs,Blk w tb cs bQ_):a6_ w N fun k=>k=tb:=fun b _ q=>by
 subst q
 rcases hb with hb|⟨cs,hb⟩
 ·exact .inr ⟨_,_,hb,by unfold kN_;decide⟩
 ·exact .inr ⟨_,_,hb,by unfold kN_;decide⟩
structure dH_ (w v:World) (N:Nat→Prop) (tb:Nat) (s:Sl) (t:aT_):Prop where
 keep:aa_ (fun k=>k=tb) w v
 blk:Blk v tb (bM_ s t) bQ_
 row:RdN v N ax_ 2 s (rgv t.regs)
theorem IsT.at (h:IsT w N tb t):∃s,dH_ w w N tb s t∧cv_ t:=by
 obtain⟨⟨s,h1,h2⟩,h3⟩:=h
 exact⟨s,⟨aa_.refl _ _,h1,h2⟩,h3⟩
theorem dH_.isT {s:Sl} (h:dH_ w v N tb s t) (ok:cv_ t):IsT v N tb t:=⟨⟨s,h.blk,h.row⟩,ok⟩
theorem dH_.go {s:Sl} {z:World} (h:dH_ w v N tb s t) (g:ab_ v z):dH_ w z N tb s t:=⟨h.keep.grow g,g.heap h.blk (fun q=>q),h.row.grow g⟩
theorem dH_.put {s s':Sl} {t':aT_} {z:World} (h:dH_ w v N tb s t) (k:aa_ (fun k=>k=tb) v z) (hb:Blk z tb (bM_ s' t') bQ_) (hr:s'=s∧t'.regs=t.regs∨RdN z N ax_ 2 s' (rgv t'.regs)):dH_ w z N tb s' t':=by
 refine⟨h.keep.trans k fun _ _ q=>q,hb,?_⟩
 rcases hr with⟨rfl,e⟩|hr
 ·rw[e]
  exact h.row.step (.inr (.inl rfl)) k (rM_ (.inr ⟨_,h.blk⟩)) fun _ q=>.inl q
 ·exact hr
theorem dH_.cell {s:Sl} (h:dH_ w v N tb s t) {o:Nat} {x:Value} (e:(bM_ s t)[o]?=some x):v.cell? ((gA (some (⟨tb,0,none⟩:Addr))).add o)=some x:=cp_ h.blk e
theorem dH_.put1 {s s':Sl} {t':aT_} {o:Nat} {x:Value} {K:W_} (h:dH_ w v N tb s t) (ho:o<5) (hx:x.oneCell'=true) (he:(bM_ s t).setIfInBounds o x=bM_ s' t') (hr:s'=s∧t'.regs=t.regs∨RdN v N ax_ 2 s' (rgv t'.regs)) (hK:∀z,dH_ w z N tb s' t'→aa_ (fun k=>k=tb) v z→K z) :
  Put ((gA (some (⟨tb,0,none⟩:Addr))).add o) x v K:=by
 rw[gA,aq_,Nat.zero_add]
 refine a0_ h.blk (by simp[bM_];omega) hx fun z hz k _=>hK z (h.put k (by rw[←he];exact hz) ?_) k
 rcases hr with hr|hr
 ·exact .inl hr
 ·refine .inr ?_
  exact hr.step (.inr (.inl rfl)) k (rM_ (.inr ⟨_,h.blk⟩)) fun _ q=>.inl q
theorem rdr {s:Sl} (h:RdN w N ax_ 2 s (rgv t.regs)) {B:Nat} (hB:w.heap.size≤B):∀v,Qr B w v→Rd v 2 s (rgv t.regs):=fun v q=>h.rd.keep q.keep fun a _ ha e=>o_
theorem free_spec {but:Nat} {R:Sl→W_} (h:IsT w N tb t) (hR:∀out v,aa_ (fun k=>k=tb) w v→IsT v N tb (jv_ t but).1→Own v w.heap.size aY_ 2 out (evv (jv_ t but).2)→R out v):fD_ (some ⟨tb,0,none⟩) (but:Int) w R:=by
 refine fI_.calls _ _ _ _ ?_
 obtain⟨s,A,ok⟩:=h.at
 have hk:=ok.kind
 have hf:=ok.few
 refine⟨rfl,(t.kind:Int),A.cell rfl,?_⟩
 refine bc_ (fun(out:Sl) v=>dH_ w v N tb s t∧Own v w.heap.size aY_ 2 out (evv (jv_ t but).2)) ?_ (fun J=>?_)
 ·rintro out v ⟨Av,ho⟩
  refine⟨rfl,Av.put1 (t':={t with kind:=0}) (s':=s) (o:=2) d_ rfl rfl (.inl ⟨rfl,rfl⟩) fun v2 A2 k2=>⟨rfl,A2.put1 (t':={t with kind:=0,holder:=-1}) (s':=s) (o:=3) d_ rfl rfl (.inl ⟨rfl,rfl⟩) fun v3 A3 k3=>?_⟩⟩
  refine hR out v3 A3.keep (A3.isT (ok.with ok.rok ok.gen d_ d_)) ?_
  exact(ho.keep k2 fun b hb e=>be_ ho Av.blk d_ (by rw[hb,e])).keep k3 fun b hb e=>be_ (ho.keep k2 fun b hb e=>be_ ho Av.blk d_ (by rw[hb,e])) A2.blk d_ (by rw[hb,e])
 ·unfold jv_ at J
  dsimp only at J
  by_cases q:5≤t.kind
  ·rw[if_pos q] at J
   refine am_ (by rw[decide_eq_true_eq];omega) ⟨rfl,s,A.cell rfl,?_⟩
   refine n8_ (B:=w.heap.size) (evs:=[]) (code:=10756) (rdr A.row (Nat.le_refl _)) (aH_ _ _ _ _) (Nat.le_refl _) (by rw[List.length_nil];omega) fun out v q2 ho=>J out v ⟨A.go (q2.from (aa_.refl _ _) (Nat.le_refl _)),?_⟩
   simpa using ho
  ·rw[if_neg q] at J
   exact aj_ (by rw[decide_eq_false_iff_not];omega) (J au_ w ⟨A,aH_ _ _ _ _⟩)
theorem rN_ {B:Nat} {xs out:Sl} {l evs:List (Nat×Nat)} {ty:TypeId} {f:Nat×Nat→Bool} {test:Int→Bool} {E:Sl→W_} (hx:∀v,aa_ (fun k=>B≤k) w v→Rd v 2 xs (rgv l)) (ht:∀r∈l,test (r.1:Int)=f r) (ho:Own w B ax_ 2 out (rgv evs)) (hB:B≤w.heap.size) (hl:evs.length+l.length≤1000)
  (hE:∀out' v,aa_ (fun k=>B≤k) w v→Own v B ax_ 2 out' (rgv (evs++l.filter f))→E out' v) :
  ∃(I:Sl→Int→W_) (μ:Sl→Int→World→Nat),I out 0 w∧∀(out1:Sl) (x:Int) (w03:World),I out1 x w03→Br (decide (x<(xs.n:Int))) (aR_ (fun(out2:Sl) (w04:World)=>I out2 (IntKind.wrap .i64 (x+1)) w04∧μ out2 (IntKind.wrap .i64 (x+1)) w04<μ out1 x w03) fun J_1=>(0≤x∧x<(xs.n:Int)∧xs.A.isSome=true)∧∃g:A_,(loadVar ax_ ((gA xs.A).add (x.toNat*2))).run Tryz.prog w03=.ok (.agg g) w03∧New (.cells #[.int .i64 0,.int .u64 0] ax_) w03 fun r w05=>ah_ Tryz.prog (storeVar ax_ r (.agg g)) w05 fun w06=>
   ∃n1:Int,w06.cell? (r.add 0)=some (.int .i64 n1)∧Br (test n1) (∃g1:A_,(loadVar ax_ r).run Tryz.prog w06=.ok (.agg g1) w06∧an_ Tryz.prog .sl (Instr.buildSlice c5_ 1 #[(0,.agg g1)]) w06 fun xs1 w08=>an_ Tryz.prog .sl (Builtin.append_ #[c5_,c5_] ty #[.slice out1.A out1.n out1.c,.slice xs1.A xs1.n xs1.c]) w08 fun xs2 w09=>J_1 xs2 w09) (J_1 out1 w06)) (E out1 w03):=by
 have hln:l.length=xs.n:=by have:=(hx w (aa_.refl _ _)).len;rw[bG_] at this;omega
 refine⟨fun o x v=>∃j:Nat,x=j∧j≤l.length∧aa_ (fun k=>B≤k) w v∧Own v B ax_ 2 o (rgv (evs++(l.take j).filter f)),fun _ x _=>xs.n-x.toNat,⟨0,rfl,Nat.zero_le _,aa_.refl _ _,by simpa using ho⟩,?_⟩
 rintro o x v ⟨j,rfl,hj,q,hov⟩
 have tl:∀k,((l.take k).filter f).length≤l.length:=fun k=>Nat.le_trans (List.length_filter_le _ _) (by rw[List.length_take];omega)
 refine bl_ (fun hlt=>?_) (fun hge=>?_)
 ·have hjl:j<l.length:=o_
  refine bc_ (fun o2 v'=>aa_ (fun k=>B≤k) w v'∧Own v' B ax_ 2 o2 (rgv (evs++(l.take (j+1)).filter f))) (fun o2 v' hv=>?_) (fun J=>?_)
  ·rw[w64 o_ o_]
   exact⟨⟨j+1,o_,o_,hv.1,hv.2⟩,by dsimp only;omega⟩
  ·refine gy_ (hx v q) hjl fun rb v1 g1 b1 _=>?_
   have q1:aa_ (fun k=>B≤k) w v1:=q.trans (g1.mono fun _ _ q=>q.elim) fun _ _ q=>q
   have o1:=hov.grow g1
   have hs:l.take (j+1)=l.take j++[l[j]]:=by rw[List.take_succ_eq_append_getElem hjl]
   refine⟨(l[j].1:Int),by rw[aq_,b1.cell];rfl,?_⟩
   rw[ht l[j] (List.getElem_mem hjl)]
   cases hf:f l[j] with
   | true=>
    refine am_ rfl ⟨(rgc l[j]).toArray,aE_ gG_ cZ_ rfl (ar_ b1),?_⟩
    refine l2_ (a:=l[j].1) (c:=l[j].2) o1 (by have:=q1.size;omega) (by rw[List.length_append];have:=tl j;omega) fun o3 v3 q3 h3 _=>J o3 v3 ⟨q1.trans q3 fun _ _ q=>q,?_⟩
    have:(l.take (j+1)).filter f=(l.take j).filter f++[(l[j].1,l[j].2)]:=by
     rw[hs,List.filter_append]
     congr 1
     rw[List.filter_cons,if_pos hf];rfl
    rw[this,←List.append_assoc];exact h3
   | false=>
    refine aj_ rfl (J o v1 ⟨q1,?_⟩)
    have:(l.take (j+1)).filter f=(l.take j).filter f:=by
     rw[hs,List.filter_append]
     have:[l[j]].filter f = []:=by rw[List.filter_cons,if_neg (by rw[hf];exact Bool.noConfusion)];rfl
     rw[this];simp
    rw[this];exact o1
 ·have:j=l.length:=o_
  subst this
  rw[List.take_length] at hov
  exact hE o v q hov
theorem qk_ {key:Nat} {R:W_} (h:IsT w N tb t) (hN:∀b,N b→b<w.heap.size) (hn:n<8) (hk:key<18446744073709551616) (hR:∀v,aa_ (fun k=>k=tb) w v→IsT v N tb (iY_ t n key)→R v):ga_ (some ⟨tb,0,none⟩) (n:Int) (key:Int) w R:=by
 refine gi_.calls _ _ _ _ _ ?_
 obtain⟨s,A,ok⟩:=h.at
 have hf:=ok.few
 have rk:∀v,aa_ (fun k=>w.heap.size≤k) w v→Rd v 2 s (rgv t.regs):=fun v k=>A.row.rd.keep k fun a _ ha e=>o_
 have toG:∀{v},aa_ (fun k=>w.heap.size≤k) w v→ab_ w v:=fun k=>ab_.keep (aa_.refl _ _) k fun i hi q=>o_
 have fl:∀f:Nat×Nat→Bool,(t.regs.filter f).length≤8:=fun f=>Nat.le_trans (List.length_filter_le _ _) hf
 refine⟨rfl,s,A.cell rfl,?_⟩
 refine rN_ (B:=w.heap.size) (evs:=[]) (f:=fun r=>decide (r.1<n)) (test:=fun x=>decide (x<(n:Int))) rk (fun r _=>by rw[decide_eq_decide];omega) (aH_ _ _ _ _) (Nat.le_refl _) (by rw[List.length_nil];omega) fun l1 v1 k1 o1=>?_
 rw[List.nil_append] at o1
 refine bc_ (fun(l2:Sl) v=>aa_ (fun k=>w.heap.size≤k) w v∧Own v w.heap.size ax_ 2 l2 (rgv (t.regs.filter (fun r=>decide (r.1<n))++if key≠0 then [(n,key)] else []))) ?_ (fun J=>?_)
 ·rintro l2 v2 ⟨k2,o2⟩
  have A2:=A.go (toG k2)
  refine⟨rfl,s,A2.cell rfl,?_⟩
  refine rN_ (w:=v2) (B:=w.heap.size) (f:=fun r=>decide (n<r.1)) (test:=fun x=>decide (x>(n:Int))) (fun v k=>rk v (k2.trans k fun _ _ q=>q)) (fun r _=>by rw[decide_eq_decide];omega) o2 k2.size (by
   rw[List.length_append]
   have:=fl (fun r=>decide (r.1<n))
   have:(if key≠0 then [(n,key)] else []).length≤1:=by split<;>simp
   omega) fun l3 v3 k3 o3=>?_
  have k3w:=k2.trans k3 fun _ _ q=>q
  have A3:=A.go (toG k3w)
  have rn:RdN v3 N ax_ 2 l3 (rgv (iY_ t n key).regs):=o3.rdN (by
   have h1:=o3.len
   rw[bG_] at h1
   have:=(qj_ ok hn hk).few
   have e:(iY_ t n key).regs.length=(t.regs.filter (fun r=>decide (r.1<n))++(if key≠0 then [(n,key)] else [])++t.regs.filter (fun r=>decide (n<r.1))).length:=rfl
   omega) hN
  exact⟨rfl,A3.put1 (t':=iY_ t n key) (s':=l3) (o:=0) d_ rfl rfl (.inr rn) fun v4 A4 _=>hR v4 A4.keep (A4.isT (ok.with (qj_ ok hn hk) ok.gen ok.kind ok.holder))⟩
 ·by_cases q:key=0
  ·refine aj_ (by rw[bne_eq_false_iff_eq];omega) (J l1 v1 ⟨k1,?_⟩)
   rw[if_neg (fun e=>e q),List.append_nil];exact o1
  ·refine am_ (by rw[bne_iff_ne];omega) ?_
   refine l2_ (a:=n) (c:=key) o1 k1.size (by have:=fl (fun r=>decide (r.1<n));omega) fun l2 v2 k2 o2 _=>J l2 v2 ⟨k1.trans k2 fun _ _ q=>q,?_⟩
   rw[if_pos q];exact o2
end
open Go CF
structure nB_ (o:gx_):Prop where
 key:o.key<18446744073709551616
 action:o.action<18446744073709551616
 type:o.type<256
section
variable {w u v:World} {N:Nat→Prop} {tb n:Nat} {t:aT_} {o:gx_}
theorem ci_ {b i:Nat} {x:Value} (h:Blk w b (otv o).toArray bp_) (e:(otv o)[i]?=some x):w.cell? ((⟨b,0,none⟩:Addr).add i)=some x:=by
 rw[aq_,h.cell,Nat.zero_add,List.getElem?_toArray];exact e
theorem l3_ {b:Nat} (h:Blk w b (otv o).toArray bp_):(loadVar bp_ ⟨b,0,none⟩).run Tryz.prog w=.ok (.agg (otv o).toArray) w:=aE_ uI_ pN_ rfl (ar_ h)
theorem k8_ {known:Bool} {R:Sl→W_} (h:IsT w N tb t) (hN:∀b,N b→b<w.heap.size) (hn:n<8) (ho:nB_ o)
  (hR:∀out v,aa_ (fun k=>k=tb) w v→IsT v N tb (dG_ t n o known).1→Own v w.heap.size aY_ 2 out (evv (dG_ t n o known).2)→R out v):b5_ (some ⟨tb,0,none⟩) (n:Int) (otv o).toArray known w R:=by
 refine dz_.calls _ _ _ _ _ _ (ag_ fun ob w1 hob hb1 hg1 hs1=>?_)
 have hb1:Blk w1 ob (otv o).toArray bp_:=hb1
 have h1:=h.grow hg1
 have hN1:∀b,N b→b<w1.heap.size:=fun b q=>by have:=hN b q;omega
 have ltb:tb<w.heap.size:=h.lt
 refine⟨(o.action:Int),ci_ hb1 rfl,?_⟩
 unfold dG_ at hR
 refine bc_ (fun(out:Sl) v=>aa_ (fun k=>k=tb) w1 v∧IsT v N tb (bx_ t n o known).1∧Own v w1.heap.size aY_ 2 out (evv (bx_ t n o known).2)) ?_ (fun J=>?_)
 ·rintro out v ⟨k,hT,hO⟩
  have hbv:Blk v ob (otv o).toArray bp_:=k.heap hb1 o_
  obtain⟨s,A,ok⟩:=hT.at
  refine⟨o.aptpl,ci_ hbv rfl,rfl,A.put1 (t':={(bx_ t n o known).1 with lasts:=o.aptpl}) (s':=s) (o:=4) d_ rfl rfl (.inl ⟨rfl,rfl⟩) fun v2 A2 k2=>⟨rfl,((bx_ t n o known).1.gen:Int),A2.cell rfl,rfl,?_⟩⟩
  have eg:IntKind.wrap .u32 (((bx_ t n o known).1.gen:Int)+1)=((((bx_ t n o known).1.gen+1)%4294967296:Nat):Int):=by
   have e:IntKind.wrap .u32 (((bx_ t n o known).1.gen:Int)+1)=(((bx_ t n o known).1.gen:Int)+1)%4294967296:=by simp[IntKind.wrap,IntKind.signed,IntKind.bits]
   rw[e];omega
  rw[eg]
  refine A2.put1 (t':={(bx_ t n o known).1 with lasts:=o.aptpl,gen:=((bx_ t n o known).1.gen+1)%4294967296}) (s':=s) (o:=1) d_ rfl rfl (.inl ⟨rfl,rfl⟩) fun v3 A3 k3=>?_
  have kw:aa_ (fun k=>k=tb) w v3:=(((hg1.mono fun _ _ q=>q.elim).trans k fun _ _ q=>q).trans k2 fun _ _ q=>q).trans k3 fun _ _ q=>q
  have o2:=hO.keep k2 fun b hb e=>be_ hO A.blk d_ (by rw[hb,e])
  exact hR out v3 kw (A3.isT (ok.with ok.rok o_ ok.kind ok.holder)) ((o2.keep k3 fun b hb e=>be_ o2 A2.blk d_ (by rw[hb,e])).mono hg1.size)
 ·unfold bx_ at J
  by_cases q0:o.action=0∧known=true
  ·rw[if_pos q0] at J
   obtain⟨s,A,ok⟩:=h1.at
   have hsn:t.regs.length=s.n:=by have:=A.row.rd.len;rw[bG_] at this;omega
   refine am_ (by rw[Bool.and_eq_true,beq_iff_eq];exact⟨o_,q0.2⟩) ⟨rfl,(t.kind:Int),A.cell rfl,dD_ ⟨fun _=>rfl,s,fun _=>A.cell rfl,rfl,(t.kind:Int),A.cell rfl,fun _=>rfl,t.holder,fun _=>A.cell rfl,?_⟩⟩
   refine qk_ (key:=0) h1 hN1 hn d_ fun v2 k2 T2=>?_
   obtain⟨s2,A2,ok2⟩:=T2.at
   have ek:(((t.kind:Int) != 0))=decide (t.kind≠0):=by rw[Bool.eq_iff_iff,bne_iff_ne,decide_eq_true_eq];omega
   have eh:(t.holder==(n:Int))=decide (t.holder=(n:Int)):=by rw[Bool.eq_iff_iff,beq_iff_eq,decide_eq_true_eq]
   have el:((s.n:Int)==1)=decide (t.regs.length=1):=by rw[Bool.eq_iff_iff,beq_iff_eq,decide_eq_true_eq];omega
   rw[ek,eh,el]
   refine⟨fun _=>rfl,(t.kind:Int),fun _=>A2.cell rfl,?_⟩
   refine cm_ (fun(b2:Bool) o'=>o'=v2∧((((decide (t.kind≠0))&&(decide (t.holder=(n:Int))))&&(!(allK t.kind&&decide (t.regs.length=1))))=true→b2=allK t.kind)) ?_ (fun J2=>⟨fun _=>dD_ (J2 _ _ ⟨rfl,fun _=>rfl⟩),fun q=>J2 _ _ ⟨rfl,fun e=>by rw[q] at e;cases e⟩⟩)
   rintro b2 o' ⟨rfl,hb2⟩
   have hcond:((allK t.kind&&decide (t.regs.length=1))||(((decide (t.kind≠0))&&(decide (t.holder=(n:Int)))) && !b2))=decide ((allK t.kind=true∧t.regs.length=1)∨((t.kind≠0∧t.holder=(n:Int))∧allK t.kind=false)):=by
    rw[Bool.eq_iff_iff,decide_eq_true_eq]
    simp only[Bool.or_eq_true,Bool.and_eq_true,decide_eq_true_eq,Bool.not_eq_true']
    by_cases ql:allK t.kind=true∧t.regs.length=1
    ·exact⟨fun _=>.inl ql,fun _=>.inl ql⟩
    ·by_cases qh:t.kind≠0∧t.holder=(n:Int)
     ·have:=hb2 (by
       simp only[Bool.and_eq_true,decide_eq_true_eq,Bool.not_eq_true',Bool.and_eq_false_iff,decide_eq_false_iff_not]
       refine⟨qh,?_⟩
       by_cases e:allK t.kind=true
       ·exact .inr fun e2=>ql ⟨e,e2⟩
       ·exact .inl (by simpa using e))
      rw[this]
     ·exact⟨fun q=>q.elim (fun q=>absurd q ql) fun q=>absurd q.1 qh,fun q=>q.elim (fun q=>absurd q ql) fun q=>absurd q.1 qh⟩
   rw[hcond]
   have kw:aa_ (fun k=>k=tb) w1 o':=k2
   by_cases qc:(allK t.kind=true∧t.regs.length=1)∨((t.kind≠0∧t.holder=(n:Int))∧allK t.kind=false)
   ·rw[if_pos qc] at J
    refine am_ (decide_eq_true qc) (free_spec T2 fun out v3 k3 T3 O3=>J out v3 ⟨k2.trans k3 fun _ _ q=>q,T3,O3.mono k2.size⟩)
   ·rw[if_neg qc] at J
    exact aj_ (decide_eq_false qc) (J au_ o' ⟨k2,T2,aH_ _ _ _ _⟩)
  ·rw[if_neg q0] at J
   refine aj_ ?_ ⟨(o.action:Int),ci_ hb1 rfl,?_⟩
   ·rw[Bool.and_eq_false_iff,beq_eq_false_iff_ne]
    by_cases e:o.action=0
    ·right
     cases hk:known with
     | false=>rfl
     | true=>exact absurd ⟨e,hk⟩ q0
    ·left;omega
   ·by_cases qa:o.action=0
    ·rw[if_neg (fun e=>e qa)] at J
     exact aj_ (by rw[bne_eq_false_iff_eq];omega) (J au_ w1 ⟨aa_.refl _ _,h1,aH_ _ _ _ _⟩)
    ·rw[if_pos qa] at J
     exact am_ (by rw[bne_iff_ne];omega) ⟨(o.action:Int),ci_ hb1 rfl,qk_ h1 hN1 hn ho.action fun v2 k2 T2=>J au_ v2 ⟨k2,T2,aH_ _ _ _ _⟩⟩
theorem ql_ {R:Int→Int→Sl→W_} (h:IsT w N tb t) (hn:n<8) (ho:nB_ o)
  (hR:∀v,aa_ (fun k=>k=tb) w v→IsT v N tb (dO_ t n o).t→R ((dO_ t n o).st:Int) ((dO_ t n o).code:Int) au_ v):dV_ (some ⟨tb,0,none⟩) (n:Int) (otv o).toArray w R:=by
 refine ea_.calls _ _ _ _ _ (ag_ fun ob w1 hob hb1 hg1 hs1=>?_)
 have hb1:Blk w1 ob (otv o).toArray bp_:=hb1
 have h1:=h.grow hg1
 have ltb:tb<w.heap.size:=h.lt
 unfold dO_ at hR
 have kg:∀{v:World},ab_ w v→aa_ (fun k=>k=tb) w v:=fun g=>g.mono fun _ _ q=>q.elim
 refine⟨(o.type:Int),ci_ hb1 rfl,iR_ ?_⟩
 cases hty:ep_ o.type with
 | false=>rw[hty,if_pos rfl] at hR;exact am_ rfl (hR w1 (kg hg1) h1)
 | true=>
  rw[hty,if_neg Bool.noConfusion] at hR
  obtain⟨s,A,ok⟩:=h1.at
  refine aj_ rfl ⟨rfl,(t.kind:Int),A.cell rfl,?_⟩
  by_cases q:t.kind=0
  ·rw[if_pos q] at hR
   refine am_ (by rw[beq_iff_eq];omega) ⟨(o.type:Int),ci_ hb1 rfl,rfl,A.put1 (t':={t with kind:=o.type}) (s':=s) (o:=2) d_ rfl rfl (.inl ⟨rfl,rfl⟩) fun v2 A2 k2=>⟨rfl,A2.put1 (t':={t with kind:=o.type,holder:=(n:Int)}) (s':=s) (o:=3) d_ rfl rfl (.inl ⟨rfl,rfl⟩) fun v3 A3 k3=>?_⟩⟩
   exact hR v3 (((kg hg1).trans k2 fun _ _ q=>q).trans k3 fun _ _ q=>q) (A3.isT (ok.with ok.rok ok.gen ho.type o_))
  ·rw[if_neg q] at hR
   refine aj_ (by rw[beq_eq_false_iff_ne];omega) ?_
   rintro w2 rfl
   have g2:=hg1.trans (ak_ w1)
   have h2:=h1.grow (ak_ w1)
   have b2:Blk w1.drew ob (otv o).toArray bp_:=(ak_ w1).heap hb1 (fun q=>q)
   generalize w1.drew=w2 at *
   refine⟨fun z=>ab_ w2 z,aa_.refl _ _,iS_ h2 fun w3 g3=>⟨g3,fun _=>rfl,fun z=>ab_ w2 z,g3,fun _ q=>q,(t.kind:Int),fun _ z gz=>?_,fun z=>ab_ w2 z,g3,fun _ q=>q,(o.type:Int),fun _ z gz=>ci_ (gz.heap b2 (fun q=>q)) rfl,?_⟩⟩
   ·obtain⟨s,A,_⟩:=(h2.grow gz).at
    exact A.cell rfl
   ·have e:(cy_ t n&&((t.kind:Int)==(o.type:Int)))=decide (cy_ t n=true∧t.kind=o.type):=by
     rw[Bool.eq_iff_iff,Bool.and_eq_true,beq_iff_eq,decide_eq_true_eq]
     exact and_congr_right fun _=>⟨fun e=>o_,fun e=>o_⟩
    rw[e]
    by_cases qh:cy_ t n=true∧t.kind=o.type
    ·rw[if_pos qh] at hR;exact am_ (decide_eq_true qh) (hR w3 (kg (g2.trans g3)) (h2.grow g3))
    ·rw[if_neg qh] at hR;exact aj_ (decide_eq_false qh) (hR w3 (kg (g2.trans g3)) (h2.grow g3))
theorem qm_ {R:Int→Int→Sl→W_} (h:IsT w N tb t)
  (hR:∀out v,aa_ (fun k=>k=tb) w v→IsT v N tb (fu_ t n o).t→Own v w.heap.size aY_ 2 out (evv (fu_ t n o).ev)→R ((fu_ t n o).st:Int) ((fu_ t n o).code:Int) out v):dW_ (some ⟨tb,0,none⟩) (n:Int) (otv o).toArray w R:=by
 refine eb_.calls _ _ _ _ _ (ag_ fun ob w1 hob hb1 hg1 hs1=>?_)
 have hb1:Blk w1 ob (otv o).toArray bp_:=hb1
 have h1:=h.grow hg1
 unfold fu_ at hR
 have kg:∀{v:World},ab_ w v→aa_ (fun k=>k=tb) w v:=fun g=>g.mono fun _ _ q=>q.elim
 refine iS_ h1 fun w2 g2=>?_
 have gw2:=hg1.trans g2
 cases hh:cy_ t n with
 | false=>rw[hh,if_pos rfl] at hR;exact am_ rfl (hR au_ w2 (kg gw2) (h1.grow g2) (aH_ _ _ _ _))
 | true=>
  rw[hh,if_neg Bool.noConfusion] at hR
  refine aj_ rfl ?_
  rintro w3 rfl
  have g3:=gw2.trans (ak_ w2)
  have h3:=(h1.grow g2).grow (ak_ w2)
  have b3:Blk w2.drew ob (otv o).toArray bp_:=(g2.trans (ak_ w2)).heap hb1 (fun q=>q)
  generalize w2.drew=w3 at *
  refine⟨fun z=>ab_ w3 z,aa_.refl _ _,rfl,(t.kind:Int),fun z gz=>?_,(o.type:Int),fun z gz=>ci_ (gz.heap b3 (fun q=>q)) rfl,?_⟩
  ·obtain⟨s,A,_⟩:=(h3.grow gz).at
   exact A.cell rfl
  ·by_cases q:t.kind=o.type
   ·rw[if_neg (fun e=>e q)] at hR
    exact aj_ (by rw[bne_eq_false_iff_eq];omega) (free_spec h3 fun out v k T O=>hR out v ((kg g3).trans k fun _ _ q=>q) T (O.mono g3.size))
   ·rw[if_pos q] at hR
    exact am_ (by rw[bne_iff_ne];omega) (hR au_ w3 (kg g3) h3 (aH_ _ _ _ _))
theorem sT_ {R:Sl→W_} (h:IsT w N tb t)
  (hR:∀out v,aa_ (fun k=>k=tb) w v→IsT v N tb (lD_ t n).1→Own v w.heap.size aY_ 2 out (evv (lD_ t n).2)→R out v):e5_ (some ⟨tb,0,none⟩) (n:Int) w R:=by
 refine fc_.calls _ _ _ _ ?_
 obtain⟨s,A,ok⟩:=h.at
 have hf:=ok.few
 refine⟨rfl,s,A.cell rfl,?_⟩
 refine n8_ (B:=w.heap.size) (evs:=[]) (code:=10755) (rdr A.row (Nat.le_refl _)) (aH_ _ _ _ _) (Nat.le_refl _) (by rw[List.length_nil];omega) fun out v q2 ho=>?_
 rw[List.nil_append] at ho
 have Av:=A.go (q2.from (aa_.refl _ _) (Nat.le_refl _))
 have rn:RdN v N ax_ 2 au_ (rgv []):=RdN.nil _ _ _ _
 refine⟨rfl,Av.put1 (t':={t with regs:=[]}) (s':=au_) (o:=0) d_ rfl rfl (.inr rn) fun v1 A1 k1=>⟨rfl,A1.put1 (t':={t with regs:=[],kind:=0}) (s':=au_) (o:=2) d_ rfl rfl (.inl ⟨rfl,rfl⟩) fun v2 A2 k2=>⟨rfl,A2.put1 (t':={t with regs:=[],kind:=0,holder:=-1}) (s':=au_) (o:=3) d_ rfl rfl (.inl ⟨rfl,rfl⟩) fun v3 A3 k3=>⟨rfl,(t.gen:Int),A3.cell rfl,rfl,?_⟩⟩⟩⟩
 have eg:IntKind.wrap .u32 ((t.gen:Int)+1)=(((t.gen+1)%4294967296:Nat):Int):=by
  have e:IntKind.wrap .u32 ((t.gen:Int)+1)=((t.gen:Int)+1)%4294967296:=by simp[IntKind.wrap,IntKind.signed,IntKind.bits]
  rw[e];omega
 rw[eg]
 refine A3.put1 (t':=(lD_ t n).1) (s':=au_) (o:=1) d_ rfl rfl (.inl ⟨rfl,rfl⟩) fun v4 A4 k4=>?_
 have o1:=ho.keep k1 fun b hb e=>be_ ho Av.blk d_ (by rw[hb,e])
 have o2:=o1.keep k2 fun b hb e=>be_ o1 A1.blk d_ (by rw[hb,e])
 have o3:=o2.keep k3 fun b hb e=>be_ o2 A2.blk d_ (by rw[hb,e])
 have o4:=o3.keep k4 fun b hb e=>be_ o3 A3.blk d_ (by rw[hb,e])
 exact hR out v4 A4.keep (A4.isT ⟨by show 0≤8;decide,List.Pairwise.nil,fun r hr=>(by cases hr),by show(t.gen+1)%4294967296<4294967296;omega,by show 0<256;decide,by show -1≤(-1:Int)∧(-1:Int)<8;decide⟩) o4
end
open Go CF
section
variable {w u v:World} {N:Nat→Prop} {tb n:Nat} {t:aT_} {o:gx_}
theorem qn_ {l:List (Nat×Nat)} {f:Nat×Nat→Bool} {j:Nat} (hj:j<l.length):(l.take (j+1)).any f=((l.take j).any f||f l[j]):=by
 rw[List.take_succ_eq_append_getElem hj,List.any_append];simp
theorem qo_ {R:Int→Int→Sl→W_} (h:IsT w N tb t) (hN:∀b,N b→b<w.heap.size) (hn:n<8) (ho:nB_ o)
  (hR:∀out v,aa_ (fun k=>k=tb) w v→IsT v N tb (fv_ t n o).t→Own v w.heap.size aY_ 2 out (evv (fv_ t n o).ev)→R ((fv_ t n o).st:Int) ((fv_ t n o).code:Int) out v):dX_ (some ⟨tb,0,none⟩) (n:Int) (otv o).toArray w R:=by
 refine ec_.calls _ _ _ _ _ (ag_ fun ob w0 hob hb0 hg0 hs0=>?_)
 have hb0:Blk w0 ob (otv o).toArray bp_:=hb0
 have ltb:tb<w.heap.size:=h.lt
 rintro w1 rfl
 have g1:=hg0.trans (ak_ w0)
 have b1:Blk w0.drew ob (otv o).toArray bp_:=(ak_ w0).heap hb0 (fun q=>q)
 generalize w0.drew=w1 at *
 have h1:=h.grow g1
 have hN1:∀b,N b→b<w1.heap.size:=fun b q=>by have:=hN b q;have:=g1.size;omega
 obtain⟨s,A,ok⟩:=h1.at
 have hf:=ok.few
 have hsn:t.regs.length=s.n:=by have:=A.row.rd.len;rw[bG_] at this;omega
 have kg:∀{v:World},ab_ w v→aa_ (fun k=>k=tb) w v:=fun g=>g.mono fun _ _ q=>q.elim
 have cT:∀{z:World} {i:Nat} {x:Value},ab_ w1 z→(bM_ s t)[i]?=some x→z.cell? ((gA (some (⟨tb,0,none⟩:Addr))).add i)=some x:=fun g e=>(A.go g).cell e
 have cO:∀{z:World} {i:Nat} {x:Value},ab_ w1 z→(otv o)[i]?=some x→z.cell? ((⟨ob,0,none⟩:Addr).add i)=some x:=fun g e=>ci_ (g.heap b1 (fun q=>q)) e
 refine⟨fun z=>ab_ w1 z,aa_.refl _ _,rfl,(t.kind:Int),fun z g=>cT g rfl,dD_ ⟨aa_.refl _ _,fun z=>ab_ w1 z,aa_.refl _ _,fun _ q=>q,(o.action:Int),fun _ z g=>cO g rfl,rfl,s,cT (aa_.refl _ _) rfl,?_⟩⟩
 have eal:(allK t.kind&&((o.action:Int)==0))=(allK t.kind&&decide (o.action=0)):=by
  congr 1
  rw[Bool.eq_iff_iff,beq_iff_eq,decide_eq_true_eq];omega
 rw[eal]
 unfold fv_ at hR
 generalize hall:(allK t.kind&&decide (o.action=0))=all at *
 have ek:((t.kind:Int) != 0)=decide (t.kind≠0):=by rw[Bool.eq_iff_iff,bne_iff_ne,decide_eq_true_eq];omega
 let hp:Nat×Nat→Bool:=fun r=>(decide (t.kind≠0) && !allK t.kind)&&decide ((r.1:Int)=t.holder)&&decide (r.2=o.action)
 refine⟨fun held x v=>∃j:Nat,x=j∧j≤t.regs.length∧ab_ w1 v∧held=(t.regs.take j).any hp,fun _ x _=>s.n-x.toNat,⟨0,rfl,Nat.zero_le _,aa_.refl _ _,rfl⟩,?_⟩
 rintro held x v ⟨j,rfl,hj,gv,rfl⟩
 refine bl_ (fun hlt=>?_) (fun hge=>?_)
 ·have hjl:j<t.regs.length:=o_
  refine gy_ (A.row.rd.grow gv) hjl fun rb v1 g2 br _=>?_
  rintro v2 rfl
  have gv2:=(gv.trans g2).trans (ak_ v1)
  have br2:Blk v1.drew rb (rgc t.regs[j]).toArray ax_:=(ak_ v1).heap br (fun q=>q)
  generalize v1.drew=v2 at *
  refine⟨fun z=>ab_ v2 z,aa_.refl _ _,fun _=>rfl,(t.kind:Int),fun _ z g=>cT (gv2.trans g) rfl,fun _=>rfl,(t.kind:Int),fun _ z g=>cT (gv2.trans g) rfl,?_⟩
  rw[ek]
  generalize hde:(t.regs.take j).any hp=hd at *
  refine cm_ (fun(bb:Bool) z=>z=v2∧((decide (t.kind≠0) && !hd)=true→bb=allK t.kind)) ?_ (fun J=>⟨fun _=>dD_ (J _ _ ⟨rfl,fun _=>rfl⟩),fun q=>J _ _ ⟨rfl,fun e=>by rw[q] at e;cases e⟩⟩)
  rintro bb z ⟨rfl,hbb⟩
  refine⟨aa_.refl _ _,fun y=>ab_ z y,aa_.refl _ _,fun _ q=>q,(t.regs[j].1:Int),fun _ y g=>by rw[aq_,Blk.cell (g.heap br2 (fun q=>q))];rfl,fun _=>rfl,fun y=>ab_ z y,aa_.refl _ _,fun _ q=>q,t.holder,fun _ y g=>cT (gv2.trans g) rfl,fun y=>ab_ z y,aa_.refl _ _,fun _ q=>q,(t.regs[j].2:Int),fun _ y g=>by rw[aq_,Blk.cell (g.heap br2 (fun q=>q))];rfl,fun y=>ab_ z y,aa_.refl _ _,fun _ q=>q,(o.action:Int),fun _ y g=>cO (gv2.trans g) rfl,?_⟩
  have e1:((t.regs[j].1:Int)==t.holder)=decide ((t.regs[j].1:Int)=t.holder):=by rw[Bool.eq_iff_iff,beq_iff_eq,decide_eq_true_eq]
  have e2:((t.regs[j].2:Int)==(o.action:Int))=decide (t.regs[j].2=o.action):=by
   rw[Bool.eq_iff_iff,beq_iff_eq,decide_eq_true_eq]
   exact⟨fun e=>o_,fun e=>o_⟩
  rw[e1,e2]
  have e3:(hd||((((decide (t.kind≠0))&&(!bb))&&decide ((t.regs[j].1:Int)=t.holder))&&decide (t.regs[j].2=o.action)))=(t.regs.take (j+1)).any hp:=by
   rw[qn_ hjl,hde]
   cases hd with
   | true=>rfl
   | false=>
    by_cases q:t.kind≠0
    ·rw[hbb (by rw[decide_eq_true q];rfl)]
    ·show _=(false||((decide (t.kind≠0) && !allK t.kind)&&decide ((t.regs[j].1:Int)=t.holder)&&decide (t.regs[j].2=o.action)))
     rw[decide_eq_false q];rfl
  rw[e3,w64 o_ o_]
  exact⟨⟨j+1,o_,o_,gv2,rfl⟩,by dsimp only;omega⟩
 have ej:j=t.regs.length:=o_
 subst ej
 rw[List.take_length]
 have hheld:t.regs.any hp=pe_ t o.action:=rfl
 rw[hheld]
 have gwv:=g1.trans gv
 have hv:=h1.grow gv
 have eo:((o.action:Int)==0)=decide (o.action=0):=by rw[Bool.eq_iff_iff,beq_iff_eq,decide_eq_true_eq];omega
 refine⟨(o.action:Int),cO gv rfl,?_⟩
 rw[eo]
 by_cases c1:o.action=0∧all=false
 ·rw[if_pos c1] at hR
  exact am_ (by rw[Bool.and_eq_true,decide_eq_true_eq,c1.2];exact⟨c1.1,rfl⟩) (hR au_ v (kg gwv) hv (aH_ _ _ _ _))
 rw[if_neg c1] at hR
 refine aj_ (by
  rw[Bool.and_eq_false_iff,decide_eq_false_iff_not,Bool.not_eq_false']
  by_cases q:o.action=0
  ·right
   cases ha:all with
   | true=>rfl
   | false=>exact absurd ⟨q,ha⟩ c1
  ·exact .inl q) ⟨(o.type:Int),fun _=>cO gv rfl,?_⟩
 generalize hha:(pe_ t o.action||all)=ha at *
 refine cm_ (fun(b2:Bool) z=>z=v∧(ha=true→b2=ep_ o.type)) ?_ (fun J=>⟨fun _=>iR_ (J _ _ ⟨rfl,fun _=>rfl⟩),fun q=>J _ _ ⟨rfl,fun e=>by rw[q] at e;cases e⟩⟩)
 rintro b2 z ⟨rfl,hb2⟩
 by_cases c2:ha=true∧ep_ o.type=false
 ·rw[if_pos c2] at hR
  exact am_ (by rw[hb2 c2.1,c2.1,c2.2];rfl) (hR au_ z (kg gwv) hv (aH_ _ _ _ _))
 rw[if_neg c2] at hR
 refine aj_ (by
  cases hq:ha with
  | false=>rfl
  | true=>
   rw[hb2 hq]
   cases ht:ep_ o.type with
   | true=>rfl
   | false=>exact absurd ⟨hq,ht⟩ c2) ⟨rfl,s,cT gv rfl,?_⟩
 have tl:∀(f:Nat×Nat→Bool) (k:Nat),(tells (t.regs.take k) f 10757).length≤8:=fun f k=>by
  unfold tells
  rw[List.length_map]
  exact Nat.le_trans (List.length_filter_le _ _) (by rw[List.length_take];omega)
 have fl:∀(f:Nat×Nat→Bool) (k:Nat),((t.regs.take k).filter f).length≤8:=fun f k=>Nat.le_trans (List.length_filter_le _ _) (by rw[List.length_take];omega)
 generalize hB:z.heap.size=B at *
 let lp:=pf_ t n o.action all
 let np:Nat×Nat→Bool:=fun r=> !lp r
 have toG:∀{y},aa_ (fun k=>B≤k) z y→ab_ z y:=fun k=>ab_.keep (aa_.refl _ _) k fun i hi q=>o_
 refine⟨fun out left x y=>∃j:Nat,x=j∧j≤t.regs.length∧aa_ (fun k=>B≤k) z y∧Own y B aY_ 2 out (evv (tells (t.regs.take j) np 10757))∧Own y B ax_ 2 left (rgv ((t.regs.take j).filter lp)),fun _ _ x _=>s.n-x.toNat,⟨0,rfl,Nat.zero_le _,aa_.refl _ _,aH_ _ _ _ _,aH_ _ _ _ _⟩,?_⟩
 rintro out left x y ⟨j,rfl,hj,ky,oe,og⟩
 have gzy:=toG ky
 have gy:=gv.trans gzy
 refine bl_ (fun hlt=>?_) (fun hge=>?_)
 ·have hjl:j<t.regs.length:=o_
  have hs:t.regs.take (j+1)=t.regs.take j++[t.regs[j]]:=by rw[List.take_succ_eq_append_getElem hjl]
  refine sh_ (fun o2 l2 y'=>aa_ (fun k=>B≤k) z y'∧Own y' B aY_ 2 o2 (evv (tells (t.regs.take (j+1)) np 10757))∧Own y' B ax_ 2 l2 (rgv ((t.regs.take (j+1)).filter lp))) (fun o2 l2 y' hy=>?_) (fun J=>?_)
  ·rw[w64 o_ o_]
   exact⟨⟨j+1,o_,o_,hy.1,hy.2.1,hy.2.2⟩,by dsimp only;omega⟩
  ·refine gy_ (A.row.rd.grow gy) hjl fun rb y1 g2 br _=>?_
   have ky1:aa_ (fun k=>B≤k) z y1:=ky.trans (g2.mono fun _ _ q=>q.elim) fun _ _ q=>q
   have oe1:=oe.grow g2
   have og1:=og.grow g2
   have gy1:=gy.trans g2
   have c1r:∀{i:Nat} {x:Value},(rgc t.regs[j])[i]?=some x→y1.cell? ((⟨rb,0,none⟩:Addr).add i)=some x:=fun e=>by rw[aq_,br.cell,Nat.zero_add,List.getElem?_toArray];exact e
   refine⟨(t.regs[j].1:Int),c1r rfl,?_⟩
   refine bc_ (fun(x2:Bool) y'=>y'=y1∧x2=lp t.regs[j]) ?_ (fun J2=>?_)
   ·rintro x2 y' ⟨rfl,rfl⟩
    cases hl:lp t.regs[j] with
    | true=>
     refine am_ rfl ⟨(rgc t.regs[j]).toArray,aE_ gG_ cZ_ rfl (ar_ br),?_⟩
     refine l2_ (a:=t.regs[j].1) (c:=t.regs[j].2) og1 (by have:=ky1.size;omega) (by have:=fl lp j;omega) fun l3 y3 k3 h3 hk3=>J out l3 y3 ⟨ky1.trans k3 fun _ _ q=>q,?_,?_⟩
     ·have:tells (t.regs.take (j+1)) np 10757=tells (t.regs.take j) np 10757:=by
       unfold tells
       rw[hs,List.filter_append,List.map_append]
       have:[t.regs[j]].filter np = []:=by rw[List.filter_cons,if_neg (by show ¬(!lp t.regs[j])=true;rw[hl];decide)];rfl
       rw[this];simp
      rw[this]
      rcases oe1 with⟨hlen,hnil|⟨g,cap,cur,hv',hbg,hg,rest⟩⟩
      ·exact⟨hlen,.inl hnil⟩
      ·exact⟨hlen,.inr ⟨g,cap,cur,hv',hbg,hk3 g cur _ hg d_,rest⟩⟩
     ·have:(t.regs.take (j+1)).filter lp=(t.regs.take j).filter lp++[(t.regs[j].1,t.regs[j].2)]:=by
       rw[hs,List.filter_append]
       congr 1
       rw[List.filter_cons,if_pos hl];rfl
      rw[this];exact h3
    | false=>
     refine aj_ rfl ⟨(t.regs[j].1:Int),c1r rfl,?_⟩
     refine rL_ (a:=t.regs[j].1) (c:=10757) oe1 (by have:=ky1.size;omega) (by have:=tl np j;omega) fun o3 y3 q3 h3=>J o3 left y3 ⟨ky1.trans q3.keep fun _ _ q=>q,?_,?_⟩
     ·have:tells (t.regs.take (j+1)) np 10757=tells (t.regs.take j) np 10757++[(t.regs[j].1,10757)]:=by
       unfold tells
       rw[hs,List.filter_append,List.map_append]
       congr 1
       rw[List.filter_cons,if_pos (by show(!lp t.regs[j])=true;rw[hl];rfl)];rfl
      rw[this];exact h3
     ·have:(t.regs.take (j+1)).filter lp=(t.regs.take j).filter lp:=by
       rw[hs,List.filter_append]
       have:[t.regs[j]].filter lp = []:=by rw[List.filter_cons,if_neg (by rw[hl];decide)];rfl
       rw[this];simp
      rw[this]
      rcases og1 with⟨hlen,hnil|⟨g,cap,cur,hv',hbg,hg,rest⟩⟩
      ·exact⟨hlen,.inl hnil⟩
      ·exact⟨hlen,.inr ⟨g,cap,cur,hv',hbg,q3.regs g cur hg,rest⟩⟩
   ·have en:((t.regs[j].1:Int)==(n:Int))=decide (t.regs[j].1=n):=by
     rw[Bool.eq_iff_iff,beq_iff_eq,decide_eq_true_eq]
     exact⟨fun e=>o_,fun e=>o_⟩
    have ea:((t.regs[j].2:Int) != (o.action:Int))=decide (t.regs[j].2≠o.action):=by
     rw[Bool.eq_iff_iff,bne_iff_ne,decide_eq_true_eq]
     exact⟨fun e=>o_,fun e=>o_⟩
    rw[en]
    by_cases q:t.regs[j].1=n
    ·refine am_ (decide_eq_true q) (J2 _ _ ⟨rfl,?_⟩)
     show _=(decide (t.regs[j].1=n)||_)
     rw[decide_eq_true q];rfl
    ·refine aj_ (decide_eq_false q) ⟨(t.regs[j].2:Int),c1r rfl,(o.action:Int),cO gy1 rfl,J2 _ _ ⟨rfl,?_⟩⟩
     rw[ea]
     show _=(decide (t.regs[j].1=n)||(decide (t.regs[j].2≠o.action) && !all))
     rw[decide_eq_false q];rfl
 have ej:j=t.regs.length:=o_
 subst ej
 rw[List.take_length] at oe og
 refine⟨rfl,s,cT gy rfl,?_⟩
 let hk:Nat×Nat→Bool:=fun r=>decide (r.2=o.action)
 refine⟨fun hit x y'=>∃j:Nat,x=j∧j≤t.regs.length∧ab_ y y'∧hit=(t.regs.take j).any hk,fun _ x _=>s.n-x.toNat,⟨0,rfl,Nat.zero_le _,aa_.refl _ _,rfl⟩,?_⟩
 rintro hit x y' ⟨j,rfl,hj2,gy',rfl⟩
 have gw1y:=gy.trans gy'
 refine bl_ (fun hlt=>?_) (fun hge2=>?_)
 ·have hjl:j<t.regs.length:=o_
  refine gy_ (A.row.rd.grow gw1y) hjl fun rb y1 g2 br _=>?_
  refine⟨(t.regs[j].2:Int),fun _=>by rw[aq_,br.cell];rfl,(o.action:Int),fun _=>cO (gw1y.trans g2) rfl,?_⟩
  have e2:((t.regs[j].2:Int)==(o.action:Int))=decide (t.regs[j].2=o.action):=by
   rw[Bool.eq_iff_iff,beq_iff_eq,decide_eq_true_eq]
   exact⟨fun e=>o_,fun e=>o_⟩
  rw[e2,show((t.regs.take j).any hk||decide (t.regs[j].2=o.action))=(t.regs.take (j+1)).any hk by rw[qn_ hjl],w64 o_ o_]
  exact⟨⟨j+1,o_,o_,gy'.trans g2,rfl⟩,by dsimp only;omega⟩
 have ej:j=t.regs.length:=o_
 subst ej
 rw[List.take_length]
 have hhit:t.regs.any hk=(t.regs.any fun r=>decide (r.2=o.action)):=rfl
 rw[hhit]
 have hy':=h1.grow gw1y
 by_cases c3:(t.regs.any fun r=>decide (r.2=o.action))=false∧all=false
 ·rw[if_pos c3] at hR
  exact am_ (by rw[c3.1,c3.2];rfl) (hR au_ y' (kg (g1.trans gw1y)) hy' (aH_ _ _ _ _))
 rw[if_neg c3] at hR
 refine aj_ (by
  cases hq:(t.regs.any fun r=>decide (r.2=o.action)) with
  | true=>rfl
  | false=>
   cases ha2:all with
   | true=>rfl
   | false=>exact absurd ⟨hq,ha2⟩ c3) ⟨rfl,(t.kind:Int),cT gw1y rfl,rfl,?_⟩
 have A':=A.go gw1y
 have og':=og.grow gy'
 have oe':=oe.grow gy'
 have hBw:w.heap.size≤B:=by have:=gwv.size;omega
 have hBy:B≤y'.heap.size:=by have:=ky.size;have:=gy'.size;omega
 have rfil:f4_ (t.regs.filter lp):=ok.rok.filter lp
 have lfew:=rfil.few
 have hNB:∀b,N b→b<B:=fun b q=>by have:=hN1 b q;have:=gv.size;omega
 have rn:RdN y' N ax_ 2 left (rgv (t.regs.filter lp)):=⟨og'.mono (Nat.zero_le _),by have:=og'.len;rw[bG_] at this;omega,fun b hb q=>by have:=(og'.ge b hb).1;have:=hNB b q;omega⟩
 refine A'.put1 (t':={t with regs:=t.regs.filter lp}) (s':=left) (o:=0) d_ rfl rfl (.inr rn) fun y1 A1 k1=>?_
 have cO1:∀{i:Nat} {x:Value},(otv o)[i]?=some x→y1.cell? ((⟨ob,0,none⟩:Addr).add i)=some x:=fun e=>ci_ (k1.heap (gw1y.heap b1 (fun q=>q)) (fun e=>by have:=aw_ hb0;omega)) e
 have oe1:Own y1 B aY_ 2 out (evv (tells t.regs np 10757)):=oe'.keep k1 fun b hb e=>be_ oe' A'.blk d_ (by rw[hb,e])
 have og1:Own y1 B ax_ 2 left (rgv (t.regs.filter lp)):=og'.keep k1 fun b hb e=>be_ og' A'.blk d_ (by rw[hb,e])
 have eg:IntKind.wrap .u32 ((t.gen:Int)+1)=(((t.gen+1)%4294967296:Nat):Int):=by
  have e:IntKind.wrap .u32 ((t.gen:Int)+1)=((t.gen:Int)+1)%4294967296:=by simp[IntKind.wrap,IntKind.signed,IntKind.bits]
  rw[e];omega
 have kwy:aa_ (fun k=>k=tb) w w1:=kg g1
 have fin:∀{y2:World} {t2:aT_} {out2:Sl} {evs:List Ev},dH_ w1 y2 N tb left t2→t2.gen=t.gen→cv_ t2→Own y2 B aY_ 2 out2 (evv evs)→(∀v',aa_ (fun k=>k=tb) w v'→IsT v' N tb {t2 with gen:=(t.gen+1)%4294967296}→Own v' w.heap.size aY_ 2 out2 (evv evs)→R 0 0 out2 v')→
   (some (⟨tb,0,none⟩:Addr)).isSome=true∧∃n17:Int,y2.cell? ((gA (some (⟨tb,0,none⟩:Addr))).add 1)=some (.int .u32 n17)∧(some (⟨tb,0,none⟩:Addr)).isSome=true∧Put ((gA (some (⟨tb,0,none⟩:Addr))).add 1) (.int .u32 (IntKind.wrap .u32 (n17+1))) y2 fun w025=>R 0 0 out2 w025:=by
  intro y2 t2 out2 evs A2 hg2 ok2 oe2 hK
  refine⟨rfl,(t.gen:Int),A2.cell (by show(bM_ left t2)[1]?=_;rw[←hg2];rfl),rfl,?_⟩
  rw[eg]
  refine A2.put1 (t':={t2 with gen:=(t.gen+1)%4294967296}) (s':=left) (o:=1) d_ rfl rfl (.inl ⟨rfl,rfl⟩) fun y3 A3 k3=>?_
  exact hK y3 (kwy.trans A3.keep fun _ _ q=>q) (A3.isT (ok2.with ok2.rok o_ ok2.kind ok2.holder)) ((oe2.keep k3 fun b hb e=>be_ oe2 A2.blk d_ (by rw[hb,e])).mono hBw)
 cases hq:ha with
 | false=>
  rw[hq,if_neg Bool.noConfusion] at hR
  exact bc_ (fun(o4:Sl) y2=>o4=out∧y2=y1) (fun o4 y2 e=>by
   obtain⟨rfl,rfl⟩:=e
   exact fin A1 rfl (ok.with rfil ok.gen ok.kind ok.holder) oe1 fun v' k T O=>hR o4 v' k T O) fun J=>aj_ rfl (J _ _ ⟨rfl,rfl⟩)
 | true=>
  rw[hq,if_pos rfl] at hR
  refine bc_ (fun(o4:Sl) y2=>dH_ w1 y2 N tb left {t with regs:=t.regs.filter lp,kind:=o.type,holder:=(n:Int)}∧Own y2 B aY_ 2 o4 (evv (tells t.regs np 10757++(if 5≤t.kind∧t.kind≠o.type then tells (t.regs.filter lp) (fun r=>decide (r.1≠n)) 10756 else [])))) ?_ (fun J=>?_)
  ·rintro o4 y2 ⟨A2,O2⟩
   exact fin A2 rfl (ok.with rfil ok.gen ho.type o_) O2 fun v' k T O=>hR o4 v' k T O
  ·refine am_ rfl ⟨(o.type:Int),cO1 rfl,rfl,A1.put1 (t':={t with regs:=t.regs.filter lp,kind:=o.type}) (s':=left) (o:=2) d_ rfl rfl (.inl ⟨rfl,rfl⟩) fun y2 A2 k2=>⟨rfl,A2.put1 (t':={t with regs:=t.regs.filter lp,kind:=o.type,holder:=(n:Int)}) (s':=left) (o:=3) d_ rfl rfl (.inl ⟨rfl,rfl⟩) fun y3 A3 k3=>?_⟩⟩
   have oe2:=oe1.keep k2 fun b hb e=>be_ oe1 A1.blk d_ (by rw[hb,e])
   have oe3:=oe2.keep k3 fun b hb e=>be_ oe2 A2.blk d_ (by rw[hb,e])
   have og2:=og1.keep k2 fun b hb e=>be_ og1 A1.blk d_ (by rw[hb,e])
   have og3:=og2.keep k3 fun b hb e=>be_ og2 A2.blk d_ (by rw[hb,e])
   have b3:Blk y3 ob (otv o).toArray bp_:=by
    have nob:ob≠tb:=o_
    exact k3.heap (k2.heap (k1.heap (gw1y.heap b1 (fun q=>q)) nob) nob) nob
   refine⟨(o.type:Int),fun _=>ci_ b3 rfl,?_⟩
   have ec:(decide ((t.kind:Int)≥5)&&((t.kind:Int) != (o.type:Int)))=decide (5≤t.kind∧t.kind≠o.type):=by
    rw[Bool.eq_iff_iff,Bool.and_eq_true,decide_eq_true_eq,bne_iff_ne,decide_eq_true_eq]
    exact⟨fun e=>⟨o_,fun e2=>e.2 (by rw[e2])⟩,fun e=>⟨o_,fun e2=>e.2 o_⟩⟩
   rw[ec]
   have s3:=k1.size
   have s4:=k2.size
   have s5:=k3.size
   by_cases c5:5≤t.kind∧t.kind≠o.type
   ·rw[if_pos c5] at J
    refine am_ (decide_eq_true c5) (n8_ (w:=y3) (B:=B) (but:=n) (code:=10756) (fun v q=>?_) oe3 o_ (by have:=tl np t.regs.length;rw[List.take_length] at this;omega) fun o4 y4 q4 O4=>J o4 y4 ⟨?_,O4⟩)
    ·rcases og3 with⟨hlen,hnil|⟨g,cap,cur,hv',hbg,hg,rest⟩⟩
     ·exact CF.Own.rd (base:=B) (e:=ax_) ⟨hlen,.inl hnil⟩ (by have:=hlen;rw[bG_] at this;omega)
     ·exact CF.Own.rd (base:=B) (e:=ax_) ⟨hlen,.inr ⟨g,cap,cur,hv',hbg,q.regs g cur hg,rest⟩⟩ (by have:=hlen;rw[bG_] at this;omega)
    ·have hw1B:w1.heap.size≤B:=by rw[←hB];exact gv.size
     have ltb1:=g1.size
     refine⟨A3.keep.trans q4.keep fun i hi e=>?_,q4.keep.heap A3.blk o_,?_⟩
     ·omega
     ·rcases og3 with⟨hlen,hnil|⟨g,cap,cur,hv',hbg,hg,rest⟩⟩
      ·exact⟨⟨hlen,.inl hnil⟩,A3.row.small,fun b hb=>by exfalso;unfold Sl.blk at hb;have:=hnil.1;injection this with e1 e2 e3;rw[e1] at hb;cases hb⟩
      ·exact⟨⟨hlen,.inr ⟨g,cap,cur,hv',Nat.zero_le _,q4.regs g cur hg,rest⟩⟩,A3.row.small,A3.row.out⟩
   ·rw[if_neg c5] at J
    exact aj_ (decide_eq_false c5) (J out y3 ⟨A3,by rw[List.append_nil];exact oe3⟩)
end
open Go CF
def hbX (h:Int):UInt8:=UInt8.ofNat ((h+256)%256).toNat
def fw_ (r:Nat×Nat):L8:=UInt8.ofNat r.1::beN 8 r.2
def bk_ (t:aT_):L8:=if t.lasts=false then [] else [80,82,UInt8.ofNat (aB_ t).1,hbX (aB_ t).2,UInt8.ofNat t.regs.length]++t.regs.flatMap fw_
theorem mZ_ (r:Nat×Nat):(fw_ r).length=9:=by unfold fw_;rw[List.length_cons,bg_]
theorem jw_:∀l:List (Nat×Nat),(l.flatMap fw_).length=9*l.length
 | []=>rfl
 | a::r=>by rw[List.flatMap_cons,List.length_append,mZ_,jw_ r,List.length_cons];omega
theorem oJ_ {t:aT_} (h:cv_ t):(bk_ t).length≤77:=by
 unfold bk_
 split
 ·decide
 ·rw[List.length_append,jw_]
  have:=h.few
  have e:([80,82,UInt8.ofNat (aB_ t).1,hbX (aB_ t).2,UInt8.ofNat t.regs.length]:L8).length=5:=rfl
  omega
theorem vn_ {h:Int} (h0 : -1≤h) (h8:h<8):IntKind.wrap .u8 h=(((hbX h).toNat:Nat):Int):=by
 have key:∀k:Fin 9,IntKind.wrap .u8 ((k.val:Int)-1)=(((hbX ((k.val:Int)-1)).toNat:Nat):Int):=by decide +kernel
 have:=key ⟨(h+1).toNat,o_⟩
 have e:(((h+1).toNat:Nat):Int)-1=h:=o_
 rw[e] at this;exact this
section
variable {w u v:World} {N:Nat→Prop} {tb n:Nat} {t:aT_} {o:gx_}
theorem t5_ {R:Int→Int→Sl→W_} (h:IsT w N tb t) (hN:∀b,N b→b<w.heap.size) (hn:n<8) (ho:nB_ o) (hs:o.service<256)
  (hR:∀out v,aa_ (fun k=>k=tb) w v→IsT v N tb (bI_ t n o).t→Own v w.heap.size aY_ 2 out (evv (bI_ t n o).ev)→R ((bI_ t n o).st:Int) ((bI_ t n o).code:Int) out v):iK_ (some ⟨tb,0,none⟩) (n:Int) (otv o).toArray w R:=by
 refine gW_.calls _ _ _ _ _ (ag_ fun ob w1 hob hb1 hg1 hs1=>?_)
 have hb1:Blk w1 ob (otv o).toArray bp_:=hb1
 have h1:=h.grow hg1
 have hN1:∀b,N b→b<w1.heap.size:=fun b q=>by have:=hN b q;omega
 have kg:∀{v:World},ab_ w v→aa_ (fun k=>k=tb) w v:=fun g=>g.mono fun _ _ q=>q.elim
 unfold bI_ at hR
 refine⟨(o.service:Int),fun _=>ci_ hb1 rfl,?_⟩
 by_cases s6:6<o.service
 ·rw[if_pos s6] at hR
  exact am_ (by rw[Bool.or_eq_true];right;rw[decide_eq_true_eq];omega) (hR au_ w1 (kg hg1) h1 (aH_ _ _ _ _))
 rw[if_neg s6] at hR
 refine aj_ (by simp only[Bool.or_eq_false_iff,decide_eq_false_iff_not];exact⟨⟨⟨rfl,o_⟩,o_⟩,o_⟩) (kP_ h1 fun w2 g2=>?_)
 have gw2:=hg1.trans g2
 have h2:=h1.grow g2
 have b2:Blk w2 ob (otv o).toArray bp_:=g2.heap hb1 (fun q=>q)
 have hN2:∀b,N b→b<w2.heap.size:=fun b q=>by have:=hN b q;have:=gw2.size;omega
 have lift:∀{D:DoT} {K:Int→Int→Sl→W_},(∀out v,aa_ (fun k=>k=tb) w v→IsT v N tb D.t→Own v w.heap.size aY_ 2 out (evv D.ev)→K (D.st:Int) (D.code:Int) out v)→∀out v,aa_ (fun k=>k=tb) w2 v→IsT v N tb D.t→Own v w2.heap.size aY_ 2 out (evv D.ev)→K (D.st:Int) (D.code:Int) out v:=
  fun hK out v k T O=>hK out v ((kg gw2).trans k fun _ _ q=>q) T (O.mono gw2.size)
 obtain⟨kk,hkk⟩:∃k,eq_ t n=k:=⟨_,rfl⟩
 rw[hkk] at hR ⊢
 have rest:∀(mine:Nat) (kn:Bool),kk.isSome=kn→kk.getD 0=mine→∃n2:Int,w2.cell? ((⟨ob,0,none⟩:Addr).add 0)=some (.int .u8 n2)∧Br (n2==6) (∃g:A_,(loadVar bp_ ⟨ob,0,none⟩).run Tryz.prog w2=.ok (.agg g) w2∧b5_ (some ⟨tb,0,none⟩) (n:Int) g kn w2 fun xs w02=>R 0 0 xs w02) (Br (n2==0) (∃n3:Int,w2.cell? ((⟨ob,0,none⟩:Addr).add 2)=some (.int .u64 n3)∧Br (n3 != (mine:Int)) (R 24 0 (⟨none,0,0⟩:Sl) w2) (∃g1:A_,(loadVar bp_ ⟨ob,0,none⟩).run Tryz.prog w2=.ok (.agg g1) w2∧b5_ (some ⟨tb,0,none⟩) (n:Int) g1 kn w2 fun xs1 w03=>R 0 0 xs1 w03))
   (∃n4:Int,((!(!kn))=true→w2.cell? ((⟨ob,0,none⟩:Addr).add 2)=some (.int .u64 n4))∧Br ((!kn)||(n4 != (mine:Int))) (R 24 0 (⟨none,0,0⟩:Sl) w2) (∃n5:Int,w2.cell? ((⟨ob,0,none⟩:Addr).add 0)=some (.int .u8 n5)∧Br (n5==1) (∃g2:A_,(loadVar bp_ ⟨ob,0,none⟩).run Tryz.prog w2=.ok (.agg g2) w2∧dV_ (some ⟨tb,0,none⟩) (n:Int) g2 w2 fun n6 n7 xs2 w04=>R n6 n7 xs2 w04)
    (Br (n5==2) (∃g3:A_,(loadVar bp_ ⟨ob,0,none⟩).run Tryz.prog w2=.ok (.agg g3) w2∧dW_ (some ⟨tb,0,none⟩) (n:Int) g3 w2 fun n8 n9 xs3 w05=>R n8 n9 xs3 w05) (Br (n5==3) (e5_ (some ⟨tb,0,none⟩) (n:Int) w2 fun xs4 w06=>R 0 0 xs4 w06) (∃g4:A_,(loadVar bp_ ⟨ob,0,none⟩).run Tryz.prog w2=.ok (.agg g4) w2∧dX_ (some ⟨tb,0,none⟩) (n:Int) g4 w2 fun n10 n11 xs5 w07=>R n10 n11 xs5 w07)))))):=by
  intro mine kn hkn hmi
  rw[hkn,hmi] at hR
  refine⟨(o.service:Int),ci_ b2 rfl,as_ (fun e=>?_) (fun e6=>as_ (fun e=>?_) (fun e0=>?_))⟩
  ·rw[if_pos o_] at hR
   exact⟨_,l3_ b2,k8_ h2 hN2 hn ho fun out v k T O=>hR out v ((kg gw2).trans k fun _ _ q=>q) T (O.mono gw2.size)⟩
  ·rw[if_neg o_,if_pos o_] at hR
   refine⟨(o.key:Int),ci_ b2 rfl,?_⟩
   by_cases q:o.key=mine
   ·rw[if_neg (fun e=>e q)] at hR
    exact aj_ (by rw[bne_eq_false_iff_eq];omega) ⟨_,l3_ b2,k8_ h2 hN2 hn ho fun out v k T O=>hR out v ((kg gw2).trans k fun _ _ q=>q) T (O.mono gw2.size)⟩
   ·rw[if_pos q] at hR
    exact am_ (by rw[bne_iff_ne];omega) (hR au_ w2 (kg gw2) h2 (aH_ _ _ _ _))
  ·rw[if_neg o_,if_neg o_] at hR
   refine⟨(o.key:Int),fun _=>ci_ b2 rfl,?_⟩
   by_cases q:kn=false∨o.key≠mine
   ·rw[if_pos q] at hR
    refine am_ ?_ (hR au_ w2 (kg gw2) h2 (aH_ _ _ _ _))
    rw[Bool.or_eq_true,bne_iff_ne]
    rcases q with q|q
    ·left;rw[q];rfl
    ·right;omega
   ·rw[if_neg q] at hR
    have q1:kn=true:=by cases hq:kn with|true=>rfl|false=>exact absurd (.inl hq) q
    have q2:o.key=mine:=Classical.byContradiction fun e=>q (.inr e)
    refine aj_ (by rw[q1,q2];simp) ⟨(o.service:Int),ci_ b2 rfl,as_ (fun e=>?_) (fun n1=>as_ (fun e=>?_) (fun n2'=>as_ (fun e=>?_) (fun n3=>?_)))⟩
    ·rw[if_pos o_] at hR
     exact⟨_,l3_ b2,ql_ h2 hn ho fun v k T=>hR au_ v ((kg gw2).trans k fun _ _ q=>q) T (by
      have:(dO_ t n o).ev = []:=by unfold dO_;split<;>(try split)<;>(try split)<;>rfl
      rw[this];exact aH_ _ _ _ _)⟩
    ·rw[if_neg o_,if_pos o_] at hR
     exact⟨_,l3_ b2,qm_ h2 (lift hR)⟩
    ·rw[if_neg o_,if_neg o_,if_pos o_] at hR
     exact sT_ h2 fun out v k T O=>hR out v ((kg gw2).trans k fun _ _ q=>q) T (O.mono gw2.size)
    ·rw[if_neg o_,if_neg o_,if_neg o_] at hR
     exact⟨_,l3_ b2,qo_ h2 hN2 hn ho (lift hR)⟩
 cases kk with
 | none=>exact rest 0 false rfl rfl
 | some k=>exact rest k true rfl rfl
theorem nC_ {R:Sl→W_} (h:IsT w N tb t) (hR:∀xs v,ab_ w v→Own v w.heap.size ae_ 1 xs (bv (bk_ t))→R xs v):fC_ (some ⟨tb,0,none⟩) w R:=by
 refine fH_.calls _ _ _ ?_
 obtain⟨s,A,ok⟩:=h.at
 have hf:=ok.few
 have hsn:t.regs.length=s.n:=by have:=A.row.rd.len;rw[bG_] at this;omega
 refine⟨fun _=>rfl,t.lasts,fun _=>A.cell rfl,?_⟩
 unfold bk_ at hR
 cases hl:t.lasts with
 | false=>rw[hl,if_pos rfl] at hR;exact am_ rfl (hR au_ w (aa_.refl _ _) (aH_ _ _ _ _))
 | true=>
 rw[hl,if_neg Bool.noConfusion] at hR
 refine aj_ rfl (jr_ h fun w1 g1=>?_)
 have A1:=A.go g1
 have hrk:(aB_ t).1<256:=by
  unfold aB_
  have:=ok.kind
  split
  ·decide
  ·split<;>exact this
 have hrh : -1≤(aB_ t).2∧(aB_ t).2<8:=by
  unfold aB_
  have:=ok.holder
  split
  ·decide
  ·split
   ·dsimp only;decide
   ·exact this
 have e1:((aB_ t).1:Int)=(((UInt8.ofNat (aB_ t).1).toNat:Nat):Int):=by rw[←bt_,wu8 o_ o_]
 refine⟨rfl,s,A1.cell rfl,?_⟩
 rw[e1,vn_ hrh.1 hrh.2,←hsn,bt_]
 have hl5:(Instr.buildSlice bn_ 5 #[(0,.int .u8 80),(1,.int .u8 82),(2,.int .u8 (((UInt8.ofNat (aB_ t).1).toNat:Nat):Int)),(3,.int .u8 (((hbX (aB_ t).2).toNat:Nat):Int)),(4,.int .u8 (((UInt8.ofNat t.regs.length).toNat:Nat):Int))]).run Tryz.prog w1=.ok (.slice (some ⟨w1.heap.size,0,none⟩) 5 5) (w1.alloc (.cells (bv [80,82,UInt8.ofNat (aB_ t).1,hbX (aB_ t).2,UInt8.ofNat t.regs.length]).toArray ae_)):=k_
 refine Row.start hl5 rfl (by show 5≤_;decide) fun p2 w2 r2=>?_
 generalize hH:([80,82,UInt8.ofNat (aB_ t).1,hbX (aB_ t).2,UInt8.ofNat t.regs.length]:L8)=H at *
 have hHl:H.length=5:=by rw[←hH];rfl
 have A2:=A1.go r2.grow
 refine⟨rfl,s,A2.cell rfl,?_⟩
 refine⟨fun p x y=>∃j:Nat,x=j∧j≤t.regs.length∧Row w1 y p (H++(t.regs.take j).flatMap fw_),fun _ x _=>s.n-x.toNat,⟨0,rfl,Nat.zero_le _,by simpa using r2⟩,?_⟩
 rintro p x y ⟨j,rfl,hj,ry⟩
 refine bl_ (fun hlt=>?_) (fun hge=>?_)
 ·have hjl:j<t.regs.length:=o_
  have hlen:(H++(t.regs.take j).flatMap fw_).length≤77:=by rw[List.length_append,jw_,List.length_take];omega
  refine gy_ ((A1.row.rd).grow ry.grow) hjl fun rb y1 g2 br _=>?_
  rintro y2 rfl
  have g3:=g2.trans (ak_ y1)
  have b3:Blk y1.drew rb (rgc t.regs[j]).toArray ax_:=(ak_ y1).heap br (fun q=>q)
  generalize y1.drew=y2 at *
  have rb1:=ok.regs t.regs[j] (List.getElem_mem hjl)
  refine⟨fun z=>Blk z rb (rgc t.regs[j]).toArray ax_,b3,(t.regs[j].2:Int),fun z q=>by rw[aq_,q.cell];rfl,?_⟩
  refine hZ_ (n:=9) aX_ bE_ rfl d_ d_ (base:=y2.heap.size) (Nat.le_refl _) fun y3 ho3 g4 hs4=>⟨g4.heap b3 (fun q=>q),?_⟩
  have hrep:∀k,(List.replicate k (Value.int .u8 0))=bv (List.replicate k 0):=fun k=>by simp[bv]
  rw[hrep] at ho3
  have p8:(256:Nat) ^ 8=18446744073709551616:=rfl
  refine mR_ (at_:=1) (n:=8) (v:=t.regs[j].2) (ho3.rd (by dsimp only;decide)) (by dsimp only;decide) d_ d_ d_ (by rw[p8];exact rb1.2.2) fun x4 y4 ho4 g5=>?_
  have b4:Blk y4 rb (rgc t.regs[j]).toArray ax_:=(g4.trans g5).heap b3 (fun q=>q)
  have hl9:lay (List.replicate 9 0) 1 8 t.regs[j].2=0::beN 8 t.regs[j].2:=rfl
  rw[hl9] at ho4
  have hn4:x4.n=9:=by have:=j4_ ho4;rw[List.length_cons,bg_] at this;exact this
  obtain⟨hA4,_⟩:=dC_ (ho4.rd o_) (i:=0) (by rw[List.length_cons];omega)
  refine⟨(t.regs[j].1:Int),by rw[aq_,b4.cell];rfl,⟨d_,o_,hA4⟩,?_⟩
  rw[bt_]
  refine en_ (i:=0) ho4 o_ rfl fun y5 ho5 k5 _=>?_
  have gy4:=(g3.trans g4).trans g5
  have r4:=ry.go gy4
  have r5:Row w1 y5 p (H++(t.regs.take j).flatMap fw_):=r4.keep k5 (fun b hb e=>by
   have:=(ho4.ge b e.symm).1
   have:=(r4.own.ge b hb).2
   have:=(ry.own.ge b hb).2
   have:=gy4.size
   have:=(g3.trans g4).size
   omega) (fun i hi e=>by
   have:=(ho4.ge i e.symm).1
   have:=ry.grow.size
   have:=(g3.trans g4).size
   omega)
  have ho5:Own y5 y3.heap.size ae_ 1 x4 (bv (fw_ t.regs[j])):=ho5
  refine r5.app (ho5.rd o_) (by rw[mZ_];omega) fun p6 y6 r6 k6=>?_
  rw[w64 o_ o_]
  refine⟨⟨j+1,o_,o_,?_⟩,by dsimp only;omega⟩
  rw[List.take_succ_eq_append_getElem hjl,List.flatMap_append,←List.append_assoc]
  simpa using r6
 ·have:j=t.regs.length:=o_
  subst this
  rw[List.take_length] at ry
  exact hR p y (g1.trans ry.grow) (ry.own.mono g1.size)
end
open Go CF
def iy_ (r:List (Nat×Nat)):Int:=match r.getLast? with|some x=>(x.1:Int)|none=>-1
def er_ (l:L8) (j:Nat):Nat:=(l.getD (5+9*j) 0).toNat
def g7_ (l:L8) (j:Nat):Nat:=num ((l.drop (6+9*j)).take 8)
def ldR (l:L8):Nat→Option (List (Nat×Nat))
 | 0=>some []
 | j+1=>match ldR l j with
  | none=>none
  | some r=>if (er_ l j:Int)≤iy_ r∨8≤er_ l j∨g7_ l j=0 then none else some (r++[(er_ l j,g7_ l j)])
def i8X (b:UInt8):Int:=if b.toNat<128 then(b.toNat:Int) else(b.toNat:Int)-256
def gz_ (r:List (Nat×Nat)) (x:Int):Option Nat:=(r.find? fun r=>decide ((r.1:Int)=x)).map (·.2)
def iz_ (k:Nat) (h:Int) (r:List (Nat×Nat)):Bool:=
 if k=0∨allK k=true then decide (h≠-1)||(allK k&&decide (r = [])) else !(gz_ r h).isSome || !ep_ k
def hM_ (l:L8):Option aT_:=
 if l = [] then some t0
 else if l.length<5∨l.getD 0 0≠80∨l.getD 1 0≠82∨l.length≠5+9*(l.getD 4 0).toNat then none
 else match ldR l (l.getD 4 0).toNat with
  | none=>none
  | some r=>if iz_ (l.getD 2 0).toNat (i8X (l.getD 3 0)) r=true then none else some ⟨r,0,(l.getD 2 0).toNat,i8X (l.getD 3 0),true⟩
theorem qp_ {l:L8} {j:Nat} (h:ldR l j=none):∀k,ldR l (j+k)=none
 | 0=>h
 | k+1=>by
  show(match ldR l (j+k) with
   | none=>none
   | some r=>_)=none
  rw[qp_ h k]
theorem xm_ (l:L8) (j:Nat):g7_ l j<18446744073709551616:=by
 have:=kI_ (l.drop (6+9*j)) 8
 have p8:(256:Nat) ^ 8=18446744073709551616:=rfl
 rw[p8] at this;exact this
theorem qq_ {l:L8}:∀{j:Nat} {r:List (Nat×Nat)},ldR l j=some r→f4_ r∧(∀x∈r,(x.1:Int)≤iy_ r)∧r.length=j
 | 0,r,h=>by
  injection h with h
  subst h
  exact⟨⟨List.Pairwise.nil,fun _ q=>by cases q⟩,fun _ q=>(by cases q),rfl⟩
 | j+1,r,h=>by
  unfold ldR at h
  cases hj:ldR l j with
  | none=>rw[hj] at h;cases h
  | some r0=>
   rw[hj] at h
   obtain⟨h1,h2,h3⟩:=qq_ hj
   dsimp only at h
   split at h
   ·cases h
   ·rename_i hq
    injection h with h
    subst h
    have hl:iy_ (r0++[(er_ l j,g7_ l j)])=(er_ l j:Int):=by unfold iy_;rw[List.getLast?_append];rfl
    refine⟨⟨?_,fun x hx=>?_⟩,fun x hx=>?_,by rw[List.length_append,h3];rfl⟩
    ·rw[List.pairwise_append]
     refine⟨h1.sorted,List.pairwise_singleton _ _,fun a ha b hb=>?_⟩
     rw[List.mem_singleton] at hb
     rw[hb]
     have:=h2 a ha
     show a.1<er_ l j
     omega
    ·rcases List.mem_append.1 hx with hx|hx
     ·exact h1.regs x hx
     ·rw[List.mem_singleton] at hx
      rw[hx]
      exact⟨by show er_ l j<8;omega,by show 0<g7_ l j;omega,xm_ l j⟩
    ·rw[hl]
     rcases List.mem_append.1 hx with hx|hx
     ·have:=h2 x hx;omega
     ·rw[List.mem_singleton] at hx;rw[hx];exact Int.le_refl _
theorem vo_ {r:List (Nat×Nat)} {x:Int} (h:∀y∈r,y.1<8) (hs:(gz_ r x).isSome=true):0≤x∧x<8:=by
 unfold gz_ at hs
 cases hf:r.find? fun r=>decide ((r.1:Int)=x) with
 | none=>rw[hf] at hs;cases hs
 | some y=>
  have h1:=List.find?_some hf
  have h2:=h y (List.mem_of_find?_eq_some hf)
  rw[decide_eq_true_eq] at h1
  omega
theorem vp_ {l:L8} {t:aT_} (h:hM_ l=some t):cv_ t:=by
 unfold hM_ at h
 split at h
 ·injection h with h;rw[←h];exact tS_
 split at h
 ·cases h
 split at h
 ·cases h
 ·rename_i r hr
  split at h
  ·cases h
  ·rename_i hb
   injection h with h
   subst h
   obtain⟨h1,_,_⟩:=qq_ hr
   have hk:=(l.getD 2 0).toNat_lt
   refine⟨h1.few,h1.sorted,h1.regs,by show 0<4294967296;decide,by show(l.getD 2 0).toNat<256;omega,?_⟩
   show -1≤i8X (l.getD 3 0)∧i8X (l.getD 3 0)<8
   unfold iz_ at hb
   split at hb
   ·rw[Bool.or_eq_true,decide_eq_true_eq] at hb
    have:i8X (l.getD 3 0) = -1:=Classical.byContradiction fun e=>hb (.inl e)
    rw[this];decide
   ·have:(gz_ r (i8X (l.getD 3 0))).isSome=true:=by
     cases hq:(gz_ r (i8X (l.getD 3 0))).isSome with
     | true=>rfl
     | false=>rw[hq] at hb;exact absurd rfl hb
    have:=vo_ (fun y hy=>(h1.regs y hy).1) this
    omega
section
variable {w u v:World} {N:Nat→Prop} {tb n:Nat} {t:aT_}
theorem t6_ {x:Int} {s:Sl} {R:Int→Bool→W_} (h1:Blk w tb (bM_ s t) bQ_) (h2:Rd w 2 s (rgv t.regs)) (hfew:t.regs.length≤1000) (hR:∀w',ab_ w w'→match gz_ t.regs x with|some k=>R (k:Int) true w'|none=>R 0 false w'):cF_ (some ⟨tb,0,none⟩) x w R:=by
 refine eQ_.calls _ _ _ _ ?_
 have hsn:t.regs.length=s.n:=by have:=h2.len;rw[bG_] at this;omega
 refine⟨rfl,s,cp_ h1 rfl,?_⟩
 refine⟨fun y v=>∃j:Nat,y=j∧j≤t.regs.length∧ab_ w v∧(t.regs.find? fun r=>decide ((r.1:Int)=x))=((t.regs.drop j).find? fun r=>decide ((r.1:Int)=x)),fun y _=>s.n-y.toNat,⟨0,rfl,Nat.zero_le _,aa_.refl _ _,rfl⟩,?_⟩
 rintro y v ⟨j,rfl,hj,hg,he⟩
 refine bl_ (fun hlt=>?_) (fun hge=>?_)
 ·have hjl:j<t.regs.length:=o_
  rw[List.drop_eq_getElem_cons hjl] at he
  refine gy_ (h2.grow hg) hjl fun rb v2 hg2 hb2 _=>?_
  refine⟨(t.regs[j].1:Int),by rw[aq_,hb2.cell];rfl,?_⟩
  refine as_ (fun e=>?_) (fun e=>?_)
  ·refine⟨(t.regs[j].2:Int),by rw[aq_,hb2.cell];rfl,?_⟩
   have hR:=hR v2 (hg.trans hg2)
   have e2:decide ((t.regs[j].1:Int)=x)=true:=decide_eq_true e
   have:gz_ t.regs x=some t.regs[j].2:=by unfold gz_;rw[he,List.find?_cons,e2];rfl
   rw[this] at hR;exact hR
  ·have e2:decide ((t.regs[j].1:Int)=x)=false:=decide_eq_false e
   rw[List.find?_cons,e2] at he
   rw[w64 o_ o_]
   exact⟨⟨j+1,o_,o_,hg.trans hg2,he⟩,by dsimp only;omega⟩
 ·have:j=t.regs.length:=o_
  subst this
  rw[List.drop_length] at he
  have hR:=hR v hg
  have:gz_ t.regs x=none:=by unfold gz_;rw[he];rfl
  rw[this] at hR;exact hR
structure LdT (w v:World) (tb:Nat) (t:aT_):Prop where
 keep:ab_ w v
 new:w.heap.size≤tb
 blk:∃s,Blk v tb (bM_ s t) bQ_∧Own v w.heap.size ax_ 2 s (rgv t.regs)
theorem LdT.go (h:LdT w v tb t) (g:ab_ v u):LdT w u tb t:=by
 obtain⟨s,h1,h2⟩:=h.blk
 exact⟨h.keep.trans g,h.new,s,g.heap h1 (fun q=>q),h2.grow g⟩
theorem LdT.put1 {t':aT_} {o:Nat} {x:Value} {K:W_} (h:LdT w v tb t) (ho:o<5) (hx:x.oneCell'=true) (he:∀s,(bM_ s t).setIfInBounds o x=bM_ s t') (hr:t'.regs=t.regs) (hK:∀z,LdT w z tb t'→aa_ (fun k=>k=tb) v z→K z):Put ((gA (some (⟨tb,0,none⟩:Addr))).add o) x v K:=by
 obtain⟨s,h1,h2⟩:=h.blk
 rw[gA,aq_,Nat.zero_add]
 have hn:=h.new
 refine a0_ h1 (by simp[bM_];omega) hx fun z hz k _=>hK z ⟨h.keep.keep k fun i hi q=>o_,h.new,s,by rw[←he s];exact hz,?_⟩ k
 rw[hr]
 exact h2.keep k fun b hb e=>be_ h2 h1 d_ (by rw[hb,e])
theorem LdT.cell (h:LdT w v tb t) {o:Nat} {x:Value} (e:∀s,(bM_ s t)[o]?=some x):v.cell? ((gA (some (⟨tb,0,none⟩:Addr))).add o)=some x:=by
 obtain⟨s,h1,_⟩:=h.blk
 exact cp_ h1 (e s)
theorem wB_ (b:UInt8):IntKind.wrap .i64 (IntKind.wrap .i8 (b.toNat:Int))=i8X b:=by
 have hb:=b.toNat_lt
 have key:∀k:Fin 256,IntKind.wrap .i8 ((k.val:Nat):Int)=(if k.val<128 then((k.val:Nat):Int) else((k.val:Nat):Int)-256):=by decide +kernel
 have e:IntKind.wrap .i8 (b.toNat:Int)=i8X b:=key ⟨b.toNat,hb⟩
 rw[e]
 unfold i8X
 split<;>exact w64 o_ o_
end
open Go CF
section
variable {w u v:World} {tb n:Nat} {t:aT_}
theorem rb_ {p:Sl} {l:L8} {R:O_→Int→W_} (hp:Rd w 1 p (bv l)) (hpn:p.n≤1000000)
  (hR:match hM_ l with
   | some t=>∀tb v,LdT w v tb t→R (some ⟨tb,0,none⟩) 0 v
   | none=>∀v,ab_ w v→R none 3 v):mF_ p w R:=by
 refine kx_.calls _ _ _ (jY_.calls _ _ (ag_ fun tb w1 htb hb1 hg1 hsz1=>?_))
 have hl:=cV_ hp
 have L1:LdT w w1 tb t0:=⟨hg1,o_,au_,hb1,aH_ _ _ _ _⟩
 have p1:=hp.grow hg1
 unfold hM_ at hR
 by_cases h0:l = []
 ·rw[if_pos h0] at hR
  exact am_ (by rw[beq_iff_eq,←hl,h0];rfl) (hR tb w1 L1)
 rw[if_neg h0] at hR
 have l0:0<l.length:=List.length_pos_iff.2 h0
 refine aj_ (by rw[beq_eq_false_iff_ne];omega) ?_
 have at1:∀{i:Nat},i<l.length→p.A.isSome=true∧w1.cell? ((gA p.A).add (i*1))=some (.int .u8 ((l.getD i 0).toNat:Int)):=fun hi=>dC_ p1 hi
 have ne:∀{b:UInt8} {m:Nat},m<256→((((b.toNat:Nat):Int) != (m:Int)))=decide (b≠UInt8.ofNat m):=fun {b m} hm=>by
  rw[bne,sP_ hm];simp
 have g5:∀{q:Bool},((!(decide ((p.n:Int)<5)||q))=true)→5≤l.length:=fun {q} e=>by
  rw[Bool.not_eq_true',Bool.or_eq_false_iff,decide_eq_false_iff_not] at e
  omega
 have g5':((!(decide ((p.n:Int)<5)))=true)→5≤l.length:=fun e=>by
  rw[Bool.not_eq_true',decide_eq_false_iff_not] at e
  omega
 have g5'':∀{q q2:Bool},((!((decide ((p.n:Int)<5)||q)||q2))=true)→5≤l.length:=fun {q q2} e=>by
  rw[Bool.not_eq_true',Bool.or_eq_false_iff,Bool.or_eq_false_iff,decide_eq_false_iff_not] at e
  omega
 refine⟨fun e=>⟨d_,o_,(at1 l0).1⟩,((l.getD 0 0).toNat:Int),fun e=>(at1 l0).2,fun e=>⟨d_,by have:=g5 e;omega,(at1 l0).1⟩,((l.getD 1 0).toNat:Int),fun e=>(at1 (by have:=g5 e;omega)).2,fun e=>⟨d_,by have:=g5'' e;omega,(at1 l0).1⟩,((l.getD 4 0).toNat:Int),fun e=>(at1 (by have:=g5'' e;omega)).2,?_⟩
 have h4:=(l.getD 4 0).toNat_lt
 have e9:IntKind.wrap .i64 (5+IntKind.wrap .i64 (9*IntKind.wrap .i64 ((l.getD 4 0).toNat:Int)))=((5+9*(l.getD 4 0).toNat:Nat):Int):=by
  rw[w64 (n:=((l.getD 4 0).toNat:Int)) o_ o_,w64 (n:=9*((l.getD 4 0).toNat:Int)) o_ o_,w64 o_ o_];omega
 have n80:(((l.getD 0 0).toNat:Int) != 80)=decide (l.getD 0 0≠UInt8.ofNat 80):=ne (m:=80) d_
 have n82:(((l.getD 1 0).toNat:Int) != 82)=decide (l.getD 1 0≠UInt8.ofNat 82):=ne (m:=82) d_
 rw[e9,n80,n82]
 have ec:(((decide ((p.n:Int)<5)||decide (l.getD 0 0≠UInt8.ofNat 80))||decide (l.getD 1 0≠UInt8.ofNat 82))||((p.n:Int) != ((5+9*(l.getD 4 0).toNat:Nat):Int)))=decide (l.length<5∨l.getD 0 0≠80∨l.getD 1 0≠82∨l.length≠5+9*(l.getD 4 0).toNat):=by
  have e1:decide ((p.n:Int)<5)=decide (l.length<5):=by rw[decide_eq_decide];omega
  have e2:((p.n:Int) != ((5+9*(l.getD 4 0).toNat:Nat):Int))=decide (l.length≠5+9*(l.getD 4 0).toNat):=by
   rw[Bool.eq_iff_iff,bne_iff_ne,decide_eq_true_eq]
   exact⟨fun q e=>q o_,fun q e=>q o_⟩
  rw[e1,e2,Bool.eq_iff_iff,decide_eq_true_eq]
  simp only[Bool.or_eq_true,decide_eq_true_eq]
  exact⟨fun q=>q.elim (fun q=>q.elim (fun q=>q.elim .inl fun q=>.inr (.inl q)) fun q=>.inr (.inr (.inl q))) fun q=>.inr (.inr (.inr q)),fun q=>q.elim (fun q=>.inl (.inl (.inl q))) fun q=>q.elim (fun q=>.inl (.inl (.inr q))) fun q=>q.elim (fun q=>.inl (.inr q)) .inr⟩
 rw[ec]
 by_cases hc:l.length<5∨l.getD 0 0≠80∨l.getD 1 0≠82∨l.length≠5+9*(l.getD 4 0).toNat
 ·rw[if_pos hc] at hR
  exact am_ (decide_eq_true hc) (hR w1 hg1)
 rw[if_neg hc] at hR
 have hlen:l.length=5+9*(l.getD 4 0).toNat:=Classical.byContradiction fun e=>hc (.inr (.inr (.inr e)))
 generalize hM:(l.getD 4 0).toNat=M at *
 refine aj_ (decide_eq_false hc) ⟨⟨d_,o_,(at1 l0).1⟩,((l.getD 2 0).toNat:Int),(at1 o_).2,rfl,?_⟩
 refine L1.put1 (t':={t0 with kind:=(l.getD 2 0).toNat}) (o:=2) d_ rfl (fun s=>rfl) rfl fun w2 L2 k2=>⟨rfl,L2.put1 (t':={t0 with kind:=(l.getD 2 0).toNat,lasts:=true}) (o:=4) d_ rfl (fun s=>rfl) rfl fun w3 L3 k3=>?_⟩
 generalize hK:(l.getD 2 0).toNat=K at *
 let TT (r:List (Nat×Nat)):aT_:=⟨r,0,K,-1,true⟩
 refine⟨fun last at_ y=>∃(j:Nat) (r:List (Nat×Nat)),at_=((5+9*j:Nat):Int)∧j≤M∧ldR l j=some r∧last=iy_ r∧LdT w y tb (TT r),fun _ at_ _=>l.length-at_.toNat,⟨0,[],rfl,Nat.zero_le _,rfl,rfl,L3⟩,?_⟩
 rintro last at_ y ⟨j,r,rfl,hj,hr,rfl,Ly⟩
 obtain⟨rok,rle,rlen⟩:=qq_ hr
 have rfew:=rok.few
 have py:=hp.grow Ly.keep
 have aty:∀{z:World} {i:Nat},ab_ w z→i<l.length→p.A.isSome=true∧z.cell? ((gA p.A).add (i*1))=some (.int .u8 ((l.getD i 0).toNat:Int)):=fun g hi=>dC_ (hp.grow g) hi
 by_cases hjM:j<M
 ·refine am_ (by rw[decide_eq_true_eq];omega) ⟨⟨o_,o_,(aty Ly.keep l0).1⟩,(er_ l j:Int),by rw[Int.toNat_natCast];exact(aty Ly.keep o_).2,?_⟩
  rw[w64 (n:=(((5+9*j:Nat):Int)+1)) o_ o_,show(((5+9*j:Nat):Int)+1)=((6+9*j:Nat):Int) by omega]
  refine gu_ (at_:=6+9*j) (n:=8) py o_ d_ d_ o_ ?_
  have hn8:er_ l j<256:=(l.getD (5+9*j) 0).toNat_lt
  have hk8:num ((l.drop (6+9*j)).take 8)=g7_ l j:=rfl
  rw[hk8,w64 (n:=(er_ l j:Int)) o_ o_]
  have hstep:ldR l (j+1)=(if (er_ l j:Int)≤iy_ r∨8≤er_ l j∨g7_ l j=0 then none else some (r++[(er_ l j,g7_ l j)])):=by
   show(match ldR l j with
    | none=>none
    | some r=>_)=_
   rw[hr]
  by_cases hbad:(er_ l j:Int)≤iy_ r∨8≤er_ l j∨g7_ l j=0
  ·rw[if_pos hbad] at hstep
   have:=qp_ hstep (M-(j+1))
   rw[show j+1+(M-(j+1))=M by omega] at this
   rw[this] at hR
   refine am_ ?_ (hR y Ly.keep)
   simp only[Bool.or_eq_true,decide_eq_true_eq,beq_iff_eq]
   rcases hbad with q|q|q
   ·exact .inl (.inl q)
   ·exact .inl (.inr o_)
   ·exact .inr o_
  ·rw[if_neg hbad] at hstep
   refine aj_ (by simp only[Bool.or_eq_false_iff,decide_eq_false_iff_not,beq_eq_false_iff_ne];exact⟨⟨fun q=>hbad (.inl q),fun q=>hbad (.inr (.inl o_))⟩,fun q=>hbad (.inr (.inr o_))⟩) ?_
   obtain⟨s,hbs,hos⟩:=Ly.blk
   refine⟨rfl,s,cp_ hbs rfl,?_⟩
   refine l2_ (B:=w.heap.size) (a:=er_ l j) (c:=g7_ l j) hos Ly.keep.size (by show r.length≤1000;omega) fun s' y2 k2' o2 hk2=>⟨rfl,?_⟩
   have hb2:Blk y2 tb (bM_ s (TT r)) bQ_:=hk2 _ _ _ hbs d_
   have gy2:ab_ w y2:=Ly.keep.keep k2' fun i hi q=>o_
   rw[gA,aq_,Nat.zero_add]
   refine a0_ hb2 (by simp[bM_]) rfl fun y3 hb3 k3 _=>?_
   have hn:=Ly.new
   have o3:Own y3 w.heap.size ax_ 2 s' (rgv (r++[(er_ l j,g7_ l j)])):=o2.keep k3 fun b hb e=>be_ o2 hb2 d_ (by rw[hb,e])
   rw[w64 o_ o_,show(((5+9*j:Nat):Int)+9)=((5+9*(j+1):Nat):Int) by omega]
   refine⟨⟨j+1,r++[(er_ l j,g7_ l j)],rfl,o_,hstep,?_,⟨gy2.keep k3 fun i hi q=>o_,hn,s',hb3,o3⟩⟩,by dsimp only;omega⟩
   unfold iy_;rw[List.getLast?_append];rfl
 ·have ej:j=M:=o_
  subst ej
  rw[hr] at hR
  dsimp only at hR
  refine aj_ (by rw[decide_eq_false_iff_not];omega) ⟨⟨d_,o_,(aty Ly.keep l0).1⟩,((l.getD 3 0).toNat:Int),(aty Ly.keep o_).2,rfl,?_⟩
  rw[wB_]
  generalize hH:i8X (l.getD 3 0)=H at *
  refine Ly.put1 (t':=⟨r,0,K,H,true⟩) (o:=3) d_ rfl (fun s=>rfl) rfl fun y2 L2' k2'=>⟨rfl,(K:Int),L2'.cell (fun s=>rfl),fun _=>rfl,(K:Int),fun _=>L2'.cell (fun s=>rfl),?_⟩
  have eK:((K:Int)==0)=decide (K=0):=by rw[Bool.eq_iff_iff,beq_iff_eq,decide_eq_true_eq];omega
  rw[eK]
  refine cm_ (fun(b:Bool) z=>z=y2∧((!decide (K=0))=true→b=allK K)) ?_ (fun J=>⟨fun _=>dD_ (J _ _ ⟨rfl,fun _=>rfl⟩),fun q=>J _ _ ⟨rfl,fun e=>by rw[q] at e;cases e⟩⟩)
  rintro b z ⟨rfl,hb⟩
  have fin:∀{z':World} {q:Bool},LdT w z' tb ⟨r,0,K,H,true⟩→q=iz_ K H r→Br q (R none 3 z') (R (some ⟨tb,0,none⟩) 0 z'):=fun {z' q} L e=>by
   rw[e]
   cases hq:iz_ K H r with
   | true=>rw[hq,if_pos rfl] at hR;exact am_ rfl (hR z' L.keep)
   | false=>rw[hq,if_neg Bool.noConfusion] at hR;exact aj_ rfl (hR tb z' L)
  unfold iz_ at fin
  by_cases hk:K=0∨allK K=true
  ·refine am_ ?_ ⟨rfl,H,L2'.cell (fun s=>rfl),fun _=>rfl,(K:Int),fun _=>L2'.cell (fun s=>rfl),?_⟩
   ·by_cases q:K=0
    ·rw[decide_eq_true q];rfl
    ·rw[hb (by rw[decide_eq_false q];rfl)]
     rcases hk with r'|r'
     ·exact absurd r' q
     ·rw[r',Bool.or_true]
   ·have eH:(H != (-1))=decide (H≠-1):=by rw[Bool.eq_iff_iff,bne_iff_ne,decide_eq_true_eq]
    rw[eH]
    refine cm_ (fun(b1:Bool) z'=>z'=z∧((!decide (H≠-1))=true→b1=allK K)) ?_ (fun J=>⟨fun _=>dD_ (J _ _ ⟨rfl,fun _=>rfl⟩),fun q=>J _ _ ⟨rfl,fun e=>by rw[q] at e;cases e⟩⟩)
    rintro b1 z' ⟨rfl,hb1'⟩
    obtain⟨s,hbs,hos⟩:=L2'.blk
    have hsn:s.n=r.length:=by
     have:=hos.len
     rw[bG_] at this
     have e:(aT_.mk r 0 K H true).regs.length=r.length:=rfl
     omega
    refine⟨fun _=>rfl,s,fun _=>cp_ hbs rfl,fin L2' ?_⟩
    rw[if_pos hk]
    cases hq:decide (H≠-1) with
    | true=>rfl
    | false=>
     rw[hb1' (by rw[hq];rfl)]
     show(allK K&&((s.n:Int)==0))=_
     rw[Bool.false_or]
     congr 1
     rw[Bool.eq_iff_iff,beq_iff_eq,decide_eq_true_eq,hsn]
     exact⟨fun e=>List.eq_nil_of_length_eq_zero o_,fun e=>by rw[e];rfl⟩
  ·have hk0:K≠0:=fun e=>hk (.inl e)
   have hka:allK K=false:=by cases hq:allK K with|false=>rfl|true=>exact absurd (.inr hq) hk
   refine aj_ (by rw[decide_eq_false hk0,hb (by rw[decide_eq_false hk0];rfl),hka];rfl) ⟨rfl,H,L2'.cell (fun s=>rfl),?_⟩
   obtain⟨s,hbs,hos⟩:=L2'.blk
   refine t6_ hbs (hos.rd (by have:=hos.len;rw[bG_] at this;have e:(aT_.mk r 0 K H true).regs.length=r.length:=rfl;omega)) (by show r.length≤1000;omega) fun z2 gz2=>?_
   have L3':=L2'.go gz2
   have eK2:iz_ K H r=(!(gz_ r H).isSome || !ep_ K):=by unfold iz_;rw[if_neg hk]
   have tail:∀{bb:Bool},bb=(gz_ r H).isSome→((!(!bb))=true→(some (⟨tb,0,none⟩:Addr)).isSome=true)∧∃n14:Int,((!(!bb))=true→z2.cell? ((gA (some (⟨tb,0,none⟩:Addr))).add 2)=some (.int .u8 n14))∧bB_ (fun(b3:Bool) (w012:World)=>Br ((!bb)||(!b3)) (R none 3 w012) (R (some ⟨tb,0,none⟩) 0 w012)) fun J_1=>((!(!bb))=true→gF_ n14 z2 J_1)∧((!(!bb))=false→J_1 (Kd.dflt .b) z2):=by
    rintro bb rfl
    refine⟨fun _=>rfl,(K:Int),fun _=>L3'.cell (fun s=>rfl),?_⟩
    refine cm_ (fun(b3:Bool) z'=>z'=z2∧((!(!(gz_ r H).isSome))=true→b3=ep_ K)) ?_ (fun J=>⟨fun _=>iR_ (J _ _ ⟨rfl,fun _=>rfl⟩),fun q=>J _ _ ⟨rfl,fun e=>by rw[q] at e;cases e⟩⟩)
    rintro b3 z' ⟨rfl,hb3⟩
    refine fin L3' ?_
    rw[if_neg hk]
    cases hq:(gz_ r H).isSome with
    | false=>rfl
    | true=>rw[hb3 (by rw[hq];rfl)]
   cases hq:gz_ r H with
   | some k=>exact tail (bb:=true) (by rw[hq];rfl)
   | none=>exact tail (bb:=false) (by rw[hq];rfl)
end
open Go CF
theorem vq_ {st:Wst} {file:ByteArray} {n:Nat} (h:Good (gv_ st file)):o5_ st file (hf_ st file 0 n):=by
 refine⟨h,fun j hj=>?_⟩
 have hj:j<n:=by unfold hf_ at hj;rwa [List.length_map,List.length_range] at hj
 unfold hf_
 rw[List.getElem?_map,List.getElem?_range hj,Option.map_some,Nat.zero_add]
 rfl
theorem vr_ (st:Wst) (file:ByteArray) (lba n:Nat):(hf_ st file lba n).length=n:=by unfold hf_;rw[List.length_map,List.length_range]
theorem oK_ {a b:Wst} {f:ByteArray} (h:a.seen f=b.seen f):gv_ a f=gv_ b f:=by unfold gv_;rw[h]
theorem iZ_ {st:Wst} {f g:ByteArray} {lba:Nat} {rs:Nat→L8} (h:f≠g):∀k,(nZ_ st g lba rs k).seen f=st.seen f
 | 0=>rfl
 | k+1=>by
  show bF_ (nZ_ st g lba rs k).seen g _ _ f=st.seen f
  unfold bF_ mK_
  rw[if_neg h]
  exact iZ_ h k
theorem lE_ {F:Int→Bool} {cache:Bool} {st:Wst} {f g:ByteArray} {lba n:Nat} {rs:Nat→L8} {fua:Bool} (h:f≠g):(p4_ F g cache st lba n rs fua).2.seen f=st.seen f:=by
 unfold p4_
 split
 ·exact iZ_ h _
 ·show(pU_ _ (nZ_ st g lba rs n)).seen f=_
  rw[qV_];exact iZ_ h _
theorem mq_ {lba:Nat} {x:Option Nat×Wst}:(lv_ lba x).2=x.2:=by unfold lv_;split<;>rfl
theorem oL_ {F:Int→Bool} {cache:Bool} {st:Wst} {f g:ByteArray} {l:L8} (h:f≠g):∀k,(p5_ F g cache st l k).2.seen f=st.seen f
 | 0=>rfl
 | k+1=>by
  have ih:=oL_ (F:=F) (cache:=cache) (st:=st) (l:=l) h k
  unfold p5_
  cases hq:p5_ F g cache st l k with
  | mk o x=>
   rw[hq] at ih
   cases o with
   | some s=>exact ih
   | none=>
    dsimp only
    have:=lE_ (F:=F) (cache:=cache) (st:=x) (lba:=n2_ l k) (n:=p1_ l k) (rs:=fun _=>[0]) (fua:=false) h
    unfold u2_
    cases hx:p4_ F g cache x (n2_ l k) (p1_ l k) (fun _=>[0]) false with
    | mk o2 y=>
     rw[hx] at this
     cases o2<;>exact this.trans ih
theorem vs_ {F:Int→Bool} {kind n:Nat} {cache:Bool} {st:Wst} {f g:ByteArray} {c:Cm} {l:L8} (h:f≠g):(doX F kind n cache g st c l).2.seen f=st.seen f:=by
 have wr:∀{L:List Bk} {fua:Bool} {s:Wst},s.seen=st.seen→(f2_ F g cache s c.lba L fua).2.seen f=st.seen f:=fun {L fua s} e=>by
  unfold f2_
  rw[mq_,lE_ h,e]
 unfold doX
 split
 ·rfl
 split
 ·rfl
 split
 ·split<;>rfl
 split
 ·split
  ·rfl
  ·exact wr rfl
 split
 ·unfold n4_
  split
  ·rfl
  ·split
   ·rfl
   ·split
    ·split<;>rfl
    ·rfl
 split
 ·split<;>rfl
 split
 ·unfold sx_
  split
  ·rfl
  ·split
   ·rw[mq_];exact lE_ h
   ·exact wr rfl
 split
 ·unfold p6_
  split
  ·rfl
  split
  ·rfl
  split
  ·rfl
  ·have:=oL_ (F:=F) (cache:=cache) (st:=st) (l:=l) h ((l.length-8)/16)
   split<;>(rename_i hq;rw[hq] at this;exact this)
 split
 ·unfold mU_
  split
  ·rfl
  split
  ·rfl
  split
  ·rfl
  ·split
   ·rfl
   ·exact wr rfl
 split
 ·rfl
 ·rfl
open Go CF
structure UOk (st:Wst) (s:USt):Prop where
 n:1≤s.n∧s.n≤4096
 form:dE_ s.inf=true
 name:∃b:ByteArray,1≤b.size∧b.size≤28∧s.file=b++c1_∧s.keepf=b++fj_
 good:Good (gv_ st s.file)
 once:s.on=1∨(s.on=0∧s.lock=0)
structure SOk (st:Wst) (us:List (UA×USt)) (m:Nat):Prop where
 wok:Wok st
 few:st.ops≤m∧st.waits.length≤m
 units:∀x∈us,UOk st x.2
theorem UOk.sizes {st:Wst} {s:USt} (h:UOk st s):(1≤s.file.size∧s.file.size≤32)∧1≤s.keepf.size∧s.keepf.size≤30:=by
 obtain⟨b,h1,h2,h3,h4⟩:=h.name
 have e1:(b++c1_).size=b.size+2:=iV_ b c1_
 have e2:(b++fj_).size=b.size+2:=iV_ b fj_
 rw[h3,h4]
 omega
theorem UOk.prot {st:Wst} {s:USt} (h:UOk st s):s.inf.prot≤3:=(iw_ h.form).2.2.2.2.2
theorem UOk.same {st st':Wst} {s s':USt} (h:UOk st s) (hg:Good (gv_ st' s.file)) (e1:s'.inf=s.inf) (e2:s'.file=s.file) (e3:s'.keepf=s.keepf) (e4:s'.n=s.n) (e5:s'.on=s.on) (e6:s'.lock=s.lock):UOk st' s':=
 ⟨by rw[e4];exact h.n,by rw[e1];exact h.form,by rw[e2,e3];exact h.name,by rw[e2];exact hg,by rw[e5,e6];exact h.once⟩
section
variable {w u v:World} {S D D':Nat→Prop} {pw i m:Nat} {a:UA} {s:USt} {st st':Wst} {F F':Int→Bool} {ℓ ℓ':Nat→Option Nat} {us:List (UA×USt)}
open Classical in
theorem Sys.worldN (h:Sys w ℓ pw st F us) {D D':Nat→Prop} (hD:∀k,D k→ℓ k=some 0) (k:aa_ D w u) (hw:ba_ u pw D' st' F') (hn:∀k,D' k→D k∨w.heap.size≤k):∃ℓ',Mv w u ℓ ℓ'∧Sys u ℓ' pw st' F' us∧∀b,ℓ' b≠none→ℓ b≠none∨D' b:=by
 have hsz:=k.size
 refine⟨fun b=>if w.heap.size≤b∧D' b then some 0 else ℓ b,⟨k.mono fun b hb q=>by rw[hD b q];exact Option.some_ne_none _,fun b hb=>if_neg o_⟩,⟨⟨D',hw,fun b hb=>?_⟩,fun j hj=>⟨(h.U j hj).1.step k (a6_.sub fun b _ q=>by rw[hD b q];exact Option.some_ne_none _) (fun b hb q=>?_) (fun b hb=>?_),fun b hb=>?_⟩,fun b hb=>?_⟩,fun b hb=>?_⟩
 ·rcases hn b hb with q|q
  ·by_cases r:w.heap.size≤b∧D' b
   ·exact if_pos r
   ·rw[if_neg r];exact hD b q
  ·exact if_pos ⟨q,hb⟩
 ·have:=(h.U j hj).2 b hb
  rw[hD b q] at this
  injection this with this
  omega
 ·by_cases r:w.heap.size≤b
  ·exact .inr r
  ·rw[if_neg o_] at hb;exact .inl hb
 ·have:=(h.U j hj).1.lt hb
  rw[if_neg o_]
  exact(h.U j hj).2 b hb
 ·by_cases r:w.heap.size≤b∧D' b
  ·exact hw.lt r.2
  ·rw[if_neg r] at hb
   have:=h.lt b hb
   omega
 ·by_cases r:w.heap.size≤b∧D' b
  ·exact .inr r.2
  ·dsimp only at hb;rw[if_neg r] at hb;exact .inl hb
def Dat (w u:World) (ℓ':Nat→Option Nat) (d:Sl) (l:L8):Prop:=Own u w.heap.size ae_ 1 d (bv l)∧∀b,d.blk=some b→ℓ' b=none
theorem Dat.nil (w u:World) (ℓ':Nat→Option Nat):Dat w u ℓ' au_ []:=⟨aH_ _ _ _ _,fun b hb=>by cases hb⟩
theorem Sys.dev (H:Sys w ℓ pw st F us) (K:SOk st us m) (hi:i<us.length) (he:us[i]=(a,s)):∃D,(∀k,D k→ℓ k=some 0)∧Dvq w a.dv a.ps pw s.file s.inf.prot s.n s.cache D st (hf_ st s.file 0 s.n) m F:=by
 obtain⟨D,hW,hD⟩:=H.W
 obtain⟨hU,hown⟩:=H.at hi he
 have O:UOk st s:=by have:=K.units us[i] (List.getElem_mem hi);rw[he] at this;exact this
 obtain⟨z1,z2,z3,z4,z5,z6,z7⟩:=da_ a
 have nD:∀{b},a.set b→¬D b:=fun hb q=>by
  have h1:=hown _ hb
  rw[hD _ q] at h1
  injection h1 with h1
  omega
 exact⟨D,hD,hU.dev,hU.store,hW,nD z3,nD z2,K.wok,vq_ O.good,vr_ _ _ _ _,O.n,O.sizes.1,O.prot,K.few⟩
theorem xn_ {b:ByteArray}:(ls (b++c1_)).getLast?=some 100:=by
 rw[jp_,List.getLast?_append]
 have:(ls c1_).getLast?=some 100:=d_
 rw[this];rfl
theorem rc_ {b c:ByteArray} {i:Nat} (hi:i<2):nmS b i≠c++c1_:=fun e=>by
 have h:=congrArg (fun x=>(ls x).getLast?) e
 rw[xn_] at h
 have:nmS b i=(b++lP_)++str [UInt8.ofNat (48+i)]:=rfl
 rw[this,jp_,List.getLast?_append,pH_] at h
 have h:some (UInt8.ofNat (48+i))=some 100:=h
 injection h with h
 have h2:=congrArg UInt8.toNat h
 rw[UInt8.toNat_ofNat',Nat.mod_eq_of_lt o_] at h2
 have:(100:UInt8).toNat=100:=rfl
 omega
theorem wC_ {c:Cm} {p:Sl} {l:L8} {R:A_→W_} (hN:u5_ c.kind) (H:Sys w ℓ pw st F us) (K:SOk st us m) (hm:m≤400000000) (hi:i<us.length) (he:us[i]=(a,s)) (hp:RdX w ℓ 1 p (bv l)) (hb:p.n≤140737488351232) (hlb:c.lba<18446744073709551616) (hbl:c.blocks<18446744073709551616)
  (hR:∀u ℓ' d,Mv w u ℓ ℓ'→Sys u ℓ' pw (doX F s.inf.prot s.n s.cache s.file st c l).2 F us→SOk (doX F s.inf.prot s.n s.cache s.file st c l).2 us (m+9000)→Dat w u ℓ' d (doX F s.inf.prot s.n s.cache s.file st c l).1.d→R (rsv (doX F s.inf.prot s.n s.cache s.file st c l).1.st (doX F s.inf.prot s.n s.cache s.file st c l).1.sn d).toArray u) :
  hr_ (some ⟨a.dv,0,none⟩) (cmv c).toArray p w R:=by
 obtain⟨D,hD,hv⟩:=H.dev K hi he
 have hpk:∀v,aa_ D w v→Rd v 1 p (bv l):=fun v k=>hp.rd.keepN k fun hne b hb q=>by
  have:=(hp.out hne b hb).2
  rw[hD _ q] at this
  cases this
 refine tP_ hN hv hm hp.rd hb hpk hlb hbl fun u D' bs' d hk hv' hD' ho=>?_
 obtain⟨ℓ',mv,Hs,hl⟩:=H.worldN hD hk hv'.isW hD'
 refine hR u ℓ' d mv Hs ⟨hv'.ok,hv'.few,fun x hx=>?_⟩ ⟨ho,fun b hb=>?_⟩
 ·have ok:=K.units x hx
  refine ok.same ?_ rfl rfl rfl rfl rfl rfl
  by_cases e:x.2.file=s.file
  ·rw[e];exact hv'.tells.1
  ·rw[oK_ (vs_ e)];exact ok.good
 ·cases hq:ℓ' b with
  | none=>rfl
  | some y=>
   exfalso
   rcases hl b (by rw[hq];exact Option.some_ne_none _) with r|r
   ·have:=H.lt b r
    have:=(ho.ge b hb).1
    omega
   ·obtain⟨cur,hc⟩:=a4_ ho hb
    obtain⟨pl,_,mb,md,ws,cs,hd⟩:=hv'.isW
    exact hd.nb b cur hc r
end
open Go CF
structure i0_ where
 x:RsX
 s:USt
 w:Wst
abbrev uaS (c:Nat):Sn:=⟨6,c,0,false,0,0,false,false⟩
def go_ (q:List Nat):Sn:=match cD_ q with|some c=>uaS c|none=>sn0
def xo_ (c:Cm) (q:List Nat):L8:=mY_ (if c.long then(kR_ (go_ q)).1 else(iX_ (go_ q)).1) c.alloc
def hN_ (F:Int→Bool) (s:USt) (st:Wst) (n:Nat) (c:Cm) (l:L8):i0_:=
 if c.kind=1 then⟨okX [],s,st⟩
 else if c.kind=2 then⟨okX (xo_ c (s.q n)),bA_ s n,st⟩
 else if c.kind=3 then match (if c.evpd then jt_ s.inf c.page else some (n7_ s.inf)) with
  | some d=>⟨okX (mY_ d c.alloc),s,st⟩
  | none=>⟨snX (kQ_ 2 7),s,st⟩
 else if c.kind=17 then⟨okX (mY_ (vY_ [0]) c.alloc),s,st⟩
 else if c.kind=5 then match ch_ s.now s.saved c with
  | some d=>⟨okX (mY_ d c.alloc),s,st⟩
  | none=>⟨snX (eg_ 2 5 true),s,st⟩
 else⟨(doX F s.inf.prot s.n s.cache s.file st c l).1,s,(doX F s.inf.prot s.n s.cache s.file st c l).2⟩
structure i1_ (c:Cm):Prop where
 lba:c.lba<18446744073709551616
 blocks:c.blocks<18446744073709551616
 page:c.page<256
 service:c.service<256
 type:c.type<256
 alloc:c.kind=4→c.alloc≤1000000
theorem qr_ {q:List Nat} (h:∀c∈q,c<65536):SnB (go_ q):=by
 unfold go_ cD_
 cases hb:cC_ q q.length with
 | none=>show SnB sn0;exact⟨d_,d_,d_⟩
 | some i=>
  refine⟨by dsimp only[Option.map_some,uaS];omega,?_,by dsimp only[Option.map_some,uaS];omega⟩
  show q.getD i 0<65536
  rw[List.getD_eq_getElem?_getD]
  cases hq:q[i]? with
  | none=>decide
  | some c=>exact h c (List.mem_of_getElem? hq)
theorem sU_ (s:Sn):(iX_ s).1.length≤18:=by
 unfold iX_
 split
 ·decide
 split
 ·decide
 ·show(qi_ s).length≤18
  unfold qi_ sK_
  simp only[List.length_append,List.length_cons,List.length_nil]
  split<;>split<;>simp[bg_]
theorem t7_ (s:Sn):(kR_ s).1.length≤40:=by
 unfold kR_
 split
 ·decide
 ·show(sM_ s).length≤40
  unfold sM_ sL_ sK_
  simp only[List.length_append,List.length_cons,List.length_nil]
  split<;>split<;>simp[bg_]
theorem vt_ (i:eF_):(n7_ i).length≤1000:=by
 unfold n7_
 cases hf:dE_ i with
 | false=>rw[if_pos rfl];decide
 | true=>
  obtain⟨z1,z2,z3,z4,z5,z6⟩:=iw_ hf
  have l1:=gB_ i.v
  have l2:=gB_ i.p
  have l3:=gB_ i.r
  rw[if_neg Bool.noConfusion]
  simp only[List.length_append,List.length_cons,List.length_nil,oE_]
  omega
theorem t8_ {i:eF_} {p:Nat} {d:L8} (h:jt_ i p=some d):d.length≤1000:=by
 unfold jt_ at h
 cases hf:dE_ i with
 | false=>rw[hf,if_pos rfl] at h;cases h
 | true=>
  rw[hf,if_neg Bool.noConfusion] at h
  obtain⟨z1,z2,z3,z4,z5,z6⟩:=iw_ hf
  have l1:=gB_ i.s
  have l3:=wv_ hf
  obtain⟨b,hb,rfl⟩:=Option.map_eq_some_iff.1 h
  have:b.length≤64:=by
   unfold vX_ at hb
   split at hb
   ·injection hb with hb;subst hb;decide
   split at hb
   ·injection hb with hb;subst hb;omega
   split at hb
   ·injection hb with hb;subst hb;simp only[List.length_append,List.length_cons,List.length_nil];omega
   split at hb
   ·injection hb with hb;subst hb;decide
   split at hb
   ·injection hb with hb;subst hb;decide
   ·cases hb
  simp only[List.length_append,List.length_cons,List.length_nil]
  omega
theorem rd_ {now saved:aU_} {c:Cm} {d:L8} (h:ch_ now saved c=some d):d.length≤1000:=by
 unfold ch_ at h
 split at h
 ·cases h
 ·injection h with h
  subst h
  have:=oH_ now saved c
  rw[List.length_append]
  unfold j7_
  split<;>simp only[List.length_cons,List.length_nil]<;>omega
theorem SOk.mono {st:Wst} {us:List (UA×USt)} {m m':Nat} (h:SOk st us m) (hm:m≤m'):SOk st us m':=⟨h.wok,⟨Nat.le_trans h.few.1 hm,Nat.le_trans h.few.2 hm⟩,h.units⟩
theorem SOk.put {st:Wst} {us:List (UA×USt)} {m i:Nat} {x:UA×USt} (h:SOk st us m) (hx:UOk st x.2):SOk st (us.set i x) m:=⟨h.wok,h.few,fun y hy=>(List.mem_or_eq_of_mem_set hy).elim (h.units y) fun e=>e▸hx⟩
theorem SOk.at {st:Wst} {us:List (UA×USt)} {m i:Nat} {a:UA} {s:USt} (h:SOk st us m) (hi:i<us.length) (he:us[i]=(a,s)):UOk st s:=by
 have:=h.units us[i] (List.getElem_mem hi)
 rw[he] at this;exact this
theorem hj_ {us:List (UA×USt)} {i:Nat} {x:UA×USt} (hi:i<us.length) (he:us[i]=x):us.set i x=us:=by
 rw[←he];exact List.set_getElem_self hi
section
variable {w u v w3:World} {S D D':Nat→Prop} {pw i m n ab:Nat} {a:UA} {s:USt} {st st':Wst} {F F':Int→Bool} {ℓ ℓ' ℓ1:Nat→Option Nat} {us:List (UA×USt)} {X:i0_} {R:A_→W_} {d:Sl} {l:L8}
def eK_ (w:World) (ℓ:Nat→Option Nat) (pw:Nat) (F:Int→Bool) (us:List (UA×USt)) (i:Nat) (a:UA) (m:Nat) (X:i0_) (R:A_→W_):Prop:=
 ∀v ℓ' d,Mv w v ℓ ℓ'→Sys v ℓ' pw X.w F (us.set i (a,X.s))→SOk X.w (us.set i (a,X.s)) (m+200000)→Dat w v ℓ' d X.x.d→R (rsv X.x.st X.x.sn d).toArray v
theorem Dat.from {w u v:World} {ℓ':Nat→Option Nat} {d:Sl} {l:L8} (h:Dat u v ℓ' d l) (g:w.heap.size≤u.heap.size):Dat w v ℓ' d l:=⟨h.1.mono g,h.2⟩
theorem eK_.ret (h:eK_ w ℓ pw F us i a m X R) (mv:Mv w v ℓ ℓ') (H:Sys v ℓ' pw X.w F (us.set i (a,X.s))) (K:SOk X.w (us.set i (a,X.s)) (m+200000)) (dt:Dat w v ℓ' d X.x.d) (hab:w.heap.size≤ab) (hn:ℓ' ab=none) (hb:Blk v ab z10 ad_):b0_ ab R (rsv X.x.st X.x.sn d).toArray v:=
 bL_ hb rfl fun v' hk=>h v' ℓ' d (mv.loc hk fun b hb2 q=>o_) (H.local1 hb hn hk (eJ_ d_ d_ d_) d_) K ⟨dt.1.keep hk fun b hbb q=>be_ dt.1 hb d_ (by rw[hbb,q]),dt.2⟩
theorem eK_.hand (h:eK_ w ℓ pw F us i a m X R) (mv:Mv w w3 ℓ ℓ1) (g:w.heap.size≤w3.heap.size) (hab:w.heap.size≤ab) (hn:ℓ1 ab=none) (hb:Blk w3 ab z10 ad_):eK_ w3 ℓ1 pw F us i a m X (b0_ ab R):=fun v ℓ' d mv2 H K dt=>
 h.ret (mv.trans mv2) H K (dt.from g) hab (by rw[mv2.lab _ (aw_ hb)];exact hn) (mv2.heap hb hn)
theorem Dat.new {w u v:World} {ℓ:Nat→Option Nat} (H:Sys w ℓ pw st F us) (g:ab_ w u) (h:Own v u.heap.size ae_ 1 d (bv l)):Dat w v ℓ d l:=⟨h.mono g.size,fun b hb=>H.fresh (by have:=(h.ge b hb).1;have:=g.size;omega)⟩
theorem lF_ {xs:Sl} {l:L8} {base:Nat} (h:Own v base ae_ 1 xs (bv l)) (hl:l.length≤1000):Rd v 1 xs (bv l)∧xs.n≤1000000:=by
 have:=fe_ h
 exact⟨h.rd o_,o_⟩
end
open Go CF
def yk_ (t:aT_):L8:=if (aB_ t).1=0 then [] else(match t.regs.reverse.find? fun r=>decide ((r.1:Int)=(aB_ t).2) with
 | some r=>beN 8 r.2
 | none=>List.replicate 8 0)++[0,0,0,0,0,UInt8.ofNat (aB_ t).1,0,0]
def xU_ (t:aT_) (r:Nat×Nat):L8:=[if cy_ t r.1 then 1 else 0,if cy_ t r.1 then UInt8.ofNat (aB_ t).1 else 0,0,UInt8.ofNat r.1]
def xV_ (t:aT_) (svc:Nat) (r:Nat×Nat):L8:=beN 8 r.2++if svc=3 then xU_ t r else []
def t9_ (t:aT_) (svc:Nat):L8:=if svc=1 then yk_ t else t.regs.flatMap (xV_ t svc)
def inX (t:aT_) (svc:Nat):L8:=if svc=2 then [0,8,1,128,234,1,0,0] else beN 4 t.gen++beN 4 (t9_ t svc).length++t9_ t svc
section
variable {w u v:World} {N:Nat→Prop} {pw svc:Nat} {a:UA} {s:USt}
end
open Go CF
section
variable {w u v w3:World} {S D D':Nat→Prop} {pw i m n ab:Nat} {a:UA} {s:USt} {st st':Wst} {F F':Int→Bool} {ℓ ℓ' ℓ1:Nat→Option Nat} {us:List (UA×USt)} {X:i0_} {R:A_→W_} {out:Sl} {l:L8} {c:Cm}
structure xW_ (w:World) (ℓ:Nat→Option Nat) (pw:Nat) (F:Int→Bool) (us:List (UA×USt)) (i:Nat) (a:UA) (n:Nat) (c:Cm) (out:Sl) (R:A_→W_):Prop where
 sel:c.kind=4→∀w2 ab,ab_ w w2→w.heap.size≤ab→Blk w2 ab z10 ad_→ei_ (some ⟨a.ub,0,none⟩) (n:Int) (cmv c).toArray out w2 (b0_ ab R)
 prout:c.kind=16→∀w2 ab,ab_ w w2→w.heap.size≤ab→Blk w2 ab z10 ad_→ej_ (some ⟨a.ub,0,none⟩) (n:Int) (cmv c).toArray out w2 (b0_ ab R)
 copy:c.kind=18→∀w2 ab,ab_ w w2→w.heap.size≤ab→Blk w2 ab z10 ad_→gN_ (some ⟨a.ub,0,none⟩) (n:Int) (cmv c).toArray out w2 (b0_ ab R)
def hk_ (F:Int→Bool) (s:USt) (st:Wst) (n:Nat) (c:Cm) (l:L8):i0_:=if c.kind=15 then⟨okX (mY_ (inX s.tab c.service) c.alloc),s,st⟩ else hN_ F s st n c l
structure nD_ (k:Nat):Prop where
 fixed:k=2→∀{w:World} {s:Sn} {R:Sl→Int→W_},SnB s→(∀xs w',ab_ w w'→Own w' w.heap.size ae_ 1 xs (bv (iX_ s).1)→R xs ((iX_ s).2:Int) w')→iI_ (snv s).toArray w R
 desc:k=2→∀{w:World} {s:Sn} {R:Sl→Int→W_},SnB s→(∀xs w',ab_ w w'→Own w' w.heap.size ae_ 1 xs (bv (kR_ s).1)→R xs ((kR_ s).2:Int) w')→gs_ (snv s).toArray w R
 std:k=3→∀{w:World} {i:eF_} {R:Sl→W_},dE_ i=true→(∀xs w',ab_ w w'→Own w' w.heap.size ae_ 1 xs (bv (n7_ i))→R xs w')→k1_ (eG_ i).toArray w R
 page:k=3→∀{w:World} {i:eF_} {page:Nat} {R:Sl→Bool→W_},dE_ i=true→page<256→(∀xs w',ab_ w w'→Own w' w.heap.size ae_ 1 xs (bv ((jt_ i page).getD []))→R xs (jt_ i page).isSome w')→ok_ (eG_ i).toArray (page:Int) w R
 luns:k=17→∀{w:World} {p:Sl} {l:List Nat} {R:Sl→W_},Rd w 1 p (yi_ l)→l.length≤1000→(∀xs w',ab_ w w'→Own w' w.heap.size ae_ 1 xs (bv (vY_ l))→R xs w')→ol_ p w R
 msense:k=5→∀{w:World} {pb:Nat} {now saved:aU_} {c:Cm} {R:Sl→A_→Bool→W_},IsP w pb now saved→
  (match ch_ now saved c with
   | none=>∀w',ab_ w w'→R au_ (snv (eg_ 2 5 true)).toArray false w'
   | some l=>∀xs w',ab_ w w'→Own w' w.heap.size ae_ 1 xs (bv l)→R xs (snv sn0).toArray true w')→cJ_ (some ⟨pb,0,none⟩) (cmv c).toArray w R
 prin:k=15→∀{w:World} {N:Nat→Prop} {pw:Nat} {a:UA} {s:USt} {svc:Nat} {R:Sl→W_},IsU w N pw a s→(∀b,N b→b<w.heap.size)→svc<256→(∀xs z,ab_ w z→Own z w.heap.size ae_ 1 xs (bv (inX s.tab svc))→R xs z)→k2_ (some ⟨a.ub,0,none⟩) (svc:Int) w R
 inlen:k=15→∀{t:aT_},cv_ t→∀svc:Nat,(inX t svc).length≤1000
 dev:k≠1→k≠2→k≠3→k≠17→k≠5→k≠4→k≠15→k≠16→k≠18→u5_ k
theorem vu_ (hN:c.kind≠4→c.kind≠16→c.kind≠18→nD_ c.kind) (H:Sys w ℓ pw st F us) (K:SOk st us m) (hm:m≤400000000) (hi:i<us.length) (he:us[i]=(a,s)) (hn:n<8) (hp:RdX w ℓ 1 out (bv l)) (hb:out.n≤140737488351232) (hc:i1_ c)
  (hR:c.kind≠4→c.kind≠16→c.kind≠18→eK_ w ℓ pw F us i a m (hk_ F s st n c l) R) (hP:xW_ w ℓ pw F us i a n c out R):bj_ (some ⟨a.ub,0,none⟩) (n:Int) (cmv c).toArray out w R:=by
 refine el_.calls _ _ _ _ _ _ (ag_ fun cb w1 hcb hb1 hg1 hs1=>ag_ fun ab w2 hab hb2 hg2 hs2=>?_)
 have g2:=hg1.trans hg2
 have hc2:Blk w2 cb (cmv c).toArray aD_:=hg2.heap hb1 (fun q=>q)
 have hb2:Blk w2 ab z10 ad_:=hb2
 have s1:=hg1.size
 have hab':w.heap.size≤ab:=o_
 have nab:ℓ ab=none:=H.fresh hab'
 have ncb:ℓ cb=none:=H.fresh o_
 have hset:=hj_ hi he
 have hU:=(H.at hi he).1
 have KU:=K.at hi he
 have cAt:∀{v:World} {o:Nat} {x:Value},ab_ w2 v→(cmv c).toArray[o]?=some x→v.cell? ((⟨cb,0,none⟩:Addr).add o)=some x:=fun g e=>by rw[aq_,Blk.cell (g.heap hc2 (fun q=>q)),Nat.zero_add];exact e
 have cl:∀{v:World},ab_ w2 v→(loadVar aD_ ⟨cb,0,none⟩).run Tryz.prog v=.ok (.agg (cmv c).toArray) v:=fun g=>lW_ (ar_ (g.heap hc2 (fun q=>q)))
 refine⟨(c.kind:Int),cAt (aa_.refl _ _) rfl,?_⟩
 have done:∀{v:World} {x:L8} {xs:Sl} {w4:World},eK_ w ℓ pw F us i a m ⟨okX x,s,st⟩ R→ab_ w2 w4→ab_ w4 v→Own v w4.heap.size ae_ 1 xs (bv x)→b0_ ab R (rsv 0 sn0 xs).toArray v:=fun {v x xs w4} hR g g' o=>by
  have gv:=g2.trans (g.trans g')
  refine hR.ret (X:=⟨okX x,s,st⟩) (d:=xs) (Mv.grow gv) ?_ ?_ (Dat.new H (g2.trans g) o) hab' nab ((g.trans g').heap hb2 (fun q=>q))
  ·show Sys v ℓ pw st F (us.set i (a,s));rw[hset];exact H.grow gv
  ·show SOk st (us.set i (a,s)) (m+200000);rw[hset];exact K.mono o_
 have fail:∀{v:World} {x:Sn},eK_ w ℓ pw F us i a m ⟨snX x,s,st⟩ R→ab_ w2 v→b0_ ab R (rsv 2 x au_).toArray v:=fun {v x} hR g=>by
  have gv:=g2.trans g
  refine hR.ret (X:=⟨snX x,s,st⟩) (d:=au_) (Mv.grow gv) ?_ ?_ (Dat.nil _ _ _) hab' nab (g.heap hb2 (fun q=>q))
  ·show Sys v ℓ pw st F (us.set i (a,s));rw[hset];exact H.grow gv
  ·show SOk st (us.set i (a,s)) (m+200000);rw[hset];exact K.mono o_
 have base:c.kind≠15→hk_ F s st n c l=hN_ F s st n c l:=fun h=>if_neg h
 refine as_ (y:=1) (fun k=>?_) (fun k1=>?_)
 ·have hR:=hR o_ o_ o_
  rw[base o_] at hR
  unfold hN_ at hR
  rw[if_pos o_] at hR
  exact done (xs:=au_) hR (aa_.refl _ _) (aa_.refl _ _) (aH_ _ _ _ _)
 refine as_ (y:=2) (fun k=>?_) (fun k2=>?_)
 ·have hR:=hR o_ o_ o_
  rw[base o_] at hR
  unfold hN_ at hR
  rw[if_neg o_,if_pos o_] at hR
  refine ag_ fun sb w3 hsb hb3 hg3 hs3=>ap_ (cells:=(snv sn0).toArray) hb3 aV_ rfl rfl (by simp[snv,sn0,Value.oneCell']) fun w4 hb4 hk4 hs4=>?_
  have g4':ab_ w2 w4:=hg3.keep hk4 fun b hb q=>o_
  have g4:=g2.trans g4'
  have H4:=H.grow g4
  obtain⟨hU4,hown⟩:=H4.at hi he
  obtain⟨z1,z2,z3,z4,z5,z6,z7⟩:=da_ a
  have nqb:ℓ a.qb=some (i+1):=hown _ z7
  refine⟨rfl,some ⟨a.qb,0,none⟩,hU4.cellU fun P=>rfl,?_⟩
  refine lx_ hU4.q hn (by rw[nqb];exact Option.some_ne_none _) H4.lt fun w5 hk5 hq5=>?_
  have sfq:a6_ w4 (fun k=>ℓ k≠none) fun b=>b=a.qb:=a6_.sub fun b _ q=>by rw[q,nqb];exact Option.some_ne_none _
  have hU5:IsU w5 (fun k=>ℓ k≠none) pw a (bA_ s n):=hU4.que hk5 sfq (fun b _ hne q=>hne q) (fun _ q=>.inl q) hq5
  obtain⟨m5,H5⟩:=H4.putA hi he hk5 (fun b _ q=>by rw[q];exact z7) hU5
  have m5:Mv w w5 ℓ ℓ:=(Mv.grow g4).trans m5
  have nsb:ℓ sb=none:=H.fresh (by have:=g2.size;omega)
  have hs5:Blk w5 sb (snv sn0).toArray av_:=hk5.heap hb4 (by rintro rfl;rw[nqb] at nsb;cases nsb)
  have hc5:Blk w5 cb (cmv c).toArray aD_:=hk5.heap (g4'.heap hc2 (fun q=>q)) (by rintro rfl;rw[nqb] at ncb;cases ncb)
  have ha5:Blk w5 ab z10 ad_:=hk5.heap (g4'.heap hb2 (fun q=>q)) (by rintro rfl;rw[nqb] at nab;cases nab)
  have s4:=g4.size
  have s5:=hk5.size
  have hsbw:w.heap.size≤sb:=by have:=g2.size;omega
  have wok:=qr_ (hU.q.few n hn).2
  have go:∀v,ab_ w5 v∨aa_ (fun k=>k=sb) w5 v→Blk v sb (snv (go_ (s.q n))).toArray av_→Mv w v ℓ ℓ→Sys v ℓ pw st F (us.set i (a,bA_ s n))→∃g:A_,(loadVar av_ ⟨sb,0,none⟩).run Tryz.prog v=.ok (.agg g) v∧iI_ g v fun xs n2 w07=>∃b1:Bool,w07.cell? ((⟨cb,0,none⟩:Addr).add 1)=some (.bool b1)∧aR_ (fun(p1:Sl) (w08:World)=>∃n3:Int,w08.cell? ((⟨cb,0,none⟩:Addr).add 4)=some (.int .i64 n3)∧cG_ p1 n3 w08 fun xs1 w09=>b0_ ab R (rsv 0 sn0 xs1).toArray w09) fun J_=>Br b1 (∃g1:A_,(loadVar av_ ⟨sb,0,none⟩).run Tryz.prog w07=.ok (.agg g1) w07∧gs_ g1 w07 fun xs2 n4 w011=>J_ xs2 w011) (J_ xs w07):=fun v gv bv0 mv Hv=>by
   have k5v:aa_ (fun k=>k=sb) w5 v:=gv.elim (fun g=>g.mono fun _ _ q=>q.elim) id
   have cbsb:cb≠sb:=bu_ hc5 hs5 d_
   have absb:ab≠sb:=bu_ ha5 hs5 d_
   have hcv:Blk v cb (cmv c).toArray aD_:=k5v.heap hc5 cbsb
   have hav:Blk v ab z10 ad_:=k5v.heap ha5 absb
   refine⟨_,fK_ (ar_ bv0),(hN o_ o_ o_).fixed o_ wok fun xs w7 g7 o7=>⟨c.long,by rw[aq_,Blk.cell (g7.heap hcv (fun q=>q))];rfl,?_⟩⟩
   refine bc_ (fun p z=>ab_ v z∧Own z v.heap.size ae_ 1 p (bv (if c.long then(kR_ (go_ (s.q n))).1 else(iX_ (go_ (s.q n))).1))) ?_ (fun J=>?_)
   ·rintro p z ⟨gz,oz⟩
    refine⟨c.alloc,by rw[aq_,Blk.cell (gz.heap hcv (fun q=>q))];rfl,?_⟩
    have hl:(if c.long then(kR_ (go_ (s.q n))).1 else(iX_ (go_ (s.q n))).1).length≤1000:=by
     have:=t7_ (go_ (s.q n));have:=sU_ (go_ (s.q n));split<;>omega
    obtain⟨r1,r2⟩:=lF_ oz hl
    refine iW_ r1 r2 fun x z2 g9 o9=>?_
    have gv2:=gz.trans g9
    refine hR.ret (X:=⟨okX (xo_ c (s.q n)),bA_ s n,st⟩) (d:=x) (mv.go gv2) (Hv.grow gv2) ((K.put (x:=(a,bA_ s n)) (KU.same KU.good rfl rfl rfl rfl rfl rfl)).mono o_) ⟨o9.mono ?_,fun b hb=>H.fresh ?_⟩ hab' nab (gv2.heap hav (fun q=>q))
    ·have:=k5v.size;have:=gz.size;omega
    ·have:=(o9.ge b hb).1;have:=k5v.size;have:=gz.size;omega
   ·cases hlg:c.long with
    | true=>rw[hlg,if_pos rfl] at J;exact am_ rfl ⟨_,fK_ (ar_ (g7.heap bv0 (fun q=>q))),(hN o_ o_ o_).desc o_ wok fun x2 w8 g8 o8=>J x2 w8 ⟨g7.trans g8,o8.mono g7.size⟩⟩
    | false=>rw[hlg,if_neg Bool.noConfusion] at J;exact aj_ rfl (J xs w7 ⟨g7,o7⟩)
  unfold go_ at go
  cases hpk:cD_ (s.q n) with
  | none=>
   rw[hpk] at go
   refine cu_ (fun v=>v=w5) ?_ (fun J=>aj_ rfl (J w5 rfl))
   intro v e
   rw[e]
   exact go w5 (.inl (aa_.refl _ _)) hs5 m5 H5
  | some code=>
   rw[hpk] at go
   refine cu_ (fun v=>aa_ (fun k=>k=sb) w5 v∧Blk v sb (snv (uaS code)).toArray av_) ?_ (fun J=>?_)
   ·rintro v ⟨kv,bv0⟩
    exact go v (.inr kv) bv0 (m5.loc kv fun b hb q=>o_) (H5.local1 hs5 nsb kv (eJ_ d_ d_ d_) d_)
   ·exact am_ rfl (ap_ (cells:=(snv (uaS code)).toArray) hs5 aV_ rfl rfl (by simp[snv,Value.oneCell']) fun v bv0 kv _=>J v ⟨kv,bv0⟩)
 refine as_ (y:=3) (fun k=>?_) (fun k3=>?_)
 ·have hR:=hR o_ o_ o_
  rw[base o_] at hR
  unfold hN_ at hR
  rw[if_neg o_,if_neg o_,if_pos o_] at hR
  have hU2:=hU.grow g2
  have info:∀{v:World},ab_ w2 v→(loadVar kt_ ((gA (some (⟨a.ub,0,none⟩:Addr))).add 0)).run Tryz.prog v=.ok (.agg (eG_ s.inf).toArray) v:=fun {v} g=>by
   obtain⟨P,hbu,_⟩:=(hU2.grow g).unit
   refine aE_ (cs:=eG_ s.inf) ku_ ii_ rfl fun j x hj=>?_
   rw[gA,aq_,aq_,hbu.cell,Nat.zero_add]
   rw[show cQ_ a P s=(eG_ s.inf++[ptr a.dv,ptr a.sl,ptr a.pg,ptr a.tb,ptr a.qb,.slice P.A P.n P.c,.int .u32 (s.on:Int),.int .i32 (s.lock:Int),.int .u32 0,.int .i64 (s.fault:Int),.int .i64 (s.count:Int)]).toArray from rfl,List.getElem?_toArray]
   rw[List.getElem?_append_left (by simpa using (List.getElem?_eq_some_iff.1 (by simpa using hj)).1)]
   simpa using hj
  refine⟨rfl,_,info (aa_.refl _ _),(hN o_ o_ o_).std o_ KU.form fun xs w3 g3 o3=>⟨c.evpd,cAt g3 rfl,?_⟩⟩
  refine sh_ (fun p ok v=>ab_ w2 v∧(match (if c.evpd then jt_ s.inf c.page else some (n7_ s.inf)) with|some d=>ok=true∧Own v w2.heap.size ae_ 1 p (bv d)|none=>ok=false)) ?_ (fun J=>?_)
  ·rintro p ok v ⟨gv,h⟩
   cases hd:(if c.evpd then jt_ s.inf c.page else some (n7_ s.inf)) with
   | none=>
    rw[hd] at h hR
    subst h
    refine am_ rfl (eI_ fun w5 g5=>bv_ fun w6 g6=>fail hR ((gv.trans g5).trans g6))
   | some d=>
    rw[hd] at h hR
    obtain⟨rfl,o⟩:=h
    refine aj_ rfl ⟨c.alloc,cAt gv rfl,?_⟩
    have hl:d.length≤1000:=by
     cases hev:c.evpd with
     | true=>rw[hev,if_pos rfl] at hd;exact t8_ hd
     | false=>rw[hev,if_neg Bool.noConfusion] at hd;injection hd with hd;subst hd;exact vt_ _
    obtain⟨r1,r2⟩:=lF_ o hl
    exact iW_ r1 r2 fun x z g9 o9=>done hR gv g9 o9
  ·cases hev:c.evpd with
   | true=>
    rw[hev,if_pos rfl] at J
    refine am_ rfl ?_
    rintro w4 rfl
    have g4:ab_ w2 w3.drew:=g3.trans (ak_ w3)
    refine⟨fun z=>z=w3.drew,rfl,rfl,_,(by rintro z rfl;exact info g4),(c.page:Int),(by rintro z rfl;exact cAt g4 rfl),(hN o_ o_ o_).page o_ KU.form hc.page fun x w5 g5 o5=>J x _ w5 ⟨g4.trans g5,?_⟩⟩
    cases hd:jt_ s.inf c.page with
    | none=>rfl
    | some d=>rw[hd] at o5;exact⟨rfl,o5.mono g4.size⟩
   | false=>
    rw[hev,if_neg Bool.noConfusion] at J
    exact aj_ rfl (J xs true w3 ⟨g3,rfl,o3⟩)
 refine as_ (y:=17) (fun k=>?_) (fun k17=>?_)
 ·have hR:=hR o_ o_ o_
  rw[base o_] at hR
  unfold hN_ at hR
  rw[if_neg o_,if_neg o_,if_neg o_,if_pos o_] at hR
  rintro w3 rfl
  have g3:=ak_ w2
  generalize w2.drew=w3 at *
  refine⟨fun v=>ab_ w2 v,g3,c.alloc,fun v q=>cAt q rfl,?_⟩
  refine aN_ (cells:=#[.int .i64 0]) (e:=r6_) (z:=1) (base:=w3.heap.size) k_ rfl d_ (Nat.le_refl _) fun w4 o4 g4 _=>⟨g3.trans g4,?_⟩
  refine(hN o_ o_ o_).luns o_ (l:=[0]) (o4.rd (by dsimp only;decide)) d_ fun x w5 g5 o5=>⟨(g3.trans g4).trans g5,?_⟩
  obtain⟨r1,r2⟩:=lF_ o5 d_
  refine iW_ r1 r2 fun y w6 g6 o6=>⟨((g3.trans g4).trans g5).trans g6,fun v=>ab_ w2 v,((g3.trans g4).trans g5).trans g6,fun _ q=>q,?_⟩
  exact done hR ((g3.trans g4).trans g5) g6 o6
 refine as_ (y:=5) (fun k=>?_) (fun k5=>?_)
 ·have hR:=hR o_ o_ o_
  rw[base o_] at hR
  unfold hN_ at hR
  rw[if_neg o_,if_neg o_,if_neg o_,if_neg o_,if_pos o_] at hR
  rintro w3 rfl
  have g3:=ak_ w2
  generalize w2.drew=w3 at *
  have gw3:=g2.trans g3
  have hU3:=hU.grow gw3
  have pgs:∀{v:World},ab_ w2 v→v.cell? ((gA (some (⟨a.ub,0,none⟩:Addr))).add 7)=some (.pointer (some ⟨a.pg,0,none⟩)):=fun g=>((hU.grow g2).grow g).cellU fun P=>rfl
  have tail:∀{v:World} {sb:Nat} {x:Sn} {b:Bool} {xs:Sl} {w0:World},ab_ w2 w0→ab_ w0 v→Blk v sb (snv x).toArray av_→(match ch_ s.now s.saved c with|none=>b=false∧x=eg_ 2 5 true|some d=>b=true∧Own v w0.heap.size ae_ 1 xs (bv d))→Br (!b) (∃g8:A_,(loadVar av_ ⟨sb,0,none⟩).run Tryz.prog v=.ok (.agg g8) v∧aS_ g8 v fun g9 w031=>b0_ ab R g9 w031) (∃n8:Int,v.cell? ((⟨cb,0,none⟩:Addr).add 4)=some (.int .i64 n8)∧cG_ xs n8 v fun xs10 w033=>b0_ ab R (rsv 0 sn0 xs10).toArray w033):=fun {v sb x b xs w0} g0 gv hb h=>by
   cases hd:ch_ s.now s.saved c with
   | none=>
    rw[hd] at h hR
    obtain⟨rfl,rfl⟩:=h
    exact am_ rfl ⟨_,fK_ (ar_ hb),bv_ fun w5 g5=>fail hR ((g0.trans gv).trans g5)⟩
   | some d=>
    rw[hd] at h hR
    obtain⟨rfl,o⟩:=h
    obtain⟨r1,r2⟩:=lF_ o (rd_ hd)
    exact aj_ rfl ⟨c.alloc,cAt (g0.trans gv) rfl,iW_ r1 r2 fun x z g9 o9=>done hR (g0.trans gv) g9 o9⟩
  refine⟨fun v=>ab_ w2 v,g3,rfl,some ⟨a.pg,0,none⟩,fun v q=>pgs q,(cmv c).toArray,fun v q=>cl q,?_,?_⟩
  ·have key:∀xs x b w4,ab_ w3 w4→(match ch_ s.now s.saved c with|none=>b=false∧x=eg_ 2 5 true|some d=>b=true∧Own w4 w3.heap.size ae_ 1 xs (bv d))→New (.cells #[.int .u8 0,.int .u16 0,.int .u64 0,.bool false,.int .i64 0,.int .i64 0,.bool false,.bool false] av_) w4 fun s1 w029=>ab_ w2 w029∧ah_ Tryz.prog (storeVar av_ s1 (.agg (snv x).toArray)) w029 fun w030=>Br (!b) (∃g8:A_,(loadVar av_ s1).run Tryz.prog w030=.ok (.agg g8) w030∧aS_ g8 w030 fun g9 w031=>b0_ ab R g9 w031) (∃n8:Int,w030.cell? ((⟨cb,0,none⟩:Addr).add 4)=some (.int .i64 n8)∧cG_ xs n8 w030 fun xs10 w033=>b0_ ab R (rsv 0 sn0 xs10).toArray w033):=fun xs x b w4 g4 h=>by
    refine ag_ fun sb w5 hsb hb5 hg5 hs5=>⟨(g3.trans g4).trans hg5,ap_ (cells:=(snv x).toArray) hb5 aV_ rfl rfl (by simp[snv,Value.oneCell']) fun w6 hb6 hk6 _=>?_⟩
    have g46:ab_ w4 w6:=hg5.keep hk6 fun b hb q=>o_
    refine tail g3 (g4.trans g46) hb6 ?_
    cases hd:ch_ s.now s.saved c with
    | none=>rw[hd] at h;exact h
    | some d=>rw[hd] at h;exact⟨h.1,h.2.grow g46⟩
   refine(hN o_ o_ o_).msense o_ hU3.pages ?_
   cases hd:ch_ s.now s.saved c with
   | none=>exact fun w4 g4=>key au_ (eg_ 2 5 true) false w4 g4 (by rw[hd];exact⟨rfl,rfl⟩)
   | some d=>exact fun xs w4 g4 o4=>key xs sn0 true w4 g4 (by rw[hd];exact⟨rfl,o4⟩)
  ·refine ag_ fun sb w4 hsb hb4 hg4 hs4=>⟨g3.trans hg4,?_⟩
   have key:∀xs x b w5,ab_ w4 w5→(match ch_ s.now s.saved c with|none=>b=false∧x=eg_ 2 5 true|some d=>b=true∧Own w5 w4.heap.size ae_ 1 xs (bv d))→ah_ Tryz.prog (storeVar av_ ⟨sb,0,none⟩ (.agg (snv x).toArray)) w5 fun w030=>Br (!b) (∃g8:A_,(loadVar av_ ⟨sb,0,none⟩).run Tryz.prog w030=.ok (.agg g8) w030∧aS_ g8 w030 fun g9 w031=>b0_ ab R g9 w031) (∃n8:Int,w030.cell? ((⟨cb,0,none⟩:Addr).add 4)=some (.int .i64 n8)∧cG_ xs n8 w030 fun xs10 w033=>b0_ ab R (rsv 0 sn0 xs10).toArray w033):=fun xs x b w5 g5 h=>by
    refine ap_ (cells:=(snv x).toArray) (g5.heap hb4 (fun q=>q)) aV_ rfl rfl (by simp[snv,Value.oneCell']) fun w6 hb6 hk6 _=>?_
    have g36:ab_ w3 w6:=(hg4.trans g5).keep hk6 fun b hb q=>o_
    refine tail g3 g36 hb6 ?_
    cases hd:ch_ s.now s.saved c with
    | none=>rw[hd] at h;exact h
    | some d=>rw[hd] at h;exact⟨h.1,(h.2.keep hk6 fun b hb q=>by have:=(h.2.ge b hb).1;omega).mono hg4.size⟩
   refine(hN o_ o_ o_).msense o_ (hU3.grow hg4).pages ?_
   cases hd:ch_ s.now s.saved c with
   | none=>exact fun w5 g5=>key au_ (eg_ 2 5 true) false w5 g5 (by rw[hd];exact⟨rfl,rfl⟩)
   | some d=>exact fun xs w5 g5 o5=>key xs sn0 true w5 g5 (by rw[hd];exact⟨rfl,o5⟩)
 refine as_ (y:=4) (fun k=>⟨_,cl (aa_.refl _ _),hP.sel o_ w2 ab g2 hab' hb2⟩) (fun k4=>?_)
 refine as_ (y:=15) (fun k=>?_) (fun k15=>?_)
 ·have hR:=hR o_ o_ o_
  unfold hk_ at hR
  rw[if_pos o_] at hR
  rintro w3 rfl
  have g3:=ak_ w2
  generalize w2.drew=w3 at *
  have H3:=H.grow (g2.trans g3)
  refine⟨fun v=>ab_ w2 v,g3,(c.service:Int),fun v q=>cAt q rfl,c.alloc,fun v q=>cAt q rfl,(hN o_ o_ o_).prin o_ (H3.at hi he).1 H3.lt hc.service fun x w5 g5 o5=>⟨g3.trans g5,?_⟩⟩
  obtain⟨r1,r2⟩:=lF_ o5 ((hN o_ o_ o_).inlen o_ hU.tab.ok c.service)
  refine iW_ r1 r2 fun y w6 g6 o6=>⟨(g3.trans g5).trans g6,fun v=>ab_ w2 v,(g3.trans g5).trans g6,fun _ q=>q,?_⟩
  exact done hR (g3.trans g5) g6 o6
 refine as_ (y:=16) (fun k=>⟨_,cl (aa_.refl _ _),hP.prout o_ w2 ab g2 hab' hb2⟩) (fun k16=>?_)
 refine as_ (y:=18) (fun k=>⟨_,cl (aa_.refl _ _),hP.copy o_ w2 ab g2 hab' hb2⟩) (fun k18=>?_)
 have hR:=hR o_ o_ o_
 rw[base o_] at hR
 unfold hN_ at hR
 rw[if_neg o_,if_neg o_,if_neg o_,if_neg o_,if_neg o_] at hR
 rintro w3 rfl
 have g3:=ak_ w2
 generalize w2.drew=w3 at *
 have gw3:=g2.trans g3
 refine⟨fun v=>ab_ w2 v,g3,rfl,some ⟨a.dv,0,none⟩,fun v q=>((hU.grow g2).grow q).cellU fun P=>rfl,(cmv c).toArray,fun v q=>cl q,?_⟩
 refine wC_ ((hN o_ o_ o_).dev o_ o_ o_ o_ o_ o_ o_ o_ o_) (H.grow gw3) K hm hi he ((Mv.grow gw3).rdX hp) hb hc.lba hc.blocks fun u ℓ' d mv Hu Ku dt=>?_
 refine hR.ret (X:=⟨(doX F s.inf.prot s.n s.cache s.file st c l).1,s,(doX F s.inf.prot s.n s.cache s.file st c l).2⟩) (d:=d) ((Mv.grow gw3).trans mv) ?_ ?_ (dt.from gw3.size) hab' ?_ (mv.heap (g3.heap hb2 (fun q=>q)) nab)
 ·show Sys u ℓ' pw _ F (us.set i (a,s));rw[hset];exact Hu
 ·show SOk _ (us.set i (a,s)) (m+200000);rw[hset];exact Ku.mono o_
 ·rw[mv.lab ab (aw_ (g3.heap hb2 (fun q=>q)))];exact nab
end
end Go.Proofs.YtpmebahhjgkflaaGreatDoor
