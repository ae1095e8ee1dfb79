import Derived.Shelf.SlMaps.Clone
import Derived.Test.YtpmebahhjgkflaaGreatDoorProg
import Derived.Test.YtpmebahhjgkflaaGreatDoorB7
set_option maxHeartbeats 20000000
namespace Go.Proofs.YtpmebahhjgkflaaGreatDoor
open Go CF
set_option maxRecDepth 100000
def kT_ (v:aU_) (j:Nat):Nat:=(if v.wce=true∧0<j then 1 else 0)+(if v.ds=true∧1<j then 2 else 0)+(if v.swp=true∧2<j then 4 else 0)
def cI_ (v:aU_):Nat:=kT_ v 3
def f5_ (n:Nat):aU_:=⟨decide (n%2=1),decide (n/2%2=1),decide (n/4%2=1)⟩
theorem n9_ (v:aU_):cI_ v≤7:=by unfold cI_ kT_;split<;>split<;>split<;>decide
theorem ua_ (v:aU_):f5_ (cI_ v)=v:=by
 obtain⟨a,b,c⟩:=v
 cases a<;>cases b<;>cases c<;>rfl
def cs_ (s:USt):L8:=UInt8.ofNat (cI_ s.saved)::bk_ s.tab
def bJ_ (F:Int→Bool) (s:USt) (st:Wst):Bool×USt×Wst:=
 (decide ((b6_ F st s.keepf ⟨s.sure,s.at_,s.gen⟩ (cs_ s)).1=0),
 {s with sure:=(b6_ F st s.keepf ⟨s.sure,s.at_,s.gen⟩ (cs_ s)).2.1.sure,at_:=(b6_ F st s.keepf ⟨s.sure,s.at_,s.gen⟩ (cs_ s)).2.1.at_,gen:=(b6_ F st s.keepf ⟨s.sure,s.at_,s.gen⟩ (cs_ s)).2.1.gen},
 (b6_ F st s.keepf ⟨s.sure,s.at_,s.gen⟩ (cs_ s)).2.2)
structure eZ_ (st st':Wst) (file:ByteArray) (k:Nat):Prop where
 ops:st'.ops≤st.ops+k
 waits:st'.waits.length≤st.waits.length+k
 ok:Wok st→Wok st'
 seen:∀f,(∀i,i<2→f≠nmS file i)→st'.seen f=st.seen f
theorem eZ_.refl (st:Wst) (file:ByteArray):eZ_ st st file 0:=⟨Nat.le_refl _,Nat.le_refl _,id,fun _ _=>rfl⟩
theorem eZ_.trans {a b c:Wst} {file:ByteArray} {j k:Nat} (h:eZ_ a b file j) (g:eZ_ b c file k):eZ_ a c file (j+k):=⟨by have:=h.ops;have:=g.ops;omega,by have:=h.waits;have:=g.waits;omega,fun q=>g.ok (h.ok q),fun f hf=>(g.seen f hf).trans (h.seen f hf)⟩
theorem eZ_.le {a b:Wst} {file:ByteArray} {j k:Nat} (h:eZ_ a b file j) (hk:j≤k):eZ_ a b file k:=⟨by have:=h.ops;omega,by have:=h.waits;omega,h.ok,h.seen⟩
theorem jx_ (st:Wst) (file:ByteArray) (k:Nat):eZ_ st (more st k) file k:=⟨Nat.le_refl _,by show st.waits.length≤_;omega,id,fun _ _=>rfl⟩
theorem re_ (st:Wst) (file:ByteArray):eZ_ st (f0_ st) file 1:=⟨Nat.le_refl _,Nat.zero_le _,fun _ c hc=>(by cases hc),fun _ _=>rfl⟩
theorem oM_ {st:Wst} {file:ByteArray} {i:Nat} {r:L8} (hi:i<2) (hr:r.length≤1048576):eZ_ st (gj_ st (nmS file i) 0 r) file 1:=by
 refine⟨Nat.le_refl _,by simp[gj_],fun q c hc=>?_,fun f hf=>?_⟩
 ·rcases List.mem_append.1 hc with q2|q2
  ·exact q c q2
  ·rw[List.mem_singleton.1 q2]
   exact⟨rfl,by show 0+r.length≤_;omega⟩
 ·show bF_ st.seen (nmS file i) 0 r f=_
  unfold bF_ mK_
  rw[if_neg (hf i hi)]
theorem ub_ (x:Int):toS x<2:=by unfold toS;split<;>decide
theorem vv_ {F:Int→Bool} {b n k:Nat} (h:hH_ F b n=some k):k<n:=by
 unfold hH_ at h
 have:=List.mem_of_find?_eq_some h
 exact List.mem_range.1 this
theorem lG_ {F:Int→Bool} {st:Wst} {file:ByteArray} {x:SlX}:eZ_ st (aI_ F st file x).2.2.2.2 file 2:=by
 unfold aI_
 cases h:hH_ F st.ops 2 with
 | some k=>exact(jx_ st file (k+1)).le (by have:=vv_ h;omega)
 | none=>exact jx_ st file 2
theorem nE_ {F:Int→Bool} {st:Wst} {file:ByteArray} {x:SlX} {l:L8} (hl:l.length≤4096):eZ_ st (c7_ F st file x l).2.2 file 2:=by
 unfold c7_
 have hr:=hh_ (fr_ x.gen) l
 split
 ·exact(jx_ st file 1).le d_
 ·split
  ·exact(oM_ (ub_ _) o_).trans (jx_ _ file 1)
  ·exact(oM_ (ub_ _) o_).trans (re_ _ file)
theorem lH_ {F:Int→Bool} {st:Wst} {file:ByteArray} {x:SlX} {l:L8} (hl:l.length≤4096):eZ_ st (b6_ F st file x l).2.2 file 4:=by
 unfold b6_
 split
 ·exact(nE_ hl).le d_
 split
 ·exact lG_.le d_
 ·exact lG_.trans (nE_ hl)
theorem SOk.near {st st':Wst} {us:List (UA×USt)} {m k:Nat} {file:ByteArray} (h:SOk st us m) (n:eZ_ st st' file k):SOk st' us (m+k):=by
 refine⟨n.ok h.wok,⟨by have:=n.ops;have:=h.few;omega,by have:=n.waits;have:=h.few;omega⟩,fun x hx=>?_⟩
 have ok:=h.units x hx
 obtain⟨b,_,_,e,_⟩:=ok.name
 refine ok.same ?_ rfl rfl rfl rfl rfl rfl
 have:gv_ st' x.2.file=gv_ st x.2.file:=oK_ (n.seen _ fun i hi q=>by rw[e] at q;exact rc_ hi q.symm)
 rw[this];exact ok.good
section
variable {w u v w3:World} {S D D':Nat→Prop} {pw i m n ab:Nat} {a:UA} {s:USt} {st st':Wst} {F F':Int→Bool} {ℓ ℓ' ℓ1:Nat→Option Nat} {us:List (UA×USt)}
theorem rf_ {x:aU_} {R:Int→W_} (hR:∀w',ab_ w w'→R ((cI_ x:Nat):Int) w'):jD_ (vlv x).toArray w R:=by
 refine hA_.calls _ _ _ (ag_ fun vb w1 hvb hb1 hg1 hs1=>?_)
 have hb1:Blk w1 vb (vlv x).toArray aA_:=hb1
 refine⟨x.wce,j8_ hb1 rfl,x.ds,j8_ hb1 rfl,x.swp,j8_ hb1 rfl,?_⟩
 refine aN_ (cells:=#[.bool x.wce,.bool x.ds,.bool x.swp]) (e:=wU_) (z:=1) (base:=w1.heap.size) k_ rfl d_ (Nat.le_refl _) fun w2 o2 g2 _=>?_
 have r2:Rd w2 1 ⟨some ⟨w1.heap.size,0,none⟩,3,3⟩ [.bool x.wce,.bool x.ds,.bool x.swp]:=o2.rd (by dsimp only;decide)
 refine⟨fun b y v=>∃j:Nat,y=j∧j≤3∧b=((kT_ x j:Nat):Int)∧ab_ w2 v,fun _ y _=>3-y.toNat,⟨0,rfl,d_,by unfold kT_;simp,aa_.refl _ _⟩,?_⟩
 rintro b y v ⟨j,rfl,hj,rfl,hg⟩
 refine bl_ (y:=3) (fun hlt=>?_) (fun hge=>?_)
 ·refine bc_ (fun b' v'=>v'=v∧b'=((kT_ x (j+1):Nat):Int)) ?_ (fun J=>?_)
  ·rintro b' v' ⟨rfl,rfl⟩
   rw[w64 o_ o_]
   exact⟨⟨j+1,o_,o_,rfl,hg⟩,by dsimp only;omega⟩
  ·have hv:=(r2.grow hg).elem (i:=j) (by dsimp only;omega) d_
   obtain⟨aa,ha,hc⟩:=hv
   refine⟨⟨o_,by dsimp only;omega,rfl⟩,([x.wce,x.ds,x.swp]:List Bool)[j]'(by simpa using hlt),?_,?_⟩
   ·obtain⟨_,h2⟩:=h0_ (r2.grow hg) (i:=j) (by simpa using hlt)
    rw[Int.toNat_natCast,h2]
    have:∀j:Fin 3,([Value.bool x.wce,.bool x.ds,.bool x.swp]:List Value)[j.val]'(j.isLt)=.bool (([x.wce,x.ds,x.swp]:List Bool)[j.val]'(j.isLt)):=by
     intro j
     match j with
     | ⟨0,_⟩=>rfl
     | ⟨1,_⟩=>rfl
     | ⟨2,_⟩=>rfl
    exact congrArg some (this ⟨j,hlt⟩)
   ·have key:∀(x:aU_) (j:Fin 3),(([x.wce,x.ds,x.swp]:List Bool)[j.val]'(j.isLt)=true→bOr .u8 ((kT_ x j.val:Nat):Int) (cl_ .u8 1 ((j.val:Nat):Int).toNat)=((kT_ x (j.val+1):Nat):Int))∧(([x.wce,x.ds,x.swp]:List Bool)[j.val]'(j.isLt)=false→kT_ x j.val=kT_ x (j.val+1)):=by
     rintro⟨a,b,c⟩ j
     revert j
     cases a<;>cases b<;>cases c<;>decide +kernel
    obtain⟨k1,k2⟩:=key x ⟨j,hlt⟩
    cases hx:([x.wce,x.ds,x.swp]:List Bool)[j]'(by simpa using hlt) with
    | true=>exact am_ rfl ⟨o_,J _ v ⟨rfl,k1 hx⟩⟩
    | false=>exact aj_ rfl (J _ v ⟨rfl,congrArg _ (k2 hx)⟩)
 ·have:j=3:=o_
  subst this
  exact hR v ((hg1.trans g2).trans hg)
theorem qs_ {k:Nat} {R:A_→W_} (hk:k≤7) (hR:∀w',ab_ w w'→R (vlv (f5_ k)).toArray w'):iJ_ (k:Int) w R:=by
 refine gU_.calls _ _ _ (ag_ fun ab w1 hab hb1 hg1 hs1=>?_)
 have key:∀k:Fin 8,((bz_ .u8 ((k.val:Nat):Int) 1) != 0)=(f5_ k.val).wce∧((bz_ .u8 ((k.val:Nat):Int) 2) != 0)=(f5_ k.val).ds∧((bz_ .u8 ((k.val:Nat):Int) 4) != 0)=(f5_ k.val).swp:=by decide +kernel
 obtain⟨e1,e2,e3⟩:=key ⟨k,o_⟩
 dsimp only at e1 e2 e3
 rw[e1,e2,e3]
 exact ap_ (cells:=(vlv (f5_ k)).toArray) hb1 a8_ rfl rfl (by simp[vlv,Value.oneCell']) fun w2 hb2 hk2 _=>⟨_,dF_ (ar_ hb2),hR w2 (hg1.keep hk2 fun i hi q=>o_)⟩
theorem lI_ {ps:Nat} {file:ByteArray} {nb:Nat} {cache on:Bool} {R:W_} (hS:IsS w ps pw file nb cache) (h:∀u,aa_ (fun k=>k=ps) w u→IsS u ps pw file nb on→R u):bD_ (some ⟨ps,0,none⟩) on w R:=by
 refine cB_.calls _ _ _ _ (am_ rfl ⟨rfl,?_⟩)
 rw[gA,aq_]
 exact a0_ hS (by show 3<4;decide) rfl fun u hb hk _=>h u hk hb
theorem i2_ {s:USt} (ok:cv_ s.tab):(cs_ s).length≤78:=by
 have:=oJ_ ok
 unfold cs_
 rw[List.length_cons];omega
theorem uc_ {R:Int→Int→W_} {p:Sl} (H:Sys w ℓ pw st F us) (K:SOk st us m) (hm:m≤500000000) (hi:i<us.length) (he:us[i]=(a,s)) (hp:∀u,Mv w u ℓ ℓ→Rd u 1 p (bv (cs_ s)))
  (hR:∀u ℓ' g,Mv w u ℓ ℓ'→Sys u ℓ' pw (bJ_ F s st).2.2 F (us.set i (a,(bJ_ F s st).2.1))→SOk (bJ_ F s st).2.2 (us.set i (a,(bJ_ F s st).2.1)) (m+4)→R g (((b6_ F st s.keepf ⟨s.sure,s.at_,s.gen⟩ (cs_ s)).1:Nat):Int) u):cg_ (some ⟨a.sl,0,none⟩) p w R:=by
 obtain⟨hU,hown⟩:=H.at hi he
 obtain⟨z1,z2,z3,z4,z5,z6,z7⟩:=da_ a
 obtain⟨D,hW,hD⟩:=H.W
 have own:∀{b},a.set b→ℓ b≠none:=fun hb=>by rw[hown _ hb];exact Option.some_ne_none _
 have KU:=K.at hi he
 have e1:us[i].1=a:=by rw[he]
 have pl:=i2_ hU.tab.ok
 refine n6_ (x:=⟨s.sure,s.at_,s.gen⟩) hU.slots (fun q=>by have:=hD _ q;rw[hown _ z4] at this;injection this with this;omega) hW K.wok KU.sizes.2 (by have:=K.few;omega) (by have:=K.few;omega) (l:=cs_ s) o_ (fun u k=>hp u ⟨k.mono fun b _ q=>?_,fun _ _=>rfl⟩) fun u D' g hku hWu hD' hSu=>?_
 ·rcases q with q|q
  ·rw[hD b q];exact Option.some_ne_none _
  ·rw[q];exact own z4
 ·have hs:=H.all (a':=a) (s':=(bJ_ F s st).2.1) hi hD hku (fun b _ q=>by
    rcases q with q|q
    ·exact .inl q
    ·refine .inr ?_
     rw[e1,q];exact z4) hWu hD' (fun b hb=>.inl (by rw[e1];exact hb)) (fun b hb q r=>by have:=hU.lt r;omega) (fun N' hN'=>?_)
  ·obtain⟨ℓ',mv,Hu⟩:=hs
   refine hR u ℓ' g mv Hu ?_
   refine SOk.put (x:=(a,(bJ_ F s st).2.1)) (K.near (lH_ o_)) ?_
   have:=(K.near (lH_ (F:=F) (st:=st) (file:=s.keepf) (x:=⟨s.sure,s.at_,s.gen⟩) (l:=cs_ s) o_)).at hi he
   exact this.same this.good rfl rfl rfl rfl rfl rfl
  ·refine hU.slot hku (a6_.sub fun b _ q=>?_) (fun b hb hne q=>?_) (fun b hb=>?_) hSu
   ·rcases q with q|q
    ·rw[hD b q];exact Option.some_ne_none _
    ·rw[q];exact own z4
   ·rcases q with q|q
    ·have:=hD b q
     rw[hown b hb] at this
     injection this with this
     omega
    ·exact hne q
   ·rcases hN' b hb with q|q
    ·exact .inl q
    ·exact .inr q.1
theorem vw_ {R:Bool→W_} (H:Sys w ℓ pw st F us) (K:SOk st us m) (hm:m≤500000000) (hi:i<us.length) (he:us[i]=(a,s))
  (hR:∀u ℓ',Mv w u ℓ ℓ'→Sys u ℓ' pw (bJ_ F s st).2.2 F (us.set i (a,(bJ_ F s st).2.1))→SOk (bJ_ F s st).2.2 (us.set i (a,(bJ_ F s st).2.1)) (m+4)→R (bJ_ F s st).1 u):bW_ (some ⟨a.ub,0,none⟩) w R:=by
 refine e9_.calls _ _ _ ?_
 rintro w1 rfl
 have g1:=ak_ w
 generalize w.drew=w1 at *
 have cl:∀{v:World} {o:Nat} {x:Value},ab_ w v→(∀P,(cQ_ a P s)[o]?=some x)→v.cell? ((gA (some (⟨a.ub,0,none⟩:Addr))).add o)=some x:=fun g e=>(((H.grow g).at hi he).1).cellU e
 have T:∀{v:World},ab_ w v→IsU v (fun k=>ℓ k≠none) pw a s:=fun g=>((H.grow g).at hi he).1
 refine⟨fun v=>ab_ w v,g1,rfl,some ⟨a.sl,0,none⟩,fun v q=>cl q fun P=>rfl,rfl,some ⟨a.pg,0,none⟩,fun v q=>cl q fun P=>rfl,rfl,some ⟨a.tb,0,none⟩,fun v q=>cl q fun P=>rfl,?_⟩
 refine nx_ (T g1).pages fun w2 g2=>⟨g1.trans g2,rf_ fun w3 g3=>?_⟩
 have g13:=(g1.trans g2).trans g3
 refine⟨g13,?_⟩
 have vb:=n9_ s.saved
 have ev:((cI_ s.saved:Nat):Int)=(((UInt8.ofNat (cI_ s.saved)).toNat:Nat):Int):=by rw[←bt_,wu8 o_ o_]
 have hl1:∀z:World,(Instr.buildSlice bn_ 1 #[(0,.int .u8 ((cI_ s.saved:Nat):Int))]).run Tryz.prog z=.ok (.slice (some ⟨z.heap.size,0,none⟩) 1 1) (z.alloc (.cells (bv [UInt8.ofNat (cI_ s.saved)]).toArray ae_)):=fun z=>by
  rw[ev];kernel_rfl
 have hE:cs_ s = [UInt8.ofNat (cI_ s.saved)]++bk_ s.tab:=rfl
 have sl:=oJ_ (T g1).tab.ok
 have fin:∀{p:Sl} {y:World},ab_ w y→Own y w.heap.size ae_ 1 p (bv (cs_ s))→cg_ (some ⟨a.sl,0,none⟩) p y fun _ n2 z=>R (n2==0) z:=fun {p y} gy o=>by
  have pl:=i2_ (T g1).tab.ok
  have pn:=fe_ o
  refine uc_ (H.grow gy) K hm hi he (fun u mv=>(o.keep mv.keep fun b hb q=>q (H.fresh (o.ge b hb).1)).rd o_) fun u ℓ' g mv Hu Ku=>?_
  have:=hR u ℓ' ((Mv.grow gy).trans mv) Hu Ku
  have e:(((((b6_ F st s.keepf ⟨s.sure,s.at_,s.gen⟩ (cs_ s)).1:Nat):Int)==0):Bool)=(bJ_ F s st).1:=by
   show _=decide _
   rw[Bool.eq_iff_iff,beq_iff_eq,decide_eq_true_eq];omega
  rw[e];exact this
 have s13:=g13.size
 refine⟨?_,?_⟩
 ·refine Row.start (hl1 w3) rfl (by show 1≤_;decide) fun p4 w4 r4=>⟨g13.trans r4.grow,nC_ (T (g13.trans r4.grow)).tab fun x5 w5 g5 o5=>⟨(g13.trans r4.grow).trans g5,?_⟩⟩
  have n5:=fe_ o5
  refine(r4.go g5).app (o5.rd o_) (by simp;omega) fun p6 w6 r6 k6=>⟨g13.trans r6.grow,fin (g13.trans r6.grow) ?_⟩
  rw[hE];exact r6.own.mono s13
 ·refine nC_ (T g13).tab fun x4 w4 g4 o4=>⟨g13.trans g4,?_⟩
  have n4:=fe_ o4
  refine Row.start (hl1 w4) rfl (by show 1≤_;decide) fun p5 w5 r5=>⟨(g13.trans g4).trans r5.grow,?_⟩
  refine r5.app ((o4.grow r5.grow).rd o_) (by simp;omega) fun p6 w6 r6 k6=>⟨(g13.trans g4).trans r6.grow,fin ((g13.trans g4).trans r6.grow) ?_⟩
  rw[hE];exact r6.own.mono (g13.trans g4).size
end
open Go CF
def m0_ (s:USt) (n' s':aU_):USt:={s with now:=n',saved:=s',cache:=n'.wce}
def pg_ (s:USt) (n code:Nat):USt:={s with q:=fun j=>if (j:Int)≠(n:Int)∧j<8 then bd_ (s.q j) code else s.q j}
def gp_ (F:Int→Bool) (b:Bool) (s:USt) (st:Wst):i0_:=if b=true then⟨if (bJ_ F s st).1=true then okX [] else snX wfS,(bJ_ F s st).2.1,(bJ_ F s st).2.2⟩ else⟨okX [],s,st⟩
def h8_ (F:Int→Bool) (s:USt) (st:Wst) (n:Nat) (c:Cm) (l:L8):i0_:=
 if (l.length:Int)≠c.alloc then⟨snX (dN_ 0x1a00),s,st⟩
 else match ju_ s.now s.saved c l with
  | .error e=>⟨snX e,s,st⟩
  | .ok (b,n',s')=>gp_ F (c.save&&decide (l≠[])) (if b=true then pg_ (m0_ s n' s') n 10753 else m0_ s n' s') st
section
variable {w u v z w3:World} {S D D':Nat→Prop} {pw i m n ab cb:Nat} {a:UA} {s:USt} {st st':Wst} {F F':Int→Bool} {ℓ ℓ' ℓ1 ℓ2:Nat→Option Nat} {us:List (UA×USt)} {X:i0_} {R:A_→W_} {out:Sl} {l:L8} {c:Cm}
structure Cal (w v:World) (ℓ ℓ':Nat→Option Nat) (cb ab:Nat) (c:Cm):Prop where
 mv:Mv w v ℓ ℓ'
 cmd:Blk v cb (cmv c).toArray aD_
 res:Blk v ab z10 ad_
 ncb:ℓ' cb=none
 nab:ℓ' ab=none
theorem Cal.go (h:Cal w v ℓ ℓ' cb ab c) (g:ab_ v z):Cal w z ℓ ℓ' cb ab c:=⟨h.mv.go g,g.heap h.cmd (fun q=>q),g.heap h.res (fun q=>q),h.ncb,h.nab⟩
theorem Cal.step (h:Cal w v ℓ ℓ' cb ab c) (g:Mv v z ℓ' ℓ2):Cal w z ℓ ℓ2 cb ab c:=⟨h.mv.trans g,g.heap h.cmd h.ncb,g.heap h.res h.nab,by rw[g.lab _ (aw_ h.cmd)];exact h.ncb,by rw[g.lab _ (aw_ h.res)];exact h.nab⟩
theorem Cal.cell (h:Cal w v ℓ ℓ' cb ab c) {o:Nat} {x:Value} (e:(cmv c).toArray[o]?=some x):v.cell? ((⟨cb,0,none⟩:Addr).add o)=some x:=by rw[aq_,Blk.cell h.cmd,Nat.zero_add];exact e
theorem Cal.load (h:Cal w v ℓ ℓ' cb ab c):(loadVar aD_ ⟨cb,0,none⟩).run Tryz.prog v=.ok (.agg (cmv c).toArray) v:=lW_ (ar_ h.cmd)
theorem Cal.start {K:Addr→Addr→W_} (H:Sys w ℓ pw st F us) (h:∀cb ab v,ab_ w v→w.heap.size≤cb→w.heap.size≤ab→Cal w v ℓ ℓ cb ab c→K ⟨cb,0,none⟩ ⟨ab,0,none⟩ v) :
  New (.cells (cmv c).toArray aD_) w fun c1 w0=>New (.cells #[.int .u8 0,.int .u8 0,.int .u16 0,.int .u64 0,.bool false,.int .i64 0,.int .i64 0,.bool false,.bool false,.slice none 0 0] ad_) w0 fun a w01=>K c1 a w01:=
 ag_ fun cb w1 hcb hb1 hg1 hs1=>ag_ fun ab w2 hab hb2 hg2 hs2=>by
  have s1:=hg1.size
  refine h cb ab w2 (hg1.trans hg2) o_ o_ ⟨Mv.grow (hg1.trans hg2),hg2.heap hb1 (fun q=>q),hb2,H.fresh o_,H.fresh o_⟩
theorem Cal.fin (h:Cal w v ℓ ℓ' cb ab c) (hab:w.heap.size≤ab) (hR:eK_ w ℓ pw F us i a m X R) (H:Sys v ℓ' pw X.w F (us.set i (a,X.s))) (K:SOk X.w (us.set i (a,X.s)) (m+200000)) (hd:X.x.d = []):b0_ ab R (rsv X.x.st X.x.sn au_).toArray v:=
 hR.ret h.mv H K (by rw[hd];exact Dat.nil _ _ _) hab h.nab h.res
theorem qt_ {b:Bool} {s1:USt} {us1:List (UA×USt)} (hC:Cal w v ℓ ℓ' cb ab c) (hab:w.heap.size≤ab) (he1:us1=us.set i (a,s1)) (hi:i<us.length) (H:Sys v ℓ' pw st F us1) (K:SOk st us1 m) (hm:m≤400000000) (hR:eK_ w ℓ pw F us i a m (gp_ F b s1 st) R) :
  bB_ (fun(b4:Bool) (w014:World)=>Br (b&&(!b4)) (aS_ #[.int .u8 3,.int .u16 3072,.int .u64 0,.bool false,.int .i64 0,.int .i64 0,.bool false,.bool false] w014 fun g6 w015=>b0_ ab R g6 w015) (b0_ ab R #[.int .u8 0,.int .u8 0,.int .u16 0,.int .u64 0,.bool false,.int .i64 0,.int .i64 0,.bool false,.bool false,.slice none 0 0] w014)) fun J_=>(b=true→bW_ (some ⟨a.ub,0,none⟩) v J_)∧(b=false→J_ (Kd.dflt .b) v):=by
 subst he1
 have hi1:i<(us.set i (a,s1)).length:=by rw[List.length_set];exact hi
 unfold gp_ at hR
 cases b with
 | false=>
  rw[if_neg Bool.noConfusion] at hR
  refine cm_ (fun _ z=>z=v) ?_ (fun J=>⟨fun q=>Bool.noConfusion q,fun _=>J _ v rfl⟩)
  rintro b4 z rfl
  exact aj_ (by cases b4<;>rfl) (hC.fin (X:=⟨okX [],s1,st⟩) hab hR H (K.mono o_) rfl)
 | true=>
  rw[if_pos rfl] at hR
  refine cm_ (fun b4 z=>b4=(bJ_ F s1 st).1∧∃ℓ2,Mv v z ℓ' ℓ2∧Sys z ℓ2 pw (bJ_ F s1 st).2.2 F (us.set i (a,(bJ_ F s1 st).2.1))) ?_ (fun J=>⟨fun _=>?_,fun q=>Bool.noConfusion q⟩)
  ·rintro b4 z ⟨rfl,ℓ2,mv,Hz⟩
   have C2:=hC.step mv
   have Kz:SOk (bJ_ F s1 st).2.2 (us.set i (a,(bJ_ F s1 st).2.1)) (m+200000):=by
    have ok:=(H.at hi1 (List.getElem_set_self _)).1.tab.ok
    have pl:=i2_ ok
    have K2:=K.near (lH_ (F:=F) (st:=st) (file:=s1.keepf) (x:=⟨s1.sure,s1.at_,s1.gen⟩) (l:=cs_ s1) o_)
    have:=(SOk.put (x:=(a,(bJ_ F s1 st).2.1)) (i:=i) K2 (by have:=K2.at hi1 (List.getElem_set_self _);exact this.same this.good rfl rfl rfl rfl rfl rfl)).mono (m':=m+200000) o_
    rw[List.set_set] at this;exact this
   cases hsv:(bJ_ F s1 st).1 with
   | true=>
    rw[hsv,if_pos rfl] at hR
    exact aj_ rfl (C2.fin (X:=⟨okX [],(bJ_ F s1 st).2.1,(bJ_ F s1 st).2.2⟩) hab hR Hz Kz rfl)
   | false=>
    rw[hsv,if_neg Bool.noConfusion] at hR
    exact am_ rfl (bv_ (s:=wfS) fun y gy=>(C2.go gy).fin (X:=⟨snX wfS,(bJ_ F s1 st).2.1,(bJ_ F s1 st).2.2⟩) hab hR (Hz.grow gy) Kz rfl)
  ·refine vw_ H K o_ hi1 (List.getElem_set_self _) fun z ℓ2 mv Hz Kz=>J _ z ⟨rfl,ℓ2,mv,?_⟩
   rw[List.set_set] at Hz;exact Hz
def wD_ (u:O_) (nexus:Int) (c1:Addr) (ab:Nat) (p:Sl) (s:Addr) (b b1:Bool) (R:A_→W_) (w07:World):Prop:=
 Br (!b1) (∃g3:A_,(loadVar av_ s).run Tryz.prog w07=.ok (.agg g3) w07∧aS_ g3 w07 fun g4 w08=>b0_ ab R g4 w08) (∀w010,w010=w07.drew→∃S1:W_,S1 w010∧u.isSome=true∧∃p2:O_,(∀u3,S1 u3→u3.cell? ((gA u).add 5)=some (.pointer p2))∧p2.isSome=true∧∃p3:O_,(∀u4,S1 u4→u4.cell? ((gA p2).add 0)=some (.pointer p3))∧u.isSome=true∧∃p4:O_,(∀u5,S1 u5→u5.cell? ((gA u).add 7)=some (.pointer p4))∧bm_ p4 w010 fun g5 w011=>S1 w011∧∃S2:W_,S2 w011∧(∀u6,S2 u6→S1 u6)∧∃b2:Bool,(∀u7,S2 u7→g5[0]?=some (.bool b2))∧bD_ p3 b2 w011 fun w012=>aR_ (fun(w013:World)=>∃b3:Bool,w013.cell? (c1.add 11)=some (.bool b3)∧bB_ (fun(b4:Bool) (w014:World)=>Br ((b3&&(decide ((p.n:Int)>0)))&&(!b4)) (aS_ #[.int .u8 3,.int .u16 3072,.int .u64 0,.bool false,.int .i64 0,.int .i64 0,.bool false,.bool false] w014 fun g6 w015=>b0_ ab R g6 w015) (b0_ ab R #[.int .u8 0,.int .u8 0,.int .u16 0,.int .u64 0,.bool false,.int .i64 0,.int .i64 0,.bool false,.bool false,.slice none 0 0] w014)) fun J_=>((b3&&(decide ((p.n:Int)>0)))=true→bW_ u w013 J_)∧((b3&&(decide ((p.n:Int)>0)))=false→J_ (Kd.dflt .b) w013)) fun J_1=>Br b (u.isSome=true∧∃p5:O_,w012.cell? ((gA u).add 9)=some (.pointer p5)∧co_ p5 nexus 10753 w012 fun w018=>J_1 w018) (J_1 w012))
theorem kU_ {b b1:Bool} {x:Sn} {sb:Nat} (hC:Cal w v ℓ ℓ cb ab c) (hab:w.heap.size≤ab) (hw:w.heap.size≤v.heap.size) (hi:i<us.length) (hnx:n<8) (hb:Blk v sb (snv x).toArray av_) (hpn:out.n=l.length) (K:SOk st us m) (hm:m≤400000000) (he:us[i]=(a,s)) (hal:(l.length:Int)=c.alloc)
  (hx:match ju_ s.now s.saved c l with
   | .error e=>b1=false∧x=e∧Sys v ℓ pw st F us
   | .ok (b',n',s')=>b1=true∧b=b'∧Sys v ℓ pw st F (us.set i (a,{s with now:=n',saved:=s'})))
  (hR:eK_ w ℓ pw F us i a m (h8_ F s st n c l) R):wD_ (some ⟨a.ub,0,none⟩) (n:Int) ⟨cb,0,none⟩ ab out ⟨sb,0,none⟩ b b1 R v:=by
 unfold h8_ at hR
 rw[if_neg o_] at hR
 cases hs:ju_ s.now s.saved c l with
 | error e=>
  rw[hs] at hR hx
  obtain⟨rfl,rfl,H⟩:=hx
  refine am_ rfl ⟨_,fK_ (ar_ hb),bv_ fun y gy=>(hC.go gy).fin (X:=⟨snX x,s,st⟩) hab hR ?_ ?_ rfl⟩
  ·show Sys y ℓ pw st F (us.set i (a,s));rw[hj_ hi he];exact H.grow gy
  ·show SOk st (us.set i (a,s)) _;rw[hj_ hi he];exact K.mono o_
 | ok q=>
  obtain⟨b',n',s'⟩:=q
  rw[hs] at hR hx
  obtain⟨rfl,rfl,H⟩:=hx
  dsimp only at hR
  obtain⟨z1,z2,z3,z4,z5,z6,z7⟩:=da_ a
  refine aj_ rfl ?_
  rintro w1 rfl
  have g1:=ak_ v
  generalize v.drew=w1 at *
  have hi1:∀y,i<(us.set i (a,y)).length:=fun y=>by rw[List.length_set];exact hi
  have T:∀{y:World},ab_ v y→IsU y (fun k=>ℓ k≠none) pw a {s with now:=n',saved:=s'}:=fun g=>((H.grow g).at (hi1 _) (List.getElem_set_self _)).1
  refine⟨fun y=>ab_ v y,g1,rfl,some ⟨a.dv,0,none⟩,fun y q=>(T q).cellU fun P=>rfl,rfl,some ⟨a.ps,0,none⟩,fun y q=>by rw[gA];exact pZ_ (T q).dev,rfl,some ⟨a.pg,0,none⟩,fun y q=>(T q).cellU fun P=>rfl,?_⟩
  refine hi_ (T g1).pages fun w2 g2=>⟨g1.trans g2,fun y=>ab_ v y,g1.trans g2,fun _ q=>q,n'.wce,fun _ _=>rfl,?_⟩
  have g12:=g1.trans g2
  have H2:=H.grow g12
  obtain⟨hU2,hown⟩:=H2.at (hi1 _) (List.getElem_set_self _)
  have own:∀{b},a.set b→ℓ b≠none:=fun hb=>by rw[hown _ hb];exact Option.some_ne_none _
  refine lI_ (on:=n'.wce) hU2.store fun w3 hk3 hS3=>?_
  have hU3:IsU w3 (fun k=>ℓ k≠none) pw a (m0_ s n' s'):=hU2.cach hk3 (a6_.sub fun b _ q=>by rw[q];exact own z3) (fun b _ hne q=>hne q) (fun _ q=>.inl q) hS3
  obtain⟨m3,H3⟩:=H2.putA (hi1 _) (List.getElem_set_self _) hk3 (fun b _ q=>by rw[q];exact z3) hU3
  rw[List.set_set] at H3
  have C3:=(hC.go g12).step m3
  have epn:decide ((out.n:Int)>0)=decide (l≠[]):=by
   rw[hpn,Bool.eq_iff_iff,decide_eq_true_eq,decide_eq_true_eq]
   constructor
   ·intro h e;rw[e] at h;simp at h
   ·intro h;have:l.length≠0:=fun e=>h (List.length_eq_zero_iff.1 e);omega
  rw[epn]
  have KU:=K.at hi he
  have tail:∀(y:World) (s1:USt),Cal w y ℓ ℓ cb ab c→Sys y ℓ pw st F (us.set i (a,s1))→s1.inf=s.inf→s1.file=s.file→s1.keepf=s.keepf→s1.n=s.n→s1.on=s.on→s1.lock=s.lock→eK_ w ℓ pw F us i a m (gp_ F (c.save&&decide (l≠[])) s1 st) R→∃b3:Bool,y.cell? ((⟨cb,0,none⟩:Addr).add 11)=some (.bool b3)∧bB_ (fun(b4:Bool) (w014:World)=>Br ((b3&&(decide (l≠[])))&&(!b4)) (aS_ #[.int .u8 3,.int .u16 3072,.int .u64 0,.bool false,.int .i64 0,.int .i64 0,.bool false,.bool false] w014 fun g6 w015=>b0_ ab R g6 w015) (b0_ ab R #[.int .u8 0,.int .u8 0,.int .u16 0,.int .u64 0,.bool false,.int .i64 0,.int .i64 0,.bool false,.bool false,.slice none 0 0] w014)) fun J_=>((b3&&(decide (l≠[])))=true→bW_ (some ⟨a.ub,0,none⟩) y J_)∧((b3&&(decide (l≠[])))=false→J_ (Kd.dflt .b) y):=fun y s1 Cy Hy e1 e2 e3 e4 e5 e6 hR=>
   ⟨c.save,Cy.cell rfl,qt_ Cy hab rfl hi Hy (K.put (x:=(a,s1)) (KU.same KU.good e1 e2 e3 e4 e5 e6)) hm hR⟩
  cases b with
  | false=>
   rw[if_neg Bool.noConfusion] at hR
   refine cu_ (fun y=>y=w3) ?_ (fun J=>aj_ rfl (J _ rfl))
   intro y e
   rw[e]
   exact tail w3 _ C3 H3 rfl rfl rfl rfl rfl rfl hR
  | true=>
   rw[if_pos rfl] at hR
   refine cu_ (fun y=>Cal w y ℓ ℓ cb ab c∧Sys y ℓ pw st F (us.set i (a,pg_ (m0_ s n' s') n 10753))) ?_ (fun J=>?_)
   ·rintro y ⟨Cy,Hy⟩
    exact tail y _ Cy Hy rfl rfl rfl rfl rfl rfl hR
   ·refine am_ rfl ⟨rfl,some ⟨a.qb,0,none⟩,hU3.cellU fun P=>rfl,?_⟩
    refine q1_ hU3.q d_ (own z7) H3.lt fun w4 hk4 hq4=>?_
    have hU4:IsU w4 (fun k=>ℓ k≠none) pw a (pg_ (m0_ s n' s') n 10753):=hU3.que hk4 (a6_.sub fun b _ q=>by rw[q];exact own z7) (fun b _ hne q=>hne q) (fun _ q=>.inl q) hq4
    obtain⟨m4,H4⟩:=H3.putA (hi1 _) (List.getElem_set_self _) hk4 (fun b _ q=>by rw[q];exact z7) hU4
    rw[List.set_set] at H4
    exact J w4 ⟨C3.step m4,H4⟩
theorem wE_ (H:Sys w ℓ pw st F us) (K:SOk st us m) (hm:m≤400000000) (hi:i<us.length) (he:us[i]=(a,s)) (hn:n<8) (hp:RdX w ℓ 1 out (bv l)) (hb:c.alloc≤1000000) (hR:eK_ w ℓ pw F us i a m (h8_ F s st n c l) R):ei_ (some ⟨a.ub,0,none⟩) (n:Int) (cmv c).toArray out w R:=by
 refine fF_.calls _ _ _ _ _ _ (Cal.start H fun cb ab w1 g1 hcb hab C1=>?_)
 have H1:=H.grow g1
 have hset:=hj_ hi he
 have hpn:=(cV_ hp.rd).symm
 refine⟨c.alloc,C1.cell rfl,?_⟩
 refine hp_ (fun hne=>?_) (fun hal=>?_)
 ·unfold h8_ at hR
  rw[if_pos o_] at hR
  refine bv_ (s:=dN_ 0x1a00) fun y gy=>(C1.go gy).fin (X:=⟨snX (dN_ 0x1a00),s,st⟩) hab hR ?_ ?_ rfl
  ·show Sys y ℓ pw st F (us.set i (a,s));rw[hset];exact H1.grow gy
  ·show SOk st (us.set i (a,s)) _;rw[hset];exact K.mono o_
 have hb:out.n≤1000000:=o_
 rintro w2 rfl
 have g2:=ak_ w1
 have H2:=H1.grow g2
 have C2:=C1.go g2
 generalize w1.drew=w2 at *
 obtain⟨hU2,hown⟩:=H2.at hi he
 obtain⟨z1,z2,z3,z4,z5,z6,z7⟩:=da_ a
 have own:∀{b},a.set b→ℓ b≠none:=fun hb=>by rw[hown _ hb];exact Option.some_ne_none _
 have hpg:w2.cell? ((gA (some (⟨a.ub,0,none⟩:Addr))).add 7)=some (.pointer (some ⟨a.pg,0,none⟩)):=hU2.cellU fun P=>rfl
 have p2:Rd w2 1 out (bv l):=hp.rd.grow (g1.trans g2)
 have hw12:=(g1.trans g2).size
 have put:∀{y z:World} {n' s':aU_},Sys y ℓ pw st F us→aa_ (fun k=>k=a.pg) y z→IsP z a.pg n' s'→Mv y z ℓ ℓ∧Sys z ℓ pw st F (us.set i (a,{s with now:=n',saved:=s'})):=fun {y z n' s'} Hy hk hp=>by
  have hUy:=(Hy.at hi he).1
  exact Hy.putA hi he hk (fun b _ q=>by rw[q];exact z5) (hUy.pag hk (a6_.sub fun b _ q=>by rw[q];exact own z5) (fun b _ hne q=>hne q) (fun _ q=>.inl q) hp)
 have same:{y:World}→(H:Sys y ℓ pw st F us)→(s':USt)→s'=s→Sys y ℓ pw st F (us.set i (a,s')):=fun H s' e=>by rw[e,hset];exact H
 refine⟨fun y=>y.cell? ((gA (some (⟨a.ub,0,none⟩:Addr))).add 7)=some (.pointer (some ⟨a.pg,0,none⟩))∧(loadVar aD_ ⟨cb,0,none⟩).run Tryz.prog y=.ok (.agg (cmv c).toArray) y,⟨hpg,C2.load⟩,rfl,some ⟨a.pg,0,none⟩,fun y q=>q.1,(cmv c).toArray,fun y q=>q.2,?_,?_⟩
 ·refine oI_ hU2.pages p2 hb ?_
  cases hs:ju_ s.now s.saved c l with
  | error e=>
   intro w3 g3
   have H3:=H2.grow g3
   have C3:=C2.go g3
   refine ag_ fun sb w4 hsb hb4 hg4 hs4=>?_
   have H4:=H3.grow hg4
   have C4:=C3.go hg4
   refine⟨⟨(H4.at hi he).1.cellU fun P=>rfl,C4.load⟩,ap_ (cells:=(snv e).toArray) hb4 aV_ rfl rfl (by simp[snv,Value.oneCell']) fun w5 hb5 hk5 _=>?_⟩
   have g35:ab_ w3 w5:=hg4.keep hk5 fun b hb q=>o_
   exact kU_ (C3.go g35) hab (by have:=g35.size;have:=g3.size;omega) hi hn hb5 hpn K hm he o_ (by rw[hs];exact⟨rfl,rfl,H3.grow g35⟩) hR
  | ok q=>
   obtain⟨b,n',s'⟩:=q
   intro w3 hk3 hP3
   obtain⟨m3,H3⟩:=put H2 hk3 hP3
   have C3:=C2.step m3
   have sz3:=hk3.size
   refine ag_ fun sb w4 hsb hb4 hg4 hs4=>?_
   have H4:=H3.grow hg4
   have C4:=C3.go hg4
   refine⟨⟨(H4.at (by rw[List.length_set];exact hi) (List.getElem_set_self _)).1.cellU fun P=>rfl,C4.load⟩,ap_ (cells:=(snv sn0).toArray) hb4 aV_ rfl rfl (by simp[snv,sn0,Value.oneCell']) fun w5 hb5 hk5 _=>?_⟩
   have g35:ab_ w3 w5:=hg4.keep hk5 fun b hb q=>o_
   exact kU_ (C3.go g35) hab (by have:=g35.size;omega) hi hn hb5 hpn K hm he o_ (by rw[hs];exact⟨rfl,rfl,H3.grow g35⟩) hR
 ·refine ag_ fun sb w3 hsb hb3 hg3 hs3=>?_
  have H3:=H2.grow hg3
  have C3:=C2.go hg3
  have nsb:ℓ sb=none:=H.fresh o_
  refine⟨⟨(H3.at hi he).1.cellU fun P=>rfl,C3.load⟩,?_⟩
  refine oI_ (H3.at hi he).1.pages (p2.grow hg3) hb ?_
  have sz3:=hg3.size
  cases hs:ju_ s.now s.saved c l with
  | error e=>
   intro w4 g4
   refine ap_ (cells:=(snv e).toArray) (g4.heap hb3 (fun q=>q)) aV_ rfl rfl (by simp[snv,Value.oneCell']) fun w5 hb5 hk5 _=>?_
   have g25:ab_ w2 w5:=(hg3.trans g4).keep hk5 fun b hb q=>o_
   exact kU_ (C2.go g25) hab (by have:=g25.size;omega) hi hn hb5 hpn K hm he o_ (by rw[hs];exact⟨rfl,rfl,H2.grow g25⟩) hR
  | ok q=>
   obtain⟨b,n',s'⟩:=q
   intro w4 hk4 hP4
   obtain⟨m4,H4⟩:=put H3 hk4 hP4
   have C4:=C3.step m4
   have hb4:Blk w4 sb _ av_:=m4.heap hb3 nsb
   refine ap_ (cells:=(snv sn0).toArray) hb4 aV_ rfl rfl (by simp[snv,sn0,Value.oneCell']) fun w5 hb5 hk5 _=>?_
   have H5:=H4.local1 hb4 nsb hk5 (eJ_ d_ d_ d_) d_
   have C5:Cal w w5 ℓ ℓ cb ab c:=⟨C4.mv.loc hk5 fun b hb q=>o_,hk5.heap C4.cmd (bu_ C4.cmd hb4 d_),hk5.heap C4.res (bu_ C4.res hb4 d_),C4.ncb,C4.nab⟩
   exact kU_ C5 hab (by have:=hk5.size;have:=hk4.size;omega) hi hn hb5 hpn K hm he o_ (by rw[hs];exact⟨rfl,rfl,H5⟩) hR
end
open Go CF
def nF_:L8:=List.replicate 16 255++[0,0,0,0,1]
def e0_ (c:Cm) (l:L8):gx_:=⟨c.service,c.type,num ((l.drop 0).take 8),num ((l.drop 8).take 8),decide ((l.getD 20 0).toNat=1)⟩
def evQ (q:Nat→List Nat):List Ev→Nat→List Nat
 | []=>q
 | e::r=>evQ (fun t=>if t=e.1 then bd_ (q e.1) e.2 else q t) r
def hl_ (F:Int→Bool) (s:USt) (st:Wst) (n:Nat) (c:Cm) (l:L8):i0_:=
 if c.alloc≠24∨l.length≠24 then⟨snX (dN_ 0x1a00),s,st⟩
 else match fR_ l nF_ 0 with
  | some (j,b)=>⟨snX ⟨5,0x2600,0,false,(j:Int),(b:Int),true,false⟩,s,st⟩
  | none=>if (bI_ s.tab n (e0_ c l)).st≠0 then⟨⟨(bI_ s.tab n (e0_ c l)).st,if (bI_ s.tab n (e0_ c l)).st=2 then⟨5,(bI_ s.tab n (e0_ c l)).code,0,false,0,0,false,false⟩ else sn0,[]⟩,{s with tab:=(bI_ s.tab n (e0_ c l)).t},st⟩
   else gp_ F (s.tab.lasts||(bI_ s.tab n (e0_ c l)).t.lasts) {s with tab:=(bI_ s.tab n (e0_ c l)).t,q:=evQ s.q (bI_ s.tab n (e0_ c l)).ev} st
def hm_ (k:Nat) (l:List Ev):Prop:=l.length≤k∧∀e∈l,e.1<8∧e.2<65536
theorem hm_.le {j k:Nat} {l:List Ev} (h:hm_ j l) (hk:j≤k):hm_ k l:=⟨Nat.le_trans h.1 hk,h.2⟩
theorem i3_ {l:List (Nat×Nat)} {f:Nat×Nat→Bool} {code:Nat} (h:∀r∈l,r.1<8) (hc:code<65536):hm_ l.length (tells l f code):=by
 refine⟨?_,fun e he=>?_⟩
 ·unfold tells
  rw[List.length_map]
  exact List.length_filter_le _ _
 ·unfold tells at he
  obtain⟨r,hr,rfl⟩:=List.mem_map.1 he
  exact⟨h r (List.mem_filter.1 hr).1,hc⟩
theorem b2_ (k:Nat):hm_ k []:=⟨Nat.zero_le _,fun _ h=>by cases h⟩
theorem vx_ {j k:Nat} {a b:List Ev} (ha:hm_ j a) (hb:hm_ k b):hm_ (j+k) (a++b):=⟨by have:=ha.1;have:=hb.1;rw[List.length_append];omega,fun e he=>(List.mem_append.1 he).elim (ha.2 e) (hb.2 e)⟩
theorem qu_ {t:aT_} {n:Nat} (h:∀r∈t.regs,r.1<8):hm_ t.regs.length (jv_ t n).2:=by
 show hm_ _ (if 5≤t.kind then tells t.regs (fun r=>decide (r.1≠n)) 10756 else [])
 split
 ·exact i3_ h d_
 ·exact b2_ _
theorem lJ_ {t:aT_} {n:Nat} {o:gx_} {b:Bool} (h:∀r∈t.regs,r.1<8) (hl:t.regs.length≤8):hm_ 16 (dG_ t n o b).2:=by
 show hm_ 16 (bx_ t n o b).2
 unfold bx_
 split
 ·split
  ·have e:(iY_ t n 0).regs=t.regs.filter (fun r=>decide (r.1<n))++t.regs.filter (fun r=>decide (n<r.1)):=by
    show t.regs.filter (fun r=>decide (r.1<n))++(if (0:Nat)≠0 then [(n,0)] else [])++t.regs.filter (fun r=>decide (n<r.1))=_
    rw[if_neg d_,List.append_nil]
   refine(qu_ fun r hr=>?_).le ?_
   ·rw[e] at hr
    rcases List.mem_append.1 hr with hr|hr<;>exact h r (List.mem_filter.1 hr).1
   ·rw[e,List.length_append]
    have:=List.length_filter_le (fun r:Nat×Nat=>decide (r.1<n)) t.regs
    have:=List.length_filter_le (fun r:Nat×Nat=>decide (n<r.1)) t.regs
    omega
  ·exact b2_ _
 ·split<;>exact b2_ _
theorem vy_ {t:aT_} {n:Nat} {o:gx_} (h:∀r∈t.regs,r.1<8) (hl:t.regs.length≤8):hm_ 16 (bI_ t n o).ev:=by
 unfold bI_
 split
 ·exact b2_ _
 split
 ·exact lJ_ h hl
 split
 ·split
  ·exact b2_ _
  ·exact lJ_ h hl
 split
 ·exact b2_ _
 split
 ·unfold dO_
  split
  ·exact b2_ _
  split
  ·exact b2_ _
  split<;>exact b2_ _
 split
 ·unfold fu_
  split
  ·exact b2_ _
  split
  ·exact b2_ _
  ·exact(qu_ h).le o_
 split
 ·exact(i3_ h d_).le o_
 ·unfold fv_
  split
  ·exact b2_ _
  split
  ·exact b2_ _
  split
  ·exact b2_ _
  ·dsimp only
   split
   ·refine(vx_ (i3_ h d_) (k:=8) ?_).le o_
    split
    ·refine(i3_ (fun r hr=>h r (List.mem_filter.1 hr).1) d_).le ?_
     have:=List.length_filter_le (pf_ t n o.action (allK t.kind&&decide (o.action=0))) t.regs
     omega
    ·exact b2_ _
   ·exact(i3_ h d_).le o_
theorem vz_ (t:aT_) (n:Nat) (o:gx_):(bI_ t n o).st=0∨(bI_ t n o).st=2∨(bI_ t n o).st=24:=by
 unfold bI_
 split
 ·exact .inr (.inl rfl)
 split
 ·exact .inl rfl
 split
 ·split
  ·exact .inr (.inr rfl)
  ·exact .inl rfl
 split
 ·exact .inr (.inr rfl)
 split
 ·unfold dO_
  split
  ·exact .inr (.inl rfl)
  split
  ·exact .inl rfl
  split
  ·exact .inl rfl
  ·exact .inr (.inr rfl)
 split
 ·unfold fu_
  split
  ·exact .inl rfl
  split
  ·exact .inr (.inl rfl)
  ·exact .inl rfl
 split
 ·exact .inl rfl
 ·unfold fv_
  split
  ·exact .inr (.inl rfl)
  split
  ·exact .inr (.inl rfl)
  split
  ·exact .inr (.inr rfl)
  ·dsimp only
   split<;>exact .inl rfl
theorem vA_ (q:Nat→List Nat):∀{l:List Ev} {j:Nat} (hj:j<l.length),evQ q (l.take (j+1))=fun t=>if t=l[j].1 then bd_ (evQ q (l.take j) l[j].1) l[j].2 else evQ q (l.take j) t:=by
 intro l
 induction l generalizing q with
 | nil=>intro j hj;cases hj
 | cons e r ih=>
  intro j hj
  cases j with
  | zero=>rfl
  | succ j=>
   have:=ih (fun t=>if t=e.1 then bd_ (q e.1) e.2 else q t) (j:=j) (by simpa using hj)
   simpa [evQ] using this
section
variable {w u v z w3:World} {S D D':Nat→Prop} {pw i m n ab cb:Nat} {a:UA} {s:USt} {st st':Wst} {F F':Int→Bool} {ℓ ℓ' ℓ1 ℓ2:Nat→Option Nat} {us:List (UA×USt)} {X:i0_} {R:A_→W_} {out:Sl} {l:L8} {c:Cm}
theorem ud_ (H:Sys w ℓ pw st F us) (K:SOk st us m) (hm:m≤400000000) (hi:i<us.length) (he:us[i]=(a,s)) (hn:n<8) (hp:RdX w ℓ 1 out (bv l)) (hc:i1_ c) (hR:eK_ w ℓ pw F us i a m (hl_ F s st n c l) R):ej_ (some ⟨a.ub,0,none⟩) (n:Int) (cmv c).toArray out w R:=by
 refine fG_.calls _ _ _ _ _ _ (Cal.start H fun cb ab w1 g1 hcb hab C1=>?_)
 have H1:=H.grow g1
 have hset:=hj_ hi he
 have hpn:=(cV_ hp.rd).symm
 have KU:=K.at hi he
 have e24:(((c.alloc != 24)||((out.n:Int) != 24)):Bool)=decide (c.alloc≠24∨l.length≠24):=by
  rw[Bool.eq_iff_iff,Bool.or_eq_true,bne_iff_ne,bne_iff_ne,decide_eq_true_eq];omega
 have fail:∀{y:World} {e:Sn},Cal w y ℓ ℓ cb ab c→Sys y ℓ pw st F us→eK_ w ℓ pw F us i a m ⟨snX e,s,st⟩ R→b0_ ab R (rsv 2 e au_).toArray y:=fun {y e} C Hy hR=>by
  refine C.fin (X:=⟨snX e,s,st⟩) hab hR ?_ ?_ rfl
  ·show Sys y ℓ pw st F (us.set i (a,s));rw[hset];exact Hy
  ·show SOk st (us.set i (a,s)) _;rw[hset];exact K.mono o_
 refine⟨c.alloc,C1.cell rfl,?_⟩
 rw[e24]
 unfold hl_ at hR
 refine a2_ (fun q=>?_) (fun q=>?_)
 ·rw[if_pos q] at hR
  exact bv_ (s:=dN_ 0x1a00) fun y gy=>fail (C1.go gy) (H1.grow gy) hR
 rw[if_neg q] at hR
 have hl24:l.length=24:=o_
 refine aN_ (cells:=(bv nF_).toArray) (e:=ae_) (z:=1) (base:=w1.heap.size) k_ rfl d_ (Nat.le_refl _) fun w2 o2 g2 _=>?_
 have g12:=g1.trans g2
 have p2:Rd w2 1 out (bv l):=hp.rd.grow g12
 have C2:=C1.go g2
 have H2:=H1.grow g2
 refine qc_ p2 (o2.rd (by dsimp only;decide)) ?_
 cases ho:fR_ l nF_ 0 with
 | some jb=>
  obtain⟨j,b⟩:=jb
  rw[ho] at hR
  exact am_ (by rw[decide_eq_true_eq];omega) (bv_ (s:=⟨5,0x2600,0,false,(j:Int),(b:Int),true,false⟩) fun y gy=>fail (C2.go gy) (H2.grow gy) hR)
 | none=>
 rw[ho] at hR
 dsimp only at hR ⊢
 refine aj_ d_ ?_
 rintro w3 rfl
 have g3:=ak_ w2
 have C3:=C2.go g3
 have H3:=H2.grow g3
 generalize w2.drew=w3 at *
 have g13:=g12.trans g3
 have p3:Rd w3 1 out (bv l):=hp.rd.grow g13
 obtain⟨hA,h20⟩:=dC_ p3 (i:=20) o_
 have e20:l[20]' o_=l.getD 20 0:=by rw[List.getD_eq_getElem?_getD,List.getElem?_eq_getElem o_];rfl
 refine⟨fun y=>ab_ w3 y,aa_.refl _ _,(c.service:Int),fun y q=>(C3.go q).cell rfl,(c.type:Int),fun y q=>(C3.go q).cell rfl,⟨d_,o_,hA⟩,(((l.getD 20 0).toNat:Nat):Int),fun y q=>?_,?_⟩
 ·obtain⟨_,h20⟩:=dC_ (p3.grow q) (i:=20) o_
  exact h20
 refine ag_ fun ob w4 hob hb4 hg4 hs4=>⟨hg4,?_⟩
 have e1:((((l.getD 20 0).toNat:Nat):Int)==1)=decide ((l.getD 20 0).toNat=1):=by rw[Bool.eq_iff_iff,beq_iff_eq,decide_eq_true_eq];omega
 rw[e1]
 refine ap_ (cells:=#[.int .u8 (c.service:Int),.int .u8 (c.type:Int),.int .u64 0,.int .u64 0,.bool (decide ((l.getD 20 0).toNat=1))]) hb4 pN_ rfl rfl (by simp[Value.oneCell']) fun w5 hb5 hk5 hs5=>?_
 have g35:ab_ w3 w5:=hg4.keep hk5 fun b hb q=>o_
 have p5:Rd w5 1 out (bv l):=p3.grow g35
 refine gu_ (at_:=0) (n:=8) p5 o_ d_ d_ o_ ?_
 rw[aq_]
 refine a0_ hb5 (by show 2<5;decide) rfl fun w6 hb6 hk6 hs6=>?_
 have g36:ab_ w3 w6:=g35.keep hk6 fun b hb q=>o_
 have p6:Rd w6 1 out (bv l):=p3.grow g36
 refine gu_ (at_:=8) (n:=8) p6 o_ d_ d_ o_ ?_
 rw[aq_]
 refine a0_ hb6 (by show 3<5;decide) rfl fun w7 hb7 hk7 hs7=>?_
 have g37:ab_ w3 w7:=g36.keep hk7 fun b hb q=>o_
 have hb7:Blk w7 ob (otv (e0_ c l)).toArray bp_:=hb7
 have C7:=C3.go g37
 have H7:=H3.grow g37
 obtain⟨hU7,hown⟩:=H7.at hi he
 obtain⟨z1,z2,z3,z4,z5,z6,z7⟩:=da_ a
 have own:∀{b},a.set b→ℓ b≠none:=fun hb=>by rw[hown _ hb];exact Option.some_ne_none _
 refine⟨rfl,some ⟨a.tb,0,none⟩,hU7.cellU fun P=>rfl,ly_ hU7.tab ?_⟩
 rintro w8 rfl
 have g8:=ak_ w7
 have C8:=C7.go g8
 have H8:=H7.grow g8
 have hb8:Blk w7.drew ob (otv (e0_ c l)).toArray bp_:=g8.heap hb7 (fun q=>q)
 generalize w7.drew=w8 at *
 have hU8:=(H8.at hi he).1
 refine⟨fun y=>y=w8,rfl,rfl,some ⟨a.tb,0,none⟩,(by rintro y rfl;exact hU8.cellU fun P=>rfl),(otv (e0_ c l)).toArray,(by rintro y rfl;exact l3_ hb8),?_⟩
 have p8b:(256:Nat) ^ 8=18446744073709551616:=rfl
 have nl:∀x:L8,x.length≤8→num x<18446744073709551616:=fun x hx=>by
  have:=j3_ x
  have h2:(256:Nat) ^ x.length≤256 ^ 8:=Nat.pow_le_pow_right d_ hx
  omega
 have oo:nB_ (e0_ c l):=⟨nl _ (by rw[List.length_take];omega),nl _ (by rw[List.length_take];omega),hc.type⟩
 refine t5_ hU8.tab H8.lt hn oo hc.service fun ev w9 hk9 hT9 ho9=>?_
 have hev:=vy_ (t:=s.tab) (n:=n) (o:=e0_ c l) (fun r hr=>(hU8.tab.ok.regs r hr).1) hU8.tab.ok.few
 have hst:=vz_ s.tab n (e0_ c l)
 generalize bI_ s.tab n (e0_ c l)=d at *
 have hU9:IsU w9 (fun k=>ℓ k≠none) pw a {s with tab:=d.t}:=hU8.tabl hk9 (a6_.sub fun b _ q=>by rw[q];exact own z6) (fun b _ hne q=>hne q) (fun _ q=>.inl q) hT9
 obtain⟨m9,H9⟩:=H8.putA hi he hk9 (fun b _ q=>by rw[q];exact z6) hU9
 have C9:=C8.step m9
 have K9:SOk st (us.set i (a,{s with tab:=d.t})) m:=K.put (x:=(a,{s with tab:=d.t})) (KU.same KU.good rfl rfl rfl rfl rfl rfl)
 have sw9:w.heap.size≤w9.heap.size:=by have:=(g13.trans (g37.trans g8)).size;have:=hk9.size;omega
 refine hp_ (fun hne=>?_) (fun hz=>?_)
 ·have hst0:d.st≠0:=o_
  rw[if_pos hst0] at hR
  refine ag_ fun rb w10 hrb hb10 hg10 hs10=>?_
  refine ap_ (cells:=(rsv d.st sn0 au_).toArray) hb10 gQ_ rfl rfl (mT_ _ _ _) fun w11 hb11 hk11 _=>?_
  have g11:ab_ w9 w11:=hg10.keep hk11 fun b hb q=>o_
  have C11:=C9.go g11
  have H11:=H9.grow g11
  have fin:∀(x:Sn) (y:World),Blk y rb (rsv d.st x au_).toArray ad_→ab_ w9 y→eK_ w ℓ pw F us i a m ⟨⟨d.st,x,[]⟩,{s with tab:=d.t},st⟩ R→∃g3:A_,(loadVar ad_ ⟨rb,0,none⟩).run Tryz.prog y=.ok (.agg g3) y∧b0_ ab R g3 y:=fun x y hby gy hR=>
   ⟨_,kK_ (ar_ hby),(C9.go gy).fin (X:=⟨⟨d.st,x,[]⟩,{s with tab:=d.t},st⟩) hab hR (H9.grow gy) (K9.mono o_) rfl⟩
  refine cu_ (fun y=>Blk y rb (rsv d.st (if d.st=2 then⟨5,d.code,0,false,0,0,false,false⟩ else sn0) au_).toArray ad_∧ab_ w9 y) ?_ (fun J=>?_)
  ·rintro y ⟨hby,gy⟩
   exact fin _ y hby gy hR
  ·refine as_ (y:=2) (fun h2=>?_) (fun h2=>?_)
   ·have h2:d.st=2:=o_
    rw[if_pos h2] at J
    rw[aq_]
    refine fp_ (o:=1) (cells:=(snv ⟨5,d.code,0,false,0,0,false,false⟩).toArray) hb11 aV_ rfl (by simp[rsv,snv]) (by intro x hx;simp[snv] at hx;rcases hx with rfl|rfl|rfl|rfl|rfl|rfl|rfl<;>rfl) fun w12 hb12 hk12 _=>J w12 ⟨hb12,g11.keep hk12 fun b hb q=>o_⟩
   ·have h2:d.st≠2:=o_
    rw[if_neg h2] at J
    exact J w11 ⟨hb11,g11⟩
 ·have hst0:d.st=0:=o_
  rw[if_neg o_] at hR
  have hi9:i<(us.set i (a,{s with tab:=d.t})).length:=by rw[List.length_set];exact hi
  have hxn:d.ev.length=ev.n:=by have:=ho9.len;rw[rK_] at this;omega
  refine⟨fun x y=>∃j:Nat,x=j∧j≤d.ev.length∧aa_ (fun k=>k=a.qb) w9 y∧IsU y (fun k=>ℓ k≠none) pw a {s with tab:=d.t,q:=evQ s.q (d.ev.take j)}∧Own y w8.heap.size aY_ 2 ev (evv d.ev),fun x _=>ev.n-x.toNat,⟨0,rfl,Nat.zero_le _,aa_.refl _ _,hU9,ho9⟩,?_⟩
  rintro x y ⟨j,rfl,hj,hky,hUy,hoy⟩
  have syw:=hky.size
  refine bl_ (fun hlt=>?_) (fun hge=>?_)
  ·have hjl:j<d.ev.length:=o_
   have hcap8:ev.n≤140737489403904:=by have:=hev.1;omega
   obtain⟨hA9,hcl⟩:=xe_ (f:=evc) rJ_ d_ (hoy.rd hcap8) hjl
   refine⟨⟨o_,o_,hA9⟩,(evc d.ev[j]).toArray,by rw[Int.toNat_natCast];exact aE_ r8_ kv_ rfl hcl,?_⟩
   refine ag_ fun eb y1 heb hby1 hgy1 hsy1=>ap_ (cells:=(evc d.ev[j]).toArray) hby1 kv_ rfl rfl (by simp[evc,Value.oneCell']) fun y2 hby2 hky2 hsy2=>?_
   have gy2:ab_ y y2:=hgy1.keep hky2 fun b hb q=>o_
   rintro y3 rfl
   have gy3:=gy2.trans (ak_ y2)
   have hby3:Blk y2.drew eb (evc d.ev[j]).toArray aY_:=(ak_ y2).heap hby2 (fun q=>q)
   generalize y2.drew=y3 at *
   have hU3:=hUy.grow gy3
   refine⟨fun o=>o=y3,rfl,rfl,some ⟨a.qb,0,none⟩,(by rintro o rfl;exact hU3.cellU fun P=>rfl),(d.ev[j].1:Int),(by rintro o rfl;rw[aq_,hby3.cell];rfl),(d.ev[j].2:Int),(by rintro o rfl;rw[aq_,hby3.cell];rfl),?_⟩
   obtain⟨v1,v2⟩:=hev.2 d.ev[j] (List.getElem_mem hjl)
   have sy3:=gy3.size
   refine kO_ hU3.q v1 v2 (own z7) (fun b hb=>by have:=H9.lt b hb;omega) fun y4 hk4 hq4=>?_
   rw[w64 o_ o_]
   have k94:aa_ (fun k=>k=a.qb) w9 y4:=(hky.grow gy3).trans hk4 fun _ _ q=>q
   refine⟨⟨j+1,o_,o_,k94,?_,?_⟩,by dsimp only;omega⟩
   ·have:=hU3.que hk4 (a6_.sub fun b _ q=>by rw[q];exact own z7) (fun b _ hne q=>hne q) (fun _ q=>.inl q) hq4
    rw[vA_ s.q hjl];exact this
   ·obtain⟨ss,_,hqb,_⟩:=hU3.q.rep
    exact(hoy.grow gy3).keep hk4 fun b hbb q=>be_ (hoy.grow gy3) hqb d_ (by rw[hbb,q])
  ·have:j=d.ev.length:=o_
   subst this
   rw[List.take_length] at hUy
   obtain⟨my,Hy⟩:=H9.putA hi9 (List.getElem_set_self _) hky (fun b _ q=>by rw[q];exact z7) hUy
   rw[List.set_set] at Hy
   have Cy:=C9.step my
   have Ky:SOk st (us.set i (a,{s with tab:=d.t,q:=evQ s.q d.ev})) m:=K.put (x:=(a,{s with tab:=d.t,q:=evQ s.q d.ev})) (KU.same KU.good rfl rfl rfl rfl rfl rfl)
   refine⟨fun _=>rfl,some ⟨a.tb,0,none⟩,fun _=>hUy.cellU fun P=>rfl,?_⟩
   have kf:=qt_ (b:=s.tab.lasts||d.t.lasts) Cy hab rfl hi Hy Ky hm hR
   refine cm_ (fun b1 o=>o=y∧(s.tab.lasts||b1)=(s.tab.lasts||d.t.lasts)) ?_ (fun J=>⟨fun hnl=>ly_ hUy.tab (J _ _ ⟨rfl,rfl⟩),fun hnl=>J _ _ ⟨rfl,by
    have:s.tab.lasts=true:=by simpa using hnl
    rw[this];rfl⟩⟩)
   rintro b1 o ⟨ho,eb⟩
   rw[ho,eb]
   exact kf
end
open Go CF
def fN_ (F:Int→Bool) (s:USt) (st:Wst):USt:=
 {s with q:=onQ s.q,sure:=(aI_ F st s.keepf ⟨s.sure,s.at_,s.gen⟩).2.2.2.1.sure,at_:=(aI_ F st s.keepf ⟨s.sure,s.at_,s.gen⟩).2.2.2.1.at_,gen:=(aI_ F st s.keepf ⟨s.sure,s.at_,s.gen⟩).2.2.2.1.gen}
def fO_ (s1:USt) (e:Nat) (l:L8):Nat×USt:=
 if e=8 then(0,s1) else if e≠0 then(e,s1)
 else if l = []∨7<(l.getD 0 0).toNat then(3,s1)
 else match hM_ (l.drop 1) with
  | none=>(3,s1)
  | some t=>(0,{s1 with tab:=t,now:=f5_ (l.getD 0 0).toNat,saved:=f5_ (l.getD 0 0).toNat,cache:=(f5_ (l.getD 0 0).toNat).wce})
def cd_ (F:Int→Bool) (s:USt) (st:Wst):Nat×USt×Wst:=
 ((fO_ (fN_ F s st) (aI_ F st s.keepf ⟨s.sure,s.at_,s.gen⟩).1 (aI_ F st s.keepf ⟨s.sure,s.at_,s.gen⟩).2.1).1,
 (fO_ (fN_ F s st) (aI_ F st s.keepf ⟨s.sure,s.at_,s.gen⟩).1 (aI_ F st s.keepf ⟨s.sure,s.at_,s.gen⟩).2.1).2,
 (aI_ F st s.keepf ⟨s.sure,s.at_,s.gen⟩).2.2.2.2)
def aC_ (F:Int→Bool) (s:USt) (st:Wst):Nat×USt×Wst:=
 if s.on=1 then(s.fault,s,st) else((cd_ F s st).1,{(cd_ F s st).2.1 with on:=1,lock:=0,fault:=(cd_ F s st).1},(cd_ F s st).2.2)
structure UA.like (a a':UA):Prop where
 ub:a'.ub=a.ub
 dv:a'.dv=a.dv
 ps:a'.ps=a.ps
 sl:a'.sl=a.sl
 qb:a'.qb=a.qb
theorem UA.like.refl (a:UA):a.like a:=⟨rfl,rfl,rfl,rfl,rfl⟩
structure USt.same (s s':USt):Prop where
 inf:s'.inf=s.inf
 file:s'.file=s.file
 keepf:s'.keepf=s.keepf
 n:s'.n=s.n
 peers:s'.peers=s.peers
 count:s'.count=s.count
theorem nG_ {s1:USt} {e:Nat} {l:L8}:s1.same (fO_ s1 e l).2∧(fO_ s1 e l).2.on=s1.on∧(fO_ s1 e l).2.lock=s1.lock∧(fO_ s1 e l).2.fault=s1.fault:=by
 unfold fO_
 split
 ·exact⟨⟨rfl,rfl,rfl,rfl,rfl,rfl⟩,rfl,rfl,rfl⟩
 split
 ·exact⟨⟨rfl,rfl,rfl,rfl,rfl,rfl⟩,rfl,rfl,rfl⟩
 split
 ·exact⟨⟨rfl,rfl,rfl,rfl,rfl,rfl⟩,rfl,rfl,rfl⟩
 split
 ·exact⟨⟨rfl,rfl,rfl,rfl,rfl,rfl⟩,rfl,rfl,rfl⟩
 ·exact⟨⟨rfl,rfl,rfl,rfl,rfl,rfl⟩,rfl,rfl,rfl⟩
theorem jM_ {F:Int→Bool} {s:USt} {st:Wst}:s.same (aC_ F s st).2.1:=by
 unfold aC_
 split
 ·exact⟨rfl,rfl,rfl,rfl,rfl,rfl⟩
 ·have:=(nG_ (s1:=fN_ F s st) (e:=(aI_ F st s.keepf ⟨s.sure,s.at_,s.gen⟩).1) (l:=(aI_ F st s.keepf ⟨s.sure,s.at_,s.gen⟩).2.1)).1
  exact⟨this.inf,this.file,this.keepf,this.n,this.peers,this.count⟩
theorem vB_ (l:L8):(bV_ l).2.1.length≤4096:=by
 unfold bV_
 split
 ·decide
 split
 ·decide
 split
 ·decide
 ·rename_i h _
  show((l.drop 16).take (num ((l.drop 12).take 4))).length≤4096
  rw[List.length_take];omega
theorem rO_ (F:a7_) (file:ByteArray):∀k,(ldN F file k).2.2.length≤4096
 | 0=>Nat.zero_le _
 | k+1=>by
  show(cb_ (ldN F file k) k (bf_ F file k)).2.2.length≤4096
  unfold cb_
  split
  ·exact vB_ _
  ·exact rO_ F file k
theorem rg_ {F:Int→Bool} {st:Wst} {file:ByteArray} {x:SlX}:(aI_ F st file x).2.1.length≤4096:=by
 unfold aI_
 split
 ·exact Nat.zero_le _
 ·exact rO_ _ _ 2
section
variable {w u v z w3:World} {S D D' N N':Nat→Prop} {pw i m n ab cb:Nat} {a:UA} {s:USt} {st st':Wst} {F F':Int→Bool} {ℓ ℓ' ℓ1 ℓ2:Nat→Option Nat} {us:List (UA×USt)}
theorem nH_ {s:USt}:eZ_ st (aC_ F s st).2.2 s.keepf 2:=by
 unfold aC_
 split
 ·exact(eZ_.refl st s.keepf).le d_
 ·exact lG_
theorem vC_ {R:Int→W_} (H:Sys w ℓ pw st F us) (hkf:1≤s.keepf.size∧s.keepf.size≤30) (hop:st.ops<10000000000) (hi:i<us.length) (he:us[i]=(a,s))
  (hR:∀u ℓ' a',a.like a'→Mv w u ℓ ℓ'→Sys u ℓ' pw (cd_ F s st).2.2 F (us.set i (a',(cd_ F s st).2.1))→R (((cd_ F s st).1:Nat):Int) u):dk_ (some ⟨a.ub,0,none⟩) w R:=by
 refine dv_.calls _ _ _ ?_
 obtain⟨hU,hown⟩:=H.at hi he
 have hNl:∀b,ℓ b≠none→b<w.heap.size:=H.lt
 obtain⟨z1,z2,z3,z4,z5,z6,z7⟩:=da_ a
 have own:∀{b},a.set b→ℓ b≠none:=fun hb=>by rw[hown _ hb];exact Option.some_ne_none _
 refine⟨fun x v=>∃j:Nat,x=j∧j≤8∧aa_ (fun k=>k=a.qb) w v∧IsU v (fun k=>ℓ k≠none) pw a {s with q:=fun t=>if t<j then bd_ (s.q t) 10496 else s.q t},fun x _=>8-x.toNat,⟨0,rfl,d_,aa_.refl _ _,?_⟩,?_⟩
 ·have:(fun t=>if t<0 then bd_ (s.q t) 10496 else s.q t)=s.q:=by funext t;rw[if_neg o_]
  rw[this];exact hU
 rintro x v ⟨j,rfl,hj,hkv,hUv⟩
 refine bl_ (y:=8) (fun hlt=>?_) (fun hge=>?_)
 ·refine⟨rfl,some ⟨a.qb,0,none⟩,hUv.cellU fun P=>rfl,?_⟩
  refine kO_ hUv.q hlt d_ (own z7) (fun b hb=>by have:=hNl b hb;have:=hkv.size;omega) fun v' hk' hq'=>?_
  rw[w64 o_ o_]
  refine⟨⟨j+1,o_,o_,hkv.trans hk' fun _ _ q=>q,?_⟩,by dsimp only;omega⟩
  have e:(fun t=>if t=j then bd_ (if j<j then bd_ (s.q j) 10496 else s.q j) 10496 else if t<j then bd_ (s.q t) 10496 else s.q t)=fun t=>if t<j+1 then bd_ (s.q t) 10496 else s.q t:=by
   funext t
   by_cases e:t=j
   ·subst e;rw[if_pos rfl,if_neg o_,if_pos o_]
   ·rw[if_neg e]
    by_cases e2:t<j
    ·rw[if_pos e2,if_pos o_]
    ·rw[if_neg e2,if_neg o_]
  rw[←e]
  exact hUv.que hk' (a6_.sub fun b _ q=>by rw[q];exact own z7) (fun b _ hne q=>hne q) (fun _ q=>.inl q) hq'
 have hj8:j=8:=o_
 subst hj8
 obtain⟨hmv,Hv⟩:=H.putA hi he hkv (fun b _ q=>by rw[q];exact z7) hUv
 have hi':i<(us.set i (a,{s with q:=fun t=>if t<8 then bd_ (s.q t) 10496 else s.q t})).length:=by rw[List.length_set];exact hi
 obtain⟨D,hW,hD⟩:=Hv.W
 refine⟨rfl,some ⟨a.sl,0,none⟩,hUv.cellU fun P=>rfl,?_⟩
 refine j5_ (x:=⟨s.sure,s.at_,s.gen⟩) hUv.slots (fun q=>by have:=hD _ q;rw[hown _ z4] at this;injection this with this;omega) hW hkf o_ fun best w2 hk2 hW2 hS2 ho2=>?_
 have hU2:IsU w2 (fun k=>ℓ k≠none) pw a (fN_ F s st):=by
  refine hUv.slot hk2 (a6_.sub fun b _ q=>?_) (fun b hb hne q=>?_) (fun b hb=>.inl hb) hS2
  ·rcases q with q|q
   ·rw[hD b q];exact Option.some_ne_none _
   ·rw[q];exact own z4
  ·rcases q with q|q
   ·have:=hD b q
    rw[hown b hb] at this
    injection this with this
    omega
   ·exact hne q
 have hs:=Hv.all (a':=a) (s':=fN_ F s st) hi' hD hk2 (fun b _ q=>by
    rcases q with q|q
    ·exact .inl q
    ·refine .inr ?_
     rw[List.getElem_set_self];rw[q];exact z4) hW2 (fun _ q=>.inl q) (fun b hb=>.inl (by rw[List.getElem_set_self];exact hb)) (fun b hb q=>by have:=hW.lt q;omega) (fun N' hN'=>by
    refine hUv.slot hk2 (a6_.sub fun b _ q=>?_) (fun b hb hne q=>?_) (fun b hb=>?_) hS2
    ·rcases q with q|q
     ·rw[hD b q];exact Option.some_ne_none _
     ·rw[q];exact own z4
    ·rcases q with q|q
     ·have:=hD b q
      rw[hown b hb] at this
      injection this with this
      omega
     ·exact hne q
    ·rcases hN' b hb with q|q
     ·exact .inl q
     ·exact .inr q.1)
 obtain⟨ℓ2,m2,H2⟩:=hs
 rw[List.set_set] at H2
 have m2:=hmv.trans m2
 have hR:∀u ℓ' a',a.like a'→Mv w u ℓ ℓ'→Sys u ℓ' pw (aI_ F st s.keepf ⟨s.sure,s.at_,s.gen⟩).2.2.2.2 F (us.set i (a',(fO_ (fN_ F s st) (aI_ F st s.keepf ⟨s.sure,s.at_,s.gen⟩).1 (aI_ F st s.keepf ⟨s.sure,s.at_,s.gen⟩).2.1).2))→R (((fO_ (fN_ F s st) (aI_ F st s.keepf ⟨s.sure,s.at_,s.gen⟩).1 (aI_ F st s.keepf ⟨s.sure,s.at_,s.gen⟩).2.1).1:Nat):Int) u:=hR
 have hll:=rg_ (F:=F) (st:=st) (file:=s.keepf) (x:=⟨s.sure,s.at_,s.gen⟩)
 clear hS2 hW2 hU2
 generalize (aI_ F st s.keepf ⟨s.sure,s.at_,s.gen⟩).2.2.2.2=st2 at *
 generalize (aI_ F st s.keepf ⟨s.sure,s.at_,s.gen⟩).1=e at *
 generalize (aI_ F st s.keepf ⟨s.sure,s.at_,s.gen⟩).2.1=l at *
 generalize fN_ F s st=s1 at *
 have hbn:=fe_ ho2
 unfold fO_ at hR
 refine as_ (y:=8) (fun e8=>?_) (fun e8=>?_)
 ·rw[if_pos o_] at hR
  exact hR w2 ℓ2 a (UA.like.refl a) m2 H2
 rw[if_neg o_] at hR
 refine hp_ (fun e0=>?_) (fun e0=>?_)
 ·rw[if_pos o_] at hR
  exact hR w2 ℓ2 a (UA.like.refl a) m2 H2
 rw[if_neg o_] at hR
 have hrd:Rd w2 1 best (bv l):=ho2.rd o_
 have hcap:=hrd.cap
 have h0:l≠[]→best.A.isSome=true∧w2.cell? ((gA best.A).add ((0:Int).toNat*1))=some (.int .u8 (((l.getD 0 0).toNat:Nat):Int)):=fun q=>by
  have:0<l.length:=List.length_pos_iff.2 q
  obtain⟨x1,x2⟩:=dC_ hrd (i:=0) this
  exact⟨x1,x2⟩
 have en:(((best.n:Int)==0):Bool)=decide (l = []):=by
  rw[Bool.eq_iff_iff,beq_iff_eq,decide_eq_true_eq]
  constructor
  ·intro q;exact List.length_eq_zero_iff.1 o_
  ·intro q;rw[q] at hbn;simp at hbn;omega
 rw[en]
 have nn:(!decide (l = []))=true→l≠[]:=fun q=>by simpa using q
 refine⟨fun q=>?_,(((l.getD 0 0).toNat:Nat):Int),fun q=>(h0 (nn q)).2,?_⟩
 ·have:=List.length_pos_iff.2 (nn q)
  exact⟨d_,o_,(h0 (nn q)).1⟩
 have eb:((decide (l = [])||decide ((((l.getD 0 0).toNat:Nat):Int)>7)):Bool)=decide (l = []∨7<(l.getD 0 0).toNat):=by
  rw[Bool.eq_iff_iff,Bool.or_eq_true,decide_eq_true_eq,decide_eq_true_eq,decide_eq_true_eq]
  exact or_congr Iff.rfl ⟨fun h=>o_,fun h=>o_⟩
 rw[eb]
 refine a2_ (fun q=>?_) (fun q=>?_)
 ·rw[if_pos q] at hR
  exact hR w2 ℓ2 a (UA.like.refl a) m2 H2
 rw[if_neg q] at hR
 have hl0:l≠[]:=fun e=>q (.inl e)
 have hlp:0<l.length:=List.length_pos_iff.2 hl0
 have hb7:(l.getD 0 0).toNat≤7:=by have:¬7<(l.getD 0 0).toNat:=fun e=>q (.inr e);omega
 have hcut:=hrd.cutB (l:=1) (k:=best.n) o_ (Nat.le_refl _)
 have ed:(l.drop 1).take (best.n-1)=l.drop 1:=List.take_of_length_le (by rw[List.length_drop];omega)
 rw[ed] at hcut
 refine⟨⟨d_,o_,o_,hcap⟩,rb_ hcut (by show best.n-1≤_;omega) ?_⟩
 cases hlt:hM_ (l.drop 1) with
 | none=>
  rw[hlt] at hR
  exact fun v g=>am_ d_ (hR v ℓ2 a (UA.like.refl a) (m2.go g) (H2.grow g))
 | some t=>
 rw[hlt] at hR
 dsimp only at hR
 intro tb w3 T3
 have ok:=vp_ hlt
 have hr3:=hrd.grow T3.keep
 obtain⟨x1,x2⟩:=dC_ hr3 (i:=0) hlp
 refine aj_ d_ ⟨⟨d_,o_,x1⟩,(((l.getD 0 0).toNat:Nat):Int),x2,qs_ hb7 fun w4 g4=>gk_ fun pb w5 g5 hpb hP5=>?_⟩
 generalize f5_ (l.getD 0 0).toNat=vv at *
 have hi2:i<(us.set i (a,s1)).length:=by rw[List.length_set];exact hi
 obtain⟨hU2,hown2⟩:=H2.at hi2 (List.getElem_set_self _)
 have own2:∀{b},a.set b→ℓ2 b≠none:=fun hb=>by rw[hown2 _ hb];exact Option.some_ne_none _
 have T5:=(T3.go g4).go g5
 have g25:=T5.keep
 obtain⟨P5,hub5,hpr5⟩:=(hU2.grow g25).unit
 have lub:a.ub<w2.heap.size:=hU2.lt z1
 have lps:a.ps<w2.heap.size:=hU2.lt z3
 have s3:=T3.keep.size
 have s4:=g4.size
 refine⟨rfl,?_⟩
 rw[gA,aq_]
 refine a0_ hub5 (by show 8<16;decide) rfl fun w6 hub6 hk6 hs6=>⟨rfl,?_⟩
 refine a0_ hub6 (by show 7<16;decide) rfl fun w7 hub7 hk7 hs7=>?_
 rintro w8 rfl
 have g8:=ak_ w7
 generalize w7.drew=w8 at *
 have k28:aa_ (fun b=>b=a.ub) w2 w8:=((g25.mono fun _ _ q=>q.elim).trans (hk6.trans hk7 fun _ _ q=>q) fun _ _ q=>q).grow g8
 have k58:aa_ (fun b=>b=a.ub) w5 w8:=(hk6.trans hk7 fun _ _ q=>q).grow g8
 have sf:∀{S:Nat→Prop},(∀b,S b→b=a.ub∨b=a.ps)→a6_ w2 (fun k=>ℓ2 k≠none) S:=fun hS=>a6_.sub fun b _ q=>by
  rcases hS b q with r|r
  ·rw[r];exact own2 z1
  ·rw[r];exact own2 z3
 have hub8:Blk w8 a.ub (cQ_ {a with tb:=tb,pg:=pb} P5 {s1 with tab:=t,now:=vv,saved:=vv,cache:=vv.wce}) bi_:=g8.heap hub7 (fun q=>q)
 obtain⟨y1,y2,y3,y4,y5,y6,y7⟩:=hU2.step1 (N':=fun k=>ℓ2 k≠none) k28 (sf fun b q=>.inl q) (fun b q=>.inl q)
 obtain⟨n1,n2,n3,n4,n5,n6,n7,n8,n9,n10,n11,n12,n13,n14,n15,n16,n17,n18,n19,n20,n21⟩:=hU2.ne
 have dev8:=y2 fun e=>n1 e.symm
 have sto8:=y3 fun e=>n2 e.symm
 have hP8:IsP w8 pb vv vv:=k58.heap hP5 o_
 have cu:∀{o:Nat} {x:Value},(cQ_ {a with tb:=tb,pg:=pb} P5 {s1 with tab:=t,now:=vv,saved:=vv,cache:=vv.wce})[o]?=some x→w8.cell? ((gA (some (⟨a.ub,0,none⟩:Addr))).add o)=some x:=fun e=>by rw[gA,aq_,hub8.cell,Nat.zero_add];exact e
 have cug:∀{y:World} {o:Nat} {x:Value},ab_ w8 y→(cQ_ {a with tb:=tb,pg:=pb} P5 {s1 with tab:=t,now:=vv,saved:=vv,cache:=vv.wce})[o]?=some x→y.cell? ((gA (some (⟨a.ub,0,none⟩:Addr))).add o)=some x:=fun g e=>by rw[gA,aq_,Blk.cell (g.heap hub8 (fun q=>q)),Nat.zero_add];exact e
 refine⟨fun y=>ab_ w8 y,aa_.refl _ _,rfl,some ⟨a.dv,0,none⟩,fun y q=>cug q rfl,rfl,some ⟨a.ps,0,none⟩,fun y q=>by rw[gA];exact pZ_ (q.heap dev8 (fun q=>q)),rfl,some ⟨pb,0,none⟩,fun y q=>cug q rfl,?_⟩
 refine hi_ hP8 fun w9 g9=>⟨g9,fun y=>ab_ w8 y,g9,fun _ q=>q,vv.wce,fun _ _=>rfl,?_⟩
 have sto9:IsS w9 a.ps pw s1.file s1.n s1.cache:=g9.heap sto8 (fun q=>q)
 refine lI_ (on:=vv.wce) sto9 fun w10 hk10 hS10=>?_
 have k10:aa_ (fun b=>b=a.ub∨b=a.ps) w2 w10:=((k28.grow g9).mono fun _ _ q=>.inl q).trans hk10 fun _ _ q=>.inr q
 have lt5:=k28.size
 have lpb:pb<w5.heap.size:=aw_ hP5
 obtain⟨sT,hT1,hT2⟩:=T5.blk
 have ltb:tb<w5.heap.size:=aw_ hT1
 have hm:=H2.move (i:=i) (a':={a with tb:=tb,pg:=pb}) (s':={s1 with tab:=t,now:=vv,saved:=vv,cache:=vv.wce}) hi2 k10 (fun b _ q=>by
   rw[List.getElem_set_self]
   rcases q with r|r
   ·rw[r];exact z1
   ·rw[r];exact z3) (fun b hb=>by
   rw[List.getElem_set_self]
   rcases hb with r|r|r|r|r|r|r
   ·exact .inl (.inl r)
   ·exact .inl (.inr (.inl r))
   ·exact .inl (.inr (.inr (.inl r)))
   ·exact .inl (.inr (.inr (.inr (.inl r))))
   ·refine .inr ?_;rw[r];show w2.heap.size≤pb;omega
   ·refine .inr ?_;rw[r];exact T3.new
   ·exact .inl (.inr (.inr (.inr (.inr (.inr (.inr r))))))) (fun N' hN'=>?_)
 ·obtain⟨ℓ3,m3,H3⟩:=hm
  rw[List.set_set] at H3
  exact hR w10 ℓ3 {a with tb:=tb,pg:=pb} ⟨rfl,rfl,rfl,rfl,rfl⟩ (m2.trans m3) H3
 ·have hNN:∀b,N' b→ℓ2 b≠none∨w2.heap.size≤b:=fun b hb=>(hN' b hb).elim .inl fun q=>.inr q.1
  obtain⟨v1,v2,v3,v4,v5,v6,v7⟩:=hU2.step1 (N':=N') k10 (sf fun b q=>q) hNN
  have k510:aa_ (fun b=>b=a.ub∨b=a.ps) w5 w10:=((k58.grow g9).mono fun _ _ q=>.inl q).trans hk10 fun _ _ q=>.inr q
  have nub:∀{b},w2.heap.size≤b→¬(b=a.ub∨b=a.ps):=fun hb q=>by rcases q with r|r<;>omega
  have hub10:Blk w10 a.ub (cQ_ {a with tb:=tb,pg:=pb} P5 {s1 with tab:=t,now:=vv,saved:=vv,cache:=vv.wce}) bi_:=hk10.heap (g9.heap hub8 (fun q=>q)) n2
  have hTb:Blk w10 tb (bM_ sT t) bQ_:=k510.heap hT1 (nub T3.new)
  have hPb:IsP w10 pb vv vv:=k510.heap hP5 (nub o_)
  refine⟨⟨P5,hub10,?_⟩,v2 (fun q=>q.elim (fun r=>n1 r.symm) fun r=>n7 r),hS10,v4 (fun q=>q.elim (fun r=>n3 r.symm) fun r=>n12 r.symm),hPb,⟨⟨sT,hTb,?_⟩,ok⟩,v7 (fun q=>q.elim (fun r=>n6 r.symm) fun r=>n15 r.symm)⟩
  ·obtain⟨Pq,hq1,hq2⟩:=hU2.unit
   have e5:Blk w5 a.ub (cQ_ a Pq s1) bi_:=g25.heap hq1 (fun q=>q)
   have ePP:Pq=P5:=by
    have:=e5.symm.trans hub5
    injection this with this
    injection this with this _ _
    have h10:=congrArg (fun x=>x[10]?) this
    have h10:some (Value.slice Pq.A Pq.n Pq.c)=some (Value.slice P5.A P5.n P5.c):=h10
    injection h10 with h10
    injection h10 with h1 h2 h3
    obtain⟨A1,n1,c1⟩:=Pq
    obtain⟨A2,n2,c2⟩:=P5
    dsimp only at h1 h2 h3
    subst h1 h2 h3
    rfl
   rw[←ePP]
   exact hq2.step (.inr (.inr rfl)) k10 (sf fun b q=>q) hNN
  ·have hT3:Own w10 w2.heap.size ax_ 2 sT (rgv t.regs):=hT2.keep k510 fun b hb q=>nub (hT2.ge b hb).1 q
   refine⟨hT3.mono (Nat.zero_le _),by have:=hT3.len;rw[bG_] at this;have:=ok.few;omega,fun b hb hN=>?_⟩
   have hbw:=(hT3.ge b hb).1
   rcases hN' b hN with r|⟨_,r⟩
   ·have:=H2.lt b r;omega
   ·rcases r with r|r|r|r|r|r|r
    ·have:b=a.ub:=r;omega
    ·have:b=a.dv:=r;have:=hU2.lt z2;omega
    ·have:b=a.ps:=r;omega
    ·have:b=a.sl:=r;have:=hU2.lt z4;omega
    ·exact be_ hT3 hPb d_ (by rw[hb,r])
    ·exact be_ hT3 hTb d_ (by rw[hb,r])
    ·have:b=a.qb:=r;have:=hU2.lt z7;omega
theorem mr_ {F:Int→Bool} {s:USt} {st:Wst} (h:s.on=1∨(s.on=0∧s.lock=0)):(aC_ F s st).2.1.on=1:=by
 unfold aC_
 split
 ·assumption
 ·rfl
def kV_ (F:Int→Bool) (s:USt) (st:Wst):Prop:=∀{R:Int→W_} {w:World} {ℓ:Nat→Option Nat} {pw i:Nat} {a:UA} {us:List (UA×USt)},Sys w ℓ pw st F us→1≤s.keepf.size∧s.keepf.size≤30→st.ops<10000000000→i<us.length→us[i]?=some (a,s)→
 (∀u ℓ' a',a.like a'→Mv w u ℓ ℓ'→Sys u ℓ' pw (cd_ F s st).2.2 F (us.set i (a',(cd_ F s st).2.1))→R (((cd_ F s st).1:Nat):Int) u)→dk_ (some ⟨a.ub,0,none⟩) w R
theorem vD_ (F:Int→Bool) (s:USt) (st:Wst):kV_ F s st:=fun H hk ho hi he hR=>vC_ H hk ho hi (List.getElem?_eq_some_iff.1 he).2 hR
theorem ue_ {R:Int→W_} (hL:s.on≠1→kV_ F {s with lock:=1} st) (H:Sys w ℓ pw st F us) (K:SOk st us m) (hm:m≤500000000) (hi:i<us.length) (he:us[i]=(a,s))
  (hR:∀u ℓ' a',a.like a'→Mv w u ℓ ℓ'→Sys u ℓ' pw (aC_ F s st).2.2 F (us.set i (a',(aC_ F s st).2.1))→SOk (aC_ F s st).2.2 (us.set i (a',(aC_ F s st).2.1)) (m+2)→R (((aC_ F s st).1:Nat):Int) u):bZ_ (some ⟨a.ub,0,none⟩) w R:=by
 have KU:=K.at hi he
 have hKs:∀a':UA,SOk (aC_ F s st).2.2 (us.set i (a',(aC_ F s st).2.1)) (m+2):=fun a'=>by
  have K2:=K.near (nH_ (F:=F) (s:=s) (st:=st))
  refine K2.put (x:=(a',(aC_ F s st).2.1)) ?_
  have KU2:=K2.at hi he
  have sm:=jM_ (F:=F) (s:=s) (st:=st)
  refine⟨by rw[sm.n];exact KU2.n,by rw[sm.inf];exact KU2.form,by rw[sm.file,sm.keepf];exact KU2.name,by rw[sm.file];exact KU2.good,.inl (mr_ KU.once)⟩
 have hR:∀u ℓ' a',a.like a'→Mv w u ℓ ℓ'→Sys u ℓ' pw (aC_ F s st).2.2 F (us.set i (a',(aC_ F s st).2.1))→R (((aC_ F s st).1:Nat):Int) u:=fun u ℓ' a' h1 h2 h3=>hR u ℓ' a' h1 h2 h3 (hKs a')
 clear hKs
 rcases KU.once with hon|⟨hon,hlk⟩
 ·unfold aC_ at hR
  rw[if_pos hon] at hR
  exact mm_ H hi he hon fun u g=>hR u ℓ a (UA.like.refl a) (Mv.grow g) (by show Sys u ℓ pw st F (us.set i (a,s));rw[hj_ hi he];exact H.grow g)
 unfold aC_ at hR
 rw[if_neg o_] at hR
 refine cr_.calls _ _ _ (ag_ fun fb w1 hfb hb1 hg1 hs1=>?_)
 obtain⟨z1,z2,z3,z4,z5,z6,z7⟩:=da_ a
 have H1:=H.grow hg1
 obtain⟨hU,hown⟩:=H1.at hi he
 have hfn:ℓ fb=none:=H.fresh o_
 have cf:∀{v:World},Blk v fb #[.pointer (some ⟨a.ub,0,none⟩)] aL_→v.cell? ⟨fb,0,none⟩=some (.pointer (some ⟨a.ub,0,none⟩)):=fun q=>by rw[Blk.cell q];rfl
 refine⟨some ⟨a.ub,0,none⟩,cf hb1,some ⟨a.ub,0,none⟩,fun _=>cf hb1,fun _=>rfl,some ⟨a.dv,0,none⟩,fun _=>hU.cellU fun P=>rfl,aj_ rfl ⟨some ⟨a.ub,0,none⟩,cf hb1,rfl,?_⟩⟩
 rw[show(gA (some (⟨a.ub,0,none⟩:Addr))).add 11=⟨a.ub,11,none⟩ by rw[gA,aq_]]
 obtain⟨P,hP1,hP2⟩:=hU.unit
 refine nq_ (o:=11) hP1 (by show some (Value.int .u32 (s.on:Int))=_;rw[hon];rfl) (by show some (Value.int .i32 (s.lock:Int))=_;rw[hlk];rfl) fun w2 hb2 hk2 hs2=>?_
 have sfe:∀{S:Nat→Prop} {x:World},(∀b,S b→b=a.ub)→a6_ x (fun k=>ℓ k≠none) S:=fun hS=>a6_.sub fun b _ q=>by rw[hS b q,hown _ z1];exact Option.some_ne_none _
 have hU2:IsU w2 (fun k=>ℓ k≠none) pw a {s with lock:=1}:=hU.unitC (on:=s.on) (lk:=1) (fl:=s.fault) (ct:=s.count) (ps:=s.peers) hk2 (sfe fun _ q=>q) (fun b _ hne q=>hne q) (fun _ q=>.inl q) ⟨P,hb2,hP2.step (.inr (.inr rfl)) hk2 (sfe fun _ q=>q) fun _ q=>.inl q⟩
 obtain⟨m2,H2⟩:=H1.putA hi he hk2 (fun b _ q=>by rw[q];exact z1) hU2
 have hi2:i<(us.set i (a,{s with lock:=1})).length:=by rw[List.length_set];exact hi
 have hf2:Blk w2 fb #[.pointer (some ⟨a.ub,0,none⟩)] aL_:=m2.heap hb1 hfn
 refine cx_.calls _ _ _ ?_
 rintro w3 rfl
 have hg3:=ak_ w2
 have H3:=H2.grow hg3
 have hf3:Blk w2.drew fb _ aL_:=hg3.heap hf2 (fun q=>q)
 generalize w2.drew=w3 at *
 refine⟨fun o=>o.cell? ⟨fb,0,none⟩=some (.pointer (some ⟨a.ub,0,none⟩)),cf hf3,some ⟨a.ub,0,none⟩,fun _ q=>q,some ⟨a.ub,0,none⟩,fun _ q=>q,?_⟩
 have elu:cd_ F {s with lock:=1} st=((cd_ F s st).1,{(cd_ F s st).2.1 with lock:=1},(cd_ F s st).2.2):=by
  unfold cd_ fO_ fN_
  dsimp only
  split
  ·rfl
  split
  ·rfl
  split
  ·rfl
  cases hM_ ((aI_ F st s.keepf ⟨s.sure,s.at_,s.gen⟩).2.1.drop 1)<;>rfl
 refine hL o_ H3 KU.sizes.2 (by have:=K.few;omega) hi2 (List.getElem?_eq_some_iff.2 ⟨hi2,List.getElem_set_self _⟩) fun w4 ℓ4 a4 hl4 m4 H4=>?_
 rw[elu,List.set_set] at H4
 rw[elu]
 dsimp only at H4 ⊢
 have hi4:∀y,i<(us.set i y).length:=fun y=>by rw[List.length_set];exact hi
 obtain⟨hU4,hown4⟩:=H4.at (hi4 _) (List.getElem_set_self _)
 have hf4:Blk w4 fb _ aL_:=m4.heap hf3 hfn
 have sm:=(nG_ (s1:=fN_ F s st) (e:=(aI_ F st s.keepf ⟨s.sure,s.at_,s.gen⟩).1) (l:=(aI_ F st s.keepf ⟨s.sure,s.at_,s.gen⟩).2.1))
 have son:(cd_ F s st).2.1.on=s.on:=sm.2.1
 generalize (cd_ F s st).1=e at *
 generalize (cd_ F s st).2.1=s4 at *
 generalize (cd_ F s st).2.2=st4 at *
 obtain⟨q1,q2,q3,q4,q5,q6,q7⟩:=da_ a4
 have eub:=hl4.ub
 obtain⟨P4,hP41,hP42⟩:=hU4.unit
 rw[eub] at hP41 q1
 refine⟨cf hf4,rfl,?_⟩
 rw[gA,aq_]
 refine a0_ hP41 (by show 14<16;decide) rfl fun w5 hb5 hk5 hs5=>⟨_,hb5,by show some (Value.int .u32 (s4.on:Int))=_;rw[son,hon];rfl,rfl,fun w6 hb6 hk6 hs6=>?_⟩
 have k46:aa_ (fun b=>b=a.ub) w4 w6:=hk5.trans hk6 fun _ _ q=>q
 have sf4:a6_ w4 (fun k=>ℓ4 k≠none) fun b=>b=a.ub:=a6_.sub fun b _ q=>by rw[q,hown4 _ q1];exact Option.some_ne_none _
 have hU6:IsU w6 (fun k=>ℓ4 k≠none) pw a4 {s4 with on:=1,lock:=0,fault:=e}:=hU4.unitC (on:=1) (lk:=0) (fl:=e) (ct:=s4.count) (ps:=s4.peers) k46 sf4 (fun b _ hne q=>hne (by rw[eub];exact q)) (fun _ q=>.inl q) ⟨P4,by rw[eub];exact hb6,hP42.step (.inr (.inr rfl)) k46 sf4 fun _ q=>.inl q⟩
 obtain⟨m6,H6⟩:=H4.putA (hi4 _) (List.getElem_set_self _) k46 (fun b _ q=>by rw[q];exact q1) hU6
 rw[List.set_set] at H6
 have hf6:Blk w6 fb _ aL_:=k46.heap hf4 fun q=>by
  have:=hown4 _ q1
  rw[←q] at this
  have e:=m4.lab fb (by have:=aw_ hf3;exact this)
  rw[e,hfn] at this;cases this
 obtain⟨hU6',_⟩:=H6.at (hi4 _) (List.getElem_set_self _)
 have cu:w6.cell? ((gA (some (⟨a.ub,0,none⟩:Addr))).add 14)=some (.int .i64 (e:Int)):=by
  have:=hU6'.cellU (o:=14) (x:=.int .i64 (e:Int)) fun P=>rfl
  rwa [eub] at this
 refine⟨some ⟨a.ub,0,none⟩,cf hf6,rfl,(e:Int),cu,?_⟩
 exact hR w6 ℓ4 a4 hl4 (((((Mv.grow hg1).trans m2).trans (Mv.grow hg3)).trans m4).trans m6) H6
end
open Go CF
structure m1_ where
 from_:Int
 to_:Int
 blocks:Int
 src:Nat
 dst:Nat
def sub (p:L8) (at_ n:Nat):L8:=(p.drop at_).take n
def xX_ (l:L8):L8:=(l.reverse.dropWhile (·==32)).reverse
def xp_:L8:=[0xe4,0,0,0,2,1,0,20]
def wF_ (d:L8):Option Nat:=
 match (List.range 8).find? (fun i=>decide (d.getD i 0≠xp_.getD i 0)) with
 | some i=>some i
 | none=>if d.getD 28 0≠0 then some 28 else if num (sub d 29 3)≠16 then some 29 else none
def xq_ (d:L8):L8:=xX_ (sub d 8 20)
def xr_ (nu:Nat) (q:L8):Option Nat:=
 if num (sub q 0 4)≠0x02000018 then some 0 else if num (sub q 8 2)≠0 then some 8 else if nu≤num (sub q 4 2) then some 4 else if nu≤num (sub q 6 2) then some 6
 else if 256<num (sub q 10 2) then some 10 else none
def xY_ (q:L8):m1_:=⟨(num (sub q 4 2):Int),(num (sub q 6 2):Int),(num (sub q 10 2):Int),num (sub q 12 8),num (sub q 20 8)⟩
def nuX (p:L8):Nat:=num (sub p 2 2)
def nsX (p:L8):Nat:=num (sub p 8 4)
def xZ_ (p:L8):Option Sn:=
 if p.length<16 then some (dN_ 0x1a00)
 else if num (sub p 0 2)≠0 then some (mS_ 0) else if num (sub p 4 4)≠0 then some (mS_ 4) else if num (sub p 12 4)≠0 then some (mS_ 12)
 else if nuX p%32≠0 then some (mS_ 2) else if nsX p%28≠0 then some (mS_ 8) else if p.length≠16+nuX p+nsX p then some (dN_ 0x1a00)
 else if 256<nuX p∨224<nsX p then some (dN_ 0x2608) else none
def uf_ (p:L8) (j:Nat):L8:=sub p (16+32*j) 32
def v0_ (p:L8) (j:Nat):L8:=sub p (16+nuX p+28*j) 28
def xs_ (p:L8) (j:Nat):Option Nat:=(wF_ (uf_ p j)).map (16+32*j + ·)
def xt_ (p:L8) (j:Nat):Option Nat:=(xr_ (nuX p/32) (v0_ p j)).map (16+nuX p+28*j + ·)
def xu_ (p:L8) (k:Nat):List L8:=(List.range k).map fun j=>xq_ (uf_ p j)
def x0_ (p:L8) (k:Nat):List m1_:=(List.range k).map fun j=>xY_ (v0_ p j)
structure xv_ where
 us:List L8
 ss:List m1_
 sn:Sn
 ok:Bool
def noX (s:Sn):xv_:=⟨[],[],s,false⟩
def j9_ (p:L8):xv_:=
 if p = [] then⟨[],[],sn0,true⟩ else match xZ_ p with
 | some s=>noX s
 | none=>match (List.range (nuX p/32)).findSome? (xs_ p) with
  | some f=>noX (mS_ f)
  | none=>match (List.range (nsX p/28)).findSome? (xt_ p) with
   | some f=>noX (mS_ f)
   | none=>⟨xu_ p (nuX p/32),x0_ p (nsX p/28),sn0,true⟩
open Go CF
open Go CF
open Go CF
open Go CF
def uOk (s:L8):Prop:=s.length≤20∧s.getLast?≠some 32
def sOk (nu:Nat) (x:m1_):Prop:=0≤x.from_∧x.from_<nu∧0≤x.to_∧x.to_<nu∧0≤x.blocks∧x.blocks≤256
instance (s:L8):Decidable (uOk s):=by unfold uOk;infer_instance
instance (nu:Nat) (x:m1_):Decidable (sOk nu x):=by unfold sOk;infer_instance
open Go CF
open Go CF
open Go CF
open Go CF
open Go CF
open Go CF
open Go CF
open Go CF
section
variable {w u v:World} {dv ps pw:Nat} {file:ByteArray} {kind n:Nat} {cache:Bool} {D D':Nat→Prop} {st st':Wst} {bs bs':List Bk} {m m':Nat}
end
open Go CF
theorem iD_ {v:World} {s:Nat} {sn:Sn} {d:Sl} {K:Addr→W_} (h:∀rb v',rb=v.heap.size→ab_ v v'→Blk v' rb (rsv s sn d).toArray ad_→K ⟨rb,0,none⟩ v') :
  New (.cells z10 ad_) v fun a v1=>ah_ Tryz.prog (storeVar ad_ a (.agg (rsv s sn d).toArray)) v1 fun x=>K a x:=by
 refine ag_ fun rb v1 hrb hb1 hg1 hsz1=>gw_ hb1 rfl fun v2 hb2 hk2 hsz2=>?_
 exact h rb v2 hrb (hg1.keep hk2 fun i hi q=>o_) hb2
open Go CF
def rdC (lba blocks:Nat):Cm:=⟨7,false,lba,blocks,0,false,0,false,false,0,0,false,0,0,false⟩
def wrC (lba blocks:Nat):Cm:=⟨8,false,lba,blocks,0,false,0,false,false,0,0,false,0,0,false⟩
open Go CF
structure Dq where
 serial:ByteArray
 dv:Nat
 ps:Nat
 file:ByteArray
 kind:Nat
 n:Nat
 cache:Bool
 shut:Nat
def v1_ (L:List Dq) (us:List L8) (i:Int):Option Dq:=if 0≤i then(us[i.toNat]?).bind fun s=>L.find? fun d=>decide (d.serial=str s) else none
def yl_ (F:Int→Bool) (L:List Dq) (us:List L8) (st:Wst) (x:m1_):Option Nat×Wst:=
 match v1_ L us x.from_,v1_ L us x.to_ with
 | some a,some b=>if a.shut%2=1∨b.shut/2%2=1 then(some 3330,st)
  else if (doX F a.kind a.n a.cache a.file st (rdC x.src x.blocks.toNat) []).1.st≠0 then(some (doX F a.kind a.n a.cache a.file st (rdC x.src x.blocks.toNat) []).1.sn.code,(doX F a.kind a.n a.cache a.file st (rdC x.src x.blocks.toNat) []).2)
  else if (doX F b.kind b.n b.cache b.file (doX F a.kind a.n a.cache a.file st (rdC x.src x.blocks.toNat) []).2 (wrC x.dst ((doX F a.kind a.n a.cache a.file st (rdC x.src x.blocks.toNat) []).1.d.length/16)) (doX F a.kind a.n a.cache a.file st (rdC x.src x.blocks.toNat) []).1.d).1.st≠0
   then(some (doX F b.kind b.n b.cache b.file (doX F a.kind a.n a.cache a.file st (rdC x.src x.blocks.toNat) []).2 (wrC x.dst ((doX F a.kind a.n a.cache a.file st (rdC x.src x.blocks.toNat) []).1.d.length/16)) (doX F a.kind a.n a.cache a.file st (rdC x.src x.blocks.toNat) []).1.d).1.sn.code,(doX F b.kind b.n b.cache b.file (doX F a.kind a.n a.cache a.file st (rdC x.src x.blocks.toNat) []).2 (wrC x.dst ((doX F a.kind a.n a.cache a.file st (rdC x.src x.blocks.toNat) []).1.d.length/16)) (doX F a.kind a.n a.cache a.file st (rdC x.src x.blocks.toNat) []).1.d).2)
  else(none,(doX F b.kind b.n b.cache b.file (doX F a.kind a.n a.cache a.file st (rdC x.src x.blocks.toNat) []).2 (wrC x.dst ((doX F a.kind a.n a.cache a.file st (rdC x.src x.blocks.toNat) []).1.d.length/16)) (doX F a.kind a.n a.cache a.file st (rdC x.src x.blocks.toNat) []).1.d).2)
 | _,_=>(some 3330,st)
def sV_ (F:Int→Bool) (L:List Dq) (us:List L8):Nat→List m1_→Wst→Nat×RsX×Wst
 | n,[],st=>(n,okX [],st)
 | n,x::r,st=>match yl_ F L us st x with
  | (some code,st')=>(n,snX (atS 10 code n),st')
  | (none,st')=>sV_ F L us (n+1) r st'
section
variable {w u v:World} {pw m:Nat} {D D':Nat→Prop} {st st':Wst} {F:Int→Bool} {L:List Dq}
end
open Go CF
open Go CF
abbrev Pu:=List (Nat×USt)
def pub (us:List (UA×USt)):Pu:=us.map fun x=>(x.1.ub,x.2)
def qv_ (P:Pu) (b:Nat):Nat:=P.findIdx fun x=>decide (x.1=b)
def x1_ (s:USt) (n:Nat):Nat:=(if bN_ s.tab n 1=true then 1 else 0)+(if (bN_ s.tab n 2||s.now.swp)=true then 2 else 0)
def fx_ (F:Int→Bool) (n:Nat):List Nat→Pu→Wst→List (Nat×Nat)×Pu×Wst
 | [],P,st=>([],P,st)
 | b::r,P,st=>match P[qv_ P b]? with
  | none=>fx_ F n r P st
  | some x=>if (aC_ F x.2 st).1≠0 then fx_ F n r (P.set (qv_ P b) (x.1,(aC_ F x.2 st).2.1)) (aC_ F x.2 st).2.2
   else((qv_ P b,x1_ (aC_ F x.2 st).2.1 n)::(fx_ F n r (P.set (qv_ P b) (x.1,(aC_ F x.2 st).2.1)) (aC_ F x.2 st).2.2).1,(fx_ F n r (P.set (qv_ P b) (x.1,(aC_ F x.2 st).2.1)) (aC_ F x.2 st).2.2).2)
def xw_ (P:Pu) (x:Nat×Nat):Dq:=match P[x.1]? with
 | some y=>⟨y.2.inf.s,0,0,y.2.file,y.2.inf.prot,y.2.n,y.2.cache,x.2⟩
 | none=>⟨⟨#[]⟩,0,0,⟨#[]⟩,0,0,false,0⟩
def v2_ (F:Int→Bool) (P:Pu) (st:Wst) (i n:Nat) (c:Cm) (l:L8):RsX×Pu×Wst:=
 if (l.length:Int)≠c.alloc then(snX (dN_ 0x1a00),P,st)
 else if (j9_ l).ok=false then(snX (j9_ l).sn,P,st)
 else match P[i]? with
  | none=>(snX sn0,P,st)
  | some x=>((sV_ F ((fx_ F n (x.1::x.2.peers) P st).1.map (xw_ (fx_ F n (x.1::x.2.peers) P st).2.1)) (j9_ l).us 0 (j9_ l).ss (fx_ F n (x.1::x.2.peers) P st).2.2).2.1,
    (fx_ F n (x.1::x.2.peers) P st).2.1,
    (sV_ F ((fx_ F n (x.1::x.2.peers) P st).1.map (xw_ (fx_ F n (x.1::x.2.peers) P st).2.1)) (j9_ l).us 0 (j9_ l).ss (fx_ F n (x.1::x.2.peers) P st).2.2).2.2)
structure nI_ (us us':List (UA×USt)):Prop where
 len:us'.length=us.length
 all:∀k (h:k<us.length) (h':k<us'.length),us[k].1.like us'[k].1∧us[k].2.same us'[k].2
theorem UA.like.trans {a b c:UA} (h:a.like b) (g:b.like c):a.like c:=⟨g.ub.trans h.ub,g.dv.trans h.dv,g.ps.trans h.ps,g.sl.trans h.sl,g.qb.trans h.qb⟩
theorem USt.same.refl (s:USt):s.same s:=⟨rfl,rfl,rfl,rfl,rfl,rfl⟩
theorem USt.same.trans {a b c:USt} (h:a.same b) (g:b.same c):a.same c:=⟨g.inf.trans h.inf,g.file.trans h.file,g.keepf.trans h.keepf,g.n.trans h.n,g.peers.trans h.peers,g.count.trans h.count⟩
theorem nI_.set {us:List (UA×USt)} {i:Nat} {a a':UA} {s s':USt} (hi:i<us.length) (he:us[i]=(a,s)) (h1:a.like a') (h2:s.same s'):nI_ us (us.set i (a',s')):=⟨List.length_set,fun k h h'=>by
 rw[List.getElem_set]
 split
 ·rename_i e
  subst e
  rw[he];exact⟨h1,h2⟩
 ·exact⟨UA.like.refl _,USt.same.refl _⟩⟩
theorem rP_ {us:List (UA×USt)} {i:Nat} {a:UA} {s:USt}:pub (us.set i (a,s))=(pub us).set i (a.ub,s):=by unfold pub;rw[List.map_set]
theorem oa_ {us:List (UA×USt)} {i:Nat} (hi:i<us.length):(pub us)[i]?=some (us[i].1.ub,us[i].2):=by unfold pub;rw[List.getElem?_map,List.getElem?_eq_getElem hi];rfl
section
variable {w u v z w3:World} {S D D':Nat→Prop} {pw i m n ab cb:Nat} {a:UA} {s:USt} {st st':Wst} {F F':Int→Bool} {ℓ ℓ' ℓ1 ℓ2:Nat→Option Nat} {us us':List (UA×USt)} {R:A_→W_} {out:Sl} {l:L8} {c:Cm}
structure LB (v:World) (ℓ:Nat→Option Nat) (b:Nat) (cs:A_) (t:TypeId):Prop where
 blk:Blk v b cs t
 no:ℓ b=none
theorem LB.go {b:Nat} {cs:A_} {t:TypeId} (h:LB v ℓ b cs t) (g:ab_ v z):LB z ℓ b cs t:=⟨g.heap h.blk (fun q=>q),h.no⟩
theorem LB.mv {b:Nat} {cs:A_} {t:TypeId} (h:LB v ℓ b cs t) (m:Mv v z ℓ ℓ'):LB z ℓ' b cs t:=⟨m.heap h.blk h.no,by rw[m.lab _ (aw_ h.blk)];exact h.no⟩
structure LR (v:World) (ℓ:Nat→Option Nat) (base:Nat) (e:TypeId) (q:Nat) (x:Sl) (vs:List Value):Prop where
 own:CF.Own v base e q x vs
 no:∀b,x.blk=some b→ℓ b=none
theorem LR.go {base q:Nat} {e:TypeId} {x:Sl} {vs:List Value} (h:LR v ℓ base e q x vs) (g:ab_ v z):LR z ℓ base e q x vs:=⟨h.own.grow g,h.no⟩
theorem LR.mv {base q:Nat} {e:TypeId} {x:Sl} {vs:List Value} (h:LR v ℓ base e q x vs) (m:Mv v z ℓ ℓ'):LR z ℓ' base e q x vs:=⟨h.own.keep m.keep fun b hb r=>r (h.no b hb),fun b hb=>by rw[m.lab _ (h.own.ge b hb).2];exact h.no b hb⟩
end
open Go CF
section
variable {w u v z w3:World} {S D D':Nat→Prop} {pw i m n ab cb:Nat} {a:UA} {s:USt} {st st':Wst} {F F':Int→Bool} {ℓ ℓ' ℓ1 ℓ2:Nat→Option Nat} {us us':List (UA×USt)} {R:A_→W_} {out:Sl} {l:L8} {c:Cm}
end
open Go CF
section
variable {w u v z w3:World} {S D D':Nat→Prop} {pw i m n ab cb:Nat} {a:UA} {s:USt} {st st':Wst} {F F':Int→Bool} {ℓ ℓ' ℓ1 ℓ2:Nat→Option Nat} {us us':List (UA×USt)} {R:A_→W_} {out:Sl} {l:L8} {c:Cm}
def h9_ (w:World) (ℓ:Nat→Option Nat) (pw:Nat) (F:Int→Bool) (us:List (UA×USt)) (m:Nat) (X:RsX×Pu×Wst) (R:A_→W_):Prop:=
 ∀v ℓ' d us',Mv w v ℓ ℓ'→Sys v ℓ' pw X.2.2 F us'→SOk X.2.2 us' (m+200000)→nI_ us us'→pub us'=X.2.1→Dat w v ℓ' d X.1.d→R (rsv X.1.st X.1.sn d).toArray v
theorem h9_.ret {X:RsX×Pu×Wst} {d:Sl} (h:h9_ w ℓ pw F us m X R) (mv:Mv w v ℓ ℓ') (H:Sys v ℓ' pw X.2.2 F us') (K:SOk X.2.2 us' (m+200000)) (lk:nI_ us us') (hp:pub us'=X.2.1) (dt:Dat w v ℓ' d X.1.d) (hab:w.heap.size≤ab) (hn:ℓ' ab=none) (hb:Blk v ab z10 ad_):b0_ ab R (rsv X.1.st X.1.sn d).toArray v:=
 bL_ hb rfl fun v' hk=>h v' ℓ' d us' (mv.loc hk fun b hb2 q=>o_) (H.local1 hb hn hk (eJ_ d_ d_ d_) d_) K lk hp ⟨dt.1.keep hk fun b hbb q=>be_ dt.1 hb d_ (by rw[hbb,q]),dt.2⟩
theorem h9_.hand {X:RsX×Pu×Wst} (h:h9_ w ℓ pw F us m X R) (mv:Mv w w3 ℓ ℓ1) (g:w.heap.size≤w3.heap.size) (hab:w.heap.size≤ab) (hn:ℓ1 ab=none) (hb:Blk w3 ab z10 ad_):h9_ w3 ℓ1 pw F us m X (b0_ ab R):=fun v ℓ' d us' mv2 H K lk hp dt=>
 h.ret (mv.trans mv2) H K lk hp (dt.from g) hab (by rw[mv2.lab _ (aw_ hb)];exact hn) (mv2.heap hb hn)
theorem h9_.unit {X:i0_} (h:h9_ w ℓ pw F us m (X.x,(pub us).set i (a.ub,X.s),X.w) R) (hi:i<us.length) (he:us[i]=(a,s)) (hs:s.same X.s):eK_ w ℓ pw F us i a m X R:=fun v ℓ' d mv H K dt=>
 h v ℓ' d (us.set i (a,X.s)) mv H K (nI_.set hi he (UA.like.refl a) hs) rP_ dt
end
open Go CF
section
variable {w u v:World} {N N' S:Nat→Prop} {pw i n:Nat} {a:UA} {s s1:USt} {st st1:Wst} {F:Int→Bool} {ℓ ℓ':Nat→Option Nat} {us:List (UA×USt)} {p out:Sl} {l:L8}
theorem xx_ {e:Nat} {R:A_→W_} (H:Sys w ℓ pw st F us) (hi:i<us.length) (he:us[i]=(a,s)) (hn:n<8) (hct:s.count<1000000000000) (hp:RdX w ℓ 1 p (bv l))
  (hstart:∀u,Mv w u ℓ ℓ→Sys u ℓ pw st F (us.set i (a,ao_ s))→∀K:Int→W_,(∀u' ℓ' a2,a.like a2→Mv u u' ℓ ℓ'→Sys u' ℓ' pw st1 F (us.set i (a2,s1))→K (e:Int) u')→bZ_ (some ⟨a.ub,0,none⟩) u K)
  (hbad:e≠0→∀ℓ1 a2,a.like a2→∀u,Mv w u ℓ ℓ1→Sys u ℓ1 pw st1 F (us.set i (a2,s1))→R (rsv 2 ⟨2,0,0,false,0,0,false,false⟩ au_).toArray u)
  (hR:e=0→∀ℓ1 a2,a.like a2→match cc_ s1 n l with
   | .bad sn=>∀u,Mv w u ℓ ℓ1→Sys u ℓ1 pw st1 F (us.set i (a2,s1))→R (rsv 2 sn au_).toArray u
   | .told c=>∀u,Mv w u ℓ ℓ1→Sys u ℓ1 pw st1 F (us.set i (a2,bA_ s1 n))→R (rsv 2 ⟨6,c,0,false,0,0,false,false⟩ au_).toArray u
   | .conflict=>∀u,Mv w u ℓ ℓ1→Sys u ℓ1 pw st1 F (us.set i (a2,s1))→R (rsv 24 sn0 au_).toArray u
   | .prot=>∀u,Mv w u ℓ ℓ1→Sys u ℓ1 pw st1 F (us.set i (a2,s1))→R (rsv 2 ⟨7,9984,0,false,0,0,false,false⟩ au_).toArray u
   | .run c=>∀u ab,Mv w u ℓ ℓ1→Sys u ℓ1 pw st1 F (us.set i (a2,s1))→Blk u ab z10 ad_→w.heap.size≤ab→ℓ1 ab=none→bj_ (some ⟨a2.ub,0,none⟩) (n:Int) (cmv c).toArray out u (cW_ ab R)):aF_ (some ⟨a.ub,0,none⟩) (n:Int) p out w R:=by
 refine eO_.calls _ _ _ _ _ _ (ag_ fun ab w0 hab hb0 hg0 hs0=>?_)
 have hb0:Blk w0 ab z10 ad_:=hb0
 have hab':w.heap.size≤ab:=o_
 have hfab:ℓ ab=none:=H.fresh hab'
 have H0:=H.grow hg0
 obtain⟨hU,hown⟩:=H0.at hi he
 obtain⟨z1,z2,z3,z4,z5,z6,z7⟩:=da_ a
 refine⟨fun _=>rfl,some ⟨a.dv,0,none⟩,fun _=>hU.cellU fun P=>rfl,aj_ (by simp;omega) ⟨rfl,?_⟩⟩
 rw[show(gA (some (⟨a.ub,0,none⟩:Addr))).add 15=⟨a.ub,15,none⟩ by rw[gA,aq_]]
 obtain⟨P,hP1,hP2⟩:=hU.unit
 refine np_ (o:=15) (n:=(s.count:Int)) (s:=((s.count+1:Nat):Int)) hP1 rfl (by rw[w64 o_ o_];omega) fun w1 hb1 hk1 hs1=>?_
 have sf:a6_ w0 (fun k=>ℓ k≠none) fun b=>b=a.ub:=a6_.sub fun b _ q=>by rw[q,hown _ z1];exact Option.some_ne_none _
 have hU1:IsU w1 (fun k=>ℓ k≠none) pw a (ao_ s):=hU.unitC (on:=s.on) (lk:=s.lock) (fl:=s.fault) (ct:=s.count+1) (ps:=s.peers) hk1 sf (fun b _ hne q=>hne q) (fun _ q=>.inl q) ⟨P,hb1,hP2.step (.inr (.inr rfl)) hk1 sf fun _ q=>.inl q⟩
 obtain⟨m1,H1⟩:=H0.putA hi he hk1 (fun b _ q=>by rw[q];exact z1) hU1
 have hi1:i<(us.set i (a,ao_ s)).length:=by rw[List.length_set];exact hi
 have m01:Mv w w1 ℓ ℓ:=(Mv.grow hg0).trans m1
 refine hstart w1 m01 H1 _ fun w2 ℓ2 a2 hl2 m12 H2=>?_
 have m02:=m01.trans m12
 have hab2:Blk w2 ab z10 ad_:=(m1.trans m12).heap hb0 hfab
 have hfab:ℓ2 ab=none:=(m12.lab ab (aw_ (m1.heap hb0 hfab))).trans hfab
 refine hp_ (fun hne=>bv_ (s:=⟨2,0,0,false,0,0,false,false⟩) fun w3 hg3=>cW_.sys (H2.grow hg3) (m02.go hg3) hab' hfab (hg3.heap hab2 (fun q=>q)) rfl fun v k hm hs=>hbad o_ ℓ2 a2 hl2 v hm hs) (fun hz=>?_)
 have hR:=hR o_ ℓ2 a2 hl2
 rw[←hl2.ub]
 obtain⟨z1,z2,z3,z4,z5,z6,z7⟩:=da_ a2
 have hi1:i<(us.set i (a2,s1)).length:=by rw[List.length_set];exact hi
 refine oC_ (m02.rdX hp).rd fun w3 hg3=>?_
 have m03:=m02.go hg3
 have H3:=H2.grow hg3
 have hab3:Blk w3 ab z10 ad_:=hg3.heap hab2 (fun q=>q)
 generalize hX:aP_ l=X
 obtain⟨c,sn,ok⟩:=X
 unfold cc_ at hR
 rw[hX] at hR
 dsimp only
 refine ag_ fun cb w4 hcb hb4 hg4 hs4=>ag_ fun sb w5 hsb hb5 hg5 hs5=>?_
 have hcn:ab≠cb∧ab≠sb:=by
  have:=aw_ hab3
  have:=hg4.size
  omega
 refine ap_ (cells:=(cmv c).toArray) (hg5.heap hb4 (fun q=>q)) gI_ rfl rfl (by simp[cmv,Value.oneCell']) fun w6 hb6 hk6 hs6=>?_
 have hb56:=hk6.heap hb5 (fun q=>o_)
 refine ap_ (cells:=(snv sn).toArray) hb56 aV_ rfl rfl (by simp[snv,Value.oneCell']) fun w7 hb7 hk7 hs7=>?_
 have hg37:ab_ w3 w7:=(((hg4.trans hg5).keep hk6 fun i hi q=>o_).keep hk7 fun i hi q=>by have:=hg4.size;omega)
 have hb67:Blk w7 cb (cmv c).toArray aD_:=hk7.heap hb6 (fun q=>o_)
 have m07:=m03.go hg37
 have H7:=H3.grow hg37
 have hab7:Blk w7 ab z10 ad_:=hg37.heap hab3 (fun q=>q)
 have c0:∀{v:World},Blk v cb (cmv c).toArray aD_→v.cell? ((⟨cb,0,none⟩:Addr).add 0)=some (.int .u8 (c.kind:Int)):=fun q=>by rw[aq_,q.cell];rfl
 cases ok with
 | false=>
  refine am_ rfl ⟨(snv sn).toArray,aE_ (cs:=snv sn) eU_ aV_ rfl (ar_ hb7),bv_ fun w8 hg8=>?_⟩
  rw[if_pos rfl] at hR
  exact cW_.sys (H7.grow hg8) (m07.go hg8) hab' hfab (hg8.heap hab7 (fun q=>q)) rfl fun v k hm hs=>hR v hm hs
 | true=>
  rw[if_neg (fun q=>Bool.noConfusion q)] at hR
  dsimp only at hR
  refine aj_ rfl ⟨(c.kind:Int),c0 hb67,(c.kind:Int),fun _=>c0 hb67,(c.kind:Int),fun _=>c0 hb67,rfl,?_⟩
  obtain⟨hU7,hown7⟩:=H7.at hi1 (List.getElem_set_self _)
  refine⟨some ⟨a2.qb,0,none⟩,hU7.cellU fun P=>rfl,?_⟩
  have efree:(!((((c.kind:Int)==3)||((c.kind:Int)==17))||((c.kind:Int)==2))) = !fM_ c.kind:=by
   unfold fM_
   congr 1
   rw[Bool.eq_iff_iff]
   simp only[Bool.or_eq_true,beq_iff_eq]
   omega
  refine ow_ hU7.q hn fun w8 hg8=>?_
  have H8:=H7.grow hg8
  have m08:=m07.go hg8
  have hab8:Blk w8 ab z10 ad_:=hg8.heap hab7 (fun q=>q)
  have hb8:Blk w8 cb (cmv c).toArray aD_:=hg8.heap hb67 (fun q=>q)
  have rest:∀{n5:Int} {b1:Bool},(b1 && !fM_ c.kind)=false→
    (match (if bN_ s1.tab n (fs_ c.kind)=true then pb_.conflict else if (eY_ c.kind&&s1.now.swp)=true then .prot else .run c) with
     | .bad sn=>∀u,Mv w u ℓ ℓ2→Sys u ℓ2 pw st1 F (us.set i (a2,s1))→R (rsv 2 sn au_).toArray u
     | .told c=>∀u,Mv w u ℓ ℓ2→Sys u ℓ2 pw st1 F (us.set i (a2,bA_ s1 n))→R (rsv 2 ⟨6,c,0,false,0,0,false,false⟩ au_).toArray u
     | .conflict=>∀u,Mv w u ℓ ℓ2→Sys u ℓ2 pw st1 F (us.set i (a2,s1))→R (rsv 24 sn0 au_).toArray u
     | .prot=>∀u,Mv w u ℓ ℓ2→Sys u ℓ2 pw st1 F (us.set i (a2,s1))→R (rsv 2 ⟨7,9984,0,false,0,0,false,false⟩ au_).toArray u
     | .run c=>∀u ab,Mv w u ℓ ℓ2→Sys u ℓ2 pw st1 F (us.set i (a2,s1))→Blk u ab z10 ad_→w.heap.size≤ab→ℓ2 ab=none→bj_ (some ⟨a2.ub,0,none⟩) (n:Int) (cmv c).toArray out u (cW_ ab R))→
    ∀w018,w018=w8.drew→∃S:W_,S w018∧(some (⟨a2.ub,0,none⟩:Addr)).isSome=true∧∃p3:O_,(∀u1,S u1→u1.cell? ((gA (some (⟨a2.ub,0,none⟩:Addr))).add 8)=some (.pointer p3))∧∃n7:Int,(∀u2,S u2→u2.cell? ((⟨cb,0,none⟩:Addr).add 0)=some (.int .u8 n7))∧fU_ n7 w018 fun n8 w019=>S w019∧cw_ p3 (n:Int) n8 w019 fun b3 w020=>
     Br b3 (ah_ Tryz.prog (storeVar ad_ ⟨ab,0,none⟩ (.agg #[.int .u8 24,.int .u8 0,.int .u16 0,.int .u64 0,.bool false,.int .i64 0,.int .i64 0,.bool false,.bool false,.slice none 0 0])) w020 fun w021=>∃res4:A_,(loadVar ad_ ⟨ab,0,none⟩).run Tryz.prog w021=.ok (.agg res4) w021∧R res4 w021)
     (∃n9:Int,w020.cell? ((⟨cb,0,none⟩:Addr).add 0)=some (.int .u8 n9)∧fm_ n9 w020 fun b4 w022=>(b4=true→(some (⟨a2.ub,0,none⟩:Addr)).isSome=true)∧∃p4:O_,(b4=true→w022.cell? ((gA (some (⟨a2.ub,0,none⟩:Addr))).add 7)=some (.pointer p4))∧bB_ (fun(g7:A_) (w023:World)=>∃b5:Bool,(b4=true→g7[2]?=some (.bool b5))∧Br (b4&&b5)
      (aS_ #[.int .u8 7,.int .u16 9984,.int .u64 0,.bool false,.int .i64 0,.int .i64 0,.bool false,.bool false] w023 fun g8 w024=>ah_ Tryz.prog (storeVar ad_ ⟨ab,0,none⟩ (.agg g8)) w024 fun w025=>∃res5:A_,(loadVar ad_ ⟨ab,0,none⟩).run Tryz.prog w025=.ok (.agg res5) w025∧R res5 w025)
      (∃g9:A_,(loadVar aD_ ⟨cb,0,none⟩).run Tryz.prog w023=.ok (.agg g9) w023∧bj_ (some ⟨a2.ub,0,none⟩) (n:Int) g9 out w023 fun g10 w026=>ah_ Tryz.prog (storeVar ad_ ⟨ab,0,none⟩ (.agg g10)) w026 fun w027=>∃res6:A_,(loadVar ad_ ⟨ab,0,none⟩).run Tryz.prog w027=.ok (.agg res6) w027∧R res6 w027)) fun J_=>(b4=true→bm_ p4 w022 J_)∧(b4=false→J_ (Kd.dflt .ag) w022)):=by
   intro n5 b1 _ hR w9 e9
   subst e9
   have hg9:=ak_ w8
   have H9:=H8.grow hg9
   have m09:=m08.go hg9
   have hab9:Blk w8.drew ab z10 ad_:=hg9.heap hab8 (fun q=>q)
   have hb9:Blk w8.drew cb (cmv c).toArray aD_:=hg9.heap hb8 (fun q=>q)
   generalize w8.drew=w9 at *
   obtain⟨hU9,hown9⟩:=H9.at hi1 (List.getElem_set_self _)
   refine⟨fun o=>o=w9,rfl,rfl,some ⟨a2.tb,0,none⟩,fun o e=>by rw[e];exact hU9.cellU fun P=>rfl,(c.kind:Int),fun o e=>by rw[e];exact c0 hb9,nr_ ⟨rfl,k6_ hU9.tab fun w10 hg10=>?_⟩⟩
   have H10:=H9.grow hg10
   have m10:=m09.go hg10
   have hab10:Blk w10 ab z10 ad_:=hg10.heap hab9 (fun q=>q)
   have hb10:Blk w10 cb (cmv c).toArray aD_:=hg10.heap hb9 (fun q=>q)
   have hU10:=hU9.grow hg10
   cases hc:bN_ s1.tab n (fs_ c.kind) with
   | true=>
    rw[hc,if_pos rfl] at hR
    exact am_ rfl (cW_.sys (sn:=sn0) (d:=au_) H10 m10 hab' hfab hab10 rfl fun v k hm hs=>hR v hm hs)
   | false=>
    rw[hc,if_neg d_] at hR
    refine aj_ rfl ⟨(c.kind:Int),c0 hb10,ml_ ⟨fun _=>rfl,some ⟨a2.pg,0,none⟩,fun _=>hU10.cellU fun P=>rfl,?_⟩⟩
    refine cm_ (fun(g7:A_) v=>ab_ w10 v∧(eY_ c.kind=true→g7=(vlv s1.now).toArray)) ?_ (fun J=>⟨fun _=>hi_ hU10.pages fun v hg=>J _ _ ⟨hg,fun _=>rfl⟩,fun q=>J _ _ ⟨aa_.refl _ _,fun r=>by rw[q] at r;cases r⟩⟩)
    rintro g7 v ⟨hgv,hg7⟩
    have Hv:=H10.grow hgv
    have mv:=m10.go hgv
    have habv:Blk v ab z10 ad_:=hgv.heap hab10 (fun q=>q)
    have hbv:Blk v cb (cmv c).toArray aD_:=hgv.heap hb10 (fun q=>q)
    refine⟨s1.now.swp,fun q=>by rw[hg7 q];rfl,?_⟩
    cases hal:eY_ c.kind&&s1.now.swp with
    | true=>
     rw[hal,if_pos rfl] at hR
     exact am_ rfl (bv_ (s:=⟨7,9984,0,false,0,0,false,false⟩) fun v' hg'=>cW_.sys (Hv.grow hg') (mv.go hg') hab' hfab (hg'.heap habv (fun q=>q)) rfl fun v k hm hs=>hR v hm hs)
    | false=>
     rw[hal,if_neg d_] at hR
     exact aj_ rfl ⟨_,lW_ (c:=c) (ar_ hbv),hR v ab mv Hv habv hab' hfab⟩
  cases hpk:cD_ (s1.q n) with
  | none=>
   rw[hpk] at hR
   exact aj_ rfl (rest (n5:=0) (b1:=false) rfl hR)
  | some code=>
   rw[hpk] at hR
   dsimp only
   rw[efree]
   cases hfk:fM_ c.kind with
   | true=>
    rw[hfk] at hR
    exact aj_ rfl (rest (n5:=(code:Int)) (b1:=true) (by rw[hfk];rfl) hR)
   | false=>
    rw[hfk] at hR
    dsimp only at hR
    refine am_ rfl ⟨rfl,?_⟩
    obtain⟨hU8,hown8⟩:=H8.at hi1 (List.getElem_set_self _)
    refine⟨some ⟨a2.qb,0,none⟩,hU8.cellU fun P=>rfl,?_⟩
    refine lx_ hU8.q hn (by rw[hown8 _ z7];exact Option.some_ne_none _) H8.lt fun w9 hk9 hq9=>?_
    rw[hpk]
    dsimp only
    have sfq:a6_ w8 (fun k=>ℓ2 k≠none) fun b=>b=a2.qb:=a6_.sub fun b _ q=>by rw[q,hown8 _ z7];exact Option.some_ne_none _
    have hU9:IsU w9 (fun k=>ℓ2 k≠none) pw a2 (bA_ s1 n):=hU8.que hk9 sfq (fun b _ hne q=>hne q) (fun _ q=>.inl q) hq9
    obtain⟨m9,H9⟩:=H8.putA hi1 (List.getElem_set_self _) hk9 (fun b _ q=>by rw[q];exact z7) hU9
    rw[List.set_set] at H9
    refine bv_ (s:=⟨6,code,0,false,0,0,false,false⟩) fun w10 hg10=>?_
    have hab10:Blk w10 ab z10 ad_:=(m9.go hg10).heap hab8 hfab
    exact cW_.sys (H9.grow hg10) ((m08.trans m9).go hg10) hab' hfab hab10 rfl fun v k hm hs=>hR v hm hs
end
open Go CF
theorem nJ_ {a b:Nat} {k:Nat} (h:a<k):a &&& b<k:=Nat.lt_of_le_of_lt Nat.and_le_left h
theorem ug_ (k:Nat):i1_ {c0C with kind:=k}:=⟨by show 0<_;decide,by show 0<_;decide,by show 0<_;decide,by show 0<_;decide,by show 0<_;decide,fun _=>by show(0:Int)≤_;decide⟩
theorem wG_ {c:Cm} {p:L8} {sv:Nat} (h:i1_ c) (hs:sv<256) (ha:c.alloc≤1000000):i1_ (hK_ c p sv).1:=by
 obtain⟨h1,h2,h3,h4,h5,h6⟩:=h
 have b:=lZ_ p
 have n1:=nu1 p
 have n2:=nu2 p
 have n3:=nu3 p
 have n4:=nu4 p
 have n8:=nu8 p
 have sp:i1_ (ff_ c p).1∧(ff_ c p).1.kind=c.kind:=by
  unfold ff_
  split
  ·refine⟨⟨?_,?_,h3,h4,h5,h6⟩,rfl⟩
   ·show nuN p 1 3 &&& 2097151<_
    exact nJ_ (by have:=n3 1;omega)
   ·show(if nuN p 4 1=0 then 256 else nuN p 4 1)<_
    have:=n1 4
    split<;>omega
  split
  ·exact⟨⟨by have:=n4 2;show nuN p 2 4<_;omega,by have:=n2 7;show nuN p 7 2<_;omega,h3,h4,h5,h6⟩,rfl⟩
  ·exact⟨⟨n8 2,by have:=n4 10;show nuN p 10 4<_;omega,h3,h4,h5,h6⟩,rfl⟩
 unfold hK_
 by_cases k2:c.kind=2
 ·rw[if_pos k2]
  exact⟨h1,h2,h3,h4,h5,fun q=>by have q:c.kind=4:=q;omega⟩
 rw[if_neg k2]
 by_cases k3:c.kind=3
 ·rw[if_pos k3]
  exact⟨h1,h2,b 2,h4,h5,fun q=>by have q:c.kind=4:=q;omega⟩
 rw[if_neg k3]
 by_cases k4:c.kind=4
 ·rw[if_pos k4]
  refine⟨h1,h2,h3,h4,h5,fun _=>?_⟩
  show(if p.length=10 then(nuN p 7 2:Int) else(bN p 4:Int))≤_
  have:=n2 7
  have:=b 4
  split<;>omega
 rw[if_neg k4]
 by_cases k5:c.kind=5
 ·rw[if_pos k5]
  exact⟨h1,h2,nJ_ (b 2),h4,h5,fun q=>by have q:c.kind=4:=q;omega⟩
 rw[if_neg k5]
 by_cases k6:c.kind=6
 ·rw[if_pos k6]
  exact⟨h1,h2,h3,h4,h5,fun q=>by have q:c.kind=4:=q;omega⟩
 rw[if_neg k6]
 by_cases k7:7≤c.kind∧c.kind≤12
 ·rw[if_pos k7]
  show i1_ (gm_ c p)
  unfold gm_
  by_cases q6:6<p.length
  ·rw[if_pos q6]
   obtain⟨⟨g1,g2,g3,g4,g5,g6⟩,_⟩:=sp
   generalize (ff_ c p).1=d at *
   unfold l0_
   by_cases w1:d.kind=7∨d.kind=8
   ·rw[if_pos w1];exact⟨g1,g2,g3,g4,g5,g6⟩
   rw[if_neg w1]
   by_cases w2:d.kind=10
   ·rw[if_pos w2];exact⟨g1,g2,g3,g4,g5,g6⟩
   rw[if_neg w2]
   by_cases w3:d.kind=12
   ·rw[if_pos w3];exact⟨g1,g2,g3,g4,g5,g6⟩
   rw[if_neg w3]
   by_cases w4:d.kind=11
   ·rw[if_pos w4];exact⟨g1,g2,g3,g4,g5,g6⟩
   rw[if_neg w4];exact⟨g1,g2,g3,g4,g5,g6⟩
  ·rw[if_neg q6];exact sp.1
 rw[if_neg k7]
 by_cases k13:c.kind=13
 ·rw[if_pos k13]
  exact⟨h1,h2,h3,h4,h5,fun q=>by have q:c.kind=4:=q;omega⟩
 rw[if_neg k13]
 by_cases k14:c.kind=14
 ·rw[if_pos k14]
  exact⟨n8 2,by have:=b 13;show bN p 13<_;omega,h3,h4,h5,h6⟩
 rw[if_neg k14]
 by_cases k15:c.kind=15
 ·rw[if_pos k15]
  exact⟨h1,h2,h3,hs,h5,fun q=>by have q:c.kind=4:=q;omega⟩
 rw[if_neg k15]
 by_cases k16:c.kind=16
 ·rw[if_pos k16]
  exact⟨h1,h2,h3,hs,nJ_ (b 2),fun q=>by have q:c.kind=4:=q;omega⟩
 rw[if_neg k16]
 by_cases k17:c.kind=17
 ·rw[if_pos k17]
  exact⟨h1,h2,b 2,h4,h5,fun q=>by have q:c.kind=4:=q;omega⟩
 rw[if_neg k17]
 by_cases k18:c.kind=18
 ·rw[if_pos k18]
  exact⟨h1,h2,h3,h4,h5,fun q=>by have q:c.kind=4:=q;omega⟩
 rw[if_neg k18]
 exact⟨h1,h2,h3,h4,h5,h6⟩
theorem vE_ (l:L8):i1_ (aP_ l).1:=by
 have z:=ug_ 0
 have sv:iT_ l<256:=by
  unfold iT_
  split
  ·exact nJ_ (lZ_ l 1)
  ·decide
 unfold aP_
 split
 ·exact z
 split
 ·exact z
 split
 ·exact z
 split
 ·exact z
 split
 ·exact z
 split
 ·exact z
 ·unfold pa_
  split
  ·exact z
  ·exact wG_ (ug_ _) sv (by show(0:Int)≤_;decide)
def jN_ (F:Int→Bool) (P:Pu) (st:Wst) (i n:Nat) (c:Cm) (l:L8):RsX×Pu×Wst:=
 if c.kind=18 then v2_ F P st i n c l
 else match P[i]? with
  | none=>(snX sn0,P,st)
  | some x=>if c.kind=4 then((h8_ F x.2 st n c l).x,P.set i (x.1,(h8_ F x.2 st n c l).s),(h8_ F x.2 st n c l).w)
   else if c.kind=16 then((hl_ F x.2 st n c l).x,P.set i (x.1,(hl_ F x.2 st n c l).s),(hl_ F x.2 st n c l).w)
   else((hk_ F x.2 st n c l).x,P.set i (x.1,(hk_ F x.2 st n c l).s),(hk_ F x.2 st n c l).w)
abbrev nrS:Sn:=⟨2,0,0,false,0,0,false,false⟩
abbrev xy_:Sn:=⟨7,9984,0,false,0,0,false,false⟩
def aW_ (F:Int→Bool) (P:Pu) (st:Wst) (i n:Nat) (l out:L8):RsX×Pu×Wst:=
 match P[i]? with
 | none=>(snX sn0,P,st)
 | some x=>
  if (aC_ F (ao_ x.2) st).1≠0 then(snX nrS,P.set i (x.1,(aC_ F (ao_ x.2) st).2.1),(aC_ F (ao_ x.2) st).2.2)
  else match cc_ (aC_ F (ao_ x.2) st).2.1 n l with
   | .bad sn=>(snX sn,P.set i (x.1,(aC_ F (ao_ x.2) st).2.1),(aC_ F (ao_ x.2) st).2.2)
   | .told c=>(snX (uaS c),P.set i (x.1,bA_ (aC_ F (ao_ x.2) st).2.1 n),(aC_ F (ao_ x.2) st).2.2)
   | .conflict=>(⟨24,sn0,[]⟩,P.set i (x.1,(aC_ F (ao_ x.2) st).2.1),(aC_ F (ao_ x.2) st).2.2)
   | .prot=>(snX xy_,P.set i (x.1,(aC_ F (ao_ x.2) st).2.1),(aC_ F (ao_ x.2) st).2.2)
   | .run c=>jN_ F (P.set i (x.1,(aC_ F (ao_ x.2) st).2.1)) (aC_ F (ao_ x.2) st).2.2 i n c out
theorem nK_ {F:Int→Bool} {b:Bool} {s:USt} {st:Wst}:s.same (gp_ F b s st).s:=by
 unfold gp_
 split<;>exact⟨rfl,rfl,rfl,rfl,rfl,rfl⟩
theorem uh_ {F:Int→Bool} {s:USt} {st:Wst} {n:Nat} {c:Cm} {l:L8}:s.same (h8_ F s st n c l).s:=by
 unfold h8_
 split
 ·exact USt.same.refl s
 split
 ·exact USt.same.refl s
 ·refine USt.same.trans ?_ nK_
  split<;>exact⟨rfl,rfl,rfl,rfl,rfl,rfl⟩
theorem ui_ {F:Int→Bool} {s:USt} {st:Wst} {n:Nat} {c:Cm} {l:L8}:s.same (hl_ F s st n c l).s:=by
 unfold hl_
 generalize bI_ s.tab n (e0_ c l)=d
 generalize evQ s.q d.ev=q
 split
 ·exact USt.same.refl s
 split
 ·exact USt.same.refl s
 split
 ·exact⟨rfl,rfl,rfl,rfl,rfl,rfl⟩
 ·have h1:s.same {s with tab:=d.t,q:=q}:=⟨rfl,rfl,rfl,rfl,rfl,rfl⟩
  exact h1.trans nK_
theorem uj_ {F:Int→Bool} {s:USt} {st:Wst} {n:Nat} {c:Cm} {l:L8}:s.same (hk_ F s st n c l).s:=by
 unfold hk_
 split
 ·exact USt.same.refl s
 unfold hN_
 split
 ·exact USt.same.refl s
 split
 ·exact⟨rfl,rfl,rfl,rfl,rfl,rfl⟩
 split
 ·split<;>exact USt.same.refl s
 split
 ·exact USt.same.refl s
 split
 ·split<;>exact USt.same.refl s
 ·exact USt.same.refl s
section
variable {w u v:World} {N N' S:Nat→Prop} {pw i n m:Nat} {a:UA} {s s1:USt} {st st1:Wst} {F:Int→Bool} {ℓ ℓ':Nat→Option Nat} {us:List (UA×USt)} {p out:Sl} {l lo:L8} {c:Cm} {R:A_→W_}
structure kW_ (k:Nat):Prop where
 base:k≠4→k≠16→k≠18→nD_ k
 sel:k=4→∀{w:World} {pw i m n:Nat} {a:UA} {s:USt} {st:Wst} {F:Int→Bool} {ℓ:Nat→Option Nat} {us:List (UA×USt)} {R:A_→W_} {out:Sl} {l:L8} {c:Cm},Sys w ℓ pw st F us→SOk st us m→m≤400000000→i<us.length→us[i]?=some (a,s)→n<8→RdX w ℓ 1 out (bv l)→c.alloc≤1000000→eK_ w ℓ pw F us i a m (h8_ F s st n c l) R→ei_ (some ⟨a.ub,0,none⟩) (n:Int) (cmv c).toArray out w R
 out:k=16→∀{w:World} {pw i m n:Nat} {a:UA} {s:USt} {st:Wst} {F:Int→Bool} {ℓ:Nat→Option Nat} {us:List (UA×USt)} {R:A_→W_} {out:Sl} {l:L8} {c:Cm},Sys w ℓ pw st F us→SOk st us m→m≤400000000→i<us.length→us[i]?=some (a,s)→n<8→RdX w ℓ 1 out (bv l)→i1_ c→eK_ w ℓ pw F us i a m (hl_ F s st n c l) R→ej_ (some ⟨a.ub,0,none⟩) (n:Int) (cmv c).toArray out w R
 copy:k=18→∀{w:World} {pw i m n:Nat} {a:UA} {s:USt} {st:Wst} {F:Int→Bool} {ℓ:Nat→Option Nat} {us:List (UA×USt)} {R:A_→W_} {out:Sl} {l:L8} {c:Cm},Sys w ℓ pw st F us→SOk st us m→m≤200000000→i<us.length→us[i]?=some (a,s)→n<8→RdX w ℓ 1 out (bv l)→(∀b∈s.peers,∃j,∃h:j<us.length,us[j].1.ub=b)→s.peers.length≤100→h9_ w ℓ pw F us m (v2_ F (pub us) st i n c l) R→gN_ (some ⟨a.ub,0,none⟩) (n:Int) (cmv c).toArray out w R
theorem uk_ (hN:kW_ c.kind) (H:Sys w ℓ pw st F us) (K:SOk st us m) (hm:m≤200000000) (hi:i<us.length) (he:us[i]=(a,s)) (hn:n<8) (hp:RdX w ℓ 1 out (bv l)) (hb:out.n≤140737488351232) (hc:i1_ c) (hpe:∀b∈s.peers,∃j,∃h:j<us.length,us[j].1.ub=b) (hpl:s.peers.length≤100) (hR:h9_ w ℓ pw F us m (jN_ F (pub us) st i n c l) R):bj_ (some ⟨a.ub,0,none⟩) (n:Int) (cmv c).toArray out w R:=by
 have hpg:=oa_ hi
 rw[he] at hpg
 unfold jN_ at hR
 rw[hpg] at hR
 refine vu_ hN.base H K o_ hi he hn hp hb hc (fun k4 k16 k18=>?_) ⟨fun k4 w2 ab g hab hbk=>?_,fun k16 w2 ab g hab hbk=>?_,fun k18 w2 ab g hab hbk=>?_⟩
 ·rw[if_neg k18] at hR
  dsimp only at hR
  rw[if_neg k4,if_neg k16] at hR
  exact h9_.unit hR hi he uj_
 ·rw[if_neg o_] at hR
  dsimp only at hR
  rw[if_pos k4] at hR
  exact hN.sel k4 (H.grow g) K o_ hi (by rw[List.getElem?_eq_getElem hi,he]) hn ((Mv.grow g).rdX hp) (hc.alloc k4) ((h9_.unit hR hi he uh_).hand (Mv.grow g) g.size hab (H.fresh hab) hbk)
 ·rw[if_neg o_] at hR
  dsimp only at hR
  rw[if_neg o_,if_pos k16] at hR
  exact hN.out k16 (H.grow g) K o_ hi (by rw[List.getElem?_eq_getElem hi,he]) hn ((Mv.grow g).rdX hp) hc ((h9_.unit hR hi he ui_).hand (Mv.grow g) g.size hab (H.fresh hab) hbk)
 ·rw[if_pos k18] at hR
  exact hN.copy k18 (H.grow g) K hm hi (by rw[List.getElem?_eq_getElem hi,he]) hn ((Mv.grow g).rdX hp) hpe hpl (hR.hand (Mv.grow g) g.size hab (H.fresh hab) hbk)
theorem vF_ (hL:s.on≠1→kV_ F {ao_ s with lock:=1} st) (hN:∀c,(aC_ F (ao_ s) st).1=0→cc_ (aC_ F (ao_ s) st).2.1 n l=.run c→kW_ c.kind) (H:Sys w ℓ pw st F us) (K:SOk st us m) (hm:m≤100000000) (hi:i<us.length) (he:us[i]=(a,s)) (hn:n<8) (hct:s.count<1000000000000) (hp:RdX w ℓ 1 p (bv l)) (ho:RdX w ℓ 1 out (bv lo)) (hb:out.n≤140737488351232) (hpe:∀b∈s.peers,∃j,∃h:j<us.length,us[j].1.ub=b) (hpl:s.peers.length≤100)
  (hR:∀v ℓ' d us',Mv w v ℓ ℓ'→Sys v ℓ' pw (aW_ F (pub us) st i n l lo).2.2 F us'→SOk (aW_ F (pub us) st i n l lo).2.2 us' (m+200002)→us'.length=us.length→(∀k (h:k<us.length) (h':k<us'.length),us[k].1.like us'[k].1∧us'[k].2.peers=us[k].2.peers∧us'[k].2.count=us[k].2.count+if k=i then 1 else 0)→pub us'=(aW_ F (pub us) st i n l lo).2.1→Dat w v ℓ' d (aW_ F (pub us) st i n l lo).1.d→R (rsv (aW_ F (pub us) st i n l lo).1.st (aW_ F (pub us) st i n l lo).1.sn d).toArray v):aF_ (some ⟨a.ub,0,none⟩) (n:Int) p out w R:=by
 have hpg:=oa_ hi
 rw[he] at hpg
 unfold aW_ at hR
 rw[hpg] at hR
 dsimp only at hR
 have KU:=K.at hi he
 have Kb:∀a',SOk st (us.set i (a',ao_ s)) m:=fun a'=>K.put (x:=(a',ao_ s)) (KU.same KU.good rfl rfl rfl rfl rfl rfl)
 have hib:∀y,i<(us.set i y).length:=fun y=>by rw[List.length_set];exact hi
 have K1:∀a',SOk (aC_ F (ao_ s) st).2.2 (us.set i (a',(aC_ F (ao_ s) st).2.1)) (m+2):=fun a'=>by
  have K2:=(Kb a).near (nH_ (F:=F) (s:=ao_ s) (st:=st))
  have KU2:=K2.at (hib _) (List.getElem_set_self _)
  have sm:=jM_ (F:=F) (s:=ao_ s) (st:=st)
  have:=K2.put (i:=i) (x:=(a',(aC_ F (ao_ s) st).2.1)) ⟨by rw[sm.n];exact KU2.n,by rw[sm.inf];exact KU2.form,by rw[sm.file,sm.keepf];exact KU2.name,by rw[sm.file];exact KU2.good,.inl (mr_ (by exact KU.once))⟩
  rwa [List.set_set] at this
 have lik:∀{a2 s'},a.like a2→s'.peers=s.peers→s'.count=s.count+1→∀k (h:k<us.length) (h':k<(us.set i (a2,s')).length),us[k].1.like (us.set i (a2,s'))[k].1∧(us.set i (a2,s'))[k].2.peers=us[k].2.peers∧(us.set i (a2,s'))[k].2.count=us[k].2.count+if k=i then 1 else 0:=fun {a2 s'} hl h1 h2 k h h'=>by
  rw[List.getElem_set]
  split
  ·rename_i e
   subst e
   rw[he,if_pos rfl];exact⟨hl,h1,h2⟩
  ·rename_i e
   rw[if_neg (fun q=>e q.symm)]
   exact⟨UA.like.refl _,rfl,rfl⟩
 have sm0:=jM_ (F:=F) (s:=ao_ s) (st:=st)
 have epub:∀{a2 s'},a.like a2→pub (us.set i (a2,s'))=(pub us).set i (a.ub,s'):=fun {a2 s'} hl=>by rw[rP_,hl.ub]
 refine xx_ (e:=(aC_ F (ao_ s) st).1) (s1:=(aC_ F (ao_ s) st).2.1) (st1:=(aC_ F (ao_ s) st).2.2) H hi he hn hct hp (fun u mv Hu Kc hk=>?_) (fun hne ℓ1 a2 hl u mv Hu=>?_) (fun hz ℓ1 a2 hl=>?_)
 ·refine ue_ hL Hu (Kb a) o_ (hib _) (List.getElem_set_self _) fun u' ℓ' a2 hl m2 H2 _=>hk u' ℓ' a2 hl m2 ?_
  rwa [List.set_set] at H2
 ·rw[if_pos hne] at hR
  exact hR u ℓ1 au_ _ mv Hu ((K1 a2).mono o_) (by rw[List.length_set]) (lik hl sm0.peers sm0.count) (epub hl) (Dat.nil _ _ _)
 ·rw[if_neg o_] at hR
  have hN:=fun c=>hN c hz
  have K1:=K1 a2
  have hpe1:(aC_ F (ao_ s) st).2.1.peers=s.peers:=sm0.peers
  have hct1:(aC_ F (ao_ s) st).2.1.count=s.count+1:=sm0.count
  clear sm0
  generalize aC_ F (ao_ s) st=S at *
  have hcm:∀c,cc_ S.2.1 n l=.run c→i1_ c:=fun c h=>by
   have:c=(aP_ l).1:=by
    unfold cc_ at h
    split at h
    ·cases h
    ·split at h
     ·cases h
     ·split at h
      ·cases h
      ·split at h
       ·cases h
       ·injection h with h;exact h.symm
   rw[this];exact vE_ l
  cases hh:cc_ S.2.1 n l with
  | bad sn=>
   rw[hh] at hR
   exact fun u mv Hu=>hR u ℓ1 au_ _ mv Hu (K1.mono o_) (by rw[List.length_set]) (lik hl hpe1 hct1) (epub hl) (Dat.nil _ _ _)
  | told c=>
   rw[hh] at hR
   refine fun u mv Hu=>hR u ℓ1 au_ _ mv Hu ?_ (by rw[List.length_set]) (lik hl hpe1 hct1) (epub hl) (Dat.nil _ _ _)
   have KU1:=K1.at (hib _) (List.getElem_set_self _)
   have:=(K1.put (i:=i) (x:=(a2,bA_ S.2.1 n)) (KU1.same KU1.good rfl rfl rfl rfl rfl rfl)).mono (m':=m+200002) o_
   rwa [List.set_set] at this
  | conflict=>
   rw[hh] at hR
   exact fun u mv Hu=>hR u ℓ1 au_ _ mv Hu (K1.mono o_) (by rw[List.length_set]) (lik hl hpe1 hct1) (epub hl) (Dat.nil _ _ _)
  | prot=>
   rw[hh] at hR
   exact fun u mv Hu=>hR u ℓ1 au_ _ mv Hu (K1.mono o_) (by rw[List.length_set]) (lik hl hpe1 hct1) (epub hl) (Dat.nil _ _ _)
  | run c=>
   rw[hh] at hR
   intro u ab mv Hu hbk hab hn1
   dsimp only at hR
   rw[←epub hl] at hR
   refine uk_ (hN c hh) Hu K1 o_ (hib _) (List.getElem_set_self _) hn (mv.rdX ho) hb (hcm c hh) (fun b hb2=>?_) (by rw[hpe1];exact hpl) ?_
   ·rw[hpe1] at hb2
    obtain⟨j,hj,ej⟩:=hpe b hb2
    have hj2:j<(us.set i (a2,S.2.1)).length:=by rw[List.length_set];exact hj
    exact⟨j,hj2,(lik hl hpe1 hct1 j hj hj2).1.ub.trans ej⟩
   ·intro v ℓ' d us' mv2 Hv Kv lk hpub dt
    have mvv:=mv.trans mv2
    have hbv:=mv2.heap hbk hn1
    have hnv:ℓ' ab=none:=by rw[mv2.lab ab (aw_ hbk)];exact hn1
    have dt2:=dt.from mv.keep.size
    refine cW_.sys Hv mvv hab hnv hbv rfl fun v' hk hm' hs=>hR v' ℓ' d us' hm' hs (Kv.mono o_) (lk.len.trans (by rw[List.length_set])) (fun k h h'=>?_) hpub ⟨dt2.1.keep hk fun b hbb q=>be_ dt2.1 hbv d_ (by rw[hbb,q]),dt2.2⟩
    have h2:k<(us.set i (a2,S.2.1)).length:=by rw[List.length_set];exact h
    obtain⟨r1,r2,r3⟩:=lik hl hpe1 hct1 k h h2
    obtain⟨t1,t2⟩:=lk.all k h2 h'
    exact⟨r1.trans t1,t2.peers.trans r2,t2.count.trans r3⟩
end
open Go CF
theorem rh_:nD_ 1:=⟨fun q=>o_,fun q=>o_,fun q=>o_,fun q=>o_,fun q=>o_,fun q=>o_,fun q=>o_,fun q=>o_,fun q=>o_⟩
theorem vG_:nD_ 5:=⟨fun q=>o_,fun q=>o_,fun q=>o_,fun q=>o_,fun q=>o_,fun _=>ra_,fun q=>o_,fun q=>o_,fun _ _ _ _ q=>o_⟩
theorem oN_ {k:Nat} (h4:k≠4) (h16:k≠16) (h18:k≠18) (h:nD_ k):kW_ k:=⟨fun _ _ _=>h,fun q=>o_,fun q=>o_,fun q=>o_⟩
theorem vH_:kW_ 4:=⟨fun q=>o_,fun _ _ _ _ _ _ _ _ _ _ _ _ _ _ _ _ H K hm hi he hn hp hb hR=>wE_ H K hm hi (List.getElem?_eq_some_iff.1 he).2 hn hp hb hR,fun q=>o_,fun q=>o_⟩
theorem qw_:kW_ 16:=⟨fun _ q=>o_,fun q=>o_,fun _ _ _ _ _ _ _ _ _ _ _ _ _ _ _ _ H K hm hi he hn hp hc hR=>ud_ H K hm hi (List.getElem?_eq_some_iff.1 he).2 hn hp hc hR,fun q=>o_⟩
theorem qx_ {s:USt} {n:Nat} {l:L8} {c:Cm} (h:cc_ s n l=.run c):c=(aP_ l).1:=by
 unfold cc_ at h
 split at h
 ·cases h
 ·split at h
  ·cases h
  ·split at h
   ·cases h
   ·split at h
    ·cases h
    ·injection h with h;exact h.symm
theorem nL_ {s:USt} {st:Wst} (hl:ldN st.seen s.keepf 2=(-1,0,[])):cd_ aQ_ s st=(0,lz_ s,more st 2):=by
 have e:aI_ aQ_ st s.keepf ⟨s.sure,s.at_,s.gen⟩=(8,[],0,⟨true,-1,0⟩,more st 2):=by
  unfold aI_
  rw[mk_]
  dsimp only
  rw[hl]
  rfl
 unfold cd_ fO_ fN_
 rw[e]
 rfl
theorem ul_ {s:USt} {st:Wst} (hl:ldN st.seen s.keepf 2=(-1,0,[])):kV_ aQ_ s st:=fun H hk ho hi he hR=>
 ns_ H hi (List.getElem?_eq_some_iff.1 he).2 hk ho hl fun u ℓ' mv Hu=>by
  have:=hR u ℓ' _ (UA.like.refl _) mv
  rw[nL_ hl] at this
  exact this Hu
open Go CF
section
variable {w u v:World} {N N' S D:Nat→Prop} {pw i n:Nat} {a:UA} {s:USt} {st st':Wst} {F:Int→Bool} {ℓ ℓ':Nat→Option Nat} {us us':List (UA×USt)}
def z6:L8:=List.replicate 6 0
theorem kX_ {R:Sl→W_} (h:∀xs w',ab_ w w'→Own w' w.heap.size ae_ 1 xs (bv z6)→R xs w'):a3_ w R:=by
 refine dr_.calls _ _ ?_
 exact hZ_ (n:=6) aX_ bE_ rfl d_ d_ (base:=w.heap.size) (Nat.le_refl _) fun w' hown hg hs=>h _ w' hg hown
theorem um_ {c:Cm} {out:Sl} {up:O_} {ab:Nat} {R:A_→W_} (hk:c.kind=1) (hR:∀v,ab_ w v→cW_ ab R (rsv 0 sn0 au_).toArray v):bj_ up (n:Int) (cmv c).toArray out w (cW_ ab R):=by
 refine el_.calls _ _ _ _ _ _ (ag_ fun cb w1 hcb hb1 hg1 hs1=>ag_ fun rb w2 hrb hb2 hg2 hs2=>?_)
 have hb1':Blk w2 cb (cmv c).toArray aD_:=hg2.heap hb1 (fun q=>q)
 refine⟨(c.kind:Int),by rw[aq_,hb1'.cell];rfl,am_ (by rw[hk];rfl) ?_⟩
 refine bL_ (st:=0) (s:=sn0) (d:=au_) hb2 rfl fun w3 hk3=>hR w3 ((hg1.trans hg2).keep hk3 fun i hi q=>by have:=hg1.size;omega)
theorem i4_:aP_ z6=({c0C with kind:=1},sn0,true):=k_
theorem l4_:cD_ (bd_ [] 10496)=some 10496:=k_
theorem l5_:fL_ (bd_ [] 10496) = []:=k_
theorem rQ_ {st:Wst} {i prot:Nat} {ps:List Nat} (hs:st.seen=fun _=>none):ldN st.seen (aO_ i prot ps).keepf 2=(-1,0,[]):=by
 rw[hs]
 exact oy_ (oA_ _)
theorem qy_ {i:Nat} (hi:i<2):(nmL i).size=1:=by
 have:∀i:Fin 2,(nmL i.val).size=1:=by decide +kernel
 exact this ⟨i,hi⟩
theorem sW_ {i prot:Nat} {ps:List Nat} (hi:i<2):1≤(aO_ i prot ps).keepf.size∧(aO_ i prot ps).keepf.size≤30:=by
 show 1≤(nmL i++fj_).size∧(nmL i++fj_).size≤30
 rw[iV_,qy_ hi]
 have:fj_.size=2:=d_
 omega
abbrev poS:Sn:=⟨6,10496,0,false,0,0,false,false⟩
def x2_ (s:USt) (n:Nat):USt:=bA_ (b1_ (ao_ s)) n
theorem wH_ {p out:Sl} {ps:List Nat} {k prot:Nat} {R:A_→W_} (H:Sys w ℓ pw st aQ_ us) (hi:i<us.length) (hk:k<2) (he:us[i]=(a,aO_ k prot ps)) (hs:st.seen=fun _=>none) (ho:st.ops<1000000) (hn:n<8) (hp:RdX w ℓ 1 p (bv z6))
  (hR:∀u ℓ',Mv w u ℓ ℓ'→Sys u ℓ' pw {st with ops:=st.ops+2} aQ_ (us.set i (a,x2_ (aO_ k prot ps) n))→R (rsv 2 poS au_).toArray u):aF_ (some ⟨a.ub,0,none⟩) (n:Int) p out w R:=by
 refine vj_ H hi he rfl rfl (sW_ hk) o_ (rQ_ hs) hn (by show 0<1000000000000;decide) hp fun ℓ1=>?_
 have hq:(b1_ (ao_ (aO_ k prot ps))).q n=bd_ [] 10496:=by
  show(if n<8 then bd_ [] 10496 else [])=_
  rw[if_pos hn]
 have:cc_ (b1_ (ao_ (aO_ k prot ps))) n z6=.told 10496:=by
  unfold cc_
  rw[i4_,hq,l4_]
  rfl
 rw[this]
 exact fun u m Hu=>hR u ℓ1 m Hu
theorem vI_ {p out:Sl} {R:A_→W_} (H:Sys w ℓ pw st F us) (hi:i<us.length) (he:us[i]=(a,s)) (hon:s.on=1) (hfl:s.fault=0) (hn:n<8) (hct:s.count<1000000000000) (hq:s.q n = []) (ht:s.tab.kind=0) (hp:RdX w ℓ 1 p (bv z6))
  (hR:∀u ℓ',Mv w u ℓ ℓ'→Sys u ℓ' pw st F (us.set i (a,ao_ s))→R (rsv 0 sn0 au_).toArray u):aF_ (some ⟨a.ub,0,none⟩) (n:Int) p out w R:=by
 refine sH_ H hi he hon hfl hn hct hp fun ℓ1=>?_
 have:cc_ (ao_ s) n z6=.run {c0C with kind:=1}:=by
  unfold cc_
  rw[i4_,show(ao_ s).q n = [] from hq]
  have hc:bN_ (ao_ s).tab n (fs_ ({c0C with kind:=1}:Cm).kind)=false:=if_pos (.inl ht)
  show(if bN_ (ao_ s).tab n (fs_ ({c0C with kind:=1}:Cm).kind)=true then pb_.conflict else if (eY_ 1&&(ao_ s).now.swp)=true then .prot else .run _)=_
  rw[hc]
  rfl
 rw[this]
 refine fun u ab m Hu hb hw hn1=>um_ rfl fun v g=>?_
 exact cW_.sys (Hu.grow g) (m.go g) hw hn1 (g.heap hb (fun q=>q)) rfl fun v' k hm hs=>hR v' ℓ1 hm hs
end
open Go CF
section
variable {w u v:World} {N N' S D:Nat→Prop} {pw i n:Nat} {a:UA} {s:USt} {st st':Wst} {F:Int→Bool} {ℓ ℓ':Nat→Option Nat} {us us':List (UA×USt)}
theorem oO_ {S:W_} {p:O_} {K:Addr→W_} {x:Nat} {sn:Sn} (H:Sys w ℓ pw st F us) (hS:∀v ℓ',Mv w v ℓ ℓ'→S v)
  (hD:∀v xs,ab_ w v→RdX v ℓ 1 xs (bv z6)→∀R:A_→W_,(∀u ℓ',Mv v u ℓ ℓ'→Sys u ℓ' pw st' F us'→R (rsv x sn au_).toArray u)→aF_ p 0 xs ⟨none,0,0⟩ v R)
  (hK:∀ab u ℓ',Mv w u ℓ ℓ'→Sys u ℓ' pw st' F us'→Blk u ab (rsv x sn au_).toArray ad_→ℓ' ab=none→w.heap.size≤ab→K ⟨ab,0,none⟩ u) :
  (a3_ w fun xs w05=>S w05∧(aF_ p 0 xs ⟨none,0,0⟩ w05 fun g1 w06=>New (.cells z10 ad_) w06 fun ab w07=>S w07∧ah_ Tryz.prog (storeVar ad_ ab (.agg g1)) w07 fun w08=>K ab w08)∧
   New (.cells z10 ad_) w05 fun ab w07=>S w07∧aF_ p 0 xs ⟨none,0,0⟩ w07 fun g w08=>ah_ Tryz.prog (storeVar ad_ ab (.agg g)) w08 fun w09=>K ab w09)∧
  New (.cells z10 ad_) w fun ab w05=>S w05∧a3_ w05 fun xs w06=>S w06∧aF_ p 0 xs ⟨none,0,0⟩ w06 fun g w07=>ah_ Tryz.prog (storeVar ad_ ab (.agg g)) w07 fun w08=>K ab w08:=by
 have rx:∀{v0 v:World} {xs:Sl},ab_ w v0→Own v v0.heap.size ae_ 1 xs (bv z6)→RdX v ℓ 1 xs (bv z6):=fun {v0 v xs} g ho=>⟨ho.rd (by have:=ho.len;rw[az_] at this;have e:z6.length=6:=rfl;omega),fun _ b hb=>by
  have:=ho.ge b.block (by simp[Sl.blk,hb])
  have:=g.size
  exact⟨o_,H.fresh o_⟩⟩
 have lay:∀{u:World} {ℓ':Nat→Option Nat} {ab:Nat} {cs:A_},Mv w u ℓ ℓ'→Sys u ℓ' pw st' F us'→Blk u ab cs ad_→cs.size=10→ℓ' ab=none→w.heap.size≤ab→ah_ Tryz.prog (storeVar ad_ ⟨ab,0,none⟩ (.agg (rsv x sn au_).toArray)) u fun w08=>K ⟨ab,0,none⟩ w08:=fun {u ℓ' ab cs} m Hu hb hc hn hw=>
  gw_ hb hc fun u' hb' hk' hs'=>hK ab u' ℓ' (m.loc hk' fun b hb q=>o_) (Hu.local1 hb hn hk' (eJ_ d_ d_ d_) d_) hb' hn hw
 refine⟨kX_ fun xs w1 hg1 ho1=>⟨hS _ _ (Mv.grow hg1),?_,?_⟩,?_⟩
 ·refine hD w1 xs hg1 (rx (aa_.refl _ _) ho1) _ fun u ℓ' m Hu=>ag_ fun ab u2 hab hb2 hg2 hs2=>?_
  have m1:=((Mv.grow hg1).trans m)
  exact⟨hS _ _ (m1.go hg2),lay (m1.go hg2) (Hu.grow hg2) hb2 rfl (Hu.fresh o_) (by have:=m1.keep.size;omega)⟩
 ·refine ag_ fun ab w2 hab hb2 hg2 hs2=>⟨hS _ _ (Mv.grow (hg1.trans hg2)),?_⟩
  refine hD w2 xs (hg1.trans hg2) ⟨(rx (aa_.refl _ _) ho1).rd.grow hg2,fun hv b hb=>⟨by have:=((rx (aa_.refl _ _) ho1).out hv b hb).1;have:=hg2.size;omega,((rx (aa_.refl _ _) ho1).out hv b hb).2⟩⟩ _ fun u ℓ' m Hu=>?_
  have hfn:ℓ ab=none:=H.fresh (by have:=hg1.size;omega)
  exact lay ((Mv.grow (hg1.trans hg2)).trans m) Hu (m.heap hb2 hfn) rfl ((m.lab _ (aw_ hb2)).trans hfn) (by have:=hg1.size;omega)
 ·refine ag_ fun ab w1 hab hb1 hg1 hs1=>⟨hS _ _ (Mv.grow hg1),kX_ fun xs w2 hg2 ho2=>⟨hS _ _ (Mv.grow (hg1.trans hg2)),?_⟩⟩
  refine hD w2 xs (hg1.trans hg2) (rx hg1 ho2) _ fun u ℓ' m Hu=>?_
  have hfn:ℓ ab=none:=H.fresh o_
  exact lay ((Mv.grow (hg1.trans hg2)).trans m) Hu (m.heap (hg2.heap hb1 (fun q=>q)) hfn) rfl ((m.lab _ (by have:=aw_ hb1;have:=hg2.size;omega)).trans hfn) o_
theorem qz_ {R:Bool→W_} (h:∀w',ab_ w w'→R true w'):fk_ w R:=by
 refine dp_.calls _ _ (j0_ fun pw D w1 hg1 hW hD=>?_)
 obtain⟨ℓ,H1,hℓ⟩:=Sys.world0 hW
 have old:∀b,b<w.heap.size→ℓ b=none:=fun b hb=>hℓ b fun q=>by have:=hD b q;omega
 refine nw_ (prot:=0) H1 d_ fun w2 ℓ2 a0 a1 m2 H2=>ag_ fun ub w3 hub hb3 hg3 hs3=>?_
 refine ap_ (cells:=#[.pointer (some ⟨a0.ub,0,none⟩),.pointer (some ⟨a1.ub,0,none⟩)]) hb3 e6_ rfl rfl (by simp[Value.oneCell']) fun w4 hb4 hk4 hs4=>?_
 have hg24:ab_ w2 w4:=hg3.keep hk4 fun i hi q=>o_
 have H4:=H2.grow hg24
 have hun:ℓ2 ub=none:=H2.fresh o_
 have cu:∀{v:World},Blk v ub #[.pointer (some ⟨a0.ub,0,none⟩),.pointer (some ⟨a1.ub,0,none⟩)] b9_→v.cell? ((⟨ub,0,none⟩:Addr).add ((0:Int).toNat*1))=some (.pointer (some ⟨a0.ub,0,none⟩)):=fun q=>by rw[aq_,Blk.cell q];rfl
 refine⟨⟨d_,d_⟩,_,cu hb4,aj_ rfl ?_⟩
 rintro w5 rfl
 have hg5:=ak_ w4
 have H5:=H4.grow hg5
 have hb5:Blk w4.drew ub _ b9_:=hg5.heap hb4 (fun q=>q)
 have hgu:∀{u:World} {ℓ':Nat→Option Nat},Mv w4.drew u ℓ2 ℓ'→ab_ w u:=fun m=>hg1.keep ((m2.go (hg24.trans hg5)).trans m).keep fun b hb q=>q (old b hb)
 have cS:∀{v:World} {ℓ':Nat→Option Nat},Mv w4.drew v ℓ2 ℓ'→v.cell? ((⟨ub,0,none⟩:Addr).add ((0:Int).toNat*1))=some (.pointer (some ⟨a0.ub,0,none⟩)):=fun m=>cu (m.heap hb5 hun)
 generalize w4.drew=w5 at *
 refine⟨fun o=>o.cell? ((⟨ub,0,none⟩:Addr).add ((0:Int).toNat*1))=some (.pointer (some ⟨a0.ub,0,none⟩)),cu hb5,⟨d_,d_⟩,_,fun o q=>q,?_⟩
 refine oO_ (x:=2) (sn:=poS) H5 (fun v ℓ' m=>cS m) (fun v xs g hx R hR=>wH_ (i:=0) (k:=0) (n:=0) (prot:=0) (H5.grow g) (by show 0<2;decide) d_ rfl rfl (by show 0<1000000;decide) d_ hx hR) fun ab u ℓ3 m3 H3 hab hna lab=>?_
 rintro w6 rfl
 have hg6:=ak_ u
 have m6:=m3.go hg6
 have H6:=H3.grow hg6
 have hab6:Blk u.drew ab _ ad_:=hg6.heap hab (fun q=>q)
 generalize u.drew=w6 at *
 refine⟨fun o=>o.cell? ((⟨ub,0,none⟩:Addr).add ((0:Int).toNat*1))=some (.pointer (some ⟨a0.ub,0,none⟩)),cS m6,⟨d_,d_⟩,_,fun o q=>q,?_⟩
 refine oO_ (x:=0) (sn:=sn0) H6 (fun v ℓ' m=>cS (m6.trans m)) (fun v xs g hx R hR=>vI_ (i:=0) (n:=0) (H6.grow g) (by show 0<2;decide) rfl rfl rfl d_ (by show 1<1000000000000;decide) l5_ rfl hx hR) fun bb u2 ℓ4 m4 H4' hbb hnb lbb=>?_
 rintro w7 rfl
 have hg7:=ak_ u2
 have hab7:Blk u2.drew ab (rsv 2 poS au_).toArray ad_:=(m4.go hg7).heap hab6 hna
 have hbb7:Blk u2.drew bb (rsv 0 sn0 au_).toArray ad_:=hg7.heap hbb (fun q=>q)
 have gw7:=hgu ((m6.trans m4).go hg7)
 generalize u2.drew=w7 at *
 refine⟨fun o=>Blk o ab (rsv 2 poS au_).toArray ad_∧Blk o bb (rsv 0 sn0 au_).toArray ad_,⟨hab7,hbb7⟩,(rsv 2 poS au_).toArray,fun o q=>kK_ (ar_ q.1),?_⟩
 refine mj_ (key:=6) (code:=10496) fun w8 hg8=>?_
 have st8:∀{o:World},ab_ w7 o→Blk o ab (rsv 2 poS au_).toArray ad_∧Blk o bb (rsv 0 sn0 au_).toArray ad_:=fun g=>⟨g.heap hab7 (fun q=>q),g.heap hbb7 (fun q=>q)⟩
 refine⟨st8 hg8,jH_ (iC_ _) (iC_ _) fun w9 hg9=>?_⟩
 have hs9:=st8 (hg8.trans hg9)
 refine⟨hs9,fun o=>Blk o ab (rsv 2 poS au_).toArray ad_∧Blk o bb (rsv 0 sn0 au_).toArray ad_,hs9,fun _ q=>q,(rsv 0 sn0 au_).toArray,fun _ o q=>kK_ (ar_ q.2),fun o=>Blk o ab (rsv 2 poS au_).toArray ad_∧Blk o bb (rsv 0 sn0 au_).toArray ad_,hs9,fun _ q=>q,?_⟩
 refine cm_ (fun(b2:Bool) o=>b2=true∧ab_ w9 o) ?_ (fun J=>⟨fun _=>jH_ (sn:=sn0) (d2:=au_) (iC_ _) (iC_ _) fun w10 hg10=>J _ _ ⟨rfl,hg10⟩,fun q=>by cases q⟩)
 rintro b2 o ⟨rfl,hgo⟩
 exact h o (((gw7.trans hg8).trans hg9).trans hgo)
end
open Go CF
theorem nM_ {us:List (UA×USt)} {k:Nat} (h:k<us.length) (h':k<(pub us).length):(pub us)[k]=(us[k].1.ub,us[k].2):=(List.getElem?_eq_some_iff.1 (oa_ h)).2
section
variable {w u v:World} {N N' S:Nat→Prop} {pw i n m:Nat} {a:UA} {s s1:USt} {st st1:Wst} {F:Int→Bool} {ℓ ℓ':Nat→Option Nat} {us:List (UA×USt)} {p out:Sl} {l lo:L8} {c:Cm} {R:A_→W_} {P P':Pu}
structure Tw (w v:World) (ℓ:Nat→Option Nat) (pw:Nat) (F:Int→Bool) (P:Pu) (st:Wst) (m:Nat):Prop where
 ex:∃us,Sys v ℓ pw st F us∧SOk st us m∧pub us=P
 grow:ab_ w v
 old:∀b,b<w.heap.size→ℓ b=none
 peers:∀x∈P,x.2.peers.length≤100∧∀b∈x.2.peers,∃y∈P,y.1=b
 count:∀x∈P,x.2.count≤m
theorem Tw.go (h:Tw w v ℓ pw F P st m) (g:ab_ v u):Tw w u ℓ pw F P st m:=by
 obtain⟨us,h1,h2,h3⟩:=h.ex
 exact⟨⟨us,h1.grow g,h2,h3⟩,h.grow.trans g,h.old,h.peers,h.count⟩
theorem Tw.mono {m':Nat} (h:Tw w v ℓ pw F P st m) (hm:m≤m'):Tw w v ℓ pw F P st m':=by
 obtain⟨us,h1,h2,h3⟩:=h.ex
 exact⟨⟨us,h1,h2.mono hm,h3⟩,h.grow,h.old,h.peers,fun x hx=>Nat.le_trans (h.count x hx) hm⟩
theorem Tw.fresh (h:Tw w v ℓ pw F P st m) {b:Nat} (hb:v.heap.size≤b):ℓ b=none:=by
 obtain⟨us,h1,_,_⟩:=h.ex
 exact h1.fresh hb
theorem Tw.row (h:Tw w v ℓ pw F P st m) {w0:World} {x:Sl} {l:L8} (ho:LR v ℓ w0.heap.size ae_ 1 x (bv l)) (hl:l.length≤1000000):RdX v ℓ 1 x (bv l):=by
 have hn:=fe_ ho.own
 refine⟨ho.own.rd o_,fun _ a ha=>?_⟩
 have hb:x.blk=some a.block:=by unfold Sl.blk;rw[ha];rfl
 exact⟨(ho.own.ge _ hb).2,ho.no _ hb⟩
theorem Tw.rowNil (_:Tw w v ℓ pw F P st m):RdX v ℓ 1 au_ (bv []):=⟨iC_ v,fun _ _ ha=>by cases ha⟩
theorem Mv.tw (h:Tw w v ℓ pw F P st m) (mv:Mv v u ℓ ℓ'):ab_ w u∧∀b,b<w.heap.size→ℓ' b=none:=by
 have sz:=h.grow.size
 refine⟨h.grow.keep mv.keep fun b hb q=>q (h.old b hb),fun b hb=>?_⟩
 rw[mv.lab b o_];exact h.old b hb
theorem Tw.dos {x:Nat×USt} (hL:x.2.on≠1→kV_ F {ao_ x.2 with lock:=1} st) (hN:∀c,(aC_ F (ao_ x.2) st).1=0→cc_ (aC_ F (ao_ x.2) st).2.1 n l=.run c→kW_ c.kind) (h:Tw w v ℓ pw F P st m) (hm:m≤100000000) (hi:i<P.length) (he:P[i]=x) (hn:n<8) (hp:RdX v ℓ 1 p (bv l)) (ho:RdX v ℓ 1 out (bv lo)) (hb:out.n≤140737488351232)
  (hR:∀v' ℓ' d,Mv v v' ℓ ℓ'→Tw w v' ℓ' pw F (aW_ F P st i n l lo).2.1 (aW_ F P st i n l lo).2.2 (m+200002)→Dat v v' ℓ' d (aW_ F P st i n l lo).1.d→(aW_ F P st i n l lo).2.1.length=P.length→(∀k (h:k<P.length) (h':k<(aW_ F P st i n l lo).2.1.length),(aW_ F P st i n l lo).2.1[k].1=P[k].1∧(aW_ F P st i n l lo).2.1[k].2.count=P[k].2.count+if k=i then 1 else 0)→R (rsv (aW_ F P st i n l lo).1.st (aW_ F P st i n l lo).1.sn d).toArray v'):aF_ (some ⟨x.1,0,none⟩) (n:Int) p out v R:=by
 obtain⟨us,H,K,rfl⟩:=h.ex
 have hlen:(pub us).length=us.length:=by unfold pub;rw[List.length_map]
 have hiu:i<us.length:=o_
 have ex:x=(us[i].1.ub,us[i].2):=by rw[←he,nM_ hiu]
 subst ex
 have hmem:∀k (hk:k<us.length),(us[k].1.ub,us[k].2)∈pub us:=fun k hk=>List.mem_map.2 ⟨us[k],List.getElem_mem hk,rfl⟩
 have hpe:=h.peers _ (hmem i hiu)
 have hct:=h.count _ (hmem i hiu)
 have gp:∀{us:List (UA×USt)} {k:Nat} (h:k<us.length) (h':k<(pub us).length),(pub us)[k]=(us[k].1.ub,us[k].2):=fun {us k} h h'=>nM_ h h'
 refine vF_ (a:=us[i].1) (s:=us[i].2) hL hN H K hm hiu rfl hn (by dsimp only at hct;omega) hp ho hb (fun b hb2=>?_) hpe.1 fun v' ℓ' d us' mv Hv Kv hl hlk hpub dt=>?_
 ·obtain⟨y,hy,rfl⟩:=hpe.2 b hb2
  obtain⟨z,hz,rfl⟩:=List.mem_map.1 hy
  obtain⟨j,hj,rfl⟩:=List.getElem_of_mem hz
  exact⟨j,hj,rfl⟩
 ·obtain⟨g1,g2⟩:=Mv.tw h mv
  rw[←hpub] at hR
  have hlen':(pub us').length=us'.length:=by unfold pub;rw[List.length_map]
  refine hR v' ℓ' d mv ⟨⟨us',Hv,Kv,rfl⟩,g1,g2,fun y hy=>?_,fun y hy=>?_⟩ dt o_ fun k h1 h2=>?_
  ·obtain⟨z,hz,rfl⟩:=List.mem_map.1 hy
   obtain⟨k,hk,rfl⟩:=List.getElem_of_mem hz
   obtain⟨_,q2,_⟩:=hlk k o_ hk
   have:=h.peers _ (hmem k o_)
   dsimp only at this ⊢
   rw[q2]
   refine⟨this.1,fun b hb=>?_⟩
   obtain⟨y,hy,rfl⟩:=this.2 b hb
   obtain⟨z,hz,rfl⟩:=List.mem_map.1 hy
   obtain⟨j,hj,rfl⟩:=List.getElem_of_mem hz
   have hj':j<us'.length:=o_
   exact⟨(us'[j].1.ub,us'[j].2),List.mem_map.2 ⟨us'[j],List.getElem_mem hj',rfl⟩,(hlk j hj hj').1.ub⟩
  ·obtain⟨z,hz,rfl⟩:=List.mem_map.1 hy
   obtain⟨k,hk,rfl⟩:=List.getElem_of_mem hz
   obtain⟨_,_,q3⟩:=hlk k o_ hk
   have:=h.count _ (hmem k o_)
   dsimp only at this ⊢
   rw[q3]
   split<;>omega
  ·have k1:k<us.length:=o_
   have k2:k<us'.length:=o_
   rw[gp k1 h1,gp k2 h2]
   exact⟨(hlk k k1 k2).1.ub,(hlk k k1 k2).2.2⟩
def ym_ (b0 b1 prot:Nat):Pu:=[(b0,aO_ 0 prot [b1]),(b1,aO_ 1 prot [b0])]
end
open Go CF
section
variable {w u v:World} {N N' S D:Nat→Prop} {pw i n m:Nat} {a:UA} {s s1:USt} {st st1:Wst} {F:Int→Bool} {ℓ ℓ':Nat→Option Nat} {us:List (UA×USt)} {p out:Sl} {l lo:L8} {c:Cm} {P P':Pu}
theorem qA_ {k prot:Nat} {ps:List Nat} (hk:k<2) (hpr:prot≤3) (hg:Good (gv_ st (nmL k++c1_))):UOk st (aO_ k prot ps):=by
 have:=qy_ hk
 exact⟨⟨by show 1≤24;decide,by show 24≤4096;decide⟩,oD_ hk hpr,⟨nmL k,o_,o_,rfl,rfl⟩,hg,.inr ⟨rfl,rfl⟩⟩
theorem Tw.units {prot:Nat} {R:A_→W_} (H:Sys v ℓ pw st F []) (g:ab_ w v) (old:∀b,b<w.heap.size→ℓ b=none) (hpr:prot≤3) (hok:Wok st) (few:st.ops≤m∧st.waits.length≤m) (hg:∀k,k<2→Good (gv_ st (nmL k++c1_)))
  (hR:∀u ℓ' b0 b1,Mv v u ℓ ℓ'→Tw w u ℓ' pw F (ym_ b0 b1 prot) st m→R #[.pointer (some ⟨b0,0,none⟩),.pointer (some ⟨b1,0,none⟩)] u):b4_ (some ⟨pw,0,none⟩) (prot:Int) v R:=by
 refine nw_ H hpr fun u ℓ' a0 a1 mv Hu=>?_
 have sz:=g.size
 refine hR u ℓ' a0.ub a1.ub mv ⟨⟨_,Hu,⟨hok,few,fun x hx=>?_⟩,rfl⟩,g.keep mv.keep fun b hb q=>q (old b hb),fun b hb=>?_,fun x hx=>?_,fun x hx=>?_⟩
 ·rcases List.mem_cons.1 hx with r|r
  ·rw[r];exact qA_ d_ hpr (hg 0 d_)
  ·rw[List.mem_singleton.1 r];exact qA_ d_ hpr (hg 1 d_)
 ·rw[mv.lab b o_];exact old b hb
 ·rcases List.mem_cons.1 hx with r|r
  ·rw[r];exact⟨by show 1≤100;decide,fun b hb=>⟨(a1.ub,aO_ 1 prot [a0.ub]),List.mem_cons_of_mem _ (List.mem_singleton.2 rfl),(List.mem_singleton.1 hb).symm⟩⟩
  ·rw[List.mem_singleton.1 r];exact⟨by show 1≤100;decide,fun b hb=>⟨(a0.ub,aO_ 0 prot [a1.ub]),List.mem_cons_self,(List.mem_singleton.1 hb).symm⟩⟩
 ·rcases List.mem_cons.1 hx with r|r
  ·rw[r];exact Nat.zero_le _
  ·rw[List.mem_singleton.1 r];exact Nat.zero_le _
end
open Go CF
def l6_ (F:Int→Bool) (P:Pu) (st:Wst) (i n:Nat) (l:L8):Prop:=∀x,P[i]?=some x→(x.2.on≠1→kV_ F {ao_ x.2 with lock:=1} st)∧∀c,(aC_ F (ao_ x.2) st).1=0→cc_ (aC_ F (ao_ x.2) st).2.1 n l=.run c→kW_ c.kind
def Sh (i:Nat) (P P':Pu):Prop:=P'.length=P.length∧∀k x,P[k]?=some x→∃s',P'[k]?=some (x.1,s')∧s'.count=x.2.count+if k=i then 1 else 0
def hO_ (F:Int→Bool) (i n:Nat) (l lo:L8):Nat→Pu→Wst→RsX×Pu×Wst
 | 0,P,st=>aW_ F P st i n l lo
 | k+1,P,st=>if (aW_ F P st i n l lo).1.sn.key=6 then hO_ F i n l lo k (aW_ F P st i n l lo).2.1 (aW_ F P st i n l lo).2.2 else aW_ F P st i n l lo
section
variable {w u v v0:World} {N N' S D:Nat→Prop} {pw i n m:Nat} {st st1:Wst} {F:Int→Bool} {ℓ ℓ':Nat→Option Nat} {p out:Sl} {l lo:L8} {P P':Pu}
theorem Tw.dosN {x:Nat×USt} {R:A_→W_} (N:l6_ F P st i n l) (h:Tw w v ℓ pw F P st m) (hm:m≤100000000) (he:P[i]?=some x) (hn:n<8) (hp:RdX v ℓ 1 p (bv l)) (ho:RdX v ℓ 1 out (bv lo)) (hb:out.n≤140737488351232)
  (hR:∀v' ℓ' d,Mv v v' ℓ ℓ'→Tw w v' ℓ' pw F (aW_ F P st i n l lo).2.1 (aW_ F P st i n l lo).2.2 (m+200002)→Dat v v' ℓ' d (aW_ F P st i n l lo).1.d→Sh i P (aW_ F P st i n l lo).2.1→R (rsv (aW_ F P st i n l lo).1.st (aW_ F P st i n l lo).1.sn d).toArray v'):aF_ (some ⟨x.1,0,none⟩) (n:Int) p out v R:=by
 obtain⟨hi,hx⟩:=List.getElem?_eq_some_iff.1 he
 obtain⟨n1,n2⟩:=N x he
 refine Tw.dos n1 n2 h hm hi hx hn hp ho hb fun v' ℓ' d mv T dt hl hk=>hR v' ℓ' d mv T dt ⟨hl,fun k y hy=>?_⟩
 obtain⟨h1,h2⟩:=List.getElem?_eq_some_iff.1 hy
 have h3:k<(aW_ F P st i n l lo).2.1.length:=o_
 obtain⟨q1,q2⟩:=hk k h1 h3
 rw[h2] at q1 q2
 exact⟨(aW_ F P st i n l lo).2.1[k].2,List.getElem?_eq_some_iff.2 ⟨h3,Prod.ext q1 rfl⟩,q2⟩
theorem Tw.local1 {b:Nat} {cs:A_} {t:TypeId} (h:Tw w v ℓ pw F P st m) (hb:Blk v b cs t) (hn:ℓ b=none) (k:aa_ (fun k=>k=b) v u) (ht:¬kN_ t) (ht2:t≠ae_) (hw:w.heap.size≤b):Tw w u ℓ pw F P st m:=by
 obtain⟨us,q1,q2,q3⟩:=h.ex
 exact⟨⟨us,q1.local1 hb hn k ht ht2,q2,q3⟩,h.grow.keep k fun b' hb' q=>o_,h.old,h.peers,h.count⟩
theorem Tw.res1 {b:Nat} {cs:A_} (h:Tw w v ℓ pw F P st m) (hb:LB v ℓ b cs ad_) (k:aa_ (fun k=>k=b) v u) (hw:w.heap.size≤b):Tw w u ℓ pw F P st m:=h.local1 hb.blk hb.no k (eJ_ d_ d_ d_) d_ hw
theorem Dat.loc {b:Nat} {cs:A_} {t:TypeId} {d:Sl} (h:Dat v0 v ℓ d l) (hb:Blk v b cs t) (ht:t≠ae_) (k:aa_ (fun k=>k=b) v u):Dat v0 u ℓ d l:=
 ⟨h.1.keep k fun x hx q=>be_ h.1 hb ht (by rw[hx,q]),h.2⟩
theorem Dat.go {d:Sl} (h:Dat v0 v ℓ d l) (g:ab_ v u):Dat v0 u ℓ d l:=⟨h.1.grow g,h.2⟩
theorem Tw.does {b:Nat} {R:A_→W_} (I:Pu→Wst→Prop) (hN:∀P st,I P st→l6_ F P st i n l∧((aW_ F P st i n l lo).1.sn.key=6→I (aW_ F P st i n l lo).2.1 (aW_ F P st i n l lo).2.2)) (hI:I P st) (h:Tw w v ℓ pw F P st m) (hm:m≤90000000) (he:∃s,P[i]?=some (b,s)) (hn:n<8) (hp:RdX v ℓ 1 p (bv l)) (ho:RdX v ℓ 1 out (bv lo)) (hb:out.n≤140737488351232)
  {Y:RsX×Pu×Wst} (hY:hO_ F i n l lo 9 P st=Y) (hR:∀v' ℓ' d,Mv v v' ℓ ℓ'→Tw w v' ℓ' pw F Y.2.1 Y.2.2 (m+2000020)→Dat v v' ℓ' d Y.1.d→(∃s,Y.2.1[i]?=some (b,s))→R (rsv Y.1.st Y.1.sn d).toArray v'):ce_ (some ⟨b,0,none⟩) (n:Int) p out v R:=by
 refine dZ_.calls _ _ _ _ _ _ (ag_ fun ab w1 hab hb1 hg1 hs1=>?_)
 have T1:=h.go hg1
 have nab:ℓ ab=none:=h.fresh o_
 have wab:w.heap.size≤ab:=by have:=h.grow.size;omega
 obtain⟨s0,he⟩:=he
 have mr:=Mv.grow (ℓ:=ℓ) hg1
 obtain⟨N0,I0⟩:=hN P st hI
 refine Tw.dosN (x:=(b,s0)) N0 T1 o_ he hn (mr.rdX hp) (mr.rdX ho) hb fun v2 ℓ2 d mv T2 dt sh=>?_
 refine iD_ fun rb v3 hrb g3 hbr=>?_
 have nrb:ℓ2 rb=none:=T2.fresh o_
 have s12:=mv.keep.size
 refine⟨fun x y=>∃(j:Nat) (X:RsX×Pu×Wst) (ℓ':Nat→Option Nat) (d:Sl),x=j∧j≤9∧Mv v y ℓ ℓ'∧Tw w y ℓ' pw F X.2.1 X.2.2 (m+(j+1)*200002)∧Dat v y ℓ' d X.1.d∧LB y ℓ' rb (rsv X.1.st X.1.sn d).toArray ad_∧LB y ℓ' ab z10 ad_∧(∃s,X.2.1[i]?=some (b,s))∧(X.1.sn.key=6→I X.2.1 X.2.2)∧hO_ F i n l lo 9 P st=if X.1.sn.key=6∧j<9 then hO_ F i n l lo (8-j) X.2.1 X.2.2 else X,fun x _=>9-x.toNat,?_,?_⟩
 ·obtain⟨s1,e1,_⟩:=sh.2 i _ he
  refine⟨0,aW_ F P st i n l lo,ℓ2,d,rfl,d_,(mr.trans mv).go g3,(T2.go g3).mono o_,(dt.from hg1.size).go g3,⟨hbr,nrb⟩,⟨(mv.heap hb1 nab |> fun q=>g3.heap q (fun q=>q)),(mv.lab _ (aw_ hb1)).trans nab⟩,⟨s1,e1⟩,I0,?_⟩
  show(if (aW_ F P st i n l lo).1.sn.key=6 then _ else _)=_
  by_cases q:(aW_ F P st i n l lo).1.sn.key=6
  ·rw[if_pos q,if_pos ⟨q,d_⟩]
  ·rw[if_neg q,if_neg (fun z=>q z.1)]
 rintro x y ⟨j,X,ℓy,dy,rfl,hj,my,Ty,dty,br,ba,⟨sy,ey⟩,IX,eX⟩
 refine⟨(X.1.sn.key:Int),fun _=>by rw[aq_,aq_,Blk.cell br.blk];rfl,?_⟩
 by_cases q:X.1.sn.key=6∧j<9
 ·rw[if_pos q] at eX
  refine am_ (by rw[Bool.and_eq_true,decide_eq_true_eq,beq_iff_eq];omega) ?_
  obtain⟨Ny,Iy⟩:=hN _ _ (IX q.1)
  refine Tw.dosN (x:=(b,sy)) Ny Ty o_ ey hn (my.rdX hp) (my.rdX ho) hb fun z ℓz dz mz Tz dtz shz=>?_
  have brz:=br.mv mz
  refine gw_ brz.blk rfl fun z2 hbz hkz hsz=>?_
  rw[w64 o_ o_]
  obtain⟨s1,e1,_⟩:=shz.2 i _ ey
  have wrb:w.heap.size≤rb:=by have:=T2.grow.size;omega
  have ne:ab≠rb:=by have:=aw_ hb1;omega
  refine⟨⟨j+1,aW_ F X.2.1 X.2.2 i n l lo,ℓz,dz,o_,o_,?_,(Tz.res1 brz hkz wrb).mono (by rw[Nat.succ_mul];omega),?_,⟨hbz,brz.no⟩,?_,⟨s1,e1⟩,Iy,?_⟩,by dsimp only;omega⟩
  ·exact(my.trans mz).loc hkz fun b hb q=>o_
  ·exact(dtz.from my.keep.size).loc brz.blk d_ hkz
  ·exact⟨hkz.heap (ba.mv mz).blk ne,(ba.mv mz).no⟩
  ·rw[eX]
   have:8-j=(8-(j+1))+1∨(j=8∧8-j=0):=o_
   rcases this with r|⟨r,r2⟩
   ·rw[r]
    show(if (aW_ F X.2.1 X.2.2 i n l lo).1.sn.key=6 then _ else _)=_
    by_cases q3:(aW_ F X.2.1 X.2.2 i n l lo).1.sn.key=6
    ·rw[if_pos q3,if_pos ⟨q3,o_⟩]
    ·rw[if_neg q3,if_neg (fun z=>q3 z.1)]
   ·rw[r2,if_neg o_]
    rfl
 ·rw[if_neg q] at eX
  refine aj_ (by rw[Bool.and_eq_false_iff,decide_eq_false_iff_not,beq_eq_false_iff_ne];omega) ⟨_,kK_ (ar_ br.blk),?_⟩
  rw[hY] at eX
  subst eX
  refine bL_ ba.blk rfl fun z hk=>hR z ℓy dy (my.loc hk fun b hb q=>o_) ((Ty.res1 ba hk wab).mono o_) (dty.loc ba.blk d_ hk) ⟨sy,ey⟩
end
open Go CF
section
variable {w u v:World}
end
open Go CF
section
variable {H:Type} {enc:TypeId×Value→H} {w:World} {base:Nat} {spare:Nat→Bool} {held:Bool}
theorem l7_ {k:IntKind} {v:Value} (h:(Kd.i k).fit v=true):∃n,v=.int k n:=⟨_,(mk_un h).symm⟩
theorem ka_ {x:Int} (h:(Lit.int .u8 x).wf=true):∃n:Nat,x=(n:Int)∧n<256:=by
 simp[Lit.wf,IntKind.min,IntKind.max,IntKind.signed,IntKind.bits] at h
 exact⟨x.toNat,o_,o_⟩
end
open Go CF
section
variable {w u v:World} {pw n m:Nat} {ℓ ℓ':Nat→Option Nat} {P:Pu} {st:Wst}
abbrev stN:Wst:=⟨fun _=>none,fun _=>none,[],0⟩
theorem vJ_ {F:Int→Bool} {s:USt} {st:Wst} (h:s.on=1):aC_ F s st=(s.fault,s,st):=by unfold aC_;rw[if_pos h]
end
open Go CF
section
variable {F:Int→Bool} {b0 n:Nat} {s S:USt} {st st':Wst} {r:Pu} {l out:L8} {c:Cm}
theorem fy_ (h:s.on=1) (hf:s.fault=0):aC_ F (ao_ s) st=(0,ao_ s,st):=by
 rw[vJ_ (show(ao_ s).on=1 from h)]
 show(s.fault,_,_)=_
 rw[hf]
theorem sX_ {P:Pu} (h:∀x,P[0]?=some x→x.2.on≠1→kV_ F {ao_ x.2 with lock:=1} st):l6_ F P st 0 n z6:=fun x hx=>⟨h x hx,fun c _ hc=>by
 rw[qx_ hc,i4_];exact oN_ d_ d_ d_ rh_⟩
end
open Go CF
section
variable {w u v z:World} {pw n m b0 b1:Nat} {ℓ ℓ':Nat→Option Nat} {P:Pu} {st:Wst} {s:USt} {r:Pu} {F:Int→Bool}
theorem Tw.rowN {x:Sl} {l:L8} (T:Tw w z ℓ pw F P st m) (g:ab_ z v) (ho:CF.Own v z.heap.size ae_ 1 x (bv l)) (hl:l.length≤1000000):RdX v ℓ 1 x (bv l):=
 (T.go g).row (w0:=z) ⟨ho,fun _ hb=>T.fresh (ho.ge _ hb).1⟩ hl
theorem Tw.lit {l:L8} {k:Nat} {parts:Array (Nat×Value)} {K:Sl→W_} (T:Tw w v ℓ pw F P st m) (hl:(Instr.buildSlice bn_ k parts).run Tryz.prog v=.ok (.slice (some ⟨v.heap.size,0,none⟩) k k) (v.alloc (.cells (bv l).toArray ae_))) (hk:l.length=k) (hk2:k≤1000000)
  (h:∀xs u,ab_ v u→Tw w u ℓ pw F P st m→RdX u ℓ 1 xs (bv l)→K xs u):an_ Tryz.prog .sl (Instr.buildSlice bn_ k parts) v K:=
 aN_ (cells:=(bv l).toArray) (e:=ae_) (z:=1) (base:=v.heap.size) hl (by rw[List.size_toArray,az_,hk,Nat.mul_one]) o_ (Nat.le_refl _) fun u o g _=>h _ u g (T.go g) (T.rowN g o o_)
end
open Go CF
section
variable {n:Nat} {c:Cm} {file:ByteArray} {st:Wst} {l:L8} {cache:Bool}
end
open Go CF
section
variable {F:Int→Bool} {b i n:Nat} {s S:USt} {st st':Wst} {P:Pu} {l lo:L8} {c:Cm}
theorem un_ (h:P[i]?=some (b,s)) (hs:aC_ F (ao_ s) st=(0,S,st')):aW_ F P st i n l lo=match cc_ S n l with
  | .bad sn=>(snX sn,P.set i (b,S),st')
  | .told c=>(snX (uaS c),P.set i (b,bA_ S n),st')
  | .conflict=>(⟨24,sn0,[]⟩,P.set i (b,S),st')
  | .prot=>(snX xy_,P.set i (b,S),st')
  | .run c=>jN_ F (P.set i (b,S)) st' i n c lo:=by
 unfold aW_
 rw[h]
 dsimp only
 rw[hs,if_neg (fun q=>q rfl)]<;>(dsimp only;cases cc_ S n l<;>rfl)
theorem kY_ {k:Nat} (h:(aW_ F P st i n l lo).1.sn.key≠6):hO_ F i n l lo k P st=aW_ F P st i n l lo:=by
 cases k with
 | zero=>rfl
 | succ k=>exact if_neg h
theorem qB_ {code:Nat} (h:P[i]?=some (b,s)) (hs:aC_ F (ao_ s) st=(0,S,st')) (hp:(aP_ l).2.2=true) (hf:fM_ (aP_ l).1.kind=false) (hc:cD_ (S.q n)=some code):aW_ F P st i n l lo=(snX (uaS code),P.set i (b,bA_ S n),st'):=by
 rw[un_ h hs]
 unfold cc_
 rw[hp,if_neg Bool.noConfusion,hc,hf]
theorem sY_ {code k:Nat} (h:P[i]?=some (b,s)) (hs:aC_ F (ao_ s) st=(0,S,st')) (hp:(aP_ l).2.2=true) (hf:fM_ (aP_ l).1.kind=false) (hc:cD_ (S.q n)=some code):hO_ F i n l lo (k+1) P st=hO_ F i n l lo k (P.set i (b,bA_ S n)) st':=by
 have e:=qB_ (lo:=lo) h hs hp hf hc
 show(if (aW_ F P st i n l lo).1.sn.key=6 then _ else _)=_
 rw[e,if_pos (show(snX (uaS code)).sn.key=6 from rfl)]
theorem ph_ (h:P[i]?=some (b,s)) (hs:aC_ F (ao_ s) st=(0,S,st')) (hp:(aP_ l).2.2=true) (hc:S.q n = []) (hk:bN_ S.tab n (fs_ (aP_ l).1.kind)=false) (hw:S.now.swp=false):aW_ F P st i n l lo=jN_ F (P.set i (b,S)) st' i n (aP_ l).1 lo:=by
 rw[un_ h hs]
 unfold cc_
 rw[hp,if_neg Bool.noConfusion,hc,hk,hw,Bool.and_false]
 cases fM_ (aP_ l).1.kind<;>rfl
theorem qC_ (h:P[i]?=some (b,s)) (hk:c.kind=16):jN_ F P st i n c lo=((hl_ F s st n c lo).x,P.set i (b,(hl_ F s st n c lo).s),(hl_ F s st n c lo).w):=by
 unfold jN_
 rw[if_neg o_,h]
 dsimp only
 rw[if_neg o_,if_pos hk]
theorem uo_ (h:P[i]?=some (b,s)) (h18:c.kind≠18) (h4:c.kind≠4) (h16:c.kind≠16):jN_ F P st i n c lo=((hk_ F s st n c lo).x,P.set i (b,(hk_ F s st n c lo).s),(hk_ F s st n c lo).w):=by
 unfold jN_
 rw[if_neg h18,h]
 dsimp only
 rw[if_neg h4,if_neg h16]
def cX_ (sv kind:Nat):L8:=[0x5f,UInt8.ofNat sv,UInt8.ofNat kind,0,0,0,0,0,24,0]
def eL_ (key action:Nat) (lasts:Bool):L8:=beN 8 key++beN 8 action++[0,0,0,0,if lasts then 1 else 0,0,0,0]
theorem i5_ (key action:Nat) (lasts:Bool):(eL_ key action lasts).length=24:=by unfold eL_;simp[bg_]
theorem oP_ (r m:L8):∀(a:L8) (i:Nat),fR_ (a++r) (List.replicate a.length 255++m) i=fR_ r m (i+a.length)
 | [],i=>rfl
 | x::a,i=>by
  have e:eH_ (x &&& ~~~(255:UInt8)).toNat 8=none:=by
   rw[show x &&& ~~~(255:UInt8)=0 by rw[show ~~~(255:UInt8)=0 by decide];exact UInt8.and_zero]
   decide
  show(match eH_ (x &&& ~~~(((255:UInt8)::(List.replicate a.length 255++m)).getD 0 0)).toNat 8 with|some k=>some (i,k)|none=>fR_ (a++r) (List.replicate a.length 255++m) (i+1))=_
  rw[show((255:UInt8)::(List.replicate a.length 255++m)).getD 0 0=255 from rfl,e]
  dsimp only
  rw[oP_ r m a (i+1),List.length_cons]
  congr 1
  omega
theorem vK_ (key action:Nat) (lasts:Bool):fR_ (eL_ key action lasts) nF_ 0=none:=by
 have h:(beN 8 key++beN 8 action).length=16:=by simp[bg_]
 have:=oP_ [0,0,0,0,if lasts then 1 else 0,0,0,0] [0,0,0,0,1] (beN 8 key++beN 8 action) 0
 rw[h] at this
 unfold eL_ nF_
 rw[this]
 cases lasts<;>decide
theorem vL_ {key action:Nat} {lasts:Bool} (hk:key<18446744073709551616) (ha:action<18446744073709551616):e0_ c (eL_ key action lasts)=⟨c.service,c.type,key,action,lasts⟩:=by
 have l1:(beN 8 key).length=8:=bg_ _ _
 have l2:(beN 8 action).length=8:=bg_ _ _
 unfold e0_ eL_
 have e1:((beN 8 key++beN 8 action++[0,0,0,0,if lasts then 1 else 0,0,0,0]).drop 0).take 8=beN 8 key:=by
  rw[List.drop_zero,List.append_assoc,List.take_append_of_le_length o_,List.take_of_length_le o_]
 have e2:((beN 8 key++beN 8 action++[0,0,0,0,if lasts then 1 else 0,0,0,0]).drop 8).take 8=beN 8 action:=by
  rw[List.append_assoc,List.drop_append_of_le_length o_,List.drop_of_length_le o_,List.nil_append,List.take_append_of_le_length o_,List.take_of_length_le o_]
 have e3:(beN 8 key++beN 8 action++[0,0,0,0,if lasts then 1 else 0,0,0,0]).getD 20 0=if lasts then 1 else 0:=by
  rw[List.getD_eq_getElem?_getD,List.getElem?_append_right (by simp[l1,l2])]
  simp only[List.length_append,l1,l2]
  rfl
 rw[e1,e2,e3,fJ_ o_,fJ_ o_]
 cases lasts<;>rfl
theorem qD_ {key action:Nat} {lasts:Bool} {d:DoT} (hk:key<18446744073709551616) (ha:action<18446744073709551616) (hc:c.alloc=24) (hd:bI_ s.tab n ⟨c.service,c.type,key,action,lasts⟩=d) (h0:d.st=0):hl_ F s st n c (eL_ key action lasts)=gp_ F (s.tab.lasts||d.t.lasts) {s with tab:=d.t,q:=evQ s.q d.ev} st:=by
 unfold hl_
 rw[if_neg (by rw[i5_];omega),vK_,vL_ hk ha,hd]
 dsimp only
 rw[if_neg (by rw[h0];exact fun q=>q rfl)]
end
section
variable {w u v:World}
theorem nN_ {sv kind key action:Nat} {lasts:Bool} {R:Sl→Sl→W_} (hs:sv<256) (hk:kind<256) (h:∀xs ps w',ab_ w w'→CF.Own w' w.heap.size ae_ 1 xs (bv (cX_ sv kind))→CF.Own w' w.heap.size ae_ 1 ps (bv (eL_ key action lasts))→R xs ps w'):cS_ (sv:Int) (kind:Int) (key:Int) (action:Int) lasts w R:=by
 refine cU_.calls _ _ _ _ _ _ _ ?_
 have e1:(sv:Int)=(((UInt8.ofNat sv).toNat:Nat):Int):=by rw[←bt_,wu8 o_ o_]
 have e2:(kind:Int)=(((UInt8.ofNat kind).toNat:Nat):Int):=by rw[←bt_,wu8 o_ o_]
 rw[e1,e2]
 refine aN_ (cells:=(bv (cX_ sv kind)).toArray) (e:=ae_) (z:=1) (base:=w.heap.size) k_ rfl d_ (Nat.le_refl _) fun w1 o1 g1 _=>?_
 have o1:CF.Own w1 w.heap.size ae_ 1 ⟨some ⟨w.heap.size,0,none⟩,10,10⟩ (bv (cX_ sv kind)):=o1
 generalize (⟨some ⟨w.heap.size,0,none⟩,10,10⟩:Sl)=X at *
 have s1:=g1.size
 refine pS_ d_ d_ fun p2 w2 o2 g2 n2=>?_
 have r2:Row w1 w2 p2 (beN 8 key):=⟨o2,g2⟩
 refine r2.big (v:=action) (n:=8) d_ d_ (by simp[bg_]) fun p3 w3 r3 k3=>?_
 refine r3.lit (l:=[0,0,0,0,0,0,0,0]) k_ rfl (by simp[bg_]) fun p4 w4 r4 k4=>?_
 have gX:CF.Own w4 w.heap.size ae_ 1 X (bv (cX_ sv kind)):=o1.grow r4.grow
 have h4:=r4.own
 have n4:p4.n=24:=by rw[r4.n];simp[bg_]
 cases lasts with
 | false=>exact aj_ rfl (h X p4 w4 (g1.trans r4.grow) gX (h4.mono s1))
 | true=>
  have hA:p4.A.isSome=true:=(h0_ (h4.rd o_) (i:=20) (by rw[az_];simp[bg_])).1
  refine am_ rfl ⟨⟨d_,by rw[n4];decide,hA⟩,en_ (i:=20) (v:=.int .u8 (((1:UInt8).toNat:Nat):Int)) h4 (by rw[n4];decide) rfl fun w5 o5 k5 _=>?_⟩
  have g45:ab_ w1 w5:=r4.grow.keep k5 fun b hb q=>by have:=(h4.ge b q.symm).1;omega
  refine h X p4 w5 (g1.trans g45) (o1.grow g45) ?_
  have e:(beN 8 key++beN 8 action++[0,0,0,0,0,0,0,0]).set 20 1=eL_ key action true:=by
   unfold eL_
   rw[List.set_append_right _ _ (by simp[bg_])]
   simp[bg_]
  rw[←e]
  exact o5.mono s1
end
open Go CF
section
variable {F:Int→Bool} {b i n b0 b1:Nat} {s S:USt} {st st':Wst} {P:Pu} {l lo:L8} {c:Cm} {ps:List Nat}
theorem sZ_ (hon:s.on=0) (hl:ldN st.seen s.keepf 2=(-1,0,[])):aC_ aQ_ s st=(0,b1_ s,more st 2):=by
 unfold aC_
 rw[if_neg o_,nL_ hl]
 rfl
theorem ob_ (h:P[i]?=some (b,s)) (hL:s.on≠1→ldN st.seen s.keepf 2=(-1,0,[])) (hk:kW_ (aP_ l).1.kind):l6_ aQ_ P st i n l:=fun x hx=>by
 rw[h] at hx
 injection hx with hx
 subst hx
 exact⟨fun q=>ul_ (s:={ao_ s with lock:=1}) (hL q),fun c _ hc=>by rw[qx_ hc];exact hk⟩
section
variable {w v:World} {pw m:Nat} {ℓ:Nat→Option Nat} {p out:Sl}
theorem Tw.does2 {R:A_→W_} {Y:RsX×Pu×Wst} (h:P[i]?=some (b,s)) (hs:aC_ aQ_ (ao_ s) st=(0,S,st')) (h1:S.on=1) (hp:(aP_ l).2.2=true) (hf:fM_ (aP_ l).1.kind=false) (hk:kW_ (aP_ l).1.kind) (hL:s.on≠1→ldN st.seen s.keepf 2=(-1,0,[]))
  (hA:cD_ (S.q n)=none→(aW_ aQ_ P st i n l lo).1.sn.key≠6) (hB:cD_ (S.q n)≠none→(aW_ aQ_ (P.set i (b,bA_ S n)) st' i n l lo).1.sn.key≠6) (T:Tw w v ℓ pw aQ_ P st m) (hm:m≤90000000) (hn:n<8) (hq:RdX v ℓ 1 p (bv l)) (ho:RdX v ℓ 1 out (bv lo)) (hb:out.n≤140737488351232) (eX:hO_ aQ_ i n l lo 9 P st=Y)
  (hR:∀v' ℓ' d,Mv v v' ℓ ℓ'→Tw w v' ℓ' pw aQ_ Y.2.1 Y.2.2 (m+2000020)→Dat v v' ℓ' d Y.1.d→R (rsv Y.1.st Y.1.sn d).toArray v'):ce_ (some ⟨b,0,none⟩) (n:Int) p out v R:=by
 have hi:=(List.getElem?_eq_some_iff.1 h).1
 refine T.does (fun P' st2=>(P'=P∧st2=st)∨(cD_ (S.q n)≠none∧P'=P.set i (b,bA_ S n)∧st2=st')) (fun P' st2 hI=>?_) (.inl ⟨rfl,rfl⟩) hm ⟨s,h⟩ hn hq ho hb eX fun v' ℓ' d mv T' dt _=>hR v' ℓ' d mv T' dt
 rcases hI with⟨rfl,rfl⟩|⟨hne,rfl,rfl⟩
 ·refine⟨ob_ h hL hk,fun q=>?_⟩
  cases hc:cD_ (S.q n) with
  | none=>exact absurd q (hA hc)
  | some code=>
   rw[qB_ h hs hp hf hc]
   exact .inr ⟨by simp,rfl,rfl⟩
 ·exact⟨ob_ (List.getElem?_set_self hi) (fun q=>absurd (show(bA_ S n).on=1 from h1) q) hk,fun q=>absurd q (hB hne)⟩
end
theorem x3_ (hn:n<8):(b1_ (ao_ (aO_ i 0 ps))).q n=bd_ [] 10496:=if_pos hn
theorem wI_ (h:fL_ (s.q n) = []):(bA_ s n).q n = []:=(if_pos rfl).trans h
theorem jy_ {sv kind:Nat} (h:(sv,kind)∈[(6,0),(1,1),(1,3),(1,5),(1,6),(1,7),(1,8)]):(aP_ (cX_ sv kind)).2.2=true∧(aP_ (cX_ sv kind)).1.kind=16∧(aP_ (cX_ sv kind)).1.service=sv∧(aP_ (cX_ sv kind)).1.type=kind∧(aP_ (cX_ sv kind)).1.alloc=24:=by
 simp only[List.mem_cons,Prod.mk.injEq,List.not_mem_nil,or_false] at h
 rcases h with⟨rfl,rfl⟩|⟨rfl,rfl⟩|⟨rfl,rfl⟩|⟨rfl,rfl⟩|⟨rfl,rfl⟩|⟨rfl,rfl⟩|⟨rfl,rfl⟩<;>decide +kernel
abbrev fdL (k:Nat):ByteArray:=nmL k++c1_
end
open Go CF Go.Shelf
set_option maxRecDepth 100000
def vM_:Ren:=⟨fun|5=>73|7=>129|n=>n,fun|4=>4|20=>20|23=>106|25=>9|3=>33|n=>n,fun|n=>n⟩
theorem up_:SlLaysW.n5 Tryz.prog vM_:={
 mixed:=k_
 f5:=⟨"maps.Clone[map[string][]byte,string,[]byte]",d_,Tryz.func73.trans (congrArg some k_)⟩
 f7:=Tryz.func129.trans (congrArg some k_)
 t4:=Tryz.underlying4
 a4:=Tryz.isAgg4
 z4:=Tryz.sizeOf4
 v4:=Tryz.zeroValue4
 t20:=Tryz.underlying20
 a20:=Tryz.isAgg20
 z20:=Tryz.sizeOf20
 v20:=Tryz.zeroValue20
 t23:=Tryz.underlying106
 a23:=Tryz.isAgg106
 z23:=Tryz.sizeOf106
 v23:=Tryz.zeroValue106}
theorem s0_ {w:World} {b:Nat} {es:Array MapEntry} {clock:Nat} {R:Option Nat→W_} (hb:w.heap[b]?=some (.map es clock)) (h:R (some w.heap.size) (w.alloc (.map es clock))):cj_ (some b) w R:=
 wS_ (k:=.m) (x:=some w.heap.size) (AnyW.maps_Clone up_ b es clock w hb) fun _ e=>e▸h
end Go.Proofs.YtpmebahhjgkflaaGreatDoor
