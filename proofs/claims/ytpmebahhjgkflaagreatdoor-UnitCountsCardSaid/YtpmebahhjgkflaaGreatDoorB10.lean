import Derived.Test.YtpmebahhjgkflaaGreatDoorB9
set_option maxHeartbeats 20000000
namespace Go.Proofs.YtpmebahhjgkflaaGreatDoor
open Go CF
set_option maxRecDepth 100000
def tX_ (s:USt) (n' s':a4_):USt:={s with now:=n',saved:=s',cache:=n'.wce}
def wi_ (s:USt) (n code:Nat):USt:={s with q:=fun j=>if (j:Int)≠(n:Int)∧j<8 then bG_ (s.q j) code else s.q j}
def kW_ (F:Int→Bool) (b:Bool) (s:USt) (st:Wst):lq_:=if b=true then⟨if (cs_ F s st).1=true then okX [] else snX wfS,(cs_ F s st).2.1,(cs_ F s st).2.2⟩ else⟨okX [],s,st⟩
def kp_ (F:Int→Bool) (s:USt) (st:Wst) (n:Nat) (c:Cm) (l:L8):lq_:=
 if (l.length:Int)≠c.alloc then⟨snX (ci_ 0x1a00),s,st⟩
 else match nR_ s.now s.saved c l with
  | .error e=>⟨snX e,s,st⟩
  | .ok (b,n',s')=>kW_ F (c.save&&decide (l≠[])) (if b=true then wi_ (tX_ s n' s') n 10753 else tX_ s n' s') st
section
variable {w u v z w3:World} {S D D':Nat→Prop} {pw i m n ab cb:Nat} {a:UA} {s:USt} {st st':Wst} {F F':Int→Bool} {ℓ ℓ' ℓ1 ℓ2:Nat→Option Nat} {us:List (UA×USt)} {X:lq_} {R:A_→W_} {out:Sl} {l:L8} {c:Cm}
structure Cal (w v:World) (ℓ ℓ':Nat→Option Nat) (cb ab:Nat) (c:Cm):Prop where
 mv:Mv w v ℓ ℓ'
 cmd:Blk v cb (cmv c).toArray az_
 res:Blk v ab z10 aa_
 ncb:ℓ' cb=none
 nab:ℓ' ab=none
theorem Cal.go (h:Cal w v ℓ ℓ' cb ab c) (g:ab_ v z):Cal w z ℓ ℓ' cb ab c:=⟨h.mv.go g,g.heap h.cmd (fun q=>q),g.heap h.res (fun q=>q),h.ncb,h.nab⟩
theorem Cal.step (h:Cal w v ℓ ℓ' cb ab c) (g:Mv v z ℓ' ℓ2):Cal w z ℓ ℓ2 cb ab c:=⟨h.mv.trans g,g.heap h.cmd h.ncb,g.heap h.res h.nab,by rw[g.lab _ (aw_ h.cmd)];exact h.ncb,by rw[g.lab _ (aw_ h.res)];exact h.nab⟩
theorem Cal.cell (h:Cal w v ℓ ℓ' cb ab c) {o:Nat} {x:Value} (e:(cmv c).toArray[o]?=some x):v.cell? ((⟨cb,0,none⟩:Addr).add o)=some x:=by rw[ao_,Blk.cell h.cmd,Nat.zero_add];exact e
theorem Cal.load (h:Cal w v ℓ ℓ' cb ab c):(loadVar az_ ⟨cb,0,none⟩).run Tryz.prog v=.ok (.agg (cmv c).toArray) v:=jO_ (ar_ h.cmd)
theorem Cal.start {K:Addr→Addr→W_} (H:Sys w ℓ pw st F us) (h:∀cb ab v,ab_ w v→w.heap.size≤cb→w.heap.size≤ab→Cal w v ℓ ℓ cb ab c→K ⟨cb,0,none⟩ ⟨ab,0,none⟩ v) :
  New (.cells (cmv c).toArray az_) w fun c1 w0=>New (.cells #[.int .u8 0,.int .u8 0,.int .u16 0,.int .u64 0,.bool false,.int .i64 0,.int .i64 0,.bool false,.bool false,.slice none 0 0] aa_) w0 fun a w01=>K c1 a w01:=
 ag_ fun cb w1 hcb hb1 hg1 hs1=>ag_ fun ab w2 hab hb2 hg2 hs2=>by
  have s1:=hg1.size
  refine h cb ab w2 (hg1.trans hg2) o_ o_ ⟨Mv.grow (hg1.trans hg2),hg2.heap hb1 (fun q=>q),hb2,H.fresh o_,H.fresh o_⟩
theorem Cal.fin (h:Cal w v ℓ ℓ' cb ab c) (hab:w.heap.size≤ab) (hR:fX_ w ℓ pw F us i a m X R) (H:Sys v ℓ' pw X.w F (us.set i (a,X.s))) (K:SOk X.w (us.set i (a,X.s)) (m+200000)) (hd:X.x.d = []):cu_ ab R (rsv X.x.st X.x.sn au_).toArray v:=
 hR.ret h.mv H K (by rw[hd];exact Dat.nil _ _ _) hab h.nab h.res
theorem tY_ {b:Bool} {s1:USt} {us1:List (UA×USt)} (hC:Cal w v ℓ ℓ' cb ab c) (hab:w.heap.size≤ab) (he1:us1=us.set i (a,s1)) (hi:i<us.length) (H:Sys v ℓ' pw st F us1) (K:SOk st us1 m) (hm:m≤400000000) (hR:fX_ w ℓ pw F us i a m (kW_ F b s1 st) R) :
  bL_ (fun(b4:Bool) (w014:World)=>Br (b&&(!b4)) (aT_ #[.int .u8 3,.int .u16 3072,.int .u64 0,.bool false,.int .i64 0,.int .i64 0,.bool false,.bool false] w014 fun g6 w015=>cu_ ab R g6 w015) (cu_ ab R #[.int .u8 0,.int .u8 0,.int .u16 0,.int .u64 0,.bool false,.int .i64 0,.int .i64 0,.bool false,.bool false,.slice none 0 0] w014)) fun J_=>(b=true→cq_ (some ⟨a.ub,0,none⟩) v J_)∧(b=false→J_ (Kd.dflt .b) v):=by
 subst he1
 have hi1:i<(us.set i (a,s1)).length:=by rw[List.length_set];exact hi
 unfold kW_ at hR
 cases b with
 | false=>
  rw[if_neg Bool.noConfusion] at hR
  refine cI_ (fun _ z=>z=v) ?_ (fun J=>⟨fun q=>Bool.noConfusion q,fun _=>J _ v rfl⟩)
  rintro b4 z rfl
  exact ai_ (by cases b4<;>rfl) (hC.fin (X:=⟨okX [],s1,st⟩) hab hR H (K.mono o_) rfl)
 | true=>
  rw[if_pos rfl] at hR
  refine cI_ (fun b4 z=>b4=(cs_ F s1 st).1∧∃ℓ2,Mv v z ℓ' ℓ2∧Sys z ℓ2 pw (cs_ F s1 st).2.2 F (us.set i (a,(cs_ F s1 st).2.1))) ?_ (fun J=>⟨fun _=>?_,fun q=>Bool.noConfusion q⟩)
  ·rintro b4 z ⟨rfl,ℓ2,mv,Hz⟩
   have C2:=hC.step mv
   have Kz:SOk (cs_ F s1 st).2.2 (us.set i (a,(cs_ F s1 st).2.1)) (m+200000):=by
    have ok:=(H.at hi1 (List.getElem_set_self _)).1.tab.ok
    have pl:=p8_ ok
    have K2:=K.near (oN_ (F:=F) (st:=st) (file:=s1.keepf) (x:=⟨s1.sure,s1.at_,s1.gen⟩) (l:=ip_ s1) o_)
    have:=(SOk.put (x:=(a,(cs_ F s1 st).2.1)) (i:=i) K2 (by have:=K2.at hi1 (List.getElem_set_self _);exact this.same this.good rfl rfl rfl rfl rfl rfl)).mono (m':=m+200000) o_
    rw[List.set_set] at this;exact this
   cases hsv:(cs_ F s1 st).1 with
   | true=>
    rw[hsv,if_pos rfl] at hR
    exact ai_ rfl (C2.fin (X:=⟨okX [],(cs_ F s1 st).2.1,(cs_ F s1 st).2.2⟩) hab hR Hz Kz rfl)
   | false=>
    rw[hsv,if_neg Bool.noConfusion] at hR
    exact al_ rfl (br_ (s:=wfS) fun y gy=>(C2.go gy).fin (X:=⟨snX wfS,(cs_ F s1 st).2.1,(cs_ F s1 st).2.2⟩) hab hR (Hz.grow gy) Kz rfl)
  ·refine yZ_ H K o_ hi1 (List.getElem_set_self _) fun z ℓ2 mv Hz Kz=>J _ z ⟨rfl,ℓ2,mv,?_⟩
   rw[List.set_set] at Hz;exact Hz
def Ag_ (u:O_) (nexus:Int) (c1:Addr) (ab:Nat) (p:Sl) (s:Addr) (b b1:Bool) (R:A_→W_) (w07:World):Prop:=
 Br (!b1) (∃g3:A_,(loadVar ak_ s).run Tryz.prog w07=.ok (.agg g3) w07∧aT_ g3 w07 fun g4 w08=>cu_ ab R g4 w08) (∀w010,w010=w07.drew→∃S1:W_,S1 w010∧u.isSome=true∧∃p2:O_,(∀u3,S1 u3→u3.cell? ((gA u).add 5)=some (.pointer p2))∧p2.isSome=true∧∃p3:O_,(∀u4,S1 u4→u4.cell? ((gA p2).add 0)=some (.pointer p3))∧u.isSome=true∧∃p4:O_,(∀u5,S1 u5→u5.cell? ((gA u).add 7)=some (.pointer p4))∧bh_ p4 w010 fun g5 w011=>S1 w011∧∃S2:W_,S2 w011∧(∀u6,S2 u6→S1 u6)∧∃b2:Bool,(∀u7,S2 u7→g5[0]?=some (.bool b2))∧b0_ p3 b2 w011 fun w012=>aK_ (fun(w013:World)=>∃b3:Bool,w013.cell? (c1.add 11)=some (.bool b3)∧bL_ (fun(b4:Bool) (w014:World)=>Br ((b3&&(decide ((p.n:Int)>0)))&&(!b4)) (aT_ #[.int .u8 3,.int .u16 3072,.int .u64 0,.bool false,.int .i64 0,.int .i64 0,.bool false,.bool false] w014 fun g6 w015=>cu_ ab R g6 w015) (cu_ ab R #[.int .u8 0,.int .u8 0,.int .u16 0,.int .u64 0,.bool false,.int .i64 0,.int .i64 0,.bool false,.bool false,.slice none 0 0] w014)) fun J_=>((b3&&(decide ((p.n:Int)>0)))=true→cq_ u w013 J_)∧((b3&&(decide ((p.n:Int)>0)))=false→J_ (Kd.dflt .b) w013)) fun J_1=>Br b (u.isSome=true∧∃p5:O_,w012.cell? ((gA u).add 9)=some (.pointer p5)∧cX_ p5 nexus 10753 w012 fun w018=>J_1 w018) (J_1 w012))
theorem nX_ {b b1:Bool} {x:Sn} {sb:Nat} (hC:Cal w v ℓ ℓ cb ab c) (hab:w.heap.size≤ab) (hw:w.heap.size≤v.heap.size) (hi:i<us.length) (hnx:n<8) (hb:Blk v sb (snv x).toArray ak_) (hpn:out.n=l.length) (K:SOk st us m) (hm:m≤400000000) (he:us[i]=(a,s)) (hal:(l.length:Int)=c.alloc)
  (hx:match nR_ s.now s.saved c l with
   | .error e=>b1=false∧x=e∧Sys v ℓ pw st F us
   | .ok (b',n',s')=>b1=true∧b=b'∧Sys v ℓ pw st F (us.set i (a,{s with now:=n',saved:=s'})))
  (hR:fX_ w ℓ pw F us i a m (kp_ F s st n c l) R):Ag_ (some ⟨a.ub,0,none⟩) (n:Int) ⟨cb,0,none⟩ ab out ⟨sb,0,none⟩ b b1 R v:=by
 unfold kp_ at hR
 rw[if_neg o_] at hR
 cases hs:nR_ s.now s.saved c l with
 | error e=>
  rw[hs] at hR hx
  obtain⟨rfl,rfl,H⟩:=hx
  refine al_ rfl ⟨_,dM_ (ar_ hb),br_ fun y gy=>(hC.go gy).fin (X:=⟨snX x,s,st⟩) hab hR ?_ ?_ rfl⟩
  ·show Sys y ℓ pw st F (us.set i (a,s));rw[js_ hi he];exact H.grow gy
  ·show SOk st (us.set i (a,s)) _;rw[js_ hi he];exact K.mono o_
 | ok q=>
  obtain⟨b',n',s'⟩:=q
  rw[hs] at hR hx
  obtain⟨rfl,rfl,H⟩:=hx
  dsimp only at hR
  obtain⟨z1,z2,z3,z4,z5,z6,z7⟩:=de_ a
  refine ai_ rfl ?_
  rintro w1 rfl
  have g1:=am_ v
  generalize v.drew=w1 at *
  have hi1:∀y,i<(us.set i (a,y)).length:=fun y=>by rw[List.length_set];exact hi
  have T:∀{y:World},ab_ v y→IsU y (fun k=>ℓ k≠none) pw a {s with now:=n',saved:=s'}:=fun g=>((H.grow g).at (hi1 _) (List.getElem_set_self _)).1
  refine⟨fun y=>ab_ v y,g1,rfl,some ⟨a.dv,0,none⟩,fun y q=>(T q).cellU fun P=>rfl,rfl,some ⟨a.ps,0,none⟩,fun y q=>by rw[gA];exact nE_ (T q).dev,rfl,some ⟨a.pg,0,none⟩,fun y q=>(T q).cellU fun P=>rfl,?_⟩
  refine ik_ (T g1).pages fun w2 g2=>⟨g1.trans g2,fun y=>ab_ v y,g1.trans g2,fun _ q=>q,n'.wce,fun _ _=>rfl,?_⟩
  have g12:=g1.trans g2
  have H2:=H.grow g12
  obtain⟨hU2,hown⟩:=H2.at (hi1 _) (List.getElem_set_self _)
  have own:∀{b},a.set b→ℓ b≠none:=fun hb=>by rw[hown _ hb];exact Option.some_ne_none _
  refine oO_ (on:=n'.wce) hU2.store fun w3 hk3 hS3=>?_
  have hU3:IsU w3 (fun k=>ℓ k≠none) pw a (tX_ s n' s'):=hU2.cach hk3 (a9_.sub fun b _ q=>by rw[q];exact own z3) (fun b _ hne q=>hne q) (fun _ q=>.inl q) hS3
  obtain⟨m3,H3⟩:=H2.putA (hi1 _) (List.getElem_set_self _) hk3 (fun b _ q=>by rw[q];exact z3) hU3
  rw[List.set_set] at H3
  have C3:=(hC.go g12).step m3
  have epn:decide ((out.n:Int)>0)=decide (l≠[]):=by
   rw[hpn,Bool.eq_iff_iff,decide_eq_true_eq,decide_eq_true_eq]
   constructor
   ·intro h e;rw[e] at h;simp at h
   ·intro h;have:l.length≠0:=fun e=>h (List.length_eq_zero_iff.1 e);omega
  rw[epn]
  have KU:=K.at hi he
  have tail:∀(y:World) (s1:USt),Cal w y ℓ ℓ cb ab c→Sys y ℓ pw st F (us.set i (a,s1))→s1.inf=s.inf→s1.file=s.file→s1.keepf=s.keepf→s1.n=s.n→s1.on=s.on→s1.lock=s.lock→fX_ w ℓ pw F us i a m (kW_ F (c.save&&decide (l≠[])) s1 st) R→∃b3:Bool,y.cell? ((⟨cb,0,none⟩:Addr).add 11)=some (.bool b3)∧bL_ (fun(b4:Bool) (w014:World)=>Br ((b3&&(decide (l≠[])))&&(!b4)) (aT_ #[.int .u8 3,.int .u16 3072,.int .u64 0,.bool false,.int .i64 0,.int .i64 0,.bool false,.bool false] w014 fun g6 w015=>cu_ ab R g6 w015) (cu_ ab R #[.int .u8 0,.int .u8 0,.int .u16 0,.int .u64 0,.bool false,.int .i64 0,.int .i64 0,.bool false,.bool false,.slice none 0 0] w014)) fun J_=>((b3&&(decide (l≠[])))=true→cq_ (some ⟨a.ub,0,none⟩) y J_)∧((b3&&(decide (l≠[])))=false→J_ (Kd.dflt .b) y):=fun y s1 Cy Hy e1 e2 e3 e4 e5 e6 hR=>
   ⟨c.save,Cy.cell rfl,tY_ Cy hab rfl hi Hy (K.put (x:=(a,s1)) (KU.same KU.good e1 e2 e3 e4 e5 e6)) hm hR⟩
  cases b with
  | false=>
   rw[if_neg Bool.noConfusion] at hR
   refine bR_ (fun y=>y=w3) ?_ (fun J=>ai_ rfl (J _ rfl))
   intro y e
   rw[e]
   exact tail w3 _ C3 H3 rfl rfl rfl rfl rfl rfl hR
  | true=>
   rw[if_pos rfl] at hR
   refine bR_ (fun y=>Cal w y ℓ ℓ cb ab c∧Sys y ℓ pw st F (us.set i (a,wi_ (tX_ s n' s') n 10753))) ?_ (fun J=>?_)
   ·rintro y ⟨Cy,Hy⟩
    exact tail y _ Cy Hy rfl rfl rfl rfl rfl rfl hR
   ·refine al_ rfl ⟨rfl,some ⟨a.qb,0,none⟩,hU3.cellU fun P=>rfl,?_⟩
    refine uy_ hU3.q d_ (own z7) H3.lt fun w4 hk4 hq4=>?_
    have hU4:IsU w4 (fun k=>ℓ k≠none) pw a (wi_ (tX_ s n' s') n 10753):=hU3.que hk4 (a9_.sub fun b _ q=>by rw[q];exact own z7) (fun b _ hne q=>hne q) (fun _ q=>.inl q) hq4
    obtain⟨m4,H4⟩:=H3.putA (hi1 _) (List.getElem_set_self _) hk4 (fun b _ q=>by rw[q];exact z7) hU4
    rw[List.set_set] at H4
    exact J w4 ⟨C3.step m4,H4⟩
theorem Ah_ (H:Sys w ℓ pw st F us) (K:SOk st us m) (hm:m≤400000000) (hi:i<us.length) (he:us[i]=(a,s)) (hn:n<8) (hp:RdX w ℓ 1 out (bv l)) (hb:c.alloc≤1000000) (hR:fX_ w ℓ pw F us i a m (kp_ F s st n c l) R):fo_ (some ⟨a.ub,0,none⟩) (n:Int) (cmv c).toArray out w R:=by
 refine hf_.calls _ _ _ _ _ _ (Cal.start H fun cb ab w1 g1 hcb hab C1=>?_)
 have H1:=H.grow g1
 have hset:=js_ hi he
 have hpn:=(b4_ hp.rd).symm
 refine⟨c.alloc,C1.cell rfl,?_⟩
 refine eR_ (fun hne=>?_) (fun hal=>?_)
 ·unfold kp_ at hR
  rw[if_pos o_] at hR
  refine br_ (s:=ci_ 0x1a00) fun y gy=>(C1.go gy).fin (X:=⟨snX (ci_ 0x1a00),s,st⟩) hab hR ?_ ?_ rfl
  ·show Sys y ℓ pw st F (us.set i (a,s));rw[hset];exact H1.grow gy
  ·show SOk st (us.set i (a,s)) _;rw[hset];exact K.mono o_
 have hb:out.n≤1000000:=o_
 rintro w2 rfl
 have g2:=am_ w1
 have H2:=H1.grow g2
 have C2:=C1.go g2
 generalize w1.drew=w2 at *
 obtain⟨hU2,hown⟩:=H2.at hi he
 obtain⟨z1,z2,z3,z4,z5,z6,z7⟩:=de_ a
 have own:∀{b},a.set b→ℓ b≠none:=fun hb=>by rw[hown _ hb];exact Option.some_ne_none _
 have hpg:w2.cell? ((gA (some (⟨a.ub,0,none⟩:Addr))).add 7)=some (.pointer (some ⟨a.pg,0,none⟩)):=hU2.cellU fun P=>rfl
 have p2:Rd w2 1 out (bv l):=hp.rd.grow (g1.trans g2)
 have hw12:=(g1.trans g2).size
 have put:∀{y z:World} {n' s':a4_},Sys y ℓ pw st F us→ac_ (fun k=>k=a.pg) y z→IsP z a.pg n' s'→Mv y z ℓ ℓ∧Sys z ℓ pw st F (us.set i (a,{s with now:=n',saved:=s'})):=fun {y z n' s'} Hy hk hp=>by
  have hUy:=(Hy.at hi he).1
  exact Hy.putA hi he hk (fun b _ q=>by rw[q];exact z5) (hUy.pag hk (a9_.sub fun b _ q=>by rw[q];exact own z5) (fun b _ hne q=>hne q) (fun _ q=>.inl q) hp)
 have same:{y:World}→(H:Sys y ℓ pw st F us)→(s':USt)→s'=s→Sys y ℓ pw st F (us.set i (a,s')):=fun H s' e=>by rw[e,hset];exact H
 refine⟨fun y=>y.cell? ((gA (some (⟨a.ub,0,none⟩:Addr))).add 7)=some (.pointer (some ⟨a.pg,0,none⟩))∧(loadVar az_ ⟨cb,0,none⟩).run Tryz.prog y=.ok (.agg (cmv c).toArray) y,⟨hpg,C2.load⟩,rfl,some ⟨a.pg,0,none⟩,fun y q=>q.1,(cmv c).toArray,fun y q=>q.2,?_,?_⟩
 ·refine r9_ hU2.pages p2 hb ?_
  cases hs:nR_ s.now s.saved c l with
  | error e=>
   intro w3 g3
   have H3:=H2.grow g3
   have C3:=C2.go g3
   refine ag_ fun sb w4 hsb hb4 hg4 hs4=>?_
   have H4:=H3.grow hg4
   have C4:=C3.go hg4
   refine⟨⟨(H4.at hi he).1.cellU fun P=>rfl,C4.load⟩,ap_ (cells:=(snv e).toArray) hb4 aR_ rfl rfl (by simp[snv,Value.oneCell']) fun w5 hb5 hk5 _=>?_⟩
   have g35:ab_ w3 w5:=hg4.keep hk5 fun b hb q=>o_
   exact nX_ (C3.go g35) hab (by have:=g35.size;have:=g3.size;omega) hi hn hb5 hpn K hm he o_ (by rw[hs];exact⟨rfl,rfl,H3.grow g35⟩) hR
  | ok q=>
   obtain⟨b,n',s'⟩:=q
   intro w3 hk3 hP3
   obtain⟨m3,H3⟩:=put H2 hk3 hP3
   have C3:=C2.step m3
   have sz3:=hk3.size
   refine ag_ fun sb w4 hsb hb4 hg4 hs4=>?_
   have H4:=H3.grow hg4
   have C4:=C3.go hg4
   refine⟨⟨(H4.at (by rw[List.length_set];exact hi) (List.getElem_set_self _)).1.cellU fun P=>rfl,C4.load⟩,ap_ (cells:=(snv sn0).toArray) hb4 aR_ rfl rfl (by simp[snv,sn0,Value.oneCell']) fun w5 hb5 hk5 _=>?_⟩
   have g35:ab_ w3 w5:=hg4.keep hk5 fun b hb q=>o_
   exact nX_ (C3.go g35) hab (by have:=g35.size;omega) hi hn hb5 hpn K hm he o_ (by rw[hs];exact⟨rfl,rfl,H3.grow g35⟩) hR
 ·refine ag_ fun sb w3 hsb hb3 hg3 hs3=>?_
  have H3:=H2.grow hg3
  have C3:=C2.go hg3
  have nsb:ℓ sb=none:=H.fresh o_
  refine⟨⟨(H3.at hi he).1.cellU fun P=>rfl,C3.load⟩,?_⟩
  refine r9_ (H3.at hi he).1.pages (p2.grow hg3) hb ?_
  have sz3:=hg3.size
  cases hs:nR_ s.now s.saved c l with
  | error e=>
   intro w4 g4
   refine ap_ (cells:=(snv e).toArray) (g4.heap hb3 (fun q=>q)) aR_ rfl rfl (by simp[snv,Value.oneCell']) fun w5 hb5 hk5 _=>?_
   have g25:ab_ w2 w5:=(hg3.trans g4).keep hk5 fun b hb q=>o_
   exact nX_ (C2.go g25) hab (by have:=g25.size;omega) hi hn hb5 hpn K hm he o_ (by rw[hs];exact⟨rfl,rfl,H2.grow g25⟩) hR
  | ok q=>
   obtain⟨b,n',s'⟩:=q
   intro w4 hk4 hP4
   obtain⟨m4,H4⟩:=put H3 hk4 hP4
   have C4:=C3.step m4
   have hb4:Blk w4 sb _ ak_:=m4.heap hb3 nsb
   refine ap_ (cells:=(snv sn0).toArray) hb4 aR_ rfl rfl (by simp[snv,sn0,Value.oneCell']) fun w5 hb5 hk5 _=>?_
   have H5:=H4.local1 hb4 nsb hk5 (eO_ d_ d_ d_) d_
   have C5:Cal w w5 ℓ ℓ cb ab c:=⟨C4.mv.loc hk5 fun b hb q=>o_,hk5.heap C4.cmd (bH_ C4.cmd hb4 d_),hk5.heap C4.res (bH_ C4.res hb4 d_),C4.ncb,C4.nab⟩
   exact nX_ C5 hab (by have:=hk5.size;have:=hk4.size;omega) hi hn hb5 hpn K hm he o_ (by rw[hs];exact⟨rfl,rfl,H5⟩) hR
end
open Go CF
def wj_:L8:=List.replicate 16 255++[0,0,0,0,1]
def g3_ (c:Cm) (l:L8):im_:=⟨c.service,c.type,num ((l.drop 0).take 8),num ((l.drop 8).take 8),decide ((l.getD 20 0).toNat=1)⟩
def evQ (q:Nat→List Nat):List Ev→Nat→List Nat
 | []=>q
 | e::r=>evQ (fun t=>if t=e.1 then bG_ (q e.1) e.2 else q t) r
def mz_ (F:Int→Bool) (s:USt) (st:Wst) (n:Nat) (c:Cm) (l:L8):lq_:=
 if c.alloc≠24∨l.length≠24 then⟨snX (ci_ 0x1a00),s,st⟩
 else match kn_ l wj_ 0 with
  | some (j,b)=>⟨snX ⟨5,0x2600,0,false,(j:Int),(b:Int),true,false⟩,s,st⟩
  | none=>if (cV_ s.tab n (g3_ c l)).st≠0 then⟨⟨(cV_ s.tab n (g3_ c l)).st,if (cV_ s.tab n (g3_ c l)).st=2 then⟨5,(cV_ s.tab n (g3_ c l)).code,0,false,0,0,false,false⟩ else sn0,[]⟩,{s with tab:=(cV_ s.tab n (g3_ c l)).t},st⟩
   else kW_ F (s.tab.lasts||(cV_ s.tab n (g3_ c l)).t.lasts) {s with tab:=(cV_ s.tab n (g3_ c l)).t,q:=evQ s.q (cV_ s.tab n (g3_ c l)).ev} st
def jt_ (k:Nat) (l:List Ev):Prop:=l.length≤k∧∀e∈l,e.1<8∧e.2<65536
theorem jt_.le {j k:Nat} {l:List Ev} (h:jt_ j l) (hk:j≤k):jt_ k l:=⟨Nat.le_trans h.1 hk,h.2⟩
theorem lt_ {l:List (Nat×Nat)} {f:Nat×Nat→Bool} {code:Nat} (h:∀r∈l,r.1<8) (hc:code<65536):jt_ l.length (tells l f code):=by
 refine⟨?_,fun e he=>?_⟩
 ·unfold tells
  rw[List.length_map]
  exact List.length_filter_le _ _
 ·unfold tells at he
  obtain⟨r,hr,rfl⟩:=List.mem_map.1 he
  exact⟨h r (List.mem_filter.1 hr).1,hc⟩
theorem cw_ (k:Nat):jt_ k []:=⟨Nat.zero_le _,fun _ h=>by cases h⟩
theorem y0_ {j k:Nat} {a b:List Ev} (ha:jt_ j a) (hb:jt_ k b):jt_ (j+k) (a++b):=⟨by have:=ha.1;have:=hb.1;rw[List.length_append];omega,fun e he=>(List.mem_append.1 he).elim (ha.2 e) (hb.2 e)⟩
theorem tZ_ {t:a1_} {n:Nat} (h:∀r∈t.regs,r.1<8):jt_ t.regs.length (l8_ t n).2:=by
 show jt_ _ (if 5≤t.kind then tells t.regs (fun r=>decide (r.1≠n)) 10756 else [])
 split
 ·exact lt_ h d_
 ·exact cw_ _
theorem oP_ {t:a1_} {n:Nat} {o:im_} {b:Bool} (h:∀r∈t.regs,r.1<8) (hl:t.regs.length≤8):jt_ 16 (fC_ t n o b).2:=by
 show jt_ 16 (bW_ t n o b).2
 unfold bW_
 split
 ·split
  ·have e:(mx_ t n 0).regs=t.regs.filter (fun r=>decide (r.1<n))++t.regs.filter (fun r=>decide (n<r.1)):=by
    show t.regs.filter (fun r=>decide (r.1<n))++(if (0:Nat)≠0 then [(n,0)] else [])++t.regs.filter (fun r=>decide (n<r.1))=_
    rw[if_neg d_,List.append_nil]
   refine(tZ_ fun r hr=>?_).le ?_
   ·rw[e] at hr
    rcases List.mem_append.1 hr with hr|hr<;>exact h r (List.mem_filter.1 hr).1
   ·rw[e,List.length_append]
    have:=List.length_filter_le (fun r:Nat×Nat=>decide (r.1<n)) t.regs
    have:=List.length_filter_le (fun r:Nat×Nat=>decide (n<r.1)) t.regs
    omega
  ·exact cw_ _
 ·split<;>exact cw_ _
theorem y1_ {t:a1_} {n:Nat} {o:im_} (h:∀r∈t.regs,r.1<8) (hl:t.regs.length≤8):jt_ 16 (cV_ t n o).ev:=by
 unfold cV_
 split
 ·exact cw_ _
 split
 ·exact oP_ h hl
 split
 ·split
  ·exact cw_ _
  ·exact oP_ h hl
 split
 ·exact cw_ _
 split
 ·unfold fV_
  split
  ·exact cw_ _
  split
  ·exact cw_ _
  split<;>exact cw_ _
 split
 ·unfold g1_
  split
  ·exact cw_ _
  split
  ·exact cw_ _
  ·exact(tZ_ h).le o_
 split
 ·exact(lt_ h d_).le o_
 ·unfold g2_
  split
  ·exact cw_ _
  split
  ·exact cw_ _
  split
  ·exact cw_ _
  ·dsimp only
   split
   ·refine(y0_ (lt_ h d_) (k:=8) ?_).le o_
    split
    ·refine(lt_ (fun r hr=>h r (List.mem_filter.1 hr).1) d_).le ?_
     have:=List.length_filter_le (sL_ t n o.action (allK t.kind&&decide (o.action=0))) t.regs
     omega
    ·exact cw_ _
   ·exact(lt_ h d_).le o_
theorem y2_ (t:a1_) (n:Nat) (o:im_):(cV_ t n o).st=0∨(cV_ t n o).st=2∨(cV_ t n o).st=24:=by
 unfold cV_
 split
 ·exact .inr (.inl rfl)
 split
 ·exact .inl rfl
 split
 ·split
  ·exact .inr (.inr rfl)
  ·exact .inl rfl
 split
 ·exact .inr (.inr rfl)
 split
 ·unfold fV_
  split
  ·exact .inr (.inl rfl)
  split
  ·exact .inl rfl
  split
  ·exact .inl rfl
  ·exact .inr (.inr rfl)
 split
 ·unfold g1_
  split
  ·exact .inl rfl
  split
  ·exact .inr (.inl rfl)
  ·exact .inl rfl
 split
 ·exact .inl rfl
 ·unfold g2_
  split
  ·exact .inr (.inl rfl)
  split
  ·exact .inr (.inl rfl)
  split
  ·exact .inr (.inr rfl)
  ·dsimp only
   split<;>exact .inl rfl
theorem y3_ (q:Nat→List Nat):∀{l:List Ev} {j:Nat} (hj:j<l.length),evQ q (l.take (j+1))=fun t=>if t=l[j].1 then bG_ (evQ q (l.take j) l[j].1) l[j].2 else evQ q (l.take j) t:=by
 intro l
 induction l generalizing q with
 | nil=>intro j hj;cases hj
 | cons e r ih=>
  intro j hj
  cases j with
  | zero=>rfl
  | succ j=>
   have:=ih (fun t=>if t=e.1 then bG_ (q e.1) e.2 else q t) (j:=j) (by simpa using hj)
   simpa [evQ] using this
section
variable {w u v z w3:World} {S D D':Nat→Prop} {pw i m n ab cb:Nat} {a:UA} {s:USt} {st st':Wst} {F F':Int→Bool} {ℓ ℓ' ℓ1 ℓ2:Nat→Option Nat} {us:List (UA×USt)} {X:lq_} {R:A_→W_} {out:Sl} {l:L8} {c:Cm}
theorem xI_ (H:Sys w ℓ pw st F us) (K:SOk st us m) (hm:m≤400000000) (hi:i<us.length) (he:us[i]=(a,s)) (hn:n<8) (hp:RdX w ℓ 1 out (bv l)) (hc:lr_ c) (hR:fX_ w ℓ pw F us i a m (mz_ F s st n c l) R):fp_ (some ⟨a.ub,0,none⟩) (n:Int) (cmv c).toArray out w R:=by
 refine hg_.calls _ _ _ _ _ _ (Cal.start H fun cb ab w1 g1 hcb hab C1=>?_)
 have H1:=H.grow g1
 have hset:=js_ hi he
 have hpn:=(b4_ hp.rd).symm
 have KU:=K.at hi he
 have e24:(((c.alloc != 24)||((out.n:Int) != 24)):Bool)=decide (c.alloc≠24∨l.length≠24):=by
  rw[Bool.eq_iff_iff,Bool.or_eq_true,bne_iff_ne,bne_iff_ne,decide_eq_true_eq];omega
 have fail:∀{y:World} {e:Sn},Cal w y ℓ ℓ cb ab c→Sys y ℓ pw st F us→fX_ w ℓ pw F us i a m ⟨snX e,s,st⟩ R→cu_ ab R (rsv 2 e au_).toArray y:=fun {y e} C Hy hR=>by
  refine C.fin (X:=⟨snX e,s,st⟩) hab hR ?_ ?_ rfl
  ·show Sys y ℓ pw st F (us.set i (a,s));rw[hset];exact Hy
  ·show SOk st (us.set i (a,s)) _;rw[hset];exact K.mono o_
 refine⟨c.alloc,C1.cell rfl,?_⟩
 rw[e24]
 unfold mz_ at hR
 refine a8_ (fun q=>?_) (fun q=>?_)
 ·rw[if_pos q] at hR
  exact br_ (s:=ci_ 0x1a00) fun y gy=>fail (C1.go gy) (H1.grow gy) hR
 rw[if_neg q] at hR
 have hl24:l.length=24:=o_
 refine aJ_ (cells:=(bv wj_).toArray) (e:=ae_) (z:=1) (base:=w1.heap.size) k_ rfl d_ (Nat.le_refl _) fun w2 o2 g2 _=>?_
 have g12:=g1.trans g2
 have p2:Rd w2 1 out (bv l):=hp.rd.grow g12
 have C2:=C1.go g2
 have H2:=H1.grow g2
 refine tE_ p2 (o2.rd (by dsimp only;decide)) ?_
 cases ho:kn_ l wj_ 0 with
 | some jb=>
  obtain⟨j,b⟩:=jb
  rw[ho] at hR
  exact al_ (by rw[decide_eq_true_eq];omega) (br_ (s:=⟨5,0x2600,0,false,(j:Int),(b:Int),true,false⟩) fun y gy=>fail (C2.go gy) (H2.grow gy) hR)
 | none=>
 rw[ho] at hR
 dsimp only at hR ⊢
 refine ai_ d_ ?_
 rintro w3 rfl
 have g3:=am_ w2
 have C3:=C2.go g3
 have H3:=H2.grow g3
 generalize w2.drew=w3 at *
 have g13:=g12.trans g3
 have p3:Rd w3 1 out (bv l):=hp.rd.grow g13
 obtain⟨hA,h20⟩:=bS_ p3 (i:=20) o_
 have e20:l[20]' o_=l.getD 20 0:=by rw[List.getD_eq_getElem?_getD,List.getElem?_eq_getElem o_];rfl
 refine⟨fun y=>ab_ w3 y,ac_.refl _ _,(c.service:Int),fun y q=>(C3.go q).cell rfl,(c.type:Int),fun y q=>(C3.go q).cell rfl,⟨d_,o_,hA⟩,(((l.getD 20 0).toNat:Nat):Int),fun y q=>?_,?_⟩
 ·obtain⟨_,h20⟩:=bS_ (p3.grow q) (i:=20) o_
  exact h20
 refine ag_ fun ob w4 hob hb4 hg4 hs4=>⟨hg4,?_⟩
 have e1:((((l.getD 20 0).toNat:Nat):Int)==1)=decide ((l.getD 20 0).toNat=1):=by rw[Bool.eq_iff_iff,beq_iff_eq,decide_eq_true_eq];omega
 rw[e1]
 refine ap_ (cells:=#[.int .u8 (c.service:Int),.int .u8 (c.type:Int),.int .u64 0,.int .u64 0,.bool (decide ((l.getD 20 0).toNat=1))]) hb4 tg_ rfl rfl (by simp[Value.oneCell']) fun w5 hb5 hk5 hs5=>?_
 have g35:ab_ w3 w5:=hg4.keep hk5 fun b hb q=>o_
 have p5:Rd w5 1 out (bv l):=p3.grow g35
 refine bX_ (at_:=0) (n:=8) p5 o_ d_ d_ o_ ?_
 rw[ao_]
 refine aU_ hb5 (by show 2<5;decide) rfl fun w6 hb6 hk6 hs6=>?_
 have g36:ab_ w3 w6:=g35.keep hk6 fun b hb q=>o_
 have p6:Rd w6 1 out (bv l):=p3.grow g36
 refine bX_ (at_:=8) (n:=8) p6 o_ d_ d_ o_ ?_
 rw[ao_]
 refine aU_ hb6 (by show 3<5;decide) rfl fun w7 hb7 hk7 hs7=>?_
 have g37:ab_ w3 w7:=g36.keep hk7 fun b hb q=>o_
 have hb7:Blk w7 ob (otv (g3_ c l)).toArray bB_:=hb7
 have C7:=C3.go g37
 have H7:=H3.grow g37
 obtain⟨hU7,hown⟩:=H7.at hi he
 obtain⟨z1,z2,z3,z4,z5,z6,z7⟩:=de_ a
 have own:∀{b},a.set b→ℓ b≠none:=fun hb=>by rw[hown _ hb];exact Option.some_ne_none _
 refine⟨rfl,some ⟨a.tb,0,none⟩,hU7.cellU fun P=>rfl,oB_ hU7.tab ?_⟩
 rintro w8 rfl
 have g8:=am_ w7
 have C8:=C7.go g8
 have H8:=H7.grow g8
 have hb8:Blk w7.drew ob (otv (g3_ c l)).toArray bB_:=g8.heap hb7 (fun q=>q)
 generalize w7.drew=w8 at *
 have hU8:=(H8.at hi he).1
 refine⟨fun y=>y=w8,rfl,rfl,some ⟨a.tb,0,none⟩,(by rintro y rfl;exact hU8.cellU fun P=>rfl),(otv (g3_ c l)).toArray,(by rintro y rfl;exact o8_ hb8),?_⟩
 have p8b:(256:Nat) ^ 8=18446744073709551616:=rfl
 have nl:∀x:L8,x.length≤8→num x<18446744073709551616:=fun x hx=>by
  have:=iY_ x
  have h2:(256:Nat) ^ x.length≤256 ^ 8:=Nat.pow_le_pow_right d_ hx
  omega
 have oo:qS_ (g3_ c l):=⟨nl _ (by rw[List.length_take];omega),nl _ (by rw[List.length_take];omega),hc.type⟩
 refine xA_ hU8.tab H8.lt hn oo hc.service fun ev w9 hk9 hT9 ho9=>?_
 have hev:=y1_ (t:=s.tab) (n:=n) (o:=g3_ c l) (fun r hr=>(hU8.tab.ok.regs r hr).1) hU8.tab.ok.few
 have hst:=y2_ s.tab n (g3_ c l)
 generalize cV_ s.tab n (g3_ c l)=d at *
 have hU9:IsU w9 (fun k=>ℓ k≠none) pw a {s with tab:=d.t}:=hU8.tabl hk9 (a9_.sub fun b _ q=>by rw[q];exact own z6) (fun b _ hne q=>hne q) (fun _ q=>.inl q) hT9
 obtain⟨m9,H9⟩:=H8.putA hi he hk9 (fun b _ q=>by rw[q];exact z6) hU9
 have C9:=C8.step m9
 have K9:SOk st (us.set i (a,{s with tab:=d.t})) m:=K.put (x:=(a,{s with tab:=d.t})) (KU.same KU.good rfl rfl rfl rfl rfl rfl)
 have sw9:w.heap.size≤w9.heap.size:=by have:=(g13.trans (g37.trans g8)).size;have:=hk9.size;omega
 refine eR_ (fun hne=>?_) (fun hz=>?_)
 ·have hst0:d.st≠0:=o_
  rw[if_pos hst0] at hR
  refine ag_ fun rb w10 hrb hb10 hg10 hs10=>?_
  refine ap_ (cells:=(rsv d.st sn0 au_).toArray) hb10 iI_ rfl rfl (pX_ _ _ _) fun w11 hb11 hk11 _=>?_
  have g11:ab_ w9 w11:=hg10.keep hk11 fun b hb q=>o_
  have C11:=C9.go g11
  have H11:=H9.grow g11
  have fin:∀(x:Sn) (y:World),Blk y rb (rsv d.st x au_).toArray aa_→ab_ w9 y→fX_ w ℓ pw F us i a m ⟨⟨d.st,x,[]⟩,{s with tab:=d.t},st⟩ R→∃g3:A_,(loadVar aa_ ⟨rb,0,none⟩).run Tryz.prog y=.ok (.agg g3) y∧cu_ ab R g3 y:=fun x y hby gy hR=>
   ⟨_,i0_ (ar_ hby),(C9.go gy).fin (X:=⟨⟨d.st,x,[]⟩,{s with tab:=d.t},st⟩) hab hR (H9.grow gy) (K9.mono o_) rfl⟩
  refine bR_ (fun y=>Blk y rb (rsv d.st (if d.st=2 then⟨5,d.code,0,false,0,0,false,false⟩ else sn0) au_).toArray aa_∧ab_ w9 y) ?_ (fun J=>?_)
  ·rintro y ⟨hby,gy⟩
   exact fin _ y hby gy hR
  ·refine ay_ (y:=2) (fun h2=>?_) (fun h2=>?_)
   ·have h2:d.st=2:=o_
    rw[if_pos h2] at J
    rw[ao_]
    refine dW_ (o:=1) (cells:=(snv ⟨5,d.code,0,false,0,0,false,false⟩).toArray) hb11 aR_ rfl (by simp[rsv,snv]) (by intro x hx;simp[snv] at hx;rcases hx with rfl|rfl|rfl|rfl|rfl|rfl|rfl<;>rfl) fun w12 hb12 hk12 _=>J w12 ⟨hb12,g11.keep hk12 fun b hb q=>o_⟩
   ·have h2:d.st≠2:=o_
    rw[if_neg h2] at J
    exact J w11 ⟨hb11,g11⟩
 ·have hst0:d.st=0:=o_
  rw[if_neg o_] at hR
  have hi9:i<(us.set i (a,{s with tab:=d.t})).length:=by rw[List.length_set];exact hi
  have hxn:d.ev.length=ev.n:=by have:=ho9.len;rw[vg_] at this;omega
  refine⟨fun x y=>∃j:Nat,x=j∧j≤d.ev.length∧ac_ (fun k=>k=a.qb) w9 y∧IsU y (fun k=>ℓ k≠none) pw a {s with tab:=d.t,q:=evQ s.q (d.ev.take j)}∧Own y w8.heap.size a2_ 2 ev (evv d.ev),fun x _=>ev.n-x.toNat,⟨0,rfl,Nat.zero_le _,ac_.refl _ _,hU9,ho9⟩,?_⟩
  rintro x y ⟨j,rfl,hj,hky,hUy,hoy⟩
  have syw:=hky.size
  refine ba_ (fun hlt=>?_) (fun hge=>?_)
  ·have hjl:j<d.ev.length:=o_
   have hcap8:ev.n≤140737489403904:=by have:=hev.1;omega
   obtain⟨hA9,hcl⟩:=qB_ (f:=evc) vf_ d_ (hoy.rd hcap8) hjl
   refine⟨⟨o_,o_,hA9⟩,(evc d.ev[j]).toArray,by rw[Int.toNat_natCast];exact aD_ vy_ no_ rfl hcl,?_⟩
   refine ag_ fun eb y1 heb hby1 hgy1 hsy1=>ap_ (cells:=(evc d.ev[j]).toArray) hby1 no_ rfl rfl (by simp[evc,Value.oneCell']) fun y2 hby2 hky2 hsy2=>?_
   have gy2:ab_ y y2:=hgy1.keep hky2 fun b hb q=>o_
   rintro y3 rfl
   have gy3:=gy2.trans (am_ y2)
   have hby3:Blk y2.drew eb (evc d.ev[j]).toArray a2_:=(am_ y2).heap hby2 (fun q=>q)
   generalize y2.drew=y3 at *
   have hU3:=hUy.grow gy3
   refine⟨fun o=>o=y3,rfl,rfl,some ⟨a.qb,0,none⟩,(by rintro o rfl;exact hU3.cellU fun P=>rfl),(d.ev[j].1:Int),(by rintro o rfl;rw[ao_,hby3.cell];rfl),(d.ev[j].2:Int),(by rintro o rfl;rw[ao_,hby3.cell];rfl),?_⟩
   obtain⟨v1,v2⟩:=hev.2 d.ev[j] (List.getElem_mem hjl)
   have sy3:=gy3.size
   refine nM_ hU3.q v1 v2 (own z7) (fun b hb=>by have:=H9.lt b hb;omega) fun y4 hk4 hq4=>?_
   rw[w64 o_ o_]
   have k94:ac_ (fun k=>k=a.qb) w9 y4:=(hky.grow gy3).trans hk4 fun _ _ q=>q
   refine⟨⟨j+1,o_,o_,k94,?_,?_⟩,by dsimp only;omega⟩
   ·have:=hU3.que hk4 (a9_.sub fun b _ q=>by rw[q];exact own z7) (fun b _ hne q=>hne q) (fun _ q=>.inl q) hq4
    rw[y3_ s.q hjl];exact this
   ·obtain⟨ss,_,hqb,_⟩:=hU3.q.rep
    exact(hoy.grow gy3).keep hk4 fun b hbb q=>bd_ (hoy.grow gy3) hqb d_ (by rw[hbb,q])
  ·have:j=d.ev.length:=o_
   subst this
   rw[List.take_length] at hUy
   obtain⟨my,Hy⟩:=H9.putA hi9 (List.getElem_set_self _) hky (fun b _ q=>by rw[q];exact z7) hUy
   rw[List.set_set] at Hy
   have Cy:=C9.step my
   have Ky:SOk st (us.set i (a,{s with tab:=d.t,q:=evQ s.q d.ev})) m:=K.put (x:=(a,{s with tab:=d.t,q:=evQ s.q d.ev})) (KU.same KU.good rfl rfl rfl rfl rfl rfl)
   refine⟨fun _=>rfl,some ⟨a.tb,0,none⟩,fun _=>hUy.cellU fun P=>rfl,?_⟩
   have kf:=tY_ (b:=s.tab.lasts||d.t.lasts) Cy hab rfl hi Hy Ky hm hR
   refine cI_ (fun b1 o=>o=y∧(s.tab.lasts||b1)=(s.tab.lasts||d.t.lasts)) ?_ (fun J=>⟨fun hnl=>oB_ hUy.tab (J _ _ ⟨rfl,rfl⟩),fun hnl=>J _ _ ⟨rfl,by
    have:s.tab.lasts=true:=by simpa using hnl
    rw[this];rfl⟩⟩)
   rintro b1 o ⟨ho,eb⟩
   rw[ho,eb]
   exact kf
end
open Go CF
def jd_ (F:Int→Bool) (s:USt) (st:Wst):USt:=
 {s with q:=onQ s.q,sure:=(aP_ F st s.keepf ⟨s.sure,s.at_,s.gen⟩).2.2.2.1.sure,at_:=(aP_ F st s.keepf ⟨s.sure,s.at_,s.gen⟩).2.2.2.1.at_,gen:=(aP_ F st s.keepf ⟨s.sure,s.at_,s.gen⟩).2.2.2.1.gen}
def hr_ (s1:USt) (e:Nat) (l:L8):Nat×USt:=
 if e=8 then(0,s1) else if e≠0 then(e,s1)
 else if l = []∨7<(l.getD 0 0).toNat then(3,s1)
 else match nT_ (l.drop 1) with
  | none=>(3,s1)
  | some t=>(0,{s1 with tab:=t,now:=jc_ (l.getD 0 0).toNat,saved:=jc_ (l.getD 0 0).toNat,cache:=(jc_ (l.getD 0 0).toNat).wce})
def cC_ (F:Int→Bool) (s:USt) (st:Wst):Nat×USt×Wst:=
 ((hr_ (jd_ F s st) (aP_ F st s.keepf ⟨s.sure,s.at_,s.gen⟩).1 (aP_ F st s.keepf ⟨s.sure,s.at_,s.gen⟩).2.1).1,
 (hr_ (jd_ F s st) (aP_ F st s.keepf ⟨s.sure,s.at_,s.gen⟩).1 (aP_ F st s.keepf ⟨s.sure,s.at_,s.gen⟩).2.1).2,
 (aP_ F st s.keepf ⟨s.sure,s.at_,s.gen⟩).2.2.2.2)
def aC_ (F:Int→Bool) (s:USt) (st:Wst):Nat×USt×Wst:=
 if s.on=1 then(s.fault,s,st) else((cC_ F s st).1,{(cC_ F s st).2.1 with on:=1,lock:=0,fault:=(cC_ F s st).1},(cC_ F s st).2.2)
structure UA.like (a a':UA):Prop where
 ub:a'.ub=a.ub
 dv:a'.dv=a.dv
 ps:a'.ps=a.ps
 sl:a'.sl=a.sl
 qb:a'.qb=a.qb
theorem UA.like.refl (a:UA):a.like a:=⟨rfl,rfl,rfl,rfl,rfl⟩
structure USt.same (s s':USt):Prop where
 inf:s'.inf=s.inf
 file:s'.file=s.file
 keepf:s'.keepf=s.keepf
 n:s'.n=s.n
 peers:s'.peers=s.peers
 count:s'.count=s.count
theorem qY_ {s1:USt} {e:Nat} {l:L8}:s1.same (hr_ s1 e l).2∧(hr_ s1 e l).2.on=s1.on∧(hr_ s1 e l).2.lock=s1.lock∧(hr_ s1 e l).2.fault=s1.fault:=by
 unfold hr_
 split
 ·exact⟨⟨rfl,rfl,rfl,rfl,rfl,rfl⟩,rfl,rfl,rfl⟩
 split
 ·exact⟨⟨rfl,rfl,rfl,rfl,rfl,rfl⟩,rfl,rfl,rfl⟩
 split
 ·exact⟨⟨rfl,rfl,rfl,rfl,rfl,rfl⟩,rfl,rfl,rfl⟩
 split
 ·exact⟨⟨rfl,rfl,rfl,rfl,rfl,rfl⟩,rfl,rfl,rfl⟩
 ·exact⟨⟨rfl,rfl,rfl,rfl,rfl,rfl⟩,rfl,rfl,rfl⟩
theorem jY_ {F:Int→Bool} {s:USt} {st:Wst}:s.same (aC_ F s st).2.1:=by
 unfold aC_
 split
 ·exact⟨rfl,rfl,rfl,rfl,rfl,rfl⟩
 ·have:=(qY_ (s1:=jd_ F s st) (e:=(aP_ F st s.keepf ⟨s.sure,s.at_,s.gen⟩).1) (l:=(aP_ F st s.keepf ⟨s.sure,s.at_,s.gen⟩).2.1)).1
  exact⟨this.inf,this.file,this.keepf,this.n,this.peers,this.count⟩
theorem y4_ (l:L8):(eM_ l).2.1.length≤4096:=by
 unfold eM_
 split
 ·decide
 split
 ·decide
 split
 ·decide
 ·rename_i h _
  show((l.drop 16).take (num ((l.drop 12).take 4))).length≤4096
  rw[List.length_take];omega
theorem vk_ (F:bD_) (file:ByteArray):∀k,(ldN F file k).2.2.length≤4096
 | 0=>Nat.zero_le _
 | k+1=>by
  show(fu_ (ldN F file k) k (ey_ F file k)).2.2.length≤4096
  unfold fu_
  split
  ·exact y4_ _
  ·exact vk_ F file k
theorem uM_ {F:Int→Bool} {st:Wst} {file:ByteArray} {x:SlX}:(aP_ F st file x).2.1.length≤4096:=by
 unfold aP_
 split
 ·exact Nat.zero_le _
 ·exact vk_ _ _ 2
section
variable {w u v z w3:World} {S D D' N N':Nat→Prop} {pw i m n ab cb:Nat} {a:UA} {s:USt} {st st':Wst} {F F':Int→Bool} {ℓ ℓ' ℓ1 ℓ2:Nat→Option Nat} {us:List (UA×USt)}
theorem qZ_ {s:USt}:gi_ st (aC_ F s st).2.2 s.keepf 2:=by
 unfold aC_
 split
 ·exact(gi_.refl st s.keepf).le d_
 ·exact oM_
theorem y5_ {R:Int→W_} (H:Sys w ℓ pw st F us) (hkf:1≤s.keepf.size∧s.keepf.size≤30) (hop:st.ops<10000000000) (hi:i<us.length) (he:us[i]=(a,s))
  (hR:∀u ℓ' a',a.like a'→Mv w u ℓ ℓ'→Sys u ℓ' pw (cC_ F s st).2.2 F (us.set i (a',(cC_ F s st).2.1))→R (((cC_ F s st).1:Nat):Int) u):eb_ (some ⟨a.ub,0,none⟩) w R:=by
 refine en_.calls _ _ _ ?_
 obtain⟨hU,hown⟩:=H.at hi he
 have hNl:∀b,ℓ b≠none→b<w.heap.size:=H.lt
 obtain⟨z1,z2,z3,z4,z5,z6,z7⟩:=de_ a
 have own:∀{b},a.set b→ℓ b≠none:=fun hb=>by rw[hown _ hb];exact Option.some_ne_none _
 refine⟨fun x v=>∃j:Nat,x=j∧j≤8∧ac_ (fun k=>k=a.qb) w v∧IsU v (fun k=>ℓ k≠none) pw a {s with q:=fun t=>if t<j then bG_ (s.q t) 10496 else s.q t},fun x _=>8-x.toNat,⟨0,rfl,d_,ac_.refl _ _,?_⟩,?_⟩
 ·have:(fun t=>if t<0 then bG_ (s.q t) 10496 else s.q t)=s.q:=by funext t;rw[if_neg o_]
  rw[this];exact hU
 rintro x v ⟨j,rfl,hj,hkv,hUv⟩
 refine ba_ (y:=8) (fun hlt=>?_) (fun hge=>?_)
 ·refine⟨rfl,some ⟨a.qb,0,none⟩,hUv.cellU fun P=>rfl,?_⟩
  refine nM_ hUv.q hlt d_ (own z7) (fun b hb=>by have:=hNl b hb;have:=hkv.size;omega) fun v' hk' hq'=>?_
  rw[w64 o_ o_]
  refine⟨⟨j+1,o_,o_,hkv.trans hk' fun _ _ q=>q,?_⟩,by dsimp only;omega⟩
  have e:(fun t=>if t=j then bG_ (if j<j then bG_ (s.q j) 10496 else s.q j) 10496 else if t<j then bG_ (s.q t) 10496 else s.q t)=fun t=>if t<j+1 then bG_ (s.q t) 10496 else s.q t:=by
   funext t
   by_cases e:t=j
   ·subst e;rw[if_pos rfl,if_neg o_,if_pos o_]
   ·rw[if_neg e]
    by_cases e2:t<j
    ·rw[if_pos e2,if_pos o_]
    ·rw[if_neg e2,if_neg o_]
  rw[←e]
  exact hUv.que hk' (a9_.sub fun b _ q=>by rw[q];exact own z7) (fun b _ hne q=>hne q) (fun _ q=>.inl q) hq'
 have hj8:j=8:=o_
 subst hj8
 obtain⟨hmv,Hv⟩:=H.putA hi he hkv (fun b _ q=>by rw[q];exact z7) hUv
 have hi':i<(us.set i (a,{s with q:=fun t=>if t<8 then bG_ (s.q t) 10496 else s.q t})).length:=by rw[List.length_set];exact hi
 obtain⟨D,hW,hD⟩:=Hv.W
 refine⟨rfl,some ⟨a.sl,0,none⟩,hUv.cellU fun P=>rfl,?_⟩
 refine mV_ (x:=⟨s.sure,s.at_,s.gen⟩) hUv.slots (fun q=>by have:=hD _ q;rw[hown _ z4] at this;injection this with this;omega) hW hkf o_ fun best w2 hk2 hW2 hS2 ho2=>?_
 have hU2:IsU w2 (fun k=>ℓ k≠none) pw a (jd_ F s st):=by
  refine hUv.slot hk2 (a9_.sub fun b _ q=>?_) (fun b hb hne q=>?_) (fun b hb=>.inl hb) hS2
  ·rcases q with q|q
   ·rw[hD b q];exact Option.some_ne_none _
   ·rw[q];exact own z4
  ·rcases q with q|q
   ·have:=hD b q
    rw[hown b hb] at this
    injection this with this
    omega
   ·exact hne q
 have hs:=Hv.all (a':=a) (s':=jd_ F s st) hi' hD hk2 (fun b _ q=>by
    rcases q with q|q
    ·exact .inl q
    ·refine .inr ?_
     rw[List.getElem_set_self];rw[q];exact z4) hW2 (fun _ q=>.inl q) (fun b hb=>.inl (by rw[List.getElem_set_self];exact hb)) (fun b hb q=>by have:=hW.lt q;omega) (fun N' hN'=>by
    refine hUv.slot hk2 (a9_.sub fun b _ q=>?_) (fun b hb hne q=>?_) (fun b hb=>?_) hS2
    ·rcases q with q|q
     ·rw[hD b q];exact Option.some_ne_none _
     ·rw[q];exact own z4
    ·rcases q with q|q
     ·have:=hD b q
      rw[hown b hb] at this
      injection this with this
      omega
     ·exact hne q
    ·rcases hN' b hb with q|q
     ·exact .inl q
     ·exact .inr q.1)
 obtain⟨ℓ2,m2,H2⟩:=hs
 rw[List.set_set] at H2
 have m2:=hmv.trans m2
 have hR:∀u ℓ' a',a.like a'→Mv w u ℓ ℓ'→Sys u ℓ' pw (aP_ F st s.keepf ⟨s.sure,s.at_,s.gen⟩).2.2.2.2 F (us.set i (a',(hr_ (jd_ F s st) (aP_ F st s.keepf ⟨s.sure,s.at_,s.gen⟩).1 (aP_ F st s.keepf ⟨s.sure,s.at_,s.gen⟩).2.1).2))→R (((hr_ (jd_ F s st) (aP_ F st s.keepf ⟨s.sure,s.at_,s.gen⟩).1 (aP_ F st s.keepf ⟨s.sure,s.at_,s.gen⟩).2.1).1:Nat):Int) u:=hR
 have hll:=uM_ (F:=F) (st:=st) (file:=s.keepf) (x:=⟨s.sure,s.at_,s.gen⟩)
 clear hS2 hW2 hU2
 generalize (aP_ F st s.keepf ⟨s.sure,s.at_,s.gen⟩).2.2.2.2=st2 at *
 generalize (aP_ F st s.keepf ⟨s.sure,s.at_,s.gen⟩).1=e at *
 generalize (aP_ F st s.keepf ⟨s.sure,s.at_,s.gen⟩).2.1=l at *
 generalize jd_ F s st=s1 at *
 have hbn:=gD_ ho2
 unfold hr_ at hR
 refine ay_ (y:=8) (fun e8=>?_) (fun e8=>?_)
 ·rw[if_pos o_] at hR
  exact hR w2 ℓ2 a (UA.like.refl a) m2 H2
 rw[if_neg o_] at hR
 refine eR_ (fun e0=>?_) (fun e0=>?_)
 ·rw[if_pos o_] at hR
  exact hR w2 ℓ2 a (UA.like.refl a) m2 H2
 rw[if_neg o_] at hR
 have hrd:Rd w2 1 best (bv l):=ho2.rd o_
 have hcap:=hrd.cap
 have h0:l≠[]→best.A.isSome=true∧w2.cell? ((gA best.A).add ((0:Int).toNat*1))=some (.int .u8 (((l.getD 0 0).toNat:Nat):Int)):=fun q=>by
  have:0<l.length:=List.length_pos_iff.2 q
  obtain⟨x1,x2⟩:=bS_ hrd (i:=0) this
  exact⟨x1,x2⟩
 have en:(((best.n:Int)==0):Bool)=decide (l = []):=by
  rw[Bool.eq_iff_iff,beq_iff_eq,decide_eq_true_eq]
  constructor
  ·intro q;exact List.length_eq_zero_iff.1 o_
  ·intro q;rw[q] at hbn;simp at hbn;omega
 rw[en]
 have nn:(!decide (l = []))=true→l≠[]:=fun q=>by simpa using q
 refine⟨fun q=>?_,(((l.getD 0 0).toNat:Nat):Int),fun q=>(h0 (nn q)).2,?_⟩
 ·have:=List.length_pos_iff.2 (nn q)
  exact⟨d_,o_,(h0 (nn q)).1⟩
 have eb:((decide (l = [])||decide ((((l.getD 0 0).toNat:Nat):Int)>7)):Bool)=decide (l = []∨7<(l.getD 0 0).toNat):=by
  rw[Bool.eq_iff_iff,Bool.or_eq_true,decide_eq_true_eq,decide_eq_true_eq,decide_eq_true_eq]
  exact or_congr Iff.rfl ⟨fun h=>o_,fun h=>o_⟩
 rw[eb]
 refine a8_ (fun q=>?_) (fun q=>?_)
 ·rw[if_pos q] at hR
  exact hR w2 ℓ2 a (UA.like.refl a) m2 H2
 rw[if_neg q] at hR
 have hl0:l≠[]:=fun e=>q (.inl e)
 have hlp:0<l.length:=List.length_pos_iff.2 hl0
 have hb7:(l.getD 0 0).toNat≤7:=by have:¬7<(l.getD 0 0).toNat:=fun e=>q (.inr e);omega
 have hcut:=hrd.cutB (l:=1) (k:=best.n) o_ (Nat.le_refl _)
 have ed:(l.drop 1).take (best.n-1)=l.drop 1:=List.take_of_length_le (by rw[List.length_drop];omega)
 rw[ed] at hcut
 refine⟨⟨d_,o_,o_,hcap⟩,uH_ hcut (by show best.n-1≤_;omega) ?_⟩
 cases hlt:nT_ (l.drop 1) with
 | none=>
  rw[hlt] at hR
  exact fun v g=>al_ d_ (hR v ℓ2 a (UA.like.refl a) (m2.go g) (H2.grow g))
 | some t=>
 rw[hlt] at hR
 dsimp only at hR
 intro tb w3 T3
 have ok:=yU_ hlt
 have hr3:=hrd.grow T3.keep
 obtain⟨x1,x2⟩:=bS_ hr3 (i:=0) hlp
 refine ai_ d_ ⟨⟨d_,o_,x1⟩,(((l.getD 0 0).toNat:Nat):Int),x2,tW_ hb7 fun w4 g4=>ib_ fun pb w5 g5 hpb hP5=>?_⟩
 generalize jc_ (l.getD 0 0).toNat=vv at *
 have hi2:i<(us.set i (a,s1)).length:=by rw[List.length_set];exact hi
 obtain⟨hU2,hown2⟩:=H2.at hi2 (List.getElem_set_self _)
 have own2:∀{b},a.set b→ℓ2 b≠none:=fun hb=>by rw[hown2 _ hb];exact Option.some_ne_none _
 have T5:=(T3.go g4).go g5
 have g25:=T5.keep
 obtain⟨P5,hub5,hpr5⟩:=(hU2.grow g25).unit
 have lub:a.ub<w2.heap.size:=hU2.lt z1
 have lps:a.ps<w2.heap.size:=hU2.lt z3
 have s3:=T3.keep.size
 have s4:=g4.size
 refine⟨rfl,?_⟩
 rw[gA,ao_]
 refine aU_ hub5 (by show 8<16;decide) rfl fun w6 hub6 hk6 hs6=>⟨rfl,?_⟩
 refine aU_ hub6 (by show 7<16;decide) rfl fun w7 hub7 hk7 hs7=>?_
 rintro w8 rfl
 have g8:=am_ w7
 generalize w7.drew=w8 at *
 have k28:ac_ (fun b=>b=a.ub) w2 w8:=((g25.mono fun _ _ q=>q.elim).trans (hk6.trans hk7 fun _ _ q=>q) fun _ _ q=>q).grow g8
 have k58:ac_ (fun b=>b=a.ub) w5 w8:=(hk6.trans hk7 fun _ _ q=>q).grow g8
 have sf:∀{S:Nat→Prop},(∀b,S b→b=a.ub∨b=a.ps)→a9_ w2 (fun k=>ℓ2 k≠none) S:=fun hS=>a9_.sub fun b _ q=>by
  rcases hS b q with r|r
  ·rw[r];exact own2 z1
  ·rw[r];exact own2 z3
 have hub8:Blk w8 a.ub (dE_ {a with tb:=tb,pg:=pb} P5 {s1 with tab:=t,now:=vv,saved:=vv,cache:=vv.wce}) bp_:=g8.heap hub7 (fun q=>q)
 obtain⟨y1,y2,y3,y4,y5,y6,y7⟩:=hU2.step1 (N':=fun k=>ℓ2 k≠none) k28 (sf fun b q=>.inl q) (fun b q=>.inl q)
 obtain⟨n1,n2,n3,n4,n5,n6,n7,n8,n9,n10,n11,n12,n13,n14,n15,n16,n17,n18,n19,n20,n21⟩:=hU2.ne
 have dev8:=y2 fun e=>n1 e.symm
 have sto8:=y3 fun e=>n2 e.symm
 have hP8:IsP w8 pb vv vv:=k58.heap hP5 o_
 have cu:∀{o:Nat} {x:Value},(dE_ {a with tb:=tb,pg:=pb} P5 {s1 with tab:=t,now:=vv,saved:=vv,cache:=vv.wce})[o]?=some x→w8.cell? ((gA (some (⟨a.ub,0,none⟩:Addr))).add o)=some x:=fun e=>by rw[gA,ao_,hub8.cell,Nat.zero_add];exact e
 have cug:∀{y:World} {o:Nat} {x:Value},ab_ w8 y→(dE_ {a with tb:=tb,pg:=pb} P5 {s1 with tab:=t,now:=vv,saved:=vv,cache:=vv.wce})[o]?=some x→y.cell? ((gA (some (⟨a.ub,0,none⟩:Addr))).add o)=some x:=fun g e=>by rw[gA,ao_,Blk.cell (g.heap hub8 (fun q=>q)),Nat.zero_add];exact e
 refine⟨fun y=>ab_ w8 y,ac_.refl _ _,rfl,some ⟨a.dv,0,none⟩,fun y q=>cug q rfl,rfl,some ⟨a.ps,0,none⟩,fun y q=>by rw[gA];exact nE_ (q.heap dev8 (fun q=>q)),rfl,some ⟨pb,0,none⟩,fun y q=>cug q rfl,?_⟩
 refine ik_ hP8 fun w9 g9=>⟨g9,fun y=>ab_ w8 y,g9,fun _ q=>q,vv.wce,fun _ _=>rfl,?_⟩
 have sto9:IsS w9 a.ps pw s1.file s1.n s1.cache:=g9.heap sto8 (fun q=>q)
 refine oO_ (on:=vv.wce) sto9 fun w10 hk10 hS10=>?_
 have k10:ac_ (fun b=>b=a.ub∨b=a.ps) w2 w10:=((k28.grow g9).mono fun _ _ q=>.inl q).trans hk10 fun _ _ q=>.inr q
 have lt5:=k28.size
 have lpb:pb<w5.heap.size:=aw_ hP5
 obtain⟨sT,hT1,hT2⟩:=T5.blk
 have ltb:tb<w5.heap.size:=aw_ hT1
 have hm:=H2.move (i:=i) (a':={a with tb:=tb,pg:=pb}) (s':={s1 with tab:=t,now:=vv,saved:=vv,cache:=vv.wce}) hi2 k10 (fun b _ q=>by
   rw[List.getElem_set_self]
   rcases q with r|r
   ·rw[r];exact z1
   ·rw[r];exact z3) (fun b hb=>by
   rw[List.getElem_set_self]
   rcases hb with r|r|r|r|r|r|r
   ·exact .inl (.inl r)
   ·exact .inl (.inr (.inl r))
   ·exact .inl (.inr (.inr (.inl r)))
   ·exact .inl (.inr (.inr (.inr (.inl r))))
   ·refine .inr ?_;rw[r];show w2.heap.size≤pb;omega
   ·refine .inr ?_;rw[r];exact T3.new
   ·exact .inl (.inr (.inr (.inr (.inr (.inr (.inr r))))))) (fun N' hN'=>?_)
 ·obtain⟨ℓ3,m3,H3⟩:=hm
  rw[List.set_set] at H3
  exact hR w10 ℓ3 {a with tb:=tb,pg:=pb} ⟨rfl,rfl,rfl,rfl,rfl⟩ (m2.trans m3) H3
 ·have hNN:∀b,N' b→ℓ2 b≠none∨w2.heap.size≤b:=fun b hb=>(hN' b hb).elim .inl fun q=>.inr q.1
  obtain⟨v1,v2,v3,v4,v5,v6,v7⟩:=hU2.step1 (N':=N') k10 (sf fun b q=>q) hNN
  have k510:ac_ (fun b=>b=a.ub∨b=a.ps) w5 w10:=((k58.grow g9).mono fun _ _ q=>.inl q).trans hk10 fun _ _ q=>.inr q
  have nub:∀{b},w2.heap.size≤b→¬(b=a.ub∨b=a.ps):=fun hb q=>by rcases q with r|r<;>omega
  have hub10:Blk w10 a.ub (dE_ {a with tb:=tb,pg:=pb} P5 {s1 with tab:=t,now:=vv,saved:=vv,cache:=vv.wce}) bp_:=hk10.heap (g9.heap hub8 (fun q=>q)) n2
  have hTb:Blk w10 tb (b8_ sT t) cf_:=k510.heap hT1 (nub T3.new)
  have hPb:IsP w10 pb vv vv:=k510.heap hP5 (nub o_)
  refine⟨⟨P5,hub10,?_⟩,v2 (fun q=>q.elim (fun r=>n1 r.symm) fun r=>n7 r),hS10,v4 (fun q=>q.elim (fun r=>n3 r.symm) fun r=>n12 r.symm),hPb,⟨⟨sT,hTb,?_⟩,ok⟩,v7 (fun q=>q.elim (fun r=>n6 r.symm) fun r=>n15 r.symm)⟩
  ·obtain⟨Pq,hq1,hq2⟩:=hU2.unit
   have e5:Blk w5 a.ub (dE_ a Pq s1) bp_:=g25.heap hq1 (fun q=>q)
   have ePP:Pq=P5:=by
    have:=e5.symm.trans hub5
    injection this with this
    injection this with this _ _
    have h10:=congrArg (fun x=>x[10]?) this
    have h10:some (Value.slice Pq.A Pq.n Pq.c)=some (Value.slice P5.A P5.n P5.c):=h10
    injection h10 with h10
    injection h10 with h1 h2 h3
    obtain⟨A1,n1,c1⟩:=Pq
    obtain⟨A2,n2,c2⟩:=P5
    dsimp only at h1 h2 h3
    subst h1 h2 h3
    rfl
   rw[←ePP]
   exact hq2.step (.inr (.inr rfl)) k10 (sf fun b q=>q) hNN
  ·have hT3:Own w10 w2.heap.size aF_ 2 sT (rgv t.regs):=hT2.keep k510 fun b hb q=>nub (hT2.ge b hb).1 q
   refine⟨hT3.mono (Nat.zero_le _),by have:=hT3.len;rw[bK_] at this;have:=ok.few;omega,fun b hb hN=>?_⟩
   have hbw:=(hT3.ge b hb).1
   rcases hN' b hN with r|⟨_,r⟩
   ·have:=H2.lt b r;omega
   ·rcases r with r|r|r|r|r|r|r
    ·have:b=a.ub:=r;omega
    ·have:b=a.dv:=r;have:=hU2.lt z2;omega
    ·have:b=a.ps:=r;omega
    ·have:b=a.sl:=r;have:=hU2.lt z4;omega
    ·exact bd_ hT3 hPb d_ (by rw[hb,r])
    ·exact bd_ hT3 hTb d_ (by rw[hb,r])
    ·have:b=a.qb:=r;have:=hU2.lt z7;omega
theorem mA_ {F:Int→Bool} {s:USt} {st:Wst} (h:s.on=1∨(s.on=0∧s.lock=0)):(aC_ F s st).2.1.on=1:=by
 unfold aC_
 split
 ·assumption
 ·rfl
def pa_ (F:Int→Bool) (s:USt) (st:Wst):Prop:=∀{R:Int→W_} {w:World} {ℓ:Nat→Option Nat} {pw i:Nat} {a:UA} {us:List (UA×USt)},Sys w ℓ pw st F us→1≤s.keepf.size∧s.keepf.size≤30→st.ops<10000000000→i<us.length→us[i]?=some (a,s)→
 (∀u ℓ' a',a.like a'→Mv w u ℓ ℓ'→Sys u ℓ' pw (cC_ F s st).2.2 F (us.set i (a',(cC_ F s st).2.1))→R (((cC_ F s st).1:Nat):Int) u)→eb_ (some ⟨a.ub,0,none⟩) w R
theorem p9_ (F:Int→Bool) (s:USt) (st:Wst):pa_ F s st:=fun H hk ho hi he hR=>y5_ H hk ho hi (List.getElem?_eq_some_iff.1 he).2 hR
theorem oQ_ {R:Int→W_} (hL:s.on≠1→pa_ F {s with lock:=1} st) (H:Sys w ℓ pw st F us) (K:SOk st us m) (hm:m≤500000000) (hi:i<us.length) (he:us[i]=(a,s))
  (hR:∀u ℓ' a',a.like a'→Mv w u ℓ ℓ'→Sys u ℓ' pw (aC_ F s st).2.2 F (us.set i (a',(aC_ F s st).2.1))→SOk (aC_ F s st).2.2 (us.set i (a',(aC_ F s st).2.1)) (m+2)→R (((aC_ F s st).1:Nat):Int) u):bA_ (some ⟨a.ub,0,none⟩) w R:=by
 have KU:=K.at hi he
 have hKs:∀a':UA,SOk (aC_ F s st).2.2 (us.set i (a',(aC_ F s st).2.1)) (m+2):=fun a'=>by
  have K2:=K.near (qZ_ (F:=F) (s:=s) (st:=st))
  refine K2.put (x:=(a',(aC_ F s st).2.1)) ?_
  have KU2:=K2.at hi he
  have sm:=jY_ (F:=F) (s:=s) (st:=st)
  refine⟨by rw[sm.n];exact KU2.n,by rw[sm.inf];exact KU2.form,by rw[sm.file,sm.keepf];exact KU2.name,by rw[sm.file];exact KU2.good,.inl (mA_ KU.once)⟩
 have hR:∀u ℓ' a',a.like a'→Mv w u ℓ ℓ'→Sys u ℓ' pw (aC_ F s st).2.2 F (us.set i (a',(aC_ F s st).2.1))→R (((aC_ F s st).1:Nat):Int) u:=fun u ℓ' a' h1 h2 h3=>hR u ℓ' a' h1 h2 h3 (hKs a')
 clear hKs
 rcases KU.once with hon|⟨hon,hlk⟩
 ·unfold aC_ at hR
  rw[if_pos hon] at hR
  exact px_ H hi he hon fun u g=>hR u ℓ a (UA.like.refl a) (Mv.grow g) (by show Sys u ℓ pw st F (us.set i (a,s));rw[js_ hi he];exact H.grow g)
 unfold aC_ at hR
 rw[if_neg o_] at hR
 refine c3_.calls _ _ _ (ag_ fun fb w1 hfb hb1 hg1 hs1=>?_)
 obtain⟨z1,z2,z3,z4,z5,z6,z7⟩:=de_ a
 have H1:=H.grow hg1
 obtain⟨hU,hown⟩:=H1.at hi he
 have hfn:ℓ fb=none:=H.fresh o_
 have cf:∀{v:World},Blk v fb #[.pointer (some ⟨a.ub,0,none⟩)] aM_→v.cell? ⟨fb,0,none⟩=some (.pointer (some ⟨a.ub,0,none⟩)):=fun q=>by rw[Blk.cell q];rfl
 refine⟨some ⟨a.ub,0,none⟩,cf hb1,some ⟨a.ub,0,none⟩,fun _=>cf hb1,fun _=>rfl,some ⟨a.dv,0,none⟩,fun _=>hU.cellU fun P=>rfl,ai_ rfl ⟨some ⟨a.ub,0,none⟩,cf hb1,rfl,?_⟩⟩
 rw[show(gA (some (⟨a.ub,0,none⟩:Addr))).add 11=⟨a.ub,11,none⟩ by rw[gA,ao_]]
 obtain⟨P,hP1,hP2⟩:=hU.unit
 refine qF_ (o:=11) hP1 (by show some (Value.int .u32 (s.on:Int))=_;rw[hon];rfl) (by show some (Value.int .i32 (s.lock:Int))=_;rw[hlk];rfl) fun w2 hb2 hk2 hs2=>?_
 have sfe:∀{S:Nat→Prop} {x:World},(∀b,S b→b=a.ub)→a9_ x (fun k=>ℓ k≠none) S:=fun hS=>a9_.sub fun b _ q=>by rw[hS b q,hown _ z1];exact Option.some_ne_none _
 have hU2:IsU w2 (fun k=>ℓ k≠none) pw a {s with lock:=1}:=hU.unitC (on:=s.on) (lk:=1) (fl:=s.fault) (ct:=s.count) (ps:=s.peers) hk2 (sfe fun _ q=>q) (fun b _ hne q=>hne q) (fun _ q=>.inl q) ⟨P,hb2,hP2.step (.inr (.inr rfl)) hk2 (sfe fun _ q=>q) fun _ q=>.inl q⟩
 obtain⟨m2,H2⟩:=H1.putA hi he hk2 (fun b _ q=>by rw[q];exact z1) hU2
 have hi2:i<(us.set i (a,{s with lock:=1})).length:=by rw[List.length_set];exact hi
 have hf2:Blk w2 fb #[.pointer (some ⟨a.ub,0,none⟩)] aM_:=m2.heap hb1 hfn
 refine db_.calls _ _ _ ?_
 rintro w3 rfl
 have hg3:=am_ w2
 have H3:=H2.grow hg3
 have hf3:Blk w2.drew fb _ aM_:=hg3.heap hf2 (fun q=>q)
 generalize w2.drew=w3 at *
 refine⟨fun o=>o.cell? ⟨fb,0,none⟩=some (.pointer (some ⟨a.ub,0,none⟩)),cf hf3,some ⟨a.ub,0,none⟩,fun _ q=>q,some ⟨a.ub,0,none⟩,fun _ q=>q,?_⟩
 have elu:cC_ F {s with lock:=1} st=((cC_ F s st).1,{(cC_ F s st).2.1 with lock:=1},(cC_ F s st).2.2):=by
  unfold cC_ hr_ jd_
  dsimp only
  split
  ·rfl
  split
  ·rfl
  split
  ·rfl
  cases nT_ ((aP_ F st s.keepf ⟨s.sure,s.at_,s.gen⟩).2.1.drop 1)<;>rfl
 refine hL o_ H3 KU.sizes.2 (by have:=K.few;omega) hi2 (List.getElem?_eq_some_iff.2 ⟨hi2,List.getElem_set_self _⟩) fun w4 ℓ4 a4 hl4 m4 H4=>?_
 rw[elu,List.set_set] at H4
 rw[elu]
 dsimp only at H4 ⊢
 have hi4:∀y,i<(us.set i y).length:=fun y=>by rw[List.length_set];exact hi
 obtain⟨hU4,hown4⟩:=H4.at (hi4 _) (List.getElem_set_self _)
 have hf4:Blk w4 fb _ aM_:=m4.heap hf3 hfn
 have sm:=(qY_ (s1:=jd_ F s st) (e:=(aP_ F st s.keepf ⟨s.sure,s.at_,s.gen⟩).1) (l:=(aP_ F st s.keepf ⟨s.sure,s.at_,s.gen⟩).2.1))
 have son:(cC_ F s st).2.1.on=s.on:=sm.2.1
 generalize (cC_ F s st).1=e at *
 generalize (cC_ F s st).2.1=s4 at *
 generalize (cC_ F s st).2.2=st4 at *
 obtain⟨q1,q2,q3,q4,q5,q6,q7⟩:=de_ a4
 have eub:=hl4.ub
 obtain⟨P4,hP41,hP42⟩:=hU4.unit
 rw[eub] at hP41 q1
 refine⟨cf hf4,rfl,?_⟩
 rw[gA,ao_]
 refine aU_ hP41 (by show 14<16;decide) rfl fun w5 hb5 hk5 hs5=>⟨_,hb5,by show some (Value.int .u32 (s4.on:Int))=_;rw[son,hon];rfl,rfl,fun w6 hb6 hk6 hs6=>?_⟩
 have k46:ac_ (fun b=>b=a.ub) w4 w6:=hk5.trans hk6 fun _ _ q=>q
 have sf4:a9_ w4 (fun k=>ℓ4 k≠none) fun b=>b=a.ub:=a9_.sub fun b _ q=>by rw[q,hown4 _ q1];exact Option.some_ne_none _
 have hU6:IsU w6 (fun k=>ℓ4 k≠none) pw a4 {s4 with on:=1,lock:=0,fault:=e}:=hU4.unitC (on:=1) (lk:=0) (fl:=e) (ct:=s4.count) (ps:=s4.peers) k46 sf4 (fun b _ hne q=>hne (by rw[eub];exact q)) (fun _ q=>.inl q) ⟨P4,by rw[eub];exact hb6,hP42.step (.inr (.inr rfl)) k46 sf4 fun _ q=>.inl q⟩
 obtain⟨m6,H6⟩:=H4.putA (hi4 _) (List.getElem_set_self _) k46 (fun b _ q=>by rw[q];exact q1) hU6
 rw[List.set_set] at H6
 have hf6:Blk w6 fb _ aM_:=k46.heap hf4 fun q=>by
  have:=hown4 _ q1
  rw[←q] at this
  have e:=m4.lab fb (by have:=aw_ hf3;exact this)
  rw[e,hfn] at this;cases this
 obtain⟨hU6',_⟩:=H6.at (hi4 _) (List.getElem_set_self _)
 have cu:w6.cell? ((gA (some (⟨a.ub,0,none⟩:Addr))).add 14)=some (.int .i64 (e:Int)):=by
  have:=hU6'.cellU (o:=14) (x:=.int .i64 (e:Int)) fun P=>rfl
  rwa [eub] at this
 refine⟨some ⟨a.ub,0,none⟩,cf hf6,rfl,(e:Int),cu,?_⟩
 exact hR w6 ℓ4 a4 hl4 (((((Mv.grow hg1).trans m2).trans (Mv.grow hg3)).trans m4).trans m6) H6
end
open Go CF
structure eP_ where
 from_:Int
 to_:Int
 blocks:Int
 src:Nat
 dst:Nat
def sgv (x:eP_):List Value:=[.int .i64 x.from_,.int .i64 x.to_,.int .i64 x.blocks,.int .u64 (x.src:Int),.int .u64 (x.dst:Int)]
theorem pb_ (x:eP_):(sgv x).length=5:=rfl
def sub (p:L8) (at_ n:Nat):L8:=(p.drop at_).take n
theorem rw_ {p:L8} {at_ n:Nat} (h:at_+n≤p.length):(sub p at_ n).length=n:=by simp[sub];omega
def mc_ (l:L8):L8:=(l.reverse.dropWhile (·==32)).reverse
def lu_:L8:=[0xe4,0,0,0,2,1,0,20]
def ju_ (d:L8):Option Nat:=
 match (List.range 8).find? (fun i=>decide (d.getD i 0≠lu_.getD i 0)) with
 | some i=>some i
 | none=>if d.getD 28 0≠0 then some 28 else if num (sub d 29 3)≠16 then some 29 else none
def m0_ (d:L8):L8:=mc_ (sub d 8 20)
def q0_ (nu:Nat) (q:L8):Option Nat:=
 if num (sub q 0 4)≠0x02000018 then some 0 else if num (sub q 8 2)≠0 then some 8 else if nu≤num (sub q 4 2) then some 4 else if nu≤num (sub q 6 2) then some 6
 else if 256<num (sub q 10 2) then some 10 else none
def md_ (q:L8):eP_:=⟨(num (sub q 4 2):Int),(num (sub q 6 2):Int),(num (sub q 10 2):Int),num (sub q 12 8),num (sub q 20 8)⟩
def nuX (p:L8):Nat:=num (sub p 2 2)
def nsX (p:L8):Nat:=num (sub p 8 4)
def me_ (p:L8):Option Sn:=
 if p.length<16 then some (ci_ 0x1a00)
 else if num (sub p 0 2)≠0 then some (dv_ 0) else if num (sub p 4 4)≠0 then some (dv_ 4) else if num (sub p 12 4)≠0 then some (dv_ 12)
 else if nuX p%32≠0 then some (dv_ 2) else if nsX p%28≠0 then some (dv_ 8) else if p.length≠16+nuX p+nsX p then some (ci_ 0x1a00)
 else if 256<nuX p∨224<nsX p then some (ci_ 0x2608) else none
def kd_ (p:L8) (j:Nat):L8:=sub p (16+32*j) 32
def cK_ (p:L8) (j:Nat):L8:=sub p (16+nuX p+28*j) 28
def je_ (p:L8) (j:Nat):Option Nat:=(ju_ (kd_ p j)).map (16+32*j + ·)
def hK_ (p:L8) (j:Nat):Option Nat:=(q0_ (nuX p/32) (cK_ p j)).map (16+nuX p+28*j + ·)
def dF_ (p:L8) (k:Nat):List L8:=(List.range k).map fun j=>m0_ (kd_ p j)
def fY_ (p:L8) (k:Nat):List eP_:=(List.range k).map fun j=>md_ (cK_ p j)
structure A2_ where
 us:List L8
 ss:List eP_
 sn:Sn
 ok:Bool
def noX (s:Sn):A2_:=⟨[],[],s,false⟩
def a5_ (p:L8):A2_:=
 if p = [] then⟨[],[],sn0,true⟩ else match me_ p with
 | some s=>noX s
 | none=>match (List.range (nuX p/32)).findSome? (je_ p) with
  | some f=>noX (dv_ f)
  | none=>match (List.range (nsX p/28)).findSome? (hK_ p) with
   | some f=>noX (dv_ f)
   | none=>⟨dF_ p (nuX p/32),fY_ p (nsX p/28),sn0,true⟩
theorem mf_ {α:Type} {f:Nat→Option α} {n i:Nat} {x:α} (hi:i<n) (h:∀j,j<i→f j=none) (hx:f i=some x):(List.range n).findSome? f=some x:=by
 induction n generalizing i with
 | zero=>omega
 | succ n ih=>
  rw[List.range_succ,List.findSome?_append]
  by_cases e:i<n
  ·rw[ih e h hx];rfl
  ·have:i=n:=o_
   subst this
   have:(List.range i).findSome? f=none:=by
    rw[List.findSome?_eq_none_iff]
    intro j hj;exact h j (List.mem_range.1 hj)
   rw[this]
   simp[hx]
theorem n3_ {α:Type} {f:Nat→Option α} {n:Nat} (h:∀j,j<n→f j=none):(List.range n).findSome? f=none:=by
 rw[List.findSome?_eq_none_iff]
 intro j hj;exact h j (List.mem_range.1 hj)
theorem uN_ (p:L8) (k:Nat):dF_ p (k+1)=dF_ p k++[m0_ (kd_ p k)]:=by simp[dF_,List.range_succ]
theorem wk_ (p:L8) (k:Nat):fY_ p (k+1)=fY_ p k++[md_ (cK_ p k)]:=by simp[fY_,List.range_succ]
theorem wl_ (p:L8) (k:Nat):(dF_ p k).length=k:=by simp[dF_]
theorem xJ_ (p:L8) (k:Nat):(fY_ p k).length=k:=by simp[fY_]
theorem wm_ (l:L8) (b:UInt8):mc_ (l++[b])=if b=32 then mc_ l else l++[b]:=by
 unfold mc_
 rw[List.reverse_append,List.reverse_singleton,List.singleton_append,List.dropWhile_cons]
 by_cases h:b=32
 ·rw[if_pos h,if_pos (by simp[h])]
 ·rw[if_neg h,if_neg (by simp[h])]
  simp
open Go CF
theorem t0_ (l:L8) (i j:Nat):(str l).extract i j=str ((l.take j).drop i):=by
 have:((str l).extract i j).data.toList=(str ((l.take j).drop i)).data.toList:=by
  simp[str,ByteArray.data_extract,List.extract_eq_take_drop,List.drop_take]
 exact ByteArray.ext (Array.toList_inj.1 this)
theorem t1_ (l:L8):(str l).size=l.length:=by simp[str,ByteArray.size]
theorem nY_ (s:Sn):(snv s).toArray.all (·.oneCell')=true:=by simp[snv,Value.oneCell']
theorem st_ {l:L8} {w:World} {R:ByteArray→W_} (hl:l.length≤1000000) (h:R (str (mc_ l)) w):eI_ (str l) 32 w R:=by
 refine c5_.calls _ _ _ _ ?_
 refine⟨fun s1 x=>∃l1:L8,s1=str l1∧x=w∧mc_ l1=mc_ l∧l1.length≤1000000,fun s1 _=>s1.size,⟨l,rfl,rfl,rfl,hl⟩,?_⟩
 rintro s1 x ⟨l1,rfl,rfl,ht,hl1⟩
 have hsz:(str l1).size=l1.length:=t1_ l1
 rcases List.eq_nil_or_concat l1 with rfl|⟨r,b,rfl⟩
 ·refine⟨fun q=>?_,ai_ ?_ ?_⟩
  ·rw[decide_eq_true_eq,hsz] at q;simp at q
  ·rw[Bool.and_eq_false_iff];left;rw[decide_eq_false_iff_not,hsz];simp
  ·rw[←ht] at h;exact h
 ·rw[List.concat_eq_append] at ht hl1 hsz ⊢
  have hlen:(r++[b]).length=r.length+1:=by simp
  rw[hsz,hlen]
  have e1:IntKind.wrap .i64 (((r.length+1:Nat):Int)-1)=((r.length:Nat):Int):=by rw[w64 o_ o_];omega
  rw[e1]
  have hb:bt (str (r++[b])) (r.length:Int)=(b.toNat:Int):=by
   rw[AE_ _ _ (by rw[mF_];simp)]
   simp[mF_]
  refine⟨fun _=>o_,?_⟩
  rw[hb]
  rw[wm_] at ht
  by_cases q:b=32
  ·rw[if_pos q] at ht
   refine al_ (by rw[Bool.and_eq_true,decide_eq_true_eq,beq_iff_eq,q];exact⟨o_,rfl⟩) ⟨o_,?_⟩
   rw[Int.toNat_natCast,t0_,List.drop_zero,List.take_append_of_le_length (Nat.le_refl _),List.take_length]
   exact⟨⟨r,rfl,rfl,ht,o_⟩,by show(str r).size<(str (r++[b])).size;rw[hsz,hlen,t1_];omega⟩
  ·rw[if_neg q] at ht
   refine ai_ (by rw[Bool.and_eq_false_iff];right;rw[beq_eq_false_iff_ne];intro e;exact q (UInt8.toNat_inj.1 (by show b.toNat=32;omega))) ?_
   rw[ht];exact h
theorem rx_ {l:L8} {w:World} {R:ByteArray→W_} (hl:l.length≤1000000) (h:R (str (mc_ l)) w):gT_ (str l) oW_ w R:=by
 refine ev_.calls _ _ _ _ ?_
 have e2:sEq oW_ ⟨#[]⟩=false:=by
  show sEq (str [32]) (str [])=false
  rw[mG_];rfl
 have e3:((oW_.size:Int)==1)=true:=d_
 have e4:decide ((bt oW_ 0)<128)=true:=d_
 have e5:bt oW_ 0=32:=d_
 by_cases q:l = []
 ·subst q
  exact al_ (by rw[uY_,mG_];simp) h
 ·refine ai_ (by rw[e2,Bool.or_false,uY_,mG_];simpa using q) ⟨fun _=>d_,al_ (by rw[e3,e4];rfl) ⟨d_,?_⟩⟩
  rw[e5]
  exact st_ hl h
theorem cv_ {p:Sl} {l:L8} {at_ n:Nat} {w:World} {R:Int→W_} (hp:Rd w 1 p (bv l)) (hn:1≤n) (hn7:n≤7) (hat:at_+n≤l.length) (h:R ((num (sub l at_ n):Nat):Int) w):bw_ p (at_:Int) (n:Int) w R:=by
 refine h4_.calls _ _ _ _ _ ?_
 refine bX_ hp hp.nb hn o_ hat ?_
 have hlt:=w7_ (l:=(l.drop at_).take n) (j:=n) (by rw[List.length_take,List.length_drop];omega) hn7
 rw[w64 o_ o_]
 exact h
theorem sd_ {w:World} {a:Nat} {old:A_} {s:Sn} {K:A_→W_} (hb:Blk w a old ak_) (ho:old.size=8)
  (h:∀w',ac_ (fun k=>k=a) w w'→K (snv s).toArray w') :
  af_ Tryz.prog (storeVar ak_ ⟨a,0,none⟩ (.agg (snv s).toArray)) w fun w'=>∃res:A_,(loadVar ak_ ⟨a,0,none⟩).run Tryz.prog w'=.ok (.agg res) w'∧K res w':=
 ap_ (cells:=(snv s).toArray) hb aR_ rfl ho (nY_ _) fun w1 hb1 hk1 _=>⟨_,dM_ (ar_ hb1),h w1 hk1⟩
theorem ry_ {code:Nat} {w:World} {R:A_→W_} (h:∀v,ab_ w v→R (snv (ci_ code)).toArray v):bn_ (code:Int) (-1) w R:=by
 refine iS_.calls _ _ _ _ ?_
 refine ag_ fun ab w0 hab hb0 hg0 hsz0=>?_
 refine ag_ fun sb w1 hsb hb1 hg1 hsz1=>?_
 refine ap_ (cells:=(snv (ci_ code)).toArray) hb1 aR_ rfl rfl (nY_ _) fun w2 hb2 hk2 _=>?_
 have s0:=hg0.size
 have hg2:ab_ w0 w2:=hg1.keep hk2 fun i hi q=>o_
 exact ai_ rfl ⟨_,dM_ (ar_ hb2),sd_ (hg2.heap hb0 (fun q=>q)) rfl fun w3 hk3=>h w3 (bY_ (hg0.trans hg2) o_ hk3)⟩
theorem jv_ {f:Nat} {w:World} {R:A_→W_} (h:∀v,ab_ w v→R (snv (dv_ f)).toArray v):bn_ 9728 (f:Int) w R:=by
 refine iS_.calls _ _ _ _ ?_
 refine ag_ fun ab w0 hab hb0 hg0 hsz0=>?_
 refine ag_ fun sb w1 hsb hb1 hg1 hsz1=>?_
 refine ap_ (cells:=(snv (ci_ 9728)).toArray) hb1 aR_ rfl rfl (nY_ _) fun w2 hb2 hk2 _=>?_
 have s0:=hg0.size
 refine al_ (by rw[decide_eq_true_eq];omega) ?_
 rw[ao_,ao_,ao_]
 refine aU_ hb2 (by show 4<8;decide) rfl fun w3 hb3 hk3 _=>?_
 refine aU_ hb3 (by show 5<8;decide) rfl fun w4 hb4 hk4 _=>?_
 refine aU_ hb4 (by show 6<8;decide) rfl fun w5 hb5 hk5 _=>?_
 have hb5:Blk w5 sb (snv (dv_ f)).toArray ak_:=hb5
 have hg5:ab_ w0 w5:=(((hg1.keep hk2 fun i hi q=>o_).keep hk3 fun i hi q=>o_).keep hk4 fun i hi q=>o_).keep hk5 fun i hi q=>o_
 exact⟨_,dM_ (ar_ hb5),sd_ (hg5.heap hb0 (fun q=>q)) rfl fun w6 hk6=>h w6 (bY_ (hg0.trans hg5) o_ hk6)⟩
open Go CF
theorem wn_ {p:Nat→Bool} {n i:Nat} (hi:i<n) (h:∀j,j<i→p j=false) (hp:p i=true):(List.range n).find? p=some i:=by
 rw[List.find?_range_eq_some]
 exact⟨hp,List.mem_range.2 hi,fun j hj=>by rw[h j hj];rfl⟩
theorem wo_ {p:Nat→Bool} {n:Nat} (h:∀j,j<n→p j=false):(List.range n).find? p=none:=by
 rw[List.find?_range_eq_none]
 exact fun j hj=>by rw[h j hj];rfl
theorem Ai_ {d:L8} {i:Nat} (h:i<d.length):num (sub d i 1)=(d.getD i 0).toNat:=by
 have e:sub d i 1 = [d[i]]:=by unfold sub;rw[List.drop_eq_getElem_cons h];rfl
 rw[e,List.getD_eq_getElem?_getD,List.getElem?_eq_getElem h]
 simp[num]
theorem xK_ (w:World):(Instr.buildSlice aB_ 8 #[(0,.int .u8 228),(1,.int .u8 0),(2,.int .u8 0),(3,.int .u8 0),(4,.int .u8 2),(5,.int .u8 1),(6,.int .u8 0),(7,.int .u8 20)]).run Tryz.prog w=.ok (.slice (some ⟨w.heap.size,0,none⟩) 8 8) (w.alloc (.cells (bv lu_).toArray ae_)):=k_
theorem xL_ {p:Sl} {d:L8} {w:World} {R:ByteArray→Int→W_} (hp:Rd w 1 p (bv d)) (hd:d.length=32) (hB:∀f,ju_ d=some f→∀v,ab_ w v→R ⟨#[]⟩ (f:Int) v) (hG:ju_ d=none→∀v,ab_ w v→R (str (m0_ d)) (-1) v):mm_ p w R:=by
 refine jH_.calls _ _ _ ?_
 have hln:=b4_ hp
 have hcap:=hp.cap
 refine aJ_ (cells:=(bv lu_).toArray) (e:=ae_) (z:=1) (base:=0) (xK_ w) rfl d_ (Nat.zero_le _) fun w1 hlit1 hg1 _=>?_
 have hp1:=hp.grow hg1
 have hx1:Rd w1 1 _ (bv lu_):=hlit1.rd (by show 8≤_;omega)
 refine⟨fun x v=>∃j:Nat,x=j∧j≤8∧v=w1∧∀i,i<j→d.getD i 0=lu_.getD i 0,fun x _=>8-x.toNat,⟨0,rfl,Nat.zero_le _,rfl,fun _ q=>absurd q (Nat.not_lt_zero _)⟩,?_⟩
 rintro x v ⟨j,rfl,hj,rfl,hall⟩
 refine ba_ (y:=8) (fun hlt=>?_) (fun hge=>?_)
 ·obtain⟨a1,c1⟩:=bS_ hx1 (i:=j) hlt
  obtain⟨a2,c2⟩:=bS_ hp1 (i:=j) o_
  refine⟨⟨o_,by show(j:Int)<8;omega,a1⟩,_,by rw[Int.toNat_natCast];exact c1,⟨o_,o_,a2⟩,_,by rw[Int.toNat_natCast];exact c2,?_⟩
  refine eR_ (fun e=>hB j ?_ _ hg1) (fun e=>?_)
  ·have:(List.range 8).find? (fun i=>decide (d.getD i 0≠lu_.getD i 0))=some j:=wn_ hlt (fun i hi=>decide_eq_false (fun q=>q (hall i hi))) (decide_eq_true (fun q=>e (by rw[q])))
   unfold ju_;rw[this]
  ·rw[w64 o_ o_]
   refine⟨⟨j+1,o_,o_,rfl,fun i hi=>?_⟩,by dsimp only;omega⟩
   by_cases q:i=j
   ·rw[q];exact UInt8.toNat_inj.1 o_
   ·exact hall i o_
 ·have hnone:(List.range 8).find? (fun i=>decide (d.getD i 0≠lu_.getD i 0))=none:=wo_ fun i hi=>decide_eq_false (fun q=>q (hall i o_))
  have hub:ju_ d=if d.getD 28 0≠0 then some 28 else if num (sub d 29 3)≠16 then some 29 else none:=by unfold ju_;rw[hnone]
  rw[hub] at hB hG
  refine cv_ (at_:=28) (n:=1) hp1 d_ d_ o_ ?_
  rw[Ai_ o_]
  by_cases q:d.getD 28 0=0
  case neg=>
   refine al_ ?_ (hB 28 (if_pos q) _ hg1)
   rw[bne_iff_ne]
   intro e
   exact q (UInt8.toNat_inj.1 (by show(d.getD 28 0).toNat=0;omega))
  rw[if_neg (fun r=>r q)] at hB hG
  refine ai_ (by rw[q];rfl) ?_
  refine cv_ (at_:=29) (n:=3) hp1 d_ d_ o_ ?_
  by_cases q2:num (sub d 29 3)=16
  case neg=>exact al_ (by rw[bne_iff_ne];omega) (hB 29 (if_pos q2) _ hg1)
  rw[if_neg (fun r=>r q2)] at hB hG
  refine ai_ (by rw[q2];rfl) ⟨⟨d_,d_,o_,hcap⟩,str (sub d 8 20),?_,?_⟩
  ·exact gK_ (s:=⟨aI_ p.A p.c 8 1,28-8,p.c-8⟩) aE_ hc_ eJ_ (hp1.cutB (l:=8) (k:=28) d_ o_)
  ·exact rx_ (by rw[rw_ o_];decide) (hG rfl _ hg1)
open Go CF
def lsv (U S:Sl):A_:=#[.slice U.A U.n U.c,.slice S.A S.n S.c]
def dO_ (us:List L8):List Value:=us.map fun l=>.string (str l)
theorem y6_ (ss:List eP_):∀u∈ss.flatMap sgv,u.oneCell'=true:=by
 intro u hu
 simp only[List.mem_flatMap] at hu
 obtain⟨x,_,hx⟩:=hu
 simp[sgv] at hx
 rcases hx with rfl|rfl|rfl|rfl|rfl<;>rfl
theorem Aj_ (w:World) (s:ByteArray):(Instr.buildSlice hC_ 1 #[(0,.string s)]).run Tryz.prog w=.ok (.slice (some ⟨w.heap.size,0,none⟩) 1 1) (w.alloc (.cells #[.string s] cG_)):=k_
theorem Ak_ (w:World) (x:eP_):(Instr.buildSlice rj_ 1 #[(0,.agg (sgv x).toArray)]).run Tryz.prog w=.ok (.slice (some ⟨w.heap.size,0,none⟩) 1 1) (w.alloc (.cells (sgv x).toArray ct_)):=k_
theorem vl_ {w:World} {a:Addr} {x:eP_} (h:bQ_ w a (sgv x)):(loadVar ct_ a).run Tryz.prog w=.ok (.agg (sgv x).toArray) w:=aD_ ui_ jy_ rfl h
theorem wp_ {w:World} {b:Nat} {U S:Sl} (h:Blk w b (lsv U S) a0_):(loadVar a0_ ⟨b,0,none⟩).run Tryz.prog w=.ok (.agg (lsv U S)) w:=aD_ (cs:=(lsv U S).toList) th_ lb_ rfl (ar_ h)
theorem se_:∀ss:List eP_,(ss.flatMap sgv).length=5*ss.length
 | []=>rfl
 | x::r=>by rw[List.flatMap_cons,List.length_append,pb_,se_ r,List.length_cons];omega
theorem xM_ {v:World} {ab sb:Nat} {old old':A_} {U S:Sl} {s:Sn} {K:A_→A_→W_} (ha:Blk v ab old a0_) (hs:Blk v sb old' ak_) (h1:old.size=2) (h2:old'.size=8) (hne:ab≠sb)
  (h:∀v',ac_ (fun k=>k=ab∨k=sb) v v'→K (lsv U S) (snv s).toArray v') :
  af_ Tryz.prog (storeVar a0_ ⟨ab,0,none⟩ (.agg (lsv U S))) v fun v1=>af_ Tryz.prog (storeVar ak_ ⟨sb,0,none⟩ (.agg (snv s).toArray)) v1 fun v2=>
   ∃res:A_,(loadVar a0_ ⟨ab,0,none⟩).run Tryz.prog v2=.ok (.agg res) v2∧∃res1:A_,(loadVar ak_ ⟨sb,0,none⟩).run Tryz.prog v2=.ok (.agg res1) v2∧K res res1 v2:=by
 refine ap_ (cells:=lsv U S) ha lb_ rfl h1 (by simp[lsv,Value.oneCell']) fun v1 hb1 hk1 _=>?_
 refine ap_ (cells:=(snv s).toArray) (hk1.heap hs (fun q=>hne q.symm)) aR_ rfl h2 (nY_ _) fun v2 hb2 hk2 _=>?_
 exact⟨_,wp_ (hk2.heap hb1 hne),_,dM_ (ar_ hb2),h v2 ((hk1.mono fun _ _ q=>.inl q).trans hk2 fun _ _ q=>.inr q)⟩
theorem wq_ {p:Sl} {l:L8} {w:World} {R:A_→A_→Bool→W_} (hp:Rd w 1 p (bv l))
  (h:∀U S v,ab_ w v→Own v w.heap.size cG_ 1 U (dO_ (a5_ l).us)→Own v w.heap.size ct_ 5 S ((a5_ l).ss.flatMap sgv)→R (lsv U S) (snv (a5_ l).sn).toArray (a5_ l).ok v):k4_ p w R:=by
 refine iQ_.calls _ _ _ ?_
 have hln:=b4_ hp
 have hcap:=hp.cap
 have hnb:=hp.nb
 refine ag_ fun ab w0 hab hb0 hg0 hsz0=>?_
 refine ag_ fun sb w1 hsb hb1 hg1 hsz1=>?_
 have ha1:=hg1.heap hb0 (fun q=>q)
 have hgw1:=hg0.trans hg1
 have s0:=hg0.size
 have fin:∀{v:World} {U S:Sl} {s:Sn} {b:Bool},ab_ w1 v→(∀v',ac_ (fun k=>k=ab∨k=sb) v v'→R (lsv U S) (snv s).toArray b v')→_:=fun {v U S s b} hv hR=>xM_ (U:=U) (S:=S) (s:=s) (K:=fun r r1=>R r r1 b) (hv.heap ha1 (fun q=>q)) (hv.heap hb1 (fun q=>q)) rfl rfl o_ hR
 have gk:∀{v v':World},ab_ w1 v→ac_ (fun k=>k=ab∨k=sb) v v'→ab_ w v':=fun hv k=>(hgw1.trans hv).keep k fun i hi q=>o_
 have no:∀{v:World} {s:Sn},a5_ l=noX s→ab_ w1 v→∀v',ac_ (fun k=>k=ab∨k=sb) v v'→R (lsv au_ au_) (snv s).toArray false v':=fun {v s} e hv v' k=>by
  have:=h au_ au_ v' (gk hv k)
  rw[e] at this
  exact this (aG_ _ _ _ _) (aG_ _ _ _ _)
 by_cases hl0:l = []
 ·refine al_ (by rw[beq_iff_eq,←hln,hl0];rfl) (fin (U:=au_) (S:=au_) (s:=sn0) (b:=true) (ac_.refl _ _) fun v' k=>?_)
  have:=h au_ au_ v' (gk (ac_.refl _ _) k)
  have e:a5_ l=⟨[],[],sn0,true⟩:=if_pos hl0
  rw[e] at this
  exact this (aG_ _ _ _ _) (aG_ _ _ _ _)
 have hlp:0<l.length:=by cases l with|nil=>exact absurd rfl hl0|cons=>simp
 refine ai_ (by rw[beq_eq_false_iff_ne];omega) ?_
 have hpx:a5_ l=match me_ l with
   | some s=>noX s
   | none=>match (List.range (nuX l/32)).findSome? (je_ l) with
    | some f=>noX (dv_ f)
    | none=>match (List.range (nsX l/28)).findSome? (hK_ l) with
     | some f=>noX (dv_ f)
     | none=>⟨dF_ l (nuX l/32),fY_ l (nsX l/28),sn0,true⟩:=if_neg hl0
 have head:∀{s:Sn},me_ l=some s→a5_ l=noX s:=fun e=>by rw[hpx,e]
 by_cases h16:l.length<16
 ·have e:me_ l=some (ci_ 0x1a00):=if_pos h16
  exact al_ (by rw[decide_eq_true_eq];omega) (ry_ (code:=6656) fun v hv=>fin (U:=au_) (S:=au_) (s:=ci_ 6656) (b:=false) hv (no (head e) hv))
 refine ai_ (by rw[decide_eq_false_iff_not];omega) ?_
 have hx:me_ l=if num (sub l 0 2)≠0 then some (dv_ 0) else if num (sub l 4 4)≠0 then some (dv_ 4) else if num (sub l 12 4)≠0 then some (dv_ 12)
   else if nuX l%32≠0 then some (dv_ 2) else if nsX l%28≠0 then some (dv_ 8) else if l.length≠16+nuX l+nsX l then some (ci_ 0x1a00)
   else if 256<nuX l∨224<nsX l then some (ci_ 0x2608) else none:=if_neg h16
 have hp1:=hp.grow hgw1
 refine cv_ (at_:=2) (n:=2) hp1 d_ d_ o_ ?_
 refine cv_ (at_:=8) (n:=4) hp1 d_ d_ o_ ?_
 obtain⟨a0,c0⟩:=bS_ hp1 (i:=0) o_
 obtain⟨a1,c1⟩:=bS_ hp1 (i:=1) o_
 refine⟨⟨d_,o_,a0⟩,_,c0,fun _=>⟨d_,o_,a1⟩,_,fun _=>c1,?_⟩
 have e02:num (sub l 0 2)=(l.getD 0 0).toNat*256+(l.getD 1 0).toNat:=by
  have e:sub l 0 2 = [l.getD 0 0,l.getD 1 0]:=by
   match l,h16 with
   | a::b::r,_=>rfl
   | [a],q=>exact absurd (show 1<16 by decide) q
   | [],q=>exact absurd (show 0<16 by decide) q
  rw[e,ro_]
 have fail:∀{f:Nat},me_ l=some (dv_ f)→∀v,ab_ w1 v→_:=fun {f} e v hv=>fin (U:=au_) (S:=au_) (s:=dv_ f) (b:=false) hv (no (head e) hv)
 have lu:=eL_ (l.drop 2) 2
 have ls_:=eL_ (l.drop 8) 4
 have hnu:num (sub l 2 2)=nuX l:=rfl
 have hns:num (sub l 8 4)=nsX l:=rfl
 have p2:(256:Nat) ^ 2=65536:=rfl
 have p4:(256:Nat) ^ 4=4294967296:=rfl
 rw[p2] at lu
 rw[p4] at ls_
 have lu:nuX l<65536:=lu
 have ls_:nsX l<4294967296:=ls_
 rw[hnu,hns]
 by_cases q0:num (sub l 0 2)=0
 case neg=>exact al_ (by rw[Bool.or_eq_true,bne_iff_ne,bne_iff_ne];omega) (jv_ (f:=0) (fail (by rw[hx,if_pos q0])))
 rw[if_neg (fun r=>r q0)] at hx
 refine ai_ (by rw[Bool.or_eq_false_iff,bne_eq_false_iff_eq,bne_eq_false_iff_eq];omega) ?_
 refine cv_ (at_:=4) (n:=4) hp1 d_ d_ o_ ?_
 by_cases q4:num (sub l 4 4)=0
 case neg=>exact al_ (by rw[bne_iff_ne];omega) (jv_ (f:=4) (fail (by rw[hx,if_pos q4])))
 rw[if_neg (fun r=>r q4)] at hx
 refine ai_ (by rw[bne_eq_false_iff_eq];omega) ?_
 refine cv_ (at_:=12) (n:=4) hp1 d_ d_ o_ ?_
 by_cases q12:num (sub l 12 4)=0
 case neg=>exact al_ (by rw[bne_iff_ne];omega) (jv_ (f:=12) (fail (by rw[hx,if_pos q12])))
 rw[if_neg (fun r=>r q12)] at hx
 refine ai_ (by rw[bne_eq_false_iff_eq];omega) ⟨d_,?_⟩
 have m32:((nuX l:Int).tmod 32)=((nuX l%32:Nat):Int):=rfl
 have m28:((nsX l:Int).tmod 28)=((nsX l%28:Nat):Int):=rfl
 rw[m32,m28]
 by_cases q32:nuX l%32=0
 case neg=>exact al_ (by rw[bne_iff_ne];omega) (jv_ (f:=2) (fail (by rw[hx,if_pos q32])))
 rw[if_neg (fun r=>r q32)] at hx
 refine ai_ (by rw[bne_eq_false_iff_eq];omega) ⟨d_,?_⟩
 by_cases q28:nsX l%28=0
 case neg=>exact al_ (by rw[bne_iff_ne];omega) (jv_ (f:=8) (fail (by rw[hx,if_pos q28])))
 rw[if_neg (fun r=>r q28)] at hx
 have e16:IntKind.wrap .i64 (16+(nuX l:Int))=((16+nuX l:Nat):Int):=by rw[w64 o_ o_];omega
 have eAll:IntKind.wrap .i64 (((16+nuX l:Nat):Int)+(nsX l:Int))=((16+nuX l+nsX l:Nat):Int):=by rw[w64 o_ o_];omega
 rw[e16,eAll]
 refine ai_ (by rw[bne_eq_false_iff_eq];omega) ?_
 by_cases qL:l.length=16+nuX l+nsX l
 case neg=>exact al_ (by rw[bne_iff_ne];omega) (ry_ (code:=6656) fun v hv=>fin (U:=au_) (S:=au_) (s:=ci_ 6656) (b:=false) hv (no (head (by rw[hx,if_pos qL])) hv))
 rw[if_neg (fun r=>r qL)] at hx
 refine ai_ (by rw[bne_eq_false_iff_eq];omega) ⟨d_,fun _=>d_,?_⟩
 have d32:IntKind.wrap .i64 ((nuX l:Int).tdiv 32)=((nuX l/32:Nat):Int):=by
  have:((nuX l:Int).tdiv 32)=((nuX l/32:Nat):Int):=rfl
  rw[this,w64 o_ o_]
 have d28:IntKind.wrap .i64 ((nsX l:Int).tdiv 28)=((nsX l/28:Nat):Int):=by
  have:((nsX l:Int).tdiv 28)=((nsX l/28:Nat):Int):=rfl
  rw[this,w64 o_ o_]
 rw[d32,d28]
 by_cases qM:256<nuX l∨224<nsX l
 ·exact al_ (by rw[Bool.or_eq_true,decide_eq_true_eq,decide_eq_true_eq];omega) (ry_ (code:=9736) fun v hv=>fin (U:=au_) (S:=au_) (s:=ci_ 9736) (b:=false) hv (no (head (by rw[hx,if_pos qM])) hv))
 rw[if_neg qM] at hx
 refine ai_ (by rw[Bool.or_eq_false_iff,decide_eq_false_iff_not,decide_eq_false_iff_not];omega) ?_
 have hpn:a5_ l=match (List.range (nuX l/32)).findSome? (je_ l) with
    | some f=>noX (dv_ f)
    | none=>match (List.range (nsX l/28)).findSome? (hK_ l) with
     | some f=>noX (dv_ f)
     | none=>⟨dF_ l (nuX l/32),fY_ l (nsX l/28),sn0,true⟩:=by rw[hpx,hx]
 refine ag_ fun lb w2 hlb hb2 hg2 hsz2=>?_
 have hb2:Blk w2 lb (lsv au_ au_) a0_:=hb2
 have hlen:l.length≤1000000:=o_
 have s1:=hg1.size
 have sizes:∀{y:World},ab_ w1 y→w.heap.size≤y.heap.size:=fun g=>(hgw1.trans g).size
 refine⟨fun at_ y=>∃(j:Nat) (U:Sl),at_=((16+32*j:Nat):Int)∧j≤nuX l/32∧(∀i,i<j→je_ l i=none)∧ab_ w1 y∧Blk y lb (lsv U au_) a0_∧Own y w2.heap.size cG_ 1 U (dO_ (dF_ l j)),fun at_ _=>16+nuX l-at_.toNat,
  ⟨0,au_,rfl,Nat.zero_le _,fun _ q=>absurd q (Nat.not_lt_zero _),hg2,hb2,aG_ _ _ _ _⟩,?_⟩
 rintro at_ y ⟨j,U,rfl,hj,hfj,hgy,hby,hoy⟩
 have hUn:U.n=j:=by have:=hoy.len;simp[dO_,wl_] at this;omega
 have hpy:=hp1.grow hgy
 have hlby:=aw_ hby
 refine ba_ (fun hlt=>?_) (fun hge=>?_)
 ·have hjn:j<nuX l/32:=o_
  have e32:IntKind.wrap .i64 (((16+32*j:Nat):Int)+32)=((16+32*j+32:Nat):Int):=by rw[w64 o_ o_];omega
  rw[e32]
  refine⟨⟨o_,o_,o_,hcap⟩,?_⟩
  simp only[Int.toNat_natCast]
  have hcut:=hpy.cutB (l:=16+32*j) (k:=16+32*j+32) o_ o_
  have e0:(16+32*j+32)-(16+32*j)=32:=o_
  rw[e0] at hcut ⊢
  have hcut:Rd y 1 ⟨aI_ p.A p.c (16+32*j) 1,32,p.c-(16+32*j)⟩ (bv (kd_ l j)):=hcut
  have hul:(kd_ l j).length=32:=rw_ o_
  refine xL_ hcut hul (fun f hf v hv=>?_) (fun hnone v hv=>?_)
  ·have eu:je_ l j=some (16+32*j+f):=by unfold je_;rw[hf];rfl
   have hfl:f<32:=by
    unfold ju_ at hf
    split at hf
    ·rename_i i hi
     have:=List.mem_of_find?_eq_some hi
     have:=List.mem_range.1 this
     obtain rfl:=Option.some.inj hf
     omega
    ·split at hf
     ·obtain rfl:=Option.some.inj hf;decide
     ·split at hf
      ·obtain rfl:=Option.some.inj hf;decide
      ·cases hf
   have ep:a5_ l=noX (dv_ (16+32*j+f)):=by rw[hpn,mf_ hjn hfj eu]
   have ew:IntKind.wrap .i64 (((16+32*j:Nat):Int)+(f:Int))=((16+32*j+f:Nat):Int):=by rw[w64 o_ o_];omega
   rw[ew]
   exact al_ (by rw[decide_eq_true_eq];omega) (jv_ fun v2 hv2=>fin (U:=au_) (S:=au_) (s:=dv_ (16+32*j+f)) (b:=false) ((hgy.trans hv).trans hv2) (no ep ((hgy.trans hv).trans hv2)))
  ·refine ai_ rfl ⟨U,by rw[ao_,Blk.cell (hv.heap hby (fun q=>q))];rfl,?_⟩
   refine aJ_ (cells:=#[.string (str (m0_ (kd_ l j)))]) (e:=cG_) (z:=1) (base:=0) (Aj_ v _) rfl d_ (Nat.zero_le _) fun v1 hlit1 hg1' _=>?_
   refine aN_ uf_ yh_ rfl d_ d_ ((hoy.grow hv).grow hg1') (hlit1.rd (by show 1≤_;decide)) (fun u hu=>by simp at hu;rw[hu];rfl) (by show(U.n+1)*16≤_;omega) (by have:=hg2.size;have:=(hv.trans hg1').size;have:=hoy.ge;omega) fun U1 v2 hn2 hown2 hk2 _=>?_
   have hg1v:=(hgy.trans hv).trans hg1'
   have hUb:∀b,U.blk=some b→b≠lb:=fun b hb q=>by have:=(hoy.ge b hb).1;omega
   have hg12:ab_ w1 v2:=cz_ hg1v ((hoy.grow hv).grow hg1') o_ hk2
   have hbl:Blk v2 lb (lsv U au_) a0_:=hk2.heap ((hv.trans hg1').heap hby (fun q=>q)) fun q=>hUb lb q.symm rfl
   rw[ao_]
   refine aU_ hbl (by show 0<2;decide) rfl fun v3 hb3 hk3 _=>?_
   have hb3:Blk v3 lb (lsv U1 au_) a0_:=hb3
   have hU1b:∀b,U1.blk=some b→b≠lb:=fun b hb q=>by have:=(hown2.ge b hb).1;omega
   refine⟨⟨j+1,U1,o_,o_,fun i hi=>?_,hg12.keep hk3 fun i hi q=>o_,hb3,?_⟩,o_⟩
   ·by_cases e:i=j
    ·rw[e];unfold je_;rw[hnone];rfl
    ·exact hfj i o_
   ·rw[uN_]
    have:dO_ (dF_ l j++[m0_ (kd_ l j)])=dO_ (dF_ l j)++[.string (str (m0_ (kd_ l j)))]:=by simp[dO_]
    rw[this]
    exact hown2.keep hk3 fun b hb q=>hU1b b hb q
 ·have hjn:j=nuX l/32:=o_
  have hnoU:(List.range (nuX l/32)).findSome? (je_ l)=none:=n3_ fun i hi=>hfj i o_
  have hpn2:a5_ l=match (List.range (nsX l/28)).findSome? (hK_ l) with
     | some f=>noX (dv_ f)
     | none=>⟨dF_ l (nuX l/32),fY_ l (nsX l/28),sn0,true⟩:=by rw[hpn,hnoU]
  rw[hjn] at hoy hUn
  refine⟨fun at_ z=>∃(k:Nat) (S:Sl),at_=((16+nuX l+28*k:Nat):Int)∧k≤nsX l/28∧(∀i,i<k→hK_ l i=none)∧ab_ w1 z∧Blk z lb (lsv U S) a0_∧Own z w2.heap.size cG_ 1 U (dO_ (dF_ l (nuX l/32)))∧Own z w2.heap.size ct_ 5 S ((fY_ l k).flatMap sgv),fun at_ _=>l.length-at_.toNat,
   ⟨0,au_,rfl,Nat.zero_le _,fun _ q=>absurd q (Nat.not_lt_zero _),hgy,hby,hoy,aG_ _ _ _ _⟩,?_⟩
  rintro at_ z ⟨k,S,rfl,hk,hfk,hgz,hbz,hoz,hSz⟩
  have hSn:S.n=k:=by have:=hSz.len;rw[se_,xJ_] at this;omega
  have hpz:=hp1.grow hgz
  have hlbz:=aw_ hbz
  have failS:∀{f:Nat} {v:World},k<nsX l/28→q0_ (nuX l/32) (cK_ l k)=some f→ab_ w1 v→bn_ 9728 ((16+nuX l+28*k+f:Nat):Int) v (fun g v=>af_ Tryz.prog (storeVar a0_ ⟨ab,0,none⟩ (.agg (lsv au_ au_))) v fun v1=>af_ Tryz.prog (storeVar ak_ ⟨sb,0,none⟩ (.agg g)) v1 fun v2=>
   ∃res:A_,(loadVar a0_ ⟨ab,0,none⟩).run Tryz.prog v2=.ok (.agg res) v2∧∃res1:A_,(loadVar ak_ ⟨sb,0,none⟩).run Tryz.prog v2=.ok (.agg res1) v2∧R res res1 false v2):=fun {f v} hkn hf hv=>by
   have eu:hK_ l k=some (16+nuX l+28*k+f):=by unfold hK_;rw[hf];rfl
   have ep:a5_ l=noX (dv_ (16+nuX l+28*k+f)):=by rw[hpn2,mf_ hkn hfk eu]
   exact jv_ fun v2 hv2=>fin (U:=au_) (S:=au_) (s:=dv_ (16+nuX l+28*k+f)) (b:=false) (hv.trans hv2) (no ep (hv.trans hv2))
  refine ba_ (fun hlt=>?_) (fun hge=>?_)
  ·have hkn:k<nsX l/28:=o_
   have e28:IntKind.wrap .i64 (((16+nuX l+28*k:Nat):Int)+28)=((16+nuX l+28*k+28:Nat):Int):=by rw[w64 o_ o_];omega
   rw[e28]
   refine⟨⟨o_,o_,o_,hcap⟩,?_⟩
   simp only[Int.toNat_natCast]
   have hcut:=hpz.cutB (l:=16+nuX l+28*k) (k:=16+nuX l+28*k+28) o_ o_
   have e0:(16+nuX l+28*k+28)-(16+nuX l+28*k)=28:=o_
   rw[e0] at hcut ⊢
   have hcut:Rd z 1 ⟨aI_ p.A p.c (16+nuX l+28*k) 1,28,p.c-(16+nuX l+28*k)⟩ (bv (cK_ l k)):=hcut
   have hql:(cK_ l k).length=28:=rw_ o_
   have failS':∀{f:Nat} {v:World},q0_ (nuX l/32) (cK_ l k)=some f→ab_ w1 v→bn_ 9728 ((16+nuX l+28*k+f:Nat):Int) v (fun g v=>af_ Tryz.prog (storeVar a0_ ⟨ab,0,none⟩ (.agg (lsv au_ au_))) v fun v1=>af_ Tryz.prog (storeVar ak_ ⟨sb,0,none⟩ (.agg g)) v1 fun v2=>
   ∃res:A_,(loadVar a0_ ⟨ab,0,none⟩).run Tryz.prog v2=.ok (.agg res) v2∧∃res1:A_,(loadVar ak_ ⟨sb,0,none⟩).run Tryz.prog v2=.ok (.agg res1) v2∧R res res1 false v2):=fun {f v} hf hv=>failS hkn hf hv
   have hsb:q0_ (nuX l/32) (cK_ l k)=if num (sub (cK_ l k) 0 4)≠0x02000018 then some 0 else if num (sub (cK_ l k) 8 2)≠0 then some 8 else if nuX l/32≤num (sub (cK_ l k) 4 2) then some 4 else if nuX l/32≤num (sub (cK_ l k) 6 2) then some 6
    else if 256<num (sub (cK_ l k) 10 2) then some 10 else none:=rfl
   have hso:md_ (cK_ l k)=⟨(num (sub (cK_ l k) 4 2):Int),(num (sub (cK_ l k) 6 2):Int),(num (sub (cK_ l k) 10 2):Int),num (sub (cK_ l k) 12 8),num (sub (cK_ l k) 20 8)⟩:=rfl
   generalize hqe:cK_ l k=q at *
   refine cv_ (at_:=4) (n:=2) hcut d_ d_ o_ ?_
   refine cv_ (at_:=6) (n:=2) hcut d_ d_ o_ ?_
   refine cv_ (at_:=10) (n:=2) hcut d_ d_ o_ ?_
   refine ag_ fun xb z1 hxb hbx1 hgz1 hszz1=>?_
   refine ap_ (cells:=(sgv ⟨(num (sub q 4 2):Int),(num (sub q 6 2):Int),(num (sub q 10 2):Int),0,0⟩).toArray) hbx1 jy_ rfl rfl (by simp[sgv,Value.oneCell']) fun z2 hbx2 hkz2 _=>?_
   have hg2':ab_ z z2:=hgz1.keep hkz2 fun i hi e=>o_
   refine bX_ (at_:=12) (n:=8) (hcut.grow hg2') (by show 28≤_;omega) d_ d_ o_ ?_
   rw[ao_]
   refine aU_ hbx2 (by simp[sgv]) rfl fun z3 hbx3 hkz3 _=>?_
   have hg3':ab_ z z3:=hg2'.keep hkz3 fun i hi e=>o_
   refine bX_ (at_:=20) (n:=8) (hcut.grow hg3') (by show 28≤_;omega) d_ d_ o_ ?_
   rw[ao_]
   refine aU_ hbx3 (by simp[sgv]) rfl fun z4 hbx4 hkz4 _=>?_
   have hg4':ab_ z z4:=hg3'.keep hkz4 fun i hi e=>o_
   have hbx4:Blk z4 xb (sgv (md_ q)).toArray ct_:=by rw[hso];exact hbx4
   have hgw4:=hgz.trans hg4'
   have hbl4:=hg4'.heap hbz (fun e=>e)
   refine cv_ (at_:=0) (n:=4) (hcut.grow hg4') d_ d_ o_ ?_
   by_cases r0:num (sub q 0 4)=33554456
   case neg=>exact al_ (by rw[bne_iff_ne];omega) (failS' (f:=0) (by rw[hsb,if_pos r0]) hgw4)
   rw[if_neg (fun e=>e r0)] at hsb
   refine ai_ (by rw[bne_eq_false_iff_eq];omega) ?_
   refine cv_ (at_:=8) (n:=2) (hcut.grow hg4') d_ d_ o_ ?_
   have ewr:∀f:Nat,f<28→IntKind.wrap .i64 (((16+nuX l+28*k:Nat):Int)+(f:Int))=((16+nuX l+28*k+f:Nat):Int):=fun f hf=>by rw[w64 o_ o_];omega
   by_cases r8:num (sub q 8 2)=0
   case neg=>
    refine al_ (by rw[bne_iff_ne];omega) ?_
    have:=failS' (f:=8) (by rw[hsb,if_pos r8]) hgw4
    rw[←ewr 8 d_] at this
    exact this
   rw[if_neg (fun e=>e r8)] at hsb
   refine ai_ (by rw[bne_eq_false_iff_eq];omega) ⟨(num (sub q 4 2):Int),by rw[ao_,Blk.cell hbx4];rfl,U,by rw[ao_,Blk.cell hbl4];rfl,?_⟩
   rw[hUn]
   by_cases r4:nuX l/32≤num (sub q 4 2)
   ·refine al_ (by rw[decide_eq_true_eq];omega) ?_
    have:=failS' (f:=4) (by rw[hsb,if_pos r4]) hgw4
    rw[←ewr 4 d_] at this
    exact this
   rw[if_neg r4] at hsb
   refine ai_ (by rw[decide_eq_false_iff_not];omega) ⟨(num (sub q 6 2):Int),by rw[ao_,Blk.cell hbx4];rfl,U,by rw[ao_,Blk.cell hbl4];rfl,?_⟩
   rw[hUn]
   by_cases r6:nuX l/32≤num (sub q 6 2)
   ·refine al_ (by rw[decide_eq_true_eq];omega) ?_
    have:=failS' (f:=6) (by rw[hsb,if_pos r6]) hgw4
    rw[←ewr 6 d_] at this
    exact this
   rw[if_neg r6] at hsb
   refine ai_ (by rw[decide_eq_false_iff_not];omega) ⟨(num (sub q 10 2):Int),by rw[ao_,Blk.cell hbx4];rfl,?_⟩
   by_cases r10:256<num (sub q 10 2)
   ·refine al_ (by rw[decide_eq_true_eq];omega) ?_
    have:=failS' (f:=10) (by rw[hsb,if_pos r10]) hgw4
    rw[←ewr 10 d_] at this
    exact this
   rw[if_neg r10] at hsb
   refine ai_ (by rw[decide_eq_false_iff_not];omega) ⟨S,by rw[ao_,Blk.cell hbl4];rfl,_,vl_ (ar_ hbx4),?_⟩
   refine aJ_ (cells:=(sgv (md_ q)).toArray) (e:=ct_) (z:=5) (base:=0) (Ak_ z4 _) rfl d_ (Nat.zero_le _) fun z5 hlit5 hg5' _=>?_
   have hz5:=hg4'.trans hg5'
   refine aN_ rk_ jy_ rfl d_ d_ (hSz.grow hz5) (hlit5.rd (by show 1≤_;decide)) (fun v hv=>y6_ [md_ q] v (by simpa using hv)) (by show(S.n+1)*40≤_;omega) (by have:=hz5.size;omega) fun S1 z6 hn6 hown6 hk6 _=>?_
   have hUz:=hoz.grow hz5
   have hSz5:=hSz.grow hz5
   have apart:∀b,U.blk=some b→some b≠S.blk:=fun b hb e=>by
    obtain⟨c1,h1⟩:=aS_ hUz hb
    obtain⟨c2,h2⟩:=aS_ hSz5 e.symm
    rw[h1] at h2
    injection h2 with h2
    injection h2 with _ ht
    exact absurd ht d_
   have hSb:∀b,S.blk=some b→b≠lb:=fun b hb e=>by have:=(hSz.ge b hb).1;omega
   have hUb2:∀b,U.blk=some b→b≠lb:=fun b hb e=>by have:=(hoz.ge b hb).1;omega
   have hS1b:∀b,S1.blk=some b→b≠lb:=fun b hb e=>by have:=(hown6.ge b hb).1;omega
   have hU6:=hUz.keep hk6 apart
   have hbl6:Blk z6 lb (lsv U S) a0_:=hk6.heap (hz5.heap hbz (fun e=>e)) fun e=>hSb lb e.symm rfl
   have hg6:ab_ w1 z6:=cz_ (hgz.trans hz5) hSz5 o_ hk6
   rw[ao_]
   refine aU_ hbl6 (by show 1<2;decide) rfl fun z7 hb7 hk7 _=>?_
   have hb7:Blk z7 lb (lsv U S1) a0_:=hb7
   refine⟨⟨k+1,S1,o_,o_,fun i hi=>?_,hg6.keep hk7 fun i hi e=>o_,hb7,hU6.keep hk7 fun b hb e=>hUb2 b hb e,?_⟩,o_⟩
   ·by_cases e:i=k
    ·rw[e];unfold hK_;rw[hqe,hsb];rfl
    ·exact hfk i o_
   ·rw[wk_,List.flatMap_append]
    have e5:[md_ (cK_ l k)].flatMap sgv=sgv (md_ q):=by rw[hqe];simp
    rw[e5]
    exact hown6.keep hk7 fun b hb e=>hS1b b hb e
  ·have hkn:k=nsX l/28:=o_
   have hnoS:(List.range (nsX l/28)).findSome? (hK_ l)=none:=n3_ fun i hi=>hfk i o_
   have ep:a5_ l=⟨dF_ l (nuX l/32),fY_ l (nsX l/28),sn0,true⟩:=by rw[hpn2,hnoS]
   rw[hkn] at hSz
   refine⟨_,wp_ hbz,fin (U:=U) (S:=S) (s:=sn0) (b:=true) hgz fun v' hk'=>?_⟩
   have:=h U S v' (gk hgz hk')
   rw[ep] at this
   refine this ((hoz.keep hk' fun b hb e=>?_).mono o_) ((hSz.keep hk' fun b hb e=>?_).mono o_)
   ·have:=(hoz.ge b hb).1;omega
   ·have:=(hSz.ge b hb).1;omega
open Go CF
def uOk (s:L8):Prop:=s.length≤20∧s.getLast?≠some 32
def sOk (nu:Nat) (x:eP_):Prop:=0≤x.from_∧x.from_<nu∧0≤x.to_∧x.to_<nu∧0≤x.blocks∧x.blocks≤256
instance (s:L8):Decidable (uOk s):=by unfold uOk;infer_instance
instance (nu:Nat) (x:eP_):Decidable (sOk nu x):=by unfold sOk;infer_instance
open Go CF
theorem sf_ (us:List L8):(dO_ us).length=us.length:=by simp[dO_]
theorem Al_ {us:List L8} {w:World} {U:Sl} (h:Rd w 1 U (dO_ us)) {i:Nat} (hi:i<us.length):U.A.isSome=true∧w.cell? ((gA U.A).add (i*1))=some (.string (str us[i])):=by
 have:=ka_ h (i:=i) (by rw[sf_];exact hi)
 simpa [dO_] using this
theorem A3_ {us:List L8} {w:World} {U:Sl} (h:Rd w 1 U (dO_ us)):us.length=U.n:=by have:=h.len;rw[sf_] at this;omega
open Go CF
open Go CF
open Go CF
open Go CF
open Go CF
open Go CF
open Go CF
section
variable {w u v:World} {dv ps pw:Nat} {file:ByteArray} {kind n:Nat} {cache:Bool} {D D':Nat→Prop} {st st':Wst} {bs bs':List Bk} {m m':Nat}
end
def nmv (x:ByteArray×Nat×Nat):List Value:=[.string x.1,.pointer (some ⟨x.2.1,0,none⟩),.int .u8 (x.2.2:Int)]
theorem rz_ (x:ByteArray×Nat×Nat):(nmv x).length=3:=rfl
theorem wr_ {α β:Type} {f g:α→List β} {l:List α} (h:∀a∈l,f a=g a):l.flatMap f=l.flatMap g:=by
 unfold List.flatMap;rw[List.map_congr_left h]
open Go CF
def lv_ (L:List (ByteArray×Nat×Nat)) (us:List L8) (i:Int) (k:Nat):Prop:=∃(hk:k<L.length) (_:0≤i) (hi:i.toNat<us.length),L[k].1=str us[i.toNat]
theorem uO_ {i:Int} {fv fv1:Addr} {devs U:Sl} {L:List (ByteArray×Nat×Nat)} {us:List L8} {w:World} {R:O_→W_} (hfv:w.cell? fv=some (.slice devs.A devs.n devs.c)) (hfv1:w.cell? (fv1.add 0)=some (.slice U.A U.n U.c)) (hd:Rd w 3 devs (L.flatMap nmv)) (hU:Rd w 1 U (dO_ us))
  (h1:∀k,lv_ L us i k→(∀j,j<k→¬lv_ L us i j)→∀v,ab_ w v→R (some ((gA devs.A).add (k*3))) v) (h2:(∀k,¬lv_ L us i k)→∀v,ab_ w v→R none v):gS_ i fv fv1 w R:=by
 refine iT_.calls _ _ _ _ _ ?_
 have hdn:=zu_ rz_ d_ hd
 have hUn:=A3_ hU
 have hnb:=hd.nb
 refine⟨devs,hfv,?_⟩
 refine⟨fun x u=>∃k:Nat,x=k∧k≤L.length∧ab_ w u∧∀j,j<k→¬lv_ L us i j,fun x _=>L.length-x.toNat,⟨0,rfl,Nat.zero_le _,ac_.refl _ _,fun _ q=>absurd q (Nat.not_lt_zero _)⟩,?_⟩
 rintro x u ⟨k,rfl,hk,hgu,hno⟩
 refine ba_ (fun hlt=>?_) (fun hge=>h2 (fun j q=>hno j (by have:=q.choose;omega) q) u hgu)
 rintro u1 rfl
 have hg1:ab_ w u.drew:=hgu.trans (am_ u)
 have c1:∀{v:World},v=u.drew→v.cell? fv=some (.slice devs.A devs.n devs.c):=fun e=>by rw[e];exact hg1.cell hfv (fun q=>q)
 have c2:∀{v:World},v=u.drew→v.cell? (fv1.add 0)=some (.slice U.A U.n U.c):=fun e=>by rw[e];exact hg1.cell hfv1 (fun q=>q)
 obtain⟨a1,ct1⟩:=qB_ rz_ d_ (hd.grow hg1) (i:=k) o_
 by_cases hi:0≤i∧i.toNat<us.length
 ·obtain⟨a2,ct2⟩:=Al_ (hU.grow hg1) hi.2
  refine⟨fun v=>v=u.drew,rfl,U,fun v hv=>c2 hv,devs,fun _ v hv=>c1 hv,fun _=>⟨o_,o_,a1⟩,(L[k]' o_).1,fun _ v hv=>by rw[Int.toNat_natCast,hv];exact ct1 0 _ rfl,U,fun _ v hv=>c2 hv,fun _=>⟨hi.1,o_,a2⟩,str us[i.toNat],fun _ v hv=>by rw[hv];exact ct2,?_⟩
  have hc:(decide (i<(U.n:Int))&&decide (i≥0))=true:=by rw[Bool.and_eq_true,decide_eq_true_eq,decide_eq_true_eq];omega
  rw[hc]
  by_cases q:(L[k]' o_).1=str us[i.toNat]
  ·refine al_ (by rw[Bool.true_and,oV_];exact q) ⟨devs,c1 rfl,⟨o_,o_,a1⟩,?_⟩
   rw[Int.toNat_natCast]
   exact h1 k ⟨o_,hi.1,hi.2,q⟩ hno _ hg1
  ·refine ai_ (by rw[Bool.true_and,Bool.eq_false_iff];intro e;exact q (oV_.1 e)) ?_
   rw[w64 o_ o_]
   refine⟨⟨k+1,o_,o_,hg1,fun j hj=>?_⟩,by dsimp only;omega⟩
   by_cases e:j=k
   ·subst e;rintro⟨_,_,_,e⟩;exact q e
   ·exact hno j o_
 ·have hc:(decide (i<(U.n:Int))&&decide (i≥0))=false:=by rw[Bool.and_eq_false_iff,decide_eq_false_iff_not,decide_eq_false_iff_not];omega
  refine⟨fun v=>v=u.drew,rfl,U,fun v hv=>c2 hv,au_,fun q=>(by rw[hc] at q;cases q),fun q=>(by rw[hc] at q;cases q),⟨#[]⟩,fun q=>(by rw[hc] at q;cases q),au_,fun q=>(by rw[hc] at q;cases q),fun q=>(by rw[hc] at q;cases q),⟨#[]⟩,fun q=>(by rw[hc] at q;cases q),ai_ (by rw[hc];rfl) ?_⟩
  rw[w64 o_ o_]
  refine⟨⟨k+1,o_,o_,hg1,fun j hj=>?_⟩,by dsimp only;omega⟩
  by_cases e:j=k
  ·subst e;rintro⟨_,e1,e2,_⟩;exact hi ⟨e1,e2⟩
  ·exact hno j o_
def y7_ (v v':World) (rb:Nat):Prop:=ab_ v v'∨∃cs,Blk v rb cs aa_∧ac_ (fun k=>k=rb) v v'
theorem y7_.own {v v':World} {rb base z:Nat} {e:TypeId} {s:Sl} {vs:List Value} (h:y7_ v v' rb) (ho:Own v base e z s vs) (ht:aa_≠e):Own v' base e z s vs:=by
 rcases h with g|⟨_,hb,k⟩
 ·exact ho.grow g
 ·refine ho.keep k fun b hb2 q=>?_
  obtain⟨cur,hc⟩:=aS_ ho hb2
  subst q
  exact ht (bj_ hb hc)
theorem Am_ {w:World} {S:W_} {p2:O_} {cmd:A_} {arg:Sl} {K:Addr→W_} (D:Nat→Prop) (hD:∀k,D k→k<w.heap.size) (Post:World→Nat→Sn→Sl→W_)
  (hdo:∀u,ab_ w u→∀Q:A_→W_,(∀s sn d v,Post u s sn d v→Q (rsv s sn d).toArray v)→ca_ p2 cmd arg u Q) (hpost:∀u s sn d v,ab_ w u→Post u s sn d v→ac_ D u v) (hS:∀v,ac_ D w v→S v)
  (hK:∀u s sn d v rb v',ab_ w u→Post u s sn d v→y7_ v v' rb→Blk v' rb (rsv s sn d).toArray aa_→w.heap.size≤rb→ac_ D w v'→(rb<u.heap.size∨v.heap.size≤rb)→K ⟨rb,0,none⟩ v') :
  (ca_ p2 cmd arg w fun g w1=>New (.cells z10 aa_) w1 fun r w2=>S w2∧af_ Tryz.prog (storeVar aa_ r (.agg g)) w2 fun w3=>K r w3)∧
  (New (.cells z10 aa_) w fun r w1=>S w1∧ca_ p2 cmd arg w1 fun g w2=>af_ Tryz.prog (storeVar aa_ r (.agg g)) w2 fun w3=>K r w3):=by
 constructor
 ·refine hdo w (ac_.refl _ _) _ fun s sn d v hp=>?_
  have hkv:=hpost w s sn d v (ac_.refl _ _) hp
  refine ag_ fun rb w2 hrb hb2 hg2 hsz2=>⟨hS w2 (hkv.grow hg2),?_⟩
  refine bF_ hb2 rfl fun w3 hb3 hk3 hsz3=>?_
  have hg3:ab_ v w3:=hg2.keep hk3 fun i hi q=>o_
  have:=hkv.size
  exact hK w s sn d v rb w3 (ac_.refl _ _) hp (.inl hg3) hb3 o_ (hkv.grow hg3) (.inr o_)
 ·refine ag_ fun rb w1 hrb hb1 hg1 hsz1=>⟨hS w1 (hg1.mono fun _ _ q=>q.elim),?_⟩
  refine hdo w1 hg1 _ fun s sn d v hp=>?_
  have hkv:=hpost w1 s sn d v hg1 hp
  have nrb:¬D rb:=fun q=>by have:=hD rb q;omega
  have hbv:=hkv.heap hb1 nrb
  have hkw:ac_ D w v:=(hg1.mono fun _ _ q=>q.elim).trans hkv fun _ _ q=>q
  refine bF_ hbv rfl fun w3 hb3 hk3 hsz3=>?_
  exact hK w1 s sn d v rb w3 hg1 hp (.inr ⟨_,hbv,hk3⟩) hb3 o_ (bI_ hkw o_ hk3) (.inl o_)
theorem An_ {v:World} {s:Nat} {sn:Sn} {d:Sl} {K:Addr→W_} (h:∀rb v',rb=v.heap.size→ab_ v v'→Blk v' rb (rsv s sn d).toArray aa_→K ⟨rb,0,none⟩ v') :
  New (.cells z10 aa_) v fun a v1=>af_ Tryz.prog (storeVar aa_ a (.agg (rsv s sn d).toArray)) v1 fun x=>K a x:=by
 refine ag_ fun rb v1 hrb hb1 hg1 hsz1=>bF_ hb1 rfl fun v2 hb2 hk2 hsz2=>?_
 exact h rb v2 hrb (hg1.keep hk2 fun i hi q=>o_) hb2
open Go CF
theorem ws_ (w:World) (n:Nat):(Instr.build aa_ #[(0,.int .u8 2),(1,.agg #[.int .u8 10,.int .u16 3330,.int .u64 (n:Int),.bool true,.int .i64 0,.int .i64 0,.bool false,.bool false])]).run Tryz.prog w=.ok (.agg (rsv 2 (atS 10 3330 n) au_).toArray) w:=k_
def rdC (lba blocks:Nat):Cm:=⟨7,false,lba,blocks,0,false,0,false,false,0,0,false,0,0,false⟩
def wrC (lba blocks:Nat):Cm:=⟨8,false,lba,blocks,0,false,0,false,false,0,0,false,0,0,false⟩
open Go CF
structure Dq where
 serial:ByteArray
 dv:Nat
 ps:Nat
 file:ByteArray
 kind:Nat
 n:Nat
 cache:Bool
 shut:Nat
def eD_ (L:List Dq) (us:List L8) (i:Int):Option Dq:=if 0≤i then(us[i.toNat]?).bind fun s=>L.find? fun d=>decide (d.serial=str s) else none
def eQ_ (F:Int→Bool) (L:List Dq) (us:List L8) (st:Wst) (x:eP_):Option Nat×Wst:=
 match eD_ L us x.from_,eD_ L us x.to_ with
 | some a,some b=>if a.shut%2=1∨b.shut/2%2=1 then(some 3330,st)
  else if (doX F a.kind a.n a.cache a.file st (rdC x.src x.blocks.toNat) []).1.st≠0 then(some (doX F a.kind a.n a.cache a.file st (rdC x.src x.blocks.toNat) []).1.sn.code,(doX F a.kind a.n a.cache a.file st (rdC x.src x.blocks.toNat) []).2)
  else if (doX F b.kind b.n b.cache b.file (doX F a.kind a.n a.cache a.file st (rdC x.src x.blocks.toNat) []).2 (wrC x.dst ((doX F a.kind a.n a.cache a.file st (rdC x.src x.blocks.toNat) []).1.d.length/16)) (doX F a.kind a.n a.cache a.file st (rdC x.src x.blocks.toNat) []).1.d).1.st≠0
   then(some (doX F b.kind b.n b.cache b.file (doX F a.kind a.n a.cache a.file st (rdC x.src x.blocks.toNat) []).2 (wrC x.dst ((doX F a.kind a.n a.cache a.file st (rdC x.src x.blocks.toNat) []).1.d.length/16)) (doX F a.kind a.n a.cache a.file st (rdC x.src x.blocks.toNat) []).1.d).1.sn.code,(doX F b.kind b.n b.cache b.file (doX F a.kind a.n a.cache a.file st (rdC x.src x.blocks.toNat) []).2 (wrC x.dst ((doX F a.kind a.n a.cache a.file st (rdC x.src x.blocks.toNat) []).1.d.length/16)) (doX F a.kind a.n a.cache a.file st (rdC x.src x.blocks.toNat) []).1.d).2)
  else(none,(doX F b.kind b.n b.cache b.file (doX F a.kind a.n a.cache a.file st (rdC x.src x.blocks.toNat) []).2 (wrC x.dst ((doX F a.kind a.n a.cache a.file st (rdC x.src x.blocks.toNat) []).1.d.length/16)) (doX F a.kind a.n a.cache a.file st (rdC x.src x.blocks.toNat) []).1.d).2)
 | _,_=>(some 3330,st)
def cL_ (F:Int→Bool) (L:List Dq) (us:List L8):Nat→List eP_→Wst→Nat×RsX×Wst
 | n,[],st=>(n,okX [],st)
 | n,x::r,st=>match eQ_ F L us st x with
  | (some code,st')=>(n,snX (atS 10 code n),st')
  | (none,st')=>cL_ F L us (n+1) r st'
def Dq.bare (d:Dq):Dq:={d with dv:=0,ps:=0}
theorem q1_ (L:List Dq) (us:List L8) (i:Int):eD_ (L.map Dq.bare) us i=(eD_ L us i).map Dq.bare:=by
 unfold eD_
 split
 ·cases us[i.toNat]? with
  | none=>rfl
  | some s=>
   simp only[Option.bind_some]
   rw[List.find?_map]
   rfl
 ·rfl
theorem xN_ (F:Int→Bool) (L:List Dq) (us:List L8) (st:Wst) (x:eP_):eQ_ F (L.map Dq.bare) us st x=eQ_ F L us st x:=by
 unfold eQ_
 rw[q1_,q1_]
 cases eD_ L us x.from_<;>cases eD_ L us x.to_<;>rfl
theorem q2_ (F:Int→Bool) (L:List Dq) (us:List L8):∀(ss:List eP_) (n:Nat) (st:Wst),cL_ F (L.map Dq.bare) us n ss st=cL_ F L us n ss st
 | [],_,_=>rfl
 | x::r,n,st=>by
  unfold cL_
  rw[xN_]
  cases eQ_ F L us st x with
  | mk o st'=>cases o with
   | some c=>rfl
   | none=>exact q2_ F L us r (n+1) st'
theorem sg_ {L:List Dq} {us:List L8} {i:Int} {d:Dq} (h:eD_ L us i=some d):d∈L:=by
 unfold eD_ at h
 split at h
 ·cases hu:us[i.toNat]? with
  | none=>rw[hu] at h;cases h
  | some s=>rw[hu] at h;exact List.mem_of_find?_eq_some h
 ·cases h
theorem xO_ {F:Int→Bool} {L:List Dq} {us:List L8} {st:Wst} {x:eP_} {f:ByteArray} (h:∀d∈L,f≠d.file):(eQ_ F L us st x).2.seen f=st.seen f:=by
 unfold eQ_
 cases e1:eD_ L us x.from_ with
 | none=>rfl
 | some a=>
  cases e2:eD_ L us x.to_ with
  | none=>rfl
  | some b=>
   have ha:=h a (sg_ e1)
   have hb:=h b (sg_ e2)
   dsimp only
   split
   ·rfl
   split
   ·exact io_ ha
   split
   ·exact(io_ hb).trans (io_ ha)
   ·exact(io_ hb).trans (io_ ha)
theorem q3_ {F:Int→Bool} {L:List Dq} {us:List L8} {f:ByteArray} (h:∀d∈L,f≠d.file):∀(ss:List eP_) (n:Nat) (st:Wst),(cL_ F L us n ss st).2.2.seen f=st.seen f
 | [],_,_=>rfl
 | x::r,n,st=>by
  have hs:=xO_ (F:=F) (us:=us) (st:=st) (x:=x) h
  unfold cL_
  cases hq:eQ_ F L us st x with
  | mk o st'=>
   rw[hq] at hs
   cases o with
   | some c=>exact hs
   | none=>exact(q3_ h r (n+1) st').trans hs
section
variable {w u v:World} {pw m:Nat} {D D':Nat→Prop} {st st':Wst} {F:Int→Bool} {L:List Dq}
structure Dvs (u:World) (pw:Nat) (D:Nat→Prop) (st:Wst) (m:Nat) (F:Int→Bool) (L:List Dq):Prop where
 isW:aZ_ u pw D st F
 ok:Wok st
 few:st.ops≤m∧st.waits.length≤m
 all:∀d∈L,Dvq u d.dv d.ps pw d.file d.kind d.n d.cache D st (dd_ st d.file 0 d.n) m F
theorem Dvs.grow (h:Dvs u pw D st m F L) (g:ab_ u v):Dvs v pw D st m F L:=⟨h.isW.grow g,h.ok,h.few,fun d hd=>(h.all d hd).grow g⟩
theorem Dvs.mono {m':Nat} (h:Dvs u pw D st m F L) (hm:m≤m'):Dvs u pw D st m' F L:=⟨h.isW,h.ok,by have:=h.few;omega,fun d hd=>(h.all d hd).mono hm⟩
theorem Dvs.put {ab:Nat} {cs:A_} {t:TypeId} (h:Dvs u pw D st m F L) (hb:Blk u ab cs t) (h1:t≠ae_) (h2:t≠bV_) (h3:t≠ki_) (hn:¬D ab) (hk:ac_ (fun k=>k=ab) u v):Dvs v pw D st m F L:=
 ⟨nG_ h.isW hb h1 hn hk,h.ok,h.few,fun d hd=>(h.all d hd).put hb h1 h2 h3 hn hk⟩
theorem Dvs.dos {d:Dq} {c:Cm} {p:Sl} {l:L8} {R:A_→W_} (hN:pZ_ c.kind) (h:Dvs u pw D st m F L) (hd:d∈L) (hm:m≤400000000) (hp:Rd u 1 p (bv l)) (hb:p.n≤140737488351232) (hpk:∀v,ac_ D u v→Rd v 1 p (bv l)) (hlb:c.lba<18446744073709551616) (hbl:c.blocks<18446744073709551616)
  (hR:∀v D' x,ac_ D u v→(∀k,D' k→D k∨u.heap.size≤k)→Dvs v pw D' (doX F d.kind d.n d.cache d.file st c l).2 (m+9000) F L→Own v u.heap.size ae_ 1 x (bv (doX F d.kind d.n d.cache d.file st c l).1.d)→R (rsv (doX F d.kind d.n d.cache d.file st c l).1.st (doX F d.kind d.n d.cache d.file st c l).1.sn x).toArray v) :
  ca_ (some ⟨d.dv,0,none⟩) (cmv c).toArray p u R:=by
 refine rU_ hN (h.all d hd) hm hp hb hpk hlb hbl fun v D' bs' x hk hv hD ho=>hR v D' x hk hD ⟨hv.isW,hv.ok,hv.few,fun e he=>?_⟩ ho
 have he':=h.all e he
 have good:Good (ch_ (doX F d.kind d.n d.cache d.file st c l).2 e.file):=by
  by_cases q:e.file=d.file
  ·rw[q];exact hv.tells.1
  ·rw[ma_ (io_ q)];exact he'.tells.1
 exact he'.step hk hv.isW hD hv.ok (p5_ good) (p6_ _ _ _ _) hv.few
end
open Go CF
theorem y8_ {F:Int→Bool} {kind n:Nat} {cache:Bool} {file:ByteArray} {st:Wst} {lba b:Nat} (hn:n≤4096) :
  (doX F kind n cache file st (rdC lba b) []).1.d.length%16=0∧(doX F kind n cache file st (rdC lba b) []).1.d.length≤65536:=by
 unfold doX
 split
 ·exact⟨rfl,Nat.zero_le _⟩
 split
 ·exact⟨rfl,Nat.zero_le _⟩
 rename_i _ h2
 rw[if_pos (show(rdC lba b).kind=7 from rfl)]
 have h2:lba+b≤n:=by
  have:¬(7≠13∧7≠6∧n<lba+b):=h2
  omega
 cases hr:h8_ F kind (rdC lba b).prot (rdC lba b).lba (rdC lba b).blocks st.ops (((dd_ st file 0 n).drop (rdC lba b).lba).take (rdC lba b).blocks) with
 | mk x k=>
  cases x with
  | error s=>exact⟨rfl,Nat.zero_le _⟩
  | ok L=>
   have hL:L.length≤b:=by
    have:L=((dd_ st file 0 n).drop lba).take b:=by
     unfold h8_ at hr
     split at hr
     ·cases hr
     ·split at hr
      ·cases hr
      ·injection hr with hr _
       injection hr with hr
       exact hr.symm
    rw[this,List.length_take];omega
   have e:(b3_ (decide ((rdC lba b).prot≠0)) L).length=L.length*16:=by
    have:decide ((rdC lba b).prot≠0)=false:=rfl
    rw[this,iz_];rfl
   show(b3_ (decide ((rdC lba b).prot≠0)) L).length%16=0∧(b3_ (decide ((rdC lba b).prot≠0)) L).length≤65536
   rw[e];omega
structure wt_ (x:eP_):Prop where
 src:x.src<18446744073709551616
 dst:x.dst<18446744073709551616
 blocks:x.blocks<9223372036854775808
theorem By_ {n:Nat} (h:n<4):((bm_ .u8 (n:Int) 1) != 0)=decide (n%2=1):=by
 have:∀k:Fin 4,((bm_ .u8 ((k.val:Nat):Int) 1) != 0)=decide (k.val%2=1):=by decide +kernel
 exact this ⟨n,h⟩
theorem Bz_ {n:Nat} (h:n<4):((bm_ .u8 (n:Int) 2) != 0)=decide (n/2%2=1):=by
 have:∀k:Fin 4,((bm_ .u8 ((k.val:Nat):Int) 2) != 0)=decide (k.val/2%2=1):=by decide +kernel
 exact this ⟨n,h⟩
theorem y9_ {w:World} {pw:Nat} {D:Nat→Prop} {st:Wst} {F:Int→Bool} {base:Nat} {x:Sl} {l:L8} (h:aZ_ w pw D st F) (ho:Own w base ae_ 1 x (bv l)):∀b,x.blk=some b→¬D b:=fun b hb q=>by
 obtain⟨cur,hc⟩:=aS_ ho hb
 obtain⟨pl,_,mb,md,ws,cs,hd⟩:=h
 exact hd.nb b cur hc q
theorem Ao_ {L:List Dq} {us:List L8} {i:Int} {k:Nat} (h:lv_ (L.map fun d=>(d.serial,d.dv,d.shut)) us i k) (hno:∀j,j<k→¬lv_ (L.map fun d=>(d.serial,d.dv,d.shut)) us i j):∃hk:k<L.length,eD_ L us i=some L[k]:=by
 obtain⟨hk,h0,hi,e⟩:=h
 rw[List.length_map] at hk
 rw[List.getElem_map] at e
 refine⟨hk,?_⟩
 unfold eD_
 rw[if_pos h0,List.getElem?_eq_getElem hi,Option.bind_some,List.find?_eq_some_iff_getElem]
 refine⟨decide_eq_true e,k,hk,rfl,fun j hj=>?_⟩
 rw[Bool.not_eq_true',decide_eq_false_iff_not]
 intro q
 exact hno j hj ⟨by rw[List.length_map];omega,h0,hi,by rw[List.getElem_map];exact q⟩
theorem Ap_ {L:List Dq} {us:List L8} {i:Int} (hno:∀j,¬lv_ (L.map fun d=>(d.serial,d.dv,d.shut)) us i j):eD_ L us i=none:=by
 unfold eD_
 by_cases h0:0≤i
 ·rw[if_pos h0]
  cases hu:us[i.toNat]? with
  | none=>rfl
  | some s=>
   obtain⟨hi,hs⟩:=List.getElem?_eq_some_iff.1 hu
   rw[Option.bind_some,List.find?_eq_none]
   intro d hd q
   obtain⟨j,hj,rfl⟩:=List.getElem_of_mem hd
   exact hno j ⟨by rw[List.length_map];exact hj,h0,hi,by rw[List.getElem_map,hs];exact of_decide_eq_true q⟩
 ·rw[if_neg h0]
def Bn_ (L:List Dq) (us:List L8) (devs:Sl) (i:Int) (p:O_):Prop:=(∃j,∃hj:j<L.length,p=some ((gA devs.A).add (j*3))∧eD_ L us i=some L[j])∨(p=none∧eD_ L us i=none)
theorem t2_ {i:Int} {fv fv1:Addr} {devs U:Sl} {L:List Dq} {us:List L8} {w:World} {R:O_→W_} (hfv:w.cell? fv=some (.slice devs.A devs.n devs.c)) (hfv1:w.cell? (fv1.add 0)=some (.slice U.A U.n U.c)) (hd:Rd w 3 devs ((L.map fun d=>(d.serial,d.dv,d.shut)).flatMap nmv)) (hU:Rd w 1 U (dO_ us))
  (h:∀p v,ab_ w v→Bn_ L us devs i p→R p v):gS_ i fv fv1 w R:=
 uO_ hfv hfv1 hd hU (fun k hk hno v g=>by
  obtain⟨hkl,e⟩:=Ao_ hk hno
  exact h _ v g (.inl ⟨k,hkl,rfl,e⟩)) fun hno v g=>h _ v g (.inr ⟨rfl,Ap_ hno⟩)
theorem wu_ {F:Int→Bool} {L:List Dq} {us:List L8} {ss:List eP_} {k:Nat} {st:Wst} (hk:k<ss.length):cL_ F L us k (ss.drop k) st=match eQ_ F L us st ss[k] with
  | (some code,st')=>(k,snX (atS 10 code k),st')
  | (none,st')=>cL_ F L us (k+1) (ss.drop (k+1)) st':=by
 rw[List.drop_eq_getElem_cons hk];rfl
theorem Aq_ {U S devs:Sl} {us:List L8} {ss:List eP_} {w:World} {pw:Nat} {D:Nat→Prop} {st:Wst} {m:Nat} {F:Int→Bool} {L:List Dq} {R:Int→A_→W_}
  (T:Dvs w pw D st m F L) (hm:m≤300000000) (hU:Rd w 1 U (dO_ us)) (hS:Rd w 5 S (ss.flatMap sgv)) (hd:Rd w 3 devs ((L.map fun d=>(d.serial,d.dv,d.shut)).flatMap nmv)) (nU:∀a,U.A=some a→¬D a.block) (nS:∀a,S.A=some a→¬D a.block) (nd:∀a,devs.A=some a→¬D a.block)
  (hs8:ss.length≤8) (hok:∀x∈ss,wt_ x) (hsh:∀d∈L,d.shut<4)
  (h:∀v D',ac_ D w v→(∀k,D' k→D k∨w.heap.size≤k)→Dvs v pw D' (cL_ F L us 0 ss st).2.2 (m+150000) F L→R ((cL_ F L us 0 ss st).1:Int) (rsv (cL_ F L us 0 ss st).2.1.st (cL_ F L us 0 ss st).2.1.sn au_).toArray v):ng_ (lsv U S) devs w R:=by
 refine kF_.calls _ _ _ _ ?_
 have hSn:=zu_ pb_ d_ hS
 have lD:=fun k (q:D k)=>T.isW.lt q
 refine ag_ fun lb w0 hlb hb0 hg0 hsz0=>?_
 refine ag_ fun vb w1 hvb hb1 hg1 hsz1=>?_
 refine ag_ fun ab w2 hab hb2 hg2 hsz2=>?_
 have g12:=hg1.trans hg2
 have g02:=hg0.trans g12
 have hl2:Blk w2 lb (lsv U S) a0_:=g12.heap hb0 (fun q=>q)
 have hv2:Blk w2 vb #[.slice devs.A devs.n devs.c] c2_:=hg2.heap hb1 (fun q=>q)
 have ha2:Blk w2 ab z10 aa_:=hb2
 have sz2:=g02.size
 have nlb:¬D lb:=fun q=>by have:=lD _ q;omega
 have nvb:¬D vb:=fun q=>by have:=lD _ q;omega
 have nab:¬D ab:=fun q=>by have:=lD _ q;omega
 have hU2:∀{u:World},ac_ D w2 u→Rd u 1 U (dO_ us):=fun k=>(hU.grow g02).keep k fun a ha _=>nU a ha
 have hS2:∀{u:World},ac_ D w2 u→Rd u 5 S (ss.flatMap sgv):=fun k=>(hS.grow g02).keep k fun a ha _=>nS a ha
 have hd2:∀{u:World},ac_ D w2 u→Rd u 3 devs ((L.map fun d=>(d.serial,d.dv,d.shut)).flatMap nmv):=fun k=>(hd.grow g02).keep k fun a ha _=>nd a ha
 have cl1:∀{u:World},ac_ D w2 u→u.cell? ((⟨lb,0,none⟩:Addr).add 1)=some (.slice S.A S.n S.c):=fun k=>by rw[ao_,Blk.cell (k.heap hl2 nlb)];rfl
 have cl0:∀{u:World},ac_ D w2 u→u.cell? ((⟨lb,0,none⟩:Addr).add 0)=some (.slice U.A U.n U.c):=fun k=>by rw[ao_,Blk.cell (k.heap hl2 nlb)];rfl
 have cv:∀{u:World},ac_ D w2 u→u.cell? ⟨vb,0,none⟩=some (.slice devs.A devs.n devs.c):=fun k=>by rw[Blk.cell (k.heap hv2 nvb)];rfl
 have k2w:∀{u:World},ac_ D w2 u→ac_ D w u:=fun k=>(g02.mono fun _ _ q=>q.elim).trans k fun _ _ q=>q
 have k22:ac_ D w2 w2:=ac_.mono (ac_.refl (fun _=>False) w2) fun _ _ q=>q.elim
 refine⟨S,cl1 k22,?_⟩
 refine⟨fun x u=>∃(k:Nat) (D':Nat→Prop) (st':Wst),x=k∧k≤ss.length∧ac_ D w2 u∧(∀j,D' j→D j∨w2.heap.size≤j)∧Dvs u pw D' st' (m+18000*k) F L∧cL_ F L us 0 ss st=cL_ F L us k (ss.drop k) st',fun x _=>ss.length-x.toNat,
  ⟨0,D,st,rfl,Nat.zero_le _,k22,fun _ q=>.inl q,T.grow g02,rfl⟩,?_⟩
 rintro x u ⟨k,D',st',rfl,hk,hku,hDD,Tu,hcg⟩
 have lD':=fun k (q:D' k)=>Tu.isW.lt q
 have szu:=hku.size
 have nab':¬D' ab:=fun q=>by
  rcases hDD _ q with e|e
  ·exact nab e
  ·have:=aw_ ha2;omega
 rw[←hSn]
 refine ba_ (fun hlt=>?_) (fun hge=>?_)
 rotate_left
 ·
  have hkn:k=ss.length:=o_
  refine⟨S,cl1 hku,?_⟩
  have hau:Blk u ab z10 aa_:=hku.heap ha2 nab
  have e0:cL_ F L us 0 ss st=(k,okX [],st'):=by rw[hcg,hkn,List.drop_length];rfl
  rw[e0] at h
  refine aW_ (st:=0) (s:=sn0) (d:=au_) hau rfl fun v5 hk5=>?_
  rw[←hSn,←hkn]
  exact h v5 D' (bI_ (k2w hku) o_ hk5) (fun j q=>by
   rcases hDD j q with e|e
   ·exact .inl e
   ·exact .inr o_) ((Tu.put hau d_ d_ d_ nab' hk5).mono o_)
 have hsk:=hok ss[k] (List.getElem_mem hlt)
 have hst:=wu_ (F:=F) (L:=L) (us:=us) (st:=st') hlt
 rw[hst] at hcg
 obtain⟨a1,ct1⟩:=qB_ pb_ d_ (hS2 hku) hlt
 refine bR_ (fun y=>∃(D'':Nat→Prop) (st'':Wst),eQ_ F L us st' ss[k]=(none,st'')∧ac_ D w2 y∧(∀j,D'' j→D j∨w2.heap.size≤j)∧Dvs y pw D'' st'' (m+18000*(k+1)) F L) ?_ (fun J=>?_)
 ·rintro y ⟨D'',st'',q1,q2,q3,q4⟩
  rw[w64 o_ o_]
  refine⟨⟨k+1,D'',st'',o_,o_,q2,q3,q4,?_⟩,by dsimp only;omega⟩
  rw[hcg,q1]
 refine⟨⟨o_,o_,a1⟩,_,by rw[Int.toNat_natCast];exact vl_ ct1,?_⟩
 generalize hxk:ss[k]=s at *
 refine ag_ fun xb u1 hxb hbx1 hgx1 hszx1=>?_
 refine ap_ (cells:=(sgv s).toArray) hbx1 jy_ rfl rfl (by simp[sgv,Value.oneCell']) fun u2 hbx2 hkx2 hszx2=>?_
 have hgu2:ab_ u u2:=hgx1.keep hkx2 fun i hi q=>o_
 have hbx2:Blk u2 xb (sgv s).toArray ct_:=hbx2
 rintro u3 rfl
 have hg3:=am_ u2
 have bx:∀{v:World} {i:Nat} {x:Value},Blk v xb (sgv s).toArray ct_→(sgv s).toArray[i]?=some x→v.cell? ((⟨xb,0,none⟩:Addr).add i)=some x:=fun g e=>by rw[ao_,Blk.cell g,Nat.zero_add];exact e
 have kd:∀{v:World},ab_ u v→ac_ D w2 v:=fun g=>hku.grow g
 refine⟨fun v=>ab_ u2 v,hg3,s.from_,fun v hv=>bx (hv.heap hbx2 (fun q=>q)) rfl,s.to_,fun v hv=>bx (hv.heap hbx2 (fun q=>q)) rfl,?_⟩
 refine⟨rfl,?_⟩
 show gS_ s.from_ ⟨vb,0,none⟩ ⟨lb,0,none⟩ _ _
 have eF:IntKind.wrap .u64 ((k:Nat):Int)=(k:Int):=bZ_ o_ o_
 have fl:∀{v:World} {K:Addr→W_},ab_ u v→(∀fb v',fb=v.heap.size→ab_ v v'→Blk v' fb (rsv 2 (atS 10 3330 k) au_).toArray aa_→K ⟨fb,0,none⟩ v')→
   ∃g1:A_,(Instr.build aa_ #[(0,.int .u8 2),(1,.agg #[.int .u8 10,.int .u16 3330,.int .u64 (IntKind.wrap .u64 ((k:Nat):Int)),.bool true,.int .i64 0,.int .i64 0,.bool false,.bool false])]).run Tryz.prog v=.ok (.agg g1) v∧
    New (.cells z10 aa_) v fun failed v1=>af_ Tryz.prog (storeVar aa_ failed (.agg g1)) v1 fun v2=>K failed v2:=by
  intro v K hv hK
  refine⟨_,by rw[eF];exact ws_ v k,?_⟩
  refine ag_ fun fb v1 hfb hbf1 hgf1 hszf1=>bF_ hbf1 rfl fun v2 hbf2 hkf2 hszf2=>?_
  exact hK fb v2 hfb (hgf1.keep hkf2 fun i hi q=>o_) hbf2
 have last:∀{v:World} {fb:Nat} {code:Nat} {D3:Nat→Prop} {st3:Wst},eQ_ F L us st' s=(some code,st3)→ac_ D w2 v→(∀j,D3 j→D j∨w2.heap.size≤j)→Dvs v pw D3 st3 (m+18000*(k+1)) F L→Blk v fb (rsv 2 (atS 10 code k) au_).toArray aa_→fb≠ab→
   ∀w013,w013=v.drew→∃S1:W_,S1 w013∧∃g2:A_,(∀u2,S1 u2→(loadVar aa_ ⟨fb,0,none⟩).run Tryz.prog u2=.ok (.agg g2) u2)∧af_ Tryz.prog (storeVar aa_ ⟨ab,0,none⟩ (.agg g2)) w013 fun w013=>
    ∃res:A_,(loadVar aa_ ⟨ab,0,none⟩).run Tryz.prog w013=.ok (.agg res) w013∧R ((k:Nat):Int) res w013:=by
  rintro v fb code D3 st3 eseg hkv hD3 hT3 hbf hne w3 rfl
  have hgd:=am_ v
  refine⟨fun x=>x=v.drew,rfl,(rsv 2 (atS 10 code k) au_).toArray,fun x hx=>by rw[hx];exact i0_ (ar_ (hgd.heap hbf (fun q=>q))),?_⟩
  have hab3:Blk v.drew ab z10 aa_:=hgd.heap (hkv.heap ha2 nab) (fun q=>q)
  have nab3:¬D3 ab:=fun q=>by
   rcases hD3 _ q with e|e
   ·exact nab e
   ·have:=aw_ ha2;omega
  have e0:cL_ F L us 0 ss st=(k,snX (atS 10 code k),st3):=by rw[hcg,eseg]
  rw[e0] at h
  refine aW_ hab3 rfl fun v5 hk5=>?_
  have hk5w:ac_ D w v5:=bI_ (k2w (hkv.grow hgd)) (by have:=aw_ ha2;omega) hk5
  exact h v5 D3 hk5w (fun j q=>by
   rcases hD3 j q with e|e
   ·exact .inl e
   ·exact .inr o_) (((hT3.grow hgd).put hab3 d_ d_ d_ nab3 hk5).mono o_)
 have hg24:∀{u4},ab_ u2.drew u4→ab_ u2 u4:=fun g=>hg3.trans g
 have none_:∀{v v':World} {fb:Nat},ab_ u v→eQ_ F L us st' s=(some 3330,st')→fb=v.heap.size→ab_ v v'→Blk v' fb (rsv 2 (atS 10 3330 k) au_).toArray aa_→∀w013,w013=v'.drew→∃S1:W_,S1 w013∧∃g2:A_,(∀u2,S1 u2→(loadVar aa_ ⟨fb,0,none⟩).run Tryz.prog u2=.ok (.agg g2) u2)∧af_ Tryz.prog (storeVar aa_ ⟨ab,0,none⟩ (.agg g2)) w013 fun w013=>
    ∃res:A_,(loadVar aa_ ⟨ab,0,none⟩).run Tryz.prog w013=.ok (.agg res) w013∧R ((k:Nat):Int) res w013:=fun {v v' fb} gv e hfb g hb=>
  last e (kd (gv.trans g)) hDD ((Tu.grow (gv.trans g)).mono o_) hb (by have:=aw_ ha2;have:=gv.size;omega)
 have hgu3:=hgu2.trans hg3
 refine t2_ (i:=s.from_) (cv (kd hgu3)) (cl0 (kd hgu3)) (hd2 (kd hgu3)) (hU2 (kd hgu3)) fun p u4 hg4 hp=>⟨hg24 hg4,rfl,?_⟩
 show gS_ s.to_ ⟨vb,0,none⟩ ⟨lb,0,none⟩ _ _
 have hg4u:=hgu3.trans hg4
 refine t2_ (i:=s.to_) (cv (kd hg4u)) (cl0 (kd hg4u)) (hd2 (kd hg4u)) (hU2 (kd hg4u)) fun p1 u5 hg5 hp1=>?_
 have hg5u:=hg4u.trans hg5
 refine fl hg5u fun fb u6 hfb hg6 hbf=>?_
 have hg6u:=hg5u.trans hg6
 have sz5:=hg5u.size
 rcases hp with⟨j1,hj1,rfl,e1⟩|⟨rfl,e1⟩
 rotate_left
 ·have eseg:eQ_ F L us st' s=(some 3330,st'):=by unfold eQ_;rw[e1]
  exact⟨fun q=>by simp at q,0,fun q=>by simp at q,fun q=>by simp at q,0,fun q=>by simp at q,al_ (by simp) (none_ hg5u eseg hfb hg6 hbf)⟩
 rcases hp1 with⟨j2,hj2,rfl,e2⟩|⟨rfl,e2⟩
 rotate_left
 ·have eseg:eQ_ F L us st' s=(some 3330,st'):=by unfold eQ_;rw[e1,e2]
  exact⟨fun q=>by simp at q,0,fun q=>by simp at q,fun q=>by simp at q,0,fun q=>by simp at q,al_ (by simp) (none_ hg5u eseg hfb hg6 hbf)⟩
 have hA:=List.getElem_mem hj1
 have hB:=List.getElem_mem hj2
 have row:∀{v:World} {j:Nat} (hj:j<L.length),ac_ D w2 v→bQ_ v ((gA devs.A).add (j*3)) (nmv (L[j].serial,L[j].dv,L[j].shut)):=fun {v j} hj kv=>by
  have:=(qB_ rz_ d_ (hd2 kv) (i:=j) (by rw[List.length_map];exact hj)).2
  rwa [List.getElem_map] at this
 have sh1:u6.cell? ((gA (some ((gA devs.A).add (j1*3)))).add 2)=some (.int .u8 (L[j1].shut:Int)):=row hj1 (kd hg6u) 2 _ rfl
 have sh2:u6.cell? ((gA (some ((gA devs.A).add (j2*3)))).add 2)=some (.int .u8 (L[j2].shut:Int)):=row hj2 (kd hg6u) 2 _ rfl
 have b1:=By_ (hsh _ hA)
 have b2:=Bz_ (hsh _ hB)
 have pdev:∀{v:World},ac_ D w2 v→v.cell? ((gA (some ((gA devs.A).add (j1*3)))).add 1)=some (.pointer (some ⟨L[j1].dv,0,none⟩))∧v.cell? ((gA (some ((gA devs.A).add (j2*3)))).add 1)=some (.pointer (some ⟨L[j2].dv,0,none⟩)):=fun kv=>⟨row hj1 kv 1 _ rfl,row hj2 kv 1 _ rfl⟩
 have hseg:eQ_ F L us st' s=eQ_ F L us st' s:=rfl
 conv at hseg=>rhs;unfold eQ_
 rw[e1,e2] at hseg
 dsimp only at hseg
 generalize L[j1]=A at *
 generalize L[j2]=B at *
 refine⟨fun _=>rfl,_,fun _=>sh1,fun _=>rfl,_,fun _=>sh2,?_⟩
 rw[b1,b2]
 by_cases hshut:A.shut%2=1∨B.shut/2%2=1
 ·rw[if_pos hshut] at hseg
  refine al_ ?_ (none_ hg5u hseg hfb hg6 hbf)
  rcases hshut with q|q
  ·rw[decide_eq_true q];rfl
  ·rw[decide_eq_true q];simp
 rw[if_neg hshut] at hseg
 have n1:decide (A.shut%2=1)=false:=decide_eq_false fun q=>hshut (.inl q)
 have n2:decide (B.shut/2%2=1)=false:=decide_eq_false fun q=>hshut (.inr q)
 rw[n1,n2]
 refine ai_ rfl ?_
 rintro u7 rfl
 have hg7:=am_ u6
 have hg7u:=hg6u.trans hg7
 have hbx7:Blk u6.drew xb (sgv s).toArray ct_:=(((hg24 hg4).trans (hg5.trans hg6)).trans hg7).heap hbx2 (fun q=>q)
 have hbf7:Blk u6.drew fb (rsv 2 (atS 10 3330 k) au_).toArray aa_:=hg7.heap hbf (fun q=>q)
 have T7:=Tu.grow hg7u
 have kd7:=kd hg7u
 have sz7:=hg7u.size
 generalize u6.drew=u7 at *
 have nxb:¬D' xb:=fun q=>by have:=lD' _ q;omega
 have nfb:¬D' fb:=fun q=>by have:=lD' _ q;omega
 have fne:fb≠ab:=by have:=aw_ ha2;omega
 have kw7:∀{v:World},ac_ D' u7 v→ac_ D w2 v:=fun kv=>kd7.trans kv fun i hi q=>by
  rcases hDD i q with e|e
  ·exact e
  ·omega
 have k77:ac_ D' u7 u7:=ac_.mono (ac_.refl (fun _=>False) _) (fun _ _ q=>q.elim)
 have hsb:=hsk.blocks
 have eB:IntKind.wrap .u64 (mx s.blocks 0)=((s.blocks.toNat:Nat):Int):=by
  have:mx s.blocks 0=((s.blocks.toNat:Nat):Int):=by unfold mx;split<;>omega
  rw[this,bZ_ o_ o_]
 refine⟨fun v=>ac_ D' u7 v,k77,rfl,some ⟨A.dv,0,none⟩,fun v hv=>(pdev (kw7 hv)).1,(s.src:Int),fun v hv=>bx (hv.heap hbx7 nxb) rfl,s.blocks,fun v hv=>bx (hv.heap hbx7 nxb) rfl,?_⟩
 rw[eB]
 have lD7:∀k,D' k→k<u7.heap.size:=fun j q=>T7.isW.lt q
 have rl:=y8_ (F:=F) (kind:=A.kind) (n:=A.n) (cache:=A.cache) (file:=A.file) (st:=st') (lba:=s.src) (b:=s.blocks.toNat) (T7.all _ hA).size.2
 generalize hX1:doX F A.kind A.n A.cache A.file st' (rdC s.src s.blocks.toNat) []=X1 at *
 refine Am_ D' lD7 (fun y r sn d v=>r=X1.1.st∧sn=X1.1.sn∧ac_ D' y v∧∃D2,(∀j,D2 j→D' j∨y.heap.size≤j)∧Dvs v pw D2 X1.2 (m+18000*k+9000) F L∧Own v y.heap.size ae_ 1 d (bv X1.1.d))
  (fun y hy Q hQ=>(T7.grow hy).dos (u9_ (.inl rfl)) hA o_ (c:=rdC s.src s.blocks.toNat) (kY_ y) d_ (fun v _=>kY_ v) hsk.src (by show s.blocks.toNat<_;omega) fun v D2 x hkv hD2 hT2 ho2=>hQ _ _ _ v ⟨by rw[hX1],by rw[hX1],hkv,D2,hD2,by rw[hX1] at hT2;exact hT2,by rw[hX1] at ho2;exact ho2⟩)
  (fun y r sn d v _ hp=>hp.2.2.1) (fun v hv=>hv) ?_
 rintro y r sn d v rb v' hgy ⟨rfl,rfl,hkv,D2,hD2,hT2,hown⟩ hside hbr hrb hkv' hrb2
 have lD2:=fun k (q:D2 k)=>hT2.isW.lt q
 have szy:=hgy.size
 have nrb:¬D2 rb:=fun q=>by
  rcases hrb2 with r|r
  ·rcases hD2 _ q with e|e
   ·have:=lD7 _ e;omega
   ·omega
  ·have:=lD2 _ q;omega
 have Tv:Dvs v' pw D2 X1.2 (m+18000*k+9000) F L:=by
  rcases hside with g|⟨_,hb,kk⟩
  ·exact hT2.grow g
  ·exact hT2.put hb d_ d_ d_ nrb kk
 have hown':=hside.own hown d_
 have hDD2:∀j,D2 j→D j∨w2.heap.size≤j:=fun j q=>by
  rcases hD2 j q with e|e
  ·exact hDD j e
  ·exact .inr o_
 have hfr:fb≠rb:=by have:=aw_ hbf7;omega
 have hxr:xb≠rb:=by have:=aw_ hbx7;omega
 have hbf':=hkv'.heap hbf7 nfb
 have hbx':=hkv'.heap hbx7 nxb
 have szv':=hkv'.size
 have nfb2:¬D2 fb:=fun q=>by
  rcases hD2 _ q with e|e
  ·exact nfb e
  ·have:=aw_ hbf7;omega
 have nxb2:¬D2 xb:=fun q=>by
  rcases hD2 _ q with e|e
  ·exact nxb e
  ·have:=aw_ hbx7;omega
 refine⟨(X1.1.st:Int),by rw[ao_,Blk.cell hbr];rfl,?_⟩
 refine bR_ (fun z=>∃(sx:Nat) (sn:Sn) (dd:Sl) (D3:Nat→Prop) (st3:Wst),ac_ D w2 z∧(∀j,D3 j→D j∨w2.heap.size≤j)∧Dvs z pw D3 st3 (m+18000*(k+1)) F L∧Blk z rb (rsv sx sn dd).toArray aa_∧Blk z fb (rsv 2 (atS 10 3330 k) au_).toArray aa_∧¬D3 fb∧eQ_ F L us st' s=(if sx≠0 then some sn.code else none,st3)) ?_ (fun J1=>?_)
 ·rintro z ⟨sx,sn,dd,D3,st3,hkz,hD3,hT3,hbrz,hbfz,nf3,es⟩
  refine⟨(sx:Int),by rw[ao_,Blk.cell hbrz];rfl,?_⟩
  refine eR_ (fun hne=>?_) (fun hz=>?_)
  ·rw[if_pos o_] at es
   refine⟨(sn.code:Int),by rw[gI_,ao_,Blk.cell hbrz];rfl,?_⟩
   rw[gI_,ao_]
   refine aU_ hbfz (by show 2<10;decide) rfl fun z1 hb1 hk1 _=>?_
   have hb1:Blk z1 fb (rsv 2 (atS 10 sn.code k) au_).toArray aa_:=hb1
   exact last es (bI_ hkz (by have:=aw_ ha2;omega) hk1) hD3 (hT3.put hbfz d_ d_ d_ nf3 hk1) hb1 fne
  ·rw[if_neg o_] at es
   exact J z ⟨D3,st3,es,hkz,hD3,hT3⟩
 refine ay_ (y:=0) (fun hz=>?_) (fun hnz=>?_)
 rotate_left
 ·rw[if_pos o_] at hseg
  exact J1 v' ⟨X1.1.st,X1.1.sn,d,D2,X1.2,kw7 hkv',hDD2,Tv.mono o_,hbr,hbf',nfb2,by rw[if_pos o_];exact hseg⟩
 rw[if_neg o_] at hseg
 have dn:=cY_ hown'
 refine⟨d,by rw[ao_,Blk.cell hbr];rfl,?_⟩
 refine jN_ (wt:=false) (hown'.rd o_) o_ (fun q=>absurd (show X1.1.d.length%16≠0 from q) o_) fun _ xs y1 hgy1 hxs=>?_
 have hxn:xs.n=X1.1.d.length/16:=by
  have:=hxs.len
  rw[bU_,gX_] at this
  have e16:szB false=16:=rfl
  rw[e16] at this
  omega
 rintro y2 rfl
 have hgy2:ab_ v' y1.drew:=hgy1.trans (am_ y1)
 generalize y1.drew=y2 at *
 have hk2':∀{z:World},ab_ v' z→ac_ D' u7 z:=fun g=>hkv'.grow g
 refine⟨fun z=>ab_ v' z,hgy2,rfl,some ⟨B.dv,0,none⟩,fun z hz=>(pdev (kw7 (hk2' hz))).2,(s.dst:Int),fun z hz=>bx ((hk2' hz).heap hbx7 nxb) rfl,d,fun z hz=>by rw[ao_,Blk.cell (hz.heap hbr (fun q=>q))];rfl,?_⟩
 rw[hxn,bZ_ (n:=((X1.1.d.length/16:Nat):Int)) o_ o_]
 have T2:=Tv.grow hgy2
 have ho2:=hown'.grow hgy2
 refine T2.dos (u9_ (.inr (.inl rfl))) hB o_ (c:=wrC s.dst (X1.1.d.length/16)) (ho2.rd o_) o_ (fun z kz=>(ho2.keep kz fun b hb _=>y9_ T2.isW ho2 b hb ‹_›).rd o_) hsk.dst (by show X1.1.d.length/16<_;omega) fun z D3 x hkz hD3 hT3 ho3=>?_
 have hbrz:=hkz.heap (hgy2.heap hbr (fun q=>q)) nrb
 have hbfz:=hkz.heap (hgy2.heap hbf' (fun q=>q)) nfb2
 refine bF_ hbrz rfl fun z1 hb1 hk1 hsz1=>?_
 have nrb3:¬D3 rb:=fun q=>by
  rcases hD3 _ q with e|e
  ·exact nrb e
  ·have:=aw_ (hgy2.heap hbr (fun q=>q));omega
 have nfb3:¬D3 fb:=fun q=>by
  rcases hD3 _ q with e|e
  ·exact nfb2 e
  ·have:=aw_ (hgy2.heap hbf' (fun q=>q));omega
 have sz2':=hgy2.size
 have kz:ac_ D w2 z:=(kw7 (hk2' hgy2)).trans hkz fun i hi q=>by
  rcases hDD2 i q with e|e
  ·exact e
  ·omega
 refine J1 z1 ⟨_,_,x,D3,_,bI_ kz o_ hk1,fun j q=>?_,(hT3.put hbrz d_ d_ d_ nrb3 hk1).mono o_,hb1,hk1.heap hbfz hfr,nfb3,?_⟩
 ·rcases hD3 j q with e|e
  ·exact hDD2 j e
  ·exact .inr o_
 ·rw[hseg]
  split<;>rfl
open Go CF
abbrev Pu:=List (Nat×USt)
def pub (us:List (UA×USt)):Pu:=us.map fun x=>(x.1.ub,x.2)
def mB_ (P:Pu) (b:Nat):Nat:=P.findIdx fun x=>decide (x.1=b)
def gG_ (s:USt) (n:Nat):Nat:=(if be_ s.tab n 1=true then 1 else 0)+(if (be_ s.tab n 2||s.now.swp)=true then 2 else 0)
def bP_ (F:Int→Bool) (n:Nat):List Nat→Pu→Wst→List (Nat×Nat)×Pu×Wst
 | [],P,st=>([],P,st)
 | b::r,P,st=>match P[mB_ P b]? with
  | none=>bP_ F n r P st
  | some x=>if (aC_ F x.2 st).1≠0 then bP_ F n r (P.set (mB_ P b) (x.1,(aC_ F x.2 st).2.1)) (aC_ F x.2 st).2.2
   else((mB_ P b,gG_ (aC_ F x.2 st).2.1 n)::(bP_ F n r (P.set (mB_ P b) (x.1,(aC_ F x.2 st).2.1)) (aC_ F x.2 st).2.2).1,(bP_ F n r (P.set (mB_ P b) (x.1,(aC_ F x.2 st).2.1)) (aC_ F x.2 st).2.2).2)
def t3_ (P:Pu) (x:Nat×Nat):Dq:=match P[x.1]? with
 | some y=>⟨y.2.inf.s,0,0,y.2.file,y.2.inf.prot,y.2.n,y.2.cache,x.2⟩
 | none=>⟨⟨#[]⟩,0,0,⟨#[]⟩,0,0,false,0⟩
def pc_ (F:Int→Bool) (P:Pu) (st:Wst) (i n:Nat) (c:Cm) (l:L8):RsX×Pu×Wst:=
 if (l.length:Int)≠c.alloc then(snX (ci_ 0x1a00),P,st)
 else if (a5_ l).ok=false then(snX (a5_ l).sn,P,st)
 else match P[i]? with
  | none=>(snX sn0,P,st)
  | some x=>((cL_ F ((bP_ F n (x.1::x.2.peers) P st).1.map (t3_ (bP_ F n (x.1::x.2.peers) P st).2.1)) (a5_ l).us 0 (a5_ l).ss (bP_ F n (x.1::x.2.peers) P st).2.2).2.1,
    (bP_ F n (x.1::x.2.peers) P st).2.1,
    (cL_ F ((bP_ F n (x.1::x.2.peers) P st).1.map (t3_ (bP_ F n (x.1::x.2.peers) P st).2.1)) (a5_ l).us 0 (a5_ l).ss (bP_ F n (x.1::x.2.peers) P st).2.2).2.2)
structure dp_ (us us':List (UA×USt)):Prop where
 len:us'.length=us.length
 all:∀k (h:k<us.length) (h':k<us'.length),us[k].1.like us'[k].1∧us[k].2.same us'[k].2
theorem UA.like.trans {a b c:UA} (h:a.like b) (g:b.like c):a.like c:=⟨g.ub.trans h.ub,g.dv.trans h.dv,g.ps.trans h.ps,g.sl.trans h.sl,g.qb.trans h.qb⟩
theorem USt.same.refl (s:USt):s.same s:=⟨rfl,rfl,rfl,rfl,rfl,rfl⟩
theorem USt.same.trans {a b c:USt} (h:a.same b) (g:b.same c):a.same c:=⟨g.inf.trans h.inf,g.file.trans h.file,g.keepf.trans h.keepf,g.n.trans h.n,g.peers.trans h.peers,g.count.trans h.count⟩
theorem dp_.refl (us:List (UA×USt)):dp_ us us:=⟨rfl,fun _ _ _=>⟨UA.like.refl _,USt.same.refl _⟩⟩
theorem dp_.trans {a b c:List (UA×USt)} (h:dp_ a b) (g:dp_ b c):dp_ a c:=⟨g.len.trans h.len,fun k h1 h3=>by
 have h2:k<b.length:=by rw[h.len];exact h1
 exact⟨(h.all k h1 h2).1.trans (g.all k h2 h3).1,(h.all k h1 h2).2.trans (g.all k h2 h3).2⟩⟩
theorem dp_.set {us:List (UA×USt)} {i:Nat} {a a':UA} {s s':USt} (hi:i<us.length) (he:us[i]=(a,s)) (h1:a.like a') (h2:s.same s'):dp_ us (us.set i (a',s')):=⟨List.length_set,fun k h h'=>by
 rw[List.getElem_set]
 split
 ·rename_i e
  subst e
  rw[he];exact⟨h1,h2⟩
 ·exact⟨UA.like.refl _,USt.same.refl _⟩⟩
theorem rA_ {us:List (UA×USt)} {i:Nat} {a:UA} {s:USt}:pub (us.set i (a,s))=(pub us).set i (a.ub,s):=by unfold pub;rw[List.map_set]
theorem m1_ {us:List (UA×USt)} {i:Nat} (hi:i<us.length):(pub us)[i]?=some (us[i].1.ub,us[i].2):=by unfold pub;rw[List.getElem?_map,List.getElem?_eq_getElem hi];rfl
section
variable {w u v z w3:World} {S D D':Nat→Prop} {pw i m n ab cb:Nat} {a:UA} {s:USt} {st st':Wst} {F F':Int→Bool} {ℓ ℓ' ℓ1 ℓ2:Nat→Option Nat} {us us':List (UA×USt)} {R:A_→W_} {out:Sl} {l:L8} {c:Cm}
theorem A4_ (H:Sys w ℓ pw st F us) {j:Nat} (hj:j<us.length):mB_ (pub us) us[j].1.ub=j:=by
 have hlen:(pub us).length=us.length:=by unfold pub;rw[List.length_map]
 unfold mB_
 rw[List.findIdx_eq (by rw[hlen];exact hj)]
 refine⟨?_,fun k hk=>?_⟩
 ·unfold pub;rw[List.getElem_map];exact decide_eq_true rfl
 ·have hku:k<us.length:=o_
  unfold pub
  rw[List.getElem_map,decide_eq_false_iff_not]
  intro e
  dsimp only at e
  have h1:=(H.U j hj).2 _ (de_ us[j].1).1
  have h2:=(H.U k hku).2 _ (de_ us[k].1).1
  rw[e,h1] at h2
  injection h2 with h2
  omega
structure LB (v:World) (ℓ:Nat→Option Nat) (b:Nat) (cs:A_) (t:TypeId):Prop where
 blk:Blk v b cs t
 no:ℓ b=none
theorem LB.go {b:Nat} {cs:A_} {t:TypeId} (h:LB v ℓ b cs t) (g:ab_ v z):LB z ℓ b cs t:=⟨g.heap h.blk (fun q=>q),h.no⟩
theorem LB.mv {b:Nat} {cs:A_} {t:TypeId} (h:LB v ℓ b cs t) (m:Mv v z ℓ ℓ'):LB z ℓ' b cs t:=⟨m.heap h.blk h.no,by rw[m.lab _ (aw_ h.blk)];exact h.no⟩
structure LR (v:World) (ℓ:Nat→Option Nat) (base:Nat) (e:TypeId) (q:Nat) (x:Sl) (vs:List Value):Prop where
 own:CF.Own v base e q x vs
 no:∀b,x.blk=some b→ℓ b=none
theorem LR.go {base q:Nat} {e:TypeId} {x:Sl} {vs:List Value} (h:LR v ℓ base e q x vs) (g:ab_ v z):LR z ℓ base e q x vs:=⟨h.own.grow g,h.no⟩
theorem LR.mv {base q:Nat} {e:TypeId} {x:Sl} {vs:List Value} (h:LR v ℓ base e q x vs) (m:Mv v z ℓ ℓ'):LR z ℓ' base e q x vs:=⟨h.own.keep m.keep fun b hb r=>r (h.no b hb),fun b hb=>by rw[m.lab _ (h.own.ge b hb).2];exact h.no b hb⟩
theorem LR.keepB {base q:Nat} {e:TypeId} {x y:Sl} {vs ws:List Value} {base' q':Nat} {e':TypeId} (h:LR v ℓ base e q x vs) (ho:CF.Own v base' e' q' y ws) (ht:e≠e') (k:ac_ (fun k=>some k=y.blk) v z):LR z ℓ base e q x vs:=⟨h.own.keep k fun b hb r=>by
 obtain⟨c1,h1⟩:=aS_ h.own hb
 obtain⟨c2,h2⟩:=aS_ ho r.symm
 have:=h1.symm.trans h2
 injection this with this
 injection this with _ this _
 exact ht this,h.no⟩
theorem LB.keepR {b:Nat} {cs:A_} {t:TypeId} {y:Sl} {ws:List Value} {base' q':Nat} {e':TypeId} (h:LB v ℓ b cs t) (ho:CF.Own v base' e' q' y ws) (ht:t≠e') (k:ac_ (fun k=>some k=y.blk) v z):LB z ℓ b cs t:=⟨k.heap h.blk fun r=>bd_ ho h.blk ht r.symm,h.no⟩
theorem Cal.keepR {y:Sl} {ws:List Value} {base' q':Nat} {e':TypeId} (h:Cal w v ℓ ℓ' cb ab c) (ho:CF.Own v base' e' q' y ws) (h1:az_≠e') (h2:aa_≠e') (hw:w.heap.size≤base') (k:ac_ (fun k=>some k=y.blk) v z):Cal w z ℓ ℓ' cb ab c:=
 ⟨h.mv.loc k fun x hx q=>by have:=(ho.ge x q.symm).1;omega,k.heap h.cmd fun r=>bd_ ho h.cmd h1 r.symm,k.heap h.res fun r=>bd_ ho h.res h2 r.symm,h.ncb,h.nab⟩
theorem Sys.row {y:Sl} {ws:List Value} {base' q':Nat} {e':TypeId} (H:Sys v ℓ' pw st F us) (ho:LR v ℓ' base' e' q' y ws) (h1:¬mt_ e') (h2:e'≠ae_) (k:ac_ (fun k=>some k=y.blk) v z):Sys z ℓ' pw st F us:=
 H.loc k fun b _ r=>by
  obtain⟨cur,hc⟩:=aS_ ho.own r.symm
  exact⟨ho.no b r.symm,cur,e',hc,h1,h2⟩
theorem Sys.devD (H:Sys w ℓ pw st F us) (K:SOk st us m) {D:Nat→Prop} (hW:aZ_ w pw D st F) (hD:∀k,D k→ℓ k=some 0) (hi:i<us.length) (he:us[i]=(a,s)):Dvq w a.dv a.ps pw s.file s.inf.prot s.n s.cache D st (dd_ st s.file 0 s.n) m F:=by
 obtain⟨hU,hown⟩:=H.at hi he
 have O:UOk st s:=K.at hi he
 obtain⟨z1,z2,z3,z4,z5,z6,z7⟩:=de_ a
 have nD:∀{b},a.set b→¬D b:=fun hb q=>by
  have h1:=hown _ hb
  rw[hD _ q] at h1
  injection h1 with h1
  omega
 exact⟨hU.dev,hU.store,hW,nD z3,nD z2,K.wok,p5_ O.good,p6_ _ _ _ _,O.n,O.sizes.1,O.prot,K.few⟩
end
open Go CF
def kq_ (us:List (UA×USt)) (x:Nat×Nat):List Value:=match us[x.1]? with
 | some y=>nmv (y.2.inf.s,y.1.dv,x.2)
 | none=>nmv (⟨#[]⟩,0,0)
theorem za_ (us:List (UA×USt)) (x:Nat×Nat):(kq_ us x).length=3:=by unfold kq_;split<;>rfl
theorem sh_ {us us':List (UA×USt)} (h:dp_ us us') (x:Nat×Nat):kq_ us' x=kq_ us x:=by
 unfold kq_
 by_cases q:x.1<us.length
 ·have q':x.1<us'.length:=by rw[h.len];exact q
  rw[List.getElem?_eq_getElem q,List.getElem?_eq_getElem q']
  obtain⟨h1,h2⟩:=h.all _ q q'
  dsimp only
  rw[h1.dv,h2.inf]
 ·have hl:=h.len
  rw[List.getElem?_eq_none (l:=us) o_,List.getElem?_eq_none (l:=us') o_]
theorem BA_:bOr .u8 0 1=1:=d_
theorem Ar_ (x y:Bool):(if y=true then bOr .u8 (if x=true then(1:Int) else 0) 2 else(if x=true then(1:Int) else 0))=(((if x=true then 1 else 0)+(if y=true then 2 else 0):Nat):Int):=by cases x<;>cases y<;>decide
section
variable {w u v z w3:World} {S D D':Nat→Prop} {pw i m n ab cb:Nat} {a:UA} {s:USt} {st st':Wst} {F F':Int→Bool} {ℓ ℓ' ℓ1 ℓ2:Nat→Option Nat} {us us':List (UA×USt)} {R:A_→W_} {out:Sl} {l:L8} {c:Cm}
def A5_ (p1:O_) (nexus:Int) (devs:Sl) (J_:Sl→W_) (w015:World):Prop:=
 ∀w016,w016=w015.drew→∃S:W_,S w016∧p1.isSome=true∧∃s1:ByteArray,(∀u1,S u1→u1.cell? (((gA p1).add 0).add 3)=some (.string s1))∧p1.isSome=true∧∃p2:O_,(∀u2,S u2→u2.cell? ((gA p1).add 5)=some (.pointer p2))∧New (.cells #[.string ⟨#[]⟩,.pointer none,.int .u8 0] bi_) w016 fun n2 w017=>S w017∧af_ Tryz.prog (storeVar bi_ n2 (.agg #[.string s1,.pointer p2,.int .u8 0])) w017 fun w018=>p1.isSome=true∧∃p3:O_,w018.cell? ((gA p1).add 8)=some (.pointer p3)∧bz_ p3 nexus 1 w018 fun b1 w019=>aK_ (fun(w020:World)=>p1.isSome=true∧∃p4:O_,w020.cell? ((gA p1).add 8)=some (.pointer p4)∧bz_ p4 nexus 2 w020 fun b2 w021=>((!b2)=true→p1.isSome=true)∧∃p5:O_,((!b2)=true→w021.cell? ((gA p1).add 7)=some (.pointer p5))∧bL_ (fun(g5:A_) (w022:World)=>∃b3:Bool,((!b2)=true→g5[2]?=some (.bool b3))∧aK_ (fun(w023:World)=>∃g6:A_,(loadVar bi_ n2).run Tryz.prog w023=.ok (.agg g6) w023∧an_ Tryz.prog .sl (Instr.buildSlice c2_ 1 #[(0,.agg g6)]) w023 fun xs3 w024=>an_ Tryz.prog .sl (Builtin.append_ #[c2_,c2_] c2_ #[.slice devs.A devs.n devs.c,.slice xs3.A xs3.n xs3.c]) w024 fun xs4 w025=>J_ xs4 w025) fun J_1=>Br (b2||b3) (∃n3:Int,w022.cell? (n2.add 2)=some (.int .u8 n3)∧Put (n2.add 2) (.int .u8 (bOr .u8 n3 2)) w022 fun w026=>J_1 w026) (J_1 w022)) fun J_2=>((!b2)=true→bh_ p5 w021 J_2)∧((!b2)=false→J_2 (Kd.dflt .ag) w021)) fun J_3=>Br b1 (∃n4:Int,w019.cell? (n2.add 2)=some (.int .u8 n4)∧Put (n2.add 2) (.int .u8 (bOr .u8 n4 1)) w019 fun w027=>J_3 w027) (J_3 w019)
theorem zb_ (w:World) (s:ByteArray) (b h:Nat):(Instr.buildSlice c2_ 1 #[(0,.agg (nmv (s,b,h)).toArray)]).run Tryz.prog w=.ok (.slice (some ⟨w.heap.size,0,none⟩) 1 1) (w.alloc (.cells (nmv (s,b,h)).toArray bi_)):=k_
theorem Bo_ {b:Nat} {x:ByteArray×Nat×Nat} (h:Blk w b (nmv x).toArray bi_):(loadVar bi_ ⟨b,0,none⟩).run Tryz.prog w=.ok (.agg (nmv x).toArray) w:=aD_ (cs:=nmv x) k_ kj_ rfl (ar_ h)
theorem zc_ {devs:Sl} {base:Nat} {vs:List Value} {J:Sl→W_} (hU:IsU v (fun k=>ℓ k≠none) pw a s) (hd:CF.Own v base bi_ 3 devs vs) (hbase:base≤v.heap.size) (hdn:devs.n≤1000)
  (hJ:∀x y z,ab_ v y→CF.Own y base bi_ 3 devs vs→CF.Own z base bi_ 3 x (vs++nmv (s.inf.s,a.dv,gG_ s n))→ac_ (fun k=>some k=devs.blk) y z→(x.blk=devs.blk∨∃b,x.blk=some b∧y.heap.size≤b)→x.n=devs.n+1→J x z):A5_ (some ⟨a.ub,0,none⟩) (n:Int) devs J v:=by
 rintro w1 rfl
 have g1:=am_ v
 generalize v.drew=w1 at *
 have T:∀{y:World},ab_ v y→IsU y (fun k=>ℓ k≠none) pw a s:=fun g=>hU.grow g
 have cinf:∀{y:World},ab_ v y→y.cell? (((gA (some (⟨a.ub,0,none⟩:Addr))).add 0).add 3)=some (.string s.inf.s):=fun g=>by
  obtain⟨P,hbu,_⟩:=(T g).unit
  rw[gA,ao_,ao_,hbu.cell];rfl
 refine⟨fun y=>ab_ v y,g1,rfl,s.inf.s,fun y q=>cinf q,rfl,some ⟨a.dv,0,none⟩,fun y q=>(T q).cellU fun P=>rfl,?_⟩
 refine ag_ fun nb w2 hnb hb2 hg2 hs2=>⟨g1.trans hg2,?_⟩
 have s1:=g1.size
 have hw2:v.heap.size≤nb:=o_
 refine ap_ (cells:=(nmv (s.inf.s,a.dv,0)).toArray) hb2 kj_ rfl rfl (by simp[nmv,Value.oneCell']) fun w3 hb3 hk3 hs3=>?_
 have g3:ab_ v w3:=(g1.trans hg2).keep hk3 fun b hb q=>o_
 refine⟨rfl,some ⟨a.tb,0,none⟩,(T g3).cellU fun P=>rfl,ia_ (c:=1) (T g3).tab fun w4 g4=>?_⟩
 have hb4:=g4.heap hb3 (fun q=>q)
 have g34:=g3.trans g4
 have s4:=g34.size
 refine bR_ (fun y=>ab_ v y∧Blk y nb (nmv (s.inf.s,a.dv,if be_ s.tab n 1=true then 1 else 0)).toArray bi_) ?_ (fun J3=>?_)
 rotate_left
 ·cases hc:be_ s.tab n 1 with
  | false=>rw[hc] at J3;exact ai_ rfl (J3 w4 ⟨g34,hb4⟩)
  | true=>
   rw[hc] at J3
   refine al_ rfl ⟨0,by rw[ao_,Blk.cell hb4];rfl,?_⟩
   rw[ao_,BA_]
   exact aU_ hb4 (by show 2<3;decide) rfl fun y hby hky _=>J3 y ⟨g34.keep hky fun b hb q=>o_,hby⟩
 rintro y ⟨gy,hby⟩
 refine⟨rfl,some ⟨a.tb,0,none⟩,(T gy).cellU fun P=>rfl,ia_ (c:=2) (T gy).tab fun w5 g5=>?_⟩
 have gy5:=gy.trans g5
 have hb5:=g5.heap hby (fun q=>q)
 refine⟨fun _=>rfl,some ⟨a.pg,0,none⟩,fun _=>(T gy5).cellU fun P=>rfl,?_⟩
 refine cI_ (fun g5v o=>ab_ v o∧Blk o nb (nmv (s.inf.s,a.dv,if be_ s.tab n 1=true then 1 else 0)).toArray bi_∧(be_ s.tab n 2=false→g5v=(vlv s.now).toArray)) ?_ (fun J2=>⟨fun _=>ik_ (T gy5).pages fun w6 g6=>J2 _ w6 ⟨gy5.trans g6,g6.heap hb5 (fun q=>q),fun _=>rfl⟩,fun q=>J2 _ w5 ⟨gy5,hb5,fun e=>by rw[e] at q;cases q⟩⟩)
 rintro g5v o ⟨go,hbo,hg5v⟩
 refine⟨s.now.swp,fun q=>by
  have:be_ s.tab n 2=false:=by simpa using q
  rw[hg5v this];rfl,?_⟩
 have so:=go.size
 refine bR_ (fun y=>ab_ v y∧Blk y nb (nmv (s.inf.s,a.dv,gG_ s n)).toArray bi_) ?_ (fun J1=>?_)
 ·rintro y2 ⟨gy2,hby2⟩
  refine⟨_,Bo_ hby2,?_⟩
  refine aJ_ (cells:=(nmv (s.inf.s,a.dv,gG_ s n)).toArray) (e:=bi_) (z:=3) (base:=y2.heap.size) (zb_ _ _ _ _) rfl d_ (Nat.le_refl _) fun y3 o3 g3' _=>?_
  have gy3:=gy2.trans g3'
  have hd3:=hd.grow gy3
  have sy3:=gy3.size
  refine aN_ pO_ kj_ rfl d_ d_ hd3 (o3.rd (by show 1≤_;decide)) (by simp[nmv,Value.oneCell']) (by show(devs.n+1)*32≤_;omega) o_ fun x z hxn ho hk hat=>?_
  exact hJ x y3 z gy3 hd3 ho hk (hat.elim .inl fun q=>.inr ⟨_,q,Nat.le_refl _⟩) hxn
 ·have hso:=Ar_ (be_ s.tab n 1) (be_ s.tab n 2||s.now.swp)
  cases hc:(be_ s.tab n 2||s.now.swp) with
  | true=>
   rw[hc,if_pos rfl] at hso
   refine al_ rfl ⟨(if be_ s.tab n 1=true then(1:Int) else 0),by rw[ao_,Blk.cell hbo];show some (Value.int .u8 ((if be_ s.tab n 1=true then 1 else 0:Nat):Int))=_;cases be_ s.tab n 1<;>rfl,?_⟩
   rw[ao_,hso]
   refine aU_ hbo (by show 2<3;decide) rfl fun y2 hby2 hky2 _=>J1 y2 ⟨go.keep hky2 fun b hb q=>o_,?_⟩
   have:gG_ s n=(if be_ s.tab n 1=true then 1 else 0)+(if (true:Bool)=true then 2 else 0):=by unfold gG_;rw[hc]
   rw[this];exact hby2
  | false=>
   refine ai_ rfl (J1 o ⟨go,?_⟩)
   have:gG_ s n=(if be_ s.tab n 1=true then 1 else 0):=by unfold gG_;rw[hc];rfl
   rw[this];exact hbo
end
end Go.Proofs.YtpmebahhjgkflaaGreatDoor
