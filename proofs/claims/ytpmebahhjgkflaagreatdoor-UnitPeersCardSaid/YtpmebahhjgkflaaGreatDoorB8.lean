import Derived.Test.YtpmebahhjgkflaaGreatDoorB7
set_option maxHeartbeats 20000000
namespace Go.Proofs.YtpmebahhjgkflaaGreatDoor
open Go CF
set_option maxRecDepth 100000
section
variable {w u v w3:World} {S D D':Nat→Prop} {pw i m n ab:Nat} {a:UA} {s:USt} {st st':Wst} {F F':Int→Bool} {ℓ ℓ' ℓ1:Nat→Option Nat} {us:List (UA×USt)} {X:jN_} {R:A_→W_} {out:Sl} {l:L8} {c:Cm}
structure zH_ (w:World) (ℓ:Nat→Option Nat) (pw:Nat) (F:Int→Bool) (us:List (UA×USt)) (i:Nat) (a:UA) (n:Nat) (c:Cm) (out:Sl) (R:A_→W_):Prop where
 sel:c.kind=4→∀w2 ab,ac_ w w2→w.heap.size≤ab→Blk w2 ab z10 aa_→hR_ (some ⟨a.ub,0,none⟩) (n:Int) (cmv c).toArray out w2 (cG_ ab R)
 prout:c.kind=16→∀w2 ab,ac_ w w2→w.heap.size≤ab→Blk w2 ab z10 aa_→eE_ (some ⟨a.ub,0,none⟩) (n:Int) (cmv c).toArray out w2 (cG_ ab R)
 copy:c.kind=18→∀w2 ab,ac_ w w2→w.heap.size≤ab→Blk w2 ab z10 aa_→dL_ (some ⟨a.ub,0,none⟩) (n:Int) (cmv c).toArray out w2 (cG_ ab R)
def hX_ (F:Int→Bool) (s:USt) (st:Wst) (n:Nat) (c:Cm) (l:L8):jN_:=if c.kind=15 then⟨okX (pE_ (inX s.tab c.service) c.alloc),s,st⟩ else io_ F s st n c l
structure qW_ (k:Nat):Prop where
 fixed:k=2→∀{w:World} {s:Sn} {R:Sl→Int→W_},SnB s→(∀xs w',ac_ w w'→Own w' w.heap.size ae_ 1 xs (bv (jL_ s).1)→R xs ((jL_ s).2:Int) w')→jm_ (snv s).toArray w R
 desc:k=2→∀{w:World} {s:Sn} {R:Sl→Int→W_},SnB s→(∀xs w',ac_ w w'→Own w' w.heap.size ae_ 1 xs (bv (lZ_ s).1)→R xs ((lZ_ s).2:Int) w')→gV_ (snv s).toArray w R
 std:k=3→∀{w:World} {i:e0_} {R:Sl→W_},d5_ i=true→(∀xs w',ac_ w w'→Own w' w.heap.size ae_ 1 xs (bv (pD_ i))→R xs w')→l8_ (e1_ i).toArray w R
 page:k=3→∀{w:World} {i:e0_} {page:Nat} {R:Sl→Bool→W_},d5_ i=true→page<256→(∀xs w',ac_ w w'→Own w' w.heap.size ae_ 1 xs (bv ((ko_ i page).getD []))→R xs (ko_ i page).isSome w')→pT_ (e1_ i).toArray (page:Int) w R
 luns:k=17→∀{w:World} {p:Sl} {l:List Nat} {R:Sl→W_},Rd w 1 p (zS_ l)→l.length≤1000→(∀xs w',ac_ w w'→Own w' w.heap.size ae_ 1 xs (bv (xE_ l))→R xs w')→pU_ p w R
 msense:k=5→∀{w:World} {pb:Nat} {now saved:bF_} {c:Cm} {R:Sl→A_→Bool→W_},IsP w pb now saved→
  (match dE_ now saved c with
   | none=>∀w',ac_ w w'→R ap_ (snv (hJ_ 2 5 true)).toArray false w'
   | some l=>∀xs w',ac_ w w'→Own w' w.heap.size ae_ 1 xs (bv l)→R xs (snv sn0).toArray true w')→ge_ (some ⟨pb,0,none⟩) (cmv c).toArray w R
 prin:k=15→∀{w:World} {N:Nat→Prop} {pw:Nat} {a:UA} {s:USt} {svc:Nat} {R:Sl→W_},IsU w N pw a s→(∀b,N b→b<w.heap.size)→svc<256→(∀xs z,ac_ w z→Own z w.heap.size ae_ 1 xs (bv (inX s.tab svc))→R xs z)→l9_ (some ⟨a.ub,0,none⟩) (svc:Int) w R
 inlen:k=15→∀{t:a5_},eY_ t→∀svc:Nat,(inX t svc).length≤1000
 dev:k≠1→k≠2→k≠3→k≠17→k≠5→k≠4→k≠15→k≠16→k≠18→pB_ k
theorem wU_ (hN:c.kind≠4→c.kind≠16→c.kind≠18→qW_ c.kind) (H:Sys w ℓ pw st F us) (K:SOk st us m) (hm:m≤400000000) (hi:i<us.length) (he:us[i]=(a,s)) (hn:n<8) (hp:RdX w ℓ 1 out (bv l)) (hb:out.n≤140737488351232) (hc:jO_ c)
  (hR:c.kind≠4→c.kind≠16→c.kind≠18→gk_ w ℓ pw F us i a m (hX_ F s st n c l) R) (hP:zH_ w ℓ pw F us i a n c out R):bp_ (some ⟨a.ub,0,none⟩) (n:Int) (cmv c).toArray out w R:=by
 refine eJ_.calls _ _ _ _ _ _ (ah_ fun cb w1 hcb hb1 hg1 hs1=>ah_ fun ab w2 hab hb2 hg2 hs2=>?_)
 have g2:=hg1.trans hg2
 have hc2:Blk w2 cb (cmv c).toArray aD_:=hg2.heap hb1 (fun q=>q)
 have hb2:Blk w2 ab z10 aa_:=hb2
 have s1:=hg1.size
 have hab':w.heap.size≤ab:=o_
 have nab:ℓ ab=none:=H.fresh hab'
 have ncb:ℓ cb=none:=H.fresh o_
 have hset:=og_ hi he
 have hU:=(H.at hi he).1
 have KU:=K.at hi he
 have cAt:∀{v:World} {o:Nat} {x:Value},ac_ w2 v→(cmv c).toArray[o]?=some x→v.cell? ((⟨cb,0,none⟩:Addr).add o)=some x:=fun g e=>by rw[am_,Blk.cell (g.heap hc2 (fun q=>q)),Nat.zero_add];exact e
 have cl:∀{v:World},ac_ w2 v→(loadVar aD_ ⟨cb,0,none⟩).run Tryz.prog v=.ok (.agg (cmv c).toArray) v:=fun g=>oG_ (ax_ (g.heap hc2 (fun q=>q)))
 refine⟨(c.kind:Int),cAt (ab_.refl _ _) rfl,?_⟩
 have done:∀{v:World} {x:L8} {xs:Sl} {w4:World},gk_ w ℓ pw F us i a m ⟨okX x,s,st⟩ R→ac_ w2 w4→ac_ w4 v→Own v w4.heap.size ae_ 1 xs (bv x)→cG_ ab R (rsv 0 sn0 xs).toArray v:=fun {v x xs w4} hR g g' o=>by
  have gv:=g2.trans (g.trans g')
  refine hR.ret (X:=⟨okX x,s,st⟩) (d:=xs) (Mv.grow gv) ?_ ?_ (Dat.new H (g2.trans g) o) hab' nab ((g.trans g').heap hb2 (fun q=>q))
  ·show Sys v ℓ pw st F (us.set i (a,s));rw[hset];exact H.grow gv
  ·show SOk st (us.set i (a,s)) (m+200000);rw[hset];exact K.mono o_
 have fail:∀{v:World} {x:Sn},gk_ w ℓ pw F us i a m ⟨snX x,s,st⟩ R→ac_ w2 v→cG_ ab R (rsv 2 x ap_).toArray v:=fun {v x} hR g=>by
  have gv:=g2.trans g
  refine hR.ret (X:=⟨snX x,s,st⟩) (d:=ap_) (Mv.grow gv) ?_ ?_ (Dat.nil _ _ _) hab' nab (g.heap hb2 (fun q=>q))
  ·show Sys v ℓ pw st F (us.set i (a,s));rw[hset];exact H.grow gv
  ·show SOk st (us.set i (a,s)) (m+200000);rw[hset];exact K.mono o_
 have base:c.kind≠15→hX_ F s st n c l=io_ F s st n c l:=fun h=>if_neg h
 refine aw_ (y:=1) (fun k=>?_) (fun k1=>?_)
 ·have hR:=hR o_ o_ o_
  rw[base o_] at hR
  unfold io_ at hR
  rw[if_pos o_] at hR
  exact done (xs:=ap_) hR (ab_.refl _ _) (ab_.refl _ _) (aK_ _ _ _ _)
 refine aw_ (y:=2) (fun k=>?_) (fun k2=>?_)
 ·have hR:=hR o_ o_ o_
  rw[base o_] at hR
  unfold io_ at hR
  rw[if_neg o_,if_pos o_] at hR
  refine ah_ fun sb w3 hsb hb3 hg3 hs3=>ar_ (cells:=(snv sn0).toArray) hb3 ba_ rfl rfl (by simp[snv,sn0,Value.oneCell']) fun w4 hb4 hk4 hs4=>?_
  have g4':ac_ w2 w4:=hg3.keep hk4 fun b hb q=>o_
  have g4:=g2.trans g4'
  have H4:=H.grow g4
  obtain⟨hU4,hown⟩:=H4.at hi he
  obtain⟨z1,z2,z3,z4,z5,z6,z7⟩:=dC_ a
  have nqb:ℓ a.qb=some (i+1):=hown _ z7
  refine⟨rfl,some ⟨a.qb,0,none⟩,hU4.cellU fun P=>rfl,?_⟩
  refine mH_ hU4.q hn (by rw[nqb];exact Option.some_ne_none _) H4.lt fun w5 hk5 hq5=>?_
  have sfq:bg_ w4 (fun k=>ℓ k≠none) fun b=>b=a.qb:=bg_.sub fun b _ q=>by rw[q,nqb];exact Option.some_ne_none _
  have hU5:IsU w5 (fun k=>ℓ k≠none) pw a (a1_ s n):=hU4.que hk5 sfq (fun b _ hne q=>hne q) (fun _ q=>.inl q) hq5
  obtain⟨m5,H5⟩:=H4.putA hi he hk5 (fun b _ q=>by rw[q];exact z7) hU5
  have m5:Mv w w5 ℓ ℓ:=(Mv.grow g4).trans m5
  have nsb:ℓ sb=none:=H.fresh (by have:=g2.size;omega)
  have hs5:Blk w5 sb (snv sn0).toArray aL_:=hk5.heap hb4 (by rintro rfl;rw[nqb] at nsb;cases nsb)
  have hc5:Blk w5 cb (cmv c).toArray aD_:=hk5.heap (g4'.heap hc2 (fun q=>q)) (by rintro rfl;rw[nqb] at ncb;cases ncb)
  have ha5:Blk w5 ab z10 aa_:=hk5.heap (g4'.heap hb2 (fun q=>q)) (by rintro rfl;rw[nqb] at nab;cases nab)
  have s4:=g4.size
  have s5:=hk5.size
  have hsbw:w.heap.size≤sb:=by have:=g2.size;omega
  have wok:=r7_ (hU.q.few n hn).2
  have go:∀v,ac_ w5 v∨ab_ (fun k=>k=sb) w5 v→Blk v sb (snv (gQ_ (s.q n))).toArray aL_→Mv w v ℓ ℓ→Sys v ℓ pw st F (us.set i (a,a1_ s n))→∃g:A_,(loadVar aL_ ⟨sb,0,none⟩).run Tryz.prog v=.ok (.agg g) v∧jm_ g v fun xs n2 w07=>∃b1:Bool,w07.cell? ((⟨cb,0,none⟩:Addr).add 1)=some (.bool b1)∧aY_ (fun(p1:Sl) (w08:World)=>∃n3:Int,w08.cell? ((⟨cb,0,none⟩:Addr).add 4)=some (.int .i64 n3)∧c0_ p1 n3 w08 fun xs1 w09=>cG_ ab R (rsv 0 sn0 xs1).toArray w09) fun J_=>Br b1 (∃g1:A_,(loadVar aL_ ⟨sb,0,none⟩).run Tryz.prog w07=.ok (.agg g1) w07∧gV_ g1 w07 fun xs2 n4 w011=>J_ xs2 w011) (J_ xs w07):=fun v gv bv0 mv Hv=>by
   have k5v:ab_ (fun k=>k=sb) w5 v:=gv.elim (fun g=>g.mono fun _ _ q=>q.elim) id
   have cbsb:cb≠sb:=bR_ hc5 hs5 d_
   have absb:ab≠sb:=bR_ ha5 hs5 d_
   have hcv:Blk v cb (cmv c).toArray aD_:=k5v.heap hc5 cbsb
   have hav:Blk v ab z10 aa_:=k5v.heap ha5 absb
   refine⟨_,hC_ (ax_ bv0),(hN o_ o_ o_).fixed o_ wok fun xs w7 g7 o7=>⟨c.long,by rw[am_,Blk.cell (g7.heap hcv (fun q=>q))];rfl,?_⟩⟩
   refine bw_ (fun p z=>ac_ v z∧Own z v.heap.size ae_ 1 p (bv (if c.long then(lZ_ (gQ_ (s.q n))).1 else(jL_ (gQ_ (s.q n))).1))) ?_ (fun J=>?_)
   ·rintro p z ⟨gz,oz⟩
    refine⟨c.alloc,by rw[am_,Blk.cell (gz.heap hcv (fun q=>q))];rfl,?_⟩
    have hl:(if c.long then(lZ_ (gQ_ (s.q n))).1 else(jL_ (gQ_ (s.q n))).1).length≤1000:=by
     have:=vE_ (gQ_ (s.q n));have:=uj_ (gQ_ (s.q n));split<;>omega
    obtain⟨r1,r2⟩:=mS_ oz hl
    refine jK_ r1 r2 fun x z2 g9 o9=>?_
    have gv2:=gz.trans g9
    refine hR.ret (X:=⟨okX (y8_ c (s.q n)),a1_ s n,st⟩) (d:=x) (mv.go gv2) (Hv.grow gv2) ((K.put (x:=(a,a1_ s n)) (KU.same KU.good rfl rfl rfl rfl rfl rfl)).mono o_) ⟨o9.mono ?_,fun b hb=>H.fresh ?_⟩ hab' nab (gv2.heap hav (fun q=>q))
    ·have:=k5v.size;have:=gz.size;omega
    ·have:=(o9.ge b hb).1;have:=k5v.size;have:=gz.size;omega
   ·cases hlg:c.long with
    | true=>rw[hlg,if_pos rfl] at J;exact ao_ rfl ⟨_,hC_ (ax_ (g7.heap bv0 (fun q=>q))),(hN o_ o_ o_).desc o_ wok fun x2 w8 g8 o8=>J x2 w8 ⟨g7.trans g8,o8.mono g7.size⟩⟩
    | false=>rw[hlg,if_neg Bool.noConfusion] at J;exact al_ rfl (J xs w7 ⟨g7,o7⟩)
  unfold gQ_ at go
  cases hpk:cW_ (s.q n) with
  | none=>
   rw[hpk] at go
   refine dy_ (fun v=>v=w5) ?_ (fun J=>al_ rfl (J w5 rfl))
   intro v e
   rw[e]
   exact go w5 (.inl (ab_.refl _ _)) hs5 m5 H5
  | some code=>
   rw[hpk] at go
   refine dy_ (fun v=>ab_ (fun k=>k=sb) w5 v∧Blk v sb (snv (uaS code)).toArray aL_) ?_ (fun J=>?_)
   ·rintro v ⟨kv,bv0⟩
    exact go v (.inr kv) bv0 (m5.loc kv fun b hb q=>o_) (H5.local1 hs5 nsb kv (e3_ d_ d_ d_) d_)
   ·exact ao_ rfl (ar_ (cells:=(snv (uaS code)).toArray) hs5 ba_ rfl rfl (by simp[snv,Value.oneCell']) fun v bv0 kv _=>J v ⟨kv,bv0⟩)
 refine aw_ (y:=3) (fun k=>?_) (fun k3=>?_)
 ·have hR:=hR o_ o_ o_
  rw[base o_] at hR
  unfold io_ at hR
  rw[if_neg o_,if_neg o_,if_pos o_] at hR
  have hU2:=hU.grow g2
  have info:∀{v:World},ac_ w2 v→(loadVar lz_ ((gA (some (⟨a.ub,0,none⟩:Addr))).add 0)).run Tryz.prog v=.ok (.agg (e1_ s.inf).toArray) v:=fun {v} g=>by
   obtain⟨P,hbu,_⟩:=(hU2.grow g).unit
   refine aC_ (cs:=e1_ s.inf) lA_ iX_ rfl fun j x hj=>?_
   rw[gA,am_,am_,hbu.cell,Nat.zero_add]
   rw[show dc_ a P s=(e1_ s.inf++[ptr a.dv,ptr a.sl,ptr a.pg,ptr a.tb,ptr a.qb,.slice P.A P.n P.c,.int .u32 (s.on:Int),.int .i32 (s.lock:Int),.int .u32 0,.int .i64 (s.fault:Int),.int .i64 (s.count:Int)]).toArray from rfl,List.getElem?_toArray]
   rw[List.getElem?_append_left (by simpa using (List.getElem?_eq_some_iff.1 (by simpa using hj)).1)]
   simpa using hj
  refine⟨rfl,_,info (ab_.refl _ _),(hN o_ o_ o_).std o_ KU.form fun xs w3 g3 o3=>⟨c.evpd,cAt g3 rfl,?_⟩⟩
  refine xw_ (fun p ok v=>ac_ w2 v∧(match (if c.evpd then ko_ s.inf c.page else some (pD_ s.inf)) with|some d=>ok=true∧Own v w2.heap.size ae_ 1 p (bv d)|none=>ok=false)) ?_ (fun J=>?_)
  ·rintro p ok v ⟨gv,h⟩
   cases hd:(if c.evpd then ko_ s.inf c.page else some (pD_ s.inf)) with
   | none=>
    rw[hd] at h hR
    subst h
    refine ao_ rfl (e2_ fun w5 g5=>bE_ fun w6 g6=>fail hR ((gv.trans g5).trans g6))
   | some d=>
    rw[hd] at h hR
    obtain⟨rfl,o⟩:=h
    refine al_ rfl ⟨c.alloc,cAt gv rfl,?_⟩
    have hl:d.length≤1000:=by
     cases hev:c.evpd with
     | true=>rw[hev,if_pos rfl] at hd;exact vF_ hd
     | false=>rw[hev,if_neg Bool.noConfusion] at hd;injection hd with hd;subst hd;exact wT_ _
    obtain⟨r1,r2⟩:=mS_ o hl
    exact jK_ r1 r2 fun x z g9 o9=>done hR gv g9 o9
  ·cases hev:c.evpd with
   | true=>
    rw[hev,if_pos rfl] at J
    refine ao_ rfl ?_
    rintro w4 rfl
    have g4:ac_ w2 w3.drew:=g3.trans (aq_ w3)
    refine⟨fun z=>z=w3.drew,rfl,rfl,_,(by rintro z rfl;exact info g4),(c.page:Int),(by rintro z rfl;exact cAt g4 rfl),(hN o_ o_ o_).page o_ KU.form hc.page fun x w5 g5 o5=>J x _ w5 ⟨g4.trans g5,?_⟩⟩
    cases hd:ko_ s.inf c.page with
    | none=>rfl
    | some d=>rw[hd] at o5;exact⟨rfl,o5.mono g4.size⟩
   | false=>
    rw[hev,if_neg Bool.noConfusion] at J
    exact al_ rfl (J xs true w3 ⟨g3,rfl,o3⟩)
 refine aw_ (y:=17) (fun k=>?_) (fun k17=>?_)
 ·have hR:=hR o_ o_ o_
  rw[base o_] at hR
  unfold io_ at hR
  rw[if_neg o_,if_neg o_,if_neg o_,if_pos o_] at hR
  rintro w3 rfl
  have g3:=aq_ w2
  generalize w2.drew=w3 at *
  refine⟨fun v=>ac_ w2 v,g3,c.alloc,fun v q=>cAt q rfl,?_⟩
  refine aH_ (cells:=#[.int .i64 0]) (e:=qH_) (z:=1) (base:=w3.heap.size) k_ rfl d_ (Nat.le_refl _) fun w4 o4 g4 _=>⟨g3.trans g4,?_⟩
  refine(hN o_ o_ o_).luns o_ (l:=[0]) (o4.rd (by dsimp only;decide)) d_ fun x w5 g5 o5=>⟨(g3.trans g4).trans g5,?_⟩
  obtain⟨r1,r2⟩:=mS_ o5 d_
  refine jK_ r1 r2 fun y w6 g6 o6=>⟨((g3.trans g4).trans g5).trans g6,fun v=>ac_ w2 v,((g3.trans g4).trans g5).trans g6,fun _ q=>q,?_⟩
  exact done hR ((g3.trans g4).trans g5) g6 o6
 refine aw_ (y:=5) (fun k=>?_) (fun k5=>?_)
 ·have hR:=hR o_ o_ o_
  rw[base o_] at hR
  unfold io_ at hR
  rw[if_neg o_,if_neg o_,if_neg o_,if_neg o_,if_pos o_] at hR
  rintro w3 rfl
  have g3:=aq_ w2
  generalize w2.drew=w3 at *
  have gw3:=g2.trans g3
  have hU3:=hU.grow gw3
  have pgs:∀{v:World},ac_ w2 v→v.cell? ((gA (some (⟨a.ub,0,none⟩:Addr))).add 7)=some (.pointer (some ⟨a.pg,0,none⟩)):=fun g=>((hU.grow g2).grow g).cellU fun P=>rfl
  have tail:∀{v:World} {sb:Nat} {x:Sn} {b:Bool} {xs:Sl} {w0:World},ac_ w2 w0→ac_ w0 v→Blk v sb (snv x).toArray aL_→(match dE_ s.now s.saved c with|none=>b=false∧x=hJ_ 2 5 true|some d=>b=true∧Own v w0.heap.size ae_ 1 xs (bv d))→Br (!b) (∃g8:A_,(loadVar aL_ ⟨sb,0,none⟩).run Tryz.prog v=.ok (.agg g8) v∧a8_ g8 v fun g9 w031=>cG_ ab R g9 w031) (∃n8:Int,v.cell? ((⟨cb,0,none⟩:Addr).add 4)=some (.int .i64 n8)∧c0_ xs n8 v fun xs10 w033=>cG_ ab R (rsv 0 sn0 xs10).toArray w033):=fun {v sb x b xs w0} g0 gv hb h=>by
   cases hd:dE_ s.now s.saved c with
   | none=>
    rw[hd] at h hR
    obtain⟨rfl,rfl⟩:=h
    exact ao_ rfl ⟨_,hC_ (ax_ hb),bE_ fun w5 g5=>fail hR ((g0.trans gv).trans g5)⟩
   | some d=>
    rw[hd] at h hR
    obtain⟨rfl,o⟩:=h
    obtain⟨r1,r2⟩:=mS_ o (sL_ hd)
    exact al_ rfl ⟨c.alloc,cAt (g0.trans gv) rfl,jK_ r1 r2 fun x z g9 o9=>done hR (g0.trans gv) g9 o9⟩
  refine⟨fun v=>ac_ w2 v,g3,rfl,some ⟨a.pg,0,none⟩,fun v q=>pgs q,(cmv c).toArray,fun v q=>cl q,?_,?_⟩
  ·have key:∀xs x b w4,ac_ w3 w4→(match dE_ s.now s.saved c with|none=>b=false∧x=hJ_ 2 5 true|some d=>b=true∧Own w4 w3.heap.size ae_ 1 xs (bv d))→New (.cells #[.int .u8 0,.int .u16 0,.int .u64 0,.bool false,.int .i64 0,.int .i64 0,.bool false,.bool false] aL_) w4 fun s1 w029=>ac_ w2 w029∧ag_ Tryz.prog (storeVar aL_ s1 (.agg (snv x).toArray)) w029 fun w030=>Br (!b) (∃g8:A_,(loadVar aL_ s1).run Tryz.prog w030=.ok (.agg g8) w030∧a8_ g8 w030 fun g9 w031=>cG_ ab R g9 w031) (∃n8:Int,w030.cell? ((⟨cb,0,none⟩:Addr).add 4)=some (.int .i64 n8)∧c0_ xs n8 w030 fun xs10 w033=>cG_ ab R (rsv 0 sn0 xs10).toArray w033):=fun xs x b w4 g4 h=>by
    refine ah_ fun sb w5 hsb hb5 hg5 hs5=>⟨(g3.trans g4).trans hg5,ar_ (cells:=(snv x).toArray) hb5 ba_ rfl rfl (by simp[snv,Value.oneCell']) fun w6 hb6 hk6 _=>?_⟩
    have g46:ac_ w4 w6:=hg5.keep hk6 fun b hb q=>o_
    refine tail g3 (g4.trans g46) hb6 ?_
    cases hd:dE_ s.now s.saved c with
    | none=>rw[hd] at h;exact h
    | some d=>rw[hd] at h;exact⟨h.1,h.2.grow g46⟩
   refine(hN o_ o_ o_).msense o_ hU3.pages ?_
   cases hd:dE_ s.now s.saved c with
   | none=>exact fun w4 g4=>key ap_ (hJ_ 2 5 true) false w4 g4 (by rw[hd];exact⟨rfl,rfl⟩)
   | some d=>exact fun xs w4 g4 o4=>key xs sn0 true w4 g4 (by rw[hd];exact⟨rfl,o4⟩)
  ·refine ah_ fun sb w4 hsb hb4 hg4 hs4=>⟨g3.trans hg4,?_⟩
   have key:∀xs x b w5,ac_ w4 w5→(match dE_ s.now s.saved c with|none=>b=false∧x=hJ_ 2 5 true|some d=>b=true∧Own w5 w4.heap.size ae_ 1 xs (bv d))→ag_ Tryz.prog (storeVar aL_ ⟨sb,0,none⟩ (.agg (snv x).toArray)) w5 fun w030=>Br (!b) (∃g8:A_,(loadVar aL_ ⟨sb,0,none⟩).run Tryz.prog w030=.ok (.agg g8) w030∧a8_ g8 w030 fun g9 w031=>cG_ ab R g9 w031) (∃n8:Int,w030.cell? ((⟨cb,0,none⟩:Addr).add 4)=some (.int .i64 n8)∧c0_ xs n8 w030 fun xs10 w033=>cG_ ab R (rsv 0 sn0 xs10).toArray w033):=fun xs x b w5 g5 h=>by
    refine ar_ (cells:=(snv x).toArray) (g5.heap hb4 (fun q=>q)) ba_ rfl rfl (by simp[snv,Value.oneCell']) fun w6 hb6 hk6 _=>?_
    have g36:ac_ w3 w6:=(hg4.trans g5).keep hk6 fun b hb q=>o_
    refine tail g3 g36 hb6 ?_
    cases hd:dE_ s.now s.saved c with
    | none=>rw[hd] at h;exact h
    | some d=>rw[hd] at h;exact⟨h.1,(h.2.keep hk6 fun b hb q=>by have:=(h.2.ge b hb).1;omega).mono hg4.size⟩
   refine(hN o_ o_ o_).msense o_ (hU3.grow hg4).pages ?_
   cases hd:dE_ s.now s.saved c with
   | none=>exact fun w5 g5=>key ap_ (hJ_ 2 5 true) false w5 g5 (by rw[hd];exact⟨rfl,rfl⟩)
   | some d=>exact fun xs w5 g5 o5=>key xs sn0 true w5 g5 (by rw[hd];exact⟨rfl,o5⟩)
 refine aw_ (y:=4) (fun k=>⟨_,cl (ab_.refl _ _),hP.sel o_ w2 ab g2 hab' hb2⟩) (fun k4=>?_)
 refine aw_ (y:=15) (fun k=>?_) (fun k15=>?_)
 ·have hR:=hR o_ o_ o_
  unfold hX_ at hR
  rw[if_pos o_] at hR
  rintro w3 rfl
  have g3:=aq_ w2
  generalize w2.drew=w3 at *
  have H3:=H.grow (g2.trans g3)
  refine⟨fun v=>ac_ w2 v,g3,(c.service:Int),fun v q=>cAt q rfl,c.alloc,fun v q=>cAt q rfl,(hN o_ o_ o_).prin o_ (H3.at hi he).1 H3.lt hc.service fun x w5 g5 o5=>⟨g3.trans g5,?_⟩⟩
  obtain⟨r1,r2⟩:=mS_ o5 ((hN o_ o_ o_).inlen o_ hU.tab.ok c.service)
  refine jK_ r1 r2 fun y w6 g6 o6=>⟨(g3.trans g5).trans g6,fun v=>ac_ w2 v,(g3.trans g5).trans g6,fun _ q=>q,?_⟩
  exact done hR (g3.trans g5) g6 o6
 refine aw_ (y:=16) (fun k=>⟨_,cl (ab_.refl _ _),hP.prout o_ w2 ab g2 hab' hb2⟩) (fun k16=>?_)
 refine aw_ (y:=18) (fun k=>⟨_,cl (ab_.refl _ _),hP.copy o_ w2 ab g2 hab' hb2⟩) (fun k18=>?_)
 have hR:=hR o_ o_ o_
 rw[base o_] at hR
 unfold io_ at hR
 rw[if_neg o_,if_neg o_,if_neg o_,if_neg o_,if_neg o_] at hR
 rintro w3 rfl
 have g3:=aq_ w2
 generalize w2.drew=w3 at *
 have gw3:=g2.trans g3
 refine⟨fun v=>ac_ w2 v,g3,rfl,some ⟨a.dv,0,none⟩,fun v q=>((hU.grow g2).grow q).cellU fun P=>rfl,(cmv c).toArray,fun v q=>cl q,?_⟩
 refine yg_ ((hN o_ o_ o_).dev o_ o_ o_ o_ o_ o_ o_ o_ o_) (H.grow gw3) K hm hi he ((Mv.grow gw3).rdX hp) hb hc.lba hc.blocks fun u ℓ' d mv Hu Ku dt=>?_
 refine hR.ret (X:=⟨(doX F s.inf.prot s.n s.cache s.file st c l).1,s,(doX F s.inf.prot s.n s.cache s.file st c l).2⟩) (d:=d) ((Mv.grow gw3).trans mv) ?_ ?_ (dt.from gw3.size) hab' ?_ (mv.heap (g3.heap hb2 (fun q=>q)) nab)
 ·show Sys u ℓ' pw _ F (us.set i (a,s));rw[hset];exact Hu
 ·show SOk _ (us.set i (a,s)) (m+200000);rw[hset];exact Ku.mono o_
 ·rw[mv.lab ab (au_ (g3.heap hb2 (fun q=>q)))];exact nab
end
open Go CF
def l2_ (v:bF_) (j:Nat):Nat:=(if v.wce=true∧0<j then 1 else 0)+(if v.ds=true∧1<j then 2 else 0)+(if v.swp=true∧2<j then 4 else 0)
def l3_ (v:bF_):Nat:=l2_ v 3
def hK_ (n:Nat):bF_:=⟨decide (n%2=1),decide (n/2%2=1),decide (n/4%2=1)⟩
theorem yh_ (v:bF_):l3_ v≤7:=by unfold l3_ l2_;split<;>split<;>split<;>decide
def g1_ (s:USt):L8:=UInt8.ofNat (l3_ s.saved)::nh_ s.tab
def b6_ (F:Int→Bool) (s:USt) (st:Wst):Bool×USt×Wst:=
 (decide ((cH_ F st s.keepf ⟨s.sure,s.at_,s.gen⟩ (g1_ s)).1=0),
 {s with sure:=(cH_ F st s.keepf ⟨s.sure,s.at_,s.gen⟩ (g1_ s)).2.1.sure,at_:=(cH_ F st s.keepf ⟨s.sure,s.at_,s.gen⟩ (g1_ s)).2.1.at_,gen:=(cH_ F st s.keepf ⟨s.sure,s.at_,s.gen⟩ (g1_ s)).2.1.gen},
 (cH_ F st s.keepf ⟨s.sure,s.at_,s.gen⟩ (g1_ s)).2.2)
structure fn_ (st st':Wst) (file:ByteArray) (k:Nat):Prop where
 ops:st'.ops≤st.ops+k
 waits:st'.waits.length≤st.waits.length+k
 ok:Wok st→Wok st'
 seen:∀f,(∀i,i<2→f≠nmS file i)→st'.seen f=st.seen f
theorem fn_.refl (st:Wst) (file:ByteArray):fn_ st st file 0:=⟨Nat.le_refl _,Nat.le_refl _,id,fun _ _=>rfl⟩
theorem fn_.trans {a b c:Wst} {file:ByteArray} {j k:Nat} (h:fn_ a b file j) (g:fn_ b c file k):fn_ a c file (j+k):=⟨by have:=h.ops;have:=g.ops;omega,by have:=h.waits;have:=g.waits;omega,fun q=>g.ok (h.ok q),fun f hf=>(g.seen f hf).trans (h.seen f hf)⟩
theorem fn_.le {a b:Wst} {file:ByteArray} {j k:Nat} (h:fn_ a b file j) (hk:j≤k):fn_ a b file k:=⟨by have:=h.ops;omega,by have:=h.waits;omega,h.ok,h.seen⟩
theorem ks_ (st:Wst) (file:ByteArray) (k:Nat):fn_ st (more st k) file k:=⟨Nat.le_refl _,by show st.waits.length≤_;omega,id,fun _ _=>rfl⟩
theorem sM_ (st:Wst) (file:ByteArray):fn_ st (jC_ st) file 1:=⟨Nat.le_refl _,Nat.zero_le _,fun _ c hc=>(by cases hc),fun _ _=>rfl⟩
theorem qj_ {st:Wst} {file:ByteArray} {i:Nat} {r:L8} (hi:i<2) (hr:r.length≤1048576):fn_ st (b0_ st (nmS file i) 0 r) file 1:=by
 refine⟨Nat.le_refl _,by simp[b0_],fun q c hc=>?_,fun f hf=>?_⟩
 ·rcases List.mem_append.1 hc with q2|q2
  ·exact q c q2
  ·rw[List.mem_singleton.1 q2]
   exact⟨rfl,by show 0+r.length≤_;omega⟩
 ·show eK_ st.seen (nmS file i) 0 r f=_
  unfold eK_ ps_
  rw[if_neg (hf i hi)]
theorem vH_ (x:Int):toS x<2:=by unfold toS;split<;>decide
theorem wV_ {F:Int→Bool} {b n k:Nat} (h:ij_ F b n=some k):k<n:=by
 unfold ij_ at h
 have:=List.mem_of_find?_eq_some h
 exact List.mem_range.1 this
theorem mT_ {F:Int→Bool} {st:Wst} {file:ByteArray} {x:SlX}:fn_ st (aQ_ F st file x).2.2.2.2 file 2:=by
 unfold aQ_
 cases h:ij_ F st.ops 2 with
 | some k=>exact(ks_ st file (k+1)).le (by have:=wV_ h;omega)
 | none=>exact ks_ st file 2
theorem o2_ {F:Int→Bool} {st:Wst} {file:ByteArray} {x:SlX} {l:L8} (hl:l.length≤4096):fn_ st (ef_ F st file x l).2.2 file 2:=by
 unfold ef_
 have hr:=n9_ (hF_ x.gen) l
 split
 ·exact(ks_ st file 1).le d_
 ·split
  ·exact(qj_ (vH_ _) o_).trans (ks_ _ file 1)
  ·exact(qj_ (vH_ _) o_).trans (sM_ _ file)
theorem mU_ {F:Int→Bool} {st:Wst} {file:ByteArray} {x:SlX} {l:L8} (hl:l.length≤4096):fn_ st (cH_ F st file x l).2.2 file 4:=by
 unfold cH_
 split
 ·exact(o2_ hl).le d_
 split
 ·exact mT_.le d_
 ·exact mT_.trans (o2_ hl)
theorem SOk.near {st st':Wst} {us:List (UA×USt)} {m k:Nat} {file:ByteArray} (h:SOk st us m) (n:fn_ st st' file k):SOk st' us (m+k):=by
 refine⟨n.ok h.wok,⟨by have:=n.ops;have:=h.few;omega,by have:=n.waits;have:=h.few;omega⟩,fun x hx=>?_⟩
 have ok:=h.units x hx
 obtain⟨b,_,_,e,_⟩:=ok.name
 refine ok.same ?_ rfl rfl rfl rfl rfl rfl
 have:bC_ st' x.2.file=bC_ st x.2.file:=kr_ (n.seen _ fun i hi q=>by rw[e] at q;exact sK_ hi q.symm)
 rw[this];exact ok.good
section
variable {w u v w3:World} {S D D':Nat→Prop} {pw i m n ab:Nat} {a:UA} {s:USt} {st st':Wst} {F F':Int→Bool} {ℓ ℓ' ℓ1:Nat→Option Nat} {us:List (UA×USt)}
theorem sN_ {x:bF_} {R:Int→W_} (hR:∀w',ac_ w w'→R ((l3_ x:Nat):Int) w'):kE_ (vlv x).toArray w R:=by
 refine ib_.calls _ _ _ (ah_ fun vb w1 hvb hb1 hg1 hs1=>?_)
 have hb1:Blk w1 vb (vlv x).toArray gA_:=hb1
 refine⟨x.wce,rX_ hb1 rfl,x.ds,rX_ hb1 rfl,x.swp,rX_ hb1 rfl,?_⟩
 refine aH_ (cells:=#[.bool x.wce,.bool x.ds,.bool x.swp]) (e:=yH_) (z:=1) (base:=w1.heap.size) k_ rfl d_ (Nat.le_refl _) fun w2 o2 g2 _=>?_
 have r2:Rd w2 1 ⟨some ⟨w1.heap.size,0,none⟩,3,3⟩ [.bool x.wce,.bool x.ds,.bool x.swp]:=o2.rd (by dsimp only;decide)
 refine⟨fun b y v=>∃j:Nat,y=j∧j≤3∧b=((l2_ x j:Nat):Int)∧ac_ w2 v,fun _ y _=>3-y.toNat,⟨0,rfl,d_,by unfold l2_;simp,ab_.refl _ _⟩,?_⟩
 rintro b y v ⟨j,rfl,hj,rfl,hg⟩
 refine bh_ (y:=3) (fun hlt=>?_) (fun hge=>?_)
 ·refine bw_ (fun b' v'=>v'=v∧b'=((l2_ x (j+1):Nat):Int)) ?_ (fun J=>?_)
  ·rintro b' v' ⟨rfl,rfl⟩
   rw[w64 o_ o_]
   exact⟨⟨j+1,o_,o_,rfl,hg⟩,by dsimp only;omega⟩
  ·have hv:=(r2.grow hg).elem (i:=j) (by dsimp only;omega) d_
   obtain⟨aa,ha,hc⟩:=hv
   refine⟨⟨o_,by dsimp only;omega,rfl⟩,([x.wce,x.ds,x.swp]:List Bool)[j]'(by simpa using hlt),?_,?_⟩
   ·obtain⟨_,h2⟩:=iD_ (r2.grow hg) (i:=j) (by simpa using hlt)
    rw[Int.toNat_natCast,h2]
    have:∀j:Fin 3,([Value.bool x.wce,.bool x.ds,.bool x.swp]:List Value)[j.val]'(j.isLt)=.bool (([x.wce,x.ds,x.swp]:List Bool)[j.val]'(j.isLt)):=by
     intro j
     match j with
     | ⟨0,_⟩=>rfl
     | ⟨1,_⟩=>rfl
     | ⟨2,_⟩=>rfl
    exact congrArg some (this ⟨j,hlt⟩)
   ·have key:∀(x:bF_) (j:Fin 3),(([x.wce,x.ds,x.swp]:List Bool)[j.val]'(j.isLt)=true→bOr .u8 ((l2_ x j.val:Nat):Int) (cu_ .u8 1 ((j.val:Nat):Int).toNat)=((l2_ x (j.val+1):Nat):Int))∧(([x.wce,x.ds,x.swp]:List Bool)[j.val]'(j.isLt)=false→l2_ x j.val=l2_ x (j.val+1)):=by
     rintro⟨a,b,c⟩ j
     revert j
     cases a<;>cases b<;>cases c<;>decide +kernel
    obtain⟨k1,k2⟩:=key x ⟨j,hlt⟩
    cases hx:([x.wce,x.ds,x.swp]:List Bool)[j]'(by simpa using hlt) with
    | true=>exact ao_ rfl ⟨o_,J _ v ⟨rfl,k1 hx⟩⟩
    | false=>exact al_ rfl (J _ v ⟨rfl,congrArg _ (k2 hx)⟩)
 ·have:j=3:=o_
  subst this
  exact hR v ((hg1.trans g2).trans hg)
theorem r8_ {k:Nat} {R:A_→W_} (hk:k≤7) (hR:∀w',ac_ w w'→R (vlv (hK_ k)).toArray w'):jn_ (k:Int) w R:=by
 refine hm_.calls _ _ _ (ah_ fun ab w1 hab hb1 hg1 hs1=>?_)
 have key:∀k:Fin 8,((br_ .u8 ((k.val:Nat):Int) 1) != 0)=(hK_ k.val).wce∧((br_ .u8 ((k.val:Nat):Int) 2) != 0)=(hK_ k.val).ds∧((br_ .u8 ((k.val:Nat):Int) 4) != 0)=(hK_ k.val).swp:=by decide +kernel
 obtain⟨e1,e2,e3⟩:=key ⟨k,o_⟩
 dsimp only at e1 e2 e3
 rw[e1,e2,e3]
 exact ar_ (cells:=(vlv (hK_ k)).toArray) hb1 ca_ rfl rfl (by simp[vlv,Value.oneCell']) fun w2 hb2 hk2 _=>⟨_,ue_ (ax_ hb2),hR w2 (hg1.keep hk2 fun i hi q=>o_)⟩
theorem r9_ {ps:Nat} {file:ByteArray} {nb:Nat} {cache on:Bool} {R:W_} (hS:IsS w ps pw file nb cache) (h:∀u,ab_ (fun k=>k=ps) w u→IsS u ps pw file nb on→R u):eF_ (some ⟨ps,0,none⟩) on w R:=by
 refine cS_.calls _ _ _ _ (ao_ rfl ⟨rfl,?_⟩)
 rw[gA,am_]
 exact a2_ hS (by show 3<4;decide) rfl fun u hb hk _=>h u hk hb
theorem oh_ {s:USt} (ok:eY_ s.tab):(g1_ s).length≤78:=by
 have:=qh_ ok
 unfold g1_
 rw[List.length_cons];omega
theorem vI_ {R:Int→Int→W_} {p:Sl} (H:Sys w ℓ pw st F us) (K:SOk st us m) (hm:m≤500000000) (hi:i<us.length) (he:us[i]=(a,s)) (hp:∀u,Mv w u ℓ ℓ→Rd u 1 p (bv (g1_ s)))
  (hR:∀u ℓ' g,Mv w u ℓ ℓ'→Sys u ℓ' pw (b6_ F s st).2.2 F (us.set i (a,(b6_ F s st).2.1))→SOk (b6_ F s st).2.2 (us.set i (a,(b6_ F s st).2.1)) (m+4)→R g (((cH_ F st s.keepf ⟨s.sure,s.at_,s.gen⟩ (g1_ s)).1:Nat):Int) u):cp_ (some ⟨a.sl,0,none⟩) p w R:=by
 obtain⟨hU,hown⟩:=H.at hi he
 obtain⟨z1,z2,z3,z4,z5,z6,z7⟩:=dC_ a
 obtain⟨D,hW,hD⟩:=H.W
 have own:∀{b},a.set b→ℓ b≠none:=fun hb=>by rw[hown _ hb];exact Option.some_ne_none _
 have KU:=K.at hi he
 have e1:us[i].1=a:=by rw[he]
 have pl:=oh_ hU.tab.ok
 refine pC_ (x:=⟨s.sure,s.at_,s.gen⟩) hU.slots (fun q=>by have:=hD _ q;rw[hown _ z4] at this;injection this with this;omega) hW K.wok KU.sizes.2 (by have:=K.few;omega) (by have:=K.few;omega) (l:=g1_ s) o_ (fun u k=>hp u ⟨k.mono fun b _ q=>?_,fun _ _=>rfl⟩) fun u D' g hku hWu hD' hSu=>?_
 ·rcases q with q|q
  ·rw[hD b q];exact Option.some_ne_none _
  ·rw[q];exact own z4
 ·have hs:=H.all (a':=a) (s':=(b6_ F s st).2.1) hi hD hku (fun b _ q=>by
    rcases q with q|q
    ·exact .inl q
    ·refine .inr ?_
     rw[e1,q];exact z4) hWu hD' (fun b hb=>.inl (by rw[e1];exact hb)) (fun b hb q r=>by have:=hU.lt r;omega) (fun N' hN'=>?_)
  ·obtain⟨ℓ',mv,Hu⟩:=hs
   refine hR u ℓ' g mv Hu ?_
   refine SOk.put (x:=(a,(b6_ F s st).2.1)) (K.near (mU_ o_)) ?_
   have:=(K.near (mU_ (F:=F) (st:=st) (file:=s.keepf) (x:=⟨s.sure,s.at_,s.gen⟩) (l:=g1_ s) o_)).at hi he
   exact this.same this.good rfl rfl rfl rfl rfl rfl
  ·refine hU.slot hku (bg_.sub fun b _ q=>?_) (fun b hb hne q=>?_) (fun b hb=>?_) hSu
   ·rcases q with q|q
    ·rw[hD b q];exact Option.some_ne_none _
    ·rw[q];exact own z4
   ·rcases q with q|q
    ·have:=hD b q
     rw[hown b hb] at this
     injection this with this
     omega
    ·exact hne q
   ·rcases hN' b hb with q|q
    ·exact .inl q
    ·exact .inr q.1
theorem wW_ {R:Bool→W_} (H:Sys w ℓ pw st F us) (K:SOk st us m) (hm:m≤500000000) (hi:i<us.length) (he:us[i]=(a,s))
  (hR:∀u ℓ',Mv w u ℓ ℓ'→Sys u ℓ' pw (b6_ F s st).2.2 F (us.set i (a,(b6_ F s st).2.1))→SOk (b6_ F s st).2.2 (us.set i (a,(b6_ F s st).2.1)) (m+4)→R (b6_ F s st).1 u):fs_ (some ⟨a.ub,0,none⟩) w R:=by
 refine fy_.calls _ _ _ ?_
 rintro w1 rfl
 have g1:=aq_ w
 generalize w.drew=w1 at *
 have cl:∀{v:World} {o:Nat} {x:Value},ac_ w v→(∀P,(dc_ a P s)[o]?=some x)→v.cell? ((gA (some (⟨a.ub,0,none⟩:Addr))).add o)=some x:=fun g e=>(((H.grow g).at hi he).1).cellU e
 have T:∀{v:World},ac_ w v→IsU v (fun k=>ℓ k≠none) pw a s:=fun g=>((H.grow g).at hi he).1
 refine⟨fun v=>ac_ w v,g1,rfl,some ⟨a.sl,0,none⟩,fun v q=>cl q fun P=>rfl,rfl,some ⟨a.pg,0,none⟩,fun v q=>cl q fun P=>rfl,rfl,some ⟨a.tb,0,none⟩,fun v q=>cl q fun P=>rfl,?_⟩
 refine uf_ (T g1).pages fun w2 g2=>⟨g1.trans g2,sN_ fun w3 g3=>?_⟩
 have g13:=(g1.trans g2).trans g3
 refine⟨g13,?_⟩
 have vb:=yh_ s.saved
 have ev:((l3_ s.saved:Nat):Int)=(((UInt8.ofNat (l3_ s.saved)).toNat:Nat):Int):=by rw[←be_,wu8 o_ o_]
 have hl1:∀z:World,(Instr.buildSlice aE_ 1 #[(0,.int .u8 ((l3_ s.saved:Nat):Int))]).run Tryz.prog z=.ok (.slice (some ⟨z.heap.size,0,none⟩) 1 1) (z.alloc (.cells (bv [UInt8.ofNat (l3_ s.saved)]).toArray ae_)):=fun z=>by
  rw[ev];kernel_rfl
 have hE:g1_ s = [UInt8.ofNat (l3_ s.saved)]++nh_ s.tab:=rfl
 have sl:=qh_ (T g1).tab.ok
 have fin:∀{p:Sl} {y:World},ac_ w y→Own y w.heap.size ae_ 1 p (bv (g1_ s))→cp_ (some ⟨a.sl,0,none⟩) p y fun _ n2 z=>R (n2==0) z:=fun {p y} gy o=>by
  have pl:=oh_ (T g1).tab.ok
  have pn:=gK_ o
  refine vI_ (H.grow gy) K hm hi he (fun u mv=>(o.keep mv.keep fun b hb q=>q (H.fresh (o.ge b hb).1)).rd o_) fun u ℓ' g mv Hu Ku=>?_
  have:=hR u ℓ' ((Mv.grow gy).trans mv) Hu Ku
  have e:(((((cH_ F st s.keepf ⟨s.sure,s.at_,s.gen⟩ (g1_ s)).1:Nat):Int)==0):Bool)=(b6_ F s st).1:=by
   show _=decide _
   rw[Bool.eq_iff_iff,beq_iff_eq,decide_eq_true_eq];omega
  rw[e];exact this
 have s13:=g13.size
 refine⟨?_,?_⟩
 ·refine Row.start (hl1 w3) rfl (by show 1≤_;decide) fun p4 w4 r4=>⟨g13.trans r4.grow,o1_ (T (g13.trans r4.grow)).tab fun x5 w5 g5 o5=>⟨(g13.trans r4.grow).trans g5,?_⟩⟩
  have n5:=gK_ o5
  refine(r4.go g5).app (o5.rd o_) (by simp;omega) fun p6 w6 r6 k6=>⟨g13.trans r6.grow,fin (g13.trans r6.grow) ?_⟩
  rw[hE];exact r6.own.mono s13
 ·refine o1_ (T g13).tab fun x4 w4 g4 o4=>⟨g13.trans g4,?_⟩
  have n4:=gK_ o4
  refine Row.start (hl1 w4) rfl (by show 1≤_;decide) fun p5 w5 r5=>⟨(g13.trans g4).trans r5.grow,?_⟩
  refine r5.app ((o4.grow r5.grow).rd o_) (by simp;omega) fun p6 w6 r6 k6=>⟨(g13.trans g4).trans r6.grow,fin ((g13.trans g4).trans r6.grow) ?_⟩
  rw[hE];exact r6.own.mono (g13.trans g4).size
end
open Go CF
def y9_ (s:USt) (n' s':bF_):USt:={s with now:=n',saved:=s',cache:=n'.wce}
def zI_ (s:USt) (n code:Nat):USt:={s with q:=fun j=>if (j:Int)≠(n:Int)∧j<8 then bM_ (s.q j) code else s.q j}
def kt_ (F:Int→Bool) (b:Bool) (s:USt) (st:Wst):jN_:=if b=true then⟨if (b6_ F s st).1=true then okX [] else snX wfS,(b6_ F s st).2.1,(b6_ F s st).2.2⟩ else⟨okX [],s,st⟩
def pG_ (F:Int→Bool) (s:USt) (st:Wst) (n:Nat) (c:Cm) (l:L8):jN_:=
 if (l.length:Int)≠c.alloc then⟨snX (cE_ 0x1a00),s,st⟩
 else match zE_ s.now s.saved c l with
  | .error e=>⟨snX e,s,st⟩
  | .ok (b,n',s')=>kt_ F (c.save&&decide (l≠[])) (if b=true then zI_ (y9_ s n' s') n 10753 else y9_ s n' s') st
section
variable {w u v z w3:World} {S D D':Nat→Prop} {pw i m n ab cb:Nat} {a:UA} {s:USt} {st st':Wst} {F F':Int→Bool} {ℓ ℓ' ℓ1 ℓ2:Nat→Option Nat} {us:List (UA×USt)} {X:jN_} {R:A_→W_} {out:Sl} {l:L8} {c:Cm}
structure Cal (w v:World) (ℓ ℓ':Nat→Option Nat) (cb ab:Nat) (c:Cm):Prop where
 mv:Mv w v ℓ ℓ'
 cmd:Blk v cb (cmv c).toArray aD_
 res:Blk v ab z10 aa_
 ncb:ℓ' cb=none
 nab:ℓ' ab=none
theorem Cal.go (h:Cal w v ℓ ℓ' cb ab c) (g:ac_ v z):Cal w z ℓ ℓ' cb ab c:=⟨h.mv.go g,g.heap h.cmd (fun q=>q),g.heap h.res (fun q=>q),h.ncb,h.nab⟩
theorem Cal.step (h:Cal w v ℓ ℓ' cb ab c) (g:Mv v z ℓ' ℓ2):Cal w z ℓ ℓ2 cb ab c:=⟨h.mv.trans g,g.heap h.cmd h.ncb,g.heap h.res h.nab,by rw[g.lab _ (au_ h.cmd)];exact h.ncb,by rw[g.lab _ (au_ h.res)];exact h.nab⟩
theorem Cal.cell (h:Cal w v ℓ ℓ' cb ab c) {o:Nat} {x:Value} (e:(cmv c).toArray[o]?=some x):v.cell? ((⟨cb,0,none⟩:Addr).add o)=some x:=by rw[am_,Blk.cell h.cmd,Nat.zero_add];exact e
theorem Cal.start {K:Addr→Addr→W_} (H:Sys w ℓ pw st F us) (h:∀cb ab v,ac_ w v→w.heap.size≤cb→w.heap.size≤ab→Cal w v ℓ ℓ cb ab c→K ⟨cb,0,none⟩ ⟨ab,0,none⟩ v) :
  New (.cells (cmv c).toArray aD_) w fun c1 w0=>New (.cells #[.int .u8 0,.int .u8 0,.int .u16 0,.int .u64 0,.bool false,.int .i64 0,.int .i64 0,.bool false,.bool false,.slice none 0 0] aa_) w0 fun a w01=>K c1 a w01:=
 ah_ fun cb w1 hcb hb1 hg1 hs1=>ah_ fun ab w2 hab hb2 hg2 hs2=>by
  have s1:=hg1.size
  refine h cb ab w2 (hg1.trans hg2) o_ o_ ⟨Mv.grow (hg1.trans hg2),hg2.heap hb1 (fun q=>q),hb2,H.fresh o_,H.fresh o_⟩
theorem Cal.fin (h:Cal w v ℓ ℓ' cb ab c) (hab:w.heap.size≤ab) (hR:gk_ w ℓ pw F us i a m X R) (H:Sys v ℓ' pw X.w F (us.set i (a,X.s))) (K:SOk X.w (us.set i (a,X.s)) (m+200000)) (hd:X.x.d = []):cG_ ab R (rsv X.x.st X.x.sn ap_).toArray v:=
 hR.ret h.mv H K (by rw[hd];exact Dat.nil _ _ _) hab h.nab h.res
theorem wX_ {b:Bool} {s1:USt} {us1:List (UA×USt)} (hC:Cal w v ℓ ℓ' cb ab c) (hab:w.heap.size≤ab) (he1:us1=us.set i (a,s1)) (hi:i<us.length) (H:Sys v ℓ' pw st F us1) (K:SOk st us1 m) (hm:m≤400000000) (hR:gk_ w ℓ pw F us i a m (kt_ F b s1 st) R) :
  bI_ (fun(b4:Bool) (w014:World)=>Br (b&&(!b4)) (a8_ #[.int .u8 3,.int .u16 3072,.int .u64 0,.bool false,.int .i64 0,.int .i64 0,.bool false,.bool false] w014 fun g6 w015=>cG_ ab R g6 w015) (cG_ ab R #[.int .u8 0,.int .u8 0,.int .u16 0,.int .u64 0,.bool false,.int .i64 0,.int .i64 0,.bool false,.bool false,.slice none 0 0] w014)) fun J_=>(b=true→fs_ (some ⟨a.ub,0,none⟩) v J_)∧(b=false→J_ (Kd.dflt .b) v):=by
 subst he1
 have hi1:i<(us.set i (a,s1)).length:=by rw[List.length_set];exact hi
 unfold kt_ at hR
 cases b with
 | false=>
  rw[if_neg Bool.noConfusion] at hR
  refine ci_ (fun _ z=>z=v) ?_ (fun J=>⟨fun q=>Bool.noConfusion q,fun _=>J _ v rfl⟩)
  rintro b4 z rfl
  exact al_ (by cases b4<;>rfl) (hC.fin (X:=⟨okX [],s1,st⟩) hab hR H (K.mono o_) rfl)
 | true=>
  rw[if_pos rfl] at hR
  refine ci_ (fun b4 z=>b4=(b6_ F s1 st).1∧∃ℓ2,Mv v z ℓ' ℓ2∧Sys z ℓ2 pw (b6_ F s1 st).2.2 F (us.set i (a,(b6_ F s1 st).2.1))) ?_ (fun J=>⟨fun _=>?_,fun q=>Bool.noConfusion q⟩)
  ·rintro b4 z ⟨rfl,ℓ2,mv,Hz⟩
   have C2:=hC.step mv
   have Kz:SOk (b6_ F s1 st).2.2 (us.set i (a,(b6_ F s1 st).2.1)) (m+200000):=by
    have ok:=(H.at hi1 (List.getElem_set_self _)).1.tab.ok
    have pl:=oh_ ok
    have K2:=K.near (mU_ (F:=F) (st:=st) (file:=s1.keepf) (x:=⟨s1.sure,s1.at_,s1.gen⟩) (l:=g1_ s1) o_)
    have:=(SOk.put (x:=(a,(b6_ F s1 st).2.1)) (i:=i) K2 (by have:=K2.at hi1 (List.getElem_set_self _);exact this.same this.good rfl rfl rfl rfl rfl rfl)).mono (m':=m+200000) o_
    rw[List.set_set] at this;exact this
   cases hsv:(b6_ F s1 st).1 with
   | true=>
    rw[hsv,if_pos rfl] at hR
    exact al_ rfl (C2.fin (X:=⟨okX [],(b6_ F s1 st).2.1,(b6_ F s1 st).2.2⟩) hab hR Hz Kz rfl)
   | false=>
    rw[hsv,if_neg Bool.noConfusion] at hR
    exact ao_ rfl (bE_ (s:=wfS) fun y gy=>(C2.go gy).fin (X:=⟨snX wfS,(b6_ F s1 st).2.1,(b6_ F s1 st).2.2⟩) hab hR (Hz.grow gy) Kz rfl)
  ·refine wW_ H K o_ hi1 (List.getElem_set_self _) fun z ℓ2 mv Hz Kz=>J _ z ⟨rfl,ℓ2,mv,?_⟩
   rw[List.set_set] at Hz;exact Hz
end
open Go CF
def o3_:L8:=List.replicate 16 255++[0,0,0,0,1]
def fo_ (c:Cm) (l:L8):gX_:=⟨c.service,c.type,num ((l.drop 0).take 8),num ((l.drop 8).take 8),decide ((l.getD 20 0).toNat=1)⟩
def evQ (q:Nat→List Nat):List Ev→Nat→List Nat
 | []=>q
 | e::r=>evQ (fun t=>if t=e.1 then bM_ (q e.1) e.2 else q t) r
def hY_ (F:Int→Bool) (s:USt) (st:Wst) (n:Nat) (c:Cm) (l:L8):jN_:=
 if c.alloc≠24∨l.length≠24 then⟨snX (cE_ 0x1a00),s,st⟩
 else match gi_ l o3_ 0 with
  | some (j,b)=>⟨snX ⟨5,0x2600,0,false,(j:Int),(b:Int),true,false⟩,s,st⟩
  | none=>if (cb_ s.tab n (fo_ c l)).st≠0 then⟨⟨(cb_ s.tab n (fo_ c l)).st,if (cb_ s.tab n (fo_ c l)).st=2 then⟨5,(cb_ s.tab n (fo_ c l)).code,0,false,0,0,false,false⟩ else sn0,[]⟩,{s with tab:=(cb_ s.tab n (fo_ c l)).t},st⟩
   else kt_ F (s.tab.lasts||(cb_ s.tab n (fo_ c l)).t.lasts) {s with tab:=(cb_ s.tab n (fo_ c l)).t,q:=evQ s.q (cb_ s.tab n (fo_ c l)).ev} st
def hZ_ (k:Nat) (l:List Ev):Prop:=l.length≤k∧∀e∈l,e.1<8∧e.2<65536
theorem hZ_.le {j k:Nat} {l:List Ev} (h:hZ_ j l) (hk:j≤k):hZ_ k l:=⟨Nat.le_trans h.1 hk,h.2⟩
theorem jP_ {l:List (Nat×Nat)} {f:Nat×Nat→Bool} {code:Nat} (h:∀r∈l,r.1<8) (hc:code<65536):hZ_ l.length (tells l f code):=by
 refine⟨?_,fun e he=>?_⟩
 ·unfold tells
  rw[List.length_map]
  exact List.length_filter_le _ _
 ·unfold tells at he
  obtain⟨r,hr,rfl⟩:=List.mem_map.1 he
  exact⟨h r (List.mem_filter.1 hr).1,hc⟩
theorem ce_ (k:Nat):hZ_ k []:=⟨Nat.zero_le _,fun _ h=>by cases h⟩
theorem wY_ {j k:Nat} {a b:List Ev} (ha:hZ_ j a) (hb:hZ_ k b):hZ_ (j+k) (a++b):=⟨by have:=ha.1;have:=hb.1;rw[List.length_append];omega,fun e he=>(List.mem_append.1 he).elim (ha.2 e) (hb.2 e)⟩
theorem sa_ {t:a5_} {n:Nat} (h:∀r∈t.regs,r.1<8):hZ_ t.regs.length (kp_ t n).2:=by
 show hZ_ _ (if 5≤t.kind then tells t.regs (fun r=>decide (r.1≠n)) 10756 else [])
 split
 ·exact jP_ h d_
 ·exact ce_ _
theorem mV_ {t:a5_} {n:Nat} {o:gX_} {b:Bool} (h:∀r∈t.regs,r.1<8) (hl:t.regs.length≤8):hZ_ 16 (eO_ t n o b).2:=by
 show hZ_ 16 (bP_ t n o b).2
 unfold bP_
 split
 ·split
  ·have e:(kN_ t n 0).regs=t.regs.filter (fun r=>decide (r.1<n))++t.regs.filter (fun r=>decide (n<r.1)):=by
    show t.regs.filter (fun r=>decide (r.1<n))++(if (0:Nat)≠0 then [(n,0)] else [])++t.regs.filter (fun r=>decide (n<r.1))=_
    rw[if_neg d_,List.append_nil]
   refine(sa_ fun r hr=>?_).le ?_
   ·rw[e] at hr
    rcases List.mem_append.1 hr with hr|hr<;>exact h r (List.mem_filter.1 hr).1
   ·rw[e,List.length_append]
    have:=List.length_filter_le (fun r:Nat×Nat=>decide (r.1<n)) t.regs
    have:=List.length_filter_le (fun r:Nat×Nat=>decide (n<r.1)) t.regs
    omega
  ·exact ce_ _
 ·split<;>exact ce_ _
theorem wZ_ {t:a5_} {n:Nat} {o:gX_} (h:∀r∈t.regs,r.1<8) (hl:t.regs.length≤8):hZ_ 16 (cb_ t n o).ev:=by
 unfold cb_
 split
 ·exact ce_ _
 split
 ·exact mV_ h hl
 split
 ·split
  ·exact ce_ _
  ·exact mV_ h hl
 split
 ·exact ce_ _
 split
 ·unfold e4_
  split
  ·exact ce_ _
  split
  ·exact ce_ _
  split<;>exact ce_ _
 split
 ·unfold fX_
  split
  ·exact ce_ _
  split
  ·exact ce_ _
  ·exact(sa_ h).le o_
 split
 ·exact(jP_ h d_).le o_
 ·unfold fY_
  split
  ·exact ce_ _
  split
  ·exact ce_ _
  split
  ·exact ce_ _
  ·dsimp only
   split
   ·refine(wY_ (jP_ h d_) (k:=8) ?_).le o_
    split
    ·refine(jP_ (fun r hr=>h r (List.mem_filter.1 hr).1) d_).le ?_
     have:=List.length_filter_le (qV_ t n o.action (allK t.kind&&decide (o.action=0))) t.regs
     omega
    ·exact ce_ _
   ·exact(jP_ h d_).le o_
theorem w0_ (t:a5_) (n:Nat) (o:gX_):(cb_ t n o).st=0∨(cb_ t n o).st=2∨(cb_ t n o).st=24:=by
 unfold cb_
 split
 ·exact .inr (.inl rfl)
 split
 ·exact .inl rfl
 split
 ·split
  ·exact .inr (.inr rfl)
  ·exact .inl rfl
 split
 ·exact .inr (.inr rfl)
 split
 ·unfold e4_
  split
  ·exact .inr (.inl rfl)
  split
  ·exact .inl rfl
  split
  ·exact .inl rfl
  ·exact .inr (.inr rfl)
 split
 ·unfold fX_
  split
  ·exact .inl rfl
  split
  ·exact .inr (.inl rfl)
  ·exact .inl rfl
 split
 ·exact .inl rfl
 ·unfold fY_
  split
  ·exact .inr (.inl rfl)
  split
  ·exact .inr (.inl rfl)
  split
  ·exact .inr (.inr rfl)
  ·dsimp only
   split<;>exact .inl rfl
theorem w1_ (q:Nat→List Nat):∀{l:List Ev} {j:Nat} (hj:j<l.length),evQ q (l.take (j+1))=fun t=>if t=l[j].1 then bM_ (evQ q (l.take j) l[j].1) l[j].2 else evQ q (l.take j) t:=by
 intro l
 induction l generalizing q with
 | nil=>intro j hj;cases hj
 | cons e r ih=>
  intro j hj
  cases j with
  | zero=>rfl
  | succ j=>
   have:=ih (fun t=>if t=e.1 then bM_ (q e.1) e.2 else q t) (j:=j) (by simpa using hj)
   simpa [evQ] using this
section
variable {w u v z w3:World} {S D D':Nat→Prop} {pw i m n ab cb:Nat} {a:UA} {s:USt} {st st':Wst} {F F':Int→Bool} {ℓ ℓ' ℓ1 ℓ2:Nat→Option Nat} {us:List (UA×USt)} {X:jN_} {R:A_→W_} {out:Sl} {l:L8} {c:Cm}
theorem vJ_ (H:Sys w ℓ pw st F us) (K:SOk st us m) (hm:m≤400000000) (hi:i<us.length) (he:us[i]=(a,s)) (hn:n<8) (hp:RdX w ℓ 1 out (bv l)) (hc:jO_ c) (hR:gk_ w ℓ pw F us i a m (hY_ F s st n c l) R):eE_ (some ⟨a.ub,0,none⟩) (n:Int) (cmv c).toArray out w R:=by
 refine f4_.calls _ _ _ _ _ _ (Cal.start H fun cb ab w1 g1 hcb hab C1=>?_)
 have H1:=H.grow g1
 have hset:=og_ hi he
 have hpn:=(dj_ hp.rd).symm
 have KU:=K.at hi he
 have e24:(((c.alloc != 24)||((out.n:Int) != 24)):Bool)=decide (c.alloc≠24∨l.length≠24):=by
  rw[Bool.eq_iff_iff,Bool.or_eq_true,bne_iff_ne,bne_iff_ne,decide_eq_true_eq];omega
 have fail:∀{y:World} {e:Sn},Cal w y ℓ ℓ cb ab c→Sys y ℓ pw st F us→gk_ w ℓ pw F us i a m ⟨snX e,s,st⟩ R→cG_ ab R (rsv 2 e ap_).toArray y:=fun {y e} C Hy hR=>by
  refine C.fin (X:=⟨snX e,s,st⟩) hab hR ?_ ?_ rfl
  ·show Sys y ℓ pw st F (us.set i (a,s));rw[hset];exact Hy
  ·show SOk st (us.set i (a,s)) _;rw[hset];exact K.mono o_
 refine⟨c.alloc,C1.cell rfl,?_⟩
 rw[e24]
 unfold hY_ at hR
 refine a6_ (fun q=>?_) (fun q=>?_)
 ·rw[if_pos q] at hR
  exact bE_ (s:=cE_ 0x1a00) fun y gy=>fail (C1.go gy) (H1.grow gy) hR
 rw[if_neg q] at hR
 have hl24:l.length=24:=o_
 refine aH_ (cells:=(bv o3_).toArray) (e:=ae_) (z:=1) (base:=w1.heap.size) k_ rfl d_ (Nat.le_refl _) fun w2 o2 g2 _=>?_
 have g12:=g1.trans g2
 have p2:Rd w2 1 out (bv l):=hp.rd.grow g12
 have C2:=C1.go g2
 have H2:=H1.grow g2
 refine rQ_ p2 (o2.rd (by dsimp only;decide)) ?_
 cases ho:gi_ l o3_ 0 with
 | some jb=>
  obtain⟨j,b⟩:=jb
  rw[ho] at hR
  exact ao_ (by rw[decide_eq_true_eq];omega) (bE_ (s:=⟨5,0x2600,0,false,(j:Int),(b:Int),true,false⟩) fun y gy=>fail (C2.go gy) (H2.grow gy) hR)
 | none=>
 rw[ho] at hR
 dsimp only at hR ⊢
 refine al_ d_ ?_
 rintro w3 rfl
 have g3:=aq_ w2
 have C3:=C2.go g3
 have H3:=H2.grow g3
 generalize w2.drew=w3 at *
 have g13:=g12.trans g3
 have p3:Rd w3 1 out (bv l):=hp.rd.grow g13
 obtain⟨hA,h20⟩:=fF_ p3 (i:=20) o_
 have e20:l[20]' o_=l.getD 20 0:=by rw[List.getD_eq_getElem?_getD,List.getElem?_eq_getElem o_];rfl
 refine⟨fun y=>ac_ w3 y,ab_.refl _ _,(c.service:Int),fun y q=>(C3.go q).cell rfl,(c.type:Int),fun y q=>(C3.go q).cell rfl,⟨d_,o_,hA⟩,(((l.getD 20 0).toNat:Nat):Int),fun y q=>?_,?_⟩
 ·obtain⟨_,h20⟩:=fF_ (p3.grow q) (i:=20) o_
  exact h20
 refine ah_ fun ob w4 hob hb4 hg4 hs4=>⟨hg4,?_⟩
 have e1:((((l.getD 20 0).toNat:Nat):Int)==1)=decide ((l.getD 20 0).toNat=1):=by rw[Bool.eq_iff_iff,beq_iff_eq,decide_eq_true_eq];omega
 rw[e1]
 refine ar_ (cells:=#[.int .u8 (c.service:Int),.int .u8 (c.type:Int),.int .u64 0,.int .u64 0,.bool (decide ((l.getD 20 0).toNat=1))]) hb4 rs_ rfl rfl (by simp[Value.oneCell']) fun w5 hb5 hk5 hs5=>?_
 have g35:ac_ w3 w5:=hg4.keep hk5 fun b hb q=>o_
 have p5:Rd w5 1 out (bv l):=p3.grow g35
 refine cC_ (at_:=0) (n:=8) p5 o_ d_ d_ o_ ?_
 rw[am_]
 refine a2_ hb5 (by show 2<5;decide) rfl fun w6 hb6 hk6 hs6=>?_
 have g36:ac_ w3 w6:=g35.keep hk6 fun b hb q=>o_
 have p6:Rd w6 1 out (bv l):=p3.grow g36
 refine cC_ (at_:=8) (n:=8) p6 o_ d_ d_ o_ ?_
 rw[am_]
 refine a2_ hb6 (by show 3<5;decide) rfl fun w7 hb7 hk7 hs7=>?_
 have g37:ac_ w3 w7:=g36.keep hk7 fun b hb q=>o_
 have hb7:Blk w7 ob (otv (fo_ c l)).toArray bz_:=hb7
 have C7:=C3.go g37
 have H7:=H3.grow g37
 obtain⟨hU7,hown⟩:=H7.at hi he
 obtain⟨z1,z2,z3,z4,z5,z6,z7⟩:=dC_ a
 have own:∀{b},a.set b→ℓ b≠none:=fun hb=>by rw[hown _ hb];exact Option.some_ne_none _
 refine⟨rfl,some ⟨a.tb,0,none⟩,hU7.cellU fun P=>rfl,mI_ hU7.tab ?_⟩
 rintro w8 rfl
 have g8:=aq_ w7
 have C8:=C7.go g8
 have H8:=H7.grow g8
 have hb8:Blk w7.drew ob (otv (fo_ c l)).toArray bz_:=g8.heap hb7 (fun q=>q)
 generalize w7.drew=w8 at *
 have hU8:=(H8.at hi he).1
 refine⟨fun y=>y=w8,rfl,rfl,some ⟨a.tb,0,none⟩,(by rintro y rfl;exact hU8.cellU fun P=>rfl),(otv (fo_ c l)).toArray,(by rintro y rfl;exact ng_ hb8),?_⟩
 have p8b:(256:Nat) ^ 8=18446744073709551616:=rfl
 have nl:∀x:L8,x.length≤8→num x<18446744073709551616:=fun x hx=>by
  have:=hy_ x
  have h2:(256:Nat) ^ x.length≤256 ^ 8:=Nat.pow_le_pow_right d_ hx
  omega
 have oo:o0_ (fo_ c l):=⟨nl _ (by rw[List.length_take];omega),nl _ (by rw[List.length_take];omega),hc.type⟩
 refine vC_ hU8.tab H8.lt hn oo hc.service fun ev w9 hk9 hT9 ho9=>?_
 have hev:=wZ_ (t:=s.tab) (n:=n) (o:=fo_ c l) (fun r hr=>(hU8.tab.ok.regs r hr).1) hU8.tab.ok.few
 have hst:=w0_ s.tab n (fo_ c l)
 generalize cb_ s.tab n (fo_ c l)=d at *
 have hU9:IsU w9 (fun k=>ℓ k≠none) pw a {s with tab:=d.t}:=hU8.tabl hk9 (bg_.sub fun b _ q=>by rw[q];exact own z6) (fun b _ hne q=>hne q) (fun _ q=>.inl q) hT9
 obtain⟨m9,H9⟩:=H8.putA hi he hk9 (fun b _ q=>by rw[q];exact z6) hU9
 have C9:=C8.step m9
 have K9:SOk st (us.set i (a,{s with tab:=d.t})) m:=K.put (x:=(a,{s with tab:=d.t})) (KU.same KU.good rfl rfl rfl rfl rfl rfl)
 have sw9:w.heap.size≤w9.heap.size:=by have:=(g13.trans (g37.trans g8)).size;have:=hk9.size;omega
 refine gv_ (fun hne=>?_) (fun hz=>?_)
 ·have hst0:d.st≠0:=o_
  rw[if_pos hst0] at hR
  refine ah_ fun rb w10 hrb hb10 hg10 hs10=>?_
  refine ar_ (cells:=(rsv d.st sn0 ap_).toArray) hb10 hj_ rfl rfl (n7_ _ _ _) fun w11 hb11 hk11 _=>?_
  have g11:ac_ w9 w11:=hg10.keep hk11 fun b hb q=>o_
  have C11:=C9.go g11
  have H11:=H9.grow g11
  have fin:∀(x:Sn) (y:World),Blk y rb (rsv d.st x ap_).toArray aa_→ac_ w9 y→gk_ w ℓ pw F us i a m ⟨⟨d.st,x,[]⟩,{s with tab:=d.t},st⟩ R→∃g3:A_,(loadVar aa_ ⟨rb,0,none⟩).run Tryz.prog y=.ok (.agg g3) y∧cG_ ab R g3 y:=fun x y hby gy hR=>
   ⟨_,kh_ (ax_ hby),(C9.go gy).fin (X:=⟨⟨d.st,x,[]⟩,{s with tab:=d.t},st⟩) hab hR (H9.grow gy) (K9.mono o_) rfl⟩
  refine dy_ (fun y=>Blk y rb (rsv d.st (if d.st=2 then⟨5,d.code,0,false,0,0,false,false⟩ else sn0) ap_).toArray aa_∧ac_ w9 y) ?_ (fun J=>?_)
  ·rintro y ⟨hby,gy⟩
   exact fin _ y hby gy hR
  ·refine aw_ (y:=2) (fun h2=>?_) (fun h2=>?_)
   ·have h2:d.st=2:=o_
    rw[if_pos h2] at J
    rw[am_]
    refine hz_ (o:=1) (cells:=(snv ⟨5,d.code,0,false,0,0,false,false⟩).toArray) hb11 ba_ rfl (by simp[rsv,snv]) (by intro x hx;simp[snv] at hx;rcases hx with rfl|rfl|rfl|rfl|rfl|rfl|rfl<;>rfl) fun w12 hb12 hk12 _=>J w12 ⟨hb12,g11.keep hk12 fun b hb q=>o_⟩
   ·have h2:d.st≠2:=o_
    rw[if_neg h2] at J
    exact J w11 ⟨hb11,g11⟩
 ·have hst0:d.st=0:=o_
  rw[if_neg o_] at hR
  have hi9:i<(us.set i (a,{s with tab:=d.t})).length:=by rw[List.length_set];exact hi
  have hxn:d.ev.length=ev.n:=by have:=ho9.len;rw[te_] at this;omega
  refine⟨fun x y=>∃j:Nat,x=j∧j≤d.ev.length∧ab_ (fun k=>k=a.qb) w9 y∧IsU y (fun k=>ℓ k≠none) pw a {s with tab:=d.t,q:=evQ s.q (d.ev.take j)}∧Own y w8.heap.size a0_ 2 ev (evv d.ev),fun x _=>ev.n-x.toNat,⟨0,rfl,Nat.zero_le _,ab_.refl _ _,hU9,ho9⟩,?_⟩
  rintro x y ⟨j,rfl,hj,hky,hUy,hoy⟩
  have syw:=hky.size
  refine bh_ (fun hlt=>?_) (fun hge=>?_)
  ·have hjl:j<d.ev.length:=o_
   have hcap8:ev.n≤140737489403904:=by have:=hev.1;omega
   obtain⟨hA9,hcl⟩:=oN_ (f:=evc) td_ d_ (hoy.rd hcap8) hjl
   refine⟨⟨o_,o_,hA9⟩,(evc d.ev[j]).toArray,by rw[Int.toNat_natCast];exact aC_ tF_ lB_ rfl hcl,?_⟩
   refine ah_ fun eb y1 heb hby1 hgy1 hsy1=>ar_ (cells:=(evc d.ev[j]).toArray) hby1 lB_ rfl rfl (by simp[evc,Value.oneCell']) fun y2 hby2 hky2 hsy2=>?_
   have gy2:ac_ y y2:=hgy1.keep hky2 fun b hb q=>o_
   rintro y3 rfl
   have gy3:=gy2.trans (aq_ y2)
   have hby3:Blk y2.drew eb (evc d.ev[j]).toArray a0_:=(aq_ y2).heap hby2 (fun q=>q)
   generalize y2.drew=y3 at *
   have hU3:=hUy.grow gy3
   refine⟨fun o=>o=y3,rfl,rfl,some ⟨a.qb,0,none⟩,(by rintro o rfl;exact hU3.cellU fun P=>rfl),(d.ev[j].1:Int),(by rintro o rfl;rw[am_,hby3.cell];rfl),(d.ev[j].2:Int),(by rintro o rfl;rw[am_,hby3.cell];rfl),?_⟩
   obtain⟨v1,v2⟩:=hev.2 d.ev[j] (List.getElem_mem hjl)
   have sy3:=gy3.size
   refine oc_ hU3.q v1 v2 (own z7) (fun b hb=>by have:=H9.lt b hb;omega) fun y4 hk4 hq4=>?_
   rw[w64 o_ o_]
   have k94:ab_ (fun k=>k=a.qb) w9 y4:=(hky.grow gy3).trans hk4 fun _ _ q=>q
   refine⟨⟨j+1,o_,o_,k94,?_,?_⟩,by dsimp only;omega⟩
   ·have:=hU3.que hk4 (bg_.sub fun b _ q=>by rw[q];exact own z7) (fun b _ hne q=>hne q) (fun _ q=>.inl q) hq4
    rw[w1_ s.q hjl];exact this
   ·obtain⟨ss,_,hqb,_⟩:=hU3.q.rep
    exact(hoy.grow gy3).keep hk4 fun b hbb q=>bd_ (hoy.grow gy3) hqb d_ (by rw[hbb,q])
  ·have:j=d.ev.length:=o_
   subst this
   rw[List.take_length] at hUy
   obtain⟨my,Hy⟩:=H9.putA hi9 (List.getElem_set_self _) hky (fun b _ q=>by rw[q];exact z7) hUy
   rw[List.set_set] at Hy
   have Cy:=C9.step my
   have Ky:SOk st (us.set i (a,{s with tab:=d.t,q:=evQ s.q d.ev})) m:=K.put (x:=(a,{s with tab:=d.t,q:=evQ s.q d.ev})) (KU.same KU.good rfl rfl rfl rfl rfl rfl)
   refine⟨fun _=>rfl,some ⟨a.tb,0,none⟩,fun _=>hUy.cellU fun P=>rfl,?_⟩
   have kf:=wX_ (b:=s.tab.lasts||d.t.lasts) Cy hab rfl hi Hy Ky hm hR
   refine ci_ (fun b1 o=>o=y∧(s.tab.lasts||b1)=(s.tab.lasts||d.t.lasts)) ?_ (fun J=>⟨fun hnl=>mI_ hUy.tab (J _ _ ⟨rfl,rfl⟩),fun hnl=>J _ _ ⟨rfl,by
    have:s.tab.lasts=true:=by simpa using hnl
    rw[this];rfl⟩⟩)
   rintro b1 o ⟨ho,eb⟩
   rw[ho,eb]
   exact kf
end
open Go CF
def hL_ (F:Int→Bool) (s:USt) (st:Wst):USt:=
 {s with q:=onQ s.q,sure:=(aQ_ F st s.keepf ⟨s.sure,s.at_,s.gen⟩).2.2.2.1.sure,at_:=(aQ_ F st s.keepf ⟨s.sure,s.at_,s.gen⟩).2.2.2.1.at_,gen:=(aQ_ F st s.keepf ⟨s.sure,s.at_,s.gen⟩).2.2.2.1.gen}
def gR_ (s1:USt) (e:Nat) (l:L8):Nat×USt:=
 if e=8 then(0,s1) else if e≠0 then(e,s1)
 else if l = []∨7<(l.getD 0 0).toNat then(3,s1)
 else match l1_ (l.drop 1) with
  | none=>(3,s1)
  | some t=>(0,{s1 with tab:=t,now:=hK_ (l.getD 0 0).toNat,saved:=hK_ (l.getD 0 0).toNat,cache:=(hK_ (l.getD 0 0).toNat).wce})
def cK_ (F:Int→Bool) (s:USt) (st:Wst):Nat×USt×Wst:=
 ((gR_ (hL_ F s st) (aQ_ F st s.keepf ⟨s.sure,s.at_,s.gen⟩).1 (aQ_ F st s.keepf ⟨s.sure,s.at_,s.gen⟩).2.1).1,
 (gR_ (hL_ F s st) (aQ_ F st s.keepf ⟨s.sure,s.at_,s.gen⟩).1 (aQ_ F st s.keepf ⟨s.sure,s.at_,s.gen⟩).2.1).2,
 (aQ_ F st s.keepf ⟨s.sure,s.at_,s.gen⟩).2.2.2.2)
def aA_ (F:Int→Bool) (s:USt) (st:Wst):Nat×USt×Wst:=
 if s.on=1 then(s.fault,s,st) else((cK_ F s st).1,{(cK_ F s st).2.1 with on:=1,lock:=0,fault:=(cK_ F s st).1},(cK_ F s st).2.2)
structure UA.like (a a':UA):Prop where
 ub:a'.ub=a.ub
 dv:a'.dv=a.dv
 ps:a'.ps=a.ps
 sl:a'.sl=a.sl
 qb:a'.qb=a.qb
theorem UA.like.refl (a:UA):a.like a:=⟨rfl,rfl,rfl,rfl,rfl⟩
structure USt.same (s s':USt):Prop where
 inf:s'.inf=s.inf
 file:s'.file=s.file
 keepf:s'.keepf=s.keepf
 n:s'.n=s.n
 peers:s'.peers=s.peers
 count:s'.count=s.count
theorem o4_ {s1:USt} {e:Nat} {l:L8}:s1.same (gR_ s1 e l).2∧(gR_ s1 e l).2.on=s1.on∧(gR_ s1 e l).2.lock=s1.lock∧(gR_ s1 e l).2.fault=s1.fault:=by
 unfold gR_
 split
 ·exact⟨⟨rfl,rfl,rfl,rfl,rfl,rfl⟩,rfl,rfl,rfl⟩
 split
 ·exact⟨⟨rfl,rfl,rfl,rfl,rfl,rfl⟩,rfl,rfl,rfl⟩
 split
 ·exact⟨⟨rfl,rfl,rfl,rfl,rfl,rfl⟩,rfl,rfl,rfl⟩
 split
 ·exact⟨⟨rfl,rfl,rfl,rfl,rfl,rfl⟩,rfl,rfl,rfl⟩
 ·exact⟨⟨rfl,rfl,rfl,rfl,rfl,rfl⟩,rfl,rfl,rfl⟩
theorem ip_ {F:Int→Bool} {s:USt} {st:Wst}:s.same (aA_ F s st).2.1:=by
 unfold aA_
 split
 ·exact⟨rfl,rfl,rfl,rfl,rfl,rfl⟩
 ·have:=(o4_ (s1:=hL_ F s st) (e:=(aQ_ F st s.keepf ⟨s.sure,s.at_,s.gen⟩).1) (l:=(aQ_ F st s.keepf ⟨s.sure,s.at_,s.gen⟩).2.1)).1
  exact⟨this.inf,this.file,this.keepf,this.n,this.peers,this.count⟩
theorem w2_ (l:L8):(ee_ l).2.1.length≤4096:=by
 unfold ee_
 split
 ·decide
 split
 ·decide
 split
 ·decide
 ·rename_i h _
  show((l.drop 16).take (num ((l.drop 12).take 4))).length≤4096
  rw[List.length_take];omega
theorem ti_ (F:bD_) (file:ByteArray):∀k,(ldN F file k).2.2.length≤4096
 | 0=>Nat.zero_le _
 | k+1=>by
  show(eL_ (ldN F file k) k (ds_ F file k)).2.2.length≤4096
  unfold eL_
  split
  ·exact w2_ _
  ·exact ti_ F file k
theorem sO_ {F:Int→Bool} {st:Wst} {file:ByteArray} {x:SlX}:(aQ_ F st file x).2.1.length≤4096:=by
 unfold aQ_
 split
 ·exact Nat.zero_le _
 ·exact ti_ _ _ 2
section
variable {w u v z w3:World} {S D D' N N':Nat→Prop} {pw i m n ab cb:Nat} {a:UA} {s:USt} {st st':Wst} {F F':Int→Bool} {ℓ ℓ' ℓ1 ℓ2:Nat→Option Nat} {us:List (UA×USt)}
theorem o5_ {s:USt}:fn_ st (aA_ F s st).2.2 s.keepf 2:=by
 unfold aA_
 split
 ·exact(fn_.refl st s.keepf).le d_
 ·exact mT_
theorem w3_ {R:Int→W_} (H:Sys w ℓ pw st F us) (hkf:1≤s.keepf.size∧s.keepf.size≤30) (hop:st.ops<10000000000) (hi:i<us.length) (he:us[i]=(a,s))
  (hR:∀u ℓ' a',a.like a'→Mv w u ℓ ℓ'→Sys u ℓ' pw (cK_ F s st).2.2 F (us.set i (a',(cK_ F s st).2.1))→R (((cK_ F s st).1:Nat):Int) u):dI_ (some ⟨a.ub,0,none⟩) w R:=by
 refine dW_.calls _ _ _ ?_
 obtain⟨hU,hown⟩:=H.at hi he
 have hNl:∀b,ℓ b≠none→b<w.heap.size:=H.lt
 obtain⟨z1,z2,z3,z4,z5,z6,z7⟩:=dC_ a
 have own:∀{b},a.set b→ℓ b≠none:=fun hb=>by rw[hown _ hb];exact Option.some_ne_none _
 refine⟨fun x v=>∃j:Nat,x=j∧j≤8∧ab_ (fun k=>k=a.qb) w v∧IsU v (fun k=>ℓ k≠none) pw a {s with q:=fun t=>if t<j then bM_ (s.q t) 10496 else s.q t},fun x _=>8-x.toNat,⟨0,rfl,d_,ab_.refl _ _,?_⟩,?_⟩
 ·have:(fun t=>if t<0 then bM_ (s.q t) 10496 else s.q t)=s.q:=by funext t;rw[if_neg o_]
  rw[this];exact hU
 rintro x v ⟨j,rfl,hj,hkv,hUv⟩
 refine bh_ (y:=8) (fun hlt=>?_) (fun hge=>?_)
 ·refine⟨rfl,some ⟨a.qb,0,none⟩,hUv.cellU fun P=>rfl,?_⟩
  refine oc_ hUv.q hlt d_ (own z7) (fun b hb=>by have:=hNl b hb;have:=hkv.size;omega) fun v' hk' hq'=>?_
  rw[w64 o_ o_]
  refine⟨⟨j+1,o_,o_,hkv.trans hk' fun _ _ q=>q,?_⟩,by dsimp only;omega⟩
  have e:(fun t=>if t=j then bM_ (if j<j then bM_ (s.q j) 10496 else s.q j) 10496 else if t<j then bM_ (s.q t) 10496 else s.q t)=fun t=>if t<j+1 then bM_ (s.q t) 10496 else s.q t:=by
   funext t
   by_cases e:t=j
   ·subst e;rw[if_pos rfl,if_neg o_,if_pos o_]
   ·rw[if_neg e]
    by_cases e2:t<j
    ·rw[if_pos e2,if_pos o_]
    ·rw[if_neg e2,if_neg o_]
  rw[←e]
  exact hUv.que hk' (bg_.sub fun b _ q=>by rw[q];exact own z7) (fun b _ hne q=>hne q) (fun _ q=>.inl q) hq'
 have hj8:j=8:=o_
 subst hj8
 obtain⟨hmv,Hv⟩:=H.putA hi he hkv (fun b _ q=>by rw[q];exact z7) hUv
 have hi':i<(us.set i (a,{s with q:=fun t=>if t<8 then bM_ (s.q t) 10496 else s.q t})).length:=by rw[List.length_set];exact hi
 obtain⟨D,hW,hD⟩:=Hv.W
 refine⟨rfl,some ⟨a.sl,0,none⟩,hUv.cellU fun P=>rfl,?_⟩
 refine lc_ (x:=⟨s.sure,s.at_,s.gen⟩) hUv.slots (fun q=>by have:=hD _ q;rw[hown _ z4] at this;injection this with this;omega) hW hkf o_ fun best w2 hk2 hW2 hS2 ho2=>?_
 have hU2:IsU w2 (fun k=>ℓ k≠none) pw a (hL_ F s st):=by
  refine hUv.slot hk2 (bg_.sub fun b _ q=>?_) (fun b hb hne q=>?_) (fun b hb=>.inl hb) hS2
  ·rcases q with q|q
   ·rw[hD b q];exact Option.some_ne_none _
   ·rw[q];exact own z4
  ·rcases q with q|q
   ·have:=hD b q
    rw[hown b hb] at this
    injection this with this
    omega
   ·exact hne q
 have hs:=Hv.all (a':=a) (s':=hL_ F s st) hi' hD hk2 (fun b _ q=>by
    rcases q with q|q
    ·exact .inl q
    ·refine .inr ?_
     rw[List.getElem_set_self];rw[q];exact z4) hW2 (fun _ q=>.inl q) (fun b hb=>.inl (by rw[List.getElem_set_self];exact hb)) (fun b hb q=>by have:=hW.lt q;omega) (fun N' hN'=>by
    refine hUv.slot hk2 (bg_.sub fun b _ q=>?_) (fun b hb hne q=>?_) (fun b hb=>?_) hS2
    ·rcases q with q|q
     ·rw[hD b q];exact Option.some_ne_none _
     ·rw[q];exact own z4
    ·rcases q with q|q
     ·have:=hD b q
      rw[hown b hb] at this
      injection this with this
      omega
     ·exact hne q
    ·rcases hN' b hb with q|q
     ·exact .inl q
     ·exact .inr q.1)
 obtain⟨ℓ2,m2,H2⟩:=hs
 rw[List.set_set] at H2
 have m2:=hmv.trans m2
 have hR:∀u ℓ' a',a.like a'→Mv w u ℓ ℓ'→Sys u ℓ' pw (aQ_ F st s.keepf ⟨s.sure,s.at_,s.gen⟩).2.2.2.2 F (us.set i (a',(gR_ (hL_ F s st) (aQ_ F st s.keepf ⟨s.sure,s.at_,s.gen⟩).1 (aQ_ F st s.keepf ⟨s.sure,s.at_,s.gen⟩).2.1).2))→R (((gR_ (hL_ F s st) (aQ_ F st s.keepf ⟨s.sure,s.at_,s.gen⟩).1 (aQ_ F st s.keepf ⟨s.sure,s.at_,s.gen⟩).2.1).1:Nat):Int) u:=hR
 have hll:=sO_ (F:=F) (st:=st) (file:=s.keepf) (x:=⟨s.sure,s.at_,s.gen⟩)
 clear hS2 hW2 hU2
 generalize (aQ_ F st s.keepf ⟨s.sure,s.at_,s.gen⟩).2.2.2.2=st2 at *
 generalize (aQ_ F st s.keepf ⟨s.sure,s.at_,s.gen⟩).1=e at *
 generalize (aQ_ F st s.keepf ⟨s.sure,s.at_,s.gen⟩).2.1=l at *
 generalize hL_ F s st=s1 at *
 have hbn:=gK_ ho2
 unfold gR_ at hR
 refine aw_ (y:=8) (fun e8=>?_) (fun e8=>?_)
 ·rw[if_pos o_] at hR
  exact hR w2 ℓ2 a (UA.like.refl a) m2 H2
 rw[if_neg o_] at hR
 refine gv_ (fun e0=>?_) (fun e0=>?_)
 ·rw[if_pos o_] at hR
  exact hR w2 ℓ2 a (UA.like.refl a) m2 H2
 rw[if_neg o_] at hR
 have hrd:Rd w2 1 best (bv l):=ho2.rd o_
 have hcap:=hrd.cap
 have h0:l≠[]→best.A.isSome=true∧w2.cell? ((gA best.A).add ((0:Int).toNat*1))=some (.int .u8 (((l.getD 0 0).toNat:Nat):Int)):=fun q=>by
  have:0<l.length:=List.length_pos_iff.2 q
  obtain⟨x1,x2⟩:=fF_ hrd (i:=0) this
  exact⟨x1,x2⟩
 have en:(((best.n:Int)==0):Bool)=decide (l = []):=by
  rw[Bool.eq_iff_iff,beq_iff_eq,decide_eq_true_eq]
  constructor
  ·intro q;exact List.length_eq_zero_iff.1 o_
  ·intro q;rw[q] at hbn;simp at hbn;omega
 rw[en]
 have nn:(!decide (l = []))=true→l≠[]:=fun q=>by simpa using q
 refine⟨fun q=>?_,(((l.getD 0 0).toNat:Nat):Int),fun q=>(h0 (nn q)).2,?_⟩
 ·have:=List.length_pos_iff.2 (nn q)
  exact⟨d_,o_,(h0 (nn q)).1⟩
 have eb:((decide (l = [])||decide ((((l.getD 0 0).toNat:Nat):Int)>7)):Bool)=decide (l = []∨7<(l.getD 0 0).toNat):=by
  rw[Bool.eq_iff_iff,Bool.or_eq_true,decide_eq_true_eq,decide_eq_true_eq,decide_eq_true_eq]
  exact or_congr Iff.rfl ⟨fun h=>o_,fun h=>o_⟩
 rw[eb]
 refine a6_ (fun q=>?_) (fun q=>?_)
 ·rw[if_pos q] at hR
  exact hR w2 ℓ2 a (UA.like.refl a) m2 H2
 rw[if_neg q] at hR
 have hl0:l≠[]:=fun e=>q (.inl e)
 have hlp:0<l.length:=List.length_pos_iff.2 hl0
 have hb7:(l.getD 0 0).toNat≤7:=by have:¬7<(l.getD 0 0).toNat:=fun e=>q (.inr e);omega
 have hcut:=hrd.cutB (l:=1) (k:=best.n) o_ (Nat.le_refl _)
 have ed:(l.drop 1).take (best.n-1)=l.drop 1:=List.take_of_length_le (by rw[List.length_drop];omega)
 rw[ed] at hcut
 refine⟨⟨d_,o_,o_,hcap⟩,sJ_ hcut (by show best.n-1≤_;omega) ?_⟩
 cases hlt:l1_ (l.drop 1) with
 | none=>
  rw[hlt] at hR
  exact fun v g=>ao_ d_ (hR v ℓ2 a (UA.like.refl a) (m2.go g) (H2.grow g))
 | some t=>
 rw[hlt] at hR
 dsimp only at hR
 intro tb w3 T3
 have ok:=wS_ hlt
 have hr3:=hrd.grow T3.keep
 obtain⟨x1,x2⟩:=fF_ hr3 (i:=0) hlp
 refine al_ d_ ⟨⟨d_,o_,x1⟩,(((l.getD 0 0).toNat:Nat):Int),x2,r8_ hb7 fun w4 g4=>gM_ fun pb w5 g5 hpb hP5=>?_⟩
 generalize hK_ (l.getD 0 0).toNat=vv at *
 have hi2:i<(us.set i (a,s1)).length:=by rw[List.length_set];exact hi
 obtain⟨hU2,hown2⟩:=H2.at hi2 (List.getElem_set_self _)
 have own2:∀{b},a.set b→ℓ2 b≠none:=fun hb=>by rw[hown2 _ hb];exact Option.some_ne_none _
 have T5:=(T3.go g4).go g5
 have g25:=T5.keep
 obtain⟨P5,hub5,hpr5⟩:=(hU2.grow g25).unit
 have lub:a.ub<w2.heap.size:=hU2.lt z1
 have lps:a.ps<w2.heap.size:=hU2.lt z3
 have s3:=T3.keep.size
 have s4:=g4.size
 refine⟨rfl,?_⟩
 rw[gA,am_]
 refine a2_ hub5 (by show 8<16;decide) rfl fun w6 hub6 hk6 hs6=>⟨rfl,?_⟩
 refine a2_ hub6 (by show 7<16;decide) rfl fun w7 hub7 hk7 hs7=>?_
 rintro w8 rfl
 have g8:=aq_ w7
 generalize w7.drew=w8 at *
 have k28:ab_ (fun b=>b=a.ub) w2 w8:=((g25.mono fun _ _ q=>q.elim).trans (hk6.trans hk7 fun _ _ q=>q) fun _ _ q=>q).grow g8
 have k58:ab_ (fun b=>b=a.ub) w5 w8:=(hk6.trans hk7 fun _ _ q=>q).grow g8
 have sf:∀{S:Nat→Prop},(∀b,S b→b=a.ub∨b=a.ps)→bg_ w2 (fun k=>ℓ2 k≠none) S:=fun hS=>bg_.sub fun b _ q=>by
  rcases hS b q with r|r
  ·rw[r];exact own2 z1
  ·rw[r];exact own2 z3
 have hub8:Blk w8 a.ub (dc_ {a with tb:=tb,pg:=pb} P5 {s1 with tab:=t,now:=vv,saved:=vv,cache:=vv.wce}) bo_:=g8.heap hub7 (fun q=>q)
 obtain⟨y1,y2,y3,y4,y5,y6,y7⟩:=hU2.step1 (N':=fun k=>ℓ2 k≠none) k28 (sf fun b q=>.inl q) (fun b q=>.inl q)
 obtain⟨n1,n2,n3,n4,n5,n6,n7,n8,n9,n10,n11,n12,n13,n14,n15,n16,n17,n18,n19,n20,n21⟩:=hU2.ne
 have dev8:=y2 fun e=>n1 e.symm
 have sto8:=y3 fun e=>n2 e.symm
 have hP8:IsP w8 pb vv vv:=k58.heap hP5 o_
 have cu:∀{o:Nat} {x:Value},(dc_ {a with tb:=tb,pg:=pb} P5 {s1 with tab:=t,now:=vv,saved:=vv,cache:=vv.wce})[o]?=some x→w8.cell? ((gA (some (⟨a.ub,0,none⟩:Addr))).add o)=some x:=fun e=>by rw[gA,am_,hub8.cell,Nat.zero_add];exact e
 have cug:∀{y:World} {o:Nat} {x:Value},ac_ w8 y→(dc_ {a with tb:=tb,pg:=pb} P5 {s1 with tab:=t,now:=vv,saved:=vv,cache:=vv.wce})[o]?=some x→y.cell? ((gA (some (⟨a.ub,0,none⟩:Addr))).add o)=some x:=fun g e=>by rw[gA,am_,Blk.cell (g.heap hub8 (fun q=>q)),Nat.zero_add];exact e
 refine⟨fun y=>ac_ w8 y,ab_.refl _ _,rfl,some ⟨a.dv,0,none⟩,fun y q=>cug q rfl,rfl,some ⟨a.ps,0,none⟩,fun y q=>by rw[gA];exact px_ (q.heap dev8 (fun q=>q)),rfl,some ⟨pb,0,none⟩,fun y q=>cug q rfl,?_⟩
 refine lW_ hP8 fun w9 g9=>⟨g9,fun y=>ac_ w8 y,g9,fun _ q=>q,vv.wce,fun _ _=>rfl,?_⟩
 have sto9:IsS w9 a.ps pw s1.file s1.n s1.cache:=g9.heap sto8 (fun q=>q)
 refine r9_ (on:=vv.wce) sto9 fun w10 hk10 hS10=>?_
 have k10:ab_ (fun b=>b=a.ub∨b=a.ps) w2 w10:=((k28.grow g9).mono fun _ _ q=>.inl q).trans hk10 fun _ _ q=>.inr q
 have lt5:=k28.size
 have lpb:pb<w5.heap.size:=au_ hP5
 obtain⟨sT,hT1,hT2⟩:=T5.blk
 have ltb:tb<w5.heap.size:=au_ hT1
 have hm:=H2.move (i:=i) (a':={a with tb:=tb,pg:=pb}) (s':={s1 with tab:=t,now:=vv,saved:=vv,cache:=vv.wce}) hi2 k10 (fun b _ q=>by
   rw[List.getElem_set_self]
   rcases q with r|r
   ·rw[r];exact z1
   ·rw[r];exact z3) (fun b hb=>by
   rw[List.getElem_set_self]
   rcases hb with r|r|r|r|r|r|r
   ·exact .inl (.inl r)
   ·exact .inl (.inr (.inl r))
   ·exact .inl (.inr (.inr (.inl r)))
   ·exact .inl (.inr (.inr (.inr (.inl r))))
   ·refine .inr ?_;rw[r];show w2.heap.size≤pb;omega
   ·refine .inr ?_;rw[r];exact T3.new
   ·exact .inl (.inr (.inr (.inr (.inr (.inr (.inr r))))))) (fun N' hN'=>?_)
 ·obtain⟨ℓ3,m3,H3⟩:=hm
  rw[List.set_set] at H3
  exact hR w10 ℓ3 {a with tb:=tb,pg:=pb} ⟨rfl,rfl,rfl,rfl,rfl⟩ (m2.trans m3) H3
 ·have hNN:∀b,N' b→ℓ2 b≠none∨w2.heap.size≤b:=fun b hb=>(hN' b hb).elim .inl fun q=>.inr q.1
  obtain⟨v1,v2,v3,v4,v5,v6,v7⟩:=hU2.step1 (N':=N') k10 (sf fun b q=>q) hNN
  have k510:ab_ (fun b=>b=a.ub∨b=a.ps) w5 w10:=((k58.grow g9).mono fun _ _ q=>.inl q).trans hk10 fun _ _ q=>.inr q
  have nub:∀{b},w2.heap.size≤b→¬(b=a.ub∨b=a.ps):=fun hb q=>by rcases q with r|r<;>omega
  have hub10:Blk w10 a.ub (dc_ {a with tb:=tb,pg:=pb} P5 {s1 with tab:=t,now:=vv,saved:=vv,cache:=vv.wce}) bo_:=hk10.heap (g9.heap hub8 (fun q=>q)) n2
  have hTb:Blk w10 tb (bU_ sT t) bY_:=k510.heap hT1 (nub T3.new)
  have hPb:IsP w10 pb vv vv:=k510.heap hP5 (nub o_)
  refine⟨⟨P5,hub10,?_⟩,v2 (fun q=>q.elim (fun r=>n1 r.symm) fun r=>n7 r),hS10,v4 (fun q=>q.elim (fun r=>n3 r.symm) fun r=>n12 r.symm),hPb,⟨⟨sT,hTb,?_⟩,ok⟩,v7 (fun q=>q.elim (fun r=>n6 r.symm) fun r=>n15 r.symm)⟩
  ·obtain⟨Pq,hq1,hq2⟩:=hU2.unit
   have e5:Blk w5 a.ub (dc_ a Pq s1) bo_:=g25.heap hq1 (fun q=>q)
   have ePP:Pq=P5:=by
    have:=e5.symm.trans hub5
    injection this with this
    injection this with this _ _
    have h10:=congrArg (fun x=>x[10]?) this
    have h10:some (Value.slice Pq.A Pq.n Pq.c)=some (Value.slice P5.A P5.n P5.c):=h10
    injection h10 with h10
    injection h10 with h1 h2 h3
    obtain⟨A1,n1,c1⟩:=Pq
    obtain⟨A2,n2,c2⟩:=P5
    dsimp only at h1 h2 h3
    subst h1 h2 h3
    rfl
   rw[←ePP]
   exact hq2.step (.inr (.inr rfl)) k10 (sf fun b q=>q) hNN
  ·have hT3:Own w10 w2.heap.size aJ_ 2 sT (rgv t.regs):=hT2.keep k510 fun b hb q=>nub (hT2.ge b hb).1 q
   refine⟨hT3.mono (Nat.zero_le _),by have:=hT3.len;rw[ch_] at this;have:=ok.few;omega,fun b hb hN=>?_⟩
   have hbw:=(hT3.ge b hb).1
   rcases hN' b hN with r|⟨_,r⟩
   ·have:=H2.lt b r;omega
   ·rcases r with r|r|r|r|r|r|r
    ·have:b=a.ub:=r;omega
    ·have:b=a.dv:=r;have:=hU2.lt z2;omega
    ·have:b=a.ps:=r;omega
    ·have:b=a.sl:=r;have:=hU2.lt z4;omega
    ·exact bd_ hT3 hPb d_ (by rw[hb,r])
    ·exact bd_ hT3 hTb d_ (by rw[hb,r])
    ·have:b=a.qb:=r;have:=hU2.lt z7;omega
theorem nI_ {F:Int→Bool} {s:USt} {st:Wst} (h:s.on=1∨(s.on=0∧s.lock=0)):(aA_ F s st).2.1.on=1:=by
 unfold aA_
 split
 ·assumption
 ·rfl
def ni_ (F:Int→Bool) (s:USt) (st:Wst):Prop:=∀{R:Int→W_} {w:World} {ℓ:Nat→Option Nat} {pw i:Nat} {a:UA} {us:List (UA×USt)},Sys w ℓ pw st F us→1≤s.keepf.size∧s.keepf.size≤30→st.ops<10000000000→i<us.length→us[i]?=some (a,s)→
 (∀u ℓ' a',a.like a'→Mv w u ℓ ℓ'→Sys u ℓ' pw (cK_ F s st).2.2 F (us.set i (a',(cK_ F s st).2.1))→R (((cK_ F s st).1:Nat):Int) u)→dI_ (some ⟨a.ub,0,none⟩) w R
theorem w4_ (F:Int→Bool) (s:USt) (st:Wst):ni_ F s st:=fun H hk ho hi he hR=>w3_ H hk ho hi (List.getElem?_eq_some_iff.1 he).2 hR
theorem qk_ {R:Int→W_} (hL:s.on≠1→ni_ F {s with lock:=1} st) (H:Sys w ℓ pw st F us) (K:SOk st us m) (hm:m≤500000000) (hi:i<us.length) (he:us[i]=(a,s))
  (hR:∀u ℓ' a',a.like a'→Mv w u ℓ ℓ'→Sys u ℓ' pw (aA_ F s st).2.2 F (us.set i (a',(aA_ F s st).2.1))→SOk (aA_ F s st).2.2 (us.set i (a',(aA_ F s st).2.1)) (m+2)→R (((aA_ F s st).1:Nat):Int) u):bT_ (some ⟨a.ub,0,none⟩) w R:=by
 have KU:=K.at hi he
 have hKs:∀a':UA,SOk (aA_ F s st).2.2 (us.set i (a',(aA_ F s st).2.1)) (m+2):=fun a'=>by
  have K2:=K.near (o5_ (F:=F) (s:=s) (st:=st))
  refine K2.put (x:=(a',(aA_ F s st).2.1)) ?_
  have KU2:=K2.at hi he
  have sm:=ip_ (F:=F) (s:=s) (st:=st)
  refine⟨by rw[sm.n];exact KU2.n,by rw[sm.inf];exact KU2.form,by rw[sm.file,sm.keepf];exact KU2.name,by rw[sm.file];exact KU2.good,.inl (nI_ KU.once)⟩
 have hR:∀u ℓ' a',a.like a'→Mv w u ℓ ℓ'→Sys u ℓ' pw (aA_ F s st).2.2 F (us.set i (a',(aA_ F s st).2.1))→R (((aA_ F s st).1:Nat):Int) u:=fun u ℓ' a' h1 h2 h3=>hR u ℓ' a' h1 h2 h3 (hKs a')
 clear hKs
 rcases KU.once with hon|⟨hon,hlk⟩
 ·unfold aA_ at hR
  rw[if_pos hon] at hR
  exact nD_ H hi he hon fun u g=>hR u ℓ a (UA.like.refl a) (Mv.grow g) (by show Sys u ℓ pw st F (us.set i (a,s));rw[og_ hi he];exact H.grow g)
 unfold aA_ at hR
 rw[if_neg o_] at hR
 refine cB_.calls _ _ _ (ah_ fun fb w1 hfb hb1 hg1 hs1=>?_)
 obtain⟨z1,z2,z3,z4,z5,z6,z7⟩:=dC_ a
 have H1:=H.grow hg1
 obtain⟨hU,hown⟩:=H1.at hi he
 have hfn:ℓ fb=none:=H.fresh o_
 have cf:∀{v:World},Blk v fb #[.pointer (some ⟨a.ub,0,none⟩)] aI_→v.cell? ⟨fb,0,none⟩=some (.pointer (some ⟨a.ub,0,none⟩)):=fun q=>by rw[Blk.cell q];rfl
 refine⟨some ⟨a.ub,0,none⟩,cf hb1,some ⟨a.ub,0,none⟩,fun _=>cf hb1,fun _=>rfl,some ⟨a.dv,0,none⟩,fun _=>hU.cellU fun P=>rfl,al_ rfl ⟨some ⟨a.ub,0,none⟩,cf hb1,rfl,?_⟩⟩
 rw[show(gA (some (⟨a.ub,0,none⟩:Addr))).add 11=⟨a.ub,11,none⟩ by rw[gA,am_]]
 obtain⟨P,hP1,hP2⟩:=hU.unit
 refine oS_ (o:=11) hP1 (by show some (Value.int .u32 (s.on:Int))=_;rw[hon];rfl) (by show some (Value.int .i32 (s.lock:Int))=_;rw[hlk];rfl) fun w2 hb2 hk2 hs2=>?_
 have sfe:∀{S:Nat→Prop} {x:World},(∀b,S b→b=a.ub)→bg_ x (fun k=>ℓ k≠none) S:=fun hS=>bg_.sub fun b _ q=>by rw[hS b q,hown _ z1];exact Option.some_ne_none _
 have hU2:IsU w2 (fun k=>ℓ k≠none) pw a {s with lock:=1}:=hU.unitC (on:=s.on) (lk:=1) (fl:=s.fault) (ct:=s.count) (ps:=s.peers) hk2 (sfe fun _ q=>q) (fun b _ hne q=>hne q) (fun _ q=>.inl q) ⟨P,hb2,hP2.step (.inr (.inr rfl)) hk2 (sfe fun _ q=>q) fun _ q=>.inl q⟩
 obtain⟨m2,H2⟩:=H1.putA hi he hk2 (fun b _ q=>by rw[q];exact z1) hU2
 have hi2:i<(us.set i (a,{s with lock:=1})).length:=by rw[List.length_set];exact hi
 have hf2:Blk w2 fb #[.pointer (some ⟨a.ub,0,none⟩)] aI_:=m2.heap hb1 hfn
 refine cM_.calls _ _ _ ?_
 rintro w3 rfl
 have hg3:=aq_ w2
 have H3:=H2.grow hg3
 have hf3:Blk w2.drew fb _ aI_:=hg3.heap hf2 (fun q=>q)
 generalize w2.drew=w3 at *
 refine⟨fun o=>o.cell? ⟨fb,0,none⟩=some (.pointer (some ⟨a.ub,0,none⟩)),cf hf3,some ⟨a.ub,0,none⟩,fun _ q=>q,some ⟨a.ub,0,none⟩,fun _ q=>q,?_⟩
 have elu:cK_ F {s with lock:=1} st=((cK_ F s st).1,{(cK_ F s st).2.1 with lock:=1},(cK_ F s st).2.2):=by
  unfold cK_ gR_ hL_
  dsimp only
  split
  ·rfl
  split
  ·rfl
  split
  ·rfl
  cases l1_ ((aQ_ F st s.keepf ⟨s.sure,s.at_,s.gen⟩).2.1.drop 1)<;>rfl
 refine hL o_ H3 KU.sizes.2 (by have:=K.few;omega) hi2 (List.getElem?_eq_some_iff.2 ⟨hi2,List.getElem_set_self _⟩) fun w4 ℓ4 a4 hl4 m4 H4=>?_
 rw[elu,List.set_set] at H4
 rw[elu]
 dsimp only at H4 ⊢
 have hi4:∀y,i<(us.set i y).length:=fun y=>by rw[List.length_set];exact hi
 obtain⟨hU4,hown4⟩:=H4.at (hi4 _) (List.getElem_set_self _)
 have hf4:Blk w4 fb _ aI_:=m4.heap hf3 hfn
 have sm:=(o4_ (s1:=hL_ F s st) (e:=(aQ_ F st s.keepf ⟨s.sure,s.at_,s.gen⟩).1) (l:=(aQ_ F st s.keepf ⟨s.sure,s.at_,s.gen⟩).2.1))
 have son:(cK_ F s st).2.1.on=s.on:=sm.2.1
 generalize (cK_ F s st).1=e at *
 generalize (cK_ F s st).2.1=s4 at *
 generalize (cK_ F s st).2.2=st4 at *
 obtain⟨q1,q2,q3,q4,q5,q6,q7⟩:=dC_ a4
 have eub:=hl4.ub
 obtain⟨P4,hP41,hP42⟩:=hU4.unit
 rw[eub] at hP41 q1
 refine⟨cf hf4,rfl,?_⟩
 rw[gA,am_]
 refine a2_ hP41 (by show 14<16;decide) rfl fun w5 hb5 hk5 hs5=>⟨_,hb5,by show some (Value.int .u32 (s4.on:Int))=_;rw[son,hon];rfl,rfl,fun w6 hb6 hk6 hs6=>?_⟩
 have k46:ab_ (fun b=>b=a.ub) w4 w6:=hk5.trans hk6 fun _ _ q=>q
 have sf4:bg_ w4 (fun k=>ℓ4 k≠none) fun b=>b=a.ub:=bg_.sub fun b _ q=>by rw[q,hown4 _ q1];exact Option.some_ne_none _
 have hU6:IsU w6 (fun k=>ℓ4 k≠none) pw a4 {s4 with on:=1,lock:=0,fault:=e}:=hU4.unitC (on:=1) (lk:=0) (fl:=e) (ct:=s4.count) (ps:=s4.peers) k46 sf4 (fun b _ hne q=>hne (by rw[eub];exact q)) (fun _ q=>.inl q) ⟨P4,by rw[eub];exact hb6,hP42.step (.inr (.inr rfl)) k46 sf4 fun _ q=>.inl q⟩
 obtain⟨m6,H6⟩:=H4.putA (hi4 _) (List.getElem_set_self _) k46 (fun b _ q=>by rw[q];exact q1) hU6
 rw[List.set_set] at H6
 have hf6:Blk w6 fb _ aI_:=k46.heap hf4 fun q=>by
  have:=hown4 _ q1
  rw[←q] at this
  have e:=m4.lab fb (by have:=au_ hf3;exact this)
  rw[e,hfn] at this;cases this
 obtain⟨hU6',_⟩:=H6.at (hi4 _) (List.getElem_set_self _)
 have cu:w6.cell? ((gA (some (⟨a.ub,0,none⟩:Addr))).add 14)=some (.int .i64 (e:Int)):=by
  have:=hU6'.cellU (o:=14) (x:=.int .i64 (e:Int)) fun P=>rfl
  rwa [eub] at this
 refine⟨some ⟨a.ub,0,none⟩,cf hf6,rfl,(e:Int),cu,?_⟩
 exact hR w6 ℓ4 a4 hl4 (((((Mv.grow hg1).trans m2).trans (Mv.grow hg3)).trans m4).trans m6) H6
end
open Go CF
structure dD_ where
 from_:Int
 to_:Int
 blocks:Int
 src:Nat
 dst:Nat
def sgv (x:dD_):List Value:=[.int .i64 x.from_,.int .i64 x.to_,.int .i64 x.blocks,.int .u64 (x.src:Int),.int .u64 (x.dst:Int)]
theorem nj_ (x:dD_):(sgv x).length=5:=rfl
def sub (p:L8) (at_ n:Nat):L8:=(p.drop at_).take n
theorem pH_ {p:L8} {at_ n:Nat} (h:at_+n≤p.length):(sub p at_ n).length=n:=by simp[sub];omega
def ku_ (l:L8):L8:=(l.reverse.dropWhile (·==32)).reverse
def jQ_:L8:=[0xe4,0,0,0,2,1,0,20]
def h0_ (d:L8):Option Nat:=
 match (List.range 8).find? (fun i=>decide (d.getD i 0≠jQ_.getD i 0)) with
 | some i=>some i
 | none=>if d.getD 28 0≠0 then some 28 else if num (sub d 29 3)≠16 then some 29 else none
def le_ (d:L8):L8:=ku_ (sub d 8 20)
def o6_ (nu:Nat) (q:L8):Option Nat:=
 if num (sub q 0 4)≠0x02000018 then some 0 else if num (sub q 8 2)≠0 then some 8 else if nu≤num (sub q 4 2) then some 4 else if nu≤num (sub q 6 2) then some 6
 else if 256<num (sub q 10 2) then some 10 else none
def kv_ (q:L8):dD_:=⟨(num (sub q 4 2):Int),(num (sub q 6 2):Int),(num (sub q 10 2):Int),num (sub q 12 8),num (sub q 20 8)⟩
def nuX (p:L8):Nat:=num (sub p 2 2)
def nsX (p:L8):Nat:=num (sub p 8 4)
def kw_ (p:L8):Option Sn:=
 if p.length<16 then some (cE_ 0x1a00)
 else if num (sub p 0 2)≠0 then some (c4_ 0) else if num (sub p 4 4)≠0 then some (c4_ 4) else if num (sub p 12 4)≠0 then some (c4_ 12)
 else if nuX p%32≠0 then some (c4_ 2) else if nsX p%28≠0 then some (c4_ 8) else if p.length≠16+nuX p+nsX p then some (cE_ 0x1a00)
 else if 256<nuX p∨224<nsX p then some (cE_ 0x2608) else none
def iE_ (p:L8) (j:Nat):L8:=sub p (16+32*j) 32
def cm_ (p:L8) (j:Nat):L8:=sub p (16+nuX p+28*j) 28
def hM_ (p:L8) (j:Nat):Option Nat:=(h0_ (iE_ p j)).map (16+32*j + ·)
def gu_ (p:L8) (j:Nat):Option Nat:=(o6_ (nuX p/32) (cm_ p j)).map (16+nuX p+28*j + ·)
def dd_ (p:L8) (k:Nat):List L8:=(List.range k).map fun j=>le_ (iE_ p j)
def e5_ (p:L8) (k:Nat):List dD_:=(List.range k).map fun j=>kv_ (cm_ p j)
structure za_ where
 us:List L8
 ss:List dD_
 sn:Sn
 ok:Bool
def noX (s:Sn):za_:=⟨[],[],s,false⟩
def aW_ (p:L8):za_:=
 if p = [] then⟨[],[],sn0,true⟩ else match kw_ p with
 | some s=>noX s
 | none=>match (List.range (nuX p/32)).findSome? (hM_ p) with
  | some f=>noX (c4_ f)
  | none=>match (List.range (nsX p/28)).findSome? (gu_ p) with
   | some f=>noX (c4_ f)
   | none=>⟨dd_ p (nuX p/32),e5_ p (nsX p/28),sn0,true⟩
theorem kx_ {α:Type} {f:Nat→Option α} {n i:Nat} {x:α} (hi:i<n) (h:∀j,j<i→f j=none) (hx:f i=some x):(List.range n).findSome? f=some x:=by
 induction n generalizing i with
 | zero=>omega
 | succ n ih=>
  rw[List.range_succ,List.findSome?_append]
  by_cases e:i<n
  ·rw[ih e h hx];rfl
  ·have:i=n:=o_
   subst this
   have:(List.range i).findSome? f=none:=by
    rw[List.findSome?_eq_none_iff]
    intro j hj;exact h j (List.mem_range.1 hj)
   rw[this]
   simp[hx]
theorem me_ {α:Type} {f:Nat→Option α} {n:Nat} (h:∀j,j<n→f j=none):(List.range n).findSome? f=none:=by
 rw[List.findSome?_eq_none_iff]
 intro j hj;exact h j (List.mem_range.1 hj)
theorem sP_ (p:L8) (k:Nat):dd_ p (k+1)=dd_ p k++[le_ (iE_ p k)]:=by simp[dd_,List.range_succ]
theorem uk_ (p:L8) (k:Nat):e5_ p (k+1)=e5_ p k++[kv_ (cm_ p k)]:=by simp[e5_,List.range_succ]
theorem ul_ (p:L8) (k:Nat):(dd_ p k).length=k:=by simp[dd_]
theorem vK_ (p:L8) (k:Nat):(e5_ p k).length=k:=by simp[e5_]
theorem um_ (l:L8) (b:UInt8):ku_ (l++[b])=if b=32 then ku_ l else l++[b]:=by
 unfold ku_
 rw[List.reverse_append,List.reverse_singleton,List.singleton_append,List.dropWhile_cons]
 by_cases h:b=32
 ·rw[if_pos h,if_pos (by simp[h])]
 ·rw[if_neg h,if_neg (by simp[h])]
  simp
open Go CF
theorem sb_ (l:L8) (i j:Nat):(str l).extract i j=str ((l.take j).drop i):=by
 have:((str l).extract i j).data.toList=(str ((l.take j).drop i)).data.toList:=by
  simp[str,ByteArray.data_extract,List.extract_eq_take_drop,List.drop_take]
 exact ByteArray.ext (Array.toList_inj.1 this)
theorem sc_ (l:L8):(str l).size=l.length:=by simp[str,ByteArray.size]
theorem l4_ (s:Sn):(snv s).toArray.all (·.oneCell')=true:=by simp[snv,Value.oneCell']
theorem qE_ {l:L8} {w:World} {R:ByteArray→W_} (hl:l.length≤1000000) (h:R (str (ku_ l)) w):eb_ (str l) 32 w R:=by
 refine cJ_.calls _ _ _ _ ?_
 refine⟨fun s1 x=>∃l1:L8,s1=str l1∧x=w∧ku_ l1=ku_ l∧l1.length≤1000000,fun s1 _=>s1.size,⟨l,rfl,rfl,rfl,hl⟩,?_⟩
 rintro s1 x ⟨l1,rfl,rfl,ht,hl1⟩
 have hsz:(str l1).size=l1.length:=sc_ l1
 rcases List.eq_nil_or_concat l1 with rfl|⟨r,b,rfl⟩
 ·refine⟨fun q=>?_,al_ ?_ ?_⟩
  ·rw[decide_eq_true_eq,hsz] at q;simp at q
  ·rw[Bool.and_eq_false_iff];left;rw[decide_eq_false_iff_not,hsz];simp
  ·rw[←ht] at h;exact h
 ·rw[List.concat_eq_append] at ht hl1 hsz ⊢
  have hlen:(r++[b]).length=r.length+1:=by simp
  rw[hsz,hlen]
  have e1:IntKind.wrap .i64 (((r.length+1:Nat):Int)-1)=((r.length:Nat):Int):=by rw[w64 o_ o_];omega
  rw[e1]
  have hb:bt (str (r++[b])) (r.length:Int)=(b.toNat:Int):=by
   rw[yE_ _ _ (by rw[mk_];simp)]
   simp[mk_]
  refine⟨fun _=>o_,?_⟩
  rw[hb]
  rw[um_] at ht
  by_cases q:b=32
  ·rw[if_pos q] at ht
   refine ao_ (by rw[Bool.and_eq_true,decide_eq_true_eq,beq_iff_eq,q];exact⟨o_,rfl⟩) ⟨o_,?_⟩
   rw[Int.toNat_natCast,sb_,List.drop_zero,List.take_append_of_le_length (Nat.le_refl _),List.take_length]
   exact⟨⟨r,rfl,rfl,ht,o_⟩,by show(str r).size<(str (r++[b])).size;rw[hsz,hlen,sc_];omega⟩
  ·rw[if_neg q] at ht
   refine al_ (by rw[Bool.and_eq_false_iff];right;rw[beq_eq_false_iff_ne];intro e;exact q (UInt8.toNat_inj.1 (by show b.toNat=32;omega))) ?_
   rw[ht];exact h
theorem pI_ {l:L8} {w:World} {R:ByteArray→W_} (hl:l.length≤1000000) (h:R (str (ku_ l)) w):fQ_ (str l) m2_ w R:=by
 refine d2_.calls _ _ _ _ ?_
 have e2:sEq m2_ ⟨#[]⟩=false:=by
  show sEq (str [32]) (str [])=false
  rw[kV_];rfl
 have e3:((m2_.size:Int)==1)=true:=d_
 have e4:decide ((bt m2_ 0)<128)=true:=d_
 have e5:bt m2_ 0=32:=d_
 by_cases q:l = []
 ·subst q
  exact ao_ (by rw[sY_,kV_];simp) h
 ·refine al_ (by rw[e2,Bool.or_false,sY_,kV_];simpa using q) ⟨fun _=>d_,ao_ (by rw[e3,e4];rfl) ⟨d_,?_⟩⟩
  rw[e5]
  exact qE_ hl h
theorem b9_ {p:Sl} {l:L8} {at_ n:Nat} {w:World} {R:Int→W_} (hp:Rd w 1 p (bv l)) (hn:1≤n) (hn7:n≤7) (hat:at_+n≤l.length) (h:R ((num (sub l at_ n):Nat):Int) w):bu_ p (at_:Int) (n:Int) w R:=by
 refine gG_.calls _ _ _ _ _ ?_
 refine cC_ hp hp.nb hn o_ hat ?_
 have hlt:=u9_ (l:=(l.drop at_).take n) (j:=n) (by rw[List.length_take,List.length_drop];omega) hn7
 rw[w64 o_ o_]
 exact h
theorem ql_ {w:World} {a:Nat} {old:A_} {s:Sn} {K:A_→W_} (hb:Blk w a old aL_) (ho:old.size=8)
  (h:∀w',ab_ (fun k=>k=a) w w'→K (snv s).toArray w') :
  ag_ Tryz.prog (storeVar aL_ ⟨a,0,none⟩ (.agg (snv s).toArray)) w fun w'=>∃res:A_,(loadVar aL_ ⟨a,0,none⟩).run Tryz.prog w'=.ok (.agg res) w'∧K res w':=
 ar_ (cells:=(snv s).toArray) hb ba_ rfl ho (l4_ _) fun w1 hb1 hk1 _=>⟨_,hC_ (ax_ hb1),h w1 hk1⟩
theorem pJ_ {code:Nat} {w:World} {R:A_→W_} (h:∀v,ac_ w v→R (snv (cE_ code)).toArray v):bl_ (code:Int) (-1) w R:=by
 refine hr_.calls _ _ _ _ ?_
 refine ah_ fun ab w0 hab hb0 hg0 hsz0=>?_
 refine ah_ fun sb w1 hsb hb1 hg1 hsz1=>?_
 refine ar_ (cells:=(snv (cE_ code)).toArray) hb1 ba_ rfl rfl (l4_ _) fun w2 hb2 hk2 _=>?_
 have s0:=hg0.size
 have hg2:ac_ w0 w2:=hg1.keep hk2 fun i hi q=>o_
 exact al_ rfl ⟨_,hC_ (ax_ hb2),ql_ (hg2.heap hb0 (fun q=>q)) rfl fun w3 hk3=>h w3 (cF_ (hg0.trans hg2) o_ hk3)⟩
theorem h1_ {f:Nat} {w:World} {R:A_→W_} (h:∀v,ac_ w v→R (snv (c4_ f)).toArray v):bl_ 9728 (f:Int) w R:=by
 refine hr_.calls _ _ _ _ ?_
 refine ah_ fun ab w0 hab hb0 hg0 hsz0=>?_
 refine ah_ fun sb w1 hsb hb1 hg1 hsz1=>?_
 refine ar_ (cells:=(snv (cE_ 9728)).toArray) hb1 ba_ rfl rfl (l4_ _) fun w2 hb2 hk2 _=>?_
 have s0:=hg0.size
 refine ao_ (by rw[decide_eq_true_eq];omega) ?_
 rw[am_,am_,am_]
 refine a2_ hb2 (by show 4<8;decide) rfl fun w3 hb3 hk3 _=>?_
 refine a2_ hb3 (by show 5<8;decide) rfl fun w4 hb4 hk4 _=>?_
 refine a2_ hb4 (by show 6<8;decide) rfl fun w5 hb5 hk5 _=>?_
 have hb5:Blk w5 sb (snv (c4_ f)).toArray aL_:=hb5
 have hg5:ac_ w0 w5:=(((hg1.keep hk2 fun i hi q=>o_).keep hk3 fun i hi q=>o_).keep hk4 fun i hi q=>o_).keep hk5 fun i hi q=>o_
 exact⟨_,hC_ (ax_ hb5),ql_ (hg5.heap hb0 (fun q=>q)) rfl fun w6 hk6=>h w6 (cF_ (hg0.trans hg5) o_ hk6)⟩
open Go CF
theorem un_ {p:Nat→Bool} {n i:Nat} (hi:i<n) (h:∀j,j<i→p j=false) (hp:p i=true):(List.range n).find? p=some i:=by
 rw[List.find?_range_eq_some]
 exact⟨hp,List.mem_range.2 hi,fun j hj=>by rw[h j hj];rfl⟩
theorem uo_ {p:Nat→Bool} {n:Nat} (h:∀j,j<n→p j=false):(List.range n).find? p=none:=by
 rw[List.find?_range_eq_none]
 exact fun j hj=>by rw[h j hj];rfl
theorem yi_ {d:L8} {i:Nat} (h:i<d.length):num (sub d i 1)=(d.getD i 0).toNat:=by
 have e:sub d i 1 = [d[i]]:=by unfold sub;rw[List.drop_eq_getElem_cons h];rfl
 rw[e,List.getD_eq_getElem?_getD,List.getElem?_eq_getElem h]
 simp[num]
theorem vL_ (w:World):(Instr.buildSlice aE_ 8 #[(0,.int .u8 228),(1,.int .u8 0),(2,.int .u8 0),(3,.int .u8 0),(4,.int .u8 2),(5,.int .u8 1),(6,.int .u8 0),(7,.int .u8 20)]).run Tryz.prog w=.ok (.slice (some ⟨w.heap.size,0,none⟩) 8 8) (w.alloc (.cells (bv jQ_).toArray ae_)):=k_
theorem vM_ {p:Sl} {d:L8} {w:World} {R:ByteArray→Int→W_} (hp:Rd w 1 p (bv d)) (hd:d.length=32) (hB:∀f,h0_ d=some f→∀v,ac_ w v→R ⟨#[]⟩ (f:Int) v) (hG:h0_ d=none→∀v,ac_ w v→R (str (le_ d)) (-1) v):kF_ p w R:=by
 refine ic_.calls _ _ _ ?_
 have hln:=dj_ hp
 have hcap:=hp.cap
 refine aH_ (cells:=(bv jQ_).toArray) (e:=ae_) (z:=1) (base:=0) (vL_ w) rfl d_ (Nat.zero_le _) fun w1 hlit1 hg1 _=>?_
 have hp1:=hp.grow hg1
 have hx1:Rd w1 1 _ (bv jQ_):=hlit1.rd (by show 8≤_;omega)
 refine⟨fun x v=>∃j:Nat,x=j∧j≤8∧v=w1∧∀i,i<j→d.getD i 0=jQ_.getD i 0,fun x _=>8-x.toNat,⟨0,rfl,Nat.zero_le _,rfl,fun _ q=>absurd q (Nat.not_lt_zero _)⟩,?_⟩
 rintro x v ⟨j,rfl,hj,rfl,hall⟩
 refine bh_ (y:=8) (fun hlt=>?_) (fun hge=>?_)
 ·obtain⟨a1,c1⟩:=fF_ hx1 (i:=j) hlt
  obtain⟨a2,c2⟩:=fF_ hp1 (i:=j) o_
  refine⟨⟨o_,by show(j:Int)<8;omega,a1⟩,_,by rw[Int.toNat_natCast];exact c1,⟨o_,o_,a2⟩,_,by rw[Int.toNat_natCast];exact c2,?_⟩
  refine gv_ (fun e=>hB j ?_ _ hg1) (fun e=>?_)
  ·have:(List.range 8).find? (fun i=>decide (d.getD i 0≠jQ_.getD i 0))=some j:=un_ hlt (fun i hi=>decide_eq_false (fun q=>q (hall i hi))) (decide_eq_true (fun q=>e (by rw[q])))
   unfold h0_;rw[this]
  ·rw[w64 o_ o_]
   refine⟨⟨j+1,o_,o_,rfl,fun i hi=>?_⟩,by dsimp only;omega⟩
   by_cases q:i=j
   ·rw[q];exact UInt8.toNat_inj.1 o_
   ·exact hall i o_
 ·have hnone:(List.range 8).find? (fun i=>decide (d.getD i 0≠jQ_.getD i 0))=none:=uo_ fun i hi=>decide_eq_false (fun q=>q (hall i o_))
  have hub:h0_ d=if d.getD 28 0≠0 then some 28 else if num (sub d 29 3)≠16 then some 29 else none:=by unfold h0_;rw[hnone]
  rw[hub] at hB hG
  refine b9_ (at_:=28) (n:=1) hp1 d_ d_ o_ ?_
  rw[yi_ o_]
  by_cases q:d.getD 28 0=0
  case neg=>
   refine ao_ ?_ (hB 28 (if_pos q) _ hg1)
   rw[bne_iff_ne]
   intro e
   exact q (UInt8.toNat_inj.1 (by show(d.getD 28 0).toNat=0;omega))
  rw[if_neg (fun r=>r q)] at hB hG
  refine al_ (by rw[q];rfl) ?_
  refine b9_ (at_:=29) (n:=3) hp1 d_ d_ o_ ?_
  by_cases q2:num (sub d 29 3)=16
  case neg=>exact ao_ (by rw[bne_iff_ne];omega) (hB 29 (if_pos q2) _ hg1)
  rw[if_neg (fun r=>r q2)] at hB hG
  refine al_ (by rw[q2];rfl) ⟨⟨d_,d_,o_,hcap⟩,str (sub d 8 20),?_,?_⟩
  ·exact cj_ (s:=⟨aP_ p.A p.c 8 1,28-8,p.c-8⟩) aN_ eH_ dq_ (hp1.cutB (l:=8) (k:=28) d_ o_)
  ·exact pI_ (by rw[pH_ o_];decide) (hG rfl _ hg1)
open Go CF
def lsv (U S:Sl):A_:=#[.slice U.A U.n U.c,.slice S.A S.n S.c]
def dl_ (us:List L8):List Value:=us.map fun l=>.string (str l)
theorem w5_ (ss:List dD_):∀u∈ss.flatMap sgv,u.oneCell'=true:=by
 intro u hu
 simp only[List.mem_flatMap] at hu
 obtain⟨x,_,hx⟩:=hu
 simp[sgv] at hx
 rcases hx with rfl|rfl|rfl|rfl|rfl<;>rfl
theorem yj_ (w:World) (s:ByteArray):(Instr.buildSlice gq_ 1 #[(0,.string s)]).run Tryz.prog w=.ok (.slice (some ⟨w.heap.size,0,none⟩) 1 1) (w.alloc (.cells #[.string s] bQ_)):=k_
theorem yk_ (w:World) (x:dD_):(Instr.buildSlice pq_ 1 #[(0,.agg (sgv x).toArray)]).run Tryz.prog w=.ok (.slice (some ⟨w.heap.size,0,none⟩) 1 1) (w.alloc (.cells (sgv x).toArray b7_)):=k_
theorem tj_ {w:World} {a:Addr} {x:dD_} (h:bS_ w a (sgv x)):(loadVar b7_ a).run Tryz.prog w=.ok (.agg (sgv x).toArray) w:=aC_ sr_ h4_ rfl h
theorem up_ {w:World} {b:Nat} {U S:Sl} (h:Blk w b (lsv U S) aZ_):(loadVar aZ_ ⟨b,0,none⟩).run Tryz.prog w=.ok (.agg (lsv U S)) w:=aC_ (cs:=(lsv U S).toList) rt_ jw_ rfl (ax_ h)
theorem qm_:∀ss:List dD_,(ss.flatMap sgv).length=5*ss.length
 | []=>rfl
 | x::r=>by rw[List.flatMap_cons,List.length_append,nj_,qm_ r,List.length_cons];omega
theorem vN_ {v:World} {ab sb:Nat} {old old':A_} {U S:Sl} {s:Sn} {K:A_→A_→W_} (ha:Blk v ab old aZ_) (hs:Blk v sb old' aL_) (h1:old.size=2) (h2:old'.size=8) (hne:ab≠sb)
  (h:∀v',ab_ (fun k=>k=ab∨k=sb) v v'→K (lsv U S) (snv s).toArray v') :
  ag_ Tryz.prog (storeVar aZ_ ⟨ab,0,none⟩ (.agg (lsv U S))) v fun v1=>ag_ Tryz.prog (storeVar aL_ ⟨sb,0,none⟩ (.agg (snv s).toArray)) v1 fun v2=>
   ∃res:A_,(loadVar aZ_ ⟨ab,0,none⟩).run Tryz.prog v2=.ok (.agg res) v2∧∃res1:A_,(loadVar aL_ ⟨sb,0,none⟩).run Tryz.prog v2=.ok (.agg res1) v2∧K res res1 v2:=by
 refine ar_ (cells:=lsv U S) ha jw_ rfl h1 (by simp[lsv,Value.oneCell']) fun v1 hb1 hk1 _=>?_
 refine ar_ (cells:=(snv s).toArray) (hk1.heap hs (fun q=>hne q.symm)) ba_ rfl h2 (l4_ _) fun v2 hb2 hk2 _=>?_
 exact⟨_,up_ (hk2.heap hb1 hne),_,hC_ (ax_ hb2),h v2 ((hk1.mono fun _ _ q=>.inl q).trans hk2 fun _ _ q=>.inr q)⟩
theorem uq_ {p:Sl} {l:L8} {w:World} {R:A_→A_→Bool→W_} (hp:Rd w 1 p (bv l))
  (h:∀U S v,ac_ w v→Own v w.heap.size bQ_ 1 U (dl_ (aW_ l).us)→Own v w.heap.size b7_ 5 S ((aW_ l).ss.flatMap sgv)→R (lsv U S) (snv (aW_ l).sn).toArray (aW_ l).ok v):jp_ p w R:=by
 refine hp_.calls _ _ _ ?_
 have hln:=dj_ hp
 have hcap:=hp.cap
 have hnb:=hp.nb
 refine ah_ fun ab w0 hab hb0 hg0 hsz0=>?_
 refine ah_ fun sb w1 hsb hb1 hg1 hsz1=>?_
 have ha1:=hg1.heap hb0 (fun q=>q)
 have hgw1:=hg0.trans hg1
 have s0:=hg0.size
 have fin:∀{v:World} {U S:Sl} {s:Sn} {b:Bool},ac_ w1 v→(∀v',ab_ (fun k=>k=ab∨k=sb) v v'→R (lsv U S) (snv s).toArray b v')→_:=fun {v U S s b} hv hR=>vN_ (U:=U) (S:=S) (s:=s) (K:=fun r r1=>R r r1 b) (hv.heap ha1 (fun q=>q)) (hv.heap hb1 (fun q=>q)) rfl rfl o_ hR
 have gk:∀{v v':World},ac_ w1 v→ab_ (fun k=>k=ab∨k=sb) v v'→ac_ w v':=fun hv k=>(hgw1.trans hv).keep k fun i hi q=>o_
 have no:∀{v:World} {s:Sn},aW_ l=noX s→ac_ w1 v→∀v',ab_ (fun k=>k=ab∨k=sb) v v'→R (lsv ap_ ap_) (snv s).toArray false v':=fun {v s} e hv v' k=>by
  have:=h ap_ ap_ v' (gk hv k)
  rw[e] at this
  exact this (aK_ _ _ _ _) (aK_ _ _ _ _)
 by_cases hl0:l = []
 ·refine ao_ (by rw[beq_iff_eq,←hln,hl0];rfl) (fin (U:=ap_) (S:=ap_) (s:=sn0) (b:=true) (ab_.refl _ _) fun v' k=>?_)
  have:=h ap_ ap_ v' (gk (ab_.refl _ _) k)
  have e:aW_ l=⟨[],[],sn0,true⟩:=if_pos hl0
  rw[e] at this
  exact this (aK_ _ _ _ _) (aK_ _ _ _ _)
 have hlp:0<l.length:=by cases l with|nil=>exact absurd rfl hl0|cons=>simp
 refine al_ (by rw[beq_eq_false_iff_ne];omega) ?_
 have hpx:aW_ l=match kw_ l with
   | some s=>noX s
   | none=>match (List.range (nuX l/32)).findSome? (hM_ l) with
    | some f=>noX (c4_ f)
    | none=>match (List.range (nsX l/28)).findSome? (gu_ l) with
     | some f=>noX (c4_ f)
     | none=>⟨dd_ l (nuX l/32),e5_ l (nsX l/28),sn0,true⟩:=if_neg hl0
 have head:∀{s:Sn},kw_ l=some s→aW_ l=noX s:=fun e=>by rw[hpx,e]
 by_cases h16:l.length<16
 ·have e:kw_ l=some (cE_ 0x1a00):=if_pos h16
  exact ao_ (by rw[decide_eq_true_eq];omega) (pJ_ (code:=6656) fun v hv=>fin (U:=ap_) (S:=ap_) (s:=cE_ 6656) (b:=false) hv (no (head e) hv))
 refine al_ (by rw[decide_eq_false_iff_not];omega) ?_
 have hx:kw_ l=if num (sub l 0 2)≠0 then some (c4_ 0) else if num (sub l 4 4)≠0 then some (c4_ 4) else if num (sub l 12 4)≠0 then some (c4_ 12)
   else if nuX l%32≠0 then some (c4_ 2) else if nsX l%28≠0 then some (c4_ 8) else if l.length≠16+nuX l+nsX l then some (cE_ 0x1a00)
   else if 256<nuX l∨224<nsX l then some (cE_ 0x2608) else none:=if_neg h16
 have hp1:=hp.grow hgw1
 refine b9_ (at_:=2) (n:=2) hp1 d_ d_ o_ ?_
 refine b9_ (at_:=8) (n:=4) hp1 d_ d_ o_ ?_
 obtain⟨a0,c0⟩:=fF_ hp1 (i:=0) o_
 obtain⟨a1,c1⟩:=fF_ hp1 (i:=1) o_
 refine⟨⟨d_,o_,a0⟩,_,c0,fun _=>⟨d_,o_,a1⟩,_,fun _=>c1,?_⟩
 have e02:num (sub l 0 2)=(l.getD 0 0).toNat*256+(l.getD 1 0).toNat:=by
  have e:sub l 0 2 = [l.getD 0 0,l.getD 1 0]:=by
   match l,h16 with
   | a::b::r,_=>rfl
   | [a],q=>exact absurd (show 1<16 by decide) q
   | [],q=>exact absurd (show 0<16 by decide) q
  rw[e,pw_]
 have fail:∀{f:Nat},kw_ l=some (c4_ f)→∀v,ac_ w1 v→_:=fun {f} e v hv=>fin (U:=ap_) (S:=ap_) (s:=c4_ f) (b:=false) hv (no (head e) hv)
 have lu:=hU_ (l.drop 2) 2
 have ls_:=hU_ (l.drop 8) 4
 have hnu:num (sub l 2 2)=nuX l:=rfl
 have hns:num (sub l 8 4)=nsX l:=rfl
 have p2:(256:Nat) ^ 2=65536:=rfl
 have p4:(256:Nat) ^ 4=4294967296:=rfl
 rw[p2] at lu
 rw[p4] at ls_
 have lu:nuX l<65536:=lu
 have ls_:nsX l<4294967296:=ls_
 rw[hnu,hns]
 by_cases q0:num (sub l 0 2)=0
 case neg=>exact ao_ (by rw[Bool.or_eq_true,bne_iff_ne,bne_iff_ne];omega) (h1_ (f:=0) (fail (by rw[hx,if_pos q0])))
 rw[if_neg (fun r=>r q0)] at hx
 refine al_ (by rw[Bool.or_eq_false_iff,bne_eq_false_iff_eq,bne_eq_false_iff_eq];omega) ?_
 refine b9_ (at_:=4) (n:=4) hp1 d_ d_ o_ ?_
 by_cases q4:num (sub l 4 4)=0
 case neg=>exact ao_ (by rw[bne_iff_ne];omega) (h1_ (f:=4) (fail (by rw[hx,if_pos q4])))
 rw[if_neg (fun r=>r q4)] at hx
 refine al_ (by rw[bne_eq_false_iff_eq];omega) ?_
 refine b9_ (at_:=12) (n:=4) hp1 d_ d_ o_ ?_
 by_cases q12:num (sub l 12 4)=0
 case neg=>exact ao_ (by rw[bne_iff_ne];omega) (h1_ (f:=12) (fail (by rw[hx,if_pos q12])))
 rw[if_neg (fun r=>r q12)] at hx
 refine al_ (by rw[bne_eq_false_iff_eq];omega) ⟨d_,?_⟩
 have m32:((nuX l:Int).tmod 32)=((nuX l%32:Nat):Int):=rfl
 have m28:((nsX l:Int).tmod 28)=((nsX l%28:Nat):Int):=rfl
 rw[m32,m28]
 by_cases q32:nuX l%32=0
 case neg=>exact ao_ (by rw[bne_iff_ne];omega) (h1_ (f:=2) (fail (by rw[hx,if_pos q32])))
 rw[if_neg (fun r=>r q32)] at hx
 refine al_ (by rw[bne_eq_false_iff_eq];omega) ⟨d_,?_⟩
 by_cases q28:nsX l%28=0
 case neg=>exact ao_ (by rw[bne_iff_ne];omega) (h1_ (f:=8) (fail (by rw[hx,if_pos q28])))
 rw[if_neg (fun r=>r q28)] at hx
 have e16:IntKind.wrap .i64 (16+(nuX l:Int))=((16+nuX l:Nat):Int):=by rw[w64 o_ o_];omega
 have eAll:IntKind.wrap .i64 (((16+nuX l:Nat):Int)+(nsX l:Int))=((16+nuX l+nsX l:Nat):Int):=by rw[w64 o_ o_];omega
 rw[e16,eAll]
 refine al_ (by rw[bne_eq_false_iff_eq];omega) ?_
 by_cases qL:l.length=16+nuX l+nsX l
 case neg=>exact ao_ (by rw[bne_iff_ne];omega) (pJ_ (code:=6656) fun v hv=>fin (U:=ap_) (S:=ap_) (s:=cE_ 6656) (b:=false) hv (no (head (by rw[hx,if_pos qL])) hv))
 rw[if_neg (fun r=>r qL)] at hx
 refine al_ (by rw[bne_eq_false_iff_eq];omega) ⟨d_,fun _=>d_,?_⟩
 have d32:IntKind.wrap .i64 ((nuX l:Int).tdiv 32)=((nuX l/32:Nat):Int):=by
  have:((nuX l:Int).tdiv 32)=((nuX l/32:Nat):Int):=rfl
  rw[this,w64 o_ o_]
 have d28:IntKind.wrap .i64 ((nsX l:Int).tdiv 28)=((nsX l/28:Nat):Int):=by
  have:((nsX l:Int).tdiv 28)=((nsX l/28:Nat):Int):=rfl
  rw[this,w64 o_ o_]
 rw[d32,d28]
 by_cases qM:256<nuX l∨224<nsX l
 ·exact ao_ (by rw[Bool.or_eq_true,decide_eq_true_eq,decide_eq_true_eq];omega) (pJ_ (code:=9736) fun v hv=>fin (U:=ap_) (S:=ap_) (s:=cE_ 9736) (b:=false) hv (no (head (by rw[hx,if_pos qM])) hv))
 rw[if_neg qM] at hx
 refine al_ (by rw[Bool.or_eq_false_iff,decide_eq_false_iff_not,decide_eq_false_iff_not];omega) ?_
 have hpn:aW_ l=match (List.range (nuX l/32)).findSome? (hM_ l) with
    | some f=>noX (c4_ f)
    | none=>match (List.range (nsX l/28)).findSome? (gu_ l) with
     | some f=>noX (c4_ f)
     | none=>⟨dd_ l (nuX l/32),e5_ l (nsX l/28),sn0,true⟩:=by rw[hpx,hx]
 refine ah_ fun lb w2 hlb hb2 hg2 hsz2=>?_
 have hb2:Blk w2 lb (lsv ap_ ap_) aZ_:=hb2
 have hlen:l.length≤1000000:=o_
 have s1:=hg1.size
 have sizes:∀{y:World},ac_ w1 y→w.heap.size≤y.heap.size:=fun g=>(hgw1.trans g).size
 refine⟨fun at_ y=>∃(j:Nat) (U:Sl),at_=((16+32*j:Nat):Int)∧j≤nuX l/32∧(∀i,i<j→hM_ l i=none)∧ac_ w1 y∧Blk y lb (lsv U ap_) aZ_∧Own y w2.heap.size bQ_ 1 U (dl_ (dd_ l j)),fun at_ _=>16+nuX l-at_.toNat,
  ⟨0,ap_,rfl,Nat.zero_le _,fun _ q=>absurd q (Nat.not_lt_zero _),hg2,hb2,aK_ _ _ _ _⟩,?_⟩
 rintro at_ y ⟨j,U,rfl,hj,hfj,hgy,hby,hoy⟩
 have hUn:U.n=j:=by have:=hoy.len;simp[dl_,ul_] at this;omega
 have hpy:=hp1.grow hgy
 have hlby:=au_ hby
 refine bh_ (fun hlt=>?_) (fun hge=>?_)
 ·have hjn:j<nuX l/32:=o_
  have e32:IntKind.wrap .i64 (((16+32*j:Nat):Int)+32)=((16+32*j+32:Nat):Int):=by rw[w64 o_ o_];omega
  rw[e32]
  refine⟨⟨o_,o_,o_,hcap⟩,?_⟩
  simp only[Int.toNat_natCast]
  have hcut:=hpy.cutB (l:=16+32*j) (k:=16+32*j+32) o_ o_
  have e0:(16+32*j+32)-(16+32*j)=32:=o_
  rw[e0] at hcut ⊢
  have hcut:Rd y 1 ⟨aP_ p.A p.c (16+32*j) 1,32,p.c-(16+32*j)⟩ (bv (iE_ l j)):=hcut
  have hul:(iE_ l j).length=32:=pH_ o_
  refine vM_ hcut hul (fun f hf v hv=>?_) (fun hnone v hv=>?_)
  ·have eu:hM_ l j=some (16+32*j+f):=by unfold hM_;rw[hf];rfl
   have hfl:f<32:=by
    unfold h0_ at hf
    split at hf
    ·rename_i i hi
     have:=List.mem_of_find?_eq_some hi
     have:=List.mem_range.1 this
     obtain rfl:=Option.some.inj hf
     omega
    ·split at hf
     ·obtain rfl:=Option.some.inj hf;decide
     ·split at hf
      ·obtain rfl:=Option.some.inj hf;decide
      ·cases hf
   have ep:aW_ l=noX (c4_ (16+32*j+f)):=by rw[hpn,kx_ hjn hfj eu]
   have ew:IntKind.wrap .i64 (((16+32*j:Nat):Int)+(f:Int))=((16+32*j+f:Nat):Int):=by rw[w64 o_ o_];omega
   rw[ew]
   exact ao_ (by rw[decide_eq_true_eq];omega) (h1_ fun v2 hv2=>fin (U:=ap_) (S:=ap_) (s:=c4_ (16+32*j+f)) (b:=false) ((hgy.trans hv).trans hv2) (no ep ((hgy.trans hv).trans hv2)))
  ·refine al_ rfl ⟨U,by rw[am_,Blk.cell (hv.heap hby (fun q=>q))];rfl,?_⟩
   refine aH_ (cells:=#[.string (str (le_ (iE_ l j)))]) (e:=bQ_) (z:=1) (base:=0) (yj_ v _) rfl d_ (Nat.zero_le _) fun v1 hlit1 hg1' _=>?_
   refine aS_ so_ wg_ rfl d_ d_ ((hoy.grow hv).grow hg1') (hlit1.rd (by show 1≤_;decide)) (fun u hu=>by simp at hu;rw[hu];rfl) (by show(U.n+1)*16≤_;omega) (by have:=hg2.size;have:=(hv.trans hg1').size;have:=hoy.ge;omega) fun U1 v2 hn2 hown2 hk2 _=>?_
   have hg1v:=(hgy.trans hv).trans hg1'
   have hUb:∀b,U.blk=some b→b≠lb:=fun b hb q=>by have:=(hoy.ge b hb).1;omega
   have hg12:ac_ w1 v2:=dn_ hg1v ((hoy.grow hv).grow hg1') o_ hk2
   have hbl:Blk v2 lb (lsv U ap_) aZ_:=hk2.heap ((hv.trans hg1').heap hby (fun q=>q)) fun q=>hUb lb q.symm rfl
   rw[am_]
   refine a2_ hbl (by show 0<2;decide) rfl fun v3 hb3 hk3 _=>?_
   have hb3:Blk v3 lb (lsv U1 ap_) aZ_:=hb3
   have hU1b:∀b,U1.blk=some b→b≠lb:=fun b hb q=>by have:=(hown2.ge b hb).1;omega
   refine⟨⟨j+1,U1,o_,o_,fun i hi=>?_,hg12.keep hk3 fun i hi q=>o_,hb3,?_⟩,o_⟩
   ·by_cases e:i=j
    ·rw[e];unfold hM_;rw[hnone];rfl
    ·exact hfj i o_
   ·rw[sP_]
    have:dl_ (dd_ l j++[le_ (iE_ l j)])=dl_ (dd_ l j)++[.string (str (le_ (iE_ l j)))]:=by simp[dl_]
    rw[this]
    exact hown2.keep hk3 fun b hb q=>hU1b b hb q
 ·have hjn:j=nuX l/32:=o_
  have hnoU:(List.range (nuX l/32)).findSome? (hM_ l)=none:=me_ fun i hi=>hfj i o_
  have hpn2:aW_ l=match (List.range (nsX l/28)).findSome? (gu_ l) with
     | some f=>noX (c4_ f)
     | none=>⟨dd_ l (nuX l/32),e5_ l (nsX l/28),sn0,true⟩:=by rw[hpn,hnoU]
  rw[hjn] at hoy hUn
  refine⟨fun at_ z=>∃(k:Nat) (S:Sl),at_=((16+nuX l+28*k:Nat):Int)∧k≤nsX l/28∧(∀i,i<k→gu_ l i=none)∧ac_ w1 z∧Blk z lb (lsv U S) aZ_∧Own z w2.heap.size bQ_ 1 U (dl_ (dd_ l (nuX l/32)))∧Own z w2.heap.size b7_ 5 S ((e5_ l k).flatMap sgv),fun at_ _=>l.length-at_.toNat,
   ⟨0,ap_,rfl,Nat.zero_le _,fun _ q=>absurd q (Nat.not_lt_zero _),hgy,hby,hoy,aK_ _ _ _ _⟩,?_⟩
  rintro at_ z ⟨k,S,rfl,hk,hfk,hgz,hbz,hoz,hSz⟩
  have hSn:S.n=k:=by have:=hSz.len;rw[qm_,vK_] at this;omega
  have hpz:=hp1.grow hgz
  have hlbz:=au_ hbz
  have failS:∀{f:Nat} {v:World},k<nsX l/28→o6_ (nuX l/32) (cm_ l k)=some f→ac_ w1 v→bl_ 9728 ((16+nuX l+28*k+f:Nat):Int) v (fun g v=>ag_ Tryz.prog (storeVar aZ_ ⟨ab,0,none⟩ (.agg (lsv ap_ ap_))) v fun v1=>ag_ Tryz.prog (storeVar aL_ ⟨sb,0,none⟩ (.agg g)) v1 fun v2=>
   ∃res:A_,(loadVar aZ_ ⟨ab,0,none⟩).run Tryz.prog v2=.ok (.agg res) v2∧∃res1:A_,(loadVar aL_ ⟨sb,0,none⟩).run Tryz.prog v2=.ok (.agg res1) v2∧R res res1 false v2):=fun {f v} hkn hf hv=>by
   have eu:gu_ l k=some (16+nuX l+28*k+f):=by unfold gu_;rw[hf];rfl
   have ep:aW_ l=noX (c4_ (16+nuX l+28*k+f)):=by rw[hpn2,kx_ hkn hfk eu]
   exact h1_ fun v2 hv2=>fin (U:=ap_) (S:=ap_) (s:=c4_ (16+nuX l+28*k+f)) (b:=false) (hv.trans hv2) (no ep (hv.trans hv2))
  refine bh_ (fun hlt=>?_) (fun hge=>?_)
  ·have hkn:k<nsX l/28:=o_
   have e28:IntKind.wrap .i64 (((16+nuX l+28*k:Nat):Int)+28)=((16+nuX l+28*k+28:Nat):Int):=by rw[w64 o_ o_];omega
   rw[e28]
   refine⟨⟨o_,o_,o_,hcap⟩,?_⟩
   simp only[Int.toNat_natCast]
   have hcut:=hpz.cutB (l:=16+nuX l+28*k) (k:=16+nuX l+28*k+28) o_ o_
   have e0:(16+nuX l+28*k+28)-(16+nuX l+28*k)=28:=o_
   rw[e0] at hcut ⊢
   have hcut:Rd z 1 ⟨aP_ p.A p.c (16+nuX l+28*k) 1,28,p.c-(16+nuX l+28*k)⟩ (bv (cm_ l k)):=hcut
   have hql:(cm_ l k).length=28:=pH_ o_
   have failS':∀{f:Nat} {v:World},o6_ (nuX l/32) (cm_ l k)=some f→ac_ w1 v→bl_ 9728 ((16+nuX l+28*k+f:Nat):Int) v (fun g v=>ag_ Tryz.prog (storeVar aZ_ ⟨ab,0,none⟩ (.agg (lsv ap_ ap_))) v fun v1=>ag_ Tryz.prog (storeVar aL_ ⟨sb,0,none⟩ (.agg g)) v1 fun v2=>
   ∃res:A_,(loadVar aZ_ ⟨ab,0,none⟩).run Tryz.prog v2=.ok (.agg res) v2∧∃res1:A_,(loadVar aL_ ⟨sb,0,none⟩).run Tryz.prog v2=.ok (.agg res1) v2∧R res res1 false v2):=fun {f v} hf hv=>failS hkn hf hv
   have hsb:o6_ (nuX l/32) (cm_ l k)=if num (sub (cm_ l k) 0 4)≠0x02000018 then some 0 else if num (sub (cm_ l k) 8 2)≠0 then some 8 else if nuX l/32≤num (sub (cm_ l k) 4 2) then some 4 else if nuX l/32≤num (sub (cm_ l k) 6 2) then some 6
    else if 256<num (sub (cm_ l k) 10 2) then some 10 else none:=rfl
   have hso:kv_ (cm_ l k)=⟨(num (sub (cm_ l k) 4 2):Int),(num (sub (cm_ l k) 6 2):Int),(num (sub (cm_ l k) 10 2):Int),num (sub (cm_ l k) 12 8),num (sub (cm_ l k) 20 8)⟩:=rfl
   generalize hqe:cm_ l k=q at *
   refine b9_ (at_:=4) (n:=2) hcut d_ d_ o_ ?_
   refine b9_ (at_:=6) (n:=2) hcut d_ d_ o_ ?_
   refine b9_ (at_:=10) (n:=2) hcut d_ d_ o_ ?_
   refine ah_ fun xb z1 hxb hbx1 hgz1 hszz1=>?_
   refine ar_ (cells:=(sgv ⟨(num (sub q 4 2):Int),(num (sub q 6 2):Int),(num (sub q 10 2):Int),0,0⟩).toArray) hbx1 h4_ rfl rfl (by simp[sgv,Value.oneCell']) fun z2 hbx2 hkz2 _=>?_
   have hg2':ac_ z z2:=hgz1.keep hkz2 fun i hi e=>o_
   refine cC_ (at_:=12) (n:=8) (hcut.grow hg2') (by show 28≤_;omega) d_ d_ o_ ?_
   rw[am_]
   refine a2_ hbx2 (by simp[sgv]) rfl fun z3 hbx3 hkz3 _=>?_
   have hg3':ac_ z z3:=hg2'.keep hkz3 fun i hi e=>o_
   refine cC_ (at_:=20) (n:=8) (hcut.grow hg3') (by show 28≤_;omega) d_ d_ o_ ?_
   rw[am_]
   refine a2_ hbx3 (by simp[sgv]) rfl fun z4 hbx4 hkz4 _=>?_
   have hg4':ac_ z z4:=hg3'.keep hkz4 fun i hi e=>o_
   have hbx4:Blk z4 xb (sgv (kv_ q)).toArray b7_:=by rw[hso];exact hbx4
   have hgw4:=hgz.trans hg4'
   have hbl4:=hg4'.heap hbz (fun e=>e)
   refine b9_ (at_:=0) (n:=4) (hcut.grow hg4') d_ d_ o_ ?_
   by_cases r0:num (sub q 0 4)=33554456
   case neg=>exact ao_ (by rw[bne_iff_ne];omega) (failS' (f:=0) (by rw[hsb,if_pos r0]) hgw4)
   rw[if_neg (fun e=>e r0)] at hsb
   refine al_ (by rw[bne_eq_false_iff_eq];omega) ?_
   refine b9_ (at_:=8) (n:=2) (hcut.grow hg4') d_ d_ o_ ?_
   have ewr:∀f:Nat,f<28→IntKind.wrap .i64 (((16+nuX l+28*k:Nat):Int)+(f:Int))=((16+nuX l+28*k+f:Nat):Int):=fun f hf=>by rw[w64 o_ o_];omega
   by_cases r8:num (sub q 8 2)=0
   case neg=>
    refine ao_ (by rw[bne_iff_ne];omega) ?_
    have:=failS' (f:=8) (by rw[hsb,if_pos r8]) hgw4
    rw[←ewr 8 d_] at this
    exact this
   rw[if_neg (fun e=>e r8)] at hsb
   refine al_ (by rw[bne_eq_false_iff_eq];omega) ⟨(num (sub q 4 2):Int),by rw[am_,Blk.cell hbx4];rfl,U,by rw[am_,Blk.cell hbl4];rfl,?_⟩
   rw[hUn]
   by_cases r4:nuX l/32≤num (sub q 4 2)
   ·refine ao_ (by rw[decide_eq_true_eq];omega) ?_
    have:=failS' (f:=4) (by rw[hsb,if_pos r4]) hgw4
    rw[←ewr 4 d_] at this
    exact this
   rw[if_neg r4] at hsb
   refine al_ (by rw[decide_eq_false_iff_not];omega) ⟨(num (sub q 6 2):Int),by rw[am_,Blk.cell hbx4];rfl,U,by rw[am_,Blk.cell hbl4];rfl,?_⟩
   rw[hUn]
   by_cases r6:nuX l/32≤num (sub q 6 2)
   ·refine ao_ (by rw[decide_eq_true_eq];omega) ?_
    have:=failS' (f:=6) (by rw[hsb,if_pos r6]) hgw4
    rw[←ewr 6 d_] at this
    exact this
   rw[if_neg r6] at hsb
   refine al_ (by rw[decide_eq_false_iff_not];omega) ⟨(num (sub q 10 2):Int),by rw[am_,Blk.cell hbx4];rfl,?_⟩
   by_cases r10:256<num (sub q 10 2)
   ·refine ao_ (by rw[decide_eq_true_eq];omega) ?_
    have:=failS' (f:=10) (by rw[hsb,if_pos r10]) hgw4
    rw[←ewr 10 d_] at this
    exact this
   rw[if_neg r10] at hsb
   refine al_ (by rw[decide_eq_false_iff_not];omega) ⟨S,by rw[am_,Blk.cell hbl4];rfl,_,tj_ (ax_ hbx4),?_⟩
   refine aH_ (cells:=(sgv (kv_ q)).toArray) (e:=b7_) (z:=5) (base:=0) (yk_ z4 _) rfl d_ (Nat.zero_le _) fun z5 hlit5 hg5' _=>?_
   have hz5:=hg4'.trans hg5'
   refine aS_ pr_ h4_ rfl d_ d_ (hSz.grow hz5) (hlit5.rd (by show 1≤_;decide)) (fun v hv=>w5_ [kv_ q] v (by simpa using hv)) (by show(S.n+1)*40≤_;omega) (by have:=hz5.size;omega) fun S1 z6 hn6 hown6 hk6 _=>?_
   have hUz:=hoz.grow hz5
   have hSz5:=hSz.grow hz5
   have apart:∀b,U.blk=some b→some b≠S.blk:=fun b hb e=>by
    obtain⟨c1,h1⟩:=aU_ hUz hb
    obtain⟨c2,h2⟩:=aU_ hSz5 e.symm
    rw[h1] at h2
    injection h2 with h2
    injection h2 with _ ht
    exact absurd ht d_
   have hSb:∀b,S.blk=some b→b≠lb:=fun b hb e=>by have:=(hSz.ge b hb).1;omega
   have hUb2:∀b,U.blk=some b→b≠lb:=fun b hb e=>by have:=(hoz.ge b hb).1;omega
   have hS1b:∀b,S1.blk=some b→b≠lb:=fun b hb e=>by have:=(hown6.ge b hb).1;omega
   have hU6:=hUz.keep hk6 apart
   have hbl6:Blk z6 lb (lsv U S) aZ_:=hk6.heap (hz5.heap hbz (fun e=>e)) fun e=>hSb lb e.symm rfl
   have hg6:ac_ w1 z6:=dn_ (hgz.trans hz5) hSz5 o_ hk6
   rw[am_]
   refine a2_ hbl6 (by show 1<2;decide) rfl fun z7 hb7 hk7 _=>?_
   have hb7:Blk z7 lb (lsv U S1) aZ_:=hb7
   refine⟨⟨k+1,S1,o_,o_,fun i hi=>?_,hg6.keep hk7 fun i hi e=>o_,hb7,hU6.keep hk7 fun b hb e=>hUb2 b hb e,?_⟩,o_⟩
   ·by_cases e:i=k
    ·rw[e];unfold gu_;rw[hqe,hsb];rfl
    ·exact hfk i o_
   ·rw[uk_,List.flatMap_append]
    have e5:[kv_ (cm_ l k)].flatMap sgv=sgv (kv_ q):=by rw[hqe];simp
    rw[e5]
    exact hown6.keep hk7 fun b hb e=>hS1b b hb e
  ·have hkn:k=nsX l/28:=o_
   have hnoS:(List.range (nsX l/28)).findSome? (gu_ l)=none:=me_ fun i hi=>hfk i o_
   have ep:aW_ l=⟨dd_ l (nuX l/32),e5_ l (nsX l/28),sn0,true⟩:=by rw[hpn2,hnoS]
   rw[hkn] at hSz
   refine⟨_,up_ hbz,fin (U:=U) (S:=S) (s:=sn0) (b:=true) hgz fun v' hk'=>?_⟩
   have:=h U S v' (gk hgz hk')
   rw[ep] at this
   refine this ((hoz.keep hk' fun b hb e=>?_).mono o_) ((hSz.keep hk' fun b hb e=>?_).mono o_)
   ·have:=(hoz.ge b hb).1;omega
   ·have:=(hSz.ge b hb).1;omega
open Go CF
def uOk (s:L8):Prop:=s.length≤20∧s.getLast?≠some 32
def sOk (nu:Nat) (x:dD_):Prop:=0≤x.from_∧x.from_<nu∧0≤x.to_∧x.to_<nu∧0≤x.blocks∧x.blocks≤256
instance (s:L8):Decidable (uOk s):=by unfold uOk;infer_instance
instance (nu:Nat) (x:dD_):Decidable (sOk nu x):=by unfold sOk;infer_instance
open Go CF
theorem qn_ (us:List L8):(dl_ us).length=us.length:=by simp[dl_]
theorem yl_ {us:List L8} {w:World} {U:Sl} (h:Rd w 1 U (dl_ us)) {i:Nat} (hi:i<us.length):U.A.isSome=true∧w.cell? ((gA U.A).add (i*1))=some (.string (str us[i])):=by
 have:=iD_ h (i:=i) (by rw[qn_];exact hi)
 simpa [dl_] using this
theorem zb_ {us:List L8} {w:World} {U:Sl} (h:Rd w 1 U (dl_ us)):us.length=U.n:=by have:=h.len;rw[qn_] at this;omega
open Go CF
open Go CF
open Go CF
open Go CF
open Go CF
open Go CF
open Go CF
section
variable {w u v:World} {dv ps pw:Nat} {file:ByteArray} {kind n:Nat} {cache:Bool} {D D':Nat→Prop} {st st':Wst} {bs bs':List Bk} {m m':Nat}
end
def nmv (x:ByteArray×Nat×Nat):List Value:=[.string x.1,.pointer (some ⟨x.2.1,0,none⟩),.int .u8 (x.2.2:Int)]
theorem pK_ (x:ByteArray×Nat×Nat):(nmv x).length=3:=rfl
theorem ur_ {α β:Type} {f g:α→List β} {l:List α} (h:∀a∈l,f a=g a):l.flatMap f=l.flatMap g:=by
 unfold List.flatMap;rw[List.map_congr_left h]
open Go CF
def jR_ (L:List (ByteArray×Nat×Nat)) (us:List L8) (i:Int) (k:Nat):Prop:=∃(hk:k<L.length) (_:0≤i) (hi:i.toNat<us.length),L[k].1=str us[i.toNat]
theorem sQ_ {i:Int} {fv fv1:Addr} {devs U:Sl} {L:List (ByteArray×Nat×Nat)} {us:List L8} {w:World} {R:O_→W_} (hfv:w.cell? fv=some (.slice devs.A devs.n devs.c)) (hfv1:w.cell? (fv1.add 0)=some (.slice U.A U.n U.c)) (hd:Rd w 3 devs (L.flatMap nmv)) (hU:Rd w 1 U (dl_ us))
  (h1:∀k,jR_ L us i k→(∀j,j<k→¬jR_ L us i j)→∀v,ac_ w v→R (some ((gA devs.A).add (k*3))) v) (h2:(∀k,¬jR_ L us i k)→∀v,ac_ w v→R none v):fP_ i fv fv1 w R:=by
 refine hs_.calls _ _ _ _ _ ?_
 have hdn:=xA_ pK_ d_ hd
 have hUn:=zb_ hU
 have hnb:=hd.nb
 refine⟨devs,hfv,?_⟩
 refine⟨fun x u=>∃k:Nat,x=k∧k≤L.length∧ac_ w u∧∀j,j<k→¬jR_ L us i j,fun x _=>L.length-x.toNat,⟨0,rfl,Nat.zero_le _,ab_.refl _ _,fun _ q=>absurd q (Nat.not_lt_zero _)⟩,?_⟩
 rintro x u ⟨k,rfl,hk,hgu,hno⟩
 refine bh_ (fun hlt=>?_) (fun hge=>h2 (fun j q=>hno j (by have:=q.choose;omega) q) u hgu)
 rintro u1 rfl
 have hg1:ac_ w u.drew:=hgu.trans (aq_ u)
 have c1:∀{v:World},v=u.drew→v.cell? fv=some (.slice devs.A devs.n devs.c):=fun e=>by rw[e];exact hg1.cell hfv (fun q=>q)
 have c2:∀{v:World},v=u.drew→v.cell? (fv1.add 0)=some (.slice U.A U.n U.c):=fun e=>by rw[e];exact hg1.cell hfv1 (fun q=>q)
 obtain⟨a1,ct1⟩:=oN_ pK_ d_ (hd.grow hg1) (i:=k) o_
 by_cases hi:0≤i∧i.toNat<us.length
 ·obtain⟨a2,ct2⟩:=yl_ (hU.grow hg1) hi.2
  refine⟨fun v=>v=u.drew,rfl,U,fun v hv=>c2 hv,devs,fun _ v hv=>c1 hv,fun _=>⟨o_,o_,a1⟩,(L[k]' o_).1,fun _ v hv=>by rw[Int.toNat_natCast,hv];exact ct1 0 _ rfl,U,fun _ v hv=>c2 hv,fun _=>⟨hi.1,o_,a2⟩,str us[i.toNat],fun _ v hv=>by rw[hv];exact ct2,?_⟩
  have hc:(decide (i<(U.n:Int))&&decide (i≥0))=true:=by rw[Bool.and_eq_true,decide_eq_true_eq,decide_eq_true_eq];omega
  rw[hc]
  by_cases q:(L[k]' o_).1=str us[i.toNat]
  ·refine ao_ (by rw[Bool.true_and,jf_];exact q) ⟨devs,c1 rfl,⟨o_,o_,a1⟩,?_⟩
   rw[Int.toNat_natCast]
   exact h1 k ⟨o_,hi.1,hi.2,q⟩ hno _ hg1
  ·refine al_ (by rw[Bool.true_and,Bool.eq_false_iff];intro e;exact q (jf_.1 e)) ?_
   rw[w64 o_ o_]
   refine⟨⟨k+1,o_,o_,hg1,fun j hj=>?_⟩,by dsimp only;omega⟩
   by_cases e:j=k
   ·subst e;rintro⟨_,_,_,e⟩;exact q e
   ·exact hno j o_
 ·have hc:(decide (i<(U.n:Int))&&decide (i≥0))=false:=by rw[Bool.and_eq_false_iff,decide_eq_false_iff_not,decide_eq_false_iff_not];omega
  refine⟨fun v=>v=u.drew,rfl,U,fun v hv=>c2 hv,ap_,fun q=>(by rw[hc] at q;cases q),fun q=>(by rw[hc] at q;cases q),⟨#[]⟩,fun q=>(by rw[hc] at q;cases q),ap_,fun q=>(by rw[hc] at q;cases q),fun q=>(by rw[hc] at q;cases q),⟨#[]⟩,fun q=>(by rw[hc] at q;cases q),al_ (by rw[hc];rfl) ?_⟩
  rw[w64 o_ o_]
  refine⟨⟨k+1,o_,o_,hg1,fun j hj=>?_⟩,by dsimp only;omega⟩
  by_cases e:j=k
  ·subst e;rintro⟨_,e1,e2,_⟩;exact hi ⟨e1,e2⟩
  ·exact hno j o_
def w6_ (v v':World) (rb:Nat):Prop:=ac_ v v'∨∃cs,Blk v rb cs aa_∧ab_ (fun k=>k=rb) v v'
theorem w6_.own {v v':World} {rb base z:Nat} {e:TypeId} {s:Sl} {vs:List Value} (h:w6_ v v' rb) (ho:Own v base e z s vs) (ht:aa_≠e):Own v' base e z s vs:=by
 rcases h with g|⟨_,hb,k⟩
 ·exact ho.grow g
 ·refine ho.keep k fun b hb2 q=>?_
  obtain⟨cur,hc⟩:=aU_ ho hb2
  subst q
  exact ht (bs_ hb hc)
theorem ym_ {w:World} {S:W_} {p2:O_} {cmd:A_} {arg:Sl} {K:Addr→W_} (D:Nat→Prop) (hD:∀k,D k→k<w.heap.size) (Post:World→Nat→Sn→Sl→W_)
  (hdo:∀u,ac_ w u→∀Q:A_→W_,(∀s sn d v,Post u s sn d v→Q (rsv s sn d).toArray v)→bW_ p2 cmd arg u Q) (hpost:∀u s sn d v,ac_ w u→Post u s sn d v→ab_ D u v) (hS:∀v,ab_ D w v→S v)
  (hK:∀u s sn d v rb v',ac_ w u→Post u s sn d v→w6_ v v' rb→Blk v' rb (rsv s sn d).toArray aa_→w.heap.size≤rb→ab_ D w v'→(rb<u.heap.size∨v.heap.size≤rb)→K ⟨rb,0,none⟩ v') :
  (bW_ p2 cmd arg w fun g w1=>New (.cells z10 aa_) w1 fun r w2=>S w2∧ag_ Tryz.prog (storeVar aa_ r (.agg g)) w2 fun w3=>K r w3)∧
  (New (.cells z10 aa_) w fun r w1=>S w1∧bW_ p2 cmd arg w1 fun g w2=>ag_ Tryz.prog (storeVar aa_ r (.agg g)) w2 fun w3=>K r w3):=by
 constructor
 ·refine hdo w (ab_.refl _ _) _ fun s sn d v hp=>?_
  have hkv:=hpost w s sn d v (ab_.refl _ _) hp
  refine ah_ fun rb w2 hrb hb2 hg2 hsz2=>⟨hS w2 (hkv.grow hg2),?_⟩
  refine c5_ hb2 rfl fun w3 hb3 hk3 hsz3=>?_
  have hg3:ac_ v w3:=hg2.keep hk3 fun i hi q=>o_
  have:=hkv.size
  exact hK w s sn d v rb w3 (ab_.refl _ _) hp (.inl hg3) hb3 o_ (hkv.grow hg3) (.inr o_)
 ·refine ah_ fun rb w1 hrb hb1 hg1 hsz1=>⟨hS w1 (hg1.mono fun _ _ q=>q.elim),?_⟩
  refine hdo w1 hg1 _ fun s sn d v hp=>?_
  have hkv:=hpost w1 s sn d v hg1 hp
  have nrb:¬D rb:=fun q=>by have:=hD rb q;omega
  have hbv:=hkv.heap hb1 nrb
  have hkw:ab_ D w v:=(hg1.mono fun _ _ q=>q.elim).trans hkv fun _ _ q=>q
  refine c5_ hbv rfl fun w3 hb3 hk3 hsz3=>?_
  exact hK w1 s sn d v rb w3 hg1 hp (.inr ⟨_,hbv,hk3⟩) hb3 o_ (eN_ hkw o_ hk3) (.inl o_)
theorem lf_ {v:World} {s:Nat} {sn:Sn} {d:Sl} {K:Addr→W_} (h:∀rb v',rb=v.heap.size→ac_ v v'→Blk v' rb (rsv s sn d).toArray aa_→K ⟨rb,0,none⟩ v') :
  New (.cells z10 aa_) v fun a v1=>ag_ Tryz.prog (storeVar aa_ a (.agg (rsv s sn d).toArray)) v1 fun x=>K a x:=by
 refine ah_ fun rb v1 hrb hb1 hg1 hsz1=>c5_ hb1 rfl fun v2 hb2 hk2 hsz2=>?_
 exact h rb v2 hrb (hg1.keep hk2 fun i hi q=>o_) hb2
open Go CF
theorem us_ (w:World) (n:Nat):(Instr.build aa_ #[(0,.int .u8 2),(1,.agg #[.int .u8 10,.int .u16 3330,.int .u64 (n:Int),.bool true,.int .i64 0,.int .i64 0,.bool false,.bool false])]).run Tryz.prog w=.ok (.agg (rsv 2 (atS 10 3330 n) ap_).toArray) w:=k_
def rdC (lba blocks:Nat):Cm:=⟨7,false,lba,blocks,0,false,0,false,false,0,0,false,0,0,false⟩
def wrC (lba blocks:Nat):Cm:=⟨8,false,lba,blocks,0,false,0,false,false,0,0,false,0,0,false⟩
open Go CF
structure Dq where
 serial:ByteArray
 dv:Nat
 ps:Nat
 file:ByteArray
 kind:Nat
 n:Nat
 cache:Bool
 shut:Nat
def cc_ (L:List Dq) (us:List L8) (i:Int):Option Dq:=if 0≤i then(us[i.toNat]?).bind fun s=>L.find? fun d=>decide (d.serial=str s) else none
def dm_ (F:Int→Bool) (L:List Dq) (us:List L8) (st:Wst) (x:dD_):Option Nat×Wst:=
 match cc_ L us x.from_,cc_ L us x.to_ with
 | some a,some b=>if a.shut%2=1∨b.shut/2%2=1 then(some 3330,st)
  else if (doX F a.kind a.n a.cache a.file st (rdC x.src x.blocks.toNat) []).1.st≠0 then(some (doX F a.kind a.n a.cache a.file st (rdC x.src x.blocks.toNat) []).1.sn.code,(doX F a.kind a.n a.cache a.file st (rdC x.src x.blocks.toNat) []).2)
  else if (doX F b.kind b.n b.cache b.file (doX F a.kind a.n a.cache a.file st (rdC x.src x.blocks.toNat) []).2 (wrC x.dst ((doX F a.kind a.n a.cache a.file st (rdC x.src x.blocks.toNat) []).1.d.length/16)) (doX F a.kind a.n a.cache a.file st (rdC x.src x.blocks.toNat) []).1.d).1.st≠0
   then(some (doX F b.kind b.n b.cache b.file (doX F a.kind a.n a.cache a.file st (rdC x.src x.blocks.toNat) []).2 (wrC x.dst ((doX F a.kind a.n a.cache a.file st (rdC x.src x.blocks.toNat) []).1.d.length/16)) (doX F a.kind a.n a.cache a.file st (rdC x.src x.blocks.toNat) []).1.d).1.sn.code,(doX F b.kind b.n b.cache b.file (doX F a.kind a.n a.cache a.file st (rdC x.src x.blocks.toNat) []).2 (wrC x.dst ((doX F a.kind a.n a.cache a.file st (rdC x.src x.blocks.toNat) []).1.d.length/16)) (doX F a.kind a.n a.cache a.file st (rdC x.src x.blocks.toNat) []).1.d).2)
  else(none,(doX F b.kind b.n b.cache b.file (doX F a.kind a.n a.cache a.file st (rdC x.src x.blocks.toNat) []).2 (wrC x.dst ((doX F a.kind a.n a.cache a.file st (rdC x.src x.blocks.toNat) []).1.d.length/16)) (doX F a.kind a.n a.cache a.file st (rdC x.src x.blocks.toNat) []).1.d).2)
 | _,_=>(some 3330,st)
def bK_ (F:Int→Bool) (L:List Dq) (us:List L8):Nat→List dD_→Wst→Nat×RsX×Wst
 | n,[],st=>(n,okX [],st)
 | n,x::r,st=>match dm_ F L us st x with
  | (some code,st')=>(n,snX (atS 10 code n),st')
  | (none,st')=>bK_ F L us (n+1) r st'
def Dq.bare (d:Dq):Dq:={d with dv:=0,ps:=0}
theorem o7_ (L:List Dq) (us:List L8) (i:Int):cc_ (L.map Dq.bare) us i=(cc_ L us i).map Dq.bare:=by
 unfold cc_
 split
 ·cases us[i.toNat]? with
  | none=>rfl
  | some s=>
   simp only[Option.bind_some]
   rw[List.find?_map]
   rfl
 ·rfl
theorem vO_ (F:Int→Bool) (L:List Dq) (us:List L8) (st:Wst) (x:dD_):dm_ F (L.map Dq.bare) us st x=dm_ F L us st x:=by
 unfold dm_
 rw[o7_,o7_]
 cases cc_ L us x.from_<;>cases cc_ L us x.to_<;>rfl
theorem o8_ (F:Int→Bool) (L:List Dq) (us:List L8):∀(ss:List dD_) (n:Nat) (st:Wst),bK_ F (L.map Dq.bare) us n ss st=bK_ F L us n ss st
 | [],_,_=>rfl
 | x::r,n,st=>by
  unfold bK_
  rw[vO_]
  cases dm_ F L us st x with
  | mk o st'=>cases o with
   | some c=>rfl
   | none=>exact o8_ F L us r (n+1) st'
theorem qo_ {L:List Dq} {us:List L8} {i:Int} {d:Dq} (h:cc_ L us i=some d):d∈L:=by
 unfold cc_ at h
 split at h
 ·cases hu:us[i.toNat]? with
  | none=>rw[hu] at h;cases h
  | some s=>rw[hu] at h;exact List.mem_of_find?_eq_some h
 ·cases h
theorem vP_ {F:Int→Bool} {L:List Dq} {us:List L8} {st:Wst} {x:dD_} {f:ByteArray} (h:∀d∈L,f≠d.file):(dm_ F L us st x).2.seen f=st.seen f:=by
 unfold dm_
 cases e1:cc_ L us x.from_ with
 | none=>rfl
 | some a=>
  cases e2:cc_ L us x.to_ with
  | none=>rfl
  | some b=>
   have ha:=h a (qo_ e1)
   have hb:=h b (qo_ e2)
   dsimp only
   split
   ·rfl
   split
   ·exact g0_ ha
   split
   ·exact(g0_ hb).trans (g0_ ha)
   ·exact(g0_ hb).trans (g0_ ha)
theorem o9_ {F:Int→Bool} {L:List Dq} {us:List L8} {f:ByteArray} (h:∀d∈L,f≠d.file):∀(ss:List dD_) (n:Nat) (st:Wst),(bK_ F L us n ss st).2.2.seen f=st.seen f
 | [],_,_=>rfl
 | x::r,n,st=>by
  have hs:=vP_ (F:=F) (us:=us) (st:=st) (x:=x) h
  unfold bK_
  cases hq:dm_ F L us st x with
  | mk o st'=>
   rw[hq] at hs
   cases o with
   | some c=>exact hs
   | none=>exact(o9_ h r (n+1) st').trans hs
section
variable {w u v:World} {pw m:Nat} {D D':Nat→Prop} {st st':Wst} {F:Int→Bool} {L:List Dq}
structure Dvs (u:World) (pw:Nat) (D:Nat→Prop) (st:Wst) (m:Nat) (F:Int→Bool) (L:List Dq):Prop where
 isW:a3_ u pw D st F
 ok:Wok st
 few:st.ops≤m∧st.waits.length≤m
 all:∀d∈L,Dvq u d.dv d.ps pw d.file d.kind d.n d.cache D st (cv_ st d.file 0 d.n) m F
theorem Dvs.grow (h:Dvs u pw D st m F L) (g:ac_ u v):Dvs v pw D st m F L:=⟨h.isW.grow g,h.ok,h.few,fun d hd=>(h.all d hd).grow g⟩
theorem Dvs.mono {m':Nat} (h:Dvs u pw D st m F L) (hm:m≤m'):Dvs u pw D st m' F L:=⟨h.isW,h.ok,by have:=h.few;omega,fun d hd=>(h.all d hd).mono hm⟩
theorem Dvs.put {ab:Nat} {cs:A_} {t:TypeId} (h:Dvs u pw D st m F L) (hb:Blk u ab cs t) (h1:t≠ae_) (h2:t≠bO_) (h3:t≠iK_) (hn:¬D ab) (hk:ab_ (fun k=>k=ab) u v):Dvs v pw D st m F L:=
 ⟨lP_ h.isW hb h1 hn hk,h.ok,h.few,fun d hd=>(h.all d hd).put hb h1 h2 h3 hn hk⟩
theorem Dvs.dos {d:Dq} {c:Cm} {p:Sl} {l:L8} {R:A_→W_} (hN:pB_ c.kind) (h:Dvs u pw D st m F L) (hd:d∈L) (hm:m≤400000000) (hp:Rd u 1 p (bv l)) (hb:p.n≤140737488351232) (hpk:∀v,ab_ D u v→Rd v 1 p (bv l)) (hlb:c.lba<18446744073709551616) (hbl:c.blocks<18446744073709551616)
  (hR:∀v D' x,ab_ D u v→(∀k,D' k→D k∨u.heap.size≤k)→Dvs v pw D' (doX F d.kind d.n d.cache d.file st c l).2 (m+9000) F L→Own v u.heap.size ae_ 1 x (bv (doX F d.kind d.n d.cache d.file st c l).1.d)→R (rsv (doX F d.kind d.n d.cache d.file st c l).1.st (doX F d.kind d.n d.cache d.file st c l).1.sn x).toArray v) :
  bW_ (some ⟨d.dv,0,none⟩) (cmv c).toArray p u R:=by
 refine p5_ hN (h.all d hd) hm hp hb hpk hlb hbl fun v D' bs' x hk hv hD ho=>hR v D' x hk hD ⟨hv.isW,hv.ok,hv.few,fun e he=>?_⟩ ho
 have he':=h.all e he
 have good:Good (bC_ (doX F d.kind d.n d.cache d.file st c l).2 e.file):=by
  by_cases q:e.file=d.file
  ·rw[q];exact hv.tells.1
  ·rw[kr_ (g0_ q)];exact he'.tells.1
 exact he'.step hk hv.isW hD hv.ok (oe_ good) (of_ _ _ _ _) hv.few
end
open Go CF
theorem w7_ {F:Int→Bool} {kind n:Nat} {cache:Bool} {file:ByteArray} {st:Wst} {lba b:Nat} (hn:n≤4096) :
  (doX F kind n cache file st (rdC lba b) []).1.d.length%16=0∧(doX F kind n cache file st (rdC lba b) []).1.d.length≤65536:=by
 unfold doX
 split
 ·exact⟨rfl,Nat.zero_le _⟩
 split
 ·exact⟨rfl,Nat.zero_le _⟩
 rename_i _ h2
 rw[if_pos (show(rdC lba b).kind=7 from rfl)]
 have h2:lba+b≤n:=by
  have:¬(7≠13∧7≠6∧n<lba+b):=h2
  omega
 cases hr:hE_ F kind (rdC lba b).prot (rdC lba b).lba (rdC lba b).blocks st.ops (((cv_ st file 0 n).drop (rdC lba b).lba).take (rdC lba b).blocks) with
 | mk x k=>
  cases x with
  | error s=>exact⟨rfl,Nat.zero_le _⟩
  | ok L=>
   have hL:L.length≤b:=by
    have:L=((cv_ st file 0 n).drop lba).take b:=by
     unfold hE_ at hr
     split at hr
     ·cases hr
     ·split at hr
      ·cases hr
      ·injection hr with hr _
       injection hr with hr
       exact hr.symm
    rw[this,List.length_take];omega
   have e:(cT_ (decide ((rdC lba b).prot≠0)) L).length=L.length*16:=by
    have:decide ((rdC lba b).prot≠0)=false:=rfl
    rw[this,p2_];rfl
   show(cT_ (decide ((rdC lba b).prot≠0)) L).length%16=0∧(cT_ (decide ((rdC lba b).prot≠0)) L).length≤65536
   rw[e];omega
structure ut_ (x:dD_):Prop where
 src:x.src<18446744073709551616
 dst:x.dst<18446744073709551616
 blocks:x.blocks<9223372036854775808
theorem zW_ {n:Nat} (h:n<4):((br_ .u8 (n:Int) 1) != 0)=decide (n%2=1):=by
 have:∀k:Fin 4,((br_ .u8 ((k.val:Nat):Int) 1) != 0)=decide (k.val%2=1):=by decide +kernel
 exact this ⟨n,h⟩
theorem zX_ {n:Nat} (h:n<4):((br_ .u8 (n:Int) 2) != 0)=decide (n/2%2=1):=by
 have:∀k:Fin 4,((br_ .u8 ((k.val:Nat):Int) 2) != 0)=decide (k.val/2%2=1):=by decide +kernel
 exact this ⟨n,h⟩
theorem w8_ {w:World} {pw:Nat} {D:Nat→Prop} {st:Wst} {F:Int→Bool} {base:Nat} {x:Sl} {l:L8} (h:a3_ w pw D st F) (ho:Own w base ae_ 1 x (bv l)):∀b,x.blk=some b→¬D b:=fun b hb q=>by
 obtain⟨cur,hc⟩:=aU_ ho hb
 obtain⟨pl,_,mb,md,ws,cs,hd⟩:=h
 exact hd.nb b cur hc q
theorem yn_ {L:List Dq} {us:List L8} {i:Int} {k:Nat} (h:jR_ (L.map fun d=>(d.serial,d.dv,d.shut)) us i k) (hno:∀j,j<k→¬jR_ (L.map fun d=>(d.serial,d.dv,d.shut)) us i j):∃hk:k<L.length,cc_ L us i=some L[k]:=by
 obtain⟨hk,h0,hi,e⟩:=h
 rw[List.length_map] at hk
 rw[List.getElem_map] at e
 refine⟨hk,?_⟩
 unfold cc_
 rw[if_pos h0,List.getElem?_eq_getElem hi,Option.bind_some,List.find?_eq_some_iff_getElem]
 refine⟨decide_eq_true e,k,hk,rfl,fun j hj=>?_⟩
 rw[Bool.not_eq_true',decide_eq_false_iff_not]
 intro q
 exact hno j hj ⟨by rw[List.length_map];omega,h0,hi,by rw[List.getElem_map];exact q⟩
theorem yo_ {L:List Dq} {us:List L8} {i:Int} (hno:∀j,¬jR_ (L.map fun d=>(d.serial,d.dv,d.shut)) us i j):cc_ L us i=none:=by
 unfold cc_
 by_cases h0:0≤i
 ·rw[if_pos h0]
  cases hu:us[i.toNat]? with
  | none=>rfl
  | some s=>
   obtain⟨hi,hs⟩:=List.getElem?_eq_some_iff.1 hu
   rw[Option.bind_some,List.find?_eq_none]
   intro d hd q
   obtain⟨j,hj,rfl⟩:=List.getElem_of_mem hd
   exact hno j ⟨by rw[List.length_map];exact hj,h0,hi,by rw[List.getElem_map,hs];exact of_decide_eq_true q⟩
 ·rw[if_neg h0]
def zJ_ (L:List Dq) (us:List L8) (devs:Sl) (i:Int) (p:O_):Prop:=(∃j,∃hj:j<L.length,p=some ((gA devs.A).add (j*3))∧cc_ L us i=some L[j])∨(p=none∧cc_ L us i=none)
theorem sd_ {i:Int} {fv fv1:Addr} {devs U:Sl} {L:List Dq} {us:List L8} {w:World} {R:O_→W_} (hfv:w.cell? fv=some (.slice devs.A devs.n devs.c)) (hfv1:w.cell? (fv1.add 0)=some (.slice U.A U.n U.c)) (hd:Rd w 3 devs ((L.map fun d=>(d.serial,d.dv,d.shut)).flatMap nmv)) (hU:Rd w 1 U (dl_ us))
  (h:∀p v,ac_ w v→zJ_ L us devs i p→R p v):fP_ i fv fv1 w R:=
 sQ_ hfv hfv1 hd hU (fun k hk hno v g=>by
  obtain⟨hkl,e⟩:=yn_ hk hno
  exact h _ v g (.inl ⟨k,hkl,rfl,e⟩)) fun hno v g=>h _ v g (.inr ⟨rfl,yo_ hno⟩)
theorem uu_ {F:Int→Bool} {L:List Dq} {us:List L8} {ss:List dD_} {k:Nat} {st:Wst} (hk:k<ss.length):bK_ F L us k (ss.drop k) st=match dm_ F L us st ss[k] with
  | (some code,st')=>(k,snX (atS 10 code k),st')
  | (none,st')=>bK_ F L us (k+1) (ss.drop (k+1)) st':=by
 rw[List.drop_eq_getElem_cons hk];rfl
theorem yp_ {U S devs:Sl} {us:List L8} {ss:List dD_} {w:World} {pw:Nat} {D:Nat→Prop} {st:Wst} {m:Nat} {F:Int→Bool} {L:List Dq} {R:Int→A_→W_}
  (T:Dvs w pw D st m F L) (hm:m≤300000000) (hU:Rd w 1 U (dl_ us)) (hS:Rd w 5 S (ss.flatMap sgv)) (hd:Rd w 3 devs ((L.map fun d=>(d.serial,d.dv,d.shut)).flatMap nmv)) (nU:∀a,U.A=some a→¬D a.block) (nS:∀a,S.A=some a→¬D a.block) (nd:∀a,devs.A=some a→¬D a.block)
  (hs8:ss.length≤8) (hok:∀x∈ss,ut_ x) (hsh:∀d∈L,d.shut<4)
  (h:∀v D',ab_ D w v→(∀k,D' k→D k∨w.heap.size≤k)→Dvs v pw D' (bK_ F L us 0 ss st).2.2 (m+150000) F L→R ((bK_ F L us 0 ss st).1:Int) (rsv (bK_ F L us 0 ss st).2.1.st (bK_ F L us 0 ss st).2.1.sn ap_).toArray v):lu_ (lsv U S) devs w R:=by
 refine i2_.calls _ _ _ _ ?_
 have hSn:=xA_ nj_ d_ hS
 have lD:=fun k (q:D k)=>T.isW.lt q
 refine ah_ fun lb w0 hlb hb0 hg0 hsz0=>?_
 refine ah_ fun vb w1 hvb hb1 hg1 hsz1=>?_
 refine ah_ fun ab w2 hab hb2 hg2 hsz2=>?_
 have g12:=hg1.trans hg2
 have g02:=hg0.trans g12
 have hl2:Blk w2 lb (lsv U S) aZ_:=g12.heap hb0 (fun q=>q)
 have hv2:Blk w2 vb #[.slice devs.A devs.n devs.c] cA_:=hg2.heap hb1 (fun q=>q)
 have ha2:Blk w2 ab z10 aa_:=hb2
 have sz2:=g02.size
 have nlb:¬D lb:=fun q=>by have:=lD _ q;omega
 have nvb:¬D vb:=fun q=>by have:=lD _ q;omega
 have nab:¬D ab:=fun q=>by have:=lD _ q;omega
 have hU2:∀{u:World},ab_ D w2 u→Rd u 1 U (dl_ us):=fun k=>(hU.grow g02).keep k fun a ha _=>nU a ha
 have hS2:∀{u:World},ab_ D w2 u→Rd u 5 S (ss.flatMap sgv):=fun k=>(hS.grow g02).keep k fun a ha _=>nS a ha
 have hd2:∀{u:World},ab_ D w2 u→Rd u 3 devs ((L.map fun d=>(d.serial,d.dv,d.shut)).flatMap nmv):=fun k=>(hd.grow g02).keep k fun a ha _=>nd a ha
 have cl1:∀{u:World},ab_ D w2 u→u.cell? ((⟨lb,0,none⟩:Addr).add 1)=some (.slice S.A S.n S.c):=fun k=>by rw[am_,Blk.cell (k.heap hl2 nlb)];rfl
 have cl0:∀{u:World},ab_ D w2 u→u.cell? ((⟨lb,0,none⟩:Addr).add 0)=some (.slice U.A U.n U.c):=fun k=>by rw[am_,Blk.cell (k.heap hl2 nlb)];rfl
 have cv:∀{u:World},ab_ D w2 u→u.cell? ⟨vb,0,none⟩=some (.slice devs.A devs.n devs.c):=fun k=>by rw[Blk.cell (k.heap hv2 nvb)];rfl
 have k2w:∀{u:World},ab_ D w2 u→ab_ D w u:=fun k=>(g02.mono fun _ _ q=>q.elim).trans k fun _ _ q=>q
 have k22:ab_ D w2 w2:=ab_.mono (ab_.refl (fun _=>False) w2) fun _ _ q=>q.elim
 refine⟨S,cl1 k22,?_⟩
 refine⟨fun x u=>∃(k:Nat) (D':Nat→Prop) (st':Wst),x=k∧k≤ss.length∧ab_ D w2 u∧(∀j,D' j→D j∨w2.heap.size≤j)∧Dvs u pw D' st' (m+18000*k) F L∧bK_ F L us 0 ss st=bK_ F L us k (ss.drop k) st',fun x _=>ss.length-x.toNat,
  ⟨0,D,st,rfl,Nat.zero_le _,k22,fun _ q=>.inl q,T.grow g02,rfl⟩,?_⟩
 rintro x u ⟨k,D',st',rfl,hk,hku,hDD,Tu,hcg⟩
 have lD':=fun k (q:D' k)=>Tu.isW.lt q
 have szu:=hku.size
 have nab':¬D' ab:=fun q=>by
  rcases hDD _ q with e|e
  ·exact nab e
  ·have:=au_ ha2;omega
 rw[←hSn]
 refine bh_ (fun hlt=>?_) (fun hge=>?_)
 rotate_left
 ·
  have hkn:k=ss.length:=o_
  refine⟨S,cl1 hku,?_⟩
  have hau:Blk u ab z10 aa_:=hku.heap ha2 nab
  have e0:bK_ F L us 0 ss st=(k,okX [],st'):=by rw[hcg,hkn,List.drop_length];rfl
  rw[e0] at h
  refine bm_ (st:=0) (s:=sn0) (d:=ap_) hau rfl fun v5 hk5=>?_
  rw[←hSn,←hkn]
  exact h v5 D' (eN_ (k2w hku) o_ hk5) (fun j q=>by
   rcases hDD j q with e|e
   ·exact .inl e
   ·exact .inr o_) ((Tu.put hau d_ d_ d_ nab' hk5).mono o_)
 have hsk:=hok ss[k] (List.getElem_mem hlt)
 have hst:=uu_ (F:=F) (L:=L) (us:=us) (st:=st') hlt
 rw[hst] at hcg
 obtain⟨a1,ct1⟩:=oN_ nj_ d_ (hS2 hku) hlt
 refine dy_ (fun y=>∃(D'':Nat→Prop) (st'':Wst),dm_ F L us st' ss[k]=(none,st'')∧ab_ D w2 y∧(∀j,D'' j→D j∨w2.heap.size≤j)∧Dvs y pw D'' st'' (m+18000*(k+1)) F L) ?_ (fun J=>?_)
 ·rintro y ⟨D'',st'',q1,q2,q3,q4⟩
  rw[w64 o_ o_]
  refine⟨⟨k+1,D'',st'',o_,o_,q2,q3,q4,?_⟩,by dsimp only;omega⟩
  rw[hcg,q1]
 refine⟨⟨o_,o_,a1⟩,_,by rw[Int.toNat_natCast];exact tj_ ct1,?_⟩
 generalize hxk:ss[k]=s at *
 refine ah_ fun xb u1 hxb hbx1 hgx1 hszx1=>?_
 refine ar_ (cells:=(sgv s).toArray) hbx1 h4_ rfl rfl (by simp[sgv,Value.oneCell']) fun u2 hbx2 hkx2 hszx2=>?_
 have hgu2:ac_ u u2:=hgx1.keep hkx2 fun i hi q=>o_
 have hbx2:Blk u2 xb (sgv s).toArray b7_:=hbx2
 rintro u3 rfl
 have hg3:=aq_ u2
 have bx:∀{v:World} {i:Nat} {x:Value},Blk v xb (sgv s).toArray b7_→(sgv s).toArray[i]?=some x→v.cell? ((⟨xb,0,none⟩:Addr).add i)=some x:=fun g e=>by rw[am_,Blk.cell g,Nat.zero_add];exact e
 have kd:∀{v:World},ac_ u v→ab_ D w2 v:=fun g=>hku.grow g
 refine⟨fun v=>ac_ u2 v,hg3,s.from_,fun v hv=>bx (hv.heap hbx2 (fun q=>q)) rfl,s.to_,fun v hv=>bx (hv.heap hbx2 (fun q=>q)) rfl,?_⟩
 refine⟨rfl,?_⟩
 show fP_ s.from_ ⟨vb,0,none⟩ ⟨lb,0,none⟩ _ _
 have eF:IntKind.wrap .u64 ((k:Nat):Int)=(k:Int):=ea_ o_ o_
 have fl:∀{v:World} {K:Addr→W_},ac_ u v→(∀fb v',fb=v.heap.size→ac_ v v'→Blk v' fb (rsv 2 (atS 10 3330 k) ap_).toArray aa_→K ⟨fb,0,none⟩ v')→
   ∃g1:A_,(Instr.build aa_ #[(0,.int .u8 2),(1,.agg #[.int .u8 10,.int .u16 3330,.int .u64 (IntKind.wrap .u64 ((k:Nat):Int)),.bool true,.int .i64 0,.int .i64 0,.bool false,.bool false])]).run Tryz.prog v=.ok (.agg g1) v∧
    New (.cells z10 aa_) v fun failed v1=>ag_ Tryz.prog (storeVar aa_ failed (.agg g1)) v1 fun v2=>K failed v2:=by
  intro v K hv hK
  refine⟨_,by rw[eF];exact us_ v k,?_⟩
  refine ah_ fun fb v1 hfb hbf1 hgf1 hszf1=>c5_ hbf1 rfl fun v2 hbf2 hkf2 hszf2=>?_
  exact hK fb v2 hfb (hgf1.keep hkf2 fun i hi q=>o_) hbf2
 have last:∀{v:World} {fb:Nat} {code:Nat} {D3:Nat→Prop} {st3:Wst},dm_ F L us st' s=(some code,st3)→ab_ D w2 v→(∀j,D3 j→D j∨w2.heap.size≤j)→Dvs v pw D3 st3 (m+18000*(k+1)) F L→Blk v fb (rsv 2 (atS 10 code k) ap_).toArray aa_→fb≠ab→
   ∀w013,w013=v.drew→∃S1:W_,S1 w013∧∃g2:A_,(∀u2,S1 u2→(loadVar aa_ ⟨fb,0,none⟩).run Tryz.prog u2=.ok (.agg g2) u2)∧ag_ Tryz.prog (storeVar aa_ ⟨ab,0,none⟩ (.agg g2)) w013 fun w013=>
    ∃res:A_,(loadVar aa_ ⟨ab,0,none⟩).run Tryz.prog w013=.ok (.agg res) w013∧R ((k:Nat):Int) res w013:=by
  rintro v fb code D3 st3 eseg hkv hD3 hT3 hbf hne w3 rfl
  have hgd:=aq_ v
  refine⟨fun x=>x=v.drew,rfl,(rsv 2 (atS 10 code k) ap_).toArray,fun x hx=>by rw[hx];exact kh_ (ax_ (hgd.heap hbf (fun q=>q))),?_⟩
  have hab3:Blk v.drew ab z10 aa_:=hgd.heap (hkv.heap ha2 nab) (fun q=>q)
  have nab3:¬D3 ab:=fun q=>by
   rcases hD3 _ q with e|e
   ·exact nab e
   ·have:=au_ ha2;omega
  have e0:bK_ F L us 0 ss st=(k,snX (atS 10 code k),st3):=by rw[hcg,eseg]
  rw[e0] at h
  refine bm_ hab3 rfl fun v5 hk5=>?_
  have hk5w:ab_ D w v5:=eN_ (k2w (hkv.grow hgd)) (by have:=au_ ha2;omega) hk5
  exact h v5 D3 hk5w (fun j q=>by
   rcases hD3 j q with e|e
   ·exact .inl e
   ·exact .inr o_) (((hT3.grow hgd).put hab3 d_ d_ d_ nab3 hk5).mono o_)
 have hg24:∀{u4},ac_ u2.drew u4→ac_ u2 u4:=fun g=>hg3.trans g
 have none_:∀{v v':World} {fb:Nat},ac_ u v→dm_ F L us st' s=(some 3330,st')→fb=v.heap.size→ac_ v v'→Blk v' fb (rsv 2 (atS 10 3330 k) ap_).toArray aa_→∀w013,w013=v'.drew→∃S1:W_,S1 w013∧∃g2:A_,(∀u2,S1 u2→(loadVar aa_ ⟨fb,0,none⟩).run Tryz.prog u2=.ok (.agg g2) u2)∧ag_ Tryz.prog (storeVar aa_ ⟨ab,0,none⟩ (.agg g2)) w013 fun w013=>
    ∃res:A_,(loadVar aa_ ⟨ab,0,none⟩).run Tryz.prog w013=.ok (.agg res) w013∧R ((k:Nat):Int) res w013:=fun {v v' fb} gv e hfb g hb=>
  last e (kd (gv.trans g)) hDD ((Tu.grow (gv.trans g)).mono o_) hb (by have:=au_ ha2;have:=gv.size;omega)
 have hgu3:=hgu2.trans hg3
 refine sd_ (i:=s.from_) (cv (kd hgu3)) (cl0 (kd hgu3)) (hd2 (kd hgu3)) (hU2 (kd hgu3)) fun p u4 hg4 hp=>⟨hg24 hg4,rfl,?_⟩
 show fP_ s.to_ ⟨vb,0,none⟩ ⟨lb,0,none⟩ _ _
 have hg4u:=hgu3.trans hg4
 refine sd_ (i:=s.to_) (cv (kd hg4u)) (cl0 (kd hg4u)) (hd2 (kd hg4u)) (hU2 (kd hg4u)) fun p1 u5 hg5 hp1=>?_
 have hg5u:=hg4u.trans hg5
 refine fl hg5u fun fb u6 hfb hg6 hbf=>?_
 have hg6u:=hg5u.trans hg6
 have sz5:=hg5u.size
 rcases hp with⟨j1,hj1,rfl,e1⟩|⟨rfl,e1⟩
 rotate_left
 ·have eseg:dm_ F L us st' s=(some 3330,st'):=by unfold dm_;rw[e1]
  exact⟨fun q=>by simp at q,0,fun q=>by simp at q,fun q=>by simp at q,0,fun q=>by simp at q,ao_ (by simp) (none_ hg5u eseg hfb hg6 hbf)⟩
 rcases hp1 with⟨j2,hj2,rfl,e2⟩|⟨rfl,e2⟩
 rotate_left
 ·have eseg:dm_ F L us st' s=(some 3330,st'):=by unfold dm_;rw[e1,e2]
  exact⟨fun q=>by simp at q,0,fun q=>by simp at q,fun q=>by simp at q,0,fun q=>by simp at q,ao_ (by simp) (none_ hg5u eseg hfb hg6 hbf)⟩
 have hA:=List.getElem_mem hj1
 have hB:=List.getElem_mem hj2
 have row:∀{v:World} {j:Nat} (hj:j<L.length),ab_ D w2 v→bS_ v ((gA devs.A).add (j*3)) (nmv (L[j].serial,L[j].dv,L[j].shut)):=fun {v j} hj kv=>by
  have:=(oN_ pK_ d_ (hd2 kv) (i:=j) (by rw[List.length_map];exact hj)).2
  rwa [List.getElem_map] at this
 have sh1:u6.cell? ((gA (some ((gA devs.A).add (j1*3)))).add 2)=some (.int .u8 (L[j1].shut:Int)):=row hj1 (kd hg6u) 2 _ rfl
 have sh2:u6.cell? ((gA (some ((gA devs.A).add (j2*3)))).add 2)=some (.int .u8 (L[j2].shut:Int)):=row hj2 (kd hg6u) 2 _ rfl
 have b1:=zW_ (hsh _ hA)
 have b2:=zX_ (hsh _ hB)
 have pdev:∀{v:World},ab_ D w2 v→v.cell? ((gA (some ((gA devs.A).add (j1*3)))).add 1)=some (.pointer (some ⟨L[j1].dv,0,none⟩))∧v.cell? ((gA (some ((gA devs.A).add (j2*3)))).add 1)=some (.pointer (some ⟨L[j2].dv,0,none⟩)):=fun kv=>⟨row hj1 kv 1 _ rfl,row hj2 kv 1 _ rfl⟩
 have hseg:dm_ F L us st' s=dm_ F L us st' s:=rfl
 conv at hseg=>rhs;unfold dm_
 rw[e1,e2] at hseg
 dsimp only at hseg
 generalize L[j1]=A at *
 generalize L[j2]=B at *
 refine⟨fun _=>rfl,_,fun _=>sh1,fun _=>rfl,_,fun _=>sh2,?_⟩
 rw[b1,b2]
 by_cases hshut:A.shut%2=1∨B.shut/2%2=1
 ·rw[if_pos hshut] at hseg
  refine ao_ ?_ (none_ hg5u hseg hfb hg6 hbf)
  rcases hshut with q|q
  ·rw[decide_eq_true q];rfl
  ·rw[decide_eq_true q];simp
 rw[if_neg hshut] at hseg
 have n1:decide (A.shut%2=1)=false:=decide_eq_false fun q=>hshut (.inl q)
 have n2:decide (B.shut/2%2=1)=false:=decide_eq_false fun q=>hshut (.inr q)
 rw[n1,n2]
 refine al_ rfl ?_
 rintro u7 rfl
 have hg7:=aq_ u6
 have hg7u:=hg6u.trans hg7
 have hbx7:Blk u6.drew xb (sgv s).toArray b7_:=(((hg24 hg4).trans (hg5.trans hg6)).trans hg7).heap hbx2 (fun q=>q)
 have hbf7:Blk u6.drew fb (rsv 2 (atS 10 3330 k) ap_).toArray aa_:=hg7.heap hbf (fun q=>q)
 have T7:=Tu.grow hg7u
 have kd7:=kd hg7u
 have sz7:=hg7u.size
 generalize u6.drew=u7 at *
 have nxb:¬D' xb:=fun q=>by have:=lD' _ q;omega
 have nfb:¬D' fb:=fun q=>by have:=lD' _ q;omega
 have fne:fb≠ab:=by have:=au_ ha2;omega
 have kw7:∀{v:World},ab_ D' u7 v→ab_ D w2 v:=fun kv=>kd7.trans kv fun i hi q=>by
  rcases hDD i q with e|e
  ·exact e
  ·omega
 have k77:ab_ D' u7 u7:=ab_.mono (ab_.refl (fun _=>False) _) (fun _ _ q=>q.elim)
 have hsb:=hsk.blocks
 have eB:IntKind.wrap .u64 (mx s.blocks 0)=((s.blocks.toNat:Nat):Int):=by
  have:mx s.blocks 0=((s.blocks.toNat:Nat):Int):=by unfold mx;split<;>omega
  rw[this,ea_ o_ o_]
 refine⟨fun v=>ab_ D' u7 v,k77,rfl,some ⟨A.dv,0,none⟩,fun v hv=>(pdev (kw7 hv)).1,(s.src:Int),fun v hv=>bx (hv.heap hbx7 nxb) rfl,s.blocks,fun v hv=>bx (hv.heap hbx7 nxb) rfl,?_⟩
 rw[eB]
 have lD7:∀k,D' k→k<u7.heap.size:=fun j q=>T7.isW.lt q
 have rl:=w7_ (F:=F) (kind:=A.kind) (n:=A.n) (cache:=A.cache) (file:=A.file) (st:=st') (lba:=s.src) (b:=s.blocks.toNat) (T7.all _ hA).size.2
 generalize hX1:doX F A.kind A.n A.cache A.file st' (rdC s.src s.blocks.toNat) []=X1 at *
 refine ym_ D' lD7 (fun y r sn d v=>r=X1.1.st∧sn=X1.1.sn∧ab_ D' y v∧∃D2,(∀j,D2 j→D' j∨y.heap.size≤j)∧Dvs v pw D2 X1.2 (m+18000*k+9000) F L∧Own v y.heap.size ae_ 1 d (bv X1.1.d))
  (fun y hy Q hQ=>(T7.grow hy).dos (nb_ (.inl rfl)) hA o_ (c:=rdC s.src s.blocks.toNat) (hV_ y) d_ (fun v _=>hV_ v) hsk.src (by show s.blocks.toNat<_;omega) fun v D2 x hkv hD2 hT2 ho2=>hQ _ _ _ v ⟨by rw[hX1],by rw[hX1],hkv,D2,hD2,by rw[hX1] at hT2;exact hT2,by rw[hX1] at ho2;exact ho2⟩)
  (fun y r sn d v _ hp=>hp.2.2.1) (fun v hv=>hv) ?_
 rintro y r sn d v rb v' hgy ⟨rfl,rfl,hkv,D2,hD2,hT2,hown⟩ hside hbr hrb hkv' hrb2
 have lD2:=fun k (q:D2 k)=>hT2.isW.lt q
 have szy:=hgy.size
 have nrb:¬D2 rb:=fun q=>by
  rcases hrb2 with r|r
  ·rcases hD2 _ q with e|e
   ·have:=lD7 _ e;omega
   ·omega
  ·have:=lD2 _ q;omega
 have Tv:Dvs v' pw D2 X1.2 (m+18000*k+9000) F L:=by
  rcases hside with g|⟨_,hb,kk⟩
  ·exact hT2.grow g
  ·exact hT2.put hb d_ d_ d_ nrb kk
 have hown':=hside.own hown d_
 have hDD2:∀j,D2 j→D j∨w2.heap.size≤j:=fun j q=>by
  rcases hD2 j q with e|e
  ·exact hDD j e
  ·exact .inr o_
 have hfr:fb≠rb:=by have:=au_ hbf7;omega
 have hxr:xb≠rb:=by have:=au_ hbx7;omega
 have hbf':=hkv'.heap hbf7 nfb
 have hbx':=hkv'.heap hbx7 nxb
 have szv':=hkv'.size
 have nfb2:¬D2 fb:=fun q=>by
  rcases hD2 _ q with e|e
  ·exact nfb e
  ·have:=au_ hbf7;omega
 have nxb2:¬D2 xb:=fun q=>by
  rcases hD2 _ q with e|e
  ·exact nxb e
  ·have:=au_ hbx7;omega
 refine⟨(X1.1.st:Int),by rw[am_,Blk.cell hbr];rfl,?_⟩
 refine dy_ (fun z=>∃(sx:Nat) (sn:Sn) (dd:Sl) (D3:Nat→Prop) (st3:Wst),ab_ D w2 z∧(∀j,D3 j→D j∨w2.heap.size≤j)∧Dvs z pw D3 st3 (m+18000*(k+1)) F L∧Blk z rb (rsv sx sn dd).toArray aa_∧Blk z fb (rsv 2 (atS 10 3330 k) ap_).toArray aa_∧¬D3 fb∧dm_ F L us st' s=(if sx≠0 then some sn.code else none,st3)) ?_ (fun J1=>?_)
 ·rintro z ⟨sx,sn,dd,D3,st3,hkz,hD3,hT3,hbrz,hbfz,nf3,es⟩
  refine⟨(sx:Int),by rw[am_,Blk.cell hbrz];rfl,?_⟩
  refine gv_ (fun hne=>?_) (fun hz=>?_)
  ·rw[if_pos o_] at es
   refine⟨(sn.code:Int),by rw[fJ_,am_,Blk.cell hbrz];rfl,?_⟩
   rw[fJ_,am_]
   refine a2_ hbfz (by show 2<10;decide) rfl fun z1 hb1 hk1 _=>?_
   have hb1:Blk z1 fb (rsv 2 (atS 10 sn.code k) ap_).toArray aa_:=hb1
   exact last es (eN_ hkz (by have:=au_ ha2;omega) hk1) hD3 (hT3.put hbfz d_ d_ d_ nf3 hk1) hb1 fne
  ·rw[if_neg o_] at es
   exact J z ⟨D3,st3,es,hkz,hD3,hT3⟩
 refine aw_ (y:=0) (fun hz=>?_) (fun hnz=>?_)
 rotate_left
 ·rw[if_pos o_] at hseg
  exact J1 v' ⟨X1.1.st,X1.1.sn,d,D2,X1.2,kw7 hkv',hDD2,Tv.mono o_,hbr,hbf',nfb2,by rw[if_pos o_];exact hseg⟩
 rw[if_neg o_] at hseg
 have dn:=oF_ hown'
 refine⟨d,by rw[am_,Blk.cell hbr];rfl,?_⟩
 refine nA_ (wt:=false) (hown'.rd o_) o_ (fun q=>absurd (show X1.1.d.length%16≠0 from q) o_) fun _ xs y1 hgy1 hxs=>?_
 have hxn:xs.n=X1.1.d.length/16:=by
  have:=hxs.len
  rw[fk_,jD_] at this
  have e16:szB false=16:=rfl
  rw[e16] at this
  omega
 rintro y2 rfl
 have hgy2:ac_ v' y1.drew:=hgy1.trans (aq_ y1)
 generalize y1.drew=y2 at *
 have hk2':∀{z:World},ac_ v' z→ab_ D' u7 z:=fun g=>hkv'.grow g
 refine⟨fun z=>ac_ v' z,hgy2,rfl,some ⟨B.dv,0,none⟩,fun z hz=>(pdev (kw7 (hk2' hz))).2,(s.dst:Int),fun z hz=>bx ((hk2' hz).heap hbx7 nxb) rfl,d,fun z hz=>by rw[am_,Blk.cell (hz.heap hbr (fun q=>q))];rfl,?_⟩
 rw[hxn,ea_ (n:=((X1.1.d.length/16:Nat):Int)) o_ o_]
 have T2:=Tv.grow hgy2
 have ho2:=hown'.grow hgy2
 refine T2.dos (nb_ (.inr (.inl rfl))) hB o_ (c:=wrC s.dst (X1.1.d.length/16)) (ho2.rd o_) o_ (fun z kz=>(ho2.keep kz fun b hb _=>w8_ T2.isW ho2 b hb ‹_›).rd o_) hsk.dst (by show X1.1.d.length/16<_;omega) fun z D3 x hkz hD3 hT3 ho3=>?_
 have hbrz:=hkz.heap (hgy2.heap hbr (fun q=>q)) nrb
 have hbfz:=hkz.heap (hgy2.heap hbf' (fun q=>q)) nfb2
 refine c5_ hbrz rfl fun z1 hb1 hk1 hsz1=>?_
 have nrb3:¬D3 rb:=fun q=>by
  rcases hD3 _ q with e|e
  ·exact nrb e
  ·have:=au_ (hgy2.heap hbr (fun q=>q));omega
 have nfb3:¬D3 fb:=fun q=>by
  rcases hD3 _ q with e|e
  ·exact nfb2 e
  ·have:=au_ (hgy2.heap hbf' (fun q=>q));omega
 have sz2':=hgy2.size
 have kz:ab_ D w2 z:=(kw7 (hk2' hgy2)).trans hkz fun i hi q=>by
  rcases hDD2 i q with e|e
  ·exact e
  ·omega
 refine J1 z1 ⟨_,_,x,D3,_,eN_ kz o_ hk1,fun j q=>?_,(hT3.put hbrz d_ d_ d_ nrb3 hk1).mono o_,hb1,hk1.heap hbfz hfr,nfb3,?_⟩
 ·rcases hD3 j q with e|e
  ·exact hDD2 j e
  ·exact .inr o_
 ·rw[hseg]
  split<;>rfl
end Go.Proofs.YtpmebahhjgkflaaGreatDoor
