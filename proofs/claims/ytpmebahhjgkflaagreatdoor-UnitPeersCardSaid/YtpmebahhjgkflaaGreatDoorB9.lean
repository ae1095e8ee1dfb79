import Derived.Test.YtpmebahhjgkflaaGreatDoorB8
set_option maxHeartbeats 20000000
namespace Go.Proofs.YtpmebahhjgkflaaGreatDoor
open Go CF
set_option maxRecDepth 100000
abbrev Pu:=List (Nat×USt)
def pub (us:List (UA×USt)):Pu:=us.map fun x=>(x.1.ub,x.2)
def h2_ (P:Pu) (b:Nat):Nat:=P.findIdx fun x=>decide (x.1=b)
def e6_ (s:USt) (n:Nat):Nat:=(if a4_ s.tab n 1=true then 1 else 0)+(if (a4_ s.tab n 2||s.now.swp)=true then 2 else 0)
def bi_ (F:Int→Bool) (n:Nat):List Nat→Pu→Wst→List (Nat×Nat)×Pu×Wst
 | [],P,st=>([],P,st)
 | b::r,P,st=>match P[h2_ P b]? with
  | none=>bi_ F n r P st
  | some x=>if (aA_ F x.2 st).1≠0 then bi_ F n r (P.set (h2_ P b) (x.1,(aA_ F x.2 st).2.1)) (aA_ F x.2 st).2.2
   else((h2_ P b,e6_ (aA_ F x.2 st).2.1 n)::(bi_ F n r (P.set (h2_ P b) (x.1,(aA_ F x.2 st).2.1)) (aA_ F x.2 st).2.2).1,(bi_ F n r (P.set (h2_ P b) (x.1,(aA_ F x.2 st).2.1)) (aA_ F x.2 st).2.2).2)
def kO_ (P:Pu) (x:Nat×Nat):Dq:=match P[x.1]? with
 | some y=>⟨y.2.inf.s,0,0,y.2.file,y.2.inf.prot,y.2.n,y.2.cache,x.2⟩
 | none=>⟨⟨#[]⟩,0,0,⟨#[]⟩,0,0,false,0⟩
def iq_ (F:Int→Bool) (P:Pu) (st:Wst) (i n:Nat) (c:Cm) (l:L8):RsX×Pu×Wst:=
 if (l.length:Int)≠c.alloc then(snX (cE_ 0x1a00),P,st)
 else if (aW_ l).ok=false then(snX (aW_ l).sn,P,st)
 else match P[i]? with
  | none=>(snX sn0,P,st)
  | some x=>((bK_ F ((bi_ F n (x.1::x.2.peers) P st).1.map (kO_ (bi_ F n (x.1::x.2.peers) P st).2.1)) (aW_ l).us 0 (aW_ l).ss (bi_ F n (x.1::x.2.peers) P st).2.2).2.1,
    (bi_ F n (x.1::x.2.peers) P st).2.1,
    (bK_ F ((bi_ F n (x.1::x.2.peers) P st).1.map (kO_ (bi_ F n (x.1::x.2.peers) P st).2.1)) (aW_ l).us 0 (aW_ l).ss (bi_ F n (x.1::x.2.peers) P st).2.2).2.2)
structure cX_ (us us':List (UA×USt)):Prop where
 len:us'.length=us.length
 all:∀k (h:k<us.length) (h':k<us'.length),us[k].1.like us'[k].1∧us[k].2.same us'[k].2
theorem UA.like.trans {a b c:UA} (h:a.like b) (g:b.like c):a.like c:=⟨g.ub.trans h.ub,g.dv.trans h.dv,g.ps.trans h.ps,g.sl.trans h.sl,g.qb.trans h.qb⟩
theorem USt.same.refl (s:USt):s.same s:=⟨rfl,rfl,rfl,rfl,rfl,rfl⟩
theorem USt.same.trans {a b c:USt} (h:a.same b) (g:b.same c):a.same c:=⟨g.inf.trans h.inf,g.file.trans h.file,g.keepf.trans h.keepf,g.n.trans h.n,g.peers.trans h.peers,g.count.trans h.count⟩
theorem cX_.refl (us:List (UA×USt)):cX_ us us:=⟨rfl,fun _ _ _=>⟨UA.like.refl _,USt.same.refl _⟩⟩
theorem cX_.trans {a b c:List (UA×USt)} (h:cX_ a b) (g:cX_ b c):cX_ a c:=⟨g.len.trans h.len,fun k h1 h3=>by
 have h2:k<b.length:=by rw[h.len];exact h1
 exact⟨(h.all k h1 h2).1.trans (g.all k h2 h3).1,(h.all k h1 h2).2.trans (g.all k h2 h3).2⟩⟩
theorem cX_.set {us:List (UA×USt)} {i:Nat} {a a':UA} {s s':USt} (hi:i<us.length) (he:us[i]=(a,s)) (h1:a.like a') (h2:s.same s'):cX_ us (us.set i (a',s')):=⟨List.length_set,fun k h h'=>by
 rw[List.getElem_set]
 split
 ·rename_i e
  subst e
  rw[he];exact⟨h1,h2⟩
 ·exact⟨UA.like.refl _,USt.same.refl _⟩⟩
theorem nk_ {us:List (UA×USt)} {i:Nat} {a:UA} {s:USt}:pub (us.set i (a,s))=(pub us).set i (a.ub,s):=by unfold pub;rw[List.map_set]
theorem hb_ {us:List (UA×USt)} {i:Nat} (hi:i<us.length):(pub us)[i]?=some (us[i].1.ub,us[i].2):=by unfold pub;rw[List.getElem?_map,List.getElem?_eq_getElem hi];rfl
section
variable {w u v z w3:World} {S D D':Nat→Prop} {pw i m n ab cb:Nat} {a:UA} {s:USt} {st st':Wst} {F F':Int→Bool} {ℓ ℓ' ℓ1 ℓ2:Nat→Option Nat} {us us':List (UA×USt)} {R:A_→W_} {out:Sl} {l:L8} {c:Cm}
theorem zc_ (H:Sys w ℓ pw st F us) {j:Nat} (hj:j<us.length):h2_ (pub us) us[j].1.ub=j:=by
 have hlen:(pub us).length=us.length:=by unfold pub;rw[List.length_map]
 unfold h2_
 rw[List.findIdx_eq (by rw[hlen];exact hj)]
 refine⟨?_,fun k hk=>?_⟩
 ·unfold pub;rw[List.getElem_map];exact decide_eq_true rfl
 ·have hku:k<us.length:=o_
  unfold pub
  rw[List.getElem_map,decide_eq_false_iff_not]
  intro e
  dsimp only at e
  have h1:=(H.U j hj).2 _ (dC_ us[j].1).1
  have h2:=(H.U k hku).2 _ (dC_ us[k].1).1
  rw[e,h1] at h2
  injection h2 with h2
  omega
structure LB (v:World) (ℓ:Nat→Option Nat) (b:Nat) (cs:A_) (t:TypeId):Prop where
 blk:Blk v b cs t
 no:ℓ b=none
theorem LB.go {b:Nat} {cs:A_} {t:TypeId} (h:LB v ℓ b cs t) (g:ac_ v z):LB z ℓ b cs t:=⟨g.heap h.blk (fun q=>q),h.no⟩
theorem LB.mv {b:Nat} {cs:A_} {t:TypeId} (h:LB v ℓ b cs t) (m:Mv v z ℓ ℓ'):LB z ℓ' b cs t:=⟨m.heap h.blk h.no,by rw[m.lab _ (au_ h.blk)];exact h.no⟩
theorem LB.keep {b d:Nat} {cs ds:A_} {t t':TypeId} (h:LB v ℓ b cs t) (hb:Blk v d ds t') (ht:t≠t') (k:ab_ (fun x=>x=d) v z):LB z ℓ b cs t:=⟨k.heap h.blk (bR_ h.blk hb ht),h.no⟩
structure LR (v:World) (ℓ:Nat→Option Nat) (base:Nat) (e:TypeId) (q:Nat) (x:Sl) (vs:List Value):Prop where
 own:CF.Own v base e q x vs
 no:∀b,x.blk=some b→ℓ b=none
theorem LR.go {base q:Nat} {e:TypeId} {x:Sl} {vs:List Value} (h:LR v ℓ base e q x vs) (g:ac_ v z):LR z ℓ base e q x vs:=⟨h.own.grow g,h.no⟩
theorem LR.mv {base q:Nat} {e:TypeId} {x:Sl} {vs:List Value} (h:LR v ℓ base e q x vs) (m:Mv v z ℓ ℓ'):LR z ℓ' base e q x vs:=⟨h.own.keep m.keep fun b hb r=>r (h.no b hb),fun b hb=>by rw[m.lab _ (h.own.ge b hb).2];exact h.no b hb⟩
theorem LR.keepB {base q:Nat} {e:TypeId} {x y:Sl} {vs ws:List Value} {base' q':Nat} {e':TypeId} (h:LR v ℓ base e q x vs) (ho:CF.Own v base' e' q' y ws) (ht:e≠e') (k:ab_ (fun k=>some k=y.blk) v z):LR z ℓ base e q x vs:=⟨h.own.keep k fun b hb r=>by
 obtain⟨c1,h1⟩:=aU_ h.own hb
 obtain⟨c2,h2⟩:=aU_ ho r.symm
 have:=h1.symm.trans h2
 injection this with this
 injection this with _ this _
 exact ht this,h.no⟩
theorem LB.keepR {b:Nat} {cs:A_} {t:TypeId} {y:Sl} {ws:List Value} {base' q':Nat} {e':TypeId} (h:LB v ℓ b cs t) (ho:CF.Own v base' e' q' y ws) (ht:t≠e') (k:ab_ (fun k=>some k=y.blk) v z):LB z ℓ b cs t:=⟨k.heap h.blk fun r=>bd_ ho h.blk ht r.symm,h.no⟩
theorem Cal.keepR {y:Sl} {ws:List Value} {base' q':Nat} {e':TypeId} (h:Cal w v ℓ ℓ' cb ab c) (ho:CF.Own v base' e' q' y ws) (h1:aD_≠e') (h2:aa_≠e') (hw:w.heap.size≤base') (k:ab_ (fun k=>some k=y.blk) v z):Cal w z ℓ ℓ' cb ab c:=
 ⟨h.mv.loc k fun x hx q=>by have:=(ho.ge x q.symm).1;omega,k.heap h.cmd fun r=>bd_ ho h.cmd h1 r.symm,k.heap h.res fun r=>bd_ ho h.res h2 r.symm,h.ncb,h.nab⟩
theorem Sys.row {y:Sl} {ws:List Value} {base' q':Nat} {e':TypeId} (H:Sys v ℓ' pw st F us) (ho:LR v ℓ' base' e' q' y ws) (h1:¬kL_ e') (h2:e'≠ae_) (k:ab_ (fun k=>some k=y.blk) v z):Sys z ℓ' pw st F us:=
 H.loc k fun b _ r=>by
  obtain⟨cur,hc⟩:=aU_ ho.own r.symm
  exact⟨ho.no b r.symm,cur,e',hc,h1,h2⟩
theorem Sys.devD (H:Sys w ℓ pw st F us) (K:SOk st us m) {D:Nat→Prop} (hW:a3_ w pw D st F) (hD:∀k,D k→ℓ k=some 0) (hi:i<us.length) (he:us[i]=(a,s)):Dvq w a.dv a.ps pw s.file s.inf.prot s.n s.cache D st (cv_ st s.file 0 s.n) m F:=by
 obtain⟨hU,hown⟩:=H.at hi he
 have O:UOk st s:=K.at hi he
 obtain⟨z1,z2,z3,z4,z5,z6,z7⟩:=dC_ a
 have nD:∀{b},a.set b→¬D b:=fun hb q=>by
  have h1:=hown _ hb
  rw[hD _ q] at h1
  injection h1 with h1
  omega
 exact⟨hU.dev,hU.store,hW,nD z3,nD z2,K.wok,oe_ O.good,of_ _ _ _ _,O.n,O.sizes.1,O.prot,K.few⟩
end
open Go CF
def rowN (us:List (UA×USt)) (x:Nat×Nat):List Value:=match us[x.1]? with
 | some y=>nmv (y.2.inf.s,y.1.dv,x.2)
 | none=>nmv (⟨#[]⟩,0,0)
theorem w9_ (us:List (UA×USt)) (x:Nat×Nat):(rowN us x).length=3:=by unfold rowN;split<;>rfl
theorem qp_ {us us':List (UA×USt)} (h:cX_ us us') (x:Nat×Nat):rowN us' x=rowN us x:=by
 unfold rowN
 by_cases q:x.1<us.length
 ·have q':x.1<us'.length:=by rw[h.len];exact q
  rw[List.getElem?_eq_getElem q,List.getElem?_eq_getElem q']
  obtain⟨h1,h2⟩:=h.all _ q q'
  dsimp only
  rw[h1.dv,h2.inf]
 ·have hl:=h.len
  rw[List.getElem?_eq_none (l:=us) o_,List.getElem?_eq_none (l:=us') o_]
theorem zY_:bOr .u8 0 1=1:=d_
theorem yq_ (x y:Bool):(if y=true then bOr .u8 (if x=true then(1:Int) else 0) 2 else(if x=true then(1:Int) else 0))=(((if x=true then 1 else 0)+(if y=true then 2 else 0):Nat):Int):=by cases x<;>cases y<;>decide
section
variable {w u v z w3:World} {S D D':Nat→Prop} {pw i m n ab cb:Nat} {a:UA} {s:USt} {st st':Wst} {F F':Int→Bool} {ℓ ℓ' ℓ1 ℓ2:Nat→Option Nat} {us us':List (UA×USt)} {R:A_→W_} {out:Sl} {l:L8} {c:Cm}
def zd_ (p1:O_) (nexus:Int) (devs:Sl) (J_:Sl→W_) (w015:World):Prop:=
 ∀w016,w016=w015.drew→∃S:W_,S w016∧p1.isSome=true∧∃s1:ByteArray,(∀u1,S u1→u1.cell? (((gA p1).add 0).add 3)=some (.string s1))∧p1.isSome=true∧∃p2:O_,(∀u2,S u2→u2.cell? ((gA p1).add 5)=some (.pointer p2))∧New (.cells #[.string ⟨#[]⟩,.pointer none,.int .u8 0] bj_) w016 fun n2 w017=>S w017∧ag_ Tryz.prog (storeVar bj_ n2 (.agg #[.string s1,.pointer p2,.int .u8 0])) w017 fun w018=>p1.isSome=true∧∃p3:O_,w018.cell? ((gA p1).add 8)=some (.pointer p3)∧bv_ p3 nexus 1 w018 fun b1 w019=>aY_ (fun(w020:World)=>p1.isSome=true∧∃p4:O_,w020.cell? ((gA p1).add 8)=some (.pointer p4)∧bv_ p4 nexus 2 w020 fun b2 w021=>((!b2)=true→p1.isSome=true)∧∃p5:O_,((!b2)=true→w021.cell? ((gA p1).add 7)=some (.pointer p5))∧bI_ (fun(g5:A_) (w022:World)=>∃b3:Bool,((!b2)=true→g5[2]?=some (.bool b3))∧aY_ (fun(w023:World)=>∃g6:A_,(loadVar bj_ n2).run Tryz.prog w023=.ok (.agg g6) w023∧ai_ Tryz.prog .sl (Instr.buildSlice cA_ 1 #[(0,.agg g6)]) w023 fun xs3 w024=>ai_ Tryz.prog .sl (Builtin.append_ #[cA_,cA_] cA_ #[.slice devs.A devs.n devs.c,.slice xs3.A xs3.n xs3.c]) w024 fun xs4 w025=>J_ xs4 w025) fun J_1=>Br (b2||b3) (∃n3:Int,w022.cell? (n2.add 2)=some (.int .u8 n3)∧Put (n2.add 2) (.int .u8 (bOr .u8 n3 2)) w022 fun w026=>J_1 w026) (J_1 w022)) fun J_2=>((!b2)=true→b4_ p5 w021 J_2)∧((!b2)=false→J_2 (Kd.dflt .ag) w021)) fun J_3=>Br b1 (∃n4:Int,w019.cell? (n2.add 2)=some (.int .u8 n4)∧Put (n2.add 2) (.int .u8 (bOr .u8 n4 1)) w019 fun w027=>J_3 w027) (J_3 w019)
theorem xa_ (w:World) (s:ByteArray) (b h:Nat):(Instr.buildSlice cA_ 1 #[(0,.agg (nmv (s,b,h)).toArray)]).run Tryz.prog w=.ok (.slice (some ⟨w.heap.size,0,none⟩) 1 1) (w.alloc (.cells (nmv (s,b,h)).toArray bj_)):=k_
theorem zK_ {b:Nat} {x:ByteArray×Nat×Nat} (h:Blk w b (nmv x).toArray bj_):(loadVar bj_ ⟨b,0,none⟩).run Tryz.prog w=.ok (.agg (nmv x).toArray) w:=aC_ (cs:=nmv x) k_ iL_ rfl (ax_ h)
theorem xb_ {devs:Sl} {base:Nat} {vs:List Value} {J:Sl→W_} (hU:IsU v (fun k=>ℓ k≠none) pw a s) (hd:CF.Own v base bj_ 3 devs vs) (hbase:base≤v.heap.size) (hdn:devs.n≤1000)
  (hJ:∀x y z,ac_ v y→CF.Own y base bj_ 3 devs vs→CF.Own z base bj_ 3 x (vs++nmv (s.inf.s,a.dv,e6_ s n))→ab_ (fun k=>some k=devs.blk) y z→(x.blk=devs.blk∨∃b,x.blk=some b∧y.heap.size≤b)→x.n=devs.n+1→J x z):zd_ (some ⟨a.ub,0,none⟩) (n:Int) devs J v:=by
 rintro w1 rfl
 have g1:=aq_ v
 generalize v.drew=w1 at *
 have T:∀{y:World},ac_ v y→IsU y (fun k=>ℓ k≠none) pw a s:=fun g=>hU.grow g
 have cinf:∀{y:World},ac_ v y→y.cell? (((gA (some (⟨a.ub,0,none⟩:Addr))).add 0).add 3)=some (.string s.inf.s):=fun g=>by
  obtain⟨P,hbu,_⟩:=(T g).unit
  rw[gA,am_,am_,hbu.cell];rfl
 refine⟨fun y=>ac_ v y,g1,rfl,s.inf.s,fun y q=>cinf q,rfl,some ⟨a.dv,0,none⟩,fun y q=>(T q).cellU fun P=>rfl,?_⟩
 refine ah_ fun nb w2 hnb hb2 hg2 hs2=>⟨g1.trans hg2,?_⟩
 have s1:=g1.size
 have hw2:v.heap.size≤nb:=o_
 refine ar_ (cells:=(nmv (s.inf.s,a.dv,0)).toArray) hb2 iL_ rfl rfl (by simp[nmv,Value.oneCell']) fun w3 hb3 hk3 hs3=>?_
 have g3:ac_ v w3:=(g1.trans hg2).keep hk3 fun b hb q=>o_
 refine⟨rfl,some ⟨a.tb,0,none⟩,(T g3).cellU fun P=>rfl,gL_ (c:=1) (T g3).tab fun w4 g4=>?_⟩
 have hb4:=g4.heap hb3 (fun q=>q)
 have g34:=g3.trans g4
 have s4:=g34.size
 refine dy_ (fun y=>ac_ v y∧Blk y nb (nmv (s.inf.s,a.dv,if a4_ s.tab n 1=true then 1 else 0)).toArray bj_) ?_ (fun J3=>?_)
 rotate_left
 ·cases hc:a4_ s.tab n 1 with
  | false=>rw[hc] at J3;exact al_ rfl (J3 w4 ⟨g34,hb4⟩)
  | true=>
   rw[hc] at J3
   refine ao_ rfl ⟨0,by rw[am_,Blk.cell hb4];rfl,?_⟩
   rw[am_,zY_]
   exact a2_ hb4 (by show 2<3;decide) rfl fun y hby hky _=>J3 y ⟨g34.keep hky fun b hb q=>o_,hby⟩
 rintro y ⟨gy,hby⟩
 refine⟨rfl,some ⟨a.tb,0,none⟩,(T gy).cellU fun P=>rfl,gL_ (c:=2) (T gy).tab fun w5 g5=>?_⟩
 have gy5:=gy.trans g5
 have hb5:=g5.heap hby (fun q=>q)
 refine⟨fun _=>rfl,some ⟨a.pg,0,none⟩,fun _=>(T gy5).cellU fun P=>rfl,?_⟩
 refine ci_ (fun g5v o=>ac_ v o∧Blk o nb (nmv (s.inf.s,a.dv,if a4_ s.tab n 1=true then 1 else 0)).toArray bj_∧(a4_ s.tab n 2=false→g5v=(vlv s.now).toArray)) ?_ (fun J2=>⟨fun _=>lW_ (T gy5).pages fun w6 g6=>J2 _ w6 ⟨gy5.trans g6,g6.heap hb5 (fun q=>q),fun _=>rfl⟩,fun q=>J2 _ w5 ⟨gy5,hb5,fun e=>by rw[e] at q;cases q⟩⟩)
 rintro g5v o ⟨go,hbo,hg5v⟩
 refine⟨s.now.swp,fun q=>by
  have:a4_ s.tab n 2=false:=by simpa using q
  rw[hg5v this];rfl,?_⟩
 have so:=go.size
 refine dy_ (fun y=>ac_ v y∧Blk y nb (nmv (s.inf.s,a.dv,e6_ s n)).toArray bj_) ?_ (fun J1=>?_)
 ·rintro y2 ⟨gy2,hby2⟩
  refine⟨_,zK_ hby2,?_⟩
  refine aH_ (cells:=(nmv (s.inf.s,a.dv,e6_ s n)).toArray) (e:=bj_) (z:=3) (base:=y2.heap.size) (xa_ _ _ _ _) rfl d_ (Nat.le_refl _) fun y3 o3 g3' _=>?_
  have gy3:=gy2.trans g3'
  have hd3:=hd.grow gy3
  have sy3:=gy3.size
  refine aS_ nY_ iL_ rfl d_ d_ hd3 (o3.rd (by show 1≤_;decide)) (by simp[nmv,Value.oneCell']) (by show(devs.n+1)*32≤_;omega) o_ fun x z hxn ho hk hat=>?_
  exact hJ x y3 z gy3 hd3 ho hk (hat.elim .inl fun q=>.inr ⟨_,q,Nat.le_refl _⟩) hxn
 ·have hso:=yq_ (a4_ s.tab n 1) (a4_ s.tab n 2||s.now.swp)
  cases hc:(a4_ s.tab n 2||s.now.swp) with
  | true=>
   rw[hc,if_pos rfl] at hso
   refine ao_ rfl ⟨(if a4_ s.tab n 1=true then(1:Int) else 0),by rw[am_,Blk.cell hbo];show some (Value.int .u8 ((if a4_ s.tab n 1=true then 1 else 0:Nat):Int))=_;cases a4_ s.tab n 1<;>rfl,?_⟩
   rw[am_,hso]
   refine a2_ hbo (by show 2<3;decide) rfl fun y2 hby2 hky2 _=>J1 y2 ⟨go.keep hky2 fun b hb q=>o_,?_⟩
   have:e6_ s n=(if a4_ s.tab n 1=true then 1 else 0)+(if (true:Bool)=true then 2 else 0):=by unfold e6_;rw[hc]
   rw[this];exact hby2
  | false=>
   refine al_ rfl (J1 o ⟨go,?_⟩)
   have:e6_ s n=(if a4_ s.tab n 1=true then 1 else 0):=by unfold e6_;rw[hc];rfl
   rw[this];exact hbo
end
open Go CF
theorem xc_ (p:L8) (k:Nat):∀x∈e5_ p k,ut_ x:=by
 intro x hx
 unfold e5_ at hx
 obtain⟨j,_,rfl⟩:=List.mem_map.1 hx
 have nl:∀(x:L8) (a n:Nat),n≤8→num (sub x a n)<18446744073709551616:=fun x a n hn=>by
  have h1:=hy_ (sub x a n)
  have h2:(sub x a n).length≤8:=by unfold sub;rw[List.length_take];omega
  have h3:(256:Nat) ^ (sub x a n).length≤256 ^ 8:=Nat.pow_le_pow_right d_ h2
  have p8:(256:Nat) ^ 8=18446744073709551616:=rfl
  omega
 have n2:∀(x:L8) (a:Nat),num (sub x a 2)<65536:=fun x a=>by
  have h1:=hy_ (sub x a 2)
  have h2:(sub x a 2).length≤2:=by unfold sub;rw[List.length_take];omega
  have h3:(256:Nat) ^ (sub x a 2).length≤256 ^ 2:=Nat.pow_le_pow_right d_ h2
  have p2:(256:Nat) ^ 2=65536:=rfl
  omega
 refine⟨nl _ _ _ d_,nl _ _ _ d_,?_⟩
 have:=n2 (cm_ p j) 10
 show((num (sub (cm_ p j) 10 2):Nat):Int)<_
 omega
theorem uv_ (l:L8):(aW_ l).us.length≤8∧(aW_ l).ss.length≤8∧∀x∈(aW_ l).ss,ut_ x:=by
 unfold aW_
 split
 ·exact⟨Nat.zero_le _,Nat.zero_le _,fun _ h=>by cases h⟩
 cases hh:kw_ l with
 | some s=>exact⟨Nat.zero_le _,Nat.zero_le _,fun _ h=>by cases h⟩
 | none=>
  dsimp only
  cases (List.range (nuX l/32)).findSome? (hM_ l) with
  | some f=>exact⟨Nat.zero_le _,Nat.zero_le _,fun _ h=>by cases h⟩
  | none=>
   dsimp only
   cases (List.range (nsX l/28)).findSome? (gu_ l) with
   | some f=>exact⟨Nat.zero_le _,Nat.zero_le _,fun _ h=>by cases h⟩
   | none=>
    have hns:nuX l≤256∧nsX l≤224:=by
     unfold kw_ at hh
     split at hh
     ·cases hh
     split at hh
     ·cases hh
     split at hh
     ·cases hh
     split at hh
     ·cases hh
     split at hh
     ·cases hh
     split at hh
     ·cases hh
     split at hh
     ·cases hh
     split at hh
     ·cases hh
     ·omega
    refine⟨?_,?_,xc_ _ _⟩
    ·show(dd_ l (nuX l/32)).length≤8
     unfold dd_
     rw[List.length_map,List.length_range]
     omega
    ·show(e5_ l (nsX l/28)).length≤8
     unfold e5_
     rw[List.length_map,List.length_range]
     omega
theorem tk_ {F:Int→Bool} {L:List Dq} {us:List L8}:∀(ss:List dD_) (n:Nat) (st:Wst),(bK_ F L us n ss st).2.1.d = []
 | [],_,_=>rfl
 | x::r,n,st=>by
  unfold bK_
  cases dm_ F L us st x with
  | mk o st'=>cases o with
   | some c=>rfl
   | none=>exact tk_ r (n+1) st'
def ze_ (us:List (UA×USt)) (nm:List (Nat×Nat)):Prop:=∀x∈nm,x.1<us.length∧x.2<4
theorem xd_ (s:USt) (n:Nat):e6_ s n<4:=by unfold e6_;split<;>split<;>decide
def dqF (us:List (UA×USt)) (x:Nat×Nat):Dq:=match us[x.1]? with
 | some y=>⟨y.2.inf.s,y.1.dv,y.1.ps,y.2.file,y.2.inf.prot,y.2.n,y.2.cache,x.2⟩
 | none=>⟨⟨#[]⟩,0,0,⟨#[]⟩,0,0,false,0⟩
theorem xe_ (us:List (UA×USt)) (x:Nat×Nat):(dqF us x).bare=kO_ (pub us) x:=by
 unfold dqF kO_ pub
 rw[List.getElem?_map]
 cases us[x.1]?<;>rfl
section
variable {w u v z w3:World} {S D D':Nat→Prop} {pw i m n ab cb:Nat} {a:UA} {s:USt} {st st':Wst} {F F':Int→Bool} {ℓ ℓ' ℓ1 ℓ2:Nat→Option Nat} {us us':List (UA×USt)} {R:A_→W_} {out:Sl} {l:L8} {c:Cm}
def hN_ (w:World) (ℓ:Nat→Option Nat) (pw:Nat) (F:Int→Bool) (us:List (UA×USt)) (m:Nat) (X:RsX×Pu×Wst) (R:A_→W_):Prop:=
 ∀v ℓ' d us',Mv w v ℓ ℓ'→Sys v ℓ' pw X.2.2 F us'→SOk X.2.2 us' (m+200000)→cX_ us us'→pub us'=X.2.1→Dat w v ℓ' d X.1.d→R (rsv X.1.st X.1.sn d).toArray v
theorem hN_.ret {X:RsX×Pu×Wst} {d:Sl} (h:hN_ w ℓ pw F us m X R) (mv:Mv w v ℓ ℓ') (H:Sys v ℓ' pw X.2.2 F us') (K:SOk X.2.2 us' (m+200000)) (lk:cX_ us us') (hp:pub us'=X.2.1) (dt:Dat w v ℓ' d X.1.d) (hab:w.heap.size≤ab) (hn:ℓ' ab=none) (hb:Blk v ab z10 aa_):cG_ ab R (rsv X.1.st X.1.sn d).toArray v:=
 bm_ hb rfl fun v' hk=>h v' ℓ' d us' (mv.loc hk fun b hb2 q=>o_) (H.local1 hb hn hk (e3_ d_ d_ d_) d_) K lk hp ⟨dt.1.keep hk fun b hbb q=>bd_ dt.1 hb d_ (by rw[hbb,q]),dt.2⟩
theorem hN_.hand {X:RsX×Pu×Wst} (h:hN_ w ℓ pw F us m X R) (mv:Mv w w3 ℓ ℓ1) (g:w.heap.size≤w3.heap.size) (hab:w.heap.size≤ab) (hn:ℓ1 ab=none) (hb:Blk w3 ab z10 aa_):hN_ w3 ℓ1 pw F us m X (cG_ ab R):=fun v ℓ' d us' mv2 H K lk hp dt=>
 h.ret (mv.trans mv2) H K lk hp (dt.from g) hab (by rw[mv2.lab _ (au_ hb)];exact hn) (mv2.heap hb hn)
theorem Cal.ging {X:RsX×Pu×Wst} (h:Cal w v ℓ ℓ' cb ab c) (hab:w.heap.size≤ab) (hR:hN_ w ℓ pw F us m X R) (H:Sys v ℓ' pw X.2.2 F us') (K:SOk X.2.2 us' (m+200000)) (lk:cX_ us us') (hp:pub us'=X.2.1) (hd:X.1.d = []):cG_ ab R (rsv X.1.st X.1.sn ap_).toArray v:=
 hR.ret h.mv H K lk hp (by rw[hd];exact Dat.nil _ _ _) hab h.nab h.res
theorem hN_.unit {X:jN_} (h:hN_ w ℓ pw F us m (X.x,(pub us).set i (a.ub,X.s),X.w) R) (hi:i<us.length) (he:us[i]=(a,s)) (hs:s.same X.s):gk_ w ℓ pw F us i a m X R:=fun v ℓ' d mv H K dt=>
 h v ℓ' d (us.set i (a,X.s)) mv H K (cX_.set hi he (UA.like.refl a) hs) nk_ dt
theorem xf_ (H:Sys w ℓ pw st F us) (K:SOk st us m) (hm:m≤200000000) (hi:i<us.length) (he:us[i]=(a,s)) (hn:n<8) (hp:RdX w ℓ 1 out (bv l)) (hpe:∀b∈s.peers,∃j,∃h:j<us.length,us[j].1.ub=b) (hpl:s.peers.length≤100) (hR:hN_ w ℓ pw F us m (iq_ F (pub us) st i n c l) R):dL_ (some ⟨a.ub,0,none⟩) (n:Int) (cmv c).toArray out w R:=by
 refine fx_.calls _ _ _ _ _ _ (Cal.start H fun cb ab w1 g1 hcb hab C1=>?_)
 have H1:=H.grow g1
 have hpn:=(dj_ hp.rd).symm
 refine⟨c.alloc,C1.cell rfl,?_⟩
 unfold iq_ at hR
 refine gv_ (fun hne=>?_) (fun hal=>?_)
 ·rw[if_pos o_] at hR
  exact bE_ (s:=cE_ 0x1a00) fun y gy=>(C1.go gy).ging (X:=(snX (cE_ 0x1a00),pub us,st)) hab hR (H1.grow gy) (K.mono o_) (cX_.refl _) rfl rfl
 rw[if_neg o_] at hR
 refine uq_ (hp.rd.grow g1) fun U S w2 g2 oU oS=>?_
 have C2:=C1.go g2
 have H2:=H1.grow g2
 have fr:∀{y:World} {b:Nat},ac_ w y→w.heap.size≤b→ℓ b=none:=fun _ hb=>H.fresh hb
 have s1:=g1.size
 refine ah_ fun lb w3 hlb hb3 hg3 hs3=>ah_ fun sb w4 hsb hb4 hg4 hs4=>?_
 have hb3:Blk w4 lb _ aZ_:=hg4.heap hb3 (fun q=>q)
 have s2:=g2.size
 refine ar_ (cells:=lsv U S) hb3 jw_ rfl rfl (by simp[lsv,Value.oneCell']) fun w5 hb5 hk5 hs5=>?_
 have hs5b:Blk w5 sb _ aL_:=hk5.heap hb4 o_
 refine ar_ (cells:=(snv (aW_ l).sn).toArray) hs5b ba_ rfl rfl (by simp[snv,Value.oneCell']) fun w6 hb6 hk6 hs6=>?_
 have g26:ac_ w2 w6:=((hg3.trans hg4).keep hk5 fun b hb q=>o_).keep hk6 fun b hb q=>by have:=hk5.size;omega
 have hl6:Blk w6 lb (lsv U S) aZ_:=hk6.heap hb5 o_
 have C6:=C2.go g26
 have H6:=H2.grow g26
 refine yF_ ?_
 cases hok:(aW_ l).ok with
 | false=>
  rw[hok,if_pos rfl] at hR
  exact al_ rfl ⟨_,hC_ (ax_ hb6),bE_ fun y gy=>(C6.go gy).ging (X:=(snX (aW_ l).sn,pub us,st)) hab hR (H6.grow gy) (K.mono o_) (cX_.refl _) rfl rfl⟩
 | true=>
 rw[hok,if_neg Bool.noConfusion,hb_ hi,he] at hR
 dsimp only at hR
 refine ao_ rfl ?_
 have s6:=g26.size
 refine aH_ (cells:=#[.pointer (some ⟨a.ub,0,none⟩)]) (e:=aI_) (z:=1) (base:=w6.heap.size) (rU_ _ _) rfl d_ (Nat.le_refl _) fun w7 o7 g7 hs7=>?_
 have H7:=H6.grow g7
 have hU7:=(H7.at hi he).1
 obtain⟨P7,hub7,hpr7⟩:=hU7.unit
 have prl:P7.n=s.peers.length:=by have:=hpr7.rd.len;rw[List.length_map] at this;omega
 refine⟨rfl,P7,by rw[gA,am_,hub7.cell];rfl,?_⟩
 refine aS_ ju_ mb_ rfl d_ d_ o7 hpr7.rd (by intro x hx;obtain⟨b,_,rfl⟩:=List.mem_map.1 hx;rfl) (by show(1+P7.n)*8≤_;omega) o_ fun X8 w8 hX8 o8 k8 hat8=>?_
 have g68:ac_ w6 w8:=g7.keep k8 fun b hb q=>by
  have:b=w6.heap.size:=by simpa [Sl.blk] using q
  omega
 have g8:=(g1.trans g2).trans (g26.trans g68)
 have C8:=C6.go g68
 have H8:=H6.grow g68
 have hl8:Blk w8 lb (lsv U S) aZ_:=g68.heap hl6 (fun q=>q)
 have oU8:=oU.grow (g26.trans g68)
 have oS8:=oS.grow (g26.trans g68)
 have e8:[Value.pointer (some ⟨a.ub,0,none⟩)]++s.peers.map ptr=(a.ub::s.peers).map ptr:=rfl
 have o8:CF.Own w8 w6.heap.size aI_ 1 X8 ((a.ub::s.peers).map ptr):=o8
 have hX8:X8.n=(a.ub::s.peers).length:=by rw[hX8,prl,List.length_cons];show 1+_=_;omega
 have hall:∀b∈a.ub::s.peers,∃j,∃h:j<us.length,us[j].1.ub=b:=fun b hb=>by
  rcases List.mem_cons.1 hb with r|r
  ·exact⟨i,hi,by rw[he,r]⟩
  ·exact hpe b r
 have hlen:(a.ub::s.peers).length≤101:=by rw[List.length_cons];omega
 generalize a.ub::s.peers=bs at *
 obtain⟨ps0,ps1,ps2⟩:=uv_ l
 have lsz:lb<w8.heap.size:=au_ hl8
 refine⟨fun devs x v=>∃(k:Nat) (ℓ1:Nat→Option Nat) (us1:List (UA×USt)) (st1:Wst) (nm:List (Nat×Nat)),x=k∧k≤bs.length∧Cal w v ℓ ℓ1 cb ab c∧w8.heap.size≤v.heap.size∧Sys v ℓ1 pw st1 F us1∧SOk st1 us1 (m+2*k)∧cX_ us us1∧ze_ us nm∧nm.length≤k∧
   bi_ F n bs (pub us) st=(nm++(bi_ F n (bs.drop k) (pub us1) st1).1,(bi_ F n (bs.drop k) (pub us1) st1).2)∧LR v ℓ1 w8.heap.size bj_ 3 devs (nm.flatMap (rowN us))∧LR v ℓ1 w6.heap.size aI_ 1 X8 (bs.map ptr)∧LR v ℓ1 w1.heap.size bQ_ 1 U (dl_ (aW_ l).us)∧LR v ℓ1 w1.heap.size b7_ 5 S ((aW_ l).ss.flatMap sgv)∧LB v ℓ1 lb (lsv U S) aZ_,
  fun _ x _=>bs.length-x.toNat,⟨0,ℓ,us,st,[],rfl,Nat.zero_le _,C8,Nat.le_refl _,H8,K.mono o_,cX_.refl _,(fun _ h=>by cases h),Nat.le_refl _,rfl,⟨aK_ _ _ _ _,fun b hb=>by simp[Sl.blk] at hb⟩,⟨o8,fun b hb=>H.fresh (by have:=(o8.ge b hb).1;omega)⟩,⟨oU8,fun b hb=>H.fresh (by have:=(oU8.ge b hb).1;omega)⟩,⟨oS8,fun b hb=>H.fresh (by have:=(oS8.ge b hb).1;omega)⟩,⟨hl8,H.fresh o_⟩⟩,?_⟩
 rintro devs x v ⟨k,ℓ1,us1,st1,nm,rfl,hk,Cv,szv,Hv,Kv,lk,hnm,hnk,hnames,rD,rX,rU,rS,bL⟩
 have hdn:devs.n=nm.length:=by have:=rD.own.len;rw[bx_ (w9_ us)] at this;omega
 rw[hX8]
 refine bh_ (fun hlt=>?_) (fun hge=>?_)
 ·
  refine bw_ (fun devs' v'=>∃(ℓ2:Nat→Option Nat) (us2:List (UA×USt)) (st2:Wst) (nm2:List (Nat×Nat)),Cal w v' ℓ ℓ2 cb ab c∧w8.heap.size≤v'.heap.size∧Sys v' ℓ2 pw st2 F us2∧SOk st2 us2 (m+2*(k+1))∧cX_ us us2∧ze_ us nm2∧nm2.length≤k+1∧
   bi_ F n bs (pub us) st=(nm2++(bi_ F n (bs.drop (k+1)) (pub us2) st2).1,(bi_ F n (bs.drop (k+1)) (pub us2) st2).2)∧LR v' ℓ2 w8.heap.size bj_ 3 devs' (nm2.flatMap (rowN us))∧LR v' ℓ2 w6.heap.size aI_ 1 X8 (bs.map ptr)∧LR v' ℓ2 w1.heap.size bQ_ 1 U (dl_ (aW_ l).us)∧LR v' ℓ2 w1.heap.size b7_ 5 S ((aW_ l).ss.flatMap sgv)∧LB v' ℓ2 lb (lsv U S) aZ_) ?_ (fun J=>?_)
  ·rintro devs' v' ⟨ℓ2,us2,st2,nm2,q⟩
   rw[w64 o_ o_]
   exact⟨⟨k+1,ℓ2,us2,st2,nm2,o_,o_,q⟩,by dsimp only;omega⟩
  obtain⟨hA8,hc8⟩:=iD_ (rX.own.rd o_) (i:=k) (by rw[List.length_map];exact hlt)
  obtain⟨j,hj,ej⟩:=hall bs[k] (List.getElem_mem hlt)
  have hj1:j<us1.length:=by rw[lk.len];exact hj
  have ej1:us1[j].1.ub=bs[k]:=by rw[(lk.all j hj hj1).1.ub,ej]
  refine⟨⟨o_,o_,hA8⟩,some ⟨us1[j].1.ub,0,none⟩,by rw[Int.toNat_natCast,hc8,List.getElem_map,ej1];rfl,?_⟩
  have hpg:=hb_ hj1
  have hidx:=zc_ Hv hj1
  rw[ej1] at hidx
  have hnd:bi_ F n (bs.drop k) (pub us1) st1=if (aA_ F us1[j].2 st1).1≠0 then bi_ F n (bs.drop (k+1)) ((pub us1).set j (us1[j].1.ub,(aA_ F us1[j].2 st1).2.1)) (aA_ F us1[j].2 st1).2.2
    else((j,e6_ (aA_ F us1[j].2 st1).2.1 n)::(bi_ F n (bs.drop (k+1)) ((pub us1).set j (us1[j].1.ub,(aA_ F us1[j].2 st1).2.1)) (aA_ F us1[j].2 st1).2.2).1,(bi_ F n (bs.drop (k+1)) ((pub us1).set j (us1[j].1.ub,(aA_ F us1[j].2 st1).2.1)) (aA_ F us1[j].2 st1).2.2).2):=by
   rw[List.drop_eq_getElem_cons hlt]
   conv=>lhs;unfold bi_
   rw[hidx,hpg]
  obtain⟨a1,s1',e1⟩:∃a1 s1',us1[j]=(a1,s1'):=⟨_,_,rfl⟩
  rw[e1] at hnd ej1 ⊢
  dsimp only at hnd ej1 ⊢
  refine qk_ (fun _=>w4_ _ _ _) Hv Kv o_ hj1 e1 fun w9 ℓ2 a2 hl2 m2 H9 K9=>?_
  have sm:=ip_ (F:=F) (s:=s1') (st:=st1)
  have lk2:cX_ us (us1.set j (a2,(aA_ F s1' st1).2.1)):=lk.trans (cX_.set hj1 e1 hl2 sm)
  have epub:(pub us1).set j (a1.ub,(aA_ F s1' st1).2.1)=pub (us1.set j (a2,(aA_ F s1' st1).2.1)):=by rw[nk_,hl2.ub]
  rw[epub] at hnd
  have hi2:j<(us1.set j (a2,(aA_ F s1' st1).2.1)).length:=by rw[List.length_set];exact hj1
  have hU9:=(H9.at hi2 (List.getElem_set_self _)).1
  generalize hsu:aA_ F s1' st1=su at *
  have C9:=Cv.step m2
  have sz9:=m2.keep.size
  refine gv_ (fun hne=>?_) (fun hz=>?_)
  ·rw[if_pos o_] at hnd
   exact J devs w9 ⟨ℓ2,_,su.2.2,nm,C9,o_,H9,K9.mono o_,lk2,hnm,o_,by rw[hnames,hnd],rD.mv m2,rX.mv m2,rU.mv m2,rS.mv m2,bL.mv m2⟩
  ·rw[if_neg o_] at hnd
   have rD9:=rD.mv m2
   have eub:a1.ub=a2.ub:=hl2.ub.symm
   rw[eub]
   refine xb_ (n:=n) (ℓ:=ℓ2) (a:=a2) (s:=su.2.1) hU9 rD9.own o_ o_ fun x y z gy hdy hox hk hat hxn=>J x z ⟨ℓ2,_,su.2.2,nm++[(j,e6_ su.2.1 n)],(C9.go gy).keepR hdy d_ d_ g8.size hk,?_,(H9.grow gy).row (rD9.go gy) (e3_ d_ d_ d_) d_ hk,K9.mono o_,lk2,?_,?_,?_,⟨?_,?_⟩,((rX.mv m2).go gy).keepB hdy d_ hk,((rU.mv m2).go gy).keepB hdy d_ hk,((rS.mv m2).go gy).keepB hdy d_ hk,((bL.mv m2).go gy).keepR hdy d_ hk⟩
   ·have:=gy.size;have:=hk.size;omega
   ·intro q hq
    rcases List.mem_append.1 hq with r|r
    ·exact hnm q r
    ·rw[List.mem_singleton.1 r];exact⟨hj,xd_ _ _⟩
   ·rw[List.length_append];show nm.length+1≤_;omega
   ·rw[hnames,hnd,List.append_assoc];rfl
   ·have er:rowN us (j,e6_ su.2.1 n)=nmv (su.2.1.inf.s,a2.dv,e6_ su.2.1 n):=by
     rw[←qp_ lk2]
     unfold rowN
     rw[List.getElem?_eq_getElem hi2,List.getElem_set_self]
    rw[List.flatMap_append,List.flatMap_singleton,er]
    exact hox
   ·intro b hb
    rcases hat with r|⟨b',r,hb'⟩
    ·exact rD9.no b (by rw[←r];exact hb)
    ·rw[r] at hb
     injection hb with hb
     exact H9.fresh (by have:=gy.size;omega)
 ·
  have hkb:k=bs.length:=o_
  have hnames:bi_ F n bs (pub us) st=(nm,pub us1,st1):=by
   rw[hnames,hkb,List.drop_length]
   show(nm++[],pub us1,st1)=_
   rw[List.append_nil]
  rw[hnames] at hR
  dsimp only at hR
  have ecg:bK_ F (nm.map (kO_ (pub us1))) (aW_ l).us 0 (aW_ l).ss st1=bK_ F (nm.map (dqF us1)) (aW_ l).us 0 (aW_ l).ss st1:=by
   rw[←o8_ F (nm.map (dqF us1)),List.map_map]
   congr 1
   exact List.map_congr_left fun x _=>(xe_ us1 x).symm
  rw[ecg] at hR
  obtain⟨D,hW,hD⟩:=Hv.W
  have nD:∀{x:Sl} {base q:Nat} {e:TypeId} {vs:List Value},LR v ℓ1 base e q x vs→∀a,x.A=some a→¬D a.block:=fun hx a ha q=>by
   have h1:=hD _ q
   rw[hx.no a.block (by unfold Sl.blk;rw[ha];rfl)] at h1
   cases h1
  have hT:Dvs v pw D st1 (m+2*k) F (nm.map (dqF us1)):=⟨hW,Kv.wok,Kv.few,fun d hd=>by
   obtain⟨x,hx,rfl⟩:=List.mem_map.1 hd
   have hx1:x.1<us1.length:=by rw[lk.len];exact(hnm x hx).1
   have:dqF us1 x=⟨us1[x.1].2.inf.s,us1[x.1].1.dv,us1[x.1].1.ps,us1[x.1].2.file,us1[x.1].2.inf.prot,us1[x.1].2.n,us1[x.1].2.cache,x.2⟩:=by unfold dqF;rw[List.getElem?_eq_getElem hx1]
   rw[this]
   exact Hv.devD Kv hW hD hx1 rfl⟩
  have erow:nm.flatMap (rowN us)=((nm.map (dqF us1)).map fun d=>(d.serial,d.dv,d.shut)).flatMap nmv:=by
   rw[List.map_map,List.flatMap_map]
   refine ur_ fun x hx=>?_
   rw[←qp_ lk]
   have hx1:x.1<us1.length:=by rw[lk.len];exact(hnm x hx).1
   unfold rowN dqF
   simp only[Function.comp,List.getElem?_eq_getElem hx1]
  have hrD:Rd v 3 devs (nm.flatMap (rowN us)):=rD.own.rd o_
  rw[erow] at hrD
  have hUn:U.n=(aW_ l).us.length:=by have:=rU.own.len;unfold dl_ at this;rw[List.length_map] at this;omega
  have hSn:S.n=(aW_ l).ss.length:=by have:=rS.own.len;rw[bx_ nj_] at this;omega
  refine⟨lsv U S,up_ bL.blk,?_⟩
  refine yp_ hT o_ (rU.own.rd o_) (rS.own.rd o_) hrD (nD rU) (nD rS) (nD rD) ps1 ps2 (fun d hd=>by
   obtain⟨x,hx,rfl⟩:=List.mem_map.1 hd
   unfold dqF
   split
   ·exact(hnm x hx).2
   ·show 0<4;decide) fun v2 D2 hk2 hD2 T2=>?_
  have hcd:=tk_ (F:=F) (L:=nm.map (dqF us1)) (us:=(aW_ l).us) (aW_ l).ss 0 st1
  have hcs:=fun(f:ByteArray) (h:∀d∈nm.map (dqF us1),f≠d.file)=>o9_ (F:=F) (us:=(aW_ l).us) h (aW_ l).ss 0 st1
  generalize bK_ F (nm.map (dqF us1)) (aW_ l).us 0 (aW_ l).ss st1=cg at *
  obtain⟨ℓ3,m3,H3,_⟩:=Hv.worldN hD hk2 T2.isW hD2
  have C3:=Cv.step m3
  refine lf_ fun rb v3 hrb g3 hbr=>⟨_,kh_ (ax_ hbr),?_⟩
  refine(C3.go g3).ging (X:=(cg.2.1,pub us1,cg.2.2)) hab hR (H3.grow g3) ⟨T2.ok,⟨by have:=T2.few;show cg.2.2.ops≤_;omega,by have:=T2.few;show cg.2.2.waits.length≤_;omega⟩,fun x hx=>?_⟩ lk rfl hcd
  have ok:=Kv.units x hx
  refine ok.same ?_ rfl rfl rfl rfl rfl rfl
  by_cases q:∃d∈nm.map (dqF us1),x.2.file=d.file
  ·obtain⟨d,hd,e⟩:=q
   rw[e];exact(T2.all d hd).tells.1
  ·rw[kr_ (hcs x.2.file fun d hd e=>q ⟨d,hd,e⟩)];exact ok.good
end
open Go CF
section
variable {w u v:World} {N N' S:Nat→Prop} {pw i n:Nat} {a:UA} {s s1:USt} {st st1:Wst} {F:Int→Bool} {ℓ ℓ':Nat→Option Nat} {us:List (UA×USt)} {p out:Sl} {l:L8}
theorem zf_ {e:Nat} {R:A_→W_} (H:Sys w ℓ pw st F us) (hi:i<us.length) (he:us[i]=(a,s)) (hn:n<8) (hct:s.count<1000000000000) (hp:RdX w ℓ 1 p (bv l))
  (hstart:∀u,Mv w u ℓ ℓ→Sys u ℓ pw st F (us.set i (a,ak_ s))→∀K:Int→W_,(∀u' ℓ' a2,a.like a2→Mv u u' ℓ ℓ'→Sys u' ℓ' pw st1 F (us.set i (a2,s1))→K (e:Int) u')→bT_ (some ⟨a.ub,0,none⟩) u K)
  (hbad:e≠0→∀ℓ1 a2,a.like a2→∀u,Mv w u ℓ ℓ1→Sys u ℓ1 pw st1 F (us.set i (a2,s1))→R (rsv 2 ⟨2,0,0,false,0,0,false,false⟩ ap_).toArray u)
  (hR:e=0→∀ℓ1 a2,a.like a2→match cl_ s1 n l with
   | .bad sn=>∀u,Mv w u ℓ ℓ1→Sys u ℓ1 pw st1 F (us.set i (a2,s1))→R (rsv 2 sn ap_).toArray u
   | .told c=>∀u,Mv w u ℓ ℓ1→Sys u ℓ1 pw st1 F (us.set i (a2,a1_ s1 n))→R (rsv 2 ⟨6,c,0,false,0,0,false,false⟩ ap_).toArray u
   | .conflict=>∀u,Mv w u ℓ ℓ1→Sys u ℓ1 pw st1 F (us.set i (a2,s1))→R (rsv 24 sn0 ap_).toArray u
   | .prot=>∀u,Mv w u ℓ ℓ1→Sys u ℓ1 pw st1 F (us.set i (a2,s1))→R (rsv 2 ⟨7,9984,0,false,0,0,false,false⟩ ap_).toArray u
   | .run c=>∀u ab,Mv w u ℓ ℓ1→Sys u ℓ1 pw st1 F (us.set i (a2,s1))→Blk u ab z10 aa_→w.heap.size≤ab→ℓ1 ab=none→bp_ (some ⟨a2.ub,0,none⟩) (n:Int) (cmv c).toArray out u (dk_ ab R)):aM_ (some ⟨a.ub,0,none⟩) (n:Int) p out w R:=by
 refine fb_.calls _ _ _ _ _ _ (ah_ fun ab w0 hab hb0 hg0 hs0=>?_)
 have hb0:Blk w0 ab z10 aa_:=hb0
 have hab':w.heap.size≤ab:=o_
 have hfab:ℓ ab=none:=H.fresh hab'
 have H0:=H.grow hg0
 obtain⟨hU,hown⟩:=H0.at hi he
 obtain⟨z1,z2,z3,z4,z5,z6,z7⟩:=dC_ a
 refine⟨fun _=>rfl,some ⟨a.dv,0,none⟩,fun _=>hU.cellU fun P=>rfl,al_ (by simp;omega) ⟨rfl,?_⟩⟩
 rw[show(gA (some (⟨a.ub,0,none⟩:Addr))).add 15=⟨a.ub,15,none⟩ by rw[gA,am_]]
 obtain⟨P,hP1,hP2⟩:=hU.unit
 refine oR_ (o:=15) (n:=(s.count:Int)) (s:=((s.count+1:Nat):Int)) hP1 rfl (by rw[w64 o_ o_];omega) fun w1 hb1 hk1 hs1=>?_
 have sf:bg_ w0 (fun k=>ℓ k≠none) fun b=>b=a.ub:=bg_.sub fun b _ q=>by rw[q,hown _ z1];exact Option.some_ne_none _
 have hU1:IsU w1 (fun k=>ℓ k≠none) pw a (ak_ s):=hU.unitC (on:=s.on) (lk:=s.lock) (fl:=s.fault) (ct:=s.count+1) (ps:=s.peers) hk1 sf (fun b _ hne q=>hne q) (fun _ q=>.inl q) ⟨P,hb1,hP2.step (.inr (.inr rfl)) hk1 sf fun _ q=>.inl q⟩
 obtain⟨m1,H1⟩:=H0.putA hi he hk1 (fun b _ q=>by rw[q];exact z1) hU1
 have hi1:i<(us.set i (a,ak_ s)).length:=by rw[List.length_set];exact hi
 have m01:Mv w w1 ℓ ℓ:=(Mv.grow hg0).trans m1
 refine hstart w1 m01 H1 _ fun w2 ℓ2 a2 hl2 m12 H2=>?_
 have m02:=m01.trans m12
 have hab2:Blk w2 ab z10 aa_:=(m1.trans m12).heap hb0 hfab
 have hfab:ℓ2 ab=none:=(m12.lab ab (au_ (m1.heap hb0 hfab))).trans hfab
 refine gv_ (fun hne=>bE_ (s:=⟨2,0,0,false,0,0,false,false⟩) fun w3 hg3=>dk_.sys (H2.grow hg3) (m02.go hg3) hab' hfab (hg3.heap hab2 (fun q=>q)) rfl fun v k hm hs=>hbad o_ ℓ2 a2 hl2 v hm hs) (fun hz=>?_)
 have hR:=hR o_ ℓ2 a2 hl2
 rw[←hl2.ub]
 obtain⟨z1,z2,z3,z4,z5,z6,z7⟩:=dC_ a2
 have hi1:i<(us.set i (a2,s1)).length:=by rw[List.length_set];exact hi
 refine qe_ (m02.rdX hp).rd fun w3 hg3=>?_
 have m03:=m02.go hg3
 have H3:=H2.grow hg3
 have hab3:Blk w3 ab z10 aa_:=hg3.heap hab2 (fun q=>q)
 generalize hX:aR_ l=X
 obtain⟨c,sn,ok⟩:=X
 unfold cl_ at hR
 rw[hX] at hR
 dsimp only
 refine ah_ fun cb w4 hcb hb4 hg4 hs4=>ah_ fun sb w5 hsb hb5 hg5 hs5=>?_
 have hcn:ab≠cb∧ab≠sb:=by
  have:=au_ hab3
  have:=hg4.size
  omega
 refine ar_ (cells:=(cmv c).toArray) (hg5.heap hb4 (fun q=>q)) g9_ rfl rfl (by simp[cmv,Value.oneCell']) fun w6 hb6 hk6 hs6=>?_
 have hb56:=hk6.heap hb5 (fun q=>o_)
 refine ar_ (cells:=(snv sn).toArray) hb56 ba_ rfl rfl (by simp[snv,Value.oneCell']) fun w7 hb7 hk7 hs7=>?_
 have hg37:ac_ w3 w7:=(((hg4.trans hg5).keep hk6 fun i hi q=>o_).keep hk7 fun i hi q=>by have:=hg4.size;omega)
 have hb67:Blk w7 cb (cmv c).toArray aD_:=hk7.heap hb6 (fun q=>o_)
 have m07:=m03.go hg37
 have H7:=H3.grow hg37
 have hab7:Blk w7 ab z10 aa_:=hg37.heap hab3 (fun q=>q)
 have c0:∀{v:World},Blk v cb (cmv c).toArray aD_→v.cell? ((⟨cb,0,none⟩:Addr).add 0)=some (.int .u8 (c.kind:Int)):=fun q=>by rw[am_,q.cell];rfl
 cases ok with
 | false=>
  refine ao_ rfl ⟨(snv sn).toArray,aC_ (cs:=snv sn) fh_ ba_ rfl (ax_ hb7),bE_ fun w8 hg8=>?_⟩
  rw[if_pos rfl] at hR
  exact dk_.sys (H7.grow hg8) (m07.go hg8) hab' hfab (hg8.heap hab7 (fun q=>q)) rfl fun v k hm hs=>hR v hm hs
 | true=>
  rw[if_neg (fun q=>Bool.noConfusion q)] at hR
  dsimp only at hR
  refine al_ rfl ⟨(c.kind:Int),c0 hb67,(c.kind:Int),fun _=>c0 hb67,(c.kind:Int),fun _=>c0 hb67,rfl,?_⟩
  obtain⟨hU7,hown7⟩:=H7.at hi1 (List.getElem_set_self _)
  refine⟨some ⟨a2.qb,0,none⟩,hU7.cellU fun P=>rfl,?_⟩
  have efree:(!((((c.kind:Int)==3)||((c.kind:Int)==17))||((c.kind:Int)==2))) = !f9_ c.kind:=by
   unfold f9_
   congr 1
   rw[Bool.eq_iff_iff]
   simp only[Bool.or_eq_true,beq_iff_eq]
   omega
  refine qa_ hU7.q hn fun w8 hg8=>?_
  have H8:=H7.grow hg8
  have m08:=m07.go hg8
  have hab8:Blk w8 ab z10 aa_:=hg8.heap hab7 (fun q=>q)
  have hb8:Blk w8 cb (cmv c).toArray aD_:=hg8.heap hb67 (fun q=>q)
  have rest:∀{n5:Int} {b1:Bool},(b1 && !f9_ c.kind)=false→
    (match (if a4_ s1.tab n (fV_ c.kind)=true then qR_.conflict else if (fl_ c.kind&&s1.now.swp)=true then .prot else .run c) with
     | .bad sn=>∀u,Mv w u ℓ ℓ2→Sys u ℓ2 pw st1 F (us.set i (a2,s1))→R (rsv 2 sn ap_).toArray u
     | .told c=>∀u,Mv w u ℓ ℓ2→Sys u ℓ2 pw st1 F (us.set i (a2,a1_ s1 n))→R (rsv 2 ⟨6,c,0,false,0,0,false,false⟩ ap_).toArray u
     | .conflict=>∀u,Mv w u ℓ ℓ2→Sys u ℓ2 pw st1 F (us.set i (a2,s1))→R (rsv 24 sn0 ap_).toArray u
     | .prot=>∀u,Mv w u ℓ ℓ2→Sys u ℓ2 pw st1 F (us.set i (a2,s1))→R (rsv 2 ⟨7,9984,0,false,0,0,false,false⟩ ap_).toArray u
     | .run c=>∀u ab,Mv w u ℓ ℓ2→Sys u ℓ2 pw st1 F (us.set i (a2,s1))→Blk u ab z10 aa_→w.heap.size≤ab→ℓ2 ab=none→bp_ (some ⟨a2.ub,0,none⟩) (n:Int) (cmv c).toArray out u (dk_ ab R))→
    ∀w018,w018=w8.drew→∃S:W_,S w018∧(some (⟨a2.ub,0,none⟩:Addr)).isSome=true∧∃p3:O_,(∀u1,S u1→u1.cell? ((gA (some (⟨a2.ub,0,none⟩:Addr))).add 8)=some (.pointer p3))∧∃n7:Int,(∀u2,S u2→u2.cell? ((⟨cb,0,none⟩:Addr).add 0)=some (.int .u8 n7))∧gn_ n7 w018 fun n8 w019=>S w019∧bv_ p3 (n:Int) n8 w019 fun b3 w020=>
     Br b3 (ag_ Tryz.prog (storeVar aa_ ⟨ab,0,none⟩ (.agg #[.int .u8 24,.int .u8 0,.int .u16 0,.int .u64 0,.bool false,.int .i64 0,.int .i64 0,.bool false,.bool false,.slice none 0 0])) w020 fun w021=>∃res4:A_,(loadVar aa_ ⟨ab,0,none⟩).run Tryz.prog w021=.ok (.agg res4) w021∧R res4 w021)
     (∃n9:Int,w020.cell? ((⟨cb,0,none⟩:Addr).add 0)=some (.int .u8 n9)∧fM_ n9 w020 fun b4 w022=>(b4=true→(some (⟨a2.ub,0,none⟩:Addr)).isSome=true)∧∃p4:O_,(b4=true→w022.cell? ((gA (some (⟨a2.ub,0,none⟩:Addr))).add 7)=some (.pointer p4))∧bI_ (fun(g7:A_) (w023:World)=>∃b5:Bool,(b4=true→g7[2]?=some (.bool b5))∧Br (b4&&b5)
      (a8_ #[.int .u8 7,.int .u16 9984,.int .u64 0,.bool false,.int .i64 0,.int .i64 0,.bool false,.bool false] w023 fun g8 w024=>ag_ Tryz.prog (storeVar aa_ ⟨ab,0,none⟩ (.agg g8)) w024 fun w025=>∃res5:A_,(loadVar aa_ ⟨ab,0,none⟩).run Tryz.prog w025=.ok (.agg res5) w025∧R res5 w025)
      (∃g9:A_,(loadVar aD_ ⟨cb,0,none⟩).run Tryz.prog w023=.ok (.agg g9) w023∧bp_ (some ⟨a2.ub,0,none⟩) (n:Int) g9 out w023 fun g10 w026=>ag_ Tryz.prog (storeVar aa_ ⟨ab,0,none⟩ (.agg g10)) w026 fun w027=>∃res6:A_,(loadVar aa_ ⟨ab,0,none⟩).run Tryz.prog w027=.ok (.agg res6) w027∧R res6 w027)) fun J_=>(b4=true→b4_ p4 w022 J_)∧(b4=false→J_ (Kd.dflt .ag) w022)):=by
   intro n5 b1 _ hR w9 e9
   subst e9
   have hg9:=aq_ w8
   have H9:=H8.grow hg9
   have m09:=m08.go hg9
   have hab9:Blk w8.drew ab z10 aa_:=hg9.heap hab8 (fun q=>q)
   have hb9:Blk w8.drew cb (cmv c).toArray aD_:=hg9.heap hb8 (fun q=>q)
   generalize w8.drew=w9 at *
   obtain⟨hU9,hown9⟩:=H9.at hi1 (List.getElem_set_self _)
   refine⟨fun o=>o=w9,rfl,rfl,some ⟨a2.tb,0,none⟩,fun o e=>by rw[e];exact hU9.cellU fun P=>rfl,(c.kind:Int),fun o e=>by rw[e];exact c0 hb9,oT_ ⟨rfl,gL_ hU9.tab fun w10 hg10=>?_⟩⟩
   have H10:=H9.grow hg10
   have m10:=m09.go hg10
   have hab10:Blk w10 ab z10 aa_:=hg10.heap hab9 (fun q=>q)
   have hb10:Blk w10 cb (cmv c).toArray aD_:=hg10.heap hb9 (fun q=>q)
   have hU10:=hU9.grow hg10
   cases hc:a4_ s1.tab n (fV_ c.kind) with
   | true=>
    rw[hc,if_pos rfl] at hR
    exact ao_ rfl (dk_.sys (sn:=sn0) (d:=ap_) H10 m10 hab' hfab hab10 rfl fun v k hm hs=>hR v hm hs)
   | false=>
    rw[hc,if_neg d_] at hR
    refine al_ rfl ⟨(c.kind:Int),c0 hb10,nC_ ⟨fun _=>rfl,some ⟨a2.pg,0,none⟩,fun _=>hU10.cellU fun P=>rfl,?_⟩⟩
    refine ci_ (fun(g7:A_) v=>ac_ w10 v∧(fl_ c.kind=true→g7=(vlv s1.now).toArray)) ?_ (fun J=>⟨fun _=>lW_ hU10.pages fun v hg=>J _ _ ⟨hg,fun _=>rfl⟩,fun q=>J _ _ ⟨ab_.refl _ _,fun r=>by rw[q] at r;cases r⟩⟩)
    rintro g7 v ⟨hgv,hg7⟩
    have Hv:=H10.grow hgv
    have mv:=m10.go hgv
    have habv:Blk v ab z10 aa_:=hgv.heap hab10 (fun q=>q)
    have hbv:Blk v cb (cmv c).toArray aD_:=hgv.heap hb10 (fun q=>q)
    refine⟨s1.now.swp,fun q=>by rw[hg7 q];rfl,?_⟩
    cases hal:fl_ c.kind&&s1.now.swp with
    | true=>
     rw[hal,if_pos rfl] at hR
     exact ao_ rfl (bE_ (s:=⟨7,9984,0,false,0,0,false,false⟩) fun v' hg'=>dk_.sys (Hv.grow hg') (mv.go hg') hab' hfab (hg'.heap habv (fun q=>q)) rfl fun v k hm hs=>hR v hm hs)
    | false=>
     rw[hal,if_neg d_] at hR
     exact al_ rfl ⟨_,oG_ (c:=c) (ax_ hbv),hR v ab mv Hv habv hab' hfab⟩
  cases hpk:cW_ (s1.q n) with
  | none=>
   rw[hpk] at hR
   exact al_ rfl (rest (n5:=0) (b1:=false) rfl hR)
  | some code=>
   rw[hpk] at hR
   dsimp only
   rw[efree]
   cases hfk:f9_ c.kind with
   | true=>
    rw[hfk] at hR
    exact al_ rfl (rest (n5:=(code:Int)) (b1:=true) (by rw[hfk];rfl) hR)
   | false=>
    rw[hfk] at hR
    dsimp only at hR
    refine ao_ rfl ⟨rfl,?_⟩
    obtain⟨hU8,hown8⟩:=H8.at hi1 (List.getElem_set_self _)
    refine⟨some ⟨a2.qb,0,none⟩,hU8.cellU fun P=>rfl,?_⟩
    refine mH_ hU8.q hn (by rw[hown8 _ z7];exact Option.some_ne_none _) H8.lt fun w9 hk9 hq9=>?_
    rw[hpk]
    dsimp only
    have sfq:bg_ w8 (fun k=>ℓ2 k≠none) fun b=>b=a2.qb:=bg_.sub fun b _ q=>by rw[q,hown8 _ z7];exact Option.some_ne_none _
    have hU9:IsU w9 (fun k=>ℓ2 k≠none) pw a2 (a1_ s1 n):=hU8.que hk9 sfq (fun b _ hne q=>hne q) (fun _ q=>.inl q) hq9
    obtain⟨m9,H9⟩:=H8.putA hi1 (List.getElem_set_self _) hk9 (fun b _ q=>by rw[q];exact z7) hU9
    rw[List.set_set] at H9
    refine bE_ (s:=⟨6,code,0,false,0,0,false,false⟩) fun w10 hg10=>?_
    have hab10:Blk w10 ab z10 aa_:=(m9.go hg10).heap hab8 hfab
    exact dk_.sys (H9.grow hg10) ((m08.trans m9).go hg10) hab' hfab hab10 rfl fun v k hm hs=>hR v hm hs
end
open Go CF
theorem pa_ {a b:Nat} {k:Nat} (h:a<k):a &&& b<k:=Nat.lt_of_le_of_lt Nat.and_le_left h
theorem vQ_ (k:Nat):jO_ {c0C with kind:=k}:=⟨by show 0<_;decide,by show 0<_;decide,by show 0<_;decide,by show 0<_;decide,by show 0<_;decide,fun _=>by show(0:Int)≤_;decide⟩
theorem yr_ {c:Cm} {p:L8} {sv:Nat} (h:jO_ c) (hs:sv<256) (ha:c.alloc≤1000000):jO_ (im_ c p sv).1:=by
 obtain⟨h1,h2,h3,h4,h5,h6⟩:=h
 have b:=nc_ p
 have n1:=nu1 p
 have n2:=nu2 p
 have n3:=nu3 p
 have n4:=nu4 p
 have n8:=nu8 p
 have sp:jO_ (fG_ c p).1∧(fG_ c p).1.kind=c.kind:=by
  unfold fG_
  split
  ·refine⟨⟨?_,?_,h3,h4,h5,h6⟩,rfl⟩
   ·show nuN p 1 3 &&& 2097151<_
    exact pa_ (by have:=n3 1;omega)
   ·show(if nuN p 4 1=0 then 256 else nuN p 4 1)<_
    have:=n1 4
    split<;>omega
  split
  ·exact⟨⟨by have:=n4 2;show nuN p 2 4<_;omega,by have:=n2 7;show nuN p 7 2<_;omega,h3,h4,h5,h6⟩,rfl⟩
  ·exact⟨⟨n8 2,by have:=n4 10;show nuN p 10 4<_;omega,h3,h4,h5,h6⟩,rfl⟩
 unfold im_
 by_cases k2:c.kind=2
 ·rw[if_pos k2]
  exact⟨h1,h2,h3,h4,h5,fun q=>by have q:c.kind=4:=q;omega⟩
 rw[if_neg k2]
 by_cases k3:c.kind=3
 ·rw[if_pos k3]
  exact⟨h1,h2,b 2,h4,h5,fun q=>by have q:c.kind=4:=q;omega⟩
 rw[if_neg k3]
 by_cases k4:c.kind=4
 ·rw[if_pos k4]
  refine⟨h1,h2,h3,h4,h5,fun _=>?_⟩
  show(if p.length=10 then(nuN p 7 2:Int) else(bN p 4:Int))≤_
  have:=n2 7
  have:=b 4
  split<;>omega
 rw[if_neg k4]
 by_cases k5:c.kind=5
 ·rw[if_pos k5]
  exact⟨h1,h2,pa_ (b 2),h4,h5,fun q=>by have q:c.kind=4:=q;omega⟩
 rw[if_neg k5]
 by_cases k6:c.kind=6
 ·rw[if_pos k6]
  exact⟨h1,h2,h3,h4,h5,fun q=>by have q:c.kind=4:=q;omega⟩
 rw[if_neg k6]
 by_cases k7:7≤c.kind∧c.kind≤12
 ·rw[if_pos k7]
  show jO_ (gO_ c p)
  unfold gO_
  by_cases q6:6<p.length
  ·rw[if_pos q6]
   obtain⟨⟨g1,g2,g3,g4,g5,g6⟩,_⟩:=sp
   generalize (fG_ c p).1=d at *
   unfold nd_
   by_cases w1:d.kind=7∨d.kind=8
   ·rw[if_pos w1];exact⟨g1,g2,g3,g4,g5,g6⟩
   rw[if_neg w1]
   by_cases w2:d.kind=10
   ·rw[if_pos w2];exact⟨g1,g2,g3,g4,g5,g6⟩
   rw[if_neg w2]
   by_cases w3:d.kind=12
   ·rw[if_pos w3];exact⟨g1,g2,g3,g4,g5,g6⟩
   rw[if_neg w3]
   by_cases w4:d.kind=11
   ·rw[if_pos w4];exact⟨g1,g2,g3,g4,g5,g6⟩
   rw[if_neg w4];exact⟨g1,g2,g3,g4,g5,g6⟩
  ·rw[if_neg q6];exact sp.1
 rw[if_neg k7]
 by_cases k13:c.kind=13
 ·rw[if_pos k13]
  exact⟨h1,h2,h3,h4,h5,fun q=>by have q:c.kind=4:=q;omega⟩
 rw[if_neg k13]
 by_cases k14:c.kind=14
 ·rw[if_pos k14]
  exact⟨n8 2,by have:=b 13;show bN p 13<_;omega,h3,h4,h5,h6⟩
 rw[if_neg k14]
 by_cases k15:c.kind=15
 ·rw[if_pos k15]
  exact⟨h1,h2,h3,hs,h5,fun q=>by have q:c.kind=4:=q;omega⟩
 rw[if_neg k15]
 by_cases k16:c.kind=16
 ·rw[if_pos k16]
  exact⟨h1,h2,h3,hs,pa_ (b 2),fun q=>by have q:c.kind=4:=q;omega⟩
 rw[if_neg k16]
 by_cases k17:c.kind=17
 ·rw[if_pos k17]
  exact⟨h1,h2,b 2,h4,h5,fun q=>by have q:c.kind=4:=q;omega⟩
 rw[if_neg k17]
 by_cases k18:c.kind=18
 ·rw[if_pos k18]
  exact⟨h1,h2,h3,h4,h5,fun q=>by have q:c.kind=4:=q;omega⟩
 rw[if_neg k18]
 exact⟨h1,h2,h3,h4,h5,h6⟩
theorem xg_ (l:L8):jO_ (aR_ l).1:=by
 have z:=vQ_ 0
 have sv:jH_ l<256:=by
  unfold jH_
  split
  ·exact pa_ (nc_ l 1)
  ·decide
 unfold aR_
 split
 ·exact z
 split
 ·exact z
 split
 ·exact z
 split
 ·exact z
 split
 ·exact z
 split
 ·exact z
 ·unfold qQ_
  split
  ·exact z
  ·exact yr_ (vQ_ _) sv (by show(0:Int)≤_;decide)
def kP_ (F:Int→Bool) (P:Pu) (st:Wst) (i n:Nat) (c:Cm) (l:L8):RsX×Pu×Wst:=
 if c.kind=18 then iq_ F P st i n c l
 else match P[i]? with
  | none=>(snX sn0,P,st)
  | some x=>if c.kind=4 then((pG_ F x.2 st n c l).x,P.set i (x.1,(pG_ F x.2 st n c l).s),(pG_ F x.2 st n c l).w)
   else if c.kind=16 then((hY_ F x.2 st n c l).x,P.set i (x.1,(hY_ F x.2 st n c l).s),(hY_ F x.2 st n c l).w)
   else((hX_ F x.2 st n c l).x,P.set i (x.1,(hX_ F x.2 st n c l).s),(hX_ F x.2 st n c l).w)
abbrev nrS:Sn:=⟨2,0,0,false,0,0,false,false⟩
abbrev zg_:Sn:=⟨7,9984,0,false,0,0,false,false⟩
def aT_ (F:Int→Bool) (P:Pu) (st:Wst) (i n:Nat) (l out:L8):RsX×Pu×Wst:=
 match P[i]? with
 | none=>(snX sn0,P,st)
 | some x=>
  if (aA_ F (ak_ x.2) st).1≠0 then(snX nrS,P.set i (x.1,(aA_ F (ak_ x.2) st).2.1),(aA_ F (ak_ x.2) st).2.2)
  else match cl_ (aA_ F (ak_ x.2) st).2.1 n l with
   | .bad sn=>(snX sn,P.set i (x.1,(aA_ F (ak_ x.2) st).2.1),(aA_ F (ak_ x.2) st).2.2)
   | .told c=>(snX (uaS c),P.set i (x.1,a1_ (aA_ F (ak_ x.2) st).2.1 n),(aA_ F (ak_ x.2) st).2.2)
   | .conflict=>(⟨24,sn0,[]⟩,P.set i (x.1,(aA_ F (ak_ x.2) st).2.1),(aA_ F (ak_ x.2) st).2.2)
   | .prot=>(snX zg_,P.set i (x.1,(aA_ F (ak_ x.2) st).2.1),(aA_ F (ak_ x.2) st).2.2)
   | .run c=>kP_ F (P.set i (x.1,(aA_ F (ak_ x.2) st).2.1)) (aA_ F (ak_ x.2) st).2.2 i n c out
theorem pb_ {F:Int→Bool} {b:Bool} {s:USt} {st:Wst}:s.same (kt_ F b s st).s:=by
 unfold kt_
 split<;>exact⟨rfl,rfl,rfl,rfl,rfl,rfl⟩
theorem vR_ {F:Int→Bool} {s:USt} {st:Wst} {n:Nat} {c:Cm} {l:L8}:s.same (pG_ F s st n c l).s:=by
 unfold pG_
 split
 ·exact USt.same.refl s
 split
 ·exact USt.same.refl s
 ·refine USt.same.trans ?_ pb_
  split<;>exact⟨rfl,rfl,rfl,rfl,rfl,rfl⟩
theorem vS_ {F:Int→Bool} {s:USt} {st:Wst} {n:Nat} {c:Cm} {l:L8}:s.same (hY_ F s st n c l).s:=by
 unfold hY_
 generalize cb_ s.tab n (fo_ c l)=d
 generalize evQ s.q d.ev=q
 split
 ·exact USt.same.refl s
 split
 ·exact USt.same.refl s
 split
 ·exact⟨rfl,rfl,rfl,rfl,rfl,rfl⟩
 ·have h1:s.same {s with tab:=d.t,q:=q}:=⟨rfl,rfl,rfl,rfl,rfl,rfl⟩
  exact h1.trans pb_
theorem vT_ {F:Int→Bool} {s:USt} {st:Wst} {n:Nat} {c:Cm} {l:L8}:s.same (hX_ F s st n c l).s:=by
 unfold hX_
 split
 ·exact USt.same.refl s
 unfold io_
 split
 ·exact USt.same.refl s
 split
 ·exact⟨rfl,rfl,rfl,rfl,rfl,rfl⟩
 split
 ·split<;>exact USt.same.refl s
 split
 ·exact USt.same.refl s
 split
 ·split<;>exact USt.same.refl s
 ·exact USt.same.refl s
section
variable {w u v:World} {N N' S:Nat→Prop} {pw i n m:Nat} {a:UA} {s s1:USt} {st st1:Wst} {F:Int→Bool} {ℓ ℓ':Nat→Option Nat} {us:List (UA×USt)} {p out:Sl} {l lo:L8} {c:Cm} {R:A_→W_}
structure l5_ (k:Nat):Prop where
 base:k≠4→k≠16→k≠18→qW_ k
 sel:k=4→∀{w:World} {pw i m n:Nat} {a:UA} {s:USt} {st:Wst} {F:Int→Bool} {ℓ:Nat→Option Nat} {us:List (UA×USt)} {R:A_→W_} {out:Sl} {l:L8} {c:Cm},Sys w ℓ pw st F us→SOk st us m→m≤400000000→i<us.length→us[i]?=some (a,s)→n<8→RdX w ℓ 1 out (bv l)→c.alloc≤1000000→gk_ w ℓ pw F us i a m (pG_ F s st n c l) R→hR_ (some ⟨a.ub,0,none⟩) (n:Int) (cmv c).toArray out w R
 out:k=16→∀{w:World} {pw i m n:Nat} {a:UA} {s:USt} {st:Wst} {F:Int→Bool} {ℓ:Nat→Option Nat} {us:List (UA×USt)} {R:A_→W_} {out:Sl} {l:L8} {c:Cm},Sys w ℓ pw st F us→SOk st us m→m≤400000000→i<us.length→us[i]?=some (a,s)→n<8→RdX w ℓ 1 out (bv l)→jO_ c→gk_ w ℓ pw F us i a m (hY_ F s st n c l) R→eE_ (some ⟨a.ub,0,none⟩) (n:Int) (cmv c).toArray out w R
 copy:k=18→∀{w:World} {pw i m n:Nat} {a:UA} {s:USt} {st:Wst} {F:Int→Bool} {ℓ:Nat→Option Nat} {us:List (UA×USt)} {R:A_→W_} {out:Sl} {l:L8} {c:Cm},Sys w ℓ pw st F us→SOk st us m→m≤200000000→i<us.length→us[i]?=some (a,s)→n<8→RdX w ℓ 1 out (bv l)→(∀b∈s.peers,∃j,∃h:j<us.length,us[j].1.ub=b)→s.peers.length≤100→hN_ w ℓ pw F us m (iq_ F (pub us) st i n c l) R→dL_ (some ⟨a.ub,0,none⟩) (n:Int) (cmv c).toArray out w R
theorem vU_ (hN:l5_ c.kind) (H:Sys w ℓ pw st F us) (K:SOk st us m) (hm:m≤200000000) (hi:i<us.length) (he:us[i]=(a,s)) (hn:n<8) (hp:RdX w ℓ 1 out (bv l)) (hb:out.n≤140737488351232) (hc:jO_ c) (hpe:∀b∈s.peers,∃j,∃h:j<us.length,us[j].1.ub=b) (hpl:s.peers.length≤100) (hR:hN_ w ℓ pw F us m (kP_ F (pub us) st i n c l) R):bp_ (some ⟨a.ub,0,none⟩) (n:Int) (cmv c).toArray out w R:=by
 have hpg:=hb_ hi
 rw[he] at hpg
 unfold kP_ at hR
 rw[hpg] at hR
 refine wU_ hN.base H K o_ hi he hn hp hb hc (fun k4 k16 k18=>?_) ⟨fun k4 w2 ab g hab hbk=>?_,fun k16 w2 ab g hab hbk=>?_,fun k18 w2 ab g hab hbk=>?_⟩
 ·rw[if_neg k18] at hR
  dsimp only at hR
  rw[if_neg k4,if_neg k16] at hR
  exact hN_.unit hR hi he vT_
 ·rw[if_neg o_] at hR
  dsimp only at hR
  rw[if_pos k4] at hR
  exact hN.sel k4 (H.grow g) K o_ hi (by rw[List.getElem?_eq_getElem hi,he]) hn ((Mv.grow g).rdX hp) (hc.alloc k4) ((hN_.unit hR hi he vR_).hand (Mv.grow g) g.size hab (H.fresh hab) hbk)
 ·rw[if_neg o_] at hR
  dsimp only at hR
  rw[if_neg o_,if_pos k16] at hR
  exact hN.out k16 (H.grow g) K o_ hi (by rw[List.getElem?_eq_getElem hi,he]) hn ((Mv.grow g).rdX hp) hc ((hN_.unit hR hi he vS_).hand (Mv.grow g) g.size hab (H.fresh hab) hbk)
 ·rw[if_pos k18] at hR
  exact hN.copy k18 (H.grow g) K hm hi (by rw[List.getElem?_eq_getElem hi,he]) hn ((Mv.grow g).rdX hp) hpe hpl (hR.hand (Mv.grow g) g.size hab (H.fresh hab) hbk)
theorem xh_ (hL:s.on≠1→ni_ F {ak_ s with lock:=1} st) (hN:∀c,(aA_ F (ak_ s) st).1=0→cl_ (aA_ F (ak_ s) st).2.1 n l=.run c→l5_ c.kind) (H:Sys w ℓ pw st F us) (K:SOk st us m) (hm:m≤100000000) (hi:i<us.length) (he:us[i]=(a,s)) (hn:n<8) (hct:s.count<1000000000000) (hp:RdX w ℓ 1 p (bv l)) (ho:RdX w ℓ 1 out (bv lo)) (hb:out.n≤140737488351232) (hpe:∀b∈s.peers,∃j,∃h:j<us.length,us[j].1.ub=b) (hpl:s.peers.length≤100)
  (hR:∀v ℓ' d us',Mv w v ℓ ℓ'→Sys v ℓ' pw (aT_ F (pub us) st i n l lo).2.2 F us'→SOk (aT_ F (pub us) st i n l lo).2.2 us' (m+200002)→us'.length=us.length→(∀k (h:k<us.length) (h':k<us'.length),us[k].1.like us'[k].1∧us'[k].2.peers=us[k].2.peers∧us'[k].2.count=us[k].2.count+if k=i then 1 else 0)→pub us'=(aT_ F (pub us) st i n l lo).2.1→Dat w v ℓ' d (aT_ F (pub us) st i n l lo).1.d→R (rsv (aT_ F (pub us) st i n l lo).1.st (aT_ F (pub us) st i n l lo).1.sn d).toArray v):aM_ (some ⟨a.ub,0,none⟩) (n:Int) p out w R:=by
 have hpg:=hb_ hi
 rw[he] at hpg
 unfold aT_ at hR
 rw[hpg] at hR
 dsimp only at hR
 have KU:=K.at hi he
 have Kb:∀a',SOk st (us.set i (a',ak_ s)) m:=fun a'=>K.put (x:=(a',ak_ s)) (KU.same KU.good rfl rfl rfl rfl rfl rfl)
 have hib:∀y,i<(us.set i y).length:=fun y=>by rw[List.length_set];exact hi
 have K1:∀a',SOk (aA_ F (ak_ s) st).2.2 (us.set i (a',(aA_ F (ak_ s) st).2.1)) (m+2):=fun a'=>by
  have K2:=(Kb a).near (o5_ (F:=F) (s:=ak_ s) (st:=st))
  have KU2:=K2.at (hib _) (List.getElem_set_self _)
  have sm:=ip_ (F:=F) (s:=ak_ s) (st:=st)
  have:=K2.put (i:=i) (x:=(a',(aA_ F (ak_ s) st).2.1)) ⟨by rw[sm.n];exact KU2.n,by rw[sm.inf];exact KU2.form,by rw[sm.file,sm.keepf];exact KU2.name,by rw[sm.file];exact KU2.good,.inl (nI_ (by exact KU.once))⟩
  rwa [List.set_set] at this
 have lik:∀{a2 s'},a.like a2→s'.peers=s.peers→s'.count=s.count+1→∀k (h:k<us.length) (h':k<(us.set i (a2,s')).length),us[k].1.like (us.set i (a2,s'))[k].1∧(us.set i (a2,s'))[k].2.peers=us[k].2.peers∧(us.set i (a2,s'))[k].2.count=us[k].2.count+if k=i then 1 else 0:=fun {a2 s'} hl h1 h2 k h h'=>by
  rw[List.getElem_set]
  split
  ·rename_i e
   subst e
   rw[he,if_pos rfl];exact⟨hl,h1,h2⟩
  ·rename_i e
   rw[if_neg (fun q=>e q.symm)]
   exact⟨UA.like.refl _,rfl,rfl⟩
 have sm0:=ip_ (F:=F) (s:=ak_ s) (st:=st)
 have epub:∀{a2 s'},a.like a2→pub (us.set i (a2,s'))=(pub us).set i (a.ub,s'):=fun {a2 s'} hl=>by rw[nk_,hl.ub]
 refine zf_ (e:=(aA_ F (ak_ s) st).1) (s1:=(aA_ F (ak_ s) st).2.1) (st1:=(aA_ F (ak_ s) st).2.2) H hi he hn hct hp (fun u mv Hu Kc hk=>?_) (fun hne ℓ1 a2 hl u mv Hu=>?_) (fun hz ℓ1 a2 hl=>?_)
 ·refine qk_ hL Hu (Kb a) o_ (hib _) (List.getElem_set_self _) fun u' ℓ' a2 hl m2 H2 _=>hk u' ℓ' a2 hl m2 ?_
  rwa [List.set_set] at H2
 ·rw[if_pos hne] at hR
  exact hR u ℓ1 ap_ _ mv Hu ((K1 a2).mono o_) (by rw[List.length_set]) (lik hl sm0.peers sm0.count) (epub hl) (Dat.nil _ _ _)
 ·rw[if_neg o_] at hR
  have hN:=fun c=>hN c hz
  have K1:=K1 a2
  have hpe1:(aA_ F (ak_ s) st).2.1.peers=s.peers:=sm0.peers
  have hct1:(aA_ F (ak_ s) st).2.1.count=s.count+1:=sm0.count
  clear sm0
  generalize aA_ F (ak_ s) st=S at *
  have hcm:∀c,cl_ S.2.1 n l=.run c→jO_ c:=fun c h=>by
   have:c=(aR_ l).1:=by
    unfold cl_ at h
    split at h
    ·cases h
    ·split at h
     ·cases h
     ·split at h
      ·cases h
      ·split at h
       ·cases h
       ·injection h with h;exact h.symm
   rw[this];exact xg_ l
  cases hh:cl_ S.2.1 n l with
  | bad sn=>
   rw[hh] at hR
   exact fun u mv Hu=>hR u ℓ1 ap_ _ mv Hu (K1.mono o_) (by rw[List.length_set]) (lik hl hpe1 hct1) (epub hl) (Dat.nil _ _ _)
  | told c=>
   rw[hh] at hR
   refine fun u mv Hu=>hR u ℓ1 ap_ _ mv Hu ?_ (by rw[List.length_set]) (lik hl hpe1 hct1) (epub hl) (Dat.nil _ _ _)
   have KU1:=K1.at (hib _) (List.getElem_set_self _)
   have:=(K1.put (i:=i) (x:=(a2,a1_ S.2.1 n)) (KU1.same KU1.good rfl rfl rfl rfl rfl rfl)).mono (m':=m+200002) o_
   rwa [List.set_set] at this
  | conflict=>
   rw[hh] at hR
   exact fun u mv Hu=>hR u ℓ1 ap_ _ mv Hu (K1.mono o_) (by rw[List.length_set]) (lik hl hpe1 hct1) (epub hl) (Dat.nil _ _ _)
  | prot=>
   rw[hh] at hR
   exact fun u mv Hu=>hR u ℓ1 ap_ _ mv Hu (K1.mono o_) (by rw[List.length_set]) (lik hl hpe1 hct1) (epub hl) (Dat.nil _ _ _)
  | run c=>
   rw[hh] at hR
   intro u ab mv Hu hbk hab hn1
   dsimp only at hR
   rw[←epub hl] at hR
   refine vU_ (hN c hh) Hu K1 o_ (hib _) (List.getElem_set_self _) hn (mv.rdX ho) hb (hcm c hh) (fun b hb2=>?_) (by rw[hpe1];exact hpl) ?_
   ·rw[hpe1] at hb2
    obtain⟨j,hj,ej⟩:=hpe b hb2
    have hj2:j<(us.set i (a2,S.2.1)).length:=by rw[List.length_set];exact hj
    exact⟨j,hj2,(lik hl hpe1 hct1 j hj hj2).1.ub.trans ej⟩
   ·intro v ℓ' d us' mv2 Hv Kv lk hpub dt
    have mvv:=mv.trans mv2
    have hbv:=mv2.heap hbk hn1
    have hnv:ℓ' ab=none:=by rw[mv2.lab ab (au_ hbk)];exact hn1
    have dt2:=dt.from mv.keep.size
    refine dk_.sys Hv mvv hab hnv hbv rfl fun v' hk hm' hs=>hR v' ℓ' d us' hm' hs (Kv.mono o_) (lk.len.trans (by rw[List.length_set])) (fun k h h'=>?_) hpub ⟨dt2.1.keep hk fun b hbb q=>bd_ dt2.1 hbv d_ (by rw[hbb,q]),dt2.2⟩
    have h2:k<(us.set i (a2,S.2.1)).length:=by rw[List.length_set];exact h
    obtain⟨r1,r2,r3⟩:=lik hl hpe1 hct1 k h h2
    obtain⟨t1,t2⟩:=lk.all k h2 h'
    exact⟨r1.trans t1,t2.peers.trans r2,t2.count.trans r3⟩
end
open Go CF
theorem qq_ {k:Nat} (h2:k≠2) (h3:k≠3) (h17:k≠17) (h5:k≠5) (h15:k≠15) (h:pB_ k):qW_ k:=⟨fun q=>o_,fun q=>o_,fun q=>o_,fun q=>o_,fun q=>o_,fun q=>o_,fun q=>o_,fun q=>o_,fun _ _ _ _ _ _ _ _ _=>h⟩
theorem qr_ {k:Nat} (h4:k≠4) (h16:k≠16) (h18:k≠18) (h:qW_ k):l5_ k:=⟨fun _ _ _=>h,fun q=>o_,fun q=>o_,fun q=>o_⟩
theorem se_:l5_ 16:=⟨fun _ q=>o_,fun q=>o_,fun _ _ _ _ _ _ _ _ _ _ _ _ _ _ _ _ H K hm hi he hn hp hc hR=>vJ_ H K hm hi (List.getElem?_eq_some_iff.1 he).2 hn hp hc hR,fun q=>o_⟩
theorem vV_:l5_ 18:=⟨fun _ _ q=>o_,fun q=>o_,fun q=>o_,fun _ _ _ _ _ _ _ _ _ _ _ _ _ _ _ _ H K hm hi he hn hp hpe hpl hR=>xf_ H K hm hi (List.getElem?_eq_some_iff.1 he).2 hn hp hpe hpl hR⟩
theorem xi_ {s:USt} {n:Nat} {l:L8} {c:Cm} (h:cl_ s n l=.run c):c=(aR_ l).1:=by
 unfold cl_ at h
 split at h
 ·cases h
 ·split at h
  ·cases h
  ·split at h
   ·cases h
   ·split at h
    ·cases h
    ·injection h with h;exact h.symm
theorem pc_ {s:USt} {st:Wst} (hl:ldN st.seen s.keepf 2=(-1,0,[])):cK_ aF_ s st=(0,mJ_ s,more st 2):=by
 have e:aQ_ aF_ st s.keepf ⟨s.sure,s.at_,s.gen⟩=(8,[],0,⟨true,-1,0⟩,more st 2):=by
  unfold aQ_
  rw[kI_]
  dsimp only
  rw[hl]
  rfl
 unfold cK_ gR_ hL_
 rw[e]
 rfl
theorem vW_ {s:USt} {st:Wst} (hl:ldN st.seen s.keepf 2=(-1,0,[])):ni_ aF_ s st:=fun H hk ho hi he hR=>
 oU_ H hi (List.getElem?_eq_some_iff.1 he).2 hk ho hl fun u ℓ' mv Hu=>by
  have:=hR u ℓ' _ (UA.like.refl _) mv
  rw[pc_ hl] at this
  exact this Hu
open Go CF
section
variable {w u v:World} {N N' S D:Nat→Prop} {pw i n:Nat} {a:UA} {s:USt} {st st':Wst} {F:Int→Bool} {ℓ ℓ':Nat→Option Nat} {us us':List (UA×USt)}
def z6:L8:=List.replicate 6 0
theorem pd_ {R:Sl→W_} (h:∀xs w',ac_ w w'→Own w' w.heap.size ae_ 1 xs (bv z6)→R xs w'):a9_ w R:=by
 refine dT_.calls _ _ ?_
 exact iB_ (n:=6) aN_ bG_ rfl d_ d_ (base:=w.heap.size) (Nat.le_refl _) fun w' hown hg hs=>h _ w' hg hown
theorem vX_ {c:Cm} {out:Sl} {up:O_} {ab:Nat} {R:A_→W_} (hk:c.kind=1) (hR:∀v,ac_ w v→dk_ ab R (rsv 0 sn0 ap_).toArray v):bp_ up (n:Int) (cmv c).toArray out w (dk_ ab R):=by
 refine eJ_.calls _ _ _ _ _ _ (ah_ fun cb w1 hcb hb1 hg1 hs1=>ah_ fun rb w2 hrb hb2 hg2 hs2=>?_)
 have hb1':Blk w2 cb (cmv c).toArray aD_:=hg2.heap hb1 (fun q=>q)
 refine⟨(c.kind:Int),by rw[am_,hb1'.cell];rfl,ao_ (by rw[hk];rfl) ?_⟩
 refine bm_ (st:=0) (s:=sn0) (d:=ap_) hb2 rfl fun w3 hk3=>hR w3 ((hg1.trans hg2).keep hk3 fun i hi q=>by have:=hg1.size;omega)
theorem sf_:aR_ z6=({c0C with kind:=1},sn0,true):=k_
theorem lg_:cW_ (bM_ [] 10496)=some 10496:=k_
theorem do_:hH_ (bM_ [] 10496) = []:=k_
theorem tl_ {st:Wst} {i prot:Nat} {ps:List Nat} (hs:st.seen=fun _=>none):ldN st.seen (ay_ i prot ps).keepf 2=(-1,0,[]):=by
 rw[hs]
 exact qc_ (vn_ _)
theorem sg_ {i:Nat} (hi:i<2):(nmL i).size=1:=by
 have:∀i:Fin 2,(nmL i.val).size=1:=by decide +kernel
 exact this ⟨i,hi⟩
theorem uw_ {i prot:Nat} {ps:List Nat} (hi:i<2):1≤(ay_ i prot ps).keepf.size∧(ay_ i prot ps).keepf.size≤30:=by
 show 1≤(nmL i++eD_).size∧(nmL i++eD_).size≤30
 rw[jJ_,sg_ hi]
 have:eD_.size=2:=d_
 omega
abbrev poS:Sn:=⟨6,10496,0,false,0,0,false,false⟩
def zL_ (s:USt) (n:Nat):USt:=a1_ (aG_ (ak_ s)) n
theorem ys_ {p out:Sl} {ps:List Nat} {k prot:Nat} {R:A_→W_} (H:Sys w ℓ pw st aF_ us) (hi:i<us.length) (hk:k<2) (he:us[i]=(a,ay_ k prot ps)) (hs:st.seen=fun _=>none) (ho:st.ops<1000000) (hn:n<8) (hp:RdX w ℓ 1 p (bv z6))
  (hR:∀u ℓ',Mv w u ℓ ℓ'→Sys u ℓ' pw {st with ops:=st.ops+2} aF_ (us.set i (a,zL_ (ay_ k prot ps) n))→R (rsv 2 poS ap_).toArray u):aM_ (some ⟨a.ub,0,none⟩) (n:Int) p out w R:=by
 refine wN_ H hi he rfl rfl (uw_ hk) o_ (tl_ hs) hn (by show 0<1000000000000;decide) hp fun ℓ1=>?_
 have hq:(aG_ (ak_ (ay_ k prot ps))).q n=bM_ [] 10496:=by
  show(if n<8 then bM_ [] 10496 else [])=_
  rw[if_pos hn]
 have:cl_ (aG_ (ak_ (ay_ k prot ps))) n z6=.told 10496:=by
  unfold cl_
  rw[sf_,hq,lg_]
  rfl
 rw[this]
 exact fun u m Hu=>hR u ℓ1 m Hu
theorem xj_ {p out:Sl} {R:A_→W_} (H:Sys w ℓ pw st F us) (hi:i<us.length) (he:us[i]=(a,s)) (hon:s.on=1) (hfl:s.fault=0) (hn:n<8) (hct:s.count<1000000000000) (hq:s.q n = []) (ht:s.tab.kind=0) (hp:RdX w ℓ 1 p (bv z6))
  (hR:∀u ℓ',Mv w u ℓ ℓ'→Sys u ℓ' pw st F (us.set i (a,ak_ s))→R (rsv 0 sn0 ap_).toArray u):aM_ (some ⟨a.ub,0,none⟩) (n:Int) p out w R:=by
 refine t8_ H hi he hon hfl hn hct hp fun ℓ1=>?_
 have:cl_ (ak_ s) n z6=.run {c0C with kind:=1}:=by
  unfold cl_
  rw[sf_,show(ak_ s).q n = [] from hq]
  have hc:a4_ (ak_ s).tab n (fV_ ({c0C with kind:=1}:Cm).kind)=false:=if_pos (.inl ht)
  show(if a4_ (ak_ s).tab n (fV_ ({c0C with kind:=1}:Cm).kind)=true then qR_.conflict else if (fl_ 1&&(ak_ s).now.swp)=true then .prot else .run _)=_
  rw[hc]
  rfl
 rw[this]
 refine fun u ab m Hu hb hw hn1=>vX_ rfl fun v g=>?_
 exact dk_.sys (Hu.grow g) (m.go g) hw hn1 (g.heap hb (fun q=>q)) rfl fun v' k hm hs=>hR v' ℓ1 hm hs
end
open Go CF
section
variable {w u v:World} {N N' S D:Nat→Prop} {pw i n:Nat} {a:UA} {s:USt} {st st':Wst} {F:Int→Bool} {ℓ ℓ':Nat→Option Nat} {us us':List (UA×USt)}
theorem qs_ {S:W_} {p:O_} {K:Addr→W_} {x:Nat} {sn:Sn} (H:Sys w ℓ pw st F us) (hS:∀v ℓ',Mv w v ℓ ℓ'→S v)
  (hD:∀v xs,ac_ w v→RdX v ℓ 1 xs (bv z6)→∀R:A_→W_,(∀u ℓ',Mv v u ℓ ℓ'→Sys u ℓ' pw st' F us'→R (rsv x sn ap_).toArray u)→aM_ p 0 xs ⟨none,0,0⟩ v R)
  (hK:∀ab u ℓ',Mv w u ℓ ℓ'→Sys u ℓ' pw st' F us'→Blk u ab (rsv x sn ap_).toArray aa_→ℓ' ab=none→w.heap.size≤ab→K ⟨ab,0,none⟩ u) :
  (a9_ w fun xs w05=>S w05∧(aM_ p 0 xs ⟨none,0,0⟩ w05 fun g1 w06=>New (.cells z10 aa_) w06 fun ab w07=>S w07∧ag_ Tryz.prog (storeVar aa_ ab (.agg g1)) w07 fun w08=>K ab w08)∧
   New (.cells z10 aa_) w05 fun ab w07=>S w07∧aM_ p 0 xs ⟨none,0,0⟩ w07 fun g w08=>ag_ Tryz.prog (storeVar aa_ ab (.agg g)) w08 fun w09=>K ab w09)∧
  New (.cells z10 aa_) w fun ab w05=>S w05∧a9_ w05 fun xs w06=>S w06∧aM_ p 0 xs ⟨none,0,0⟩ w06 fun g w07=>ag_ Tryz.prog (storeVar aa_ ab (.agg g)) w07 fun w08=>K ab w08:=by
 have rx:∀{v0 v:World} {xs:Sl},ac_ w v0→Own v v0.heap.size ae_ 1 xs (bv z6)→RdX v ℓ 1 xs (bv z6):=fun {v0 v xs} g ho=>⟨ho.rd (by have:=ho.len;rw[az_] at this;have e:z6.length=6:=rfl;omega),fun _ b hb=>by
  have:=ho.ge b.block (by simp[Sl.blk,hb])
  have:=g.size
  exact⟨o_,H.fresh o_⟩⟩
 have lay:∀{u:World} {ℓ':Nat→Option Nat} {ab:Nat} {cs:A_},Mv w u ℓ ℓ'→Sys u ℓ' pw st' F us'→Blk u ab cs aa_→cs.size=10→ℓ' ab=none→w.heap.size≤ab→ag_ Tryz.prog (storeVar aa_ ⟨ab,0,none⟩ (.agg (rsv x sn ap_).toArray)) u fun w08=>K ⟨ab,0,none⟩ w08:=fun {u ℓ' ab cs} m Hu hb hc hn hw=>
  c5_ hb hc fun u' hb' hk' hs'=>hK ab u' ℓ' (m.loc hk' fun b hb q=>o_) (Hu.local1 hb hn hk' (e3_ d_ d_ d_) d_) hb' hn hw
 refine⟨pd_ fun xs w1 hg1 ho1=>⟨hS _ _ (Mv.grow hg1),?_,?_⟩,?_⟩
 ·refine hD w1 xs hg1 (rx (ab_.refl _ _) ho1) _ fun u ℓ' m Hu=>ah_ fun ab u2 hab hb2 hg2 hs2=>?_
  have m1:=((Mv.grow hg1).trans m)
  exact⟨hS _ _ (m1.go hg2),lay (m1.go hg2) (Hu.grow hg2) hb2 rfl (Hu.fresh o_) (by have:=m1.keep.size;omega)⟩
 ·refine ah_ fun ab w2 hab hb2 hg2 hs2=>⟨hS _ _ (Mv.grow (hg1.trans hg2)),?_⟩
  refine hD w2 xs (hg1.trans hg2) ⟨(rx (ab_.refl _ _) ho1).rd.grow hg2,fun hv b hb=>⟨by have:=((rx (ab_.refl _ _) ho1).out hv b hb).1;have:=hg2.size;omega,((rx (ab_.refl _ _) ho1).out hv b hb).2⟩⟩ _ fun u ℓ' m Hu=>?_
  have hfn:ℓ ab=none:=H.fresh (by have:=hg1.size;omega)
  exact lay ((Mv.grow (hg1.trans hg2)).trans m) Hu (m.heap hb2 hfn) rfl ((m.lab _ (au_ hb2)).trans hfn) (by have:=hg1.size;omega)
 ·refine ah_ fun ab w1 hab hb1 hg1 hs1=>⟨hS _ _ (Mv.grow hg1),pd_ fun xs w2 hg2 ho2=>⟨hS _ _ (Mv.grow (hg1.trans hg2)),?_⟩⟩
  refine hD w2 xs (hg1.trans hg2) (rx hg1 ho2) _ fun u ℓ' m Hu=>?_
  have hfn:ℓ ab=none:=H.fresh o_
  exact lay ((Mv.grow (hg1.trans hg2)).trans m) Hu (m.heap (hg2.heap hb1 (fun q=>q)) hfn) rfl ((m.lab _ (by have:=au_ hb1;have:=hg2.size;omega)).trans hfn) o_
theorem mW_ {R:Bool→W_} (h:∀w',ac_ w w'→R true w'):dH_ w R:=by
 refine dR_.calls _ _ (k6_ fun pw D w1 hg1 hW hD=>?_)
 obtain⟨ℓ,H1,hℓ⟩:=Sys.world0 hW
 have old:∀b,b<w.heap.size→ℓ b=none:=fun b hb=>hℓ b fun q=>by have:=hD b q;omega
 refine oX_ (prot:=0) H1 d_ fun w2 ℓ2 a0 a1 m2 H2=>ah_ fun ub w3 hub hb3 hg3 hs3=>?_
 refine ar_ (cells:=#[.pointer (some ⟨a0.ub,0,none⟩),.pointer (some ⟨a1.ub,0,none⟩)]) hb3 dQ_ rfl rfl (by simp[Value.oneCell']) fun w4 hb4 hk4 hs4=>?_
 have hg24:ac_ w2 w4:=hg3.keep hk4 fun i hi q=>o_
 have H4:=H2.grow hg24
 have hun:ℓ2 ub=none:=H2.fresh o_
 have cu:∀{v:World},Blk v ub #[.pointer (some ⟨a0.ub,0,none⟩),.pointer (some ⟨a1.ub,0,none⟩)] bb_→v.cell? ((⟨ub,0,none⟩:Addr).add ((0:Int).toNat*1))=some (.pointer (some ⟨a0.ub,0,none⟩)):=fun q=>by rw[am_,Blk.cell q];rfl
 refine⟨⟨d_,d_⟩,_,cu hb4,al_ rfl ?_⟩
 rintro w5 rfl
 have hg5:=aq_ w4
 have H5:=H4.grow hg5
 have hb5:Blk w4.drew ub _ bb_:=hg5.heap hb4 (fun q=>q)
 have hgu:∀{u:World} {ℓ':Nat→Option Nat},Mv w4.drew u ℓ2 ℓ'→ac_ w u:=fun m=>hg1.keep ((m2.go (hg24.trans hg5)).trans m).keep fun b hb q=>q (old b hb)
 have cS:∀{v:World} {ℓ':Nat→Option Nat},Mv w4.drew v ℓ2 ℓ'→v.cell? ((⟨ub,0,none⟩:Addr).add ((0:Int).toNat*1))=some (.pointer (some ⟨a0.ub,0,none⟩)):=fun m=>cu (m.heap hb5 hun)
 generalize w4.drew=w5 at *
 refine⟨fun o=>o.cell? ((⟨ub,0,none⟩:Addr).add ((0:Int).toNat*1))=some (.pointer (some ⟨a0.ub,0,none⟩)),cu hb5,⟨d_,d_⟩,_,fun o q=>q,?_⟩
 refine qs_ (x:=2) (sn:=poS) H5 (fun v ℓ' m=>cS m) (fun v xs g hx R hR=>ys_ (i:=0) (k:=0) (n:=0) (prot:=0) (H5.grow g) (by show 0<2;decide) d_ rfl rfl (by show 0<1000000;decide) d_ hx hR) fun ab u ℓ3 m3 H3 hab hna lab=>?_
 rintro w6 rfl
 have hg6:=aq_ u
 have m6:=m3.go hg6
 have H6:=H3.grow hg6
 have hab6:Blk u.drew ab _ aa_:=hg6.heap hab (fun q=>q)
 generalize u.drew=w6 at *
 refine⟨fun o=>o.cell? ((⟨ub,0,none⟩:Addr).add ((0:Int).toNat*1))=some (.pointer (some ⟨a0.ub,0,none⟩)),cS m6,⟨d_,d_⟩,_,fun o q=>q,?_⟩
 refine qs_ (x:=0) (sn:=sn0) H6 (fun v ℓ' m=>cS (m6.trans m)) (fun v xs g hx R hR=>xj_ (i:=0) (n:=0) (H6.grow g) (by show 0<2;decide) rfl rfl rfl d_ (by show 1<1000000000000;decide) do_ rfl hx hR) fun bb u2 ℓ4 m4 H4' hbb hnb lbb=>?_
 rintro w7 rfl
 have hg7:=aq_ u2
 have hab7:Blk u2.drew ab (rsv 2 poS ap_).toArray aa_:=(m4.go hg7).heap hab6 hna
 have hbb7:Blk u2.drew bb (rsv 0 sn0 ap_).toArray aa_:=hg7.heap hbb (fun q=>q)
 have gw7:=hgu ((m6.trans m4).go hg7)
 generalize u2.drew=w7 at *
 refine⟨fun o=>Blk o ab (rsv 2 poS ap_).toArray aa_∧Blk o bb (rsv 0 sn0 ap_).toArray aa_,⟨hab7,hbb7⟩,(rsv 2 poS ap_).toArray,fun o q=>kh_ (ax_ q.1),?_⟩
 refine sC_ (key:=6) (code:=10496) fun w8 hg8=>?_
 have st8:∀{o:World},ac_ w7 o→Blk o ab (rsv 2 poS ap_).toArray aa_∧Blk o bb (rsv 0 sn0 ap_).toArray aa_:=fun g=>⟨g.heap hab7 (fun q=>q),g.heap hbb7 (fun q=>q)⟩
 refine⟨st8 hg8,nB_ (hV_ _) (hV_ _) fun w9 hg9=>?_⟩
 have hs9:=st8 (hg8.trans hg9)
 refine⟨hs9,fun o=>Blk o ab (rsv 2 poS ap_).toArray aa_∧Blk o bb (rsv 0 sn0 ap_).toArray aa_,hs9,fun _ q=>q,(rsv 0 sn0 ap_).toArray,fun _ o q=>kh_ (ax_ q.2),fun o=>Blk o ab (rsv 2 poS ap_).toArray aa_∧Blk o bb (rsv 0 sn0 ap_).toArray aa_,hs9,fun _ q=>q,?_⟩
 refine ci_ (fun(b2:Bool) o=>b2=true∧ac_ w9 o) ?_ (fun J=>⟨fun _=>nB_ (sn:=sn0) (d2:=ap_) (hV_ _) (hV_ _) fun w10 hg10=>J _ _ ⟨rfl,hg10⟩,fun q=>by cases q⟩)
 rintro b2 o ⟨rfl,hgo⟩
 exact h o (((gw7.trans hg8).trans hg9).trans hgo)
end
open Go CF
theorem pe_ {us:List (UA×USt)} {k:Nat} (h:k<us.length) (h':k<(pub us).length):(pub us)[k]=(us[k].1.ub,us[k].2):=(List.getElem?_eq_some_iff.1 (hb_ h)).2
section
variable {w u v:World} {N N' S:Nat→Prop} {pw i n m:Nat} {a:UA} {s s1:USt} {st st1:Wst} {F:Int→Bool} {ℓ ℓ':Nat→Option Nat} {us:List (UA×USt)} {p out:Sl} {l lo:L8} {c:Cm} {R:A_→W_} {P P':Pu}
structure Tw (w v:World) (ℓ:Nat→Option Nat) (pw:Nat) (F:Int→Bool) (P:Pu) (st:Wst) (m:Nat):Prop where
 ex:∃us,Sys v ℓ pw st F us∧SOk st us m∧pub us=P
 grow:ac_ w v
 old:∀b,b<w.heap.size→ℓ b=none
 peers:∀x∈P,x.2.peers.length≤100∧∀b∈x.2.peers,∃y∈P,y.1=b
 count:∀x∈P,x.2.count≤m
theorem Tw.go (h:Tw w v ℓ pw F P st m) (g:ac_ v u):Tw w u ℓ pw F P st m:=by
 obtain⟨us,h1,h2,h3⟩:=h.ex
 exact⟨⟨us,h1.grow g,h2,h3⟩,h.grow.trans g,h.old,h.peers,h.count⟩
theorem Tw.mono {m':Nat} (h:Tw w v ℓ pw F P st m) (hm:m≤m'):Tw w v ℓ pw F P st m':=by
 obtain⟨us,h1,h2,h3⟩:=h.ex
 exact⟨⟨us,h1,h2.mono hm,h3⟩,h.grow,h.old,h.peers,fun x hx=>Nat.le_trans (h.count x hx) hm⟩
theorem Tw.fresh (h:Tw w v ℓ pw F P st m) {b:Nat} (hb:v.heap.size≤b):ℓ b=none:=by
 obtain⟨us,h1,_,_⟩:=h.ex
 exact h1.fresh hb
theorem Tw.row (h:Tw w v ℓ pw F P st m) {w0:World} {x:Sl} {l:L8} (ho:LR v ℓ w0.heap.size ae_ 1 x (bv l)) (hl:l.length≤1000000):RdX v ℓ 1 x (bv l):=by
 have hn:=gK_ ho.own
 refine⟨ho.own.rd o_,fun _ a ha=>?_⟩
 have hb:x.blk=some a.block:=by unfold Sl.blk;rw[ha];rfl
 exact⟨(ho.own.ge _ hb).2,ho.no _ hb⟩
theorem Tw.rowNil (_:Tw w v ℓ pw F P st m):RdX v ℓ 1 ap_ (bv []):=⟨hV_ v,fun _ _ ha=>by cases ha⟩
theorem Tw.arg (h:Tw w v ℓ pw F P st m) {x:Sl} {l:L8} (hx:Rd w 1 x (bv l)):RdX v ℓ 1 x (bv l):=
 ⟨hx.grow h.grow,fun hv a ha=>by
  obtain⟨b,hb,hc⟩:=hx.at_ hv
  rw[ha] at hb
  injection hb with hb
  subst hb
  have hlt:a.block<w.heap.size:=by
   generalize bv l=vs at *
   cases vs with
   | nil=>exact absurd rfl hv
   | cons y r=>have:=m1_ (hc 0 y rfl);rwa [jZ_] at this
  exact⟨by have:=h.grow.size;omega,h.old _ hlt⟩⟩
theorem Mv.tw (h:Tw w v ℓ pw F P st m) (mv:Mv v u ℓ ℓ'):ac_ w u∧∀b,b<w.heap.size→ℓ' b=none:=by
 have sz:=h.grow.size
 refine⟨h.grow.keep mv.keep fun b hb q=>q (h.old b hb),fun b hb=>?_⟩
 rw[mv.lab b o_];exact h.old b hb
theorem Tw.dos {x:Nat×USt} (hL:x.2.on≠1→ni_ F {ak_ x.2 with lock:=1} st) (hN:∀c,(aA_ F (ak_ x.2) st).1=0→cl_ (aA_ F (ak_ x.2) st).2.1 n l=.run c→l5_ c.kind) (h:Tw w v ℓ pw F P st m) (hm:m≤100000000) (hi:i<P.length) (he:P[i]=x) (hn:n<8) (hp:RdX v ℓ 1 p (bv l)) (ho:RdX v ℓ 1 out (bv lo)) (hb:out.n≤140737488351232)
  (hR:∀v' ℓ' d,Mv v v' ℓ ℓ'→Tw w v' ℓ' pw F (aT_ F P st i n l lo).2.1 (aT_ F P st i n l lo).2.2 (m+200002)→Dat v v' ℓ' d (aT_ F P st i n l lo).1.d→(aT_ F P st i n l lo).2.1.length=P.length→(∀k (h:k<P.length) (h':k<(aT_ F P st i n l lo).2.1.length),(aT_ F P st i n l lo).2.1[k].1=P[k].1∧(aT_ F P st i n l lo).2.1[k].2.count=P[k].2.count+if k=i then 1 else 0)→R (rsv (aT_ F P st i n l lo).1.st (aT_ F P st i n l lo).1.sn d).toArray v'):aM_ (some ⟨x.1,0,none⟩) (n:Int) p out v R:=by
 obtain⟨us,H,K,rfl⟩:=h.ex
 have hlen:(pub us).length=us.length:=by unfold pub;rw[List.length_map]
 have hiu:i<us.length:=o_
 have ex:x=(us[i].1.ub,us[i].2):=by rw[←he,pe_ hiu]
 subst ex
 have hmem:∀k (hk:k<us.length),(us[k].1.ub,us[k].2)∈pub us:=fun k hk=>List.mem_map.2 ⟨us[k],List.getElem_mem hk,rfl⟩
 have hpe:=h.peers _ (hmem i hiu)
 have hct:=h.count _ (hmem i hiu)
 have gp:∀{us:List (UA×USt)} {k:Nat} (h:k<us.length) (h':k<(pub us).length),(pub us)[k]=(us[k].1.ub,us[k].2):=fun {us k} h h'=>pe_ h h'
 refine xh_ (a:=us[i].1) (s:=us[i].2) hL hN H K hm hiu rfl hn (by dsimp only at hct;omega) hp ho hb (fun b hb2=>?_) hpe.1 fun v' ℓ' d us' mv Hv Kv hl hlk hpub dt=>?_
 ·obtain⟨y,hy,rfl⟩:=hpe.2 b hb2
  obtain⟨z,hz,rfl⟩:=List.mem_map.1 hy
  obtain⟨j,hj,rfl⟩:=List.getElem_of_mem hz
  exact⟨j,hj,rfl⟩
 ·obtain⟨g1,g2⟩:=Mv.tw h mv
  rw[←hpub] at hR
  have hlen':(pub us').length=us'.length:=by unfold pub;rw[List.length_map]
  refine hR v' ℓ' d mv ⟨⟨us',Hv,Kv,rfl⟩,g1,g2,fun y hy=>?_,fun y hy=>?_⟩ dt o_ fun k h1 h2=>?_
  ·obtain⟨z,hz,rfl⟩:=List.mem_map.1 hy
   obtain⟨k,hk,rfl⟩:=List.getElem_of_mem hz
   obtain⟨_,q2,_⟩:=hlk k o_ hk
   have:=h.peers _ (hmem k o_)
   dsimp only at this ⊢
   rw[q2]
   refine⟨this.1,fun b hb=>?_⟩
   obtain⟨y,hy,rfl⟩:=this.2 b hb
   obtain⟨z,hz,rfl⟩:=List.mem_map.1 hy
   obtain⟨j,hj,rfl⟩:=List.getElem_of_mem hz
   have hj':j<us'.length:=o_
   exact⟨(us'[j].1.ub,us'[j].2),List.mem_map.2 ⟨us'[j],List.getElem_mem hj',rfl⟩,(hlk j hj hj').1.ub⟩
  ·obtain⟨z,hz,rfl⟩:=List.mem_map.1 hy
   obtain⟨k,hk,rfl⟩:=List.getElem_of_mem hz
   obtain⟨_,_,q3⟩:=hlk k o_ hk
   have:=h.count _ (hmem k o_)
   dsimp only at this ⊢
   rw[q3]
   split<;>omega
  ·have k1:k<us.length:=o_
   have k2:k<us'.length:=o_
   rw[gp k1 h1,gp k2 h2]
   exact⟨(hlk k k1 k2).1.ub,(hlk k k1 k2).2.2⟩
def zZ_ (b0 b1 prot:Nat):Pu:=[(b0,ay_ 0 prot [b1]),(b1,ay_ 1 prot [b0])]
end
open Go CF
section
variable {w u v:World} {N N' S D:Nat→Prop} {pw i n m:Nat} {a:UA} {s s1:USt} {st st1:Wst} {F:Int→Bool} {ℓ ℓ':Nat→Option Nat} {us:List (UA×USt)} {p out:Sl} {l lo:L8} {c:Cm} {P P':Pu}
theorem sh_ {k prot:Nat} {ps:List Nat} (hk:k<2) (hpr:prot≤3) (hg:Good (bC_ st (nmL k++dG_))):UOk st (ay_ k prot ps):=by
 have:=sg_ hk
 exact⟨⟨by show 1≤24;decide,by show 24≤4096;decide⟩,qf_ hk hpr,⟨nmL k,o_,o_,rfl,rfl⟩,hg,.inr ⟨rfl,rfl⟩⟩
theorem Tw.units {prot:Nat} {R:A_→W_} (H:Sys v ℓ pw st F []) (g:ac_ w v) (old:∀b,b<w.heap.size→ℓ b=none) (hpr:prot≤3) (hok:Wok st) (few:st.ops≤m∧st.waits.length≤m) (hg:∀k,k<2→Good (bC_ st (nmL k++dG_)))
  (hR:∀u ℓ' b0 b1,Mv v u ℓ ℓ'→Tw w u ℓ' pw F (zZ_ b0 b1 prot) st m→R #[.pointer (some ⟨b0,0,none⟩),.pointer (some ⟨b1,0,none⟩)] u):cL_ (some ⟨pw,0,none⟩) (prot:Int) v R:=by
 refine oX_ H hpr fun u ℓ' a0 a1 mv Hu=>?_
 have sz:=g.size
 refine hR u ℓ' a0.ub a1.ub mv ⟨⟨_,Hu,⟨hok,few,fun x hx=>?_⟩,rfl⟩,g.keep mv.keep fun b hb q=>q (old b hb),fun b hb=>?_,fun x hx=>?_,fun x hx=>?_⟩
 ·rcases List.mem_cons.1 hx with r|r
  ·rw[r];exact sh_ d_ hpr (hg 0 d_)
  ·rw[List.mem_singleton.1 r];exact sh_ d_ hpr (hg 1 d_)
 ·rw[mv.lab b o_];exact old b hb
 ·rcases List.mem_cons.1 hx with r|r
  ·rw[r];exact⟨by show 1≤100;decide,fun b hb=>⟨(a1.ub,ay_ 1 prot [a0.ub]),List.mem_cons_of_mem _ (List.mem_singleton.2 rfl),(List.mem_singleton.1 hb).symm⟩⟩
  ·rw[List.mem_singleton.1 r];exact⟨by show 1≤100;decide,fun b hb=>⟨(a0.ub,ay_ 0 prot [a1.ub]),List.mem_cons_self,(List.mem_singleton.1 hb).symm⟩⟩
 ·rcases List.mem_cons.1 hx with r|r
  ·rw[r];exact Nat.zero_le _
  ·rw[List.mem_singleton.1 r];exact Nat.zero_le _
end
open Go CF
def ux_ (F:Int→Bool) (P:Pu) (st:Wst) (i n:Nat) (l:L8):Prop:=∀x,P[i]?=some x→(x.2.on≠1→ni_ F {ak_ x.2 with lock:=1} st)∧∀c,(aA_ F (ak_ x.2) st).1=0→cl_ (aA_ F (ak_ x.2) st).2.1 n l=.run c→l5_ c.kind
def Sh (i:Nat) (P P':Pu):Prop:=P'.length=P.length∧∀k x,P[k]?=some x→∃s',P'[k]?=some (x.1,s')∧s'.count=x.2.count+if k=i then 1 else 0
def ga_ (F:Int→Bool) (i n:Nat) (l lo:L8):Nat→Pu→Wst→RsX×Pu×Wst
 | 0,P,st=>aT_ F P st i n l lo
 | k+1,P,st=>if (aT_ F P st i n l lo).1.sn.key=6 then ga_ F i n l lo k (aT_ F P st i n l lo).2.1 (aT_ F P st i n l lo).2.2 else aT_ F P st i n l lo
section
variable {w u v v0:World} {N N' S D:Nat→Prop} {pw i n m:Nat} {st st1:Wst} {F:Int→Bool} {ℓ ℓ':Nat→Option Nat} {p out:Sl} {l lo:L8} {P P':Pu}
theorem Tw.dosN {x:Nat×USt} {R:A_→W_} (N:ux_ F P st i n l) (h:Tw w v ℓ pw F P st m) (hm:m≤100000000) (he:P[i]?=some x) (hn:n<8) (hp:RdX v ℓ 1 p (bv l)) (ho:RdX v ℓ 1 out (bv lo)) (hb:out.n≤140737488351232)
  (hR:∀v' ℓ' d,Mv v v' ℓ ℓ'→Tw w v' ℓ' pw F (aT_ F P st i n l lo).2.1 (aT_ F P st i n l lo).2.2 (m+200002)→Dat v v' ℓ' d (aT_ F P st i n l lo).1.d→Sh i P (aT_ F P st i n l lo).2.1→R (rsv (aT_ F P st i n l lo).1.st (aT_ F P st i n l lo).1.sn d).toArray v'):aM_ (some ⟨x.1,0,none⟩) (n:Int) p out v R:=by
 obtain⟨hi,hx⟩:=List.getElem?_eq_some_iff.1 he
 obtain⟨n1,n2⟩:=N x he
 refine Tw.dos n1 n2 h hm hi hx hn hp ho hb fun v' ℓ' d mv T dt hl hk=>hR v' ℓ' d mv T dt ⟨hl,fun k y hy=>?_⟩
 obtain⟨h1,h2⟩:=List.getElem?_eq_some_iff.1 hy
 have h3:k<(aT_ F P st i n l lo).2.1.length:=o_
 obtain⟨q1,q2⟩:=hk k h1 h3
 rw[h2] at q1 q2
 exact⟨(aT_ F P st i n l lo).2.1[k].2,List.getElem?_eq_some_iff.2 ⟨h3,Prod.ext q1 rfl⟩,q2⟩
theorem Tw.local1 {b:Nat} {cs:A_} {t:TypeId} (h:Tw w v ℓ pw F P st m) (hb:Blk v b cs t) (hn:ℓ b=none) (k:ab_ (fun k=>k=b) v u) (ht:¬kL_ t) (ht2:t≠ae_) (hw:w.heap.size≤b):Tw w u ℓ pw F P st m:=by
 obtain⟨us,q1,q2,q3⟩:=h.ex
 exact⟨⟨us,q1.local1 hb hn k ht ht2,q2,q3⟩,h.grow.keep k fun b' hb' q=>o_,h.old,h.peers,h.count⟩
theorem Tw.res1 {b:Nat} {cs:A_} (h:Tw w v ℓ pw F P st m) (hb:LB v ℓ b cs aa_) (k:ab_ (fun k=>k=b) v u) (hw:w.heap.size≤b):Tw w u ℓ pw F P st m:=h.local1 hb.blk hb.no k (e3_ d_ d_ d_) d_ hw
theorem Dat.loc {b:Nat} {cs:A_} {t:TypeId} {d:Sl} (h:Dat v0 v ℓ d l) (hb:Blk v b cs t) (ht:t≠ae_) (k:ab_ (fun k=>k=b) v u):Dat v0 u ℓ d l:=
 ⟨h.1.keep k fun x hx q=>bd_ h.1 hb ht (by rw[hx,q]),h.2⟩
theorem Dat.go {d:Sl} (h:Dat v0 v ℓ d l) (g:ac_ v u):Dat v0 u ℓ d l:=⟨h.1.grow g,h.2⟩
theorem Tw.does {b:Nat} {R:A_→W_} (I:Pu→Wst→Prop) (hN:∀P st,I P st→ux_ F P st i n l∧((aT_ F P st i n l lo).1.sn.key=6→I (aT_ F P st i n l lo).2.1 (aT_ F P st i n l lo).2.2)) (hI:I P st) (h:Tw w v ℓ pw F P st m) (hm:m≤90000000) (he:∃s,P[i]?=some (b,s)) (hn:n<8) (hp:RdX v ℓ 1 p (bv l)) (ho:RdX v ℓ 1 out (bv lo)) (hb:out.n≤140737488351232)
  {Y:RsX×Pu×Wst} (hY:ga_ F i n l lo 9 P st=Y) (hR:∀v' ℓ' d,Mv v v' ℓ ℓ'→Tw w v' ℓ' pw F Y.2.1 Y.2.2 (m+2000020)→Dat v v' ℓ' d Y.1.d→(∃s,Y.2.1[i]?=some (b,s))→R (rsv Y.1.st Y.1.sn d).toArray v'):aV_ (some ⟨b,0,none⟩) (n:Int) p out v R:=by
 refine em_.calls _ _ _ _ _ _ (ah_ fun ab w1 hab hb1 hg1 hs1=>?_)
 have T1:=h.go hg1
 have nab:ℓ ab=none:=h.fresh o_
 have wab:w.heap.size≤ab:=by have:=h.grow.size;omega
 obtain⟨s0,he⟩:=he
 have mr:=Mv.grow (ℓ:=ℓ) hg1
 obtain⟨N0,I0⟩:=hN P st hI
 refine Tw.dosN (x:=(b,s0)) N0 T1 o_ he hn (mr.rdX hp) (mr.rdX ho) hb fun v2 ℓ2 d mv T2 dt sh=>?_
 refine lf_ fun rb v3 hrb g3 hbr=>?_
 have nrb:ℓ2 rb=none:=T2.fresh o_
 have s12:=mv.keep.size
 refine⟨fun x y=>∃(j:Nat) (X:RsX×Pu×Wst) (ℓ':Nat→Option Nat) (d:Sl),x=j∧j≤9∧Mv v y ℓ ℓ'∧Tw w y ℓ' pw F X.2.1 X.2.2 (m+(j+1)*200002)∧Dat v y ℓ' d X.1.d∧LB y ℓ' rb (rsv X.1.st X.1.sn d).toArray aa_∧LB y ℓ' ab z10 aa_∧(∃s,X.2.1[i]?=some (b,s))∧(X.1.sn.key=6→I X.2.1 X.2.2)∧ga_ F i n l lo 9 P st=if X.1.sn.key=6∧j<9 then ga_ F i n l lo (8-j) X.2.1 X.2.2 else X,fun x _=>9-x.toNat,?_,?_⟩
 ·obtain⟨s1,e1,_⟩:=sh.2 i _ he
  refine⟨0,aT_ F P st i n l lo,ℓ2,d,rfl,d_,(mr.trans mv).go g3,(T2.go g3).mono o_,(dt.from hg1.size).go g3,⟨hbr,nrb⟩,⟨(mv.heap hb1 nab |> fun q=>g3.heap q (fun q=>q)),(mv.lab _ (au_ hb1)).trans nab⟩,⟨s1,e1⟩,I0,?_⟩
  show(if (aT_ F P st i n l lo).1.sn.key=6 then _ else _)=_
  by_cases q:(aT_ F P st i n l lo).1.sn.key=6
  ·rw[if_pos q,if_pos ⟨q,d_⟩]
  ·rw[if_neg q,if_neg (fun z=>q z.1)]
 rintro x y ⟨j,X,ℓy,dy,rfl,hj,my,Ty,dty,br,ba,⟨sy,ey⟩,IX,eX⟩
 refine⟨(X.1.sn.key:Int),fun _=>by rw[am_,am_,Blk.cell br.blk];rfl,?_⟩
 by_cases q:X.1.sn.key=6∧j<9
 ·rw[if_pos q] at eX
  refine ao_ (by rw[Bool.and_eq_true,decide_eq_true_eq,beq_iff_eq];omega) ?_
  obtain⟨Ny,Iy⟩:=hN _ _ (IX q.1)
  refine Tw.dosN (x:=(b,sy)) Ny Ty o_ ey hn (my.rdX hp) (my.rdX ho) hb fun z ℓz dz mz Tz dtz shz=>?_
  have brz:=br.mv mz
  refine c5_ brz.blk rfl fun z2 hbz hkz hsz=>?_
  rw[w64 o_ o_]
  obtain⟨s1,e1,_⟩:=shz.2 i _ ey
  have wrb:w.heap.size≤rb:=by have:=T2.grow.size;omega
  have ne:ab≠rb:=by have:=au_ hb1;omega
  refine⟨⟨j+1,aT_ F X.2.1 X.2.2 i n l lo,ℓz,dz,o_,o_,?_,(Tz.res1 brz hkz wrb).mono (by rw[Nat.succ_mul];omega),?_,⟨hbz,brz.no⟩,?_,⟨s1,e1⟩,Iy,?_⟩,by dsimp only;omega⟩
  ·exact(my.trans mz).loc hkz fun b hb q=>o_
  ·exact(dtz.from my.keep.size).loc brz.blk d_ hkz
  ·exact⟨hkz.heap (ba.mv mz).blk ne,(ba.mv mz).no⟩
  ·rw[eX]
   have:8-j=(8-(j+1))+1∨(j=8∧8-j=0):=o_
   rcases this with r|⟨r,r2⟩
   ·rw[r]
    show(if (aT_ F X.2.1 X.2.2 i n l lo).1.sn.key=6 then _ else _)=_
    by_cases q3:(aT_ F X.2.1 X.2.2 i n l lo).1.sn.key=6
    ·rw[if_pos q3,if_pos ⟨q3,o_⟩]
    ·rw[if_neg q3,if_neg (fun z=>q3 z.1)]
   ·rw[r2,if_neg o_]
    rfl
 ·rw[if_neg q] at eX
  refine al_ (by rw[Bool.and_eq_false_iff,decide_eq_false_iff_not,beq_eq_false_iff_ne];omega) ⟨_,kh_ (ax_ br.blk),?_⟩
  rw[hY] at eX
  subst eX
  refine bm_ ba.blk rfl fun z hk=>hR z ℓy dy (my.loc hk fun b hb q=>o_) ((Ty.res1 ba hk wab).mono o_) (dty.loc ba.blk d_ hk) ⟨sy,ey⟩
end
open Go CF
section
variable {w u v:World}
end
open Go CF
section
variable {H:Type} {enc:TypeId×Value→H} {w:World} {base:Nat} {spare:Nat→Bool} {held:Bool}
end
open Go CF
section
variable {w u v:World} {pw n m:Nat} {ℓ ℓ':Nat→Option Nat} {P:Pu} {st:Wst}
abbrev stN:Wst:=⟨fun _=>none,fun _=>none,[],0⟩
theorem si_ {F:Int→Bool} {s:USt} {st:Wst} (h:s.on=1):aA_ F s st=(s.fault,s,st):=by unfold aA_;rw[if_pos h]
end
open Go CF
section
variable {F:Int→Bool} {b0 n:Nat} {s S:USt} {st st':Wst} {r:Pu} {l out:L8} {c:Cm}
theorem dw_ (h:s.on=1) (hf:s.fault=0):aA_ F (ak_ s) st=(0,ak_ s,st):=by
 rw[si_ (show(ak_ s).on=1 from h)]
 show(s.fault,_,_)=_
 rw[hf]
end
open Go CF
section
variable {w u v z:World} {pw n m b0 b1:Nat} {ℓ ℓ':Nat→Option Nat} {P:Pu} {st:Wst} {s:USt} {r:Pu} {F:Int→Bool}
theorem Tw.rowN {x:Sl} {l:L8} (T:Tw w z ℓ pw F P st m) (g:ac_ z v) (ho:CF.Own v z.heap.size ae_ 1 x (bv l)) (hl:l.length≤1000000):RdX v ℓ 1 x (bv l):=
 (T.go g).row (w0:=z) ⟨ho,fun _ hb=>T.fresh (ho.ge _ hb).1⟩ hl
theorem Tw.lit {l:L8} {k:Nat} {parts:Array (Nat×Value)} {K:Sl→W_} (T:Tw w v ℓ pw F P st m) (hl:(Instr.buildSlice aE_ k parts).run Tryz.prog v=.ok (.slice (some ⟨v.heap.size,0,none⟩) k k) (v.alloc (.cells (bv l).toArray ae_))) (hk:l.length=k) (hk2:k≤1000000)
  (h:∀xs u,ac_ v u→Tw w u ℓ pw F P st m→RdX u ℓ 1 xs (bv l)→K xs u):ai_ Tryz.prog .sl (Instr.buildSlice aE_ k parts) v K:=
 aH_ (cells:=(bv l).toArray) (e:=ae_) (z:=1) (base:=v.heap.size) hl (by rw[List.size_toArray,az_,hk,Nat.mul_one]) o_ (Nat.le_refl _) fun u o g _=>h _ u g (T.go g) (T.rowN g o o_)
end
open Go CF
section
variable {n:Nat} {c:Cm} {file:ByteArray} {st:Wst} {l:L8} {cache:Bool}
theorem zM_ (lba:Nat) (b:Bk):c3_ 0 0 lba b=0:=by unfold c3_;rw[if_pos (.inl rfl)]
theorem zh_ (lba:Nat) (L:List Bk):oH_ 0 0 lba L=none:=lS_ fun i _=>zM_ _ _
theorem xG_ (hk:c.kind=7) (hp:c.prot=0) (hb:c.blocks=1) (h:c.lba+1≤n):doX aF_ 0 n cache file st c l=(okX (b5_ (bC_ st file) c.lba).d,more st 1):=by
 unfold doX
 rw[hp,if_neg d_,if_neg o_,if_pos hk]
 have e:((cv_ st file 0 n).drop c.lba).take c.blocks = [b5_ (bC_ st file) c.lba]:=by
  rw[hb]
  unfold cv_
  have:(((List.range n).map fun i=>b5_ ((st.seen file).getD []) (0+i)).drop c.lba).take 1 = [b5_ ((st.seen file).getD []) c.lba]:=by
   rw[List.drop_eq_getElem_cons (by simp;omega)]
   simp
  exact this
 unfold hE_
 rw[e,kI_,zh_]
 dsimp only
 rw[hb]
 show(okX (cT_ false [b5_ (bC_ st file) c.lba]),more st 1)=_
 unfold cT_ ii_
 simp
def bk1 (lba:Nat) (l:L8):Bk:=mk1 0 lba (unB false l)
theorem vY_ (hk:c.kind=8) (hp:c.prot=0) (hf:c.fua=false) (hb:c.blocks=1) (hl:l.length=16) (h:c.lba+1≤n):doX aF_ 0 n true file st c l=(okX [],b0_ st file (25*c.lba) (bt_ (bk1 c.lba l))):=by
 unfold doX
 rw[hp,if_neg d_,if_neg o_,if_neg o_,if_pos (.inl hk),hf,hk]
 have e:kl_ 0 c l 1=.ok [bk1 c.lba l]:=by
  unfold kl_
  rw[hp]
  show(if l.length%16≠0∨l.length/16≠1 then _ else if 0=0 then _ else _)=_
  rw[hl,if_neg d_,if_pos rfl]
  unfold cd_
  show Except.ok (dA_ 0 c.lba ((List.range (l.length/16)).map fun i=>unB false ((l.drop (i*16)).take 16)) 1)=_
  rw[hl]
  show Except.ok ([unB false ((l.drop (0*16)).take 16)].set 0 (mk1 0 (c.lba+0) ([unB false ((l.drop (0*16)).take 16)].getD 0 cN_)))=_
  rw[Nat.zero_mul,List.drop_zero,List.take_of_length_le o_]
  rfl
 rw[hb,e]
 dsimp only
 unfold db_ iC_ mF_
 rw[kI_]
 rfl
theorem xH_ {lba:Nat} (hl:l.length=16):(bk1 lba l).d=l:=wu_ hl
end
open Go CF
section
variable {F:Int→Bool} {b i n:Nat} {s S:USt} {st st':Wst} {P:Pu} {l lo:L8} {c:Cm}
theorem vZ_ (h:P[i]?=some (b,s)) (hs:aA_ F (ak_ s) st=(0,S,st')):aT_ F P st i n l lo=match cl_ S n l with
  | .bad sn=>(snX sn,P.set i (b,S),st')
  | .told c=>(snX (uaS c),P.set i (b,a1_ S n),st')
  | .conflict=>(⟨24,sn0,[]⟩,P.set i (b,S),st')
  | .prot=>(snX zg_,P.set i (b,S),st')
  | .run c=>kP_ F (P.set i (b,S)) st' i n c lo:=by
 unfold aT_
 rw[h]
 dsimp only
 rw[hs,if_neg (fun q=>q rfl)]<;>(dsimp only;cases cl_ S n l<;>rfl)
theorem gb_ {k:Nat} (h:(aT_ F P st i n l lo).1.sn.key≠6):ga_ F i n l lo k P st=aT_ F P st i n l lo:=by
 cases k with
 | zero=>rfl
 | succ k=>exact if_neg h
theorem v0_ {code:Nat} (h:P[i]?=some (b,s)) (hs:aA_ F (ak_ s) st=(0,S,st')) (hp:(aR_ l).2.2=true) (hf:f9_ (aR_ l).1.kind=false) (hc:cW_ (S.q n)=some code):aT_ F P st i n l lo=(snX (uaS code),P.set i (b,a1_ S n),st'):=by
 rw[vZ_ h hs]
 unfold cl_
 rw[hp,if_neg Bool.noConfusion,hc,hf]
theorem l6_ {code k:Nat} (h:P[i]?=some (b,s)) (hs:aA_ F (ak_ s) st=(0,S,st')) (hp:(aR_ l).2.2=true) (hf:f9_ (aR_ l).1.kind=false) (hc:cW_ (S.q n)=some code):ga_ F i n l lo (k+1) P st=ga_ F i n l lo k (P.set i (b,a1_ S n)) st':=by
 have e:=v0_ (lo:=lo) h hs hp hf hc
 show(if (aT_ F P st i n l lo).1.sn.key=6 then _ else _)=_
 rw[e,if_pos (show(snX (uaS code)).sn.key=6 from rfl)]
theorem qX_ (h:P[i]?=some (b,s)) (hs:aA_ F (ak_ s) st=(0,S,st')) (hp:(aR_ l).2.2=true) (hc:S.q n = []) (hk:a4_ S.tab n (fV_ (aR_ l).1.kind)=false) (hw:S.now.swp=false):aT_ F P st i n l lo=kP_ F (P.set i (b,S)) st' i n (aR_ l).1 lo:=by
 rw[vZ_ h hs]
 unfold cl_
 rw[hp,if_neg Bool.noConfusion,hc,hk,hw,Bool.and_false]
 cases f9_ (aR_ l).1.kind<;>rfl
theorem xk_ (h:P[i]?=some (b,s)) (hk:c.kind=16):kP_ F P st i n c lo=((hY_ F s st n c lo).x,P.set i (b,(hY_ F s st n c lo).s),(hY_ F s st n c lo).w):=by
 unfold kP_
 rw[if_neg o_,h]
 dsimp only
 rw[if_neg o_,if_pos hk]
theorem qt_ (h:P[i]?=some (b,s)) (h18:c.kind≠18) (h4:c.kind≠4) (h16:c.kind≠16):kP_ F P st i n c lo=((hX_ F s st n c lo).x,P.set i (b,(hX_ F s st n c lo).s),(hX_ F s st n c lo).w):=by
 unfold kP_
 rw[if_neg h18,h]
 dsimp only
 rw[if_neg h4,if_neg h16]
def g2_ (sv kind:Nat):L8:=[0x5f,UInt8.ofNat sv,UInt8.ofNat kind,0,0,0,0,0,24,0]
def gl_ (key action:Nat) (lasts:Bool):L8:=beN 8 key++beN 8 action++[0,0,0,0,if lasts then 1 else 0,0,0,0]
theorem jS_ (key action:Nat) (lasts:Bool):(gl_ key action lasts).length=24:=by unfold gl_;simp[bH_]
theorem qu_ (r m:L8):∀(a:L8) (i:Nat),gi_ (a++r) (List.replicate a.length 255++m) i=gi_ r m (i+a.length)
 | [],i=>rfl
 | x::a,i=>by
  have e:hW_ (x &&& ~~~(255:UInt8)).toNat 8=none:=by
   rw[show x &&& ~~~(255:UInt8)=0 by rw[show ~~~(255:UInt8)=0 by decide];exact UInt8.and_zero]
   decide
  show(match hW_ (x &&& ~~~(((255:UInt8)::(List.replicate a.length 255++m)).getD 0 0)).toNat 8 with|some k=>some (i,k)|none=>gi_ (a++r) (List.replicate a.length 255++m) (i+1))=_
  rw[show((255:UInt8)::(List.replicate a.length 255++m)).getD 0 0=255 from rfl,e]
  dsimp only
  rw[qu_ r m a (i+1),List.length_cons]
  congr 1
  omega
theorem xl_ (key action:Nat) (lasts:Bool):gi_ (gl_ key action lasts) o3_ 0=none:=by
 have h:(beN 8 key++beN 8 action).length=16:=by simp[bH_]
 have:=qu_ [0,0,0,0,if lasts then 1 else 0,0,0,0] [0,0,0,0,1] (beN 8 key++beN 8 action) 0
 rw[h] at this
 unfold gl_ o3_
 rw[this]
 cases lasts<;>decide
theorem xm_ {key action:Nat} {lasts:Bool} (hk:key<18446744073709551616) (ha:action<18446744073709551616):fo_ c (gl_ key action lasts)=⟨c.service,c.type,key,action,lasts⟩:=by
 have l1:(beN 8 key).length=8:=bH_ _ _
 have l2:(beN 8 action).length=8:=bH_ _ _
 unfold fo_ gl_
 have e1:((beN 8 key++beN 8 action++[0,0,0,0,if lasts then 1 else 0,0,0,0]).drop 0).take 8=beN 8 key:=by
  rw[List.drop_zero,List.append_assoc,List.take_append_of_le_length o_,List.take_of_length_le o_]
 have e2:((beN 8 key++beN 8 action++[0,0,0,0,if lasts then 1 else 0,0,0,0]).drop 8).take 8=beN 8 action:=by
  rw[List.append_assoc,List.drop_append_of_le_length o_,List.drop_of_length_le o_,List.nil_append,List.take_append_of_le_length o_,List.take_of_length_le o_]
 have e3:(beN 8 key++beN 8 action++[0,0,0,0,if lasts then 1 else 0,0,0,0]).getD 20 0=if lasts then 1 else 0:=by
  rw[List.getD_eq_getElem?_getD,List.getElem?_append_right (by simp[l1,l2])]
  simp only[List.length_append,l1,l2]
  rfl
 rw[e1,e2,e3,oC_ o_,oC_ o_]
 cases lasts<;>rfl
theorem xn_ {key action:Nat} {lasts:Bool} {d:DoT} (hk:key<18446744073709551616) (ha:action<18446744073709551616) (hc:c.alloc=24) (hd:cb_ s.tab n ⟨c.service,c.type,key,action,lasts⟩=d) (h0:d.st=0):hY_ F s st n c (gl_ key action lasts)=kt_ F (s.tab.lasts||d.t.lasts) {s with tab:=d.t,q:=evQ s.q d.ev} st:=by
 unfold hY_
 rw[if_neg (by rw[jS_];omega),xl_,xm_ hk ha,hd]
 dsimp only
 rw[if_neg (by rw[h0];exact fun q=>q rfl)]
end
section
variable {w u v:World}
theorem pf_ {sv kind key action:Nat} {lasts:Bool} {R:Sl→Sl→W_} (hs:sv<256) (hk:kind<256) (h:∀xs ps w',ac_ w w'→CF.Own w' w.heap.size ae_ 1 xs (bv (g2_ sv kind))→CF.Own w' w.heap.size ae_ 1 ps (bv (gl_ key action lasts))→R xs ps w'):de_ (sv:Int) (kind:Int) (key:Int) (action:Int) lasts w R:=by
 refine dg_.calls _ _ _ _ _ _ _ ?_
 have e1:(sv:Int)=(((UInt8.ofNat sv).toNat:Nat):Int):=by rw[←be_,wu8 o_ o_]
 have e2:(kind:Int)=(((UInt8.ofNat kind).toNat:Nat):Int):=by rw[←be_,wu8 o_ o_]
 rw[e1,e2]
 refine aH_ (cells:=(bv (g2_ sv kind)).toArray) (e:=ae_) (z:=1) (base:=w.heap.size) k_ rfl d_ (Nat.le_refl _) fun w1 o1 g1 _=>?_
 have o1:CF.Own w1 w.heap.size ae_ 1 ⟨some ⟨w.heap.size,0,none⟩,10,10⟩ (bv (g2_ sv kind)):=o1
 generalize (⟨some ⟨w.heap.size,0,none⟩,10,10⟩:Sl)=X at *
 have s1:=g1.size
 refine rA_ d_ d_ fun p2 w2 o2 g2 n2=>?_
 have r2:Row w1 w2 p2 (beN 8 key):=⟨o2,g2⟩
 refine r2.big (v:=action) (n:=8) d_ d_ (by simp[bH_]) fun p3 w3 r3 k3=>?_
 refine r3.lit (l:=[0,0,0,0,0,0,0,0]) k_ rfl (by simp[bH_]) fun p4 w4 r4 k4=>?_
 have gX:CF.Own w4 w.heap.size ae_ 1 X (bv (g2_ sv kind)):=o1.grow r4.grow
 have h4:=r4.own
 have n4:p4.n=24:=by rw[r4.n];simp[bH_]
 cases lasts with
 | false=>exact al_ rfl (h X p4 w4 (g1.trans r4.grow) gX (h4.mono s1))
 | true=>
  have hA:p4.A.isSome=true:=(iD_ (h4.rd o_) (i:=20) (by rw[az_];simp[bH_])).1
  refine ao_ rfl ⟨⟨d_,by rw[n4];decide,hA⟩,jh_ (i:=20) (v:=.int .u8 (((1:UInt8).toNat:Nat):Int)) h4 (by rw[n4];decide) rfl fun w5 o5 k5 _=>?_⟩
  have g45:ac_ w1 w5:=r4.grow.keep k5 fun b hb q=>by have:=(h4.ge b q.symm).1;omega
  refine h X p4 w5 (g1.trans g45) (o1.grow g45) ?_
  have e:(beN 8 key++beN 8 action++[0,0,0,0,0,0,0,0]).set 20 1=gl_ key action true:=by
   unfold gl_
   rw[List.set_append_right _ _ (by simp[bH_])]
   simp[bH_]
  rw[←e]
  exact o5.mono s1
end
open Go CF
section
variable {F:Int→Bool} {b i n b0 b1:Nat} {s S:USt} {st st':Wst} {P:Pu} {l lo:L8} {c:Cm} {ps:List Nat}
theorem gc_ (hon:s.on=0) (hl:ldN st.seen s.keepf 2=(-1,0,[])):aA_ aF_ s st=(0,aG_ s,more st 2):=by
 unfold aA_
 rw[if_neg o_,pc_ hl]
 rfl
theorem tm_ (h:P[i]?=some (b,s)) (hL:s.on≠1→ldN st.seen s.keepf 2=(-1,0,[])) (hk:l5_ (aR_ l).1.kind):ux_ aF_ P st i n l:=fun x hx=>by
 rw[h] at hx
 injection hx with hx
 subst hx
 exact⟨fun q=>vW_ (s:={ak_ s with lock:=1}) (hL q),fun c _ hc=>by rw[xi_ hc];exact hk⟩
section
variable {w v:World} {pw m:Nat} {ℓ:Nat→Option Nat} {p out:Sl}
theorem Tw.does2 {R:A_→W_} {Y:RsX×Pu×Wst} (h:P[i]?=some (b,s)) (hs:aA_ aF_ (ak_ s) st=(0,S,st')) (h1:S.on=1) (hp:(aR_ l).2.2=true) (hf:f9_ (aR_ l).1.kind=false) (hk:l5_ (aR_ l).1.kind) (hL:s.on≠1→ldN st.seen s.keepf 2=(-1,0,[]))
  (hA:cW_ (S.q n)=none→(aT_ aF_ P st i n l lo).1.sn.key≠6) (hB:cW_ (S.q n)≠none→(aT_ aF_ (P.set i (b,a1_ S n)) st' i n l lo).1.sn.key≠6) (T:Tw w v ℓ pw aF_ P st m) (hm:m≤90000000) (hn:n<8) (hq:RdX v ℓ 1 p (bv l)) (ho:RdX v ℓ 1 out (bv lo)) (hb:out.n≤140737488351232) (eX:ga_ aF_ i n l lo 9 P st=Y)
  (hR:∀v' ℓ' d,Mv v v' ℓ ℓ'→Tw w v' ℓ' pw aF_ Y.2.1 Y.2.2 (m+2000020)→Dat v v' ℓ' d Y.1.d→R (rsv Y.1.st Y.1.sn d).toArray v'):aV_ (some ⟨b,0,none⟩) (n:Int) p out v R:=by
 have hi:=(List.getElem?_eq_some_iff.1 h).1
 refine T.does (fun P' st2=>(P'=P∧st2=st)∨(cW_ (S.q n)≠none∧P'=P.set i (b,a1_ S n)∧st2=st')) (fun P' st2 hI=>?_) (.inl ⟨rfl,rfl⟩) hm ⟨s,h⟩ hn hq ho hb eX fun v' ℓ' d mv T' dt _=>hR v' ℓ' d mv T' dt
 rcases hI with⟨rfl,rfl⟩|⟨hne,rfl,rfl⟩
 ·refine⟨tm_ h hL hk,fun q=>?_⟩
  cases hc:cW_ (S.q n) with
  | none=>exact absurd q (hA hc)
  | some code=>
   rw[v0_ h hs hp hf hc]
   exact .inr ⟨by simp,rfl,rfl⟩
 ·exact⟨tm_ (List.getElem?_set_self hi) (fun q=>absurd (show(a1_ S n).on=1 from h1) q) hk,fun q=>absurd q (hB hne)⟩
end
def e7_:L8:=[0x2a,0,0,0,0,1,0,0,1,0]
def dB_:L8:=[0x28,0,0,0,0,2,0,0,1,0]
def cpC:L8:=[0x83,0,0,0,0,0,0,0,0,0,0,0,0,108,0,0]
def cpU (x:UInt8):L8:=[0xe4,0,0,0,2,1,0,20,83,x]++List.replicate 18 32++[0,0,0,16]
def cpH:L8:=[0,0,0,64,0,0,0,0,0,0,0,28,0,0,0,0]
def cpS:L8:=[2,0,0,24,0,0,0,1,0,0,0,1,0,0,0,0,0,0,0,1,0,0,0,0,0,0,0,2]
def cpP:L8:=cpH++cpU 48++cpU 49++cpS
theorem oi_:(aR_ e7_).2.2=true∧(aR_ e7_).1.kind=8∧(aR_ e7_).1.prot=0∧(aR_ e7_).1.fua=false∧(aR_ e7_).1.blocks=1∧(aR_ e7_).1.lba=1:=by decide +kernel
theorem oj_:(aR_ dB_).2.2=true∧(aR_ dB_).1.kind=7∧(aR_ dB_).1.prot=0∧(aR_ dB_).1.blocks=1∧(aR_ dB_).1.lba=2:=by decide +kernel
theorem jT_:(aR_ cpC).2.2=true∧(aR_ cpC).1.kind=18∧(aR_ cpC).1.alloc=108∧cpP.length=108:=by decide +kernel
theorem pL_:(aW_ cpP).ok=true∧(aW_ cpP).us = [[83,48],[83,49]]∧(aW_ cpP).ss = [⟨0,1,1,1,2⟩]:=⟨by decide +kernel,by decide +kernel,k_⟩
theorem gS_ (hn:n<8):(aG_ (ak_ (ay_ i 0 ps))).q n=bM_ [] 10496:=if_pos hn
theorem dF_ (h:hH_ (s.q n) = []):(a1_ s n).q n = []:=(if_pos rfl).trans h
theorem ky_ {sv kind:Nat} (h:(sv,kind)∈[(6,0),(1,1),(1,3),(1,5),(1,6),(1,7),(1,8)]):(aR_ (g2_ sv kind)).2.2=true∧(aR_ (g2_ sv kind)).1.kind=16∧(aR_ (g2_ sv kind)).1.service=sv∧(aR_ (g2_ sv kind)).1.type=kind∧(aR_ (g2_ sv kind)).1.alloc=24:=by
 simp only[List.mem_cons,Prod.mk.injEq,List.not_mem_nil,or_false] at h
 rcases h with⟨rfl,rfl⟩|⟨rfl,rfl⟩|⟨rfl,rfl⟩|⟨rfl,rfl⟩|⟨rfl,rfl⟩|⟨rfl,rfl⟩|⟨rfl,rfl⟩<;>decide +kernel
theorem pg_ {sv kind key action:Nat} {lasts:Bool} {d:DoT} (hsv:(sv,kind)∈[(6,0),(1,1),(1,3),(1,5),(1,6),(1,7),(1,8)]) (h:P[i]?=some (b,s)) (hs:aA_ F (ak_ s) st=(0,S,st')) (hq:S.q n = []) (hw:S.now.swp=false) (hk:key<18446744073709551616) (ha:action<18446744073709551616)
  (hd:cb_ S.tab n ⟨sv,kind,key,action,lasts⟩=d) (h0:d.st=0) (hl:(S.tab.lasts||d.t.lasts)=false):aT_ F P st i n (g2_ sv kind) (gl_ key action lasts)=(okX [],P.set i (b,{S with tab:=d.t,q:=evQ S.q d.ev}),st'):=by
 obtain⟨p1,p2,p3,p4,p5⟩:=ky_ hsv
 have hi:=(List.getElem?_eq_some_iff.1 h).1
 rw[qX_ h hs p1 hq (by rw[p2];unfold a4_;rw[if_pos (.inr (.inl rfl))]) hw,xk_ (List.getElem?_set_self hi) p2,xn_ hk ha p5 (by rw[p3,p4];exact hd) h0,hl]
 unfold kt_
 rw[if_neg Bool.noConfusion,List.set_set]
def xo_:a5_:=⟨[(3,5)],1,0,-1,false⟩
def tabB:a5_:=⟨[(3,5)],1,3,3,false⟩
theorem qY_:cb_ t0 3 ⟨6,0,0,5,false⟩=⟨0,0,[],xo_⟩∧cb_ xo_ 3 ⟨1,3,5,0,false⟩=⟨0,0,[],tabB⟩:=⟨k_,k_⟩
def kQ_ (ps:List Nat):USt:={ak_ (a1_ (aG_ (ak_ (ay_ 1 0 ps))) 3) with tab:=xo_}
def rsB (ps:List Nat):USt:={ak_ (kQ_ ps) with tab:=tabB}
theorem res1 (h:P[1]?=some (b,ay_ 1 0 ps)) (hl:ldN st.seen (ay_ 1 0 ps).keepf 2=(-1,0,[])):ga_ aF_ 1 3 (g2_ 6 0) (gl_ 0 5 false) 9 P st=(okX [],P.set 1 (b,kQ_ ps),more st 2):=by
 obtain⟨p1,p2,p3,p4,p5⟩:=ky_ (sv:=6) (kind:=0) d_
 have hi:=(List.getElem?_eq_some_iff.1 h).1
 have hs:=gc_ (s:=ak_ (ay_ 1 0 ps)) (st:=st) rfl hl
 have e:=pg_ (F:=aF_) (P:=P.set 1 (b,a1_ (aG_ (ak_ (ay_ 1 0 ps))) 3)) (st:=more st 2) (i:=1) (n:=3) (sv:=6) (kind:=0) (key:=0) (action:=5) (lasts:=false) d_ (List.getElem?_set_self hi) (dw_ rfl rfl) (show(a1_ (aG_ (ak_ (ay_ 1 0 ps))) 3).q 3 = [] from dF_ (by rw[gS_ d_];exact do_)) rfl d_ d_ qY_.1 rfl rfl
 rw[l6_ h hs p1 (by rw[p2];rfl) (by rw[gS_ d_];exact lg_),gb_ (by rw[e];exact(by decide:(0:Nat)≠6)),e,List.set_set]
 rfl
theorem cf_ (h:P[1]?=some (b,kQ_ ps)):ga_ aF_ 1 3 (g2_ 1 3) (gl_ 5 0 false) 9 P st=(okX [],P.set 1 (b,rsB ps),st):=by
 have e:=pg_ (F:=aF_) (P:=P) (st:=st) (i:=1) (n:=3) (sv:=1) (kind:=3) (key:=5) (action:=0) (lasts:=false) d_ h (dw_ rfl rfl) (show(a1_ (aG_ (ak_ (ay_ 1 0 ps))) 3).q 3 = [] from dF_ (by rw[gS_ d_];exact do_)) rfl d_ d_ qY_.2 rfl rfl
 rw[gb_ (by rw[e];exact(by decide:(0:Nat)≠6)),e]
 rfl
abbrev fdL (k:Nat):ByteArray:=nmL k++dG_
def sW (ps:List Nat):USt:=ak_ (a1_ (aG_ (ak_ (ay_ 0 0 ps))) 0)
def stW (st:Wst) (l:L8):Wst:=b0_ (more st 2) (fdL 0) 25 (bt_ (bk1 1 l))
theorem sj_ (h1:c.kind≠1) (h2:c.kind≠2) (h3:c.kind≠3) (h17:c.kind≠17) (h5:c.kind≠5) (h15:c.kind≠15):hX_ F s st n c l=⟨(doX F s.inf.prot s.n s.cache s.file st c l).1,s,(doX F s.inf.prot s.n s.cache s.file st c l).2⟩:=by
 unfold hX_ io_
 rw[if_neg h15,if_neg h1,if_neg h2,if_neg h3,if_neg h17,if_neg h5]
theorem xI_ (hl:lo.length=16) (h:P[0]?=some (b,a1_ (aG_ (ak_ (ay_ 0 0 ps))) 0)):aT_ aF_ P st 0 0 e7_ lo=(okX [],P.set 0 (b,sW ps),b0_ st (fdL 0) 25 (bt_ (bk1 1 lo))):=by
 obtain⟨p1,p2,p3,p4,p5,p6⟩:=oi_
 have hi:=(List.getElem?_eq_some_iff.1 h).1
 rw[qX_ (n:=0) h (dw_ rfl rfl) p1 (show(a1_ (aG_ (ak_ (ay_ 0 0 ps))) 0).q 0 = [] from dF_ (by rw[gS_ d_];exact do_)) (if_pos (.inl rfl)) rfl,qt_ (List.getElem?_set_self hi) o_ o_ o_,
  sj_ o_ o_ o_ o_ o_ o_,List.set_set]
 show((doX aF_ 0 24 true (fdL 0) st (aR_ e7_).1 lo).1,_,(doX aF_ 0 24 true (fdL 0) st (aR_ e7_).1 lo).2)=_
 rw[vY_ p2 p3 p4 p5 hl o_,p6]
 rfl
theorem yt_ (hl:lo.length=16) (h:P[0]?=some (b,ay_ 0 0 ps)) (hk:ldN st.seen (ay_ 0 0 ps).keepf 2=(-1,0,[])):ga_ aF_ 0 0 e7_ lo 9 P st=(okX [],P.set 0 (b,sW ps),stW st lo):=by
 obtain⟨p1,p2,_⟩:=oi_
 have hi:=(List.getElem?_eq_some_iff.1 h).1
 have e:=xI_ (P:=P.set 0 (b,a1_ (aG_ (ak_ (ay_ 0 0 ps))) 0)) (st:=more st 2) hl (List.getElem?_set_self hi)
 rw[l6_ h (gc_ (s:=ak_ (ay_ 0 0 ps)) (st:=st) rfl hk) p1 (by rw[p2];rfl) (by rw[gS_ d_];exact lg_),gb_ (by rw[e];exact(by decide:(0:Nat)≠6)),e,List.set_set]
 rfl
abbrev sg1:dD_:=⟨0,1,1,1,2⟩
def dq0 (sh:Nat):Dq:=⟨tC_,0,0,fdL 0,0,24,true,sh⟩
def dq1 (sh:Nat):Dq:=⟨tD_,0,0,fdL 1,0,24,true,sh⟩
theorem v1_:cc_ [dq0 0,dq1 0] [[83,48],[83,49]] 0=some (dq0 0)∧cc_ [dq0 0,dq1 0] [[83,48],[83,49]] 1=some (dq1 0):=⟨k_,k_⟩
theorem v2_ (st:Wst):bK_ aF_ [dq0 0] [[83,48],[83,49]] 0 [sg1] st=(0,snX (atS 10 3330 0),st):=by
 unfold bK_ dm_
 rw[show cc_ [dq0 0] [[83,48],[83,49]] sg1.to_=none by kernel_rfl]
 cases cc_ [dq0 0] [[83,48],[83,49]] sg1.from_<;>rfl
theorem v3_ (st:Wst):bK_ aF_ [dq0 0,dq1 3] [[83,48],[83,49]] 0 [sg1] st=(0,snX (atS 10 3330 0),st):=by
 unfold bK_ dm_
 rw[show cc_ [dq0 0,dq1 3] [[83,48],[83,49]] sg1.to_=some (dq1 3) by kernel_rfl,show cc_ [dq0 0,dq1 3] [[83,48],[83,49]] sg1.from_=some (dq0 0) by kernel_rfl]
 rfl
theorem v4_ {st:Wst} {l:L8} (hl:l.length=16) (hr:(b5_ (bC_ st (fdL 0)) 1).d=l):bK_ aF_ [dq0 0,dq1 0] [[83,48],[83,49]] 0 [sg1] st=(1,okX [],b0_ (more st 1) (fdL 1) 50 (bt_ (bk1 2 l))):=by
 unfold bK_ dm_
 rw[show cc_ [dq0 0,dq1 0] [[83,48],[83,49]] sg1.to_=some (dq1 0) from v1_.2,show cc_ [dq0 0,dq1 0] [[83,48],[83,49]] sg1.from_=some (dq0 0) from v1_.1]
 dsimp only
 have e1:doX aF_ (dq0 0).kind (dq0 0).n (dq0 0).cache (dq0 0).file st (rdC 1 (Int.toNat 1)) []=(okX l,more st 1):=by
  show doX aF_ 0 24 true (fdL 0) st (rdC 1 1) []=_
  rw[xG_ (n:=24) (c:=rdC 1 1) rfl rfl rfl d_]
  show(okX (b5_ (bC_ st (fdL 0)) 1).d,_)=_
  rw[hr]
 have e2:doX aF_ (dq1 0).kind (dq1 0).n (dq1 0).cache (dq1 0).file (okX l,more st 1).2 (wrC 2 ((okX l,more st 1).1.d.length/16)) (okX l,more st 1).1.d=(okX [],b0_ (more st 1) (fdL 1) 50 (bt_ (bk1 2 l))):=by
  show doX aF_ 0 24 true (fdL 1) (more st 1) (wrC 2 (l.length/16)) l=_
  rw[hl]
  exact vY_ (c:=wrC 2 1) rfl rfl rfl rfl hl d_
 rw[if_neg (show ¬((dq0 0).shut%2=1∨(dq1 0).shut/2%2=1) by decide)]
 rw[e1,if_neg (show ¬((okX l,more st 1).1.st≠0) from fun q=>q rfl),e2,if_neg (show ¬((okX [],b0_ (more st 1) (fdL 1) 50 (bt_ (bk1 2 l))).1.st≠0) from fun q=>q rfl)]
 rfl
end
open Go CF
section
variable {F:Int→Bool} {b i n b0 b1 j:Nat} {s S s0 s1:USt} {st st':Wst} {P r:Pu} {l lo:L8} {c:Cm} {ps bs:List Nat} {x x1:Nat×USt}
theorem iF_ (hj:h2_ P b=j) (hx:P[j]?=some x) (hs:aA_ F x.2 st=(0,S,st')):bi_ F n (b::bs) P st=((j,e6_ S n)::(bi_ F n bs (P.set j (x.1,S)) st').1,(bi_ F n bs (P.set j (x.1,S)) st').2):=by
 show(match P[h2_ P b]? with|none=>_|some x=>_)=_
 rw[hj,hx]
 dsimp only
 rw[hs,if_neg (fun q=>q rfl)]
theorem uy_:h2_ ((b0,s0)::r) b0=0:=by
 unfold h2_
 rw[List.findIdx_cons,decide_eq_true rfl]
 rfl
theorem xJ_ (h:b0≠b1):h2_ ((b0,s0)::(b1,s1)::r) b1=1:=by
 unfold h2_
 rw[List.findIdx_cons,List.findIdx_cons,decide_eq_true rfl,decide_eq_false h]
 rfl
theorem kz_ (h:s.on=1) (hf:s.fault=0):aA_ F s st=(0,s,st):=by rw[si_ h,hf]
theorem ok_ {nm:List (Nat×Nat)×Pu×Wst} (hx:P[i]?=some x) (hl:(lo.length:Int)=c.alloc) (hp:(aW_ lo).ok=true) (hn:bi_ F n (x.1::x.2.peers) P st=nm):iq_ F P st i n c lo=((bK_ F (nm.1.map (kO_ nm.2.1)) (aW_ lo).us 0 (aW_ lo).ss nm.2.2).2.1,nm.2.1,(bK_ F (nm.1.map (kO_ nm.2.1)) (aW_ lo).us 0 (aW_ lo).ss nm.2.2).2.2):=by
 unfold iq_
 rw[if_neg (fun q=>q hl),hp,if_neg Bool.noConfusion,hx]
 dsimp only
 rw[hn]
theorem sk_ (hP:P[0]?=some (b0,sW ps)):aT_ aF_ P st 0 0 cpC cpP=iq_ aF_ (P.set 0 (b0,ak_ (sW ps))) st 0 0 (aR_ cpC).1 cpP:=by
 obtain⟨p1,p2,p3,p4⟩:=jT_
 rw[qX_ (n:=0) hP (dw_ rfl rfl) p1 (show(a1_ (aG_ (ak_ (ay_ 0 0 ps))) 0).q 0 = [] from dF_ (by rw[gS_ d_];exact do_)) (if_pos (.inl rfl)) rfl]
 unfold kP_
 rw[if_pos p2]
theorem tn_:aT_ aF_ [(b0,sW []),x1] st 0 0 cpC cpP=(snX (atS 10 3330 0),[(b0,ak_ (sW [])),x1],st):=by
 obtain⟨p1,p2,p3,p4⟩:=jT_
 obtain⟨q1,q2,q3⟩:=pL_
 rw[sk_ rfl]
 have e:bi_ aF_ 0 [b0] [(b0,ak_ (sW [])),x1] st=([(0,0)],[(b0,ak_ (sW [])),x1],st):=by
  rw[iF_ uy_ rfl (kz_ rfl rfl)]
  rfl
 show iq_ aF_ [(b0,ak_ (sW [])),x1] st 0 0 (aR_ cpC).1 cpP=_
 rw[ok_ (x:=(b0,ak_ (sW []))) rfl (by rw[p3,p4];rfl) q1 e,q2,q3]
 rw[show([(0,0)]:List (Nat×Nat)).map (kO_ [(b0,ak_ (sW [])),x1]) = [dq0 0] by kernel_rfl,v2_]
theorem yu_ (hne:b0≠b1):aT_ aF_ [(b0,sW [b1]),(b1,rsB [b0])] st 0 0 cpC cpP=(snX (atS 10 3330 0),[(b0,ak_ (sW [b1])),(b1,rsB [b0])],st):=by
 obtain⟨p1,p2,p3,p4⟩:=jT_
 obtain⟨q1,q2,q3⟩:=pL_
 rw[sk_ rfl]
 have e:bi_ aF_ 0 [b0,b1] [(b0,ak_ (sW [b1])),(b1,rsB [b0])] st=([(0,0),(1,3)],[(b0,ak_ (sW [b1])),(b1,rsB [b0])],st):=by
  rw[iF_ uy_ rfl (kz_ rfl rfl)]
  show(_::(bi_ aF_ 0 [b1] [(b0,ak_ (sW [b1])),(b1,rsB [b0])] st).1,(bi_ aF_ 0 [b1] [(b0,ak_ (sW [b1])),(b1,rsB [b0])] st).2)=_
  rw[iF_ (xJ_ hne) rfl (kz_ rfl rfl)]
  rfl
 show iq_ aF_ [(b0,ak_ (sW [b1])),(b1,rsB [b0])] st 0 0 (aR_ cpC).1 cpP=_
 rw[ok_ (x:=(b0,ak_ (sW [b1]))) rfl (by rw[p3,p4];rfl) q1 e,q2,q3]
 rw[show([(0,0),(1,3)]:List (Nat×Nat)).map (kO_ [(b0,ak_ (sW [b1])),(b1,rsB [b0])]) = [dq0 0,dq1 3] by kernel_rfl,v3_]
theorem yv_ (hne:b0≠b1) (hk:ldN st.seen (ay_ 1 0 [b0]).keepf 2=(-1,0,[])) (hl:l.length=16) (hr:(b5_ (bC_ st (fdL 0)) 1).d=l):aT_ aF_ [(b0,sW [b1]),(b1,ay_ 1 0 [b0])] st 0 0 cpC cpP=(okX [],[(b0,ak_ (sW [b1])),(b1,aG_ (ay_ 1 0 [b0]))],b0_ (more (more st 2) 1) (fdL 1) 50 (bt_ (bk1 2 l))):=by
 obtain⟨p1,p2,p3,p4⟩:=jT_
 obtain⟨q1,q2,q3⟩:=pL_
 rw[sk_ rfl]
 have e:bi_ aF_ 0 [b0,b1] [(b0,ak_ (sW [b1])),(b1,ay_ 1 0 [b0])] st=([(0,0),(1,0)],[(b0,ak_ (sW [b1])),(b1,aG_ (ay_ 1 0 [b0]))],more st 2):=by
  rw[iF_ uy_ rfl (kz_ rfl rfl)]
  show(_::(bi_ aF_ 0 [b1] [(b0,ak_ (sW [b1])),(b1,ay_ 1 0 [b0])] st).1,(bi_ aF_ 0 [b1] [(b0,ak_ (sW [b1])),(b1,ay_ 1 0 [b0])] st).2)=_
  rw[iF_ (x:=(b1,ay_ 1 0 [b0])) (xJ_ (s1:=ay_ 1 0 [b0]) hne) rfl (gc_ (s:=ay_ 1 0 [b0]) rfl hk)]
  rfl
 show iq_ aF_ [(b0,ak_ (sW [b1])),(b1,ay_ 1 0 [b0])] st 0 0 (aR_ cpC).1 cpP=_
 rw[ok_ (x:=(b0,ak_ (sW [b1]))) rfl (by rw[p3,p4];rfl) q1 e,q2,q3]
 rw[show([(0,0),(1,0)]:List (Nat×Nat)).map (kO_ [(b0,ak_ (sW [b1])),(b1,aG_ (ay_ 1 0 [b0]))]) = [dq0 0,dq1 0] by kernel_rfl,v4_ (st:=more st 2) hl hr]
theorem ph_ (h:P[1]?=some (b,s)) (h1:s.on=1) (hf:s.fault=0) (hq:s.q 3 = []) (hc:a4_ s.tab 3 1=false) (hw:s.now.swp=false) (hp:s.inf.prot=0) (hn:s.n=24) (hfl:s.file=fdL 1):aT_ aF_ P st 1 3 dB_ []=(okX (b5_ (bC_ st (fdL 1)) 2).d,P.set 1 (b,ak_ s),more st 1):=by
 obtain⟨p1,p2,p3,p4,p5⟩:=oj_
 have hi:=(List.getElem?_eq_some_iff.1 h).1
 rw[qX_ h (dw_ h1 hf) p1 hq (by rw[p2];exact hc) hw,qt_ (List.getElem?_set_self hi) o_ o_ o_,sj_ o_ o_ o_ o_ o_ o_,List.set_set]
 show((doX aF_ s.inf.prot s.n s.cache s.file st (aR_ dB_).1 []).1,_,(doX aF_ s.inf.prot s.n s.cache s.file st (aR_ dB_).1 []).2)=_
 rw[hp,hn,hfl,xG_ p2 p3 p4 o_,p5]
theorem tp_ {S:USt} (h:P[1]?=some (b,s)) (hs:aA_ aF_ (ak_ s) st=(0,S,st')) (hq:S.q 3=bM_ [] 10496) (h1:S.on=1) (hf:S.fault=0) (hc:S.tab.kind=0) (hw:S.now.swp=false) (hp:S.inf.prot=0) (hn:S.n=24) (hfl:S.file=fdL 1):ga_ aF_ 1 3 dB_ [] 9 P st=(okX (b5_ (bC_ st' (fdL 1)) 2).d,P.set 1 (b,ak_ (a1_ S 3)),more st' 1):=by
 obtain⟨p1,p2,_⟩:=oj_
 have hi:=(List.getElem?_eq_some_iff.1 h).1
 have e:=ph_ (P:=P.set 1 (b,a1_ S 3)) (st:=st') (List.getElem?_set_self hi) h1 hf (dF_ (by rw[hq];exact do_)) (if_pos (.inl hc)) hw hp hn hfl
 rw[l6_ h hs p1 (by rw[p2];rfl) (by rw[hq];exact lg_),gb_ (by rw[e];exact(by decide:(0:Nat)≠6)),e,List.set_set]
theorem ol_ {st:Wst} (h:st.seen=fun _=>none) (hl:l.length=16):(b5_ (bC_ (stW st l) (fdL 0)) 1).d=l∧(stW st l).seen (fdL 1)=none:=by
 refine⟨?_,?_⟩
 ·unfold stW
  rw[kg_]
  have:bC_ (more st 2) (fdL 0) = []:=by
   show(st.seen (fdL 0)).getD [] = []
   rw[h];rfl
  rw[this,my_ (i:=1) n1_,if_pos rfl]
  exact xH_ hl
 ·show(if fdL 1=fdL 0 then some (wr ((st.seen (fdL 0)).getD []) 25 (bt_ (bk1 1 l))) else st.seen (fdL 1))=none
  rw[if_neg d_,h]
end
open Go CF
def mX_ (data:Sl) (peers reserved:Bool) (u r:Addr) (R:Bool→W_) (y0:World):Prop:=
 ∃n:Int,y0.cell? (r.add 0)=some (.int .u8 n)∧Br (n != 0) (R false y0) (ai_ Tryz.prog .sl (Instr.makeSlice aE_ (.int .i64 16) (.int .i64 16)) y0 fun xs1 w013=>(0≤(3:Int)∧(3:Int)<(xs1.n:Int)∧xs1.A.isSome=true)∧Put ((gA xs1.A).add ((3:Int).toNat*1)) (.int .u8 64) w013 fun w014=>(0≤(11:Int)∧(11:Int)<(xs1.n:Int)∧xs1.A.isSome=true)∧Put ((gA xs1.A).add ((11:Int).toNat*1)) (.int .u8 28) w014 fun w015=>∃(I:Sl→Int→W_) (μ:Sl→Int→World→Nat),I xs1 0 w015∧∀(p2:Sl) (i:Int) (w016:World),I p2 i w016→Br (decide (i<2)) (ai_ Tryz.prog .sl (Instr.buildSlice aE_ 10 #[(0,.int .u8 228),(1,.int .u8 0),(2,.int .u8 0),(3,.int .u8 0),(4,.int .u8 2),(5,.int .u8 1),(6,.int .u8 0),(7,.int .u8 20),(8,.int .u8 83),(9,.int .u8 (IntKind.wrap .u8 (IntKind.wrap .i64 (48+i))))]) w016 fun xs2 w017=>ai_ Tryz.prog .sl (Builtin.append_ #[aE_,aE_] aE_ #[.slice p2.A p2.n p2.c,.slice xs2.A xs2.n xs2.c]) w017 fun xs3 w018=>∃(I1:Sl→Int→W_) (μ1:Sl→Int→World→Nat),I1 xs3 0 w018∧∀(p3:Sl) (k:Int) (w019:World),I1 p3 k w019→Br (decide (k<18)) (ai_ Tryz.prog .sl (Instr.buildSlice aE_ 1 #[(0,.int .u8 32)]) w019 fun xs4 w020=>ai_ Tryz.prog .sl (Builtin.append_ #[aE_,aE_] aE_ #[.slice p3.A p3.n p3.c,.slice xs4.A xs4.n xs4.c]) w020 fun xs5 w021=>I1 xs5 (IntKind.wrap .i64 (k+1)) w021∧μ1 xs5 (IntKind.wrap .i64 (k+1)) w021<μ1 p3 k w019) (ai_ Tryz.prog .sl (Instr.buildSlice aE_ 4 #[(0,.int .u8 0),(1,.int .u8 0),(2,.int .u8 0),(3,.int .u8 16)]) w019 fun xs6 w022=>ai_ Tryz.prog .sl (Builtin.append_ #[aE_,aE_] aE_ #[.slice p3.A p3.n p3.c,.slice xs6.A xs6.n xs6.c]) w022 fun xs7 w023=>I xs7 (IntKind.wrap .i64 (i+1)) w023∧μ xs7 (IntKind.wrap .i64 (i+1)) w023<μ p2 i w016)) (ai_ Tryz.prog .sl (Instr.buildSlice aE_ 28 #[(0,.int .u8 2),(1,.int .u8 0),(2,.int .u8 0),(3,.int .u8 24),(4,.int .u8 0),(5,.int .u8 0),(6,.int .u8 0),(7,.int .u8 1),(8,.int .u8 0),(9,.int .u8 0),(10,.int .u8 0),(11,.int .u8 1),(12,.int .u8 0),(13,.int .u8 0),(14,.int .u8 0),(15,.int .u8 0),(16,.int .u8 0),(17,.int .u8 0),(18,.int .u8 0),(19,.int .u8 1),(20,.int .u8 0),(21,.int .u8 0),(22,.int .u8 0),(23,.int .u8 0),(24,.int .u8 0),(25,.int .u8 0),(26,.int .u8 0),(27,.int .u8 2)]) w016 fun xs8 w024=>ai_ Tryz.prog .sl (Builtin.append_ #[aE_,aE_] aE_ #[.slice p2.A p2.n p2.c,.slice xs8.A xs8.n xs8.c]) w024 fun xs9 w025=>(0≤(0:Int)∧(0:Int)<(2:Int))∧∃p4:O_,w025.cell? (u.add ((0:Int).toNat*1))=some (.pointer p4)∧ai_ Tryz.prog .sl (Instr.buildSlice aE_ 16 #[(0,.int .u8 131),(1,.int .u8 0),(2,.int .u8 0),(3,.int .u8 0),(4,.int .u8 0),(5,.int .u8 0),(6,.int .u8 0),(7,.int .u8 0),(8,.int .u8 0),(9,.int .u8 0),(10,.int .u8 0),(11,.int .u8 0),(12,.int .u8 0),(13,.int .u8 (IntKind.wrap .u8 (xs9.n:Int))),(14,.int .u8 0),(15,.int .u8 0)]) w025 fun xs10 w026=>aV_ p4 0 xs10 xs9 w026 fun g2 w027=>New (.cells #[.int .u8 0,.int .u8 0,.int .u16 0,.int .u64 0,.bool false,.int .i64 0,.int .i64 0,.bool false,.bool false,.slice none 0 0] aa_) w027 fun r1 w028=>ag_ Tryz.prog (storeVar aa_ r1 (.agg g2)) w028 fun w029=>(0≤(1:Int)∧(1:Int)<(2:Int))∧∃p5:O_,w029.cell? (u.add ((1:Int).toNat*1))=some (.pointer p5)∧ai_ Tryz.prog .sl (Instr.buildSlice aE_ 10 #[(0,.int .u8 40),(1,.int .u8 0),(2,.int .u8 0),(3,.int .u8 0),(4,.int .u8 0),(5,.int .u8 2),(6,.int .u8 0),(7,.int .u8 0),(8,.int .u8 1),(9,.int .u8 0)]) w029 fun xs11 w030=>aV_ p5 3 xs11 ⟨none,0,0⟩ w030 fun g3 w031=>New (.cells #[.int .u8 0,.int .u8 0,.int .u16 0,.int .u64 0,.bool false,.int .i64 0,.int .i64 0,.bool false,.bool false,.slice none 0 0] aa_) w031 fun got w032=>ag_ Tryz.prog (storeVar aa_ got (.agg g3)) w032 fun w033=>∃n1:Int,w033.cell? (got.add 0)=some (.int .u8 n1)∧Br (n1 != 0) (R false w033) (Br (peers&&(!reserved)) (∀w034,w034=w033.drew→∃S1:W_,S1 w034∧∃n2:Int,(∀u2,S1 u2→u2.cell? (r1.add 0)=some (.int .u8 n2))∧∃xs12:Sl,((n2==0)=true→(∀u3,S1 u3→u3.cell? (got.add 9)=some (.slice xs12.A xs12.n xs12.c)))∧∃s:ByteArray,((n2==0)=true→(∀u4,S1 u4→(convert aE_ bQ_ (.slice xs12.A xs12.n xs12.c)).run Tryz.prog u4=.ok (.string s) u4))∧((n2==0)=true→(0≤(0:Int)∧(0:Int)≤(16:Int)∧(16:Int)≤(data.c:Int)∧data.n≤data.c))∧∃s1:ByteArray,((n2==0)=true→(∀u5,S1 u5→(convert aE_ bQ_ (.slice (aP_ data.A data.c 0 1) (16-0) (data.c-0))).run Tryz.prog u5=.ok (.string s1) u5))∧R ((n2==0)&&(sEq s s1)) w034) (∀w035,w035=w033.drew→∃S2:W_,S2 w035∧∃n3:Int,(∀u6,S2 u6→u6.cell? (r1.add 0)=some (.int .u8 n3))∧∃n4:Int,((n3==2)=true→(∀u7,S2 u7→u7.cell? ((r1.add 1).add 0)=some (.int .u8 n4)))∧∃n5:Int,(((n3==2)&&(n4==10))=true→(∀u8,S2 u8→u8.cell? ((r1.add 1).add 1)=some (.int .u16 n5)))∧∃xs13:Sl,((((n3==2)&&(n4==10))&&(n5==3330))=true→(∀u9,S2 u9→u9.cell? (got.add 9)=some (.slice xs13.A xs13.n xs13.c)))∧∃s2:ByteArray,((((n3==2)&&(n4==10))&&(n5==3330))=true→(∀u10,S2 u10→(convert aE_ bQ_ (.slice xs13.A xs13.n xs13.c)).run Tryz.prog u10=.ok (.string s2) u10))∧bI_ (fun(xs14:Sl) (w036:World)=>S2 w036∧∃S3:W_,S3 w036∧(∀u11,S3 u11→S2 u11)∧∃s3:ByteArray,((((n3==2)&&(n4==10))&&(n5==3330))=true→(∀u12,S3 u12→(convert aE_ bQ_ (.slice xs14.A xs14.n xs14.c)).run Tryz.prog u12=.ok (.string s3) u12))∧R ((((n3==2)&&(n4==10))&&(n5==3330))&&(sEq s2 s3)) w036) fun J_=>((((n3==2)&&(n4==10))&&(n5==3330))=true→ai_ Tryz.prog .sl (Instr.makeSlice aE_ (.int .i64 16) (.int .i64 16)) w035 J_)∧((((n3==2)&&(n4==10))&&(n5==3330))=false→J_ (Kd.dflt .sl) w035)))))
section
variable {w v z:World} {pw i n m b0 b1:Nat} {ℓ ℓ':Nat→Option Nat} {P:Pu} {st:Wst} {s s0 s1:USt} {F:Int→Bool}
theorem Tw.peersX {b:Nat} {p:Sl} {xs:List (Option Nat)} {R:W_} (T:Tw w v ℓ pw F P st m) (he:P[i]?=some (b,s)) (hp:RdX v ℓ 1 p (xs.map mL_)) (hx:∀c,some c∈xs→∃y∈P,y.1=c) (hxs:xs.length≤100)
  (hR:∀u,Mv v u ℓ ℓ→Tw w u ℓ pw F (P.set i (b,{s with peers:=bf_ b xs})) st m→R u):cx_ (some ⟨b,0,none⟩) p v R:=by
 obtain⟨us,H,K,rfl⟩:=T.ex
 have hlen:(pub us).length=us.length:=by unfold pub;rw[List.length_map]
 obtain⟨hi,hx0⟩:=List.getElem?_eq_some_iff.1 he
 have hiu:i<us.length:=o_
 rw[pe_ hiu] at hx0
 have e1:us[i].1.ub=b:=congrArg Prod.fst hx0
 have e2:us[i].2=s:=congrArg Prod.snd hx0
 subst e1
 subst e2
 refine lY_ (a:=us[i].1) (s:=us[i].2) H hiu rfl hp (fun c hc=>?_) o_ fun u mv Hu=>hR u mv ⟨⟨_,Hu,K.put (x:=(us[i].1,{us[i].2 with peers:=bf_ us[i].1.ub xs})) ((K.at hiu rfl).same (K.at hiu rfl).good rfl rfl rfl rfl rfl rfl),nk_⟩,(Mv.tw T mv).1,T.old,fun x hx2=>?_,fun x hx2=>?_⟩
 ·obtain⟨y,hy,rfl⟩:=hx c hc
  obtain⟨q,hq,rfl⟩:=List.mem_map.1 hy
  obtain⟨j,hj,rfl⟩:=List.getElem_of_mem hq
  exact⟨j,hj,rfl⟩
 ·have mem:∀c,(∃y∈pub us,y.1=c)→∃y∈(pub us).set i (us[i].1.ub,{us[i].2 with peers:=bf_ us[i].1.ub xs}),y.1=c:=fun c ⟨y,hy,e⟩=>by
   obtain⟨j,hj,rfl⟩:=List.getElem_of_mem hy
   refine⟨((pub us).set i (us[i].1.ub,{us[i].2 with peers:=bf_ us[i].1.ub xs}))[j]'(by rw[List.length_set];exact hj),List.getElem_mem _,?_⟩
   rw[List.getElem_set]
   split
   ·rename_i e2
    subst e2
    rw[pe_ hiu] at e
    exact e
   ·exact e
  rcases List.mem_or_eq_of_mem_set hx2 with q|rfl
  ·exact⟨(T.peers x q).1,fun c hc=>mem c ((T.peers x q).2 c hc)⟩
  ·refine⟨?_,fun c hc=>mem c ?_⟩
   ·have:(bf_ us[i].1.ub xs).length≤xs.length:=List.length_filterMap_le _ _
    show(bf_ us[i].1.ub xs).length≤100
    omega
   ·have hc:c∈bf_ us[i].1.ub xs:=hc
    unfold bf_ at hc
    obtain⟨y,hy,e⟩:=List.mem_filterMap.1 hc
    cases y with
    | none=>cases e
    | some d=>
     dsimp only at e
     split at e
     ·cases e
     ·injection e with e
      subst e
      exact hx _ hy
 ·rcases List.mem_or_eq_of_mem_set hx2 with q|rfl
  ·exact T.count x q
  ·exact T.count (us[i].1.ub,us[i].2) (by have:=hb_ hiu;exact List.mem_of_getElem? this)
theorem Tw.ne (T:Tw w v ℓ pw F [(b0,s0),(b1,s1)] st m):b0≠b1:=by
 obtain⟨us,H,K,e⟩:=T.ex
 have hl:us.length=2:=by
  have:=congrArg List.length e
  unfold pub at this
  rwa [List.length_map] at this
 have h0:=hb_ (us:=us) (i:=0) o_
 have h1:=hb_ (us:=us) (i:=1) o_
 rw[e] at h0 h1
 injection h0 with h0
 injection h1 with h1
 have:=H.ub_ne (i:=0) (j:=1) o_ o_ d_
 have f0:b0=us[0].1.ub:=congrArg Prod.fst h0
 have f1:b1=us[1].1.ub:=congrArg Prod.fst h1
 rw[f0,f1]
 exact this
theorem tq_ {x:Sl} {l:L8} (h:Rd w 1 x (bv l)) {k:Nat} (hk:k≤x.n):Rd w 1 ⟨aP_ x.A x.c 0 1,k-0,x.c-0⟩ (bv (l.take k)):=by
 have hc:=h.cap
 have hb:=h.nb
 have hl:l.length=x.n:=by have:=h.len;rw[az_] at this;omega
 refine⟨by rw[az_,List.length_take];show _=(k-0)*1;omega,by show k-0≤x.c-0;omega,by show k-0≤_;omega,fun hne=>?_⟩
 obtain⟨a,ha,hcl⟩:=h.at_ (fun q=>hne (by
  have:l = []:=by simpa [bv] using q
  rw[this];simp[bv]))
 refine⟨a,?_,fun j v hj=>?_⟩
 ·show aP_ x.A x.c 0 1=some a
  unfold aP_
  rw[ha]
  split
  ·rfl
  ·show some (a.add (0*1))=_
   rw[Nat.zero_mul];rfl
 ·refine hcl j v ?_
  rw[←jg_,List.getElem?_take] at hj
  split at hj
  ·exact hj
  ·cases hj
theorem ji_ {st:Wst} {k:Nat} {ps:List Nat} (h:st.seen=fun _=>none):ldN st.seen (ay_ k 0 ps).keepf 2=(-1,0,[]):=tl_ h
theorem xp_ {st:Wst} {l:L8} {ps:List Nat} (h:st.seen=fun _=>none):ldN (stW st l).seen (ay_ 1 0 ps).keepf 2=(-1,0,[]):=qc_ fun i hi=>by
 have e:(stW st l).seen (nmS (ay_ 1 0 ps).keepf i)=none:=by
  show(if nmS (nmL 1++eD_) i=fdL 0 then some (wr ((st.seen (fdL 0)).getD []) 25 (bt_ (bk1 1 l))) else st.seen (nmS (nmL 1++eD_) i))=none
  rw[h]
  match i,hi with
  | 0,_=>rw[if_neg d_]
  | 1,_=>rw[if_neg d_]
 unfold ds_
 rw[e]
 decide
end
open Go CF
def kR_:L8:=List.replicate 16 0
structure Cpd (b0 b1:Nat) (ps:List Nat) (s1:USt) (st:Wst) (ok:Bool) (l:L8):Prop where
 ex:∃(s1' S:USt) (st2 st3 st4:Wst) (P4:Pu),aT_ aF_ [(b0,sW ps),(b1,s1)] st 0 0 cpC cpP=(if ok then okX [] else snX (atS 10 3330 0),[(b0,ak_ (sW ps)),(b1,s1')],st2)∧aA_ aF_ (ak_ s1') st2=(0,S,st3)∧S.on=1∧(s1'.on≠1→ldN st2.seen s1'.keepf 2=(-1,0,[]))∧
  (cW_ (S.q 3)=none→(aT_ aF_ [(b0,ak_ (sW ps)),(b1,s1')] st2 1 3 dB_ []).1.sn.key≠6)∧(cW_ (S.q 3)≠none→(aT_ aF_ ([(b0,ak_ (sW ps)),(b1,s1')].set 1 (b1,a1_ S 3)) st3 1 3 dB_ []).1.sn.key≠6)∧
  ga_ aF_ 1 3 dB_ [] 9 [(b0,ak_ (sW ps)),(b1,s1')] st2=(okX (if ok then l else kR_),P4,st4)
theorem nl_ {q:List Nat} (h:q=bM_ [] 10496):cW_ q≠none:=by rw[h,lg_];exact Option.some_ne_none _
theorem xq_ {b0 b1:Nat} {st:Wst} {l:L8} {peers:Bool} (hne:b0≠b1) (hs:st.seen=fun _=>none) (hl:l.length=16):Cpd b0 b1 (if peers then [b1] else []) (rsB [b0]) (stW st l) false l:=by
 have er:aT_ aF_ [(b0,ak_ (sW (if peers then [b1] else []))),(b1,rsB [b0])] (stW st l) 1 3 dB_ []=(okX kR_,[(b0,ak_ (sW (if peers then [b1] else []))),(b1,ak_ (rsB [b0]))],more (stW st l) 1):=by
  rw[ph_ (b:=b1) (s:=rsB [b0]) rfl rfl rfl (show(a1_ (aG_ (ak_ (ay_ 1 0 [b0]))) 3).q 3 = [] from dF_ (by rw[gS_ d_];exact do_)) (show a4_ tabB 3 1=false by decide) rfl rfl rfl rfl]
  have:bC_ (stW st l) (fdL 1) = []:=by
   unfold bC_
   rw[(ol_ hs hl).2];rfl
  rw[this,p1_]
  rfl
 have key:(aT_ aF_ [(b0,ak_ (sW (if peers then [b1] else []))),(b1,rsB [b0])] (stW st l) 1 3 dB_ []).1.sn.key≠6:=by rw[er];exact(by decide:(0:Nat)≠6)
 have hq:(ak_ (rsB [b0])).q 3 = []:=(show(a1_ (aG_ (ak_ (ay_ 1 0 [b0]))) 3).q 3 = [] from dF_ (by rw[gS_ d_];exact do_))
 refine⟨rsB [b0],ak_ (rsB [b0]),stW st l,stW st l,more (stW st l) 1,[(b0,ak_ (sW (if peers then [b1] else []))),(b1,ak_ (rsB [b0]))],?_,dw_ rfl rfl,rfl,fun q=>absurd rfl q,fun _=>key,fun q=>absurd (by rw[hq];rfl) q,by rw[gb_ key,er];rfl⟩
 cases peers with
 | true=>exact yu_ hne
 | false=>exact tn_
theorem xr_ {b0 b1:Nat} {st:Wst} {l:L8} (hne:b0≠b1) (hs:st.seen=fun _=>none) (hl:l.length=16):Cpd b0 b1 [b1] (ay_ 1 0 [b0]) (stW st l) true l:=by
 obtain⟨c1,c2⟩:=ol_ hs hl
 have hq:(ak_ (aG_ (ay_ 1 0 [b0]))).q 3=bM_ [] 10496:=show onQ (fun _=>[]) 3=_ from if_pos d_
 have hs2:=dw_ (F:=aF_) (s:=aG_ (ay_ 1 0 [b0])) (st:=b0_ (more (more (stW st l) 2) 1) (fdL 1) 50 (bt_ (bk1 2 l))) rfl rfl
 have er:=ph_ (P:=[(b0,ak_ (sW [b1])),(b1,a1_ (ak_ (aG_ (ay_ 1 0 [b0]))) 3)]) (b:=b1) (s:=a1_ (ak_ (aG_ (ay_ 1 0 [b0]))) 3) (st:=b0_ (more (more (stW st l) 2) 1) (fdL 1) 50 (bt_ (bk1 2 l))) rfl rfl rfl (dF_ (by rw[hq];exact do_)) (if_pos (.inl rfl)) rfl rfl rfl rfl
 refine⟨aG_ (ay_ 1 0 [b0]),ak_ (aG_ (ay_ 1 0 [b0])),b0_ (more (more (stW st l) 2) 1) (fdL 1) 50 (bt_ (bk1 2 l)),b0_ (more (more (stW st l) 2) 1) (fdL 1) 50 (bt_ (bk1 2 l)),more (b0_ (more (more (stW st l) 2) 1) (fdL 1) 50 (bt_ (bk1 2 l))) 1,[(b0,ak_ (sW [b1])),(b1,ak_ (a1_ (ak_ (aG_ (ay_ 1 0 [b0]))) 3))],yv_ hne (xp_ hs) hl c1,hs2,rfl,fun q=>absurd rfl q,fun q=>absurd q (nl_ hq),fun _=>?_,?_⟩
 ·show(aT_ aF_ [(b0,ak_ (sW [b1])),(b1,a1_ (ak_ (aG_ (ay_ 1 0 [b0]))) 3)] _ 1 3 dB_ []).1.sn.key≠6
  rw[er];exact(by decide:(0:Nat)≠6)
 ·rw[tp_ (b:=b1) (s:=aG_ (ay_ 1 0 [b0])) rfl hs2 hq rfl rfl rfl rfl rfl rfl rfl]
  have:(b5_ (bC_ (b0_ (more (more (stW st l) 2) 1) (fdL 1) 50 (bt_ (bk1 2 l))) (fdL 1)) 2).d=l:=by
   rw[kg_]
   have e:bC_ (more (more (stW st l) 2) 1) (fdL 1) = []:=by
    show((stW st l).seen (fdL 1)).getD [] = []
    rw[c2];rfl
   rw[e,my_ (i:=2) n1_,if_pos rfl]
   exact xH_ hl
  rw[this]
  rfl
theorem xs_ {b0 b1:Nat} {st:Wst} {l:L8} (hs:st.seen=fun _=>none) (hl:l.length=16):Cpd b0 b1 [] (ay_ 1 0 [b0]) (stW st l) false l:=by
 have hq:(aG_ (ak_ (ay_ 1 0 [b0]))).q 3=bM_ [] 10496:=gS_ d_
 have hs2:=gc_ (s:=ak_ (ay_ 1 0 [b0])) (st:=stW st l) rfl (show ldN (stW st l).seen (ay_ 1 0 [b0]).keepf 2=_ from xp_ hs)
 have er:=ph_ (P:=[(b0,ak_ (sW [])),(b1,a1_ (aG_ (ak_ (ay_ 1 0 [b0]))) 3)]) (b:=b1) (s:=a1_ (aG_ (ak_ (ay_ 1 0 [b0]))) 3) (st:=more (stW st l) 2) rfl rfl rfl (dF_ (by rw[hq];exact do_)) (if_pos (.inl rfl)) rfl rfl rfl rfl
 refine⟨ay_ 1 0 [b0],aG_ (ak_ (ay_ 1 0 [b0])),stW st l,more (stW st l) 2,more (more (stW st l) 2) 1,[(b0,ak_ (sW [])),(b1,ak_ (a1_ (aG_ (ak_ (ay_ 1 0 [b0]))) 3))],tn_,hs2,rfl,fun _=>xp_ hs,fun q=>absurd q (nl_ hq),fun _=>?_,?_⟩
 ·show(aT_ aF_ [(b0,ak_ (sW [])),(b1,a1_ (aG_ (ak_ (ay_ 1 0 [b0]))) 3)] _ 1 3 dB_ []).1.sn.key≠6
  rw[er];exact(by decide:(0:Nat)≠6)
 ·rw[tp_ (b:=b1) (s:=ay_ 1 0 [b0]) rfl hs2 hq rfl rfl rfl rfl rfl rfl rfl]
  have:bC_ (more (stW st l) 2) (fdL 1) = []:=by
   show((stW st l).seen (fdL 1)).getD [] = []
   rw[(ol_ hs hl).2];rfl
  rw[this,p1_]
  rfl
open Go CF
def cpA (k:Nat):L8:=cpH++(List.range k).flatMap fun i=>cpU (UInt8.ofNat (48+i))
theorem xt_ {k:Nat}:cpA k++[0xe4,0,0,0,2,1,0,20,83,UInt8.ofNat (48+k)]++List.replicate 18 32++[0,0,0,16]=cpA (k+1):=by
 unfold cpA cpU
 rw[List.range_succ,List.flatMap_append,List.flatMap_cons,List.flatMap_nil,List.append_nil]
 simp only[List.append_assoc]
theorem yw_ {k:Nat} (h:k≤2):(cpA k).length=16+32*k:=by
 match k,h with
 | 0,_=>rfl
 | 1,_=>rfl
 | 2,_=>rfl
section
variable {w y:World} {pw m b0 b1:Nat} {ℓ:Nat→Option Nat} {st:Wst} {s1:USt}
theorem nm_ (d:L8):(okX d).sn.key≠6:=(by decide:(0:Nat)≠6)
theorem yx_:(snX (atS 10 3330 0)).sn.key≠6:=(by decide:(10:Nat)≠6)
theorem uz_ {data:Sl} {l:L8} {ub rb:Nat} {peers reserved:Bool} {R:Bool→W_} (hd:Rd w 1 data (bv l)) (h16:16≤data.n) (T:Tw w y ℓ pw aF_ [(b0,sW (if peers then [b1] else [])),(b1,s1)] (stW st (l.take 16)) m) (hm:m≤10000000) (Lu:LB y ℓ ub #[.pointer (some ⟨b0,0,none⟩),.pointer (some ⟨b1,0,none⟩)] bb_) {d0:Sl} (Lr:Blk y rb (rsv 0 sn0 d0).toArray aa_)
  (hC:Cpd b0 b1 (if peers then [b1] else []) s1 (stW st (l.take 16)) (peers && !reserved) (l.take 16)) (h:∀w',ac_ w w'→R true w'):mX_ data peers reserved ⟨ub,0,none⟩ ⟨rb,0,none⟩ R y:=by
 obtain⟨s1',S,st2,st3,st4,P4,e1,e2,hS,hk,hA,hB,e3⟩:=hC.ex
 have hln:l.length=data.n:=by have:=hd.len;rw[az_] at this;omega
 have hcap:=hd.cap
 have cu:∀{v:World} {ℓ':Nat→Option Nat},LB v ℓ' ub #[.pointer (some ⟨b0,0,none⟩),.pointer (some ⟨b1,0,none⟩)] bb_→v.cell? ((⟨ub,0,none⟩:Addr).add ((0:Int).toNat*1))=some (.pointer (some ⟨b0,0,none⟩))∧v.cell? ((⟨ub,0,none⟩:Addr).add ((1:Int).toNat*1))=some (.pointer (some ⟨b1,0,none⟩)):=fun q=>⟨by rw[am_,Blk.cell q.blk];rfl,by rw[am_,Blk.cell q.blk];rfl⟩
 unfold mX_
 refine⟨0,by rw[am_,Blk.cell Lr];rfl,al_ rfl ?_⟩
 refine iB_ (n:=16) aN_ bG_ rfl d_ d_ (base:=y.heap.size) (Nat.le_refl _) fun y1 o1 g1 hs1=>⟨⟨d_,by dsimp only;decide,rfl⟩,jh_ (i:=3) o1 (by dsimp only;decide) rfl fun y2 o2 k2 hs2=>⟨⟨d_,by dsimp only;decide,rfl⟩,jh_ (i:=11) o2 (by dsimp only;decide) rfl fun y3 o3 k3 hs3=>?_⟩⟩
 have g3:ac_ y y3:=(g1.keep k2 fun b hb q=>by have:=(o1.ge b q.symm).1;omega).keep k3 fun b hb q=>by have:=(o1.ge b q.symm).1;omega
 have o3:CF.Own y3 y.heap.size ae_ 1 ⟨some ⟨y.heap.size,0,none⟩,16,16⟩ (bv (cpA 0)):=by
  have e:((List.replicate 16 (Value.int .u8 0)).set 3 (.int .u8 64)).set 11 (.int .u8 28)=bv (cpA 0):=k_
  rw[←e];exact o3
 refine⟨fun p i v=>∃k:Nat,i=k∧k≤2∧Row y v p (cpA k),fun _ i _=>2-i.toNat,⟨0,rfl,d_,o3,g3⟩,?_⟩
 rintro p i v ⟨k,rfl,hk2,rp⟩
 have hkl:=yw_ hk2
 refine bh_ (y:=2) (fun hlt=>?_) (fun hge=>?_)
 ·have ev:(IntKind.wrap .u8 (IntKind.wrap .i64 (48+(k:Int))))=(((UInt8.ofNat (48+k)).toNat:Nat):Int):=by rw[w64 o_ o_,←be_];rfl
  rw[ev]
  refine rp.lit (l:=[0xe4,0,0,0,2,1,0,20,83,UInt8.ofNat (48+k)]) k_ rfl (by rw[hkl];simp;omega) fun p1 v1 r1 _=>?_
  refine⟨fun p i v=>∃j:Nat,i=j∧j≤18∧Row y v p (cpA k++[0xe4,0,0,0,2,1,0,20,83,UInt8.ofNat (48+k)]++List.replicate j 32),fun _ i _=>18-i.toNat,⟨0,rfl,d_,by rw[List.replicate_zero,List.append_nil];exact r1⟩,?_⟩
  rintro p2 i v2 ⟨j,rfl,hj,r2⟩
  refine bh_ (y:=18) (fun hlt2=>?_) (fun hge2=>?_)
  ·refine r2.lit (l:=[32]) k_ rfl (by simp[hkl];omega) fun p3 v3 r3 _=>?_
   rw[w64 o_ o_]
   refine⟨⟨j+1,o_,o_,?_⟩,by dsimp only;omega⟩
   rw[List.replicate_succ',←List.append_assoc]
   exact r3
  ·obtain rfl:j=18:=o_
   refine r2.lit (l:=[0,0,0,16]) k_ rfl (by simp[hkl];omega) fun p3 v3 r3 _=>?_
   rw[w64 o_ o_]
   rw[xt_] at r3
   exact⟨⟨k+1,o_,o_,r3⟩,by dsimp only;omega⟩
 obtain rfl:k=2:=o_
 refine rp.lit (l:=cpS) k_ rfl (by rw[hkl];decide) fun p1 v1 r1 _=>?_
 have r1:Row y v1 p1 cpP:=r1
 have L1:=Lu.go r1.grow
 have T1:=T.go r1.grow
 refine⟨⟨d_,d_⟩,_,(cu L1).1,?_⟩
 rw[show p1.n=108 from r1.n]
 refine T1.lit (l:=cpC) k_ (by rfl) d_ fun xs2 v2 gv2 T2 X2=>?_
 have Xp:RdX v2 ℓ 1 p1 (bv cpP):=T.rowN (r1.grow.trans gv2) (r1.own.grow gv2) d_
 obtain⟨c1,c2,c3,c4⟩:=jT_
 have hq0:(ak_ (sW (if peers then [b1] else []))).q 0 = []:=(show(a1_ (aG_ (ak_ (ay_ 0 0 (if peers then [b1] else [])))) 0).q 0 = [] from dF_ (by rw[gS_ d_];exact do_))
 have k1:(aT_ aF_ [(b0,sW (if peers then [b1] else [])),(b1,s1)] (stW st (l.take 16)) 0 0 cpC cpP).1.sn.key≠6:=by
  rw[e1]
  cases (peers && !reserved)
  ·exact yx_
  ·exact nm_ []
 refine Tw.does2 (i:=0) (n:=0) (l:=cpC) (lo:=cpP) (P:=[(b0,sW (if peers then [b1] else [])),(b1,s1)]) (s:=sW (if peers then [b1] else [])) rfl (dw_ rfl rfl) rfl c1 (by rw[c2];rfl) (by rw[c2];exact vV_) (fun q=>absurd rfl q) (fun _=>k1) (fun q=>absurd (by rw[hq0];rfl) q) T2 o_ d_ X2 Xp (by rw[show p1.n=108 from r1.n];decide) (gb_ k1) fun v3 ℓ3 d3 mv3 T3 dt3=>?_
 rw[e1] at T3 dt3 ⊢
 have L3:=(L1.go gv2).mv mv3
 dsimp only at T3 dt3 ⊢
 generalize hXc:(if (peers && !reserved)=true then okX [] else snX (atS 10 3330 0))=Xc at *
 have hcd:Xc.d = []:=by rw[←hXc];split<;>rfl
 refine lf_ fun qb v4 hqb gv4 hbq=>?_
 have L4:=L3.go gv4
 have T4:=T3.go gv4
 refine⟨⟨d_,d_⟩,_,(cu L4).2,?_⟩
 refine T4.lit (l:=dB_) k_ (by rfl) d_ fun xs5 v5 gv5 T5 X5=>?_
 obtain⟨f1,f2,_⟩:=oj_
 refine Tw.does2 (i:=1) (n:=3) (l:=dB_) (lo:=[]) (P:=[(b0,ak_ (sW (if peers then [b1] else []))),(b1,s1')]) (s:=s1') rfl e2 hS f1 (by rw[f2];rfl) (by rw[f2];exact qr_ d_ d_ d_ (qq_ d_ d_ d_ d_ d_ (nb_ (.inl rfl)))) hk hA hB T5 o_ d_ X5 (Tw.rowNil T5) d_ e3 fun v6 ℓ6 d6 mv6 T6 dt6=>?_
 refine lf_ fun gb v7 hgb gv7 hbg=>⟨0,by rw[am_,Blk.cell hbg];rfl,al_ rfl ?_⟩
 have nqb:ℓ3 qb=none:=T3.fresh o_
 have hbq7:Blk v7 qb (rsv Xc.st Xc.sn d3).toArray aa_:=gv7.heap (mv6.heap (gv5.heap hbq (fun q=>q)) nqb) (fun q=>q)
 have T7:=T6.go gv7
 have d6o:=dt6.1.grow gv7
 have dl:d6.n=16:=by
  rw[gK_ dt6.1]
  show(if (peers && !reserved)=true then l.take 16 else kR_).length=16
  split
  ·rw[List.length_take];omega
  ·rfl
 by_cases hpr:(peers && !reserved)=true
 ·refine ao_ hpr ?_
  rintro v8 rfl
  have g8:=aq_ v7
  have T8:=T7.go g8
  have hbq8:Blk v7.drew qb _ aa_:=g8.heap hbq7 (fun q=>q)
  have hbg8:Blk v7.drew gb _ aa_:=g8.heap hbg (fun q=>q)
  have d8:=d6o.grow g8
  generalize v7.drew=v8 at *
  rw[if_pos hpr] at hXc
  have hst:Xc.st=0:=by rw[←hXc];rfl
  have rdD:Rd v8 1 d6 (bv (l.take 16)):=by
   have:=d8.rd o_
   rw[if_pos hpr] at this
   exact this
  have rdH:=tq_ (hd.grow T8.grow) (k:=16) h16
  refine⟨fun o=>o=v8,rfl,0,(by rintro o rfl;rw[am_,Blk.cell hbq8,hst];rfl),d6,(fun _ o e=>by rw[e,am_,Blk.cell hbg8];rfl),str (l.take 16),(fun _ o e=>by rw[e];exact cj_ aN_ eH_ dq_ rdD),fun _=>⟨d_,d_,o_,o_⟩,str (l.take 16),(fun _ o e=>by rw[e];exact cj_ aN_ eH_ dq_ rdH),?_⟩
  have:(((0:Int)==0)&&(sEq (str (l.take 16)) (str (l.take 16))))=true:=by rw[jf_.2 rfl];rfl
  rw[this]
  exact h v8 T8.grow
 ·refine al_ (by simpa using hpr) ?_
  rintro v8 rfl
  have g8:=aq_ v7
  have T8:=T7.go g8
  have hbq8:Blk v7.drew qb _ aa_:=g8.heap hbq7 (fun q=>q)
  have hbg8:Blk v7.drew gb _ aa_:=g8.heap hbg (fun q=>q)
  have d8:=d6o.grow g8
  generalize v7.drew=v8 at *
  rw[if_neg hpr] at hXc
  subst hXc
  have rdD:Rd v8 1 d6 (bv kR_):=by
   have:=d8.rd o_
   rw[if_neg hpr] at this
   exact this
  refine⟨ac_ v8,ab_.refl _ _,2,(fun o g=>by rw[am_,Blk.cell (g.heap hbq8 (fun q=>q))];rfl),10,(fun _ o g=>by rw[am_,am_,Blk.cell (g.heap hbq8 (fun q=>q))];rfl),3330,(fun _ o g=>by rw[am_,am_,Blk.cell (g.heap hbq8 (fun q=>q))];rfl),d6,(fun _ o g=>by rw[am_,Blk.cell (g.heap hbg8 (fun q=>q))];rfl),str kR_,(fun _ o g=>cj_ aN_ eH_ dq_ (rdD.grow g)),?_⟩
  refine ci_ (fun(xs:Sl) o=>ac_ v8 o∧Rd o 1 xs (bv kR_)) ?_ (fun J=>⟨fun _=>?_,fun q=>by cases q⟩)
  ·rintro xs o ⟨go,ro⟩
   refine⟨go,fun z=>z=o,rfl,(by rintro z rfl;exact go),str kR_,(by rintro _ z rfl;exact cj_ aN_ eH_ dq_ ro),?_⟩
   have:((((2:Int)==2)&&((10:Int)==10))&&((3330:Int)==3330)&&(sEq (str kR_) (str kR_)))=true:=by rw[jf_.2 rfl];rfl
   rw[this]
   exact h o (T8.grow.trans go)
  ·exact iB_ (n:=16) aN_ bG_ rfl d_ d_ (base:=v8.heap.size) (Nat.le_refl _) fun o oo go _=>J _ o ⟨go,by
    have e:List.replicate 16 (Value.int .u8 0)=bv kR_:=k_
    rw[←e];exact oo.rd (by dsimp only;decide)⟩
theorem pM_ {data:Sl} {l:L8} {peers reserved:Bool} {R:Bool→W_} (hd:Rd w 1 data (bv l)) (h:∀w',ac_ w w'→R true w'):gm_ data peers reserved w R:=by
 refine cI_.calls _ _ _ _ _ (mW_ fun w1 g1=>?_)
 by_cases hsh:data.n<16
 ·exact ao_ (by simp;omega) (mW_ fun w2 g2=>h w2 (g1.trans g2))
 have h16:16≤data.n:=o_
 have hcap:=hd.cap
 have hln:l.length=data.n:=by have:=hd.len;rw[az_] at this;omega
 have hl16:(l.take 16).length=16:=by rw[List.length_take];omega
 refine al_ (by simp;omega) (k6_ fun pw D w2 g2 hW hD=>?_)
 obtain⟨ℓ0,H0,hℓ0⟩:=Sys.world0 hW
 have old:∀b,b<w.heap.size→ℓ0 b=none:=fun b hb=>hℓ0 b fun q=>by have:=hD b q;have:=g1.size;omega
 refine Tw.units (m:=0) H0 (g1.trans g2) old d_ (fun c hc=>by cases hc) ⟨Nat.le_refl _,Nat.le_refl _⟩ (fun k _=>n1_) fun w3 ℓ3 b0 b1 m3 T3=>?_
 refine ah_ fun ub w4 hub hb4 hg4 hs4=>ar_ (cells:=#[.pointer (some ⟨b0,0,none⟩),.pointer (some ⟨b1,0,none⟩)]) hb4 dQ_ rfl rfl (by simp[Value.oneCell']) fun w5 hb5 hk5 hs5=>?_
 have g35:ac_ w3 w5:=hg4.keep hk5 fun i hi q=>o_
 have T5:=T3.go g35
 have L5:LB w5 ℓ3 ub #[.pointer (some ⟨b0,0,none⟩),.pointer (some ⟨b1,0,none⟩)] bb_:=⟨hb5,T3.fresh o_⟩
 have cu:∀{v:World} {ℓ':Nat→Option Nat},LB v ℓ' ub #[.pointer (some ⟨b0,0,none⟩),.pointer (some ⟨b1,0,none⟩)] bb_→v.cell? ((⟨ub,0,none⟩:Addr).add ((0:Int).toNat*1))=some (.pointer (some ⟨b0,0,none⟩))∧v.cell? ((⟨ub,0,none⟩:Addr).add ((1:Int).toNat*1))=some (.pointer (some ⟨b1,0,none⟩)):=fun q=>⟨by rw[am_,Blk.cell q.blk];rfl,by rw[am_,Blk.cell q.blk];rfl⟩
 refine dy_ (fun v=>∃ℓ',Tw w v ℓ' pw aF_ [(b0,ay_ 0 0 (if peers then [b1] else [])),(b1,ay_ 1 0 [b0])] stN 0∧LB v ℓ' ub #[.pointer (some ⟨b0,0,none⟩),.pointer (some ⟨b1,0,none⟩)] bb_) ?_ (fun J=>?_)
 rotate_left
 ·cases peers with
  | true=>exact al_ rfl (J w5 ⟨ℓ3,T5,L5⟩)
  | false=>
   refine ao_ rfl ⟨⟨d_,d_⟩,_,(cu L5).1,⟨d_,d_⟩,_,(cu L5).1,?_⟩
   refine aH_ (cells:=#[.pointer none,.pointer (some ⟨b0,0,none⟩)]) (e:=aI_) (z:=1) (base:=w5.heap.size) k_ rfl d_ (Nat.le_refl _) fun w6 o6 g6 _=>?_
   have T6:=T5.go g6
   have hx:RdX w6 ℓ3 1 ⟨some ⟨w5.heap.size,0,none⟩,2,2⟩ ([none,some b0].map mL_):=⟨o6.rd (by dsimp only;decide),fun _ a ha=>by
    injection ha with ha
    subst ha
    have:=au_ (aU_ o6 rfl).choose_spec
    exact⟨this,T5.fresh (Nat.le_refl _)⟩⟩
   refine T6.peersX (i:=0) (b:=b0) (s:=ay_ 0 0 [b1]) rfl hx (fun c hc=>?_) (by show 2≤100;decide) fun w7 mv T7=>J w7 ⟨ℓ3,?_,(L5.go g6).mv mv⟩
   ·rcases List.mem_cons.1 hc with q|q
    ·cases q
    ·injection List.mem_singleton.1 q with q
     exact⟨_,List.mem_cons_self,q.symm⟩
   ·have e:bf_ b0 [none,some b0] = []:=by unfold bf_;simp
    rw[e] at T7
    exact T7
 rintro v1 ⟨ℓ1,T1,L1⟩
 have hne:=T1.ne
 refine dy_ (fun v=>∃ℓ' s1 st,Tw w v ℓ' pw aF_ [(b0,ay_ 0 0 (if peers then [b1] else [])),(b1,s1)] st 5000000∧LB v ℓ' ub #[.pointer (some ⟨b0,0,none⟩),.pointer (some ⟨b1,0,none⟩)] bb_∧st.seen=(fun _=>none)∧((reserved=true∧s1=rsB [b0])∨(reserved=false∧s1=ay_ 1 0 [b0]))) ?_ (fun J=>?_)
 rotate_left
 ·cases reserved with
  | false=>exact al_ rfl (J v1 ⟨ℓ1,_,_,T1.mono d_,L1,rfl,.inr ⟨rfl,rfl⟩⟩)
  | true=>
   obtain⟨p1,p2,_⟩:=ky_ (sv:=6) (kind:=0) d_
   obtain⟨q1,q2,_⟩:=ky_ (sv:=1) (kind:=3) d_
   refine ao_ rfl (pf_ (sv:=6) (kind:=0) (key:=0) (action:=5) d_ d_ fun xs ps v2 gv2 ox op=>⟨⟨d_,d_⟩,_,(cu (L1.go gv2)).2,?_⟩)
   have T2:=T1.go gv2
   have r1:=res1 (P:=[(b0,ay_ 0 0 (if peers then [b1] else [])),(b1,ay_ 1 0 [b0])]) (b:=b1) (ps:=[b0]) (st:=stN) rfl (ji_ rfl)
   have hs2:=gc_ (s:=ak_ (ay_ 1 0 [b0])) (st:=stN) rfl (show ldN stN.seen (ay_ 1 0 [b0]).keepf 2=_ from ji_ rfl)
   have hq3:(aG_ (ak_ (ay_ 1 0 [b0]))).q 3=bM_ [] 10496:=gS_ d_
   have eD:=pg_ (F:=aF_) (P:=[(b0,ay_ 0 0 (if peers then [b1] else [])),(b1,a1_ (aG_ (ak_ (ay_ 1 0 [b0]))) 3)]) (st:=more stN 2) (i:=1) (n:=3) (b:=b1) (sv:=6) (kind:=0) (key:=0) (action:=5) (lasts:=false) d_ rfl (dw_ rfl rfl) (show(a1_ (aG_ (ak_ (ay_ 1 0 [b0]))) 3).q 3 = [] from dF_ (by rw[hq3];exact do_)) rfl d_ d_ qY_.1 rfl rfl
   refine Tw.does2 (i:=1) (n:=3) (l:=g2_ 6 0) (lo:=gl_ 0 5 false) (P:=[(b0,ay_ 0 0 (if peers then [b1] else [])),(b1,ay_ 1 0 [b0])]) (s:=ay_ 1 0 [b0]) rfl hs2 rfl p1 (by rw[p2];rfl) (by rw[p2];exact se_) (fun _=>ji_ rfl) (fun q=>absurd q (nl_ hq3)) (fun _=>by
    show(aT_ aF_ [(b0,ay_ 0 0 (if peers then [b1] else [])),(b1,a1_ (aG_ (ak_ (ay_ 1 0 [b0]))) 3)] (more stN 2) 1 3 (g2_ 6 0) (gl_ 0 5 false)).1.sn.key≠6
    rw[eD];exact nm_ []) T2 d_ d_ (T1.rowN gv2 ox d_) (T1.rowN gv2 op (by rw[jS_];decide)) (by rw[gK_ op,jS_];decide) r1 fun v3 ℓ3 d3 mv3 T3 dt3=>?_
   have L3:=(L1.go gv2).mv mv3
   have T3:Tw w v3 ℓ3 pw aF_ [(b0,ay_ 0 0 (if peers then [b1] else [])),(b1,kQ_ [b0])] (more stN 2) 2000020:=T3.mono d_
   refine pf_ (sv:=1) (kind:=3) (key:=5) (action:=0) d_ d_ fun xs ps v4 gv4 ox op=>⟨⟨d_,d_⟩,_,(cu (L3.go gv4)).2,?_⟩
   have T4:=T3.go gv4
   have r2:=cf_ (P:=[(b0,ay_ 0 0 (if peers then [b1] else [])),(b1,kQ_ [b0])]) (b:=b1) (ps:=[b0]) (st:=more stN 2) rfl
   have hq4:(ak_ (kQ_ [b0])).q 3 = []:=(show(a1_ (aG_ (ak_ (ay_ 1 0 [b0]))) 3).q 3 = [] from dF_ (by rw[hq3];exact do_))
   have eD2:=pg_ (F:=aF_) (P:=[(b0,ay_ 0 0 (if peers then [b1] else [])),(b1,kQ_ [b0])]) (st:=more stN 2) (i:=1) (n:=3) (b:=b1) (s:=kQ_ [b0]) (sv:=1) (kind:=3) (key:=5) (action:=0) (lasts:=false) d_ rfl (dw_ rfl rfl) hq4 rfl d_ d_ qY_.2 rfl rfl
   refine Tw.does2 (i:=1) (n:=3) (l:=g2_ 1 3) (lo:=gl_ 5 0 false) (P:=[(b0,ay_ 0 0 (if peers then [b1] else [])),(b1,kQ_ [b0])]) (s:=kQ_ [b0]) rfl (dw_ rfl rfl) rfl q1 (by rw[q2];rfl) (by rw[q2];exact se_) (fun q=>absurd rfl q) (fun _=>by rw[eD2];exact nm_ []) (fun q=>absurd (by rw[hq4];rfl) q) T4 d_ d_ (T3.rowN gv4 ox d_) (T3.rowN gv4 op (by rw[jS_];decide)) (by rw[gK_ op,jS_];decide) r2 fun v5 ℓ5 d5 mv5 T5 dt5=>?_
   have L5:=(L3.go gv4).mv mv5
   refine lf_ fun rb v6 hrb gv6 hbr=>⟨0,by rw[am_,Blk.cell hbr];rfl,al_ rfl (J v6 ⟨ℓ5,rsB [b0],more stN 2,?_,L5.go gv6,rfl,.inl ⟨rfl,rfl⟩⟩)⟩
   exact(T5.go gv6).mono d_
 rintro v2 ⟨ℓ2,s1,st,T2,L2,hseen,hcase⟩
 have hC:Cpd b0 b1 (if peers then [b1] else []) s1 (stW st (l.take 16)) (peers && !reserved) (l.take 16):=by
  rcases hcase with⟨rfl,rfl⟩|⟨rfl,rfl⟩
  ·rw[show(peers && !true)=false by cases peers<;>rfl];exact xq_ hne hseen hl16
  ·cases peers with
   | true=>exact xr_ hne hseen hl16
   | false=>exact xs_ hseen hl16
 clear hcase
 rintro v3 rfl
 have g3:=aq_ v2
 have T3:=T2.go g3
 have L3:=L2.go g3
 generalize v2.drew=v3 at *
 obtain⟨p1,p2,_⟩:=oi_
 have hs0:=gc_ (s:=ak_ (ay_ 0 0 (if peers then [b1] else []))) (st:=st) rfl (show ldN st.seen (ay_ 0 0 (if peers then [b1] else [])).keepf 2=_ from ji_ hseen)
 have hq0:(aG_ (ak_ (ay_ 0 0 (if peers then [b1] else [])))).q 0=bM_ [] 10496:=gS_ d_
 have eW:=yt_ (lo:=l.take 16) (P:=[(b0,ay_ 0 0 (if peers then [b1] else [])),(b1,s1)]) (b:=b0) (ps:=if peers then [b1] else []) (st:=st) hl16 rfl (ji_ hseen)
 have eW1:=xI_ (lo:=l.take 16) (P:=[(b0,a1_ (aG_ (ak_ (ay_ 0 0 (if peers then [b1] else [])))) 0),(b1,s1)]) (b:=b0) (ps:=if peers then [b1] else []) (st:=more st 2) hl16 rfl
 have wr:∀{v:World} {xs:Sl} {K:A_→W_},ac_ v3 v→RdX v ℓ2 1 xs (bv e7_)→(∀v' ℓ' d,Mv v v' ℓ2 ℓ'→Tw w v' ℓ' pw aF_ [(b0,sW (if peers then [b1] else [])),(b1,s1)] (stW st (l.take 16)) 7000020→K (rsv 0 sn0 d).toArray v')→aV_ (some ⟨b0,0,none⟩) 0 xs ⟨aP_ data.A data.c 0 1,16-0,data.c-0⟩ v K:=fun {v xs K} g X hK=>by
  have T:=T3.go g
  refine Tw.does2 (i:=0) (n:=0) (l:=e7_) (lo:=l.take 16) (P:=[(b0,ay_ 0 0 (if peers then [b1] else [])),(b1,s1)]) (s:=ay_ 0 0 (if peers then [b1] else [])) rfl hs0 rfl p1 (by rw[p2];rfl) (by rw[p2];exact qr_ d_ d_ d_ (qq_ d_ d_ d_ d_ d_ (nb_ (.inr (.inl rfl))))) (fun _=>ji_ hseen) (fun q=>absurd q (nl_ hq0)) (fun _=>by
   show(aT_ aF_ [(b0,a1_ (aG_ (ak_ (ay_ 0 0 (if peers then [b1] else [])))) 0),(b1,s1)] (more st 2) 0 0 e7_ (l.take 16)).1.sn.key≠6
   rw[eW1];exact nm_ []) T d_ d_ X (T.arg (tq_ hd h16)) (by show 16-0≤_;decide) eW fun v' ℓ' d mv T' dt=>hK v' ℓ' d mv (T'.mono d_)
 have fin:∀{v:World} {ℓ':Nat→Option Nat} {rb:Nat} {d:Sl} {cs:A_},Tw w v ℓ' pw aF_ [(b0,sW (if peers then [b1] else [])),(b1,s1)] (stW st (l.take 16)) 7000020→LB v ℓ' ub #[.pointer (some ⟨b0,0,none⟩),.pointer (some ⟨b1,0,none⟩)] bb_→LB v ℓ' rb cs aa_→cs.size=10→w.heap.size≤rb→ag_ Tryz.prog (storeVar aa_ ⟨rb,0,none⟩ (.agg (rsv 0 sn0 d).toArray)) v fun y=>mX_ data peers reserved ⟨ub,0,none⟩ ⟨rb,0,none⟩ R y:=fun {v ℓ' rb d cs} T L B hc hw=>by
  refine c5_ B.blk hc fun y hb hk _=>?_
  exact uz_ hd h16 (T.res1 B hk hw) d_ (L.keep B.blk d_ hk) hb hC h
 have s03:=T3.grow.size
 have cS:=(cu L3).1
 refine⟨fun o=>o.cell? ((⟨ub,0,none⟩:Addr).add ((0:Int).toNat*1))=some (.pointer (some ⟨b0,0,none⟩)),cS,⟨d_,d_⟩,_,fun o q=>q,⟨d_,d_,o_,o_⟩,?_,?_⟩
 ·refine T3.lit (l:=e7_) k_ (by rfl) d_ fun xs v4 gv4 T4 X4=>⟨(cu (L3.go gv4)).1,?_,?_⟩
  ·refine wr gv4 X4 fun v5 ℓ5 d5 mv5 T5=>ah_ fun rb v6 hrb hb6 g6 hs6=>⟨(cu (((L3.go gv4).mv mv5).go g6)).1,?_⟩
   exact fin (T5.go g6) (((L3.go gv4).mv mv5).go g6) ⟨hb6,T5.fresh o_⟩ rfl (by have:=T5.grow.size;omega)
  ·refine ah_ fun rb v5 hrb hb5 g5 hs5=>⟨(cu ((L3.go gv4).go g5)).1,?_⟩
   refine wr (gv4.trans g5) ((Mv.grow g5).rdX X4) fun v6 ℓ6 d6 mv6 T6=>?_
   exact fin T6 (((L3.go gv4).go g5).mv mv6) (LB.mv ⟨hb5,T4.fresh o_⟩ mv6) rfl (by have:=T4.grow.size;omega)
 ·refine ah_ fun rb v4 hrb hb4 g4 hs4=>⟨(cu (L3.go g4)).1,(T3.go g4).lit (l:=e7_) k_ (by rfl) d_ fun xs v5 gv5 T5 X5=>⟨(cu ((L3.go g4).go gv5)).1,?_⟩⟩
  refine wr (g4.trans gv5) X5 fun v6 ℓ6 d6 mv6 T6=>?_
  exact fin T6 (((L3.go g4).go gv5).mv mv6) (LB.mv ⟨gv5.heap hb4 (fun q=>q),T3.fresh o_⟩ mv6) rfl o_
end
end Go.Proofs.YtpmebahhjgkflaaGreatDoor
