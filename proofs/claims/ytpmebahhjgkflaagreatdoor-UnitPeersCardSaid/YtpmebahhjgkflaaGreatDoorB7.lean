import Derived.LaidEqlPtr
import Derived.Lib.AppendStr
import Derived.Test.YtpmebahhjgkflaaGreatDoorB6
set_option maxHeartbeats 20000000
namespace Go.Proofs.YtpmebahhjgkflaaGreatDoor
open Go CF
set_option maxRecDepth 100000
section
variable {w u v:World} {N N' S:Nat→Prop} {pw i n:Nat} {a:UA} {s:USt} {st:Wst} {F:Int→Bool} {ℓ ℓ':Nat→Option Nat} {us:List (UA×USt)}
theorem fW_ {R:O_→W_} (h:∀qb w',w.heap.size≤qb→ac_ w w'→(∀N,IsQ w' N qb (fun _=>[]))→R (some ⟨qb,0,none⟩) w'):fO_ w R:=by
 refine j8_.calls _ _ (ah_ fun b w1 hb hb1 hg1 hsz1=>?_)
 refine h b w1 o_ hg1 fun N=>⟨⟨List.replicate 8 ap_,rfl,hb1,fun i hi=>?_⟩,fun _ _=>⟨d_,fun c hc=>by cases hc⟩⟩
 rw[List.getElem_replicate]
 exact RdN.nil _ _ _ _
theorem jc_ {R:O_→W_} (h:∀tb w',w.heap.size≤tb→ac_ w w'→(∀N,IsT w' N tb t0)→R (some ⟨tb,0,none⟩) w'):hQ_ w R:=by
 refine k4_.calls _ _ (ah_ fun b w1 hb hb1 hg1 hsz1=>?_)
 exact h b w1 o_ hg1 fun N=>⟨⟨ap_,hb1,RdN.nil _ _ _ _⟩,vl_⟩
def gj_ (i:e0_) (b:Int):List Value:=e1_ i++[Value.int .i64 b]
def y0_ (i:e0_) (name:ByteArray) (n:Nat):USt:=⟨i,name++dG_,name++eD_,n,true,false,-1,0,v0,v0,t0,fun _=>[],[],0,0,0,0⟩
theorem ua_ (u:World) (v p r s:ByteArray) (prot:Int) (dv sl pg tb qb:Nat):(Instr.build bo_ #[(0,.agg #[.string v,.string p,.string r,.string s,.int .u8 prot]),(1,.pointer (some ⟨dv,0,none⟩)),(2,.pointer (some ⟨sl,0,none⟩)),(3,.pointer (some ⟨pg,0,none⟩)),(4,.pointer (some ⟨tb,0,none⟩)),(5,.pointer (some ⟨qb,0,none⟩))]).run Tryz.prog u =
  .ok (.agg #[.string v,.string p,.string r,.string s,.int .u8 prot,.pointer (some ⟨dv,0,none⟩),.pointer (some ⟨sl,0,none⟩),.pointer (some ⟨pg,0,none⟩),.pointer (some ⟨tb,0,none⟩),.pointer (some ⟨qb,0,none⟩),.slice none 0 0,.int .u32 0,.int .i32 0,.int .u32 0,.int .i64 0,.int .i64 0]) u:=k_
theorem jJ_ (a b:ByteArray):(a++b).size=a.size+b.size:=ByteArray.size_append
def hI_ (name:ByteArray) (blocks:Int):Bool:=decide (name.size<1)||decide (28<name.size)||decide (blocks<1)||decide (4096<blocks)
theorem wO_ {inf:e0_} {name:ByteArray} {blocks:Int} {R:O_→Int→W_} (hi:t9_ inf)
  (hbad:hI_ name blocks=true→∀w',ac_ w w'→R none 1 w') (hform:hI_ name blocks=false→d5_ inf=false→∀w',ac_ w w'→R none 3 w')
  (hok:hI_ name blocks=false→d5_ inf=true→∀a u,ac_ w u→(∀b,a.set b→w.heap.size≤b)→(∀N:Nat→Prop,IsU u N pw a (y0_ inf name blocks.toNat))→R (some ⟨a.ub,0,none⟩) 0 u) :
  fL_ (some ⟨pw,0,none⟩) name (gj_ inf blocks).toArray w R:=by
 refine j5_.calls _ _ _ _ _ (ah_ fun cb w1 hcb hb1 hg1 hs1=>?_)
 have c5:∀{v:World},Blk v cb (gj_ inf blocks).toArray a7_→v.cell? ((⟨cb,0,none⟩:Addr).add 5)=some (.int .i64 blocks):=fun q=>by rw[am_,Blk.cell q];rfl
 have c4:∀{v:World},Blk v cb (gj_ inf blocks).toArray a7_→v.cell? (((⟨cb,0,none⟩:Addr).add 0).add 4)=some (.int .u8 (inf.prot:Int)):=fun q=>by rw[am_,am_,Blk.cell q];rfl
 have cl:∀{v:World},Blk v cb (gj_ inf blocks).toArray a7_→(loadVar lz_ ((⟨cb,0,none⟩:Addr).add 0)).run Tryz.prog v=.ok (.agg (e1_ inf).toArray) v:=fun q=>aC_ (cs:=e1_ inf) lA_ iX_ rfl (fun j x hj=>by
  rw[am_,am_,Blk.cell q,Nat.zero_add,List.getElem?_toArray]
  show(e1_ inf++[Value.int .i64 blocks])[j]?=some x
  exact(List.getElem?_append_left (List.getElem?_eq_some_iff.1 hj).1).trans hj)
 have hb1:Blk w1 cb (gj_ inf blocks).toArray a7_:=hb1
 refine⟨blocks,fun _=>c5 hb1,blocks,fun _=>c5 hb1,?_⟩
 have eb:((((decide ((name.size:Int)<1))||(decide ((name.size:Int)>28)))||(decide (blocks<1)))||(decide (blocks>4096)))=hI_ name blocks:=by
  unfold hI_
  congr 1
  congr 1
  congr 1
  ·rw[decide_eq_decide];omega
  ·rw[decide_eq_decide];omega
 rw[eb]
 cases hA:hI_ name blocks with
 | true=>exact ao_ rfl (hbad hA w1 hg1)
 | false=>
  refine al_ rfl ⟨_,cl hb1,sH_ hi fun w2 hg2=>?_⟩
  have hg02:=hg1.trans hg2
  cases hF:d5_ inf with
  | false=>exact ao_ rfl (hform hA hF w2 hg02)
  | true=>
   have hA':=hA
   unfold hI_ at hA'
   rw[Bool.or_eq_false_iff,Bool.or_eq_false_iff,Bool.or_eq_false_iff,decide_eq_false_iff_not,decide_eq_false_iff_not,decide_eq_false_iff_not,decide_eq_false_iff_not] at hA'
   obtain⟨⟨⟨hA1,hA2⟩,hA3⟩,hA4⟩:=hA'
   refine al_ rfl (al_ rfl ?_)
   rintro w3 rfl
   have hg3:=hg02.trans (aq_ w2)
   have hb3:Blk w2.drew cb (gj_ inf blocks).toArray a7_:=((hg2.trans (aq_ w2))).heap hb1 (fun q=>q)
   generalize w2.drew=w3 at *
   have zd:dG_.size=2:=d_
   have zp:eD_.size=2:=d_
   refine⟨fun o=>Blk o cb (gj_ inf blocks).toArray a7_,hb3,o_,blocks,fun o q=>c5 q,jG_ fun w4 hg4=>?_⟩
   have hb4:Blk w4 cb (gj_ inf blocks).toArray a7_:=hg4.heap hb3 (fun q=>q)
   refine⟨hb4,fun o=>Blk o cb (gj_ inf blocks).toArray a7_,hb4,fun _ q=>q,true,fun _ _=>rfl,?_⟩
   have ebk:blocks=((blocks.toNat:Nat):Int):=o_
   rw[ebk]
   rw[ebk] at hb4
   have c4:∀{v:World},Blk v cb (gj_ inf ((blocks.toNat:Nat):Int)).toArray a7_→v.cell? (((⟨cb,0,none⟩:Addr).add 0).add 4)=some (.int .u8 (inf.prot:Int)):=fun q=>by rw[←ebk] at q;exact c4 q
   have cl:∀{v:World},Blk v cb (gj_ inf ((blocks.toNat:Nat):Int)).toArray a7_→(loadVar lz_ ((⟨cb,0,none⟩:Addr).add 0)).run Tryz.prog v=.ok (.agg (e1_ inf).toArray) v:=fun q=>by rw[←ebk] at q;exact cl q
   have hn:1≤blocks.toNat∧blocks.toNat≤4096:=o_
   generalize blocks.toNat=bn at *
   refine u5_ (by rw[jJ_];omega) hn fun ps w5 hps hg5 hS5=>⟨o_,oK_ (by rw[jJ_];omega) fun sl w6 hsl hg6 hS6=>?_⟩
   rintro w7 rfl
   have hg47:ac_ w4 w6.drew:=(hg5.trans hg6).trans (aq_ w6)
   have g6d:=aq_ w6
   have hb7:Blk w6.drew cb _ a7_:=hg47.heap hb4 (fun q=>q)
   have hS7:IsS w6.drew ps pw (name++dG_) bn true:=(hg6.trans g6d).heap hS5 (fun q=>q)
   have hL7:b1_ w6.drew sl pw (name++eD_) false (-1) 0:=g6d.heap hS6 (fun q=>q)
   have hg7:=(hg3.trans hg4).trans hg47
   have sz3:=hg3.size
   have sz4:=hg4.size
   have sz5:=hg5.size
   have sz7:=hg7.size
   generalize w6.drew=w7 at *
   have fin:∀{z:World} {dv pg tb qb:Nat},ac_ w7 z→Blk z dv (cU_ ps inf.prot) bO_→IsP z pg v0 v0→(∀N,IsT z N tb t0)→(∀N,IsQ z N qb fun _=>[])→w.heap.size≤dv→w.heap.size≤pg→w.heap.size≤tb→w.heap.size≤qb→
     (∃S3:W_,S3 z∧(∀u5,S3 u5→Blk u5 cb (gj_ inf (bn:Int)).toArray a7_)∧∃g4:A_,(∀u6,S3 u6→(Instr.build bo_ #[(0,.agg (e1_ inf).toArray),(1,.pointer (some ⟨dv,0,none⟩)),(2,.pointer (some ⟨sl,0,none⟩)),(3,.pointer (some ⟨pg,0,none⟩)),(4,.pointer (some ⟨tb,0,none⟩)),(5,.pointer (some ⟨qb,0,none⟩))]).run Tryz.prog u6=.ok (.agg g4) u6)∧
      New (.cells g4 bo_) z fun a1 w012=>R (some a1) 0 w012):=fun {z dv pg tb qb} g hd hp ht hq l1 l2 l3 l4=>by
    refine⟨fun o=>Blk o cb (gj_ inf (bn:Int)).toArray a7_,g.heap hb7 (fun q=>q),fun _ q=>q,_,fun o _=>ua_ o inf.v inf.p inf.r inf.s (inf.prot:Int) dv sl pg tb qb,ah_ fun ub w8 hub hb8 hg8 hs8=>?_⟩
    have gz:=g.size
    refine hok hA hF ⟨ub,dv,ps,sl,pg,tb,qb⟩ w8 ((hg7.trans g).trans hg8) (fun b hb=>?_) fun N=>⟨⟨ap_,hb8,RdN.nil _ _ _ _⟩,hg8.heap hd (fun q=>q),(g.trans hg8).heap hS7 (fun q=>q),(g.trans hg8).heap hL7 (fun q=>q),hg8.heap hp (fun q=>q),(ht N).grow hg8,(hq N).grow hg8⟩
    rcases hb with q|q|q|q|q|q|q
    ·rw[q];show w.heap.size≤ub;omega
    ·rw[q];exact l1
    ·rw[q];show w.heap.size≤ps;omega
    ·rw[q];show w.heap.size≤sl;omega
    ·rw[q];exact l2
    ·rw[q];exact l3
    ·rw[q];exact l4
   refine⟨fun o=>Blk o cb (gj_ inf (bn:Int)).toArray a7_,hb7,(e1_ inf).toArray,fun o q=>cl q,(inf.prot:Int),fun o q=>c4 q,?_,?_⟩
   ·refine ah_ fun dv z1 hdv hd1 h1 s1=>⟨h1.heap hb7 (fun q=>q),jG_ fun z2 h2=>⟨(h1.trans h2).heap hb7 (fun q=>q),gM_ fun pg z3 h3 lp hp=>⟨((h1.trans h2).trans h3).heap hb7 (fun q=>q),jc_ fun tb z4 lt h4 ht=>⟨(((h1.trans h2).trans h3).trans h4).heap hb7 (fun q=>q),fW_ fun qb z5 lq h5 hq=>?_⟩⟩⟩⟩
    have e1:=h1.size
    have e2:=h2.size
    have e3:=h3.size
    have e4:=h4.size
    exact⟨((((h1.trans h2).trans h3).trans h4).trans h5).heap hb7 (fun q=>q),fin ((((h1.trans h2).trans h3).trans h4).trans h5) ((((h2.trans h3).trans h4).trans h5).heap hd1 (fun q=>q)) ((h4.trans h5).heap hp (fun q=>q)) (fun N=>(ht N).grow h5) hq o_ o_ o_ o_⟩
   ·refine jG_ fun z1 h1=>⟨h1.heap hb7 (fun q=>q),?_,gM_ fun pg z2 h2 lp hp=>⟨(h1.trans h2).heap hb7 (fun q=>q),?_,jc_ fun tb z3 lt h3 ht=>⟨((h1.trans h2).trans h3).heap hb7 (fun q=>q),?_,fW_ fun qb z4 lq h4 hq=>⟨(((h1.trans h2).trans h3).trans h4).heap hb7 (fun q=>q),?_⟩⟩⟩⟩
    ·refine ah_ fun dv z2 hdv hd1 h2 s1=>⟨(h1.trans h2).heap hb7 (fun q=>q),gM_ fun pg z3 h3 lp hp=>⟨((h1.trans h2).trans h3).heap hb7 (fun q=>q),jc_ fun tb z4 lt h4 ht=>⟨(((h1.trans h2).trans h3).trans h4).heap hb7 (fun q=>q),fW_ fun qb z5 lq h5 hq=>?_⟩⟩⟩
     have e1:=h1.size
     have e2:=h2.size
     have e3:=h3.size
     have e4:=h4.size
     exact⟨((((h1.trans h2).trans h3).trans h4).trans h5).heap hb7 (fun q=>q),fin ((((h1.trans h2).trans h3).trans h4).trans h5) (((h3.trans h4).trans h5).heap hd1 (fun q=>q)) ((h4.trans h5).heap hp (fun q=>q)) (fun N=>(ht N).grow h5) hq o_ o_ o_ o_⟩
    ·refine ah_ fun dv z3 hdv hd1 h3 s1=>⟨((h1.trans h2).trans h3).heap hb7 (fun q=>q),jc_ fun tb z4 lt h4 ht=>⟨(((h1.trans h2).trans h3).trans h4).heap hb7 (fun q=>q),fW_ fun qb z5 lq h5 hq=>?_⟩⟩
     have e1:=h1.size
     have e2:=h2.size
     have e3:=h3.size
     have e4:=h4.size
     exact⟨((((h1.trans h2).trans h3).trans h4).trans h5).heap hb7 (fun q=>q),fin ((((h1.trans h2).trans h3).trans h4).trans h5) ((h4.trans h5).heap hd1 (fun q=>q)) (((h3.trans h4).trans h5).heap hp (fun q=>q)) (fun N=>(ht N).grow h5) hq o_ o_ o_ o_⟩
    ·refine ah_ fun dv z4 hdv hd1 h4 s1=>⟨(((h1.trans h2).trans h3).trans h4).heap hb7 (fun q=>q),fW_ fun qb z5 lq h5 hq=>?_⟩
     have e1:=h1.size
     have e2:=h2.size
     have e3:=h3.size
     have e4:=h4.size
     exact⟨((((h1.trans h2).trans h3).trans h4).trans h5).heap hb7 (fun q=>q),fin ((((h1.trans h2).trans h3).trans h4).trans h5) (h5.heap hd1 (fun q=>q)) (((h3.trans h4).trans h5).heap hp (fun q=>q)) (fun N=>((ht N).grow h4).grow h5) hq o_ o_ o_ o_⟩
    ·refine ah_ fun dv z5 hdv hd1 h5 s1=>?_
     have e1:=h1.size
     have e2:=h2.size
     have e3:=h3.size
     have e4:=h4.size
     exact⟨((((h1.trans h2).trans h3).trans h4).trans h5).heap hb7 (fun q=>q),fin ((((h1.trans h2).trans h3).trans h4).trans h5) hd1 (((h3.trans h4).trans h5).heap hp (fun q=>q)) (fun N=>((ht N).grow h4).grow h5) (fun N=>(hq N).grow h5) o_ o_ o_ o_⟩
end
open Go CF
section
variable {w u v:World} {N N' S:Nat→Prop} {pw i n:Nat} {a:UA} {s:USt} {st:Wst} {F:Int→Bool} {ℓ ℓ':Nat→Option Nat} {us:List (UA×USt)}
theorem rS_ {P:Program} {tp te:TypeId} {j:TypeInfo} {x y:Operand} (w:World) (a:Addr) (hp:P.underlying tp=some (.pointer te)) (hte:P.info? te=some j) :
  (do eqGuard .neq tp x y (.pointer (some a)) (.pointer (some a));binOp .neq tp (.pointer (some a)) (.pointer (some a)):Sem Value).run P w=.ok (.bool false) w:=by
 have h:∀d:Nat,(Op.equalIn (d+1) tp (.pointer (some a)) (.pointer (some a))).run P w=.ok true w:=fun d=>by
  simp[Op.equalIn,run_underlying hp,sizeOf,typeInfo,hte,run_sameAddr_same]
 simp only[binOp,eqGuard]
 simp[Op.equal,Op.maxDepth,h 9999]
theorem qD_ {P:Program} {tp te:TypeId} {j:TypeInfo} {x y:Operand} {a b:Addr} {ca cb:A_} {ta tb:TypeId} (w:World) (hp:P.underlying tp=some (.pointer te)) (hte:P.info? te=some j) (hsz:j.size≠0)
  (hne:a≠b) (ha:w.heap[a.block]?=some (.cells ca ta (0,0))) (hb:w.heap[b.block]?=some (.cells cb tb (0,0))) :
  (do eqGuard .neq tp x y (.pointer (some a)) (.pointer (some b));binOp .neq tp (.pointer (some a)) (.pointer (some b)):Sem Value).run P w=.ok (.bool true) w:=by
 have h:∀d:Nat,(Op.equalIn (d+1) tp (.pointer (some a)) (.pointer (some b))).run P w=.ok false w:=fun d=>by
  simp[Op.equalIn,run_underlying hp,sizeOf,typeInfo,hte,hsz,run_sameAddr_other w hne ha hb]
 simp only[binOp,eqGuard]
 simp[Op.equal,Op.maxDepth,h 9999]
theorem mc_:Tryz.prog.underlying aI_=some (.pointer bo_):=k_
theorem vw_:∃j,Tryz.prog.info? bo_=some j∧j.size≠0:=by
 obtain⟨j,hj,e⟩:=Option.map_eq_some_iff.1 sp_
 refine⟨j,hj,?_⟩
 simp only[Prod.mk.injEq] at e
 rw[e.2.1];decide
def mL_ (x:Option Nat):Value:=.pointer (x.map fun b=>⟨b,0,none⟩)
def bf_ (b:Nat) (xs:List (Option Nat)):List Nat:=xs.filterMap fun x=>match x with|some c=>if c=b then none else some c|none=>none
theorem rT_ (b:Nat) (l:List (Option Nat)) (x:Option Nat):bf_ b (l++[x])=bf_ b l++(match x with|some c=>if c=b then [] else [c]|none=>[]):=by
 unfold bf_
 rw[List.filterMap_append]
 congr 1
 cases x with
 | none=>rfl
 | some c=>
  by_cases q:c=b
  ·simp[q]
  ·simp[q]
theorem sI_ (b:Nat) (l:List (Option Nat)):(bf_ b l).length≤l.length:=List.length_filterMap_le _ _
theorem rU_ (w:World) (b:Nat):(Instr.buildSlice jt_ 1 #[(0,.pointer (some ⟨b,0,none⟩))]).run Tryz.prog w=.ok (.slice (some ⟨w.heap.size,0,none⟩) 1 1) (w.alloc (.cells #[.pointer (some ⟨b,0,none⟩)] aI_)):=k_
theorem lY_ {p:Sl} {xs:List (Option Nat)} {R:W_} (H:Sys w ℓ pw st F us) (hi:i<us.length) (he:us[i]=(a,s)) (hp:RdX w ℓ 1 p (xs.map mL_)) (hx:∀c,some c∈xs→∃(j:Nat) (hj:j<us.length),us[j].1.ub=c) (hxs:xs.length≤1000)
  (hR:∀u,Mv w u ℓ ℓ→Sys u ℓ pw st F (us.set i (a,{s with peers:=bf_ a.ub xs}))→R u):cx_ (some ⟨a.ub,0,none⟩) p w R:=by
 refine eU_.calls _ _ _ _ (al_ rfl ⟨rfl,?_⟩)
 obtain⟨hU,hown⟩:=H.at hi he
 obtain⟨z1,z2,z3,z4,z5,z6,z7⟩:=dC_ a
 have hpn:xs.length=p.n:=by have:=hp.rd.len;rw[List.length_map] at this;omega
 have sf:∀{x:World},bg_ x (fun k=>ℓ k≠none) fun b=>b=a.ub:=bg_.sub fun b _ q=>by rw[q,hown _ z1];exact Option.some_ne_none _
 obtain⟨P,hP1,hP2⟩:=hU.unit
 have mk:∀{v:World} {P:Sl} {l:List Nat},l.length≤1000→ab_ (fun b=>b=a.ub) w v→Blk v a.ub (dc_ a P {s with peers:=l}) bo_→CF.Own v w.heap.size aI_ 1 P (l.map ptr)→Mv w v ℓ ℓ∧Sys v ℓ pw st F (us.set i (a,{s with peers:=l})):=fun {v P l} hl k hb ho=>by
  have hn:P.n=l.length:=by have:=ho.len;rw[List.length_map] at this;omega
  have hUv:IsU v (fun k=>ℓ k≠none) pw a {s with peers:=l}:=hU.unitC (on:=s.on) (lk:=s.lock) (fl:=s.fault) (ct:=s.count) (ps:=l) k sf (fun b _ hne q=>hne q) (fun _ q=>.inl q) ⟨P,hb,ho.rdN o_ H.lt⟩
  exact H.putA hi he k (fun b _ q=>by rw[q];exact z1) hUv
 rw[show(gA (some (⟨a.ub,0,none⟩:Addr))).add 10=⟨a.ub,10,none⟩ by rw[gA,am_]]
 refine a2_ hP1 (by show 10<16;decide) rfl fun w1 hb1 hk1 hs1=>?_
 refine⟨fun x v=>∃(j:Nat) (P:Sl),x=j∧j≤xs.length∧ab_ (fun b=>b=a.ub) w v∧Blk v a.ub (dc_ a P {s with peers:=bf_ a.ub (xs.take j)}) bo_∧CF.Own v w.heap.size aI_ 1 P ((bf_ a.ub (xs.take j)).map ptr),fun x _=>p.n-x.toNat,⟨0,ap_,rfl,Nat.zero_le _,hk1,hb1,aK_ _ _ _ _⟩,?_⟩
 rintro x v ⟨j,P1,rfl,hj,hkv,hbv,hov⟩
 have hlen:=sI_ a.ub (xs.take j)
 have htl:(xs.take j).length≤j:=by rw[List.length_take];omega
 have hP1n:(bf_ a.ub (xs.take j)).length=P1.n:=by have:=hov.len;rw[List.length_map] at this;omega
 obtain⟨hm,Hv⟩:=mk o_ hkv hbv hov
 refine bh_ (fun hltj=>?_) (fun hge=>?_)
 ·have hjl:j<xs.length:=o_
  have htk:xs.take (j+1)=xs.take j++[xs[j]]:=List.take_succ_eq_append_getElem hjl
  refine dy_ (fun v'=>∃P:Sl,ab_ (fun b=>b=a.ub) w v'∧Blk v' a.ub (dc_ a P {s with peers:=bf_ a.ub (xs.take (j+1))}) bo_∧CF.Own v' w.heap.size aI_ 1 P ((bf_ a.ub (xs.take (j+1))).map ptr)) (fun v' hv=>?_) (fun J=>?_)
  ·obtain⟨P,h1,h2,h3⟩:=hv
   rw[w64 o_ o_]
   exact⟨⟨j+1,P,o_,o_,h1,h2,h3⟩,by dsimp only;omega⟩
  rw[htk,rT_] at J
  obtain⟨ha,hc⟩:=iD_ (hm.rdX hp).rd (i:=j) (by rw[List.length_map];exact hjl)
  rw[List.getElem_map] at hc
  refine⟨⟨o_,o_,ha⟩,_,by rw[Int.toNat_natCast];exact hc,?_⟩
  have hmem:xs[j]∈xs:=List.getElem_mem hjl
  generalize xs[j]=xj at *
  cases xj with
  | none=>exact⟨fun q=>by simp at q,none,fun q=>by simp at q,false,fun q=>by simp at q,al_ rfl (J v ⟨P1,hkv,by rw[List.append_nil];exact hbv,by rw[List.append_nil];exact hov⟩)⟩
  | some c=>
   obtain⟨jj,hjj,hub⟩:=hx c hmem
   have hjj':jj<(us.set i (a,{s with peers:=bf_ a.ub (xs.take j)})).length:=by rw[List.length_set];exact hjj
   have hUj:=(Hv.U jj hjj').1
   have hubj:((us.set i (a,{s with peers:=bf_ a.ub (xs.take j)}))[jj]'hjj').1.ub=c:=by
    by_cases e:jj=i
    ·subst e
     rw[List.getElem_set_self]
     rw[he] at hub;exact hub
    ·rw[List.getElem_set_ne (fun q=>e q.symm)];exact hub
   generalize (us.set i (a,{s with peers:=bf_ a.ub (xs.take j)}))[jj]'hjj'=uj at hUj hubj
   obtain⟨aj,sj⟩:=uj
   dsimp only at hUj hubj
   subst hubj
   obtain⟨P2,hP21,_⟩:=hUj.unit
   obtain⟨ji,hji,hjs⟩:=vw_
   refine⟨fun _=>rfl,some ⟨aj.dv,0,none⟩,fun _=>hUj.cellU fun P=>rfl,?_⟩
   by_cases e:aj.ub=a.ub
   ·refine⟨false,fun _=>by rw[e];exact rS_ v _ mc_ hji,al_ rfl (J v ⟨P1,hkv,?_,?_⟩)⟩
    ·dsimp only;rw[if_pos e,List.append_nil];exact hbv
    ·dsimp only;rw[if_pos e,List.append_nil];exact hov
   ·refine⟨true,fun _=>qD_ v mc_ hji hjs (fun q=>e (congrArg Addr.block q)) hP21 hbv,ao_ rfl ⟨rfl,P1,?_,?_⟩⟩
    ·rw[hbv.cell];rfl
    dsimp only at J
    rw[if_neg e] at J
    refine aH_ (cells:=#[.pointer (some ⟨aj.ub,0,none⟩)]) (e:=aI_) (z:=1) (base:=0) (rU_ _ _) rfl d_ (Nat.zero_le _) fun v1 ho1 hg1 _=>?_
    have sz0:=hkv.size
    have sz1:=hg1.size
    refine aS_ ju_ mb_ rfl d_ d_ (hov.grow hg1) (ho1.rd (by show 1≤_;decide)) (by simp[Value.oneCell']) (by show(P1.n+1)*8≤_;omega) o_ fun P3 v2 hn3 ho3 hk3 hat3=>?_
    have hb1v:Blk v1 a.ub (dc_ a P1 {s with peers:=bf_ a.ub (xs.take j)}) bo_:=hg1.heap hbv (fun q=>q)
    have hne3:∀b,some b=P1.blk→b≠a.ub∧w.heap.size≤b:=fun b hb=>by
     obtain⟨cur,hc⟩:=aU_ (hov.grow hg1) hb.symm
     refine⟨fun q=>?_,(hov.ge b hb.symm).1⟩
     subst q
     exact absurd (bs_ hb1v hc) d_
    have hb2:Blk v2 a.ub (dc_ a P1 {s with peers:=bf_ a.ub (xs.take j)}) bo_:=hk3.heap hb1v fun q=>(hne3 _ q).1 rfl
    refine⟨rfl,?_⟩
    refine a2_ hb2 (by show 10<16;decide) rfl fun v3 hb3 hk33 hs3=>J v3 ⟨P3,?_,hb3,?_⟩
    ·exact((hkv.grow hg1).trans hk3 fun b hb q=>by have:=(hne3 b q).2;omega).trans hk33 fun _ _ q=>q
    ·have ho3':CF.Own v2 w.heap.size aI_ 1 P3 ((bf_ a.ub (xs.take j)++[aj.ub]).map ptr):=by rw[List.map_append];exact ho3
     refine ho3'.keep hk33 fun b hb q=>?_
     obtain⟨cur,hc⟩:=aU_ ho3' hb
     subst q
     exact absurd (bs_ hb2 hc) d_
 ·have:j=xs.length:=o_
  subst this
  rw[List.take_length] at Hv
  exact hR v hm Hv
end
open Go CF
section
variable {w u v:World} {N N' S D:Nat→Prop} {pw i n:Nat} {a:UA} {s:USt} {st:Wst} {F:Int→Bool} {ℓ ℓ':Nat→Option Nat} {us:List (UA×USt)}
open Classical in
theorem Sys.world0 (h:a3_ w pw D st F):∃ℓ:Nat→Option Nat,Sys w ℓ pw st F []∧∀b,¬D b→ℓ b=none:=
 ⟨fun b=>if D b then some 0 else none,⟨⟨D,h,fun k hk=>if_pos hk⟩,fun i hi=>absurd hi (Nat.not_lt_zero i),fun k hk=>by
  by_cases q:D k
  ·exact h.lt q
  ·exact absurd (if_neg q) hk⟩,fun b hb=>if_neg hb⟩
def kM_ (i prot:Nat):e0_:=⟨s_V,s_P,s_1,if i=0 then tC_ else tD_,prot⟩
def nmL (i:Nat):ByteArray:=if i=0 then s_a else s_b
theorem yb_ (i prot:Nat):t9_ (kM_ i prot):=by
 refine⟨by show s_V.size≤_;decide,by show s_P.size≤_;decide,by show s_1.size≤_;decide,?_⟩
 show(if i=0 then tC_ else tD_).size≤_
 split<;>decide
theorem qf_ {i prot:Nat} (hi:i<2) (h:prot≤3):d5_ (kM_ i prot)=true:=by
 have:∀(i:Fin 2) (p:Fin 4),d5_ (kM_ i.val p.val)=true:=by decide +kernel
 exact this ⟨i,hi⟩ ⟨prot,o_⟩
theorem yc_ {i:Nat} (hi:i<2):hI_ (nmL i) 24=false:=by
 have:∀i:Fin 2,hI_ (nmL i.val) 24=false:=by decide +kernel
 exact this ⟨i,hi⟩
theorem wP_ (w:World) (x y:ByteArray):(Instr.buildSlice gq_ 2 #[(0,.string x),(1,.string y)]).run Tryz.prog w=.ok (.slice (some ⟨w.heap.size,0,none⟩) 2 2) (w.alloc (.cells #[.string x,.string y] bQ_)):=k_
theorem rV_ {x y:ByteArray} (hb:Blk w n #[.string x,.string y] bQ_) (hi:i<2):w.cell? ((gA (some (⟨n,0,none⟩:Addr))).add ((i:Int).toNat*1))=some (.string (if i=0 then x else y)):=by
 rw[gA,am_,hb.cell,Int.toNat_natCast]
 match i,hi with
 | 0,_=>rfl
 | 1,_=>rfl
theorem mM_ {x y:ByteArray} {K:Sl→W_} (h:∀b w',ac_ w w'→Blk w' b #[.string x,.string y] bQ_→K ⟨some ⟨b,0,none⟩,2,2⟩ w'):ai_ Tryz.prog .sl (Instr.buildSlice gq_ 2 #[(0,.string x),(1,.string y)]) w K:=by
 refine⟨⟨some ⟨w.heap.size,0,none⟩,2,2⟩,_,wP_ w x y,h _ _ (eS_ w _) ?_⟩
 exact heap_alloc_new w _
theorem nG_ {prot:Nat} {R:A_→W_} (hi:i<2) (h:∀w',ac_ w w'→R (e1_ (kM_ i prot)).toArray w'):cn_ (i:Int) (prot:Int) w R:=by
 refine ep_.calls _ _ _ _ (ah_ fun ab w1 hab hb1 hg1 hs1=>mM_ fun b w2 hg2 hb2=>?_)
 refine⟨⟨o_,by show(i:Int)<2;omega,rfl⟩,_,rV_ hb2 hi,?_⟩
 refine ar_ (cells:=(e1_ (kM_ i prot)).toArray) (hg2.heap hb1 (fun q=>q)) iX_ rfl rfl (by simp[e1_,Value.oneCell']) fun w3 hb3 hk3 hs3=>⟨_,aC_ (cs:=e1_ (kM_ i prot)) lA_ iX_ rfl (ax_ hb3),h w3 ((hg1.trans hg2).keep hk3 fun i hi q=>o_)⟩
theorem vx_ (u:World) (v p r s:ByteArray) (prot n:Int):(Instr.build a7_ #[(0,.agg #[.string v,.string p,.string r,.string s,.int .u8 prot]),(1,.int .i64 n)]).run Tryz.prog u=.ok (.agg #[.string v,.string p,.string r,.string s,.int .u8 prot,.int .i64 n]) u:=k_
def ay_ (i prot:Nat) (ps:List Nat):USt:={y0_ (kM_ i prot) (nmL i) 24 with peers:=ps}
theorem Sys.ub_ne (H:Sys w ℓ pw st F us) {i j:Nat} (hi:i<us.length) (hj:j<us.length) (h:i≠j):us[i].1.ub≠us[j].1.ub:=fun q=>by
 have h1:=(H.U i hi).2 _ (dC_ _).1
 have h2:=(H.U j hj).2 _ (dC_ _).1
 rw[q,h2] at h1
 injection h1 with h1
 omega
theorem yd_ (w:World) (x y:O_):(Instr.buildSlice jt_ 3 #[(0,.pointer x),(1,.pointer none),(2,.pointer y)]).run Tryz.prog w=.ok (.slice (some ⟨w.heap.size,0,none⟩) 3 3) (w.alloc (.cells #[.pointer x,.pointer none,.pointer y] aI_)):=k_
theorem oX_ {prot:Nat} {R:A_→W_} (H:Sys w ℓ pw st F []) (hpr:prot≤3)
  (hR:∀u ℓ' a0 a1,Mv w u ℓ ℓ'→Sys u ℓ' pw st F [(a0,ay_ 0 prot [a1.ub]),(a1,ay_ 1 prot [a0.ub])]→R #[.pointer (some ⟨a0.ub,0,none⟩),.pointer (some ⟨a1.ub,0,none⟩)] u):cL_ (some ⟨pw,0,none⟩) (prot:Int) w R:=by
 refine dS_.calls _ _ _ _ (ah_ fun rb w1 hrb hr1 hg1 hs1=>ah_ fun qb w2 hqb hq2 hg2 hs2=>?_)
 have hg02:=hg1.trans hg2
 have H2:=H.grow hg02
 have hrn:ℓ rb=none:=H.fresh o_
 have hqn:ℓ qb=none:=H.fresh o_
 have hr2:Blk w2 rb #[.pointer none,.pointer none] bb_:=hg2.heap hr1 (fun q=>q)
 have lq:w.heap.size≤qb:=o_
 have neq:rb≠qb:=o_
 let St:World→(Nat→Option Nat)→List (UA×USt)→A_→Prop:=fun v ℓ' us cs=>Mv w v ℓ ℓ'∧Sys v ℓ' pw st F us∧ℓ' qb=none∧ℓ' rb=none∧Blk v rb #[.pointer none,.pointer none] bb_∧Blk v qb cs bb_
 have St_go:∀{v v':World} {ℓ' ℓ'':Nat→Option Nat} {us us':List (UA×USt)} {cs:A_},St v ℓ' us cs→Mv v v' ℓ' ℓ''→Sys v' ℓ'' pw st F us'→St v' ℓ'' us' cs:=fun {v v' ℓ' ℓ'' us us' cs} h m H'=>by
  obtain⟨m0,H0,n1,n2,b1,b2⟩:=h
  exact⟨m0.trans m,H',(m.lab _ (au_ b2)).trans n1,(m.lab _ (au_ b1)).trans n2,m.heap b1 n2,m.heap b2 n1⟩
 have S2:St w2 ℓ [] #[.pointer none,.pointer none]:=⟨Mv.grow hg02,H2,hqn,hrn,hr2,hq2⟩
 have body:∀{v v4:World} {k:Nat} {ℓ':Nat→Option Nat} {us:List (UA×USt)} {cs:A_} {C:W_},k<2→cs.size=2→St v ℓ' us cs→ac_ v v4→
   (∀a' ℓ5 u',St u' ℓ5 (us++[(a',ay_ k prot [])]) (cs.setIfInBounds k (.pointer (some ⟨a'.ub,0,none⟩)))→C u')→
   fL_ (some ⟨pw,0,none⟩) (nmL k) (gj_ (kM_ k prot) 24).toArray v4 fun p1 n1 w010=>(0≤(k:Int)∧(k:Int)<(2:Int))∧Put ((⟨qb,0,none⟩:Addr).add ((k:Int).toNat*1)) (.pointer p1) w010 C:=by
  intro v v4 k ℓ' us cs C hk2 hcs hS hg4 hC
  refine wO_ (yb_ k prot) (fun q=>by rw[yc_ hk2] at q;cases q) (fun _ q=>by rw[qf_ hk2 hpr] at q;cases q) fun _ _ a' u' hgu ha hU=>⟨⟨o_,o_⟩,?_⟩
  obtain⟨ℓ5,m5,H5⟩:=(hS.2.1.grow hg4).add hgu ha hU
  obtain⟨m0,_,n1,n2,b1,b2⟩:=St_go hS ((Mv.grow hg4).trans m5) H5
  rw[am_,Int.toNat_natCast,Nat.mul_one,Nat.zero_add]
  refine a2_ b2 o_ rfl fun u3 hb3 hk3 hs3=>hC a' ℓ5 u3 ⟨m0.loc hk3 fun b hb q=>o_,H5.local1 b2 n1 hk3 (e3_ d_ d_ d_) d_,n1,n2,hk3.heap b1 neq,hb3⟩
 have round:∀{v:World} {k:Nat} {ℓ':Nat→Option Nat} {us:List (UA×USt)} {cs:A_} {C:W_},k<2→cs.size=2→St v ℓ' us cs→
   (∀a' ℓ5 u',St u' ℓ5 (us++[(a',ay_ k prot [])]) (cs.setIfInBounds k (.pointer (some ⟨a'.ub,0,none⟩)))→C u')→
   ∀w03,w03=v.drew→∃S:W_,S w03∧(ai_ Tryz.prog .sl (Instr.buildSlice gq_ 2 #[(0,.string s_a),(1,.string s_b)]) w03 fun xs w04=>S w04∧(0≤(k:Int)∧(k:Int)<(xs.n:Int)∧xs.A.isSome=true)∧∃S1:W_,S1 w04∧(∀u1,S1 u1→S u1)∧∃s:ByteArray,(∀u2,S1 u2→u2.cell? ((gA xs.A).add ((k:Int).toNat*1))=some (.string s))∧cn_ (k:Int) (prot:Int) w04 fun g w05=>S1 w05∧∃S2:W_,S2 w05∧(∀u3,S2 u3→S1 u3)∧∃g1:A_,(∀u4,S2 u4→(Instr.build a7_ #[(0,.agg g),(1,.int .i64 24)]).run Tryz.prog u4=.ok (.agg g1) u4)∧fL_ (some ⟨pw,0,none⟩) s g1 w05 fun p n w06=>(0≤(k:Int)∧(k:Int)<(2:Int))∧Put ((⟨qb,0,none⟩:Addr).add ((k:Int).toNat*1)) (.pointer p) w06 C)∧
    cn_ (k:Int) (prot:Int) w03 fun g2 w08=>S w08∧∃S3:W_,S3 w08∧(∀u5,S3 u5→S u5)∧∃g3:A_,(∀u6,S3 u6→(Instr.build a7_ #[(0,.agg g2),(1,.int .i64 24)]).run Tryz.prog u6=.ok (.agg g3) u6)∧ai_ Tryz.prog .sl (Instr.buildSlice gq_ 2 #[(0,.string s_a),(1,.string s_b)]) w08 fun xs1 w09=>S3 w09∧(0≤(k:Int)∧(k:Int)<(xs1.n:Int)∧xs1.A.isSome=true)∧∃S4:W_,S4 w09∧(∀u7,S4 u7→S3 u7)∧∃s1:ByteArray,(∀u8,S4 u8→u8.cell? ((gA xs1.A).add ((k:Int).toNat*1))=some (.string s1))∧fL_ (some ⟨pw,0,none⟩) s1 g3 w09 fun p1 n1 w010=>(0≤(k:Int)∧(k:Int)<(2:Int))∧Put ((⟨qb,0,none⟩:Addr).add ((k:Int).toNat*1)) (.pointer p1) w010 C:=by
  intro v k ℓ' us cs C hk2 hcs hS hC w03 e3
  subst e3
  have hgd:=aq_ v
  have hbld:∀u:World,(Instr.build a7_ #[(0,.agg (e1_ (kM_ k prot)).toArray),(1,.int .i64 24)]).run Tryz.prog u=.ok (.agg (gj_ (kM_ k prot) 24).toArray) u:=fun u=>vx_ u _ _ _ _ _ _
  refine⟨fun _=>True,trivial,?_,?_⟩
  ·refine mM_ fun b v4 hg4 hb4=>⟨trivial,⟨o_,by show(k:Int)<2;omega,rfl⟩,fun o=>Blk o b #[.string s_a,.string s_b] bQ_,hb4,fun _ _=>trivial,_,fun o q=>rV_ q hk2,nG_ hk2 fun v5 hg5=>?_⟩
   have hb5:Blk v5 b #[.string s_a,.string s_b] bQ_:=hg5.heap hb4 (fun q=>q)
   exact⟨hb5,fun o=>Blk o b #[.string s_a,.string s_b] bQ_,hb5,fun _ q=>q,_,fun o _=>hbld o,body hk2 hcs hS ((hgd.trans hg4).trans hg5) hC⟩
  ·refine nG_ hk2 fun v4 hg4=>⟨trivial,fun _=>True,trivial,fun _ _=>trivial,_,fun o _=>hbld o,mM_ fun b v5 hg5 hb5=>?_⟩
   exact⟨trivial,⟨o_,by show(k:Int)<2;omega,rfl⟩,fun o=>Blk o b #[.string s_a,.string s_b] bQ_,hb5,fun _ _=>trivial,_,fun o q=>rV_ q hk2,body hk2 hcs hS ((hgd.trans hg4).trans hg5) hC⟩
 refine⟨fun x v=>(x=0∧St v ℓ [] #[.pointer none,.pointer none])∨(x=1∧∃ℓ' a0,St v ℓ' [(a0,ay_ 0 prot [])] #[.pointer (some ⟨a0.ub,0,none⟩),.pointer none])∨(x=2∧∃ℓ' a0 a1,St v ℓ' [(a0,ay_ 0 prot []),(a1,ay_ 1 prot [])] #[.pointer (some ⟨a0.ub,0,none⟩),.pointer (some ⟨a1.ub,0,none⟩)]),
  fun x _=>2-x.toNat,.inl ⟨rfl,S2⟩,?_⟩
 rintro x v (⟨rfl,hS⟩|⟨rfl,ℓ',a0,hS⟩|⟨rfl,ℓ',a0,a1,hS⟩)
 ·exact ao_ rfl (round (k:=0) d_ rfl hS fun a' ℓ5 u' h=>⟨.inr (.inl ⟨rfl,ℓ5,a',h⟩),by show(2-(IntKind.wrap .i64 (0+1)).toNat<2-(0:Int).toNat);decide⟩)
 ·exact ao_ rfl (round (k:=1) d_ rfl hS fun a' ℓ5 u' h=>⟨.inr (.inr ⟨rfl,ℓ5,a0,a',h⟩),by show(2-(IntKind.wrap .i64 (1+1)).toNat<2-(1:Int).toNat);decide⟩)
 refine al_ rfl ?_
 obtain⟨m0,Hv,n1,n2,b1,b2⟩:=hS
 have c0:∀{v:World},Blk v qb #[.pointer (some ⟨a0.ub,0,none⟩),.pointer (some ⟨a1.ub,0,none⟩)] bb_→v.cell? ((⟨qb,0,none⟩:Addr).add ((0:Int).toNat*1))=some (.pointer (some ⟨a0.ub,0,none⟩)):=fun q=>by rw[am_,Blk.cell q];rfl
 have c1:∀{v:World},Blk v qb #[.pointer (some ⟨a0.ub,0,none⟩),.pointer (some ⟨a1.ub,0,none⟩)] bb_→v.cell? ((⟨qb,0,none⟩:Addr).add ((1:Int).toNat*1))=some (.pointer (some ⟨a1.ub,0,none⟩)):=fun q=>by rw[am_,Blk.cell q];rfl
 have hne:a0.ub≠a1.ub:=Hv.ub_ne (i:=0) (j:=1) (by show 0<2;decide) (by show 1<2;decide) d_
 refine⟨⟨d_,d_⟩,_,c0 b2,⟨d_,d_⟩,_,c0 b2,⟨d_,d_⟩,_,c1 b2,?_⟩
 have S3:St v ℓ' [(a0,ay_ 0 prot []),(a1,ay_ 1 prot [])] #[.pointer (some ⟨a0.ub,0,none⟩),.pointer (some ⟨a1.ub,0,none⟩)]:=⟨m0,Hv,n1,n2,b1,b2⟩
 refine aH_ (cells:=#[.pointer (some ⟨a0.ub,0,none⟩),.pointer none,.pointer (some ⟨a1.ub,0,none⟩)]) (e:=aI_) (z:=1) (base:=v.heap.size) (yd_ _ _ _) rfl d_ (Nat.le_refl _) fun v1 ho1 hg1 _=>?_
 have S4:=St_go S3 (Mv.grow hg1) (Hv.grow hg1)
 have hx1:RdX v1 ℓ' 1 ⟨some ⟨v.heap.size,0,none⟩,3,3⟩ ([some a0.ub,none,some a1.ub].map mL_):=⟨ho1.rd (by show 3≤_;decide),fun _ a ha=>by
  injection ha with ha;subst ha
  exact⟨(ho1.ge v.heap.size (by simp[Sl.blk])).2,Hv.fresh (Nat.le_refl _)⟩⟩
 refine lY_ (i:=0) (xs:=[some a0.ub,none,some a1.ub]) S4.2.1 (by show 0<2;decide) rfl hx1 (fun c hc=>?_) (by show 3≤1000;decide) fun v2 m2 H2'=>?_
 ·simp only[List.mem_cons,Option.some.injEq,List.not_mem_nil,or_false,reduceCtorEq,false_or] at hc
  rcases hc with rfl|rfl
  ·exact⟨0,by show 0<2;decide,rfl⟩
  ·exact⟨1,by show 1<2;decide,rfl⟩
 have e0:bf_ a0.ub [some a0.ub,none,some a1.ub] = [a1.ub]:=by simp[bf_,hne.symm]
 rw[e0] at H2'
 have S5:=St_go S4 m2 H2'
 refine⟨⟨d_,d_⟩,_,c1 S5.2.2.2.2.2,⟨d_,d_⟩,_,c0 S5.2.2.2.2.2,?_⟩
 refine aH_ (cells:=#[.pointer (some ⟨a0.ub,0,none⟩)]) (e:=aI_) (z:=1) (base:=v2.heap.size) (rU_ _ _) rfl d_ (Nat.le_refl _) fun v3 ho3 hg3 _=>?_
 have S6:=St_go S5 (Mv.grow hg3) (H2'.grow hg3)
 have hx3:RdX v3 ℓ' 1 ⟨some ⟨v2.heap.size,0,none⟩,1,1⟩ ([some a0.ub].map mL_):=⟨ho3.rd (by show 1≤_;decide),fun _ a ha=>by
  injection ha with ha;subst ha
  exact⟨(ho3.ge v2.heap.size (by simp[Sl.blk])).2,H2'.fresh (Nat.le_refl _)⟩⟩
 refine lY_ (i:=1) (xs:=[some a0.ub]) S6.2.1 (by show 1<2;decide) rfl hx3 (fun c hc=>⟨0,by show 0<2;decide,by simp at hc;exact hc.symm⟩) (by show 1≤1000;decide) fun v4 m4 H4'=>?_
 have e1:bf_ a1.ub [some a0.ub] = [a0.ub]:=by simp[bf_,hne]
 rw[e1] at H4'
 have S7:=St_go S6 m4 H4'
 obtain⟨m7,H7,_,n7,b71,b72⟩:=S7
 refine⟨_,aC_ (cs:=[.pointer (some ⟨a0.ub,0,none⟩),.pointer (some ⟨a1.ub,0,none⟩)]) j3_ dQ_ rfl (ax_ b72),?_⟩
 refine ar_ (cells:=#[.pointer (some ⟨a0.ub,0,none⟩),.pointer (some ⟨a1.ub,0,none⟩)]) b71 dQ_ rfl rfl (by simp[Value.oneCell']) fun v5 hb5 hk5 hs5=>?_
 refine⟨_,aC_ (cs:=[.pointer (some ⟨a0.ub,0,none⟩),.pointer (some ⟨a1.ub,0,none⟩)]) j3_ dQ_ rfl (ax_ hb5),?_⟩
 exact hR v5 ℓ' a0 a1 (m7.loc hk5 fun b hb q=>o_) (H7.local1 b71 n7 hk5 (e3_ d_ d_ d_) d_)
end
open Go CF
section
variable {w0 u u':World} {p s:Sl} {os l:L8} {xs:List (Sl×L8)}
end
open Go CF
section
variable {w u:World} {base:Nat} {s:Sl} {l:L8}
end
open Go CF
section
variable {w u:World} {base:Nat} {s:Sl} {l:L8}
end
open Go CF
def ne_ (l:L8) (n:Nat):L8:=l++List.replicate (n-l.length) 32
def pD_ (i:e0_):L8:=if d5_ i=false then [] else [0,0,6,2,31,if 0<i.prot then 1 else 0,0,2]++ne_ (ls i.v) 8++ne_ (ls i.p) 16++ne_ (ls i.r) 4
def idL (i:e0_):L8:=ne_ (ls i.v) 8++ls i.s
def xD_ (i:e0_) (page:Nat):Option L8:=
 if page=0 then some [0,128,131,176,178] else if page=128 then some (ls i.s) else if page=131 then some ([2,1,0,UInt8.ofNat (idL i).length]++idL i)
 else if page=176 then some (lay (lay (lay ([0,255]++List.replicate 58 0) 4 4 256) 16 4 256) 20 4 8) else if page=178 then some [0,224,2,0] else none
def ko_ (i:e0_) (page:Nat):Option L8:=if d5_ i=false then none else(xD_ i page).map fun b=>[0,UInt8.ofNat page,0,UInt8.ofNat b.length]++b
def pE_ (l:L8) (alloc:Int):L8:=l.take (min (max alloc 0) l.length).toNat
def xE_ (l:List Nat):L8:=lay (List.replicate 8 0) 0 4 (8*l.length)++l.flatMap fun n=>[0,UInt8.ofNat n,0,0,0,0,0,0]
section
variable {w u:World}
theorem qg_ (l:L8) (n:Nat):(ne_ l n).length=max l.length n:=by unfold ne_;rw[List.length_append,List.length_replicate];omega
theorem jd_ {i:e0_} (h:d5_ i=true):i.v.size≤8∧i.p.size≤16∧i.r.size≤4∧1≤i.s.size∧i.s.size≤20∧i.prot≤3:=by
 unfold d5_ gP_ at h
 simp only[Bool.and_eq_true,decide_eq_true_eq] at h
 omega
theorem jK_ {p:Sl} {l:L8} {alloc:Int} {R:Sl→W_} (hp:Rd w 1 p (bv l)) (hn:p.n≤1000000) (h:∀xs w',ac_ w w'→Own w' w.heap.size ae_ 1 xs (bv (pE_ l alloc))→R xs w'):c0_ p alloc w R:=by
 refine lC_.calls _ _ _ _ ?_
 have hl:=dj_ hp
 have hcap:=hp.cap
 have e:(mn (mx alloc 0) (p.n:Int)).toNat=(min (max alloc 0) l.length).toNat:=by unfold mn mx;split<;>split<;>omega
 have e2:(min (max alloc 0) l.length).toNat≤p.n:=o_
 refine⟨⟨d_,by unfold mn mx;split<;>split<;>omega,by unfold mn mx;split<;>split<;>omega,hcap⟩,?_⟩
 rw[e]
 have hc:=hp.cutB (l:=0) (k:=(min (max alloc 0) l.length).toNat) (Nat.zero_le _) e2
 rw[List.drop_zero,Nat.sub_zero] at hc
 refine aS_ aN_ bG_ rfl d_ d_ (aK_ w w.heap.size _ _) hc (cr_ _) (by show(0+((min (max alloc 0) l.length).toNat-0))*1≤_;omega) (Nat.le_refl _) fun s' w' hn' ho hk _=>h s' w' (hk.mono fun _ _ q=>by cases q) ho
end
open Go CF
section
variable {w u:World}
theorem ye_ {i:e0_} (hf:d5_ i=true):(idL i).length≤28:=by
 obtain⟨z1,z2,z3,z4,z5,z6⟩:=jd_ hf
 have l1:=fH_ i.v
 have l2:=fH_ i.s
 unfold idL
 rw[List.length_append,qg_];omega
def zS_ (l:List Nat):List Value:=l.map fun n:Nat=>.int .i64 (n:Int)
end
open Go CF
structure SnB (s:Sn):Prop where
 key:s.key<256
 code:s.code<65536
 info:s.info<18446744073709551616
def xF_ (s:Sn):Bool:=
 decide (s.key≤15)&&(s.hi||decide (s.info=0)) &&
 (if s.hf=true then decide (0≤s.field)&&decide (s.field≤65535)&&decide (-1≤s.bit)&&decide (s.bit≤7) else decide (s.field=0)&&decide (s.bit=0) && !s.ic)
def zT_ (s:Sn):Nat:=(if s.ic then 192 else 128)+(if 0≤s.bit then 8+s.bit.toNat else 0)
def ub_ (s:Sn):L8:=[UInt8.ofNat (zT_ s),UInt8.ofNat (s.field.toNat/256),UInt8.ofNat s.field.toNat]
def rW_ (s:Sn):L8:=[if s.hi then 240 else 112,0,UInt8.ofNat s.key]++(if s.hi then beN 4 s.info else [0,0,0,0])++[10,0,0,0,0,UInt8.ofNat (s.code/256),UInt8.ofNat s.code,0]++(if s.hf then ub_ s else [0,0,0])
def jL_ (s:Sn):L8×Nat:=if xF_ s=false then([],3) else if s.hi=true∧4294967295<s.info then([],4) else(rW_ s,0)
def uc_ (s:Sn):L8:=(if s.hi then [0,10,128,0]++beN 8 s.info else [])++(if s.hf then [2,6,0,0]++ub_ s++[0] else [])
def ud_ (s:Sn):L8:=[114,UInt8.ofNat s.key,UInt8.ofNat (s.code/256),UInt8.ofNat s.code,0,0,0,UInt8.ofNat (uc_ s).length]++uc_ s
def lZ_ (s:Sn):L8×Nat:=if xF_ s=false then([],3) else(ud_ s,0)
section
variable {w u:World} {s:Sn}
end
open Go CF
section
variable {w u:World} {s:Sn}
end
open Go CF
section
variable {w u:World} {s:Sn}
end
open Go CF
def qS_ (v:bF_):L8:=[8,18,if v.wce then 4 else 0]++List.replicate 17 0
def qT_ (v:bF_):L8:=[10,10,if v.ds then 4 else 0,0,if v.swp then 8 else 0]++List.replicate 7 0
def oY_ (now saved:bF_) (k:Nat):bF_:=if k=1 then⟨true,true,true⟩ else if k=2 then v0 else if k=3 then saved else now
def mN_ (now saved:bF_) (c:Cm):L8:=(if c.page=8∨c.page=63 then qS_ (oY_ now saved c.control) else [])++(if c.page=10∨c.page=63 then qT_ (oY_ now saved c.control) else [])
def vy_ (now:bF_) (c:Cm) (n:Nat):L8:=if c.long then [0,UInt8.ofNat (6+n),0,if now.swp then 144 else 16,0,0,0,0] else [UInt8.ofNat (3+n),0,if now.swp then 144 else 16,0]
def dE_ (now saved:bF_) (c:Cm):Option L8:=if mN_ now saved c = [] then none else some (vy_ now c (mN_ now saved c).length++mN_ now saved c)
def hJ_ (field:Nat) (bit:Int) (cmd:Bool):Sn:=⟨5,if cmd then 0x2400 else 0x2600,0,false,(field:Int),bit,true,cmd⟩
section
variable {w u:World}
theorem ue_ {b o:Nat} {v:bF_} (h:bS_ w ⟨b,o,none⟩ (vlv v)):(loadVar gA_ ⟨b,o,none⟩).run Tryz.prog w=.ok (.agg (vlv v).toArray) w:=aC_ (cs:=vlv v) e9_ ca_ rfl h
theorem rX_ {b o:Nat} {v:bF_} {x:Value} (h:Blk w b (vlv v).toArray gA_) (e:(vlv v)[o]?=some x):w.cell? ((⟨b,0,none⟩:Addr).add o)=some x:=by
 rw[am_,h.cell,Nat.zero_add,List.getElem?_toArray];exact e
theorem uf_ {pb:Nat} {now saved:bF_} {R:A_→W_} (h:IsP w pb now saved) (hR:∀w',ac_ w w'→R (vlv saved).toArray w'):gf_ (some ⟨pb,0,none⟩) w R:=by
 refine es_.calls _ _ _ (ah_ fun ab w1 hab hb1 hg1 hs1=>al_ rfl ⟨rfl,(vlv saved).toArray,?_,?_⟩)
 ·have h1:IsP w1 pb now saved:=hg1.heap h (fun q=>q)
  rw[gA,am_]
  refine ue_ fun j v hj=>?_
  rw[am_,Blk.cell h1]
  have:((vlv now++vlv saved).toArray)[0+3+j]?=(vlv saved)[j]?:=by
   rw[List.getElem?_toArray,List.getElem?_append_right (by simp[vlv])]
   congr 1
   simp[vlv]
  rw[this];exact hj
 ·refine ar_ (cells:=(vlv saved).toArray) hb1 ca_ rfl rfl (by simp[vlv,Value.oneCell']) fun w2 hb2 hk2 _=>⟨_,ue_ (ax_ hb2),hR w2 (hg1.keep hk2 fun i hi q=>o_)⟩
end
open Go CF
section
variable {w u:World}
theorem vz_ (v:bF_):(qS_ v).length=20:=rfl
theorem vA_ (v:bF_):(qT_ v).length=12:=rfl
theorem vB_ (now saved:bF_) (c:Cm):(mN_ now saved c).length≤32:=by
 unfold mN_
 rw[List.length_append]
 have h1:(if c.page=8∨c.page=63 then qS_ (oY_ now saved c.control) else []).length≤20:=by split<;>simp[vz_]
 have h2:(if c.page=10∨c.page=63 then qT_ (oY_ now saved c.control) else []).length≤12:=by split<;>simp[vA_]
 omega
end
open Go CF
def vf:bF_:=⟨false,false,false⟩
def zz_ (b:UInt8):Option L8:=if b=8 then some (qS_ vf) else if b=10 then some (qT_ vf) else none
def zU_ (b:UInt8) (i:Nat):UInt8:=if i=2 then 4 else if i=4∧b=10 then 8 else 0
def zA_ (r:L8) (j:Nat):Option (Nat×Nat):=(hW_ (r.getD (j+2) 0 &&& ~~~(zU_ (r.getD 0 0) (j+2))).toNat 8).map fun k=>(j+2,k)
def zB_ (r:L8) (n:Nat):Option (Nat×Nat):=(List.range (n-2)).findSome? (zA_ r)
def zC_ (v:bF_) (r:L8):bF_:=if r.getD 0 0=8 then {v with wce:=r.getD 2 0 != 0} else {v with ds:=r.getD 2 0 != 0,swp:=r.getD 4 0 != 0}
def y1_ (l:L8) (at_:Nat) (v:bF_):Except Sn (bF_×Nat):=
 match zz_ ((l.drop at_).getD 0 0) with
 | none=>.error (hJ_ at_ (-1) false)
 | some W=>
  if (l.drop at_).length<2∨((l.drop at_).length<W.length∧(l.drop at_).getD 1 0=W.getD 1 0) then .error (cE_ 0x1a00)
  else if (l.drop at_).getD 1 0≠W.getD 1 0 then .error (hJ_ (at_+1) (-1) false)
  else match zB_ (l.drop at_) W.length with
   | some (i,k)=>.error (hJ_ (at_+i) (k:Int) false)
   | none=>.ok (zC_ v (l.drop at_),W.length)
theorem zD_ {b:UInt8} {n:Nat} (hn:n<256):(((b.toNat:Nat):Int)==(n:Int))=decide (b=UInt8.ofNat n):=by
 rw[Bool.eq_iff_iff,beq_iff_eq,decide_eq_true_eq]
 constructor
 ·intro h
  apply UInt8.toNat_inj.1
  rw[UInt8.toNat_ofNat',Nat.mod_eq_of_lt o_];omega
 ·rintro rfl
  rw[UInt8.toNat_ofNat',Nat.mod_eq_of_lt o_]
section
variable {w u:World}
end
open Go CF
def y2_ (l:L8):Nat→Nat→bF_→Except Sn bF_
 | 0,_,v=>.ok v
 | k+1,at_,v=>if at_<l.length then(match y1_ l at_ v with
  | .error s=>.error s
  | .ok (v',n)=>y2_ l k (at_+n) v') else .ok v
def vne (a b:bF_):Bool:=a.wce != b.wce||a.ds != b.ds||a.swp != b.swp
def mhd (c:Cm):Nat:=if c.long then 8 else 4
def mdv (c:Cm):Nat:=if c.long then 3 else 2
def mh1 (l:L8) (c:Cm) (i:Nat):Bool:=decide (l.getD i 0≠0)&&decide (i≠mdv c)
def zE_ (now saved:bF_) (c:Cm) (l:L8):Except Sn (Bool×bF_×bF_):=
 if l = [] then .ok (false,now,saved)
 else if l.length<mhd c then .error (cE_ 0x1a00)
 else match (List.range (mhd c)).find? (mh1 l c) with
  | some i=>.error (hJ_ i (-1) false)
  | none=>match y2_ l l.length (mhd c) now with
   | .error s=>.error s
   | .ok v=>.ok (vne v now,v,if c.save then v else saved)
section
variable {w u:World}
end
open Go CF
structure gX_ where
 service:Nat
 type:Nat
 key:Nat
 action:Nat
 aptpl:Bool
def otv (o:gX_):List Value:=[.int .u8 (o.service:Int),.int .u8 (o.type:Int),.int .u64 (o.key:Int),.int .u64 (o.action:Int),.bool o.aptpl]
abbrev Ev:=Nat×Nat
def evc (e:Ev):List Value:=[.int .i64 (e.1:Int),.int .u16 (e.2:Int)]
def evv (l:List Ev):List Value:=l.flatMap evc
theorem td_ (e:Ev):(evc e).length=2:=rfl
theorem te_ (l:List Ev):(evv l).length=l.length*2:=bx_ td_ l
theorem ug_ (a b:List Ev):evv (a++b)=evv a++evv b:=List.flatMap_append
theorem uh_ (a b:List (Nat×Nat)):rgv (a++b)=rgv a++rgv b:=List.flatMap_append
def tells (l:List (Nat×Nat)) (f:Nat×Nat→Bool) (code:Nat):List Ev:=(l.filter f).map fun r=>(r.1,code)
def kp_ (t:a5_) (but:Nat):a5_×List Ev:=({t with kind:=0,holder:=-1},if 5≤t.kind then tells t.regs (fun r=>decide (r.1≠but)) 10756 else [])
def kN_ (t:a5_) (n key:Nat):a5_:={t with regs:=t.regs.filter (fun r=>decide (r.1<n))++(if key≠0 then [(n,key)] else [])++t.regs.filter (fun r=>decide (n<r.1))}
def bP_ (t:a5_) (n:Nat) (o:gX_) (known:Bool):a5_×List Ev:=
 if o.action=0∧known=true then
  if (allK t.kind=true∧t.regs.length=1)∨((t.kind≠0∧t.holder=(n:Int))∧allK t.kind=false) then kp_ (kN_ t n 0) n else(kN_ t n 0,[])
 else if o.action≠0 then(kN_ t n o.action,[]) else(t,[])
def eO_ (t:a5_) (n:Nat) (o:gX_) (known:Bool):a5_×List Ev:=({(bP_ t n o known).1 with lasts:=o.aptpl,gen:=((bP_ t n o known).1.gen+1)%4294967296},(bP_ t n o known).2)
structure DoT where
 st:Nat
 code:Nat
 ev:List Ev
 t:a5_
def e4_ (t:a5_) (n:Nat) (o:gX_):DoT:=
 if fe_ o.type=false then⟨2,0x2400,[],t⟩
 else if t.kind=0 then⟨0,0,[],{t with kind:=o.type,holder:=(n:Int)}⟩
 else if dv_ t n=true∧t.kind=o.type then⟨0,0,[],t⟩ else⟨24,0,[],t⟩
def fX_ (t:a5_) (n:Nat) (o:gX_):DoT:=
 if dv_ t n=false then⟨0,0,[],t⟩ else if t.kind≠o.type then⟨2,0x2400,[],t⟩ else⟨0,0,(kp_ t n).2,(kp_ t n).1⟩
def mO_ (t:a5_) (n:Nat):a5_×List Ev:=({t with regs:=[],kind:=0,holder:=-1,gen:=(t.gen+1)%4294967296},tells t.regs (fun r=>decide (r.1≠n)) 10755)
def qU_ (t:a5_) (a:Nat):Bool:=t.regs.any fun r=>(decide (t.kind≠0) && !allK t.kind)&&decide ((r.1:Int)=t.holder)&&decide (r.2=a)
def qV_ (t:a5_) (n a:Nat) (all:Bool) (r:Nat×Nat):Bool:=decide (r.1=n)||(decide (r.2≠a) && !all)
def fY_ (t:a5_) (n:Nat) (o:gX_):DoT:=
 if o.action=0∧(allK t.kind&&decide (o.action=0))=false then⟨2,0x2600,[],t⟩
 else if (qU_ t o.action||(allK t.kind&&decide (o.action=0)))=true∧fe_ o.type=false then⟨2,0x2400,[],t⟩
 else if (t.regs.any fun r=>decide (r.2=o.action))=false∧(allK t.kind&&decide (o.action=0))=false then⟨24,0,[],t⟩
 else
  let left:=t.regs.filter (qV_ t n o.action (allK t.kind&&decide (o.action=0)))
  let out:=tells t.regs (fun r=> !qV_ t n o.action (allK t.kind&&decide (o.action=0)) r) 10757
  if (qU_ t o.action||(allK t.kind&&decide (o.action=0)))=true then
   ⟨0,0,out++(if 5≤t.kind∧t.kind≠o.type then tells left (fun r=>decide (r.1≠n)) 10756 else []),{t with regs:=left,kind:=o.type,holder:=(n:Int),gen:=(t.gen+1)%4294967296}⟩
  else⟨0,0,out,{t with regs:=left,gen:=(t.gen+1)%4294967296}⟩
def cb_ (t:a5_) (n:Nat) (o:gX_):DoT:=
 if 6<o.service then⟨2,0x2400,[],t⟩
 else if o.service=6 then⟨0,0,(eO_ t n o (eZ_ t n).isSome).2,(eO_ t n o (eZ_ t n).isSome).1⟩
 else if o.service=0 then(if o.key≠(eZ_ t n).getD 0 then⟨24,0,[],t⟩ else⟨0,0,(eO_ t n o (eZ_ t n).isSome).2,(eO_ t n o (eZ_ t n).isSome).1⟩)
 else if (eZ_ t n).isSome=false∨o.key≠(eZ_ t n).getD 0 then⟨24,0,[],t⟩
 else if o.service=1 then e4_ t n o
 else if o.service=2 then fX_ t n o
 else if o.service=3 then⟨0,0,(mO_ t n).2,(mO_ t n).1⟩
 else fY_ t n o
section
variable {w u v:World} {N:Nat→Prop} {tb n:Nat} {t:a5_}
structure Qr (B:Nat) (w v:World):Prop where
 keep:ab_ (fun k=>B≤k) w v
 regs:∀b cs,Blk w b cs aJ_→Blk v b cs aJ_
theorem Qr.refl (B:Nat) (w:World):Qr B w w:=⟨ab_.refl _ _,fun _ _ q=>q⟩
theorem Qr.trans {B:Nat} (h:Qr B w u) (g:Qr B u v):Qr B w v:=⟨h.keep.trans g.keep fun _ _ q=>q,fun b cs q=>g.regs b cs (h.regs b cs q)⟩
theorem Qr.grow {B:Nat} (g:ac_ w u):Qr B w u:=⟨g.mono fun _ _ q=>q.elim,fun b cs q=>g.heap q (fun q=>q)⟩
theorem Qr.from {B:Nat} (h:Qr B w u) (g:ac_ v w) (hB:v.heap.size≤B):ac_ v u:=g.keep h.keep fun i hi q=>o_
theorem gY_ {xs:Sl} {l:List (Nat×Nat)} {i:Nat} {K:Addr→W_} (hx:Rd w 2 xs (rgv l)) (hi:i<l.length) (hK:∀rb w',ac_ w w'→Blk w' rb (rgc l[i]).toArray aJ_→w.heap.size≤rb→K ⟨rb,0,none⟩ w') :
  (0≤(i:Int)∧(i:Int)<(xs.n:Int)∧xs.A.isSome=true)∧∃g:A_,(loadVar aJ_ ((gA xs.A).add ((i:Int).toNat*2))).run Tryz.prog w=.ok (.agg g) w∧New (.cells #[.int .i64 0,.int .u64 0] aJ_) w fun r w1=>ag_ Tryz.prog (storeVar aJ_ r (.agg g)) w1 fun w2=>K r w2:=by
 have hl:l.length=xs.n:=by have:=hx.len;rw[ch_] at this;omega
 obtain⟨a,ha,hc⟩:=vm_ hx hi
 refine⟨⟨o_,o_,by rw[ha];rfl⟩,(rgc l[i]).toArray,by rw[ha,Int.toNat_natCast];exact aC_ j4_ fR_ rfl hc,?_⟩
 exact ah_ fun rb v1 hrb hb1 hg1 hs1=>ar_ (cells:=(rgc l[i]).toArray) hb1 fR_ rfl rfl (by simp[rgc,Value.oneCell']) fun v2 hb2 hk2 hs2=>hK rb v2 (hg1.keep hk2 fun i hi q=>o_) hb2 o_
theorem y3_ (w:World) (a b:Int):(Instr.buildSlice c1_ 1 #[(0,.agg #[.int .i64 a,.int .u16 b])]).run Tryz.prog w=.ok (.slice (some ⟨w.heap.size,0,none⟩) 1 1) (w.alloc (.cells #[.int .i64 a,.int .u16 b] a0_)):=k_
theorem y4_ (w:World) (a b:Int):(Instr.buildSlice dr_ 1 #[(0,.agg #[.int .i64 a,.int .u64 b])]).run Tryz.prog w=.ok (.slice (some ⟨w.heap.size,0,none⟩) 1 1) (w.alloc (.cells #[.int .i64 a,.int .u64 b] aJ_)):=k_
theorem y5_ (l:List Ev):∀v∈evv l,v.oneCell'=true:=by
 intro v hv
 simp only[evv,List.mem_flatMap] at hv
 obtain⟨e,_,he⟩:=hv
 simp only[evc,List.mem_cons,List.mem_nil_iff,or_false] at he
 rcases he with rfl|rfl<;>rfl
theorem tf_ {B:Nat} {out:Sl} {evs:List Ev} {a c:Nat} {ty:TypeId} {K:Sl→W_} (ho:Own w B a0_ 2 out (evv evs)) (hB:B≤w.heap.size) (hl:evs.length≤1000) (hK:∀out' w',Qr B w w'→Own w' B a0_ 2 out' (evv (evs++[(a,c)]))→K out' w') :
  ai_ Tryz.prog .sl (Instr.buildSlice c1_ 1 #[(0,.agg #[.int .i64 (a:Int),.int .u16 (c:Int)])]) w fun xs w1=>ai_ Tryz.prog .sl (Builtin.append_ #[c1_,c1_] ty #[.slice out.A out.n out.c,.slice xs.A xs.n xs.c]) w1 K:=by
 have hn:out.n=evs.length:=by have:=ho.len;rw[te_] at this;omega
 refine aH_ (cells:=#[.int .i64 (a:Int),.int .u16 (c:Int)]) (e:=a0_) (z:=2) (base:=w.heap.size) (y3_ _ _ _) rfl d_ (Nat.le_refl _) fun w1 h1 g1 _=>?_
 have o1:=ho.grow g1
 refine aS_ qx_ lB_ rfl d_ d_ o1 (h1.rd (by dsimp only;decide)) (y5_ [(a,c)]) (by show(out.n+1)*16≤_;omega) (by have:=g1.size;omega) fun s' w2 hn' h2 k2 _=>?_
 refine hK s' w2 ((Qr.grow g1).trans ⟨⟨k2.os,k2.tape,k2.output,k2.size,fun k hk q=>k2.block k hk fun e=>q ?_⟩,fun b cs q=>k2.heap q fun e=>bd_ o1 q d_ e.symm⟩) (by rw[ug_];exact h2)
 exact(o1.ge k e.symm).1
theorem nf_ {B:Nat} {out:Sl} {l:List (Nat×Nat)} {a c:Nat} {ty:TypeId} {K:Sl→W_} (ho:Own w B aJ_ 2 out (rgv l)) (hB:B≤w.heap.size) (hl:l.length≤1000) (hK:∀out' w',ab_ (fun k=>B≤k) w w'→Own w' B aJ_ 2 out' (rgv (l++[(a,c)]))→(∀b cs t,Blk w b cs t→t≠aJ_→Blk w' b cs t)→K out' w') :
  ai_ Tryz.prog .sl (Instr.buildSlice dr_ 1 #[(0,.agg #[.int .i64 (a:Int),.int .u64 (c:Int)])]) w fun xs w1=>ai_ Tryz.prog .sl (Builtin.append_ #[dr_,dr_] ty #[.slice out.A out.n out.c,.slice xs.A xs.n xs.c]) w1 K:=by
 have hn:out.n=l.length:=by have:=ho.len;rw[ch_] at this;omega
 refine aH_ (cells:=#[.int .i64 (a:Int),.int .u64 (c:Int)]) (e:=aJ_) (z:=2) (base:=w.heap.size) (y4_ _ _ _) rfl d_ (Nat.le_refl _) fun w1 h1 g1 _=>?_
 have o1:=ho.grow g1
 refine aS_ rr_ fR_ rfl d_ d_ o1 (h1.rd (by dsimp only;decide)) (x7_ [(a,c)]) (by show(out.n+1)*16≤_;omega) (by have:=g1.size;omega) fun s' w2 hn' h2 k2 _=>?_
 refine hK s' w2 ((g1.mono fun _ _ q=>q.elim).trans ⟨k2.os,k2.tape,k2.output,k2.size,fun k hk q=>k2.block k hk fun e=>q (o1.ge k e.symm).1⟩ fun _ _ q=>q) (by rw[uh_];exact h2) fun b cs t q ht=>k2.heap (g1.heap q (fun q=>q)) fun e=>bd_ o1 (g1.heap q (fun q=>q)) ht e.symm
theorem pF_ {B:Nat} {xs out:Sl} {l:List (Nat×Nat)} {evs:List Ev} {but code:Nat} {ty:TypeId} {E:Sl→W_} (hx:∀v,Qr B w v→Rd v 2 xs (rgv l)) (ho:Own w B a0_ 2 out (evv evs)) (hB:B≤w.heap.size) (hl:evs.length+l.length≤1000)
  (hE:∀out' v,Qr B w v→Own v B a0_ 2 out' (evv (evs++tells l (fun r=>decide (r.1≠but)) code))→E out' v) :
  ∃(I:Sl→Int→W_) (μ:Sl→Int→World→Nat),I out 0 w∧∀(out1:Sl) (x:Int) (w03:World),I out1 x w03→Br (decide (x<(xs.n:Int))) (aY_ (fun(out2:Sl) (w04:World)=>I out2 (IntKind.wrap .i64 (x+1)) w04∧μ out2 (IntKind.wrap .i64 (x+1)) w04<μ out1 x w03) fun J_1=>(0≤x∧x<(xs.n:Int)∧xs.A.isSome=true)∧∃g:A_,(loadVar aJ_ ((gA xs.A).add (x.toNat*2))).run Tryz.prog w03=.ok (.agg g) w03∧New (.cells #[.int .i64 0,.int .u64 0] aJ_) w03 fun r w05=>ag_ Tryz.prog (storeVar aJ_ r (.agg g)) w05 fun w06=>
   ∃n1:Int,w06.cell? (r.add 0)=some (.int .i64 n1)∧Br (n1 != (but:Int)) (∃n2:Int,w06.cell? (r.add 0)=some (.int .i64 n2)∧ai_ Tryz.prog .sl (Instr.buildSlice c1_ 1 #[(0,.agg #[.int .i64 n2,.int .u16 (code:Int)])]) w06 fun xs1 w08=>ai_ Tryz.prog .sl (Builtin.append_ #[c1_,c1_] ty #[.slice out1.A out1.n out1.c,.slice xs1.A xs1.n xs1.c]) w08 fun xs2 w09=>J_1 xs2 w09) (J_1 out1 w06)) (E out1 w03):=by
 have hln:l.length=xs.n:=by have:=(hx w (Qr.refl _ _)).len;rw[ch_] at this;omega
 refine⟨fun o x v=>∃j:Nat,x=j∧j≤l.length∧Qr B w v∧Own v B a0_ 2 o (evv (evs++tells (l.take j) (fun r=>decide (r.1≠but)) code)),fun _ x _=>xs.n-x.toNat,⟨0,rfl,Nat.zero_le _,Qr.refl _ _,by simpa [tells] using ho⟩,?_⟩
 rintro o x v ⟨j,rfl,hj,q,hov⟩
 have tl:∀k,(tells (l.take k) (fun r=>decide (r.1≠but)) code).length≤l.length:=fun k=>by
  unfold tells
  rw[List.length_map]
  exact Nat.le_trans (List.length_filter_le _ _) (by rw[List.length_take];omega)
 refine bh_ (fun hlt=>?_) (fun hge=>?_)
 ·have hjl:j<l.length:=o_
  refine bw_ (fun o2 v'=>Qr B w v'∧Own v' B a0_ 2 o2 (evv (evs++tells (l.take (j+1)) (fun r=>decide (r.1≠but)) code))) (fun o2 v' hv=>?_) (fun J=>?_)
  ·rw[w64 o_ o_]
   exact⟨⟨j+1,o_,o_,hv.1,hv.2⟩,by dsimp only;omega⟩
  ·refine gY_ (hx v q) hjl fun rb v1 g1 b1 _=>?_
   have q1:=q.trans (Qr.grow g1)
   have o1:=hov.grow g1
   have hs:l.take (j+1)=l.take j++[l[j]]:=by rw[List.take_succ_eq_append_getElem hjl]
   refine⟨(l[j].1:Int),by rw[am_,b1.cell];rfl,?_⟩
   refine gv_ (fun e=>⟨(l[j].1:Int),by rw[am_,b1.cell];rfl,?_⟩) (fun e=>?_)
   ·refine tf_ o1 (by have:=q1.keep.size;omega) (by rw[List.length_append];have:=tl j;omega) fun o3 v3 q3 h3=>J o3 v3 ⟨q1.trans q3,?_⟩
    have:tells (l.take (j+1)) (fun r=>decide (r.1≠but)) code=tells (l.take j) (fun r=>decide (r.1≠but)) code++[(l[j].1,code)]:=by
     unfold tells
     rw[hs,List.filter_append,List.map_append]
     congr 1
     rw[List.filter_cons,if_pos (by rw[decide_eq_true_eq];omega)];rfl
    rw[this,←List.append_assoc];exact h3
   ·refine J o v1 ⟨q1,?_⟩
    have:tells (l.take (j+1)) (fun r=>decide (r.1≠but)) code=tells (l.take j) (fun r=>decide (r.1≠but)) code:=by
     unfold tells
     rw[hs,List.filter_append,List.map_append]
     have:[l[j]].filter (fun r=>decide (r.1≠but)) = []:=by rw[List.filter_cons,if_neg (by rw[decide_eq_true_eq];omega)];rfl
     rw[this];simp
    rw[this];exact o1
 ·have:j=l.length:=o_
  subst this
  rw[List.take_length] at hov
  exact hE o v q hov
end
open Go CF
theorem oZ_:∀(l:List (Nat×Nat)) (m k:Nat),l.Pairwise (fun a b=>a.1<b.1)→(∀r∈l,m≤r.1∧r.1<k)→l.length≤k-m
 | [],_,_,_,_=>Nat.zero_le _
 | a::r,m,k,hp,hb=>by
  have ha:=hb a (.head _)
  have:=oZ_ r (a.1+1) k (List.pairwise_cons.1 hp).2 fun x hx=>⟨(List.pairwise_cons.1 hp).1 x hx,(hb x (.tail _ hx)).2⟩
  rw[List.length_cons];omega
structure gt_ (l:List (Nat×Nat)):Prop where
 sorted:l.Pairwise fun a b=>a.1<b.1
 regs:∀r∈l,r.1<8∧0<r.2∧r.2<18446744073709551616
theorem gt_.few {l:List (Nat×Nat)} (h:gt_ l):l.length≤8:=oZ_ l 0 8 h.sorted fun r hr=>⟨Nat.zero_le _,(h.regs r hr).1⟩
theorem eY_.rok {t:a5_} (h:eY_ t):gt_ t.regs:=⟨h.sorted,h.regs⟩
theorem gt_.filter {l:List (Nat×Nat)} (h:gt_ l) (f:Nat×Nat→Bool):gt_ (l.filter f):=⟨h.sorted.filter f,fun r hr=>h.regs r (List.mem_filter.1 hr).1⟩
theorem eY_.with {t:a5_} (h:eY_ t) {l:List (Nat×Nat)} (hl:gt_ l) {g k:Nat} {ho:Int} {b:Bool} (hg:g<4294967296) (hk:k<256) (hh : -1≤ho∧ho<8):eY_ ⟨l,g,k,ho,b⟩:=⟨hl.few,hl.sorted,hl.regs,hg,hk,hh⟩
theorem rY_ {t:a5_} (h:eY_ t) {n key:Nat} (hn:n<8) (hk:key<18446744073709551616):gt_ (kN_ t n key).regs:=by
 have hr:=h.rok
 unfold kN_
 dsimp only
 refine⟨?_,fun r hm=>?_⟩
 ·rw[List.pairwise_append,List.pairwise_append]
  refine⟨⟨h.sorted.filter _,?_,fun a ha b hb=>?_⟩,h.sorted.filter _,fun a ha b hb=>?_⟩
  ·split
   ·exact List.pairwise_singleton _ _
   ·exact List.Pairwise.nil
  ·have h1:=(List.mem_filter.1 ha).2
   rw[decide_eq_true_eq] at h1
   split at hb
   ·rw[List.mem_singleton] at hb;rw[hb];exact h1
   ·cases hb
  ·have h2:=(List.mem_filter.1 hb).2
   rw[decide_eq_true_eq] at h2
   rcases List.mem_append.1 ha with ha|ha
   ·have h1:=(List.mem_filter.1 ha).2
    rw[decide_eq_true_eq] at h1
    omega
   ·split at ha
    ·rw[List.mem_singleton] at ha;rw[ha];exact h2
    ·cases ha
 ·rcases List.mem_append.1 hm with hm|hm
  ·rcases List.mem_append.1 hm with hm|hm
   ·exact h.regs r (List.mem_filter.1 hm).1
   ·split at hm
    ·rename_i hk0
     rw[List.mem_singleton] at hm
     rw[hm]
     exact⟨hn,Nat.pos_of_ne_zero hk0,hk⟩
    ·cases hm
  ·exact h.regs r (List.mem_filter.1 hm).1
section
variable {w u v:World} {N:Nat→Prop} {tb n:Nat} {t:a5_}
theorem tg_ (hb:Blk w tb (bU_ ap_ t0) bY_∨∃cs,Blk w tb cs bY_):bg_ w N fun k=>k=tb:=fun b _ q=>by
 subst q
 rcases hb with hb|⟨cs,hb⟩
 ·exact .inr ⟨_,_,hb,by unfold kL_;decide⟩
 ·exact .inr ⟨_,_,hb,by unfold kL_;decide⟩
structure d6_ (w v:World) (N:Nat→Prop) (tb:Nat) (s:Sl) (t:a5_):Prop where
 keep:ab_ (fun k=>k=tb) w v
 blk:Blk v tb (bU_ s t) bY_
 row:RdN v N aJ_ 2 s (rgv t.regs)
theorem IsT.at (h:IsT w N tb t):∃s,d6_ w w N tb s t∧eY_ t:=by
 obtain⟨⟨s,h1,h2⟩,h3⟩:=h
 exact⟨s,⟨ab_.refl _ _,h1,h2⟩,h3⟩
theorem d6_.isT {s:Sl} (h:d6_ w v N tb s t) (ok:eY_ t):IsT v N tb t:=⟨⟨s,h.blk,h.row⟩,ok⟩
theorem d6_.go {s:Sl} {z:World} (h:d6_ w v N tb s t) (g:ac_ v z):d6_ w z N tb s t:=⟨h.keep.grow g,g.heap h.blk (fun q=>q),h.row.grow g⟩
theorem d6_.put {s s':Sl} {t':a5_} {z:World} (h:d6_ w v N tb s t) (k:ab_ (fun k=>k=tb) v z) (hb:Blk z tb (bU_ s' t') bY_) (hr:s'=s∧t'.regs=t.regs∨RdN z N aJ_ 2 s' (rgv t'.regs)):d6_ w z N tb s' t':=by
 refine⟨h.keep.trans k fun _ _ q=>q,hb,?_⟩
 rcases hr with⟨rfl,e⟩|hr
 ·rw[e]
  exact h.row.step (.inr (.inl rfl)) k (tg_ (.inr ⟨_,h.blk⟩)) fun _ q=>.inl q
 ·exact hr
theorem d6_.cell {s:Sl} (h:d6_ w v N tb s t) {o:Nat} {x:Value} (e:(bU_ s t)[o]?=some x):v.cell? ((gA (some (⟨tb,0,none⟩:Addr))).add o)=some x:=cO_ h.blk e
theorem d6_.put1 {s s':Sl} {t':a5_} {o:Nat} {x:Value} {K:W_} (h:d6_ w v N tb s t) (ho:o<5) (hx:x.oneCell'=true) (he:(bU_ s t).setIfInBounds o x=bU_ s' t') (hr:s'=s∧t'.regs=t.regs∨RdN v N aJ_ 2 s' (rgv t'.regs)) (hK:∀z,d6_ w z N tb s' t'→ab_ (fun k=>k=tb) v z→K z) :
  Put ((gA (some (⟨tb,0,none⟩:Addr))).add o) x v K:=by
 rw[gA,am_,Nat.zero_add]
 refine a2_ h.blk (by simp[bU_];omega) hx fun z hz k _=>hK z (h.put k (by rw[←he];exact hz) ?_) k
 rcases hr with hr|hr
 ·exact .inl hr
 ·refine .inr ?_
  exact hr.step (.inr (.inl rfl)) k (tg_ (.inr ⟨_,h.blk⟩)) fun _ q=>.inl q
theorem rdr {s:Sl} (h:RdN w N aJ_ 2 s (rgv t.regs)) {B:Nat} (hB:w.heap.size≤B):∀v,Qr B w v→Rd v 2 s (rgv t.regs):=fun v q=>h.rd.keep q.keep fun a _ ha e=>o_
theorem free_spec {but:Nat} {R:Sl→W_} (h:IsT w N tb t) (hR:∀out v,ab_ (fun k=>k=tb) w v→IsT v N tb (kp_ t but).1→Own v w.heap.size a0_ 2 out (evv (kp_ t but).2)→R out v):f2_ (some ⟨tb,0,none⟩) (but:Int) w R:=by
 refine f7_.calls _ _ _ _ ?_
 obtain⟨s,A,ok⟩:=h.at
 have hk:=ok.kind
 have hf:=ok.few
 refine⟨rfl,(t.kind:Int),A.cell rfl,?_⟩
 refine bw_ (fun(out:Sl) v=>d6_ w v N tb s t∧Own v w.heap.size a0_ 2 out (evv (kp_ t but).2)) ?_ (fun J=>?_)
 ·rintro out v ⟨Av,ho⟩
  refine⟨rfl,Av.put1 (t':={t with kind:=0}) (s':=s) (o:=2) d_ rfl rfl (.inl ⟨rfl,rfl⟩) fun v2 A2 k2=>⟨rfl,A2.put1 (t':={t with kind:=0,holder:=-1}) (s':=s) (o:=3) d_ rfl rfl (.inl ⟨rfl,rfl⟩) fun v3 A3 k3=>?_⟩⟩
  refine hR out v3 A3.keep (A3.isT (ok.with ok.rok ok.gen d_ d_)) ?_
  exact(ho.keep k2 fun b hb e=>bd_ ho Av.blk d_ (by rw[hb,e])).keep k3 fun b hb e=>bd_ (ho.keep k2 fun b hb e=>bd_ ho Av.blk d_ (by rw[hb,e])) A2.blk d_ (by rw[hb,e])
 ·unfold kp_ at J
  dsimp only at J
  by_cases q:5≤t.kind
  ·rw[if_pos q] at J
   refine ao_ (by rw[decide_eq_true_eq];omega) ⟨rfl,s,A.cell rfl,?_⟩
   refine pF_ (B:=w.heap.size) (evs:=[]) (code:=10756) (rdr A.row (Nat.le_refl _)) (aK_ _ _ _ _) (Nat.le_refl _) (by rw[List.length_nil];omega) fun out v q2 ho=>J out v ⟨A.go (q2.from (ab_.refl _ _) (Nat.le_refl _)),?_⟩
   simpa using ho
  ·rw[if_neg q] at J
   exact al_ (by rw[decide_eq_false_iff_not];omega) (J ap_ w ⟨A,aK_ _ _ _ _⟩)
theorem th_ {B:Nat} {xs out:Sl} {l evs:List (Nat×Nat)} {ty:TypeId} {f:Nat×Nat→Bool} {test:Int→Bool} {E:Sl→W_} (hx:∀v,ab_ (fun k=>B≤k) w v→Rd v 2 xs (rgv l)) (ht:∀r∈l,test (r.1:Int)=f r) (ho:Own w B aJ_ 2 out (rgv evs)) (hB:B≤w.heap.size) (hl:evs.length+l.length≤1000)
  (hE:∀out' v,ab_ (fun k=>B≤k) w v→Own v B aJ_ 2 out' (rgv (evs++l.filter f))→E out' v) :
  ∃(I:Sl→Int→W_) (μ:Sl→Int→World→Nat),I out 0 w∧∀(out1:Sl) (x:Int) (w03:World),I out1 x w03→Br (decide (x<(xs.n:Int))) (aY_ (fun(out2:Sl) (w04:World)=>I out2 (IntKind.wrap .i64 (x+1)) w04∧μ out2 (IntKind.wrap .i64 (x+1)) w04<μ out1 x w03) fun J_1=>(0≤x∧x<(xs.n:Int)∧xs.A.isSome=true)∧∃g:A_,(loadVar aJ_ ((gA xs.A).add (x.toNat*2))).run Tryz.prog w03=.ok (.agg g) w03∧New (.cells #[.int .i64 0,.int .u64 0] aJ_) w03 fun r w05=>ag_ Tryz.prog (storeVar aJ_ r (.agg g)) w05 fun w06=>
   ∃n1:Int,w06.cell? (r.add 0)=some (.int .i64 n1)∧Br (test n1) (∃g1:A_,(loadVar aJ_ r).run Tryz.prog w06=.ok (.agg g1) w06∧ai_ Tryz.prog .sl (Instr.buildSlice dr_ 1 #[(0,.agg g1)]) w06 fun xs1 w08=>ai_ Tryz.prog .sl (Builtin.append_ #[dr_,dr_] ty #[.slice out1.A out1.n out1.c,.slice xs1.A xs1.n xs1.c]) w08 fun xs2 w09=>J_1 xs2 w09) (J_1 out1 w06)) (E out1 w03):=by
 have hln:l.length=xs.n:=by have:=(hx w (ab_.refl _ _)).len;rw[ch_] at this;omega
 refine⟨fun o x v=>∃j:Nat,x=j∧j≤l.length∧ab_ (fun k=>B≤k) w v∧Own v B aJ_ 2 o (rgv (evs++(l.take j).filter f)),fun _ x _=>xs.n-x.toNat,⟨0,rfl,Nat.zero_le _,ab_.refl _ _,by simpa using ho⟩,?_⟩
 rintro o x v ⟨j,rfl,hj,q,hov⟩
 have tl:∀k,((l.take k).filter f).length≤l.length:=fun k=>Nat.le_trans (List.length_filter_le _ _) (by rw[List.length_take];omega)
 refine bh_ (fun hlt=>?_) (fun hge=>?_)
 ·have hjl:j<l.length:=o_
  refine bw_ (fun o2 v'=>ab_ (fun k=>B≤k) w v'∧Own v' B aJ_ 2 o2 (rgv (evs++(l.take (j+1)).filter f))) (fun o2 v' hv=>?_) (fun J=>?_)
  ·rw[w64 o_ o_]
   exact⟨⟨j+1,o_,o_,hv.1,hv.2⟩,by dsimp only;omega⟩
  ·refine gY_ (hx v q) hjl fun rb v1 g1 b1 _=>?_
   have q1:ab_ (fun k=>B≤k) w v1:=q.trans (g1.mono fun _ _ q=>q.elim) fun _ _ q=>q
   have o1:=hov.grow g1
   have hs:l.take (j+1)=l.take j++[l[j]]:=by rw[List.take_succ_eq_append_getElem hjl]
   refine⟨(l[j].1:Int),by rw[am_,b1.cell];rfl,?_⟩
   rw[ht l[j] (List.getElem_mem hjl)]
   cases hf:f l[j] with
   | true=>
    refine ao_ rfl ⟨(rgc l[j]).toArray,aC_ j4_ fR_ rfl (ax_ b1),?_⟩
    refine nf_ (a:=l[j].1) (c:=l[j].2) o1 (by have:=q1.size;omega) (by rw[List.length_append];have:=tl j;omega) fun o3 v3 q3 h3 _=>J o3 v3 ⟨q1.trans q3 fun _ _ q=>q,?_⟩
    have:(l.take (j+1)).filter f=(l.take j).filter f++[(l[j].1,l[j].2)]:=by
     rw[hs,List.filter_append]
     congr 1
     rw[List.filter_cons,if_pos hf];rfl
    rw[this,←List.append_assoc];exact h3
   | false=>
    refine al_ rfl (J o v1 ⟨q1,?_⟩)
    have:(l.take (j+1)).filter f=(l.take j).filter f:=by
     rw[hs,List.filter_append]
     have:[l[j]].filter f = []:=by rw[List.filter_cons,if_neg (by rw[hf];exact Bool.noConfusion)];rfl
     rw[this];simp
    rw[this];exact o1
 ·have:j=l.length:=o_
  subst this
  rw[List.take_length] at hov
  exact hE o v q hov
theorem rZ_ {key:Nat} {R:W_} (h:IsT w N tb t) (hN:∀b,N b→b<w.heap.size) (hn:n<8) (hk:key<18446744073709551616) (hR:∀v,ab_ (fun k=>k=tb) w v→IsT v N tb (kN_ t n key)→R v):gz_ (some ⟨tb,0,none⟩) (n:Int) (key:Int) w R:=by
 refine gI_.calls _ _ _ _ _ ?_
 obtain⟨s,A,ok⟩:=h.at
 have hf:=ok.few
 have rk:∀v,ab_ (fun k=>w.heap.size≤k) w v→Rd v 2 s (rgv t.regs):=fun v k=>A.row.rd.keep k fun a _ ha e=>o_
 have toG:∀{v},ab_ (fun k=>w.heap.size≤k) w v→ac_ w v:=fun k=>ac_.keep (ab_.refl _ _) k fun i hi q=>o_
 have fl:∀f:Nat×Nat→Bool,(t.regs.filter f).length≤8:=fun f=>Nat.le_trans (List.length_filter_le _ _) hf
 refine⟨rfl,s,A.cell rfl,?_⟩
 refine th_ (B:=w.heap.size) (evs:=[]) (f:=fun r=>decide (r.1<n)) (test:=fun x=>decide (x<(n:Int))) rk (fun r _=>by rw[decide_eq_decide];omega) (aK_ _ _ _ _) (Nat.le_refl _) (by rw[List.length_nil];omega) fun l1 v1 k1 o1=>?_
 rw[List.nil_append] at o1
 refine bw_ (fun(l2:Sl) v=>ab_ (fun k=>w.heap.size≤k) w v∧Own v w.heap.size aJ_ 2 l2 (rgv (t.regs.filter (fun r=>decide (r.1<n))++if key≠0 then [(n,key)] else []))) ?_ (fun J=>?_)
 ·rintro l2 v2 ⟨k2,o2⟩
  have A2:=A.go (toG k2)
  refine⟨rfl,s,A2.cell rfl,?_⟩
  refine th_ (w:=v2) (B:=w.heap.size) (f:=fun r=>decide (n<r.1)) (test:=fun x=>decide (x>(n:Int))) (fun v k=>rk v (k2.trans k fun _ _ q=>q)) (fun r _=>by rw[decide_eq_decide];omega) o2 k2.size (by
   rw[List.length_append]
   have:=fl (fun r=>decide (r.1<n))
   have:(if key≠0 then [(n,key)] else []).length≤1:=by split<;>simp
   omega) fun l3 v3 k3 o3=>?_
  have k3w:=k2.trans k3 fun _ _ q=>q
  have A3:=A.go (toG k3w)
  have rn:RdN v3 N aJ_ 2 l3 (rgv (kN_ t n key).regs):=o3.rdN (by
   have h1:=o3.len
   rw[ch_] at h1
   have:=(rY_ ok hn hk).few
   have e:(kN_ t n key).regs.length=(t.regs.filter (fun r=>decide (r.1<n))++(if key≠0 then [(n,key)] else [])++t.regs.filter (fun r=>decide (n<r.1))).length:=rfl
   omega) hN
  exact⟨rfl,A3.put1 (t':=kN_ t n key) (s':=l3) (o:=0) d_ rfl rfl (.inr rn) fun v4 A4 _=>hR v4 A4.keep (A4.isT (ok.with (rY_ ok hn hk) ok.gen ok.kind ok.holder))⟩
 ·by_cases q:key=0
  ·refine al_ (by rw[bne_eq_false_iff_eq];omega) (J l1 v1 ⟨k1,?_⟩)
   rw[if_neg (fun e=>e q),List.append_nil];exact o1
  ·refine ao_ (by rw[bne_iff_ne];omega) ?_
   refine nf_ (a:=n) (c:=key) o1 k1.size (by have:=fl (fun r=>decide (r.1<n));omega) fun l2 v2 k2 o2 _=>J l2 v2 ⟨k1.trans k2 fun _ _ q=>q,?_⟩
   rw[if_pos q];exact o2
end
open Go CF
structure o0_ (o:gX_):Prop where
 key:o.key<18446744073709551616
 action:o.action<18446744073709551616
 type:o.type<256
section
variable {w u v:World} {N:Nat→Prop} {tb n:Nat} {t:a5_} {o:gX_}
theorem cs_ {b i:Nat} {x:Value} (h:Blk w b (otv o).toArray bz_) (e:(otv o)[i]?=some x):w.cell? ((⟨b,0,none⟩:Addr).add i)=some x:=by
 rw[am_,h.cell,Nat.zero_add,List.getElem?_toArray];exact e
theorem ng_ {b:Nat} (h:Blk w b (otv o).toArray bz_):(loadVar bz_ ⟨b,0,none⟩).run Tryz.prog w=.ok (.agg (otv o).toArray) w:=aC_ wh_ rs_ rfl (ax_ h)
theorem md_ {known:Bool} {R:Sl→W_} (h:IsT w N tb t) (hN:∀b,N b→b<w.heap.size) (hn:n<8) (ho:o0_ o)
  (hR:∀out v,ab_ (fun k=>k=tb) w v→IsT v N tb (eO_ t n o known).1→Own v w.heap.size a0_ 2 out (evv (eO_ t n o known).2)→R out v):cg_ (some ⟨tb,0,none⟩) (n:Int) (otv o).toArray known w R:=by
 refine dZ_.calls _ _ _ _ _ _ (ah_ fun ob w1 hob hb1 hg1 hs1=>?_)
 have hb1:Blk w1 ob (otv o).toArray bz_:=hb1
 have h1:=h.grow hg1
 have hN1:∀b,N b→b<w1.heap.size:=fun b q=>by have:=hN b q;omega
 have ltb:tb<w.heap.size:=h.lt
 refine⟨(o.action:Int),cs_ hb1 rfl,?_⟩
 unfold eO_ at hR
 refine bw_ (fun(out:Sl) v=>ab_ (fun k=>k=tb) w1 v∧IsT v N tb (bP_ t n o known).1∧Own v w1.heap.size a0_ 2 out (evv (bP_ t n o known).2)) ?_ (fun J=>?_)
 ·rintro out v ⟨k,hT,hO⟩
  have hbv:Blk v ob (otv o).toArray bz_:=k.heap hb1 o_
  obtain⟨s,A,ok⟩:=hT.at
  refine⟨o.aptpl,cs_ hbv rfl,rfl,A.put1 (t':={(bP_ t n o known).1 with lasts:=o.aptpl}) (s':=s) (o:=4) d_ rfl rfl (.inl ⟨rfl,rfl⟩) fun v2 A2 k2=>⟨rfl,((bP_ t n o known).1.gen:Int),A2.cell rfl,rfl,?_⟩⟩
  have eg:IntKind.wrap .u32 (((bP_ t n o known).1.gen:Int)+1)=((((bP_ t n o known).1.gen+1)%4294967296:Nat):Int):=by
   have e:IntKind.wrap .u32 (((bP_ t n o known).1.gen:Int)+1)=(((bP_ t n o known).1.gen:Int)+1)%4294967296:=by simp[IntKind.wrap,IntKind.signed,IntKind.bits]
   rw[e];omega
  rw[eg]
  refine A2.put1 (t':={(bP_ t n o known).1 with lasts:=o.aptpl,gen:=((bP_ t n o known).1.gen+1)%4294967296}) (s':=s) (o:=1) d_ rfl rfl (.inl ⟨rfl,rfl⟩) fun v3 A3 k3=>?_
  have kw:ab_ (fun k=>k=tb) w v3:=(((hg1.mono fun _ _ q=>q.elim).trans k fun _ _ q=>q).trans k2 fun _ _ q=>q).trans k3 fun _ _ q=>q
  have o2:=hO.keep k2 fun b hb e=>bd_ hO A.blk d_ (by rw[hb,e])
  exact hR out v3 kw (A3.isT (ok.with ok.rok o_ ok.kind ok.holder)) ((o2.keep k3 fun b hb e=>bd_ o2 A2.blk d_ (by rw[hb,e])).mono hg1.size)
 ·unfold bP_ at J
  by_cases q0:o.action=0∧known=true
  ·rw[if_pos q0] at J
   obtain⟨s,A,ok⟩:=h1.at
   have hsn:t.regs.length=s.n:=by have:=A.row.rd.len;rw[ch_] at this;omega
   refine ao_ (by rw[Bool.and_eq_true,beq_iff_eq];exact⟨o_,q0.2⟩) ⟨rfl,(t.kind:Int),A.cell rfl,d4_ ⟨fun _=>rfl,s,fun _=>A.cell rfl,rfl,(t.kind:Int),A.cell rfl,fun _=>rfl,t.holder,fun _=>A.cell rfl,?_⟩⟩
   refine rZ_ (key:=0) h1 hN1 hn d_ fun v2 k2 T2=>?_
   obtain⟨s2,A2,ok2⟩:=T2.at
   have ek:(((t.kind:Int) != 0))=decide (t.kind≠0):=by rw[Bool.eq_iff_iff,bne_iff_ne,decide_eq_true_eq];omega
   have eh:(t.holder==(n:Int))=decide (t.holder=(n:Int)):=by rw[Bool.eq_iff_iff,beq_iff_eq,decide_eq_true_eq]
   have el:((s.n:Int)==1)=decide (t.regs.length=1):=by rw[Bool.eq_iff_iff,beq_iff_eq,decide_eq_true_eq];omega
   rw[ek,eh,el]
   refine⟨fun _=>rfl,(t.kind:Int),fun _=>A2.cell rfl,?_⟩
   refine ci_ (fun(b2:Bool) o'=>o'=v2∧((((decide (t.kind≠0))&&(decide (t.holder=(n:Int))))&&(!(allK t.kind&&decide (t.regs.length=1))))=true→b2=allK t.kind)) ?_ (fun J2=>⟨fun _=>d4_ (J2 _ _ ⟨rfl,fun _=>rfl⟩),fun q=>J2 _ _ ⟨rfl,fun e=>by rw[q] at e;cases e⟩⟩)
   rintro b2 o' ⟨rfl,hb2⟩
   have hcond:((allK t.kind&&decide (t.regs.length=1))||(((decide (t.kind≠0))&&(decide (t.holder=(n:Int)))) && !b2))=decide ((allK t.kind=true∧t.regs.length=1)∨((t.kind≠0∧t.holder=(n:Int))∧allK t.kind=false)):=by
    rw[Bool.eq_iff_iff,decide_eq_true_eq]
    simp only[Bool.or_eq_true,Bool.and_eq_true,decide_eq_true_eq,Bool.not_eq_true']
    by_cases ql:allK t.kind=true∧t.regs.length=1
    ·exact⟨fun _=>.inl ql,fun _=>.inl ql⟩
    ·by_cases qh:t.kind≠0∧t.holder=(n:Int)
     ·have:=hb2 (by
       simp only[Bool.and_eq_true,decide_eq_true_eq,Bool.not_eq_true',Bool.and_eq_false_iff,decide_eq_false_iff_not]
       refine⟨qh,?_⟩
       by_cases e:allK t.kind=true
       ·exact .inr fun e2=>ql ⟨e,e2⟩
       ·exact .inl (by simpa using e))
      rw[this]
     ·exact⟨fun q=>q.elim (fun q=>absurd q ql) fun q=>absurd q.1 qh,fun q=>q.elim (fun q=>absurd q ql) fun q=>absurd q.1 qh⟩
   rw[hcond]
   have kw:ab_ (fun k=>k=tb) w1 o':=k2
   by_cases qc:(allK t.kind=true∧t.regs.length=1)∨((t.kind≠0∧t.holder=(n:Int))∧allK t.kind=false)
   ·rw[if_pos qc] at J
    refine ao_ (decide_eq_true qc) (free_spec T2 fun out v3 k3 T3 O3=>J out v3 ⟨k2.trans k3 fun _ _ q=>q,T3,O3.mono k2.size⟩)
   ·rw[if_neg qc] at J
    exact al_ (decide_eq_false qc) (J ap_ o' ⟨k2,T2,aK_ _ _ _ _⟩)
  ·rw[if_neg q0] at J
   refine al_ ?_ ⟨(o.action:Int),cs_ hb1 rfl,?_⟩
   ·rw[Bool.and_eq_false_iff,beq_eq_false_iff_ne]
    by_cases e:o.action=0
    ·right
     cases hk:known with
     | false=>rfl
     | true=>exact absurd ⟨e,hk⟩ q0
    ·left;omega
   ·by_cases qa:o.action=0
    ·rw[if_neg (fun e=>e qa)] at J
     exact al_ (by rw[bne_eq_false_iff_eq];omega) (J ap_ w1 ⟨ab_.refl _ _,h1,aK_ _ _ _ _⟩)
    ·rw[if_pos qa] at J
     exact ao_ (by rw[bne_iff_ne];omega) ⟨(o.action:Int),cs_ hb1 rfl,rZ_ h1 hN1 hn ho.action fun v2 k2 T2=>J ap_ v2 ⟨k2,T2,aK_ _ _ _ _⟩⟩
theorem r0_ {R:Int→Int→Sl→W_} (h:IsT w N tb t) (hn:n<8) (ho:o0_ o)
  (hR:∀v,ab_ (fun k=>k=tb) w v→IsT v N tb (e4_ t n o).t→R ((e4_ t n o).st:Int) ((e4_ t n o).code:Int) ap_ v):ej_ (some ⟨tb,0,none⟩) (n:Int) (otv o).toArray w R:=by
 refine ew_.calls _ _ _ _ _ (ah_ fun ob w1 hob hb1 hg1 hs1=>?_)
 have hb1:Blk w1 ob (otv o).toArray bz_:=hb1
 have h1:=h.grow hg1
 have ltb:tb<w.heap.size:=h.lt
 unfold e4_ at hR
 have kg:∀{v:World},ac_ w v→ab_ (fun k=>k=tb) w v:=fun g=>g.mono fun _ _ q=>q.elim
 refine⟨(o.type:Int),cs_ hb1 rfl,jE_ ?_⟩
 cases hty:fe_ o.type with
 | false=>rw[hty,if_pos rfl] at hR;exact ao_ rfl (hR w1 (kg hg1) h1)
 | true=>
  rw[hty,if_neg Bool.noConfusion] at hR
  obtain⟨s,A,ok⟩:=h1.at
  refine al_ rfl ⟨rfl,(t.kind:Int),A.cell rfl,?_⟩
  by_cases q:t.kind=0
  ·rw[if_pos q] at hR
   refine ao_ (by rw[beq_iff_eq];omega) ⟨(o.type:Int),cs_ hb1 rfl,rfl,A.put1 (t':={t with kind:=o.type}) (s':=s) (o:=2) d_ rfl rfl (.inl ⟨rfl,rfl⟩) fun v2 A2 k2=>⟨rfl,A2.put1 (t':={t with kind:=o.type,holder:=(n:Int)}) (s':=s) (o:=3) d_ rfl rfl (.inl ⟨rfl,rfl⟩) fun v3 A3 k3=>?_⟩⟩
   exact hR v3 (((kg hg1).trans k2 fun _ _ q=>q).trans k3 fun _ _ q=>q) (A3.isT (ok.with ok.rok ok.gen ho.type o_))
  ·rw[if_neg q] at hR
   refine al_ (by rw[beq_eq_false_iff_ne];omega) ?_
   rintro w2 rfl
   have g2:=hg1.trans (aq_ w1)
   have h2:=h1.grow (aq_ w1)
   have b2:Blk w1.drew ob (otv o).toArray bz_:=(aq_ w1).heap hb1 (fun q=>q)
   generalize w1.drew=w2 at *
   refine⟨fun z=>ac_ w2 z,ab_.refl _ _,jF_ h2 fun w3 g3=>⟨g3,fun _=>rfl,fun z=>ac_ w2 z,g3,fun _ q=>q,(t.kind:Int),fun _ z gz=>?_,fun z=>ac_ w2 z,g3,fun _ q=>q,(o.type:Int),fun _ z gz=>cs_ (gz.heap b2 (fun q=>q)) rfl,?_⟩⟩
   ·obtain⟨s,A,_⟩:=(h2.grow gz).at
    exact A.cell rfl
   ·have e:(dv_ t n&&((t.kind:Int)==(o.type:Int)))=decide (dv_ t n=true∧t.kind=o.type):=by
     rw[Bool.eq_iff_iff,Bool.and_eq_true,beq_iff_eq,decide_eq_true_eq]
     exact and_congr_right fun _=>⟨fun e=>o_,fun e=>o_⟩
    rw[e]
    by_cases qh:dv_ t n=true∧t.kind=o.type
    ·rw[if_pos qh] at hR;exact ao_ (decide_eq_true qh) (hR w3 (kg (g2.trans g3)) (h2.grow g3))
    ·rw[if_neg qh] at hR;exact al_ (decide_eq_false qh) (hR w3 (kg (g2.trans g3)) (h2.grow g3))
theorem r1_ {R:Int→Int→Sl→W_} (h:IsT w N tb t)
  (hR:∀out v,ab_ (fun k=>k=tb) w v→IsT v N tb (fX_ t n o).t→Own v w.heap.size a0_ 2 out (evv (fX_ t n o).ev)→R ((fX_ t n o).st:Int) ((fX_ t n o).code:Int) out v):ek_ (some ⟨tb,0,none⟩) (n:Int) (otv o).toArray w R:=by
 refine ex_.calls _ _ _ _ _ (ah_ fun ob w1 hob hb1 hg1 hs1=>?_)
 have hb1:Blk w1 ob (otv o).toArray bz_:=hb1
 have h1:=h.grow hg1
 unfold fX_ at hR
 have kg:∀{v:World},ac_ w v→ab_ (fun k=>k=tb) w v:=fun g=>g.mono fun _ _ q=>q.elim
 refine jF_ h1 fun w2 g2=>?_
 have gw2:=hg1.trans g2
 cases hh:dv_ t n with
 | false=>rw[hh,if_pos rfl] at hR;exact ao_ rfl (hR ap_ w2 (kg gw2) (h1.grow g2) (aK_ _ _ _ _))
 | true=>
  rw[hh,if_neg Bool.noConfusion] at hR
  refine al_ rfl ?_
  rintro w3 rfl
  have g3:=gw2.trans (aq_ w2)
  have h3:=(h1.grow g2).grow (aq_ w2)
  have b3:Blk w2.drew ob (otv o).toArray bz_:=(g2.trans (aq_ w2)).heap hb1 (fun q=>q)
  generalize w2.drew=w3 at *
  refine⟨fun z=>ac_ w3 z,ab_.refl _ _,rfl,(t.kind:Int),fun z gz=>?_,(o.type:Int),fun z gz=>cs_ (gz.heap b3 (fun q=>q)) rfl,?_⟩
  ·obtain⟨s,A,_⟩:=(h3.grow gz).at
   exact A.cell rfl
  ·by_cases q:t.kind=o.type
   ·rw[if_neg (fun e=>e q)] at hR
    exact al_ (by rw[bne_eq_false_iff_eq];omega) (free_spec h3 fun out v k T O=>hR out v ((kg g3).trans k fun _ _ q=>q) T (O.mono g3.size))
   ·rw[if_pos q] at hR
    exact ao_ (by rw[bne_iff_ne];omega) (hR ap_ w3 (kg g3) h3 (aK_ _ _ _ _))
theorem ui_ {R:Sl→W_} (h:IsT w N tb t)
  (hR:∀out v,ab_ (fun k=>k=tb) w v→IsT v N tb (mO_ t n).1→Own v w.heap.size a0_ 2 out (evv (mO_ t n).2)→R out v):fu_ (some ⟨tb,0,none⟩) (n:Int) w R:=by
 refine fB_.calls _ _ _ _ ?_
 obtain⟨s,A,ok⟩:=h.at
 have hf:=ok.few
 refine⟨rfl,s,A.cell rfl,?_⟩
 refine pF_ (B:=w.heap.size) (evs:=[]) (code:=10755) (rdr A.row (Nat.le_refl _)) (aK_ _ _ _ _) (Nat.le_refl _) (by rw[List.length_nil];omega) fun out v q2 ho=>?_
 rw[List.nil_append] at ho
 have Av:=A.go (q2.from (ab_.refl _ _) (Nat.le_refl _))
 have rn:RdN v N aJ_ 2 ap_ (rgv []):=RdN.nil _ _ _ _
 refine⟨rfl,Av.put1 (t':={t with regs:=[]}) (s':=ap_) (o:=0) d_ rfl rfl (.inr rn) fun v1 A1 k1=>⟨rfl,A1.put1 (t':={t with regs:=[],kind:=0}) (s':=ap_) (o:=2) d_ rfl rfl (.inl ⟨rfl,rfl⟩) fun v2 A2 k2=>⟨rfl,A2.put1 (t':={t with regs:=[],kind:=0,holder:=-1}) (s':=ap_) (o:=3) d_ rfl rfl (.inl ⟨rfl,rfl⟩) fun v3 A3 k3=>⟨rfl,(t.gen:Int),A3.cell rfl,rfl,?_⟩⟩⟩⟩
 have eg:IntKind.wrap .u32 ((t.gen:Int)+1)=(((t.gen+1)%4294967296:Nat):Int):=by
  have e:IntKind.wrap .u32 ((t.gen:Int)+1)=((t.gen:Int)+1)%4294967296:=by simp[IntKind.wrap,IntKind.signed,IntKind.bits]
  rw[e];omega
 rw[eg]
 refine A3.put1 (t':=(mO_ t n).1) (s':=ap_) (o:=1) d_ rfl rfl (.inl ⟨rfl,rfl⟩) fun v4 A4 k4=>?_
 have o1:=ho.keep k1 fun b hb e=>bd_ ho Av.blk d_ (by rw[hb,e])
 have o2:=o1.keep k2 fun b hb e=>bd_ o1 A1.blk d_ (by rw[hb,e])
 have o3:=o2.keep k3 fun b hb e=>bd_ o2 A2.blk d_ (by rw[hb,e])
 have o4:=o3.keep k4 fun b hb e=>bd_ o3 A3.blk d_ (by rw[hb,e])
 exact hR out v4 A4.keep (A4.isT ⟨by show 0≤8;decide,List.Pairwise.nil,fun r hr=>(by cases hr),by show(t.gen+1)%4294967296<4294967296;omega,by show 0<256;decide,by show -1≤(-1:Int)∧(-1:Int)<8;decide⟩) o4
end
open Go CF
section
variable {w u v:World} {N:Nat→Prop} {tb n:Nat} {t:a5_} {o:gX_}
theorem r2_ {l:List (Nat×Nat)} {f:Nat×Nat→Bool} {j:Nat} (hj:j<l.length):(l.take (j+1)).any f=((l.take j).any f||f l[j]):=by
 rw[List.take_succ_eq_append_getElem hj,List.any_append];simp
theorem r3_ {R:Int→Int→Sl→W_} (h:IsT w N tb t) (hN:∀b,N b→b<w.heap.size) (hn:n<8) (ho:o0_ o)
  (hR:∀out v,ab_ (fun k=>k=tb) w v→IsT v N tb (fY_ t n o).t→Own v w.heap.size a0_ 2 out (evv (fY_ t n o).ev)→R ((fY_ t n o).st:Int) ((fY_ t n o).code:Int) out v):el_ (some ⟨tb,0,none⟩) (n:Int) (otv o).toArray w R:=by
 refine ey_.calls _ _ _ _ _ (ah_ fun ob w0 hob hb0 hg0 hs0=>?_)
 have hb0:Blk w0 ob (otv o).toArray bz_:=hb0
 have ltb:tb<w.heap.size:=h.lt
 rintro w1 rfl
 have g1:=hg0.trans (aq_ w0)
 have b1:Blk w0.drew ob (otv o).toArray bz_:=(aq_ w0).heap hb0 (fun q=>q)
 generalize w0.drew=w1 at *
 have h1:=h.grow g1
 have hN1:∀b,N b→b<w1.heap.size:=fun b q=>by have:=hN b q;have:=g1.size;omega
 obtain⟨s,A,ok⟩:=h1.at
 have hf:=ok.few
 have hsn:t.regs.length=s.n:=by have:=A.row.rd.len;rw[ch_] at this;omega
 have kg:∀{v:World},ac_ w v→ab_ (fun k=>k=tb) w v:=fun g=>g.mono fun _ _ q=>q.elim
 have cT:∀{z:World} {i:Nat} {x:Value},ac_ w1 z→(bU_ s t)[i]?=some x→z.cell? ((gA (some (⟨tb,0,none⟩:Addr))).add i)=some x:=fun g e=>(A.go g).cell e
 have cO:∀{z:World} {i:Nat} {x:Value},ac_ w1 z→(otv o)[i]?=some x→z.cell? ((⟨ob,0,none⟩:Addr).add i)=some x:=fun g e=>cs_ (g.heap b1 (fun q=>q)) e
 refine⟨fun z=>ac_ w1 z,ab_.refl _ _,rfl,(t.kind:Int),fun z g=>cT g rfl,d4_ ⟨ab_.refl _ _,fun z=>ac_ w1 z,ab_.refl _ _,fun _ q=>q,(o.action:Int),fun _ z g=>cO g rfl,rfl,s,cT (ab_.refl _ _) rfl,?_⟩⟩
 have eal:(allK t.kind&&((o.action:Int)==0))=(allK t.kind&&decide (o.action=0)):=by
  congr 1
  rw[Bool.eq_iff_iff,beq_iff_eq,decide_eq_true_eq];omega
 rw[eal]
 unfold fY_ at hR
 generalize hall:(allK t.kind&&decide (o.action=0))=all at *
 have ek:((t.kind:Int) != 0)=decide (t.kind≠0):=by rw[Bool.eq_iff_iff,bne_iff_ne,decide_eq_true_eq];omega
 let hp:Nat×Nat→Bool:=fun r=>(decide (t.kind≠0) && !allK t.kind)&&decide ((r.1:Int)=t.holder)&&decide (r.2=o.action)
 refine⟨fun held x v=>∃j:Nat,x=j∧j≤t.regs.length∧ac_ w1 v∧held=(t.regs.take j).any hp,fun _ x _=>s.n-x.toNat,⟨0,rfl,Nat.zero_le _,ab_.refl _ _,rfl⟩,?_⟩
 rintro held x v ⟨j,rfl,hj,gv,rfl⟩
 refine bh_ (fun hlt=>?_) (fun hge=>?_)
 ·have hjl:j<t.regs.length:=o_
  refine gY_ (A.row.rd.grow gv) hjl fun rb v1 g2 br _=>?_
  rintro v2 rfl
  have gv2:=(gv.trans g2).trans (aq_ v1)
  have br2:Blk v1.drew rb (rgc t.regs[j]).toArray aJ_:=(aq_ v1).heap br (fun q=>q)
  generalize v1.drew=v2 at *
  refine⟨fun z=>ac_ v2 z,ab_.refl _ _,fun _=>rfl,(t.kind:Int),fun _ z g=>cT (gv2.trans g) rfl,fun _=>rfl,(t.kind:Int),fun _ z g=>cT (gv2.trans g) rfl,?_⟩
  rw[ek]
  generalize hde:(t.regs.take j).any hp=hd at *
  refine ci_ (fun(bb:Bool) z=>z=v2∧((decide (t.kind≠0) && !hd)=true→bb=allK t.kind)) ?_ (fun J=>⟨fun _=>d4_ (J _ _ ⟨rfl,fun _=>rfl⟩),fun q=>J _ _ ⟨rfl,fun e=>by rw[q] at e;cases e⟩⟩)
  rintro bb z ⟨rfl,hbb⟩
  refine⟨ab_.refl _ _,fun y=>ac_ z y,ab_.refl _ _,fun _ q=>q,(t.regs[j].1:Int),fun _ y g=>by rw[am_,Blk.cell (g.heap br2 (fun q=>q))];rfl,fun _=>rfl,fun y=>ac_ z y,ab_.refl _ _,fun _ q=>q,t.holder,fun _ y g=>cT (gv2.trans g) rfl,fun y=>ac_ z y,ab_.refl _ _,fun _ q=>q,(t.regs[j].2:Int),fun _ y g=>by rw[am_,Blk.cell (g.heap br2 (fun q=>q))];rfl,fun y=>ac_ z y,ab_.refl _ _,fun _ q=>q,(o.action:Int),fun _ y g=>cO (gv2.trans g) rfl,?_⟩
  have e1:((t.regs[j].1:Int)==t.holder)=decide ((t.regs[j].1:Int)=t.holder):=by rw[Bool.eq_iff_iff,beq_iff_eq,decide_eq_true_eq]
  have e2:((t.regs[j].2:Int)==(o.action:Int))=decide (t.regs[j].2=o.action):=by
   rw[Bool.eq_iff_iff,beq_iff_eq,decide_eq_true_eq]
   exact⟨fun e=>o_,fun e=>o_⟩
  rw[e1,e2]
  have e3:(hd||((((decide (t.kind≠0))&&(!bb))&&decide ((t.regs[j].1:Int)=t.holder))&&decide (t.regs[j].2=o.action)))=(t.regs.take (j+1)).any hp:=by
   rw[r2_ hjl,hde]
   cases hd with
   | true=>rfl
   | false=>
    by_cases q:t.kind≠0
    ·rw[hbb (by rw[decide_eq_true q];rfl)]
    ·show _=(false||((decide (t.kind≠0) && !allK t.kind)&&decide ((t.regs[j].1:Int)=t.holder)&&decide (t.regs[j].2=o.action)))
     rw[decide_eq_false q];rfl
  rw[e3,w64 o_ o_]
  exact⟨⟨j+1,o_,o_,gv2,rfl⟩,by dsimp only;omega⟩
 have ej:j=t.regs.length:=o_
 subst ej
 rw[List.take_length]
 have hheld:t.regs.any hp=qU_ t o.action:=rfl
 rw[hheld]
 have gwv:=g1.trans gv
 have hv:=h1.grow gv
 have eo:((o.action:Int)==0)=decide (o.action=0):=by rw[Bool.eq_iff_iff,beq_iff_eq,decide_eq_true_eq];omega
 refine⟨(o.action:Int),cO gv rfl,?_⟩
 rw[eo]
 by_cases c1:o.action=0∧all=false
 ·rw[if_pos c1] at hR
  exact ao_ (by rw[Bool.and_eq_true,decide_eq_true_eq,c1.2];exact⟨c1.1,rfl⟩) (hR ap_ v (kg gwv) hv (aK_ _ _ _ _))
 rw[if_neg c1] at hR
 refine al_ (by
  rw[Bool.and_eq_false_iff,decide_eq_false_iff_not,Bool.not_eq_false']
  by_cases q:o.action=0
  ·right
   cases ha:all with
   | true=>rfl
   | false=>exact absurd ⟨q,ha⟩ c1
  ·exact .inl q) ⟨(o.type:Int),fun _=>cO gv rfl,?_⟩
 generalize hha:(qU_ t o.action||all)=ha at *
 refine ci_ (fun(b2:Bool) z=>z=v∧(ha=true→b2=fe_ o.type)) ?_ (fun J=>⟨fun _=>jE_ (J _ _ ⟨rfl,fun _=>rfl⟩),fun q=>J _ _ ⟨rfl,fun e=>by rw[q] at e;cases e⟩⟩)
 rintro b2 z ⟨rfl,hb2⟩
 by_cases c2:ha=true∧fe_ o.type=false
 ·rw[if_pos c2] at hR
  exact ao_ (by rw[hb2 c2.1,c2.1,c2.2];rfl) (hR ap_ z (kg gwv) hv (aK_ _ _ _ _))
 rw[if_neg c2] at hR
 refine al_ (by
  cases hq:ha with
  | false=>rfl
  | true=>
   rw[hb2 hq]
   cases ht:fe_ o.type with
   | true=>rfl
   | false=>exact absurd ⟨hq,ht⟩ c2) ⟨rfl,s,cT gv rfl,?_⟩
 have tl:∀(f:Nat×Nat→Bool) (k:Nat),(tells (t.regs.take k) f 10757).length≤8:=fun f k=>by
  unfold tells
  rw[List.length_map]
  exact Nat.le_trans (List.length_filter_le _ _) (by rw[List.length_take];omega)
 have fl:∀(f:Nat×Nat→Bool) (k:Nat),((t.regs.take k).filter f).length≤8:=fun f k=>Nat.le_trans (List.length_filter_le _ _) (by rw[List.length_take];omega)
 generalize hB:z.heap.size=B at *
 let lp:=qV_ t n o.action all
 let np:Nat×Nat→Bool:=fun r=> !lp r
 have toG:∀{y},ab_ (fun k=>B≤k) z y→ac_ z y:=fun k=>ac_.keep (ab_.refl _ _) k fun i hi q=>o_
 refine⟨fun out left x y=>∃j:Nat,x=j∧j≤t.regs.length∧ab_ (fun k=>B≤k) z y∧Own y B a0_ 2 out (evv (tells (t.regs.take j) np 10757))∧Own y B aJ_ 2 left (rgv ((t.regs.take j).filter lp)),fun _ _ x _=>s.n-x.toNat,⟨0,rfl,Nat.zero_le _,ab_.refl _ _,aK_ _ _ _ _,aK_ _ _ _ _⟩,?_⟩
 rintro out left x y ⟨j,rfl,hj,ky,oe,og⟩
 have gzy:=toG ky
 have gy:=gv.trans gzy
 refine bh_ (fun hlt=>?_) (fun hge=>?_)
 ·have hjl:j<t.regs.length:=o_
  have hs:t.regs.take (j+1)=t.regs.take j++[t.regs[j]]:=by rw[List.take_succ_eq_append_getElem hjl]
  refine xw_ (fun o2 l2 y'=>ab_ (fun k=>B≤k) z y'∧Own y' B a0_ 2 o2 (evv (tells (t.regs.take (j+1)) np 10757))∧Own y' B aJ_ 2 l2 (rgv ((t.regs.take (j+1)).filter lp))) (fun o2 l2 y' hy=>?_) (fun J=>?_)
  ·rw[w64 o_ o_]
   exact⟨⟨j+1,o_,o_,hy.1,hy.2.1,hy.2.2⟩,by dsimp only;omega⟩
  ·refine gY_ (A.row.rd.grow gy) hjl fun rb y1 g2 br _=>?_
   have ky1:ab_ (fun k=>B≤k) z y1:=ky.trans (g2.mono fun _ _ q=>q.elim) fun _ _ q=>q
   have oe1:=oe.grow g2
   have og1:=og.grow g2
   have gy1:=gy.trans g2
   have c1r:∀{i:Nat} {x:Value},(rgc t.regs[j])[i]?=some x→y1.cell? ((⟨rb,0,none⟩:Addr).add i)=some x:=fun e=>by rw[am_,br.cell,Nat.zero_add,List.getElem?_toArray];exact e
   refine⟨(t.regs[j].1:Int),c1r rfl,?_⟩
   refine bw_ (fun(x2:Bool) y'=>y'=y1∧x2=lp t.regs[j]) ?_ (fun J2=>?_)
   ·rintro x2 y' ⟨rfl,rfl⟩
    cases hl:lp t.regs[j] with
    | true=>
     refine ao_ rfl ⟨(rgc t.regs[j]).toArray,aC_ j4_ fR_ rfl (ax_ br),?_⟩
     refine nf_ (a:=t.regs[j].1) (c:=t.regs[j].2) og1 (by have:=ky1.size;omega) (by have:=fl lp j;omega) fun l3 y3 k3 h3 hk3=>J out l3 y3 ⟨ky1.trans k3 fun _ _ q=>q,?_,?_⟩
     ·have:tells (t.regs.take (j+1)) np 10757=tells (t.regs.take j) np 10757:=by
       unfold tells
       rw[hs,List.filter_append,List.map_append]
       have:[t.regs[j]].filter np = []:=by rw[List.filter_cons,if_neg (by show ¬(!lp t.regs[j])=true;rw[hl];decide)];rfl
       rw[this];simp
      rw[this]
      rcases oe1 with⟨hlen,hnil|⟨g,cap,cur,hv',hbg,hg,rest⟩⟩
      ·exact⟨hlen,.inl hnil⟩
      ·exact⟨hlen,.inr ⟨g,cap,cur,hv',hbg,hk3 g cur _ hg d_,rest⟩⟩
     ·have:(t.regs.take (j+1)).filter lp=(t.regs.take j).filter lp++[(t.regs[j].1,t.regs[j].2)]:=by
       rw[hs,List.filter_append]
       congr 1
       rw[List.filter_cons,if_pos hl];rfl
      rw[this];exact h3
    | false=>
     refine al_ rfl ⟨(t.regs[j].1:Int),c1r rfl,?_⟩
     refine tf_ (a:=t.regs[j].1) (c:=10757) oe1 (by have:=ky1.size;omega) (by have:=tl np j;omega) fun o3 y3 q3 h3=>J o3 left y3 ⟨ky1.trans q3.keep fun _ _ q=>q,?_,?_⟩
     ·have:tells (t.regs.take (j+1)) np 10757=tells (t.regs.take j) np 10757++[(t.regs[j].1,10757)]:=by
       unfold tells
       rw[hs,List.filter_append,List.map_append]
       congr 1
       rw[List.filter_cons,if_pos (by show(!lp t.regs[j])=true;rw[hl];rfl)];rfl
      rw[this];exact h3
     ·have:(t.regs.take (j+1)).filter lp=(t.regs.take j).filter lp:=by
       rw[hs,List.filter_append]
       have:[t.regs[j]].filter lp = []:=by rw[List.filter_cons,if_neg (by rw[hl];decide)];rfl
       rw[this];simp
      rw[this]
      rcases og1 with⟨hlen,hnil|⟨g,cap,cur,hv',hbg,hg,rest⟩⟩
      ·exact⟨hlen,.inl hnil⟩
      ·exact⟨hlen,.inr ⟨g,cap,cur,hv',hbg,q3.regs g cur hg,rest⟩⟩
   ·have en:((t.regs[j].1:Int)==(n:Int))=decide (t.regs[j].1=n):=by
     rw[Bool.eq_iff_iff,beq_iff_eq,decide_eq_true_eq]
     exact⟨fun e=>o_,fun e=>o_⟩
    have ea:((t.regs[j].2:Int) != (o.action:Int))=decide (t.regs[j].2≠o.action):=by
     rw[Bool.eq_iff_iff,bne_iff_ne,decide_eq_true_eq]
     exact⟨fun e=>o_,fun e=>o_⟩
    rw[en]
    by_cases q:t.regs[j].1=n
    ·refine ao_ (decide_eq_true q) (J2 _ _ ⟨rfl,?_⟩)
     show _=(decide (t.regs[j].1=n)||_)
     rw[decide_eq_true q];rfl
    ·refine al_ (decide_eq_false q) ⟨(t.regs[j].2:Int),c1r rfl,(o.action:Int),cO gy1 rfl,J2 _ _ ⟨rfl,?_⟩⟩
     rw[ea]
     show _=(decide (t.regs[j].1=n)||(decide (t.regs[j].2≠o.action) && !all))
     rw[decide_eq_false q];rfl
 have ej:j=t.regs.length:=o_
 subst ej
 rw[List.take_length] at oe og
 refine⟨rfl,s,cT gy rfl,?_⟩
 let hk:Nat×Nat→Bool:=fun r=>decide (r.2=o.action)
 refine⟨fun hit x y'=>∃j:Nat,x=j∧j≤t.regs.length∧ac_ y y'∧hit=(t.regs.take j).any hk,fun _ x _=>s.n-x.toNat,⟨0,rfl,Nat.zero_le _,ab_.refl _ _,rfl⟩,?_⟩
 rintro hit x y' ⟨j,rfl,hj2,gy',rfl⟩
 have gw1y:=gy.trans gy'
 refine bh_ (fun hlt=>?_) (fun hge2=>?_)
 ·have hjl:j<t.regs.length:=o_
  refine gY_ (A.row.rd.grow gw1y) hjl fun rb y1 g2 br _=>?_
  refine⟨(t.regs[j].2:Int),fun _=>by rw[am_,br.cell];rfl,(o.action:Int),fun _=>cO (gw1y.trans g2) rfl,?_⟩
  have e2:((t.regs[j].2:Int)==(o.action:Int))=decide (t.regs[j].2=o.action):=by
   rw[Bool.eq_iff_iff,beq_iff_eq,decide_eq_true_eq]
   exact⟨fun e=>o_,fun e=>o_⟩
  rw[e2,show((t.regs.take j).any hk||decide (t.regs[j].2=o.action))=(t.regs.take (j+1)).any hk by rw[r2_ hjl],w64 o_ o_]
  exact⟨⟨j+1,o_,o_,gy'.trans g2,rfl⟩,by dsimp only;omega⟩
 have ej:j=t.regs.length:=o_
 subst ej
 rw[List.take_length]
 have hhit:t.regs.any hk=(t.regs.any fun r=>decide (r.2=o.action)):=rfl
 rw[hhit]
 have hy':=h1.grow gw1y
 by_cases c3:(t.regs.any fun r=>decide (r.2=o.action))=false∧all=false
 ·rw[if_pos c3] at hR
  exact ao_ (by rw[c3.1,c3.2];rfl) (hR ap_ y' (kg (g1.trans gw1y)) hy' (aK_ _ _ _ _))
 rw[if_neg c3] at hR
 refine al_ (by
  cases hq:(t.regs.any fun r=>decide (r.2=o.action)) with
  | true=>rfl
  | false=>
   cases ha2:all with
   | true=>rfl
   | false=>exact absurd ⟨hq,ha2⟩ c3) ⟨rfl,(t.kind:Int),cT gw1y rfl,rfl,?_⟩
 have A':=A.go gw1y
 have og':=og.grow gy'
 have oe':=oe.grow gy'
 have hBw:w.heap.size≤B:=by have:=gwv.size;omega
 have hBy:B≤y'.heap.size:=by have:=ky.size;have:=gy'.size;omega
 have rfil:gt_ (t.regs.filter lp):=ok.rok.filter lp
 have lfew:=rfil.few
 have hNB:∀b,N b→b<B:=fun b q=>by have:=hN1 b q;have:=gv.size;omega
 have rn:RdN y' N aJ_ 2 left (rgv (t.regs.filter lp)):=⟨og'.mono (Nat.zero_le _),by have:=og'.len;rw[ch_] at this;omega,fun b hb q=>by have:=(og'.ge b hb).1;have:=hNB b q;omega⟩
 refine A'.put1 (t':={t with regs:=t.regs.filter lp}) (s':=left) (o:=0) d_ rfl rfl (.inr rn) fun y1 A1 k1=>?_
 have cO1:∀{i:Nat} {x:Value},(otv o)[i]?=some x→y1.cell? ((⟨ob,0,none⟩:Addr).add i)=some x:=fun e=>cs_ (k1.heap (gw1y.heap b1 (fun q=>q)) (fun e=>by have:=au_ hb0;omega)) e
 have oe1:Own y1 B a0_ 2 out (evv (tells t.regs np 10757)):=oe'.keep k1 fun b hb e=>bd_ oe' A'.blk d_ (by rw[hb,e])
 have og1:Own y1 B aJ_ 2 left (rgv (t.regs.filter lp)):=og'.keep k1 fun b hb e=>bd_ og' A'.blk d_ (by rw[hb,e])
 have eg:IntKind.wrap .u32 ((t.gen:Int)+1)=(((t.gen+1)%4294967296:Nat):Int):=by
  have e:IntKind.wrap .u32 ((t.gen:Int)+1)=((t.gen:Int)+1)%4294967296:=by simp[IntKind.wrap,IntKind.signed,IntKind.bits]
  rw[e];omega
 have kwy:ab_ (fun k=>k=tb) w w1:=kg g1
 have fin:∀{y2:World} {t2:a5_} {out2:Sl} {evs:List Ev},d6_ w1 y2 N tb left t2→t2.gen=t.gen→eY_ t2→Own y2 B a0_ 2 out2 (evv evs)→(∀v',ab_ (fun k=>k=tb) w v'→IsT v' N tb {t2 with gen:=(t.gen+1)%4294967296}→Own v' w.heap.size a0_ 2 out2 (evv evs)→R 0 0 out2 v')→
   (some (⟨tb,0,none⟩:Addr)).isSome=true∧∃n17:Int,y2.cell? ((gA (some (⟨tb,0,none⟩:Addr))).add 1)=some (.int .u32 n17)∧(some (⟨tb,0,none⟩:Addr)).isSome=true∧Put ((gA (some (⟨tb,0,none⟩:Addr))).add 1) (.int .u32 (IntKind.wrap .u32 (n17+1))) y2 fun w025=>R 0 0 out2 w025:=by
  intro y2 t2 out2 evs A2 hg2 ok2 oe2 hK
  refine⟨rfl,(t.gen:Int),A2.cell (by show(bU_ left t2)[1]?=_;rw[←hg2];rfl),rfl,?_⟩
  rw[eg]
  refine A2.put1 (t':={t2 with gen:=(t.gen+1)%4294967296}) (s':=left) (o:=1) d_ rfl rfl (.inl ⟨rfl,rfl⟩) fun y3 A3 k3=>?_
  exact hK y3 (kwy.trans A3.keep fun _ _ q=>q) (A3.isT (ok2.with ok2.rok o_ ok2.kind ok2.holder)) ((oe2.keep k3 fun b hb e=>bd_ oe2 A2.blk d_ (by rw[hb,e])).mono hBw)
 cases hq:ha with
 | false=>
  rw[hq,if_neg Bool.noConfusion] at hR
  exact bw_ (fun(o4:Sl) y2=>o4=out∧y2=y1) (fun o4 y2 e=>by
   obtain⟨rfl,rfl⟩:=e
   exact fin A1 rfl (ok.with rfil ok.gen ok.kind ok.holder) oe1 fun v' k T O=>hR o4 v' k T O) fun J=>al_ rfl (J _ _ ⟨rfl,rfl⟩)
 | true=>
  rw[hq,if_pos rfl] at hR
  refine bw_ (fun(o4:Sl) y2=>d6_ w1 y2 N tb left {t with regs:=t.regs.filter lp,kind:=o.type,holder:=(n:Int)}∧Own y2 B a0_ 2 o4 (evv (tells t.regs np 10757++(if 5≤t.kind∧t.kind≠o.type then tells (t.regs.filter lp) (fun r=>decide (r.1≠n)) 10756 else [])))) ?_ (fun J=>?_)
  ·rintro o4 y2 ⟨A2,O2⟩
   exact fin A2 rfl (ok.with rfil ok.gen ho.type o_) O2 fun v' k T O=>hR o4 v' k T O
  ·refine ao_ rfl ⟨(o.type:Int),cO1 rfl,rfl,A1.put1 (t':={t with regs:=t.regs.filter lp,kind:=o.type}) (s':=left) (o:=2) d_ rfl rfl (.inl ⟨rfl,rfl⟩) fun y2 A2 k2=>⟨rfl,A2.put1 (t':={t with regs:=t.regs.filter lp,kind:=o.type,holder:=(n:Int)}) (s':=left) (o:=3) d_ rfl rfl (.inl ⟨rfl,rfl⟩) fun y3 A3 k3=>?_⟩⟩
   have oe2:=oe1.keep k2 fun b hb e=>bd_ oe1 A1.blk d_ (by rw[hb,e])
   have oe3:=oe2.keep k3 fun b hb e=>bd_ oe2 A2.blk d_ (by rw[hb,e])
   have og2:=og1.keep k2 fun b hb e=>bd_ og1 A1.blk d_ (by rw[hb,e])
   have og3:=og2.keep k3 fun b hb e=>bd_ og2 A2.blk d_ (by rw[hb,e])
   have b3:Blk y3 ob (otv o).toArray bz_:=by
    have nob:ob≠tb:=o_
    exact k3.heap (k2.heap (k1.heap (gw1y.heap b1 (fun q=>q)) nob) nob) nob
   refine⟨(o.type:Int),fun _=>cs_ b3 rfl,?_⟩
   have ec:(decide ((t.kind:Int)≥5)&&((t.kind:Int) != (o.type:Int)))=decide (5≤t.kind∧t.kind≠o.type):=by
    rw[Bool.eq_iff_iff,Bool.and_eq_true,decide_eq_true_eq,bne_iff_ne,decide_eq_true_eq]
    exact⟨fun e=>⟨o_,fun e2=>e.2 (by rw[e2])⟩,fun e=>⟨o_,fun e2=>e.2 o_⟩⟩
   rw[ec]
   have s3:=k1.size
   have s4:=k2.size
   have s5:=k3.size
   by_cases c5:5≤t.kind∧t.kind≠o.type
   ·rw[if_pos c5] at J
    refine ao_ (decide_eq_true c5) (pF_ (w:=y3) (B:=B) (but:=n) (code:=10756) (fun v q=>?_) oe3 o_ (by have:=tl np t.regs.length;rw[List.take_length] at this;omega) fun o4 y4 q4 O4=>J o4 y4 ⟨?_,O4⟩)
    ·rcases og3 with⟨hlen,hnil|⟨g,cap,cur,hv',hbg,hg,rest⟩⟩
     ·exact CF.Own.rd (base:=B) (e:=aJ_) ⟨hlen,.inl hnil⟩ (by have:=hlen;rw[ch_] at this;omega)
     ·exact CF.Own.rd (base:=B) (e:=aJ_) ⟨hlen,.inr ⟨g,cap,cur,hv',hbg,q.regs g cur hg,rest⟩⟩ (by have:=hlen;rw[ch_] at this;omega)
    ·have hw1B:w1.heap.size≤B:=by rw[←hB];exact gv.size
     have ltb1:=g1.size
     refine⟨A3.keep.trans q4.keep fun i hi e=>?_,q4.keep.heap A3.blk o_,?_⟩
     ·omega
     ·rcases og3 with⟨hlen,hnil|⟨g,cap,cur,hv',hbg,hg,rest⟩⟩
      ·exact⟨⟨hlen,.inl hnil⟩,A3.row.small,fun b hb=>by exfalso;unfold Sl.blk at hb;have:=hnil.1;injection this with e1 e2 e3;rw[e1] at hb;cases hb⟩
      ·exact⟨⟨hlen,.inr ⟨g,cap,cur,hv',Nat.zero_le _,q4.regs g cur hg,rest⟩⟩,A3.row.small,A3.row.out⟩
   ·rw[if_neg c5] at J
    exact al_ (decide_eq_false c5) (J out y3 ⟨A3,by rw[List.append_nil];exact oe3⟩)
end
open Go CF
def hbX (h:Int):UInt8:=UInt8.ofNat ((h+256)%256).toNat
def mP_ (r:Nat×Nat):L8:=UInt8.ofNat r.1::beN 8 r.2
def nh_ (t:a5_):L8:=if t.lasts=false then [] else [80,82,UInt8.ofNat (bc_ t).1,hbX (bc_ t).2,UInt8.ofNat t.regs.length]++t.regs.flatMap mP_
theorem r4_ (r:Nat×Nat):(mP_ r).length=9:=by unfold mP_;rw[List.length_cons,bH_]
theorem mQ_:∀l:List (Nat×Nat),(l.flatMap mP_).length=9*l.length
 | []=>rfl
 | a::r=>by rw[List.flatMap_cons,List.length_append,r4_,mQ_ r,List.length_cons];omega
theorem qh_ {t:a5_} (h:eY_ t):(nh_ t).length≤77:=by
 unfold nh_
 split
 ·decide
 ·rw[List.length_append,mQ_]
  have:=h.few
  have e:([80,82,UInt8.ofNat (bc_ t).1,hbX (bc_ t).2,UInt8.ofNat t.regs.length]:L8).length=5:=rfl
  omega
theorem wQ_ {h:Int} (h0 : -1≤h) (h8:h<8):IntKind.wrap .u8 h=(((hbX h).toNat:Nat):Int):=by
 have key:∀k:Fin 9,IntKind.wrap .u8 ((k.val:Int)-1)=(((hbX ((k.val:Int)-1)).toNat:Nat):Int):=by decide +kernel
 have:=key ⟨(h+1).toNat,o_⟩
 have e:(((h+1).toNat:Nat):Int)-1=h:=o_
 rw[e] at this;exact this
section
variable {w u v:World} {N:Nat→Prop} {tb n:Nat} {t:a5_} {o:gX_}
theorem vC_ {R:Int→Int→Sl→W_} (h:IsT w N tb t) (hN:∀b,N b→b<w.heap.size) (hn:n<8) (ho:o0_ o) (hs:o.service<256)
  (hR:∀out v,ab_ (fun k=>k=tb) w v→IsT v N tb (cb_ t n o).t→Own v w.heap.size a0_ 2 out (evv (cb_ t n o).ev)→R ((cb_ t n o).st:Int) ((cb_ t n o).code:Int) out v):jo_ (some ⟨tb,0,none⟩) (n:Int) (otv o).toArray w R:=by
 refine ho_.calls _ _ _ _ _ (ah_ fun ob w1 hob hb1 hg1 hs1=>?_)
 have hb1:Blk w1 ob (otv o).toArray bz_:=hb1
 have h1:=h.grow hg1
 have hN1:∀b,N b→b<w1.heap.size:=fun b q=>by have:=hN b q;omega
 have kg:∀{v:World},ac_ w v→ab_ (fun k=>k=tb) w v:=fun g=>g.mono fun _ _ q=>q.elim
 unfold cb_ at hR
 refine⟨(o.service:Int),fun _=>cs_ hb1 rfl,?_⟩
 by_cases s6:6<o.service
 ·rw[if_pos s6] at hR
  exact ao_ (by rw[Bool.or_eq_true];right;rw[decide_eq_true_eq];omega) (hR ap_ w1 (kg hg1) h1 (aK_ _ _ _ _))
 rw[if_neg s6] at hR
 refine al_ (by simp only[Bool.or_eq_false_iff,decide_eq_false_iff_not];exact⟨⟨⟨rfl,o_⟩,o_⟩,o_⟩) (lV_ h1 fun w2 g2=>?_)
 have gw2:=hg1.trans g2
 have h2:=h1.grow g2
 have b2:Blk w2 ob (otv o).toArray bz_:=g2.heap hb1 (fun q=>q)
 have hN2:∀b,N b→b<w2.heap.size:=fun b q=>by have:=hN b q;have:=gw2.size;omega
 have lift:∀{D:DoT} {K:Int→Int→Sl→W_},(∀out v,ab_ (fun k=>k=tb) w v→IsT v N tb D.t→Own v w.heap.size a0_ 2 out (evv D.ev)→K (D.st:Int) (D.code:Int) out v)→∀out v,ab_ (fun k=>k=tb) w2 v→IsT v N tb D.t→Own v w2.heap.size a0_ 2 out (evv D.ev)→K (D.st:Int) (D.code:Int) out v:=
  fun hK out v k T O=>hK out v ((kg gw2).trans k fun _ _ q=>q) T (O.mono gw2.size)
 obtain⟨kk,hkk⟩:∃k,eZ_ t n=k:=⟨_,rfl⟩
 rw[hkk] at hR ⊢
 have rest:∀(mine:Nat) (kn:Bool),kk.isSome=kn→kk.getD 0=mine→∃n2:Int,w2.cell? ((⟨ob,0,none⟩:Addr).add 0)=some (.int .u8 n2)∧Br (n2==6) (∃g:A_,(loadVar bz_ ⟨ob,0,none⟩).run Tryz.prog w2=.ok (.agg g) w2∧cg_ (some ⟨tb,0,none⟩) (n:Int) g kn w2 fun xs w02=>R 0 0 xs w02) (Br (n2==0) (∃n3:Int,w2.cell? ((⟨ob,0,none⟩:Addr).add 2)=some (.int .u64 n3)∧Br (n3 != (mine:Int)) (R 24 0 (⟨none,0,0⟩:Sl) w2) (∃g1:A_,(loadVar bz_ ⟨ob,0,none⟩).run Tryz.prog w2=.ok (.agg g1) w2∧cg_ (some ⟨tb,0,none⟩) (n:Int) g1 kn w2 fun xs1 w03=>R 0 0 xs1 w03))
   (∃n4:Int,((!(!kn))=true→w2.cell? ((⟨ob,0,none⟩:Addr).add 2)=some (.int .u64 n4))∧Br ((!kn)||(n4 != (mine:Int))) (R 24 0 (⟨none,0,0⟩:Sl) w2) (∃n5:Int,w2.cell? ((⟨ob,0,none⟩:Addr).add 0)=some (.int .u8 n5)∧Br (n5==1) (∃g2:A_,(loadVar bz_ ⟨ob,0,none⟩).run Tryz.prog w2=.ok (.agg g2) w2∧ej_ (some ⟨tb,0,none⟩) (n:Int) g2 w2 fun n6 n7 xs2 w04=>R n6 n7 xs2 w04)
    (Br (n5==2) (∃g3:A_,(loadVar bz_ ⟨ob,0,none⟩).run Tryz.prog w2=.ok (.agg g3) w2∧ek_ (some ⟨tb,0,none⟩) (n:Int) g3 w2 fun n8 n9 xs3 w05=>R n8 n9 xs3 w05) (Br (n5==3) (fu_ (some ⟨tb,0,none⟩) (n:Int) w2 fun xs4 w06=>R 0 0 xs4 w06) (∃g4:A_,(loadVar bz_ ⟨ob,0,none⟩).run Tryz.prog w2=.ok (.agg g4) w2∧el_ (some ⟨tb,0,none⟩) (n:Int) g4 w2 fun n10 n11 xs5 w07=>R n10 n11 xs5 w07)))))):=by
  intro mine kn hkn hmi
  rw[hkn,hmi] at hR
  refine⟨(o.service:Int),cs_ b2 rfl,aw_ (fun e=>?_) (fun e6=>aw_ (fun e=>?_) (fun e0=>?_))⟩
  ·rw[if_pos o_] at hR
   exact⟨_,ng_ b2,md_ h2 hN2 hn ho fun out v k T O=>hR out v ((kg gw2).trans k fun _ _ q=>q) T (O.mono gw2.size)⟩
  ·rw[if_neg o_,if_pos o_] at hR
   refine⟨(o.key:Int),cs_ b2 rfl,?_⟩
   by_cases q:o.key=mine
   ·rw[if_neg (fun e=>e q)] at hR
    exact al_ (by rw[bne_eq_false_iff_eq];omega) ⟨_,ng_ b2,md_ h2 hN2 hn ho fun out v k T O=>hR out v ((kg gw2).trans k fun _ _ q=>q) T (O.mono gw2.size)⟩
   ·rw[if_pos q] at hR
    exact ao_ (by rw[bne_iff_ne];omega) (hR ap_ w2 (kg gw2) h2 (aK_ _ _ _ _))
  ·rw[if_neg o_,if_neg o_] at hR
   refine⟨(o.key:Int),fun _=>cs_ b2 rfl,?_⟩
   by_cases q:kn=false∨o.key≠mine
   ·rw[if_pos q] at hR
    refine ao_ ?_ (hR ap_ w2 (kg gw2) h2 (aK_ _ _ _ _))
    rw[Bool.or_eq_true,bne_iff_ne]
    rcases q with q|q
    ·left;rw[q];rfl
    ·right;omega
   ·rw[if_neg q] at hR
    have q1:kn=true:=by cases hq:kn with|true=>rfl|false=>exact absurd (.inl hq) q
    have q2:o.key=mine:=Classical.byContradiction fun e=>q (.inr e)
    refine al_ (by rw[q1,q2];simp) ⟨(o.service:Int),cs_ b2 rfl,aw_ (fun e=>?_) (fun n1=>aw_ (fun e=>?_) (fun n2'=>aw_ (fun e=>?_) (fun n3=>?_)))⟩
    ·rw[if_pos o_] at hR
     exact⟨_,ng_ b2,r0_ h2 hn ho fun v k T=>hR ap_ v ((kg gw2).trans k fun _ _ q=>q) T (by
      have:(e4_ t n o).ev = []:=by unfold e4_;split<;>(try split)<;>(try split)<;>rfl
      rw[this];exact aK_ _ _ _ _)⟩
    ·rw[if_neg o_,if_pos o_] at hR
     exact⟨_,ng_ b2,r1_ h2 (lift hR)⟩
    ·rw[if_neg o_,if_neg o_,if_pos o_] at hR
     exact ui_ h2 fun out v k T O=>hR out v ((kg gw2).trans k fun _ _ q=>q) T (O.mono gw2.size)
    ·rw[if_neg o_,if_neg o_,if_neg o_] at hR
     exact⟨_,ng_ b2,r3_ h2 hN2 hn ho (lift hR)⟩
 cases kk with
 | none=>exact rest 0 false rfl rfl
 | some k=>exact rest k true rfl rfl
theorem o1_ {R:Sl→W_} (h:IsT w N tb t) (hR:∀xs v,ac_ w v→Own v w.heap.size ae_ 1 xs (bv (nh_ t))→R xs v):f1_ (some ⟨tb,0,none⟩) w R:=by
 refine f6_.calls _ _ _ ?_
 obtain⟨s,A,ok⟩:=h.at
 have hf:=ok.few
 have hsn:t.regs.length=s.n:=by have:=A.row.rd.len;rw[ch_] at this;omega
 refine⟨fun _=>rfl,t.lasts,fun _=>A.cell rfl,?_⟩
 unfold nh_ at hR
 cases hl:t.lasts with
 | false=>rw[hl,if_pos rfl] at hR;exact ao_ rfl (hR ap_ w (ab_.refl _ _) (aK_ _ _ _ _))
 | true=>
 rw[hl,if_neg Bool.noConfusion] at hR
 refine al_ rfl (oP_ h fun w1 g1=>?_)
 have A1:=A.go g1
 have hrk:(bc_ t).1<256:=by
  unfold bc_
  have:=ok.kind
  split
  ·decide
  ·split<;>exact this
 have hrh : -1≤(bc_ t).2∧(bc_ t).2<8:=by
  unfold bc_
  have:=ok.holder
  split
  ·decide
  ·split
   ·dsimp only;decide
   ·exact this
 have e1:((bc_ t).1:Int)=(((UInt8.ofNat (bc_ t).1).toNat:Nat):Int):=by rw[←be_,wu8 o_ o_]
 refine⟨rfl,s,A1.cell rfl,?_⟩
 rw[e1,wQ_ hrh.1 hrh.2,←hsn,be_]
 have hl5:(Instr.buildSlice aE_ 5 #[(0,.int .u8 80),(1,.int .u8 82),(2,.int .u8 (((UInt8.ofNat (bc_ t).1).toNat:Nat):Int)),(3,.int .u8 (((hbX (bc_ t).2).toNat:Nat):Int)),(4,.int .u8 (((UInt8.ofNat t.regs.length).toNat:Nat):Int))]).run Tryz.prog w1=.ok (.slice (some ⟨w1.heap.size,0,none⟩) 5 5) (w1.alloc (.cells (bv [80,82,UInt8.ofNat (bc_ t).1,hbX (bc_ t).2,UInt8.ofNat t.regs.length]).toArray ae_)):=k_
 refine Row.start hl5 rfl (by show 5≤_;decide) fun p2 w2 r2=>?_
 generalize hH:([80,82,UInt8.ofNat (bc_ t).1,hbX (bc_ t).2,UInt8.ofNat t.regs.length]:L8)=H at *
 have hHl:H.length=5:=by rw[←hH];rfl
 have A2:=A1.go r2.grow
 refine⟨rfl,s,A2.cell rfl,?_⟩
 refine⟨fun p x y=>∃j:Nat,x=j∧j≤t.regs.length∧Row w1 y p (H++(t.regs.take j).flatMap mP_),fun _ x _=>s.n-x.toNat,⟨0,rfl,Nat.zero_le _,by simpa using r2⟩,?_⟩
 rintro p x y ⟨j,rfl,hj,ry⟩
 refine bh_ (fun hlt=>?_) (fun hge=>?_)
 ·have hjl:j<t.regs.length:=o_
  have hlen:(H++(t.regs.take j).flatMap mP_).length≤77:=by rw[List.length_append,mQ_,List.length_take];omega
  refine gY_ ((A1.row.rd).grow ry.grow) hjl fun rb y1 g2 br _=>?_
  rintro y2 rfl
  have g3:=g2.trans (aq_ y1)
  have b3:Blk y1.drew rb (rgc t.regs[j]).toArray aJ_:=(aq_ y1).heap br (fun q=>q)
  generalize y1.drew=y2 at *
  have rb1:=ok.regs t.regs[j] (List.getElem_mem hjl)
  refine⟨fun z=>Blk z rb (rgc t.regs[j]).toArray aJ_,b3,(t.regs[j].2:Int),fun z q=>by rw[am_,q.cell];rfl,?_⟩
  refine iB_ (n:=9) aN_ bG_ rfl d_ d_ (base:=y2.heap.size) (Nat.le_refl _) fun y3 ho3 g4 hs4=>⟨g4.heap b3 (fun q=>q),?_⟩
  have hrep:∀k,(List.replicate k (Value.int .u8 0))=bv (List.replicate k 0):=fun k=>by simp[bv]
  rw[hrep] at ho3
  have p8:(256:Nat) ^ 8=18446744073709551616:=rfl
  refine n4_ (at_:=1) (n:=8) (v:=t.regs[j].2) (ho3.rd (by dsimp only;decide)) (by dsimp only;decide) d_ d_ d_ (by rw[p8];exact rb1.2.2) fun x4 y4 ho4 g5=>?_
  have b4:Blk y4 rb (rgc t.regs[j]).toArray aJ_:=(g4.trans g5).heap b3 (fun q=>q)
  have hl9:lay (List.replicate 9 0) 1 8 t.regs[j].2=0::beN 8 t.regs[j].2:=rfl
  rw[hl9] at ho4
  have hn4:x4.n=9:=by have:=oF_ ho4;rw[List.length_cons,bH_] at this;exact this
  obtain⟨hA4,_⟩:=fF_ (ho4.rd o_) (i:=0) (by rw[List.length_cons];omega)
  refine⟨(t.regs[j].1:Int),by rw[am_,b4.cell];rfl,⟨d_,o_,hA4⟩,?_⟩
  rw[be_]
  refine jh_ (i:=0) ho4 o_ rfl fun y5 ho5 k5 _=>?_
  have gy4:=(g3.trans g4).trans g5
  have r4:=ry.go gy4
  have r5:Row w1 y5 p (H++(t.regs.take j).flatMap mP_):=r4.keep k5 (fun b hb e=>by
   have:=(ho4.ge b e.symm).1
   have:=(r4.own.ge b hb).2
   have:=(ry.own.ge b hb).2
   have:=gy4.size
   have:=(g3.trans g4).size
   omega) (fun i hi e=>by
   have:=(ho4.ge i e.symm).1
   have:=ry.grow.size
   have:=(g3.trans g4).size
   omega)
  have ho5:Own y5 y3.heap.size ae_ 1 x4 (bv (mP_ t.regs[j])):=ho5
  refine r5.app (ho5.rd o_) (by rw[r4_];omega) fun p6 y6 r6 k6=>?_
  rw[w64 o_ o_]
  refine⟨⟨j+1,o_,o_,?_⟩,by dsimp only;omega⟩
  rw[List.take_succ_eq_append_getElem hjl,List.flatMap_append,←List.append_assoc]
  simpa using r6
 ·have:j=t.regs.length:=o_
  subst this
  rw[List.take_length] at ry
  exact hR p y (g1.trans ry.grow) (ry.own.mono g1.size)
end
open Go CF
def kq_ (r:List (Nat×Nat)):Int:=match r.getLast? with|some x=>(x.1:Int)|none=>-1
def fm_ (l:L8) (j:Nat):Nat:=(l.getD (5+9*j) 0).toNat
def iO_ (l:L8) (j:Nat):Nat:=num ((l.drop (6+9*j)).take 8)
def ldR (l:L8):Nat→Option (List (Nat×Nat))
 | 0=>some []
 | j+1=>match ldR l j with
  | none=>none
  | some r=>if (fm_ l j:Int)≤kq_ r∨8≤fm_ l j∨iO_ l j=0 then none else some (r++[(fm_ l j,iO_ l j)])
def i8X (b:UInt8):Int:=if b.toNat<128 then(b.toNat:Int) else(b.toNat:Int)-256
def gZ_ (r:List (Nat×Nat)) (x:Int):Option Nat:=(r.find? fun r=>decide ((r.1:Int)=x)).map (·.2)
def l0_ (k:Nat) (h:Int) (r:List (Nat×Nat)):Bool:=
 if k=0∨allK k=true then decide (h≠-1)||(allK k&&decide (r = [])) else !(gZ_ r h).isSome || !fe_ k
def l1_ (l:L8):Option a5_:=
 if l = [] then some t0
 else if l.length<5∨l.getD 0 0≠80∨l.getD 1 0≠82∨l.length≠5+9*(l.getD 4 0).toNat then none
 else match ldR l (l.getD 4 0).toNat with
  | none=>none
  | some r=>if l0_ (l.getD 2 0).toNat (i8X (l.getD 3 0)) r=true then none else some ⟨r,0,(l.getD 2 0).toNat,i8X (l.getD 3 0),true⟩
theorem r5_ {l:L8} {j:Nat} (h:ldR l j=none):∀k,ldR l (j+k)=none
 | 0=>h
 | k+1=>by
  show(match ldR l (j+k) with
   | none=>none
   | some r=>_)=none
  rw[r5_ h k]
theorem y6_ (l:L8) (j:Nat):iO_ l j<18446744073709551616:=by
 have:=hU_ (l.drop (6+9*j)) 8
 have p8:(256:Nat) ^ 8=18446744073709551616:=rfl
 rw[p8] at this;exact this
theorem r6_ {l:L8}:∀{j:Nat} {r:List (Nat×Nat)},ldR l j=some r→gt_ r∧(∀x∈r,(x.1:Int)≤kq_ r)∧r.length=j
 | 0,r,h=>by
  injection h with h
  subst h
  exact⟨⟨List.Pairwise.nil,fun _ q=>by cases q⟩,fun _ q=>(by cases q),rfl⟩
 | j+1,r,h=>by
  unfold ldR at h
  cases hj:ldR l j with
  | none=>rw[hj] at h;cases h
  | some r0=>
   rw[hj] at h
   obtain⟨h1,h2,h3⟩:=r6_ hj
   dsimp only at h
   split at h
   ·cases h
   ·rename_i hq
    injection h with h
    subst h
    have hl:kq_ (r0++[(fm_ l j,iO_ l j)])=(fm_ l j:Int):=by unfold kq_;rw[List.getLast?_append];rfl
    refine⟨⟨?_,fun x hx=>?_⟩,fun x hx=>?_,by rw[List.length_append,h3];rfl⟩
    ·rw[List.pairwise_append]
     refine⟨h1.sorted,List.pairwise_singleton _ _,fun a ha b hb=>?_⟩
     rw[List.mem_singleton] at hb
     rw[hb]
     have:=h2 a ha
     show a.1<fm_ l j
     omega
    ·rcases List.mem_append.1 hx with hx|hx
     ·exact h1.regs x hx
     ·rw[List.mem_singleton] at hx
      rw[hx]
      exact⟨by show fm_ l j<8;omega,by show 0<iO_ l j;omega,y6_ l j⟩
    ·rw[hl]
     rcases List.mem_append.1 hx with hx|hx
     ·have:=h2 x hx;omega
     ·rw[List.mem_singleton] at hx;rw[hx];exact Int.le_refl _
theorem wR_ {r:List (Nat×Nat)} {x:Int} (h:∀y∈r,y.1<8) (hs:(gZ_ r x).isSome=true):0≤x∧x<8:=by
 unfold gZ_ at hs
 cases hf:r.find? fun r=>decide ((r.1:Int)=x) with
 | none=>rw[hf] at hs;cases hs
 | some y=>
  have h1:=List.find?_some hf
  have h2:=h y (List.mem_of_find?_eq_some hf)
  rw[decide_eq_true_eq] at h1
  omega
theorem wS_ {l:L8} {t:a5_} (h:l1_ l=some t):eY_ t:=by
 unfold l1_ at h
 split at h
 ·injection h with h;rw[←h];exact vl_
 split at h
 ·cases h
 split at h
 ·cases h
 ·rename_i r hr
  split at h
  ·cases h
  ·rename_i hb
   injection h with h
   subst h
   obtain⟨h1,_,_⟩:=r6_ hr
   have hk:=(l.getD 2 0).toNat_lt
   refine⟨h1.few,h1.sorted,h1.regs,by show 0<4294967296;decide,by show(l.getD 2 0).toNat<256;omega,?_⟩
   show -1≤i8X (l.getD 3 0)∧i8X (l.getD 3 0)<8
   unfold l0_ at hb
   split at hb
   ·rw[Bool.or_eq_true,decide_eq_true_eq] at hb
    have:i8X (l.getD 3 0) = -1:=Classical.byContradiction fun e=>hb (.inl e)
    rw[this];decide
   ·have:(gZ_ r (i8X (l.getD 3 0))).isSome=true:=by
     cases hq:(gZ_ r (i8X (l.getD 3 0))).isSome with
     | true=>rfl
     | false=>rw[hq] at hb;exact absurd rfl hb
    have:=wR_ (fun y hy=>(h1.regs y hy).1) this
    omega
section
variable {w u v:World} {N:Nat→Prop} {tb n:Nat} {t:a5_}
theorem vD_ {x:Int} {s:Sl} {R:Int→Bool→W_} (h1:Blk w tb (bU_ s t) bY_) (h2:Rd w 2 s (rgv t.regs)) (hfew:t.regs.length≤1000) (hR:∀w',ac_ w w'→match gZ_ t.regs x with|some k=>R (k:Int) true w'|none=>R 0 false w'):cZ_ (some ⟨tb,0,none⟩) x w R:=by
 refine fd_.calls _ _ _ _ ?_
 have hsn:t.regs.length=s.n:=by have:=h2.len;rw[ch_] at this;omega
 refine⟨rfl,s,cO_ h1 rfl,?_⟩
 refine⟨fun y v=>∃j:Nat,y=j∧j≤t.regs.length∧ac_ w v∧(t.regs.find? fun r=>decide ((r.1:Int)=x))=((t.regs.drop j).find? fun r=>decide ((r.1:Int)=x)),fun y _=>s.n-y.toNat,⟨0,rfl,Nat.zero_le _,ab_.refl _ _,rfl⟩,?_⟩
 rintro y v ⟨j,rfl,hj,hg,he⟩
 refine bh_ (fun hlt=>?_) (fun hge=>?_)
 ·have hjl:j<t.regs.length:=o_
  rw[List.drop_eq_getElem_cons hjl] at he
  refine gY_ (h2.grow hg) hjl fun rb v2 hg2 hb2 _=>?_
  refine⟨(t.regs[j].1:Int),by rw[am_,hb2.cell];rfl,?_⟩
  refine aw_ (fun e=>?_) (fun e=>?_)
  ·refine⟨(t.regs[j].2:Int),by rw[am_,hb2.cell];rfl,?_⟩
   have hR:=hR v2 (hg.trans hg2)
   have e2:decide ((t.regs[j].1:Int)=x)=true:=decide_eq_true e
   have:gZ_ t.regs x=some t.regs[j].2:=by unfold gZ_;rw[he,List.find?_cons,e2];rfl
   rw[this] at hR;exact hR
  ·have e2:decide ((t.regs[j].1:Int)=x)=false:=decide_eq_false e
   rw[List.find?_cons,e2] at he
   rw[w64 o_ o_]
   exact⟨⟨j+1,o_,o_,hg.trans hg2,he⟩,by dsimp only;omega⟩
 ·have:j=t.regs.length:=o_
  subst this
  rw[List.drop_length] at he
  have hR:=hR v hg
  have:gZ_ t.regs x=none:=by unfold gZ_;rw[he];rfl
  rw[this] at hR;exact hR
structure LdT (w v:World) (tb:Nat) (t:a5_):Prop where
 keep:ac_ w v
 new:w.heap.size≤tb
 blk:∃s,Blk v tb (bU_ s t) bY_∧Own v w.heap.size aJ_ 2 s (rgv t.regs)
theorem LdT.go (h:LdT w v tb t) (g:ac_ v u):LdT w u tb t:=by
 obtain⟨s,h1,h2⟩:=h.blk
 exact⟨h.keep.trans g,h.new,s,g.heap h1 (fun q=>q),h2.grow g⟩
theorem LdT.put1 {t':a5_} {o:Nat} {x:Value} {K:W_} (h:LdT w v tb t) (ho:o<5) (hx:x.oneCell'=true) (he:∀s,(bU_ s t).setIfInBounds o x=bU_ s t') (hr:t'.regs=t.regs) (hK:∀z,LdT w z tb t'→ab_ (fun k=>k=tb) v z→K z):Put ((gA (some (⟨tb,0,none⟩:Addr))).add o) x v K:=by
 obtain⟨s,h1,h2⟩:=h.blk
 rw[gA,am_,Nat.zero_add]
 have hn:=h.new
 refine a2_ h1 (by simp[bU_];omega) hx fun z hz k _=>hK z ⟨h.keep.keep k fun i hi q=>o_,h.new,s,by rw[←he s];exact hz,?_⟩ k
 rw[hr]
 exact h2.keep k fun b hb e=>bd_ h2 h1 d_ (by rw[hb,e])
theorem LdT.cell (h:LdT w v tb t) {o:Nat} {x:Value} (e:∀s,(bU_ s t)[o]?=some x):v.cell? ((gA (some (⟨tb,0,none⟩:Addr))).add o)=some x:=by
 obtain⟨s,h1,_⟩:=h.blk
 exact cO_ h1 (e s)
theorem yf_ (b:UInt8):IntKind.wrap .i64 (IntKind.wrap .i8 (b.toNat:Int))=i8X b:=by
 have hb:=b.toNat_lt
 have key:∀k:Fin 256,IntKind.wrap .i8 ((k.val:Nat):Int)=(if k.val<128 then((k.val:Nat):Int) else((k.val:Nat):Int)-256):=by decide +kernel
 have e:IntKind.wrap .i8 (b.toNat:Int)=i8X b:=key ⟨b.toNat,hb⟩
 rw[e]
 unfold i8X
 split<;>exact w64 o_ o_
end
open Go CF
section
variable {w u v:World} {tb n:Nat} {t:a5_}
theorem sJ_ {p:Sl} {l:L8} {R:O_→Int→W_} (hp:Rd w 1 p (bv l)) (hpn:p.n≤1000000)
  (hR:match l1_ l with
   | some t=>∀tb v,LdT w v tb t→R (some ⟨tb,0,none⟩) 0 v
   | none=>∀v,ac_ w v→R none 3 v):nU_ p w R:=by
 refine lD_.calls _ _ _ (k4_.calls _ _ (ah_ fun tb w1 htb hb1 hg1 hsz1=>?_))
 have hl:=dj_ hp
 have L1:LdT w w1 tb t0:=⟨hg1,o_,ap_,hb1,aK_ _ _ _ _⟩
 have p1:=hp.grow hg1
 unfold l1_ at hR
 by_cases h0:l = []
 ·rw[if_pos h0] at hR
  exact ao_ (by rw[beq_iff_eq,←hl,h0];rfl) (hR tb w1 L1)
 rw[if_neg h0] at hR
 have l0:0<l.length:=List.length_pos_iff.2 h0
 refine al_ (by rw[beq_eq_false_iff_ne];omega) ?_
 have at1:∀{i:Nat},i<l.length→p.A.isSome=true∧w1.cell? ((gA p.A).add (i*1))=some (.int .u8 ((l.getD i 0).toNat:Int)):=fun hi=>fF_ p1 hi
 have ne:∀{b:UInt8} {m:Nat},m<256→((((b.toNat:Nat):Int) != (m:Int)))=decide (b≠UInt8.ofNat m):=fun {b m} hm=>by
  rw[bne,zD_ hm];simp
 have g5:∀{q:Bool},((!(decide ((p.n:Int)<5)||q))=true)→5≤l.length:=fun {q} e=>by
  rw[Bool.not_eq_true',Bool.or_eq_false_iff,decide_eq_false_iff_not] at e
  omega
 have g5':((!(decide ((p.n:Int)<5)))=true)→5≤l.length:=fun e=>by
  rw[Bool.not_eq_true',decide_eq_false_iff_not] at e
  omega
 have g5'':∀{q q2:Bool},((!((decide ((p.n:Int)<5)||q)||q2))=true)→5≤l.length:=fun {q q2} e=>by
  rw[Bool.not_eq_true',Bool.or_eq_false_iff,Bool.or_eq_false_iff,decide_eq_false_iff_not] at e
  omega
 refine⟨fun e=>⟨d_,o_,(at1 l0).1⟩,((l.getD 0 0).toNat:Int),fun e=>(at1 l0).2,fun e=>⟨d_,by have:=g5 e;omega,(at1 l0).1⟩,((l.getD 1 0).toNat:Int),fun e=>(at1 (by have:=g5 e;omega)).2,fun e=>⟨d_,by have:=g5'' e;omega,(at1 l0).1⟩,((l.getD 4 0).toNat:Int),fun e=>(at1 (by have:=g5'' e;omega)).2,?_⟩
 have h4:=(l.getD 4 0).toNat_lt
 have e9:IntKind.wrap .i64 (5+IntKind.wrap .i64 (9*IntKind.wrap .i64 ((l.getD 4 0).toNat:Int)))=((5+9*(l.getD 4 0).toNat:Nat):Int):=by
  rw[w64 (n:=((l.getD 4 0).toNat:Int)) o_ o_,w64 (n:=9*((l.getD 4 0).toNat:Int)) o_ o_,w64 o_ o_];omega
 have n80:(((l.getD 0 0).toNat:Int) != 80)=decide (l.getD 0 0≠UInt8.ofNat 80):=ne (m:=80) d_
 have n82:(((l.getD 1 0).toNat:Int) != 82)=decide (l.getD 1 0≠UInt8.ofNat 82):=ne (m:=82) d_
 rw[e9,n80,n82]
 have ec:(((decide ((p.n:Int)<5)||decide (l.getD 0 0≠UInt8.ofNat 80))||decide (l.getD 1 0≠UInt8.ofNat 82))||((p.n:Int) != ((5+9*(l.getD 4 0).toNat:Nat):Int)))=decide (l.length<5∨l.getD 0 0≠80∨l.getD 1 0≠82∨l.length≠5+9*(l.getD 4 0).toNat):=by
  have e1:decide ((p.n:Int)<5)=decide (l.length<5):=by rw[decide_eq_decide];omega
  have e2:((p.n:Int) != ((5+9*(l.getD 4 0).toNat:Nat):Int))=decide (l.length≠5+9*(l.getD 4 0).toNat):=by
   rw[Bool.eq_iff_iff,bne_iff_ne,decide_eq_true_eq]
   exact⟨fun q e=>q o_,fun q e=>q o_⟩
  rw[e1,e2,Bool.eq_iff_iff,decide_eq_true_eq]
  simp only[Bool.or_eq_true,decide_eq_true_eq]
  exact⟨fun q=>q.elim (fun q=>q.elim (fun q=>q.elim .inl fun q=>.inr (.inl q)) fun q=>.inr (.inr (.inl q))) fun q=>.inr (.inr (.inr q)),fun q=>q.elim (fun q=>.inl (.inl (.inl q))) fun q=>q.elim (fun q=>.inl (.inl (.inr q))) fun q=>q.elim (fun q=>.inl (.inr q)) .inr⟩
 rw[ec]
 by_cases hc:l.length<5∨l.getD 0 0≠80∨l.getD 1 0≠82∨l.length≠5+9*(l.getD 4 0).toNat
 ·rw[if_pos hc] at hR
  exact ao_ (decide_eq_true hc) (hR w1 hg1)
 rw[if_neg hc] at hR
 have hlen:l.length=5+9*(l.getD 4 0).toNat:=Classical.byContradiction fun e=>hc (.inr (.inr (.inr e)))
 generalize hM:(l.getD 4 0).toNat=M at *
 refine al_ (decide_eq_false hc) ⟨⟨d_,o_,(at1 l0).1⟩,((l.getD 2 0).toNat:Int),(at1 o_).2,rfl,?_⟩
 refine L1.put1 (t':={t0 with kind:=(l.getD 2 0).toNat}) (o:=2) d_ rfl (fun s=>rfl) rfl fun w2 L2 k2=>⟨rfl,L2.put1 (t':={t0 with kind:=(l.getD 2 0).toNat,lasts:=true}) (o:=4) d_ rfl (fun s=>rfl) rfl fun w3 L3 k3=>?_⟩
 generalize hK:(l.getD 2 0).toNat=K at *
 let TT (r:List (Nat×Nat)):a5_:=⟨r,0,K,-1,true⟩
 refine⟨fun last at_ y=>∃(j:Nat) (r:List (Nat×Nat)),at_=((5+9*j:Nat):Int)∧j≤M∧ldR l j=some r∧last=kq_ r∧LdT w y tb (TT r),fun _ at_ _=>l.length-at_.toNat,⟨0,[],rfl,Nat.zero_le _,rfl,rfl,L3⟩,?_⟩
 rintro last at_ y ⟨j,r,rfl,hj,hr,rfl,Ly⟩
 obtain⟨rok,rle,rlen⟩:=r6_ hr
 have rfew:=rok.few
 have py:=hp.grow Ly.keep
 have aty:∀{z:World} {i:Nat},ac_ w z→i<l.length→p.A.isSome=true∧z.cell? ((gA p.A).add (i*1))=some (.int .u8 ((l.getD i 0).toNat:Int)):=fun g hi=>fF_ (hp.grow g) hi
 by_cases hjM:j<M
 ·refine ao_ (by rw[decide_eq_true_eq];omega) ⟨⟨o_,o_,(aty Ly.keep l0).1⟩,(fm_ l j:Int),by rw[Int.toNat_natCast];exact(aty Ly.keep o_).2,?_⟩
  rw[w64 (n:=(((5+9*j:Nat):Int)+1)) o_ o_,show(((5+9*j:Nat):Int)+1)=((6+9*j:Nat):Int) by omega]
  refine cC_ (at_:=6+9*j) (n:=8) py o_ d_ d_ o_ ?_
  have hn8:fm_ l j<256:=(l.getD (5+9*j) 0).toNat_lt
  have hk8:num ((l.drop (6+9*j)).take 8)=iO_ l j:=rfl
  rw[hk8,w64 (n:=(fm_ l j:Int)) o_ o_]
  have hstep:ldR l (j+1)=(if (fm_ l j:Int)≤kq_ r∨8≤fm_ l j∨iO_ l j=0 then none else some (r++[(fm_ l j,iO_ l j)])):=by
   show(match ldR l j with
    | none=>none
    | some r=>_)=_
   rw[hr]
  by_cases hbad:(fm_ l j:Int)≤kq_ r∨8≤fm_ l j∨iO_ l j=0
  ·rw[if_pos hbad] at hstep
   have:=r5_ hstep (M-(j+1))
   rw[show j+1+(M-(j+1))=M by omega] at this
   rw[this] at hR
   refine ao_ ?_ (hR y Ly.keep)
   simp only[Bool.or_eq_true,decide_eq_true_eq,beq_iff_eq]
   rcases hbad with q|q|q
   ·exact .inl (.inl q)
   ·exact .inl (.inr o_)
   ·exact .inr o_
  ·rw[if_neg hbad] at hstep
   refine al_ (by simp only[Bool.or_eq_false_iff,decide_eq_false_iff_not,beq_eq_false_iff_ne];exact⟨⟨fun q=>hbad (.inl q),fun q=>hbad (.inr (.inl o_))⟩,fun q=>hbad (.inr (.inr o_))⟩) ?_
   obtain⟨s,hbs,hos⟩:=Ly.blk
   refine⟨rfl,s,cO_ hbs rfl,?_⟩
   refine nf_ (B:=w.heap.size) (a:=fm_ l j) (c:=iO_ l j) hos Ly.keep.size (by show r.length≤1000;omega) fun s' y2 k2' o2 hk2=>⟨rfl,?_⟩
   have hb2:Blk y2 tb (bU_ s (TT r)) bY_:=hk2 _ _ _ hbs d_
   have gy2:ac_ w y2:=Ly.keep.keep k2' fun i hi q=>o_
   rw[gA,am_,Nat.zero_add]
   refine a2_ hb2 (by simp[bU_]) rfl fun y3 hb3 k3 _=>?_
   have hn:=Ly.new
   have o3:Own y3 w.heap.size aJ_ 2 s' (rgv (r++[(fm_ l j,iO_ l j)])):=o2.keep k3 fun b hb e=>bd_ o2 hb2 d_ (by rw[hb,e])
   rw[w64 o_ o_,show(((5+9*j:Nat):Int)+9)=((5+9*(j+1):Nat):Int) by omega]
   refine⟨⟨j+1,r++[(fm_ l j,iO_ l j)],rfl,o_,hstep,?_,⟨gy2.keep k3 fun i hi q=>o_,hn,s',hb3,o3⟩⟩,by dsimp only;omega⟩
   unfold kq_;rw[List.getLast?_append];rfl
 ·have ej:j=M:=o_
  subst ej
  rw[hr] at hR
  dsimp only at hR
  refine al_ (by rw[decide_eq_false_iff_not];omega) ⟨⟨d_,o_,(aty Ly.keep l0).1⟩,((l.getD 3 0).toNat:Int),(aty Ly.keep o_).2,rfl,?_⟩
  rw[yf_]
  generalize hH:i8X (l.getD 3 0)=H at *
  refine Ly.put1 (t':=⟨r,0,K,H,true⟩) (o:=3) d_ rfl (fun s=>rfl) rfl fun y2 L2' k2'=>⟨rfl,(K:Int),L2'.cell (fun s=>rfl),fun _=>rfl,(K:Int),fun _=>L2'.cell (fun s=>rfl),?_⟩
  have eK:((K:Int)==0)=decide (K=0):=by rw[Bool.eq_iff_iff,beq_iff_eq,decide_eq_true_eq];omega
  rw[eK]
  refine ci_ (fun(b:Bool) z=>z=y2∧((!decide (K=0))=true→b=allK K)) ?_ (fun J=>⟨fun _=>d4_ (J _ _ ⟨rfl,fun _=>rfl⟩),fun q=>J _ _ ⟨rfl,fun e=>by rw[q] at e;cases e⟩⟩)
  rintro b z ⟨rfl,hb⟩
  have fin:∀{z':World} {q:Bool},LdT w z' tb ⟨r,0,K,H,true⟩→q=l0_ K H r→Br q (R none 3 z') (R (some ⟨tb,0,none⟩) 0 z'):=fun {z' q} L e=>by
   rw[e]
   cases hq:l0_ K H r with
   | true=>rw[hq,if_pos rfl] at hR;exact ao_ rfl (hR z' L.keep)
   | false=>rw[hq,if_neg Bool.noConfusion] at hR;exact al_ rfl (hR tb z' L)
  unfold l0_ at fin
  by_cases hk:K=0∨allK K=true
  ·refine ao_ ?_ ⟨rfl,H,L2'.cell (fun s=>rfl),fun _=>rfl,(K:Int),fun _=>L2'.cell (fun s=>rfl),?_⟩
   ·by_cases q:K=0
    ·rw[decide_eq_true q];rfl
    ·rw[hb (by rw[decide_eq_false q];rfl)]
     rcases hk with r'|r'
     ·exact absurd r' q
     ·rw[r',Bool.or_true]
   ·have eH:(H != (-1))=decide (H≠-1):=by rw[Bool.eq_iff_iff,bne_iff_ne,decide_eq_true_eq]
    rw[eH]
    refine ci_ (fun(b1:Bool) z'=>z'=z∧((!decide (H≠-1))=true→b1=allK K)) ?_ (fun J=>⟨fun _=>d4_ (J _ _ ⟨rfl,fun _=>rfl⟩),fun q=>J _ _ ⟨rfl,fun e=>by rw[q] at e;cases e⟩⟩)
    rintro b1 z' ⟨rfl,hb1'⟩
    obtain⟨s,hbs,hos⟩:=L2'.blk
    have hsn:s.n=r.length:=by
     have:=hos.len
     rw[ch_] at this
     have e:(a5_.mk r 0 K H true).regs.length=r.length:=rfl
     omega
    refine⟨fun _=>rfl,s,fun _=>cO_ hbs rfl,fin L2' ?_⟩
    rw[if_pos hk]
    cases hq:decide (H≠-1) with
    | true=>rfl
    | false=>
     rw[hb1' (by rw[hq];rfl)]
     show(allK K&&((s.n:Int)==0))=_
     rw[Bool.false_or]
     congr 1
     rw[Bool.eq_iff_iff,beq_iff_eq,decide_eq_true_eq,hsn]
     exact⟨fun e=>List.eq_nil_of_length_eq_zero o_,fun e=>by rw[e];rfl⟩
  ·have hk0:K≠0:=fun e=>hk (.inl e)
   have hka:allK K=false:=by cases hq:allK K with|false=>rfl|true=>exact absurd (.inr hq) hk
   refine al_ (by rw[decide_eq_false hk0,hb (by rw[decide_eq_false hk0];rfl),hka];rfl) ⟨rfl,H,L2'.cell (fun s=>rfl),?_⟩
   obtain⟨s,hbs,hos⟩:=L2'.blk
   refine vD_ hbs (hos.rd (by have:=hos.len;rw[ch_] at this;have e:(a5_.mk r 0 K H true).regs.length=r.length:=rfl;omega)) (by show r.length≤1000;omega) fun z2 gz2=>?_
   have L3':=L2'.go gz2
   have eK2:l0_ K H r=(!(gZ_ r H).isSome || !fe_ K):=by unfold l0_;rw[if_neg hk]
   have tail:∀{bb:Bool},bb=(gZ_ r H).isSome→((!(!bb))=true→(some (⟨tb,0,none⟩:Addr)).isSome=true)∧∃n14:Int,((!(!bb))=true→z2.cell? ((gA (some (⟨tb,0,none⟩:Addr))).add 2)=some (.int .u8 n14))∧bI_ (fun(b3:Bool) (w012:World)=>Br ((!bb)||(!b3)) (R none 3 w012) (R (some ⟨tb,0,none⟩) 0 w012)) fun J_1=>((!(!bb))=true→g7_ n14 z2 J_1)∧((!(!bb))=false→J_1 (Kd.dflt .b) z2):=by
    rintro bb rfl
    refine⟨fun _=>rfl,(K:Int),fun _=>L3'.cell (fun s=>rfl),?_⟩
    refine ci_ (fun(b3:Bool) z'=>z'=z2∧((!(!(gZ_ r H).isSome))=true→b3=fe_ K)) ?_ (fun J=>⟨fun _=>jE_ (J _ _ ⟨rfl,fun _=>rfl⟩),fun q=>J _ _ ⟨rfl,fun e=>by rw[q] at e;cases e⟩⟩)
    rintro b3 z' ⟨rfl,hb3⟩
    refine fin L3' ?_
    rw[if_neg hk]
    cases hq:(gZ_ r H).isSome with
    | false=>rfl
    | true=>rw[hb3 (by rw[hq];rfl)]
   cases hq:gZ_ r H with
   | some k=>exact tail (bb:=true) (by rw[hq];rfl)
   | none=>exact tail (bb:=false) (by rw[hq];rfl)
end
open Go CF
theorem oe_ {st:Wst} {file:ByteArray} {n:Nat} (h:Good (bC_ st file)):i8_ st file (cv_ st file 0 n):=by
 refine⟨h,fun j hj=>?_⟩
 have hj:j<n:=by unfold cv_ at hj;rwa [List.length_map,List.length_range] at hj
 unfold cv_
 rw[List.getElem?_map,List.getElem?_range hj,Option.map_some,Nat.zero_add]
 rfl
theorem of_ (st:Wst) (file:ByteArray) (lba n:Nat):(cv_ st file lba n).length=n:=by unfold cv_;rw[List.length_map,List.length_range]
theorem kr_ {a b:Wst} {f:ByteArray} (h:a.seen f=b.seen f):bC_ a f=bC_ b f:=by unfold bC_;rw[h]
theorem jM_ {st:Wst} {f g:ByteArray} {lba:Nat} {rs:Nat→L8} (h:f≠g):∀k,(cD_ st g lba rs k).seen f=st.seen f
 | 0=>rfl
 | k+1=>by
  show eK_ (cD_ st g lba rs k).seen g _ _ f=st.seen f
  unfold eK_ ps_
  rw[if_neg h]
  exact jM_ h k
theorem mR_ {F:Int→Bool} {cache:Bool} {st:Wst} {f g:ByteArray} {lba n:Nat} {rs:Nat→L8} {fua:Bool} (h:f≠g):(mF_ F g cache st lba n rs fua).2.seen f=st.seen f:=by
 unfold mF_
 split
 ·exact jM_ h _
 ·show(fT_ _ (cD_ st g lba rs n)).seen f=_
  rw[nx_];exact jM_ h _
theorem nH_ {lba:Nat} {x:Option Nat×Wst}:(iC_ lba x).2=x.2:=by unfold iC_;split<;>rfl
theorem qi_ {F:Int→Bool} {cache:Bool} {st:Wst} {f g:ByteArray} {l:L8} (h:f≠g):∀k,(rJ_ F g cache st l k).2.seen f=st.seen f
 | 0=>rfl
 | k+1=>by
  have ih:=qi_ (F:=F) (cache:=cache) (st:=st) (l:=l) h k
  unfold rJ_
  cases hq:rJ_ F g cache st l k with
  | mk o x=>
   rw[hq] at ih
   cases o with
   | some s=>exact ih
   | none=>
    dsimp only
    have:=mR_ (F:=F) (cache:=cache) (st:=x) (lba:=py_ l k) (n:=rG_ l k) (rs:=fun _=>[0]) (fua:=false) h
    unfold wB_
    cases hx:mF_ F g cache x (py_ l k) (rG_ l k) (fun _=>[0]) false with
    | mk o2 y=>
     rw[hx] at this
     cases o2<;>exact this.trans ih
theorem g0_ {F:Int→Bool} {kind n:Nat} {cache:Bool} {st:Wst} {f g:ByteArray} {c:Cm} {l:L8} (h:f≠g):(doX F kind n cache g st c l).2.seen f=st.seen f:=by
 have wr:∀{L:List Bk} {fua:Bool} {s:Wst},s.seen=st.seen→(db_ F g cache s c.lba L fua).2.seen f=st.seen f:=fun {L fua s} e=>by
  unfold db_
  rw[nH_,mR_ h,e]
 unfold doX
 split
 ·rfl
 split
 ·rfl
 split
 ·split<;>rfl
 split
 ·split
  ·rfl
  ·exact wr rfl
 split
 ·unfold pA_
  split
  ·rfl
  ·split
   ·rfl
   ·split
    ·split<;>rfl
    ·rfl
 split
 ·split<;>rfl
 split
 ·unfold t0_
  split
  ·rfl
  ·split
   ·rw[nH_];exact mR_ h
   ·exact wr rfl
 split
 ·unfold rK_
  split
  ·rfl
  split
  ·rfl
  split
  ·rfl
  ·have:=qi_ (F:=F) (cache:=cache) (st:=st) (l:=l) h ((l.length-8)/16)
   split<;>(rename_i hq;rw[hq] at this;exact this)
 split
 ·unfold n8_
  split
  ·rfl
  split
  ·rfl
  split
  ·rfl
  ·split
   ·rfl
   ·exact wr rfl
 split
 ·rfl
 ·rfl
open Go CF
structure UOk (st:Wst) (s:USt):Prop where
 n:1≤s.n∧s.n≤4096
 form:d5_ s.inf=true
 name:∃b:ByteArray,1≤b.size∧b.size≤28∧s.file=b++dG_∧s.keepf=b++eD_
 good:Good (bC_ st s.file)
 once:s.on=1∨(s.on=0∧s.lock=0)
structure SOk (st:Wst) (us:List (UA×USt)) (m:Nat):Prop where
 wok:Wok st
 few:st.ops≤m∧st.waits.length≤m
 units:∀x∈us,UOk st x.2
theorem UOk.sizes {st:Wst} {s:USt} (h:UOk st s):(1≤s.file.size∧s.file.size≤32)∧1≤s.keepf.size∧s.keepf.size≤30:=by
 obtain⟨b,h1,h2,h3,h4⟩:=h.name
 have e1:(b++dG_).size=b.size+2:=jJ_ b dG_
 have e2:(b++eD_).size=b.size+2:=jJ_ b eD_
 rw[h3,h4]
 omega
theorem UOk.prot {st:Wst} {s:USt} (h:UOk st s):s.inf.prot≤3:=(jd_ h.form).2.2.2.2.2
theorem UOk.same {st st':Wst} {s s':USt} (h:UOk st s) (hg:Good (bC_ st' s.file)) (e1:s'.inf=s.inf) (e2:s'.file=s.file) (e3:s'.keepf=s.keepf) (e4:s'.n=s.n) (e5:s'.on=s.on) (e6:s'.lock=s.lock):UOk st' s':=
 ⟨by rw[e4];exact h.n,by rw[e1];exact h.form,by rw[e2,e3];exact h.name,by rw[e2];exact hg,by rw[e5,e6];exact h.once⟩
section
variable {w u v:World} {S D D':Nat→Prop} {pw i m:Nat} {a:UA} {s:USt} {st st':Wst} {F F':Int→Bool} {ℓ ℓ':Nat→Option Nat} {us:List (UA×USt)}
open Classical in
theorem Sys.worldN (h:Sys w ℓ pw st F us) {D D':Nat→Prop} (hD:∀k,D k→ℓ k=some 0) (k:ab_ D w u) (hw:a3_ u pw D' st' F') (hn:∀k,D' k→D k∨w.heap.size≤k):∃ℓ',Mv w u ℓ ℓ'∧Sys u ℓ' pw st' F' us∧∀b,ℓ' b≠none→ℓ b≠none∨D' b:=by
 have hsz:=k.size
 refine⟨fun b=>if w.heap.size≤b∧D' b then some 0 else ℓ b,⟨k.mono fun b hb q=>by rw[hD b q];exact Option.some_ne_none _,fun b hb=>if_neg o_⟩,⟨⟨D',hw,fun b hb=>?_⟩,fun j hj=>⟨(h.U j hj).1.step k (bg_.sub fun b _ q=>by rw[hD b q];exact Option.some_ne_none _) (fun b hb q=>?_) (fun b hb=>?_),fun b hb=>?_⟩,fun b hb=>?_⟩,fun b hb=>?_⟩
 ·rcases hn b hb with q|q
  ·by_cases r:w.heap.size≤b∧D' b
   ·exact if_pos r
   ·rw[if_neg r];exact hD b q
  ·exact if_pos ⟨q,hb⟩
 ·have:=(h.U j hj).2 b hb
  rw[hD b q] at this
  injection this with this
  omega
 ·by_cases r:w.heap.size≤b
  ·exact .inr r
  ·rw[if_neg o_] at hb;exact .inl hb
 ·have:=(h.U j hj).1.lt hb
  rw[if_neg o_]
  exact(h.U j hj).2 b hb
 ·by_cases r:w.heap.size≤b∧D' b
  ·exact hw.lt r.2
  ·rw[if_neg r] at hb
   have:=h.lt b hb
   omega
 ·by_cases r:w.heap.size≤b∧D' b
  ·exact .inr r.2
  ·dsimp only at hb;rw[if_neg r] at hb;exact .inl hb
def Dat (w u:World) (ℓ':Nat→Option Nat) (d:Sl) (l:L8):Prop:=Own u w.heap.size ae_ 1 d (bv l)∧∀b,d.blk=some b→ℓ' b=none
theorem Dat.nil (w u:World) (ℓ':Nat→Option Nat):Dat w u ℓ' ap_ []:=⟨aK_ _ _ _ _,fun b hb=>by cases hb⟩
theorem Sys.dev (H:Sys w ℓ pw st F us) (K:SOk st us m) (hi:i<us.length) (he:us[i]=(a,s)):∃D,(∀k,D k→ℓ k=some 0)∧Dvq w a.dv a.ps pw s.file s.inf.prot s.n s.cache D st (cv_ st s.file 0 s.n) m F:=by
 obtain⟨D,hW,hD⟩:=H.W
 obtain⟨hU,hown⟩:=H.at hi he
 have O:UOk st s:=by have:=K.units us[i] (List.getElem_mem hi);rw[he] at this;exact this
 obtain⟨z1,z2,z3,z4,z5,z6,z7⟩:=dC_ a
 have nD:∀{b},a.set b→¬D b:=fun hb q=>by
  have h1:=hown _ hb
  rw[hD _ q] at h1
  injection h1 with h1
  omega
 exact⟨D,hD,hU.dev,hU.store,hW,nD z3,nD z2,K.wok,oe_ O.good,of_ _ _ _ _,O.n,O.sizes.1,O.prot,K.few⟩
theorem y7_ {b:ByteArray}:(ls (b++dG_)).getLast?=some 100:=by
 rw[p7_,List.getLast?_append]
 have:(ls dG_).getLast?=some 100:=d_
 rw[this];rfl
theorem sK_ {b c:ByteArray} {i:Nat} (hi:i<2):nmS b i≠c++dG_:=fun e=>by
 have h:=congrArg (fun x=>(ls x).getLast?) e
 rw[y7_] at h
 have:nmS b i=(b++m3_)++str [UInt8.ofNat (48+i)]:=rfl
 rw[this,p7_,List.getLast?_append,mk_] at h
 have h:some (UInt8.ofNat (48+i))=some 100:=h
 injection h with h
 have h2:=congrArg UInt8.toNat h
 rw[UInt8.toNat_ofNat',Nat.mod_eq_of_lt o_] at h2
 have:(100:UInt8).toNat=100:=rfl
 omega
theorem yg_ {c:Cm} {p:Sl} {l:L8} {R:A_→W_} (hN:pB_ c.kind) (H:Sys w ℓ pw st F us) (K:SOk st us m) (hm:m≤400000000) (hi:i<us.length) (he:us[i]=(a,s)) (hp:RdX w ℓ 1 p (bv l)) (hb:p.n≤140737488351232) (hlb:c.lba<18446744073709551616) (hbl:c.blocks<18446744073709551616)
  (hR:∀u ℓ' d,Mv w u ℓ ℓ'→Sys u ℓ' pw (doX F s.inf.prot s.n s.cache s.file st c l).2 F us→SOk (doX F s.inf.prot s.n s.cache s.file st c l).2 us (m+9000)→Dat w u ℓ' d (doX F s.inf.prot s.n s.cache s.file st c l).1.d→R (rsv (doX F s.inf.prot s.n s.cache s.file st c l).1.st (doX F s.inf.prot s.n s.cache s.file st c l).1.sn d).toArray u) :
  bW_ (some ⟨a.dv,0,none⟩) (cmv c).toArray p w R:=by
 obtain⟨D,hD,hv⟩:=H.dev K hi he
 have hpk:∀v,ab_ D w v→Rd v 1 p (bv l):=fun v k=>hp.rd.keepN k fun hne b hb q=>by
  have:=(hp.out hne b hb).2
  rw[hD _ q] at this
  cases this
 refine p5_ hN hv hm hp.rd hb hpk hlb hbl fun u D' bs' d hk hv' hD' ho=>?_
 obtain⟨ℓ',mv,Hs,hl⟩:=H.worldN hD hk hv'.isW hD'
 refine hR u ℓ' d mv Hs ⟨hv'.ok,hv'.few,fun x hx=>?_⟩ ⟨ho,fun b hb=>?_⟩
 ·have ok:=K.units x hx
  refine ok.same ?_ rfl rfl rfl rfl rfl rfl
  by_cases e:x.2.file=s.file
  ·rw[e];exact hv'.tells.1
  ·rw[kr_ (g0_ e)];exact ok.good
 ·cases hq:ℓ' b with
  | none=>rfl
  | some y=>
   exfalso
   rcases hl b (by rw[hq];exact Option.some_ne_none _) with r|r
   ·have:=H.lt b r
    have:=(ho.ge b hb).1
    omega
   ·obtain⟨cur,hc⟩:=aU_ ho hb
    obtain⟨pl,_,mb,md,ws,cs,hd⟩:=hv'.isW
    exact hd.nb b cur hc r
end
open Go CF
structure jN_ where
 x:RsX
 s:USt
 w:Wst
abbrev uaS (c:Nat):Sn:=⟨6,c,0,false,0,0,false,false⟩
def gQ_ (q:List Nat):Sn:=match cW_ q with|some c=>uaS c|none=>sn0
def y8_ (c:Cm) (q:List Nat):L8:=pE_ (if c.long then(lZ_ (gQ_ q)).1 else(jL_ (gQ_ q)).1) c.alloc
def io_ (F:Int→Bool) (s:USt) (st:Wst) (n:Nat) (c:Cm) (l:L8):jN_:=
 if c.kind=1 then⟨okX [],s,st⟩
 else if c.kind=2 then⟨okX (y8_ c (s.q n)),a1_ s n,st⟩
 else if c.kind=3 then match (if c.evpd then ko_ s.inf c.page else some (pD_ s.inf)) with
  | some d=>⟨okX (pE_ d c.alloc),s,st⟩
  | none=>⟨snX (lX_ 2 7),s,st⟩
 else if c.kind=17 then⟨okX (pE_ (xE_ [0]) c.alloc),s,st⟩
 else if c.kind=5 then match dE_ s.now s.saved c with
  | some d=>⟨okX (pE_ d c.alloc),s,st⟩
  | none=>⟨snX (hJ_ 2 5 true),s,st⟩
 else⟨(doX F s.inf.prot s.n s.cache s.file st c l).1,s,(doX F s.inf.prot s.n s.cache s.file st c l).2⟩
structure jO_ (c:Cm):Prop where
 lba:c.lba<18446744073709551616
 blocks:c.blocks<18446744073709551616
 page:c.page<256
 service:c.service<256
 type:c.type<256
 alloc:c.kind=4→c.alloc≤1000000
theorem r7_ {q:List Nat} (h:∀c∈q,c<65536):SnB (gQ_ q):=by
 unfold gQ_ cW_
 cases hb:cV_ q q.length with
 | none=>show SnB sn0;exact⟨d_,d_,d_⟩
 | some i=>
  refine⟨by dsimp only[Option.map_some,uaS];omega,?_,by dsimp only[Option.map_some,uaS];omega⟩
  show q.getD i 0<65536
  rw[List.getD_eq_getElem?_getD]
  cases hq:q[i]? with
  | none=>decide
  | some c=>exact h c (List.mem_of_getElem? hq)
theorem uj_ (s:Sn):(jL_ s).1.length≤18:=by
 unfold jL_
 split
 ·decide
 split
 ·decide
 ·show(rW_ s).length≤18
  unfold rW_ ub_
  simp only[List.length_append,List.length_cons,List.length_nil]
  split<;>split<;>simp[bH_]
theorem vE_ (s:Sn):(lZ_ s).1.length≤40:=by
 unfold lZ_
 split
 ·decide
 ·show(ud_ s).length≤40
  unfold ud_ uc_ ub_
  simp only[List.length_append,List.length_cons,List.length_nil]
  split<;>split<;>simp[bH_]
theorem wT_ (i:e0_):(pD_ i).length≤1000:=by
 unfold pD_
 cases hf:d5_ i with
 | false=>rw[if_pos rfl];decide
 | true=>
  obtain⟨z1,z2,z3,z4,z5,z6⟩:=jd_ hf
  have l1:=fH_ i.v
  have l2:=fH_ i.p
  have l3:=fH_ i.r
  rw[if_neg Bool.noConfusion]
  simp only[List.length_append,List.length_cons,List.length_nil,qg_]
  omega
theorem vF_ {i:e0_} {p:Nat} {d:L8} (h:ko_ i p=some d):d.length≤1000:=by
 unfold ko_ at h
 cases hf:d5_ i with
 | false=>rw[hf,if_pos rfl] at h;cases h
 | true=>
  rw[hf,if_neg Bool.noConfusion] at h
  obtain⟨z1,z2,z3,z4,z5,z6⟩:=jd_ hf
  have l1:=fH_ i.s
  have l3:=ye_ hf
  obtain⟨b,hb,rfl⟩:=Option.map_eq_some_iff.1 h
  have:b.length≤64:=by
   unfold xD_ at hb
   split at hb
   ·injection hb with hb;subst hb;decide
   split at hb
   ·injection hb with hb;subst hb;omega
   split at hb
   ·injection hb with hb;subst hb;simp only[List.length_append,List.length_cons,List.length_nil];omega
   split at hb
   ·injection hb with hb;subst hb;decide
   split at hb
   ·injection hb with hb;subst hb;decide
   ·cases hb
  simp only[List.length_append,List.length_cons,List.length_nil]
  omega
theorem sL_ {now saved:bF_} {c:Cm} {d:L8} (h:dE_ now saved c=some d):d.length≤1000:=by
 unfold dE_ at h
 split at h
 ·cases h
 ·injection h with h
  subst h
  have:=vB_ now saved c
  rw[List.length_append]
  unfold vy_
  split<;>simp only[List.length_cons,List.length_nil]<;>omega
theorem SOk.mono {st:Wst} {us:List (UA×USt)} {m m':Nat} (h:SOk st us m) (hm:m≤m'):SOk st us m':=⟨h.wok,⟨Nat.le_trans h.few.1 hm,Nat.le_trans h.few.2 hm⟩,h.units⟩
theorem SOk.put {st:Wst} {us:List (UA×USt)} {m i:Nat} {x:UA×USt} (h:SOk st us m) (hx:UOk st x.2):SOk st (us.set i x) m:=⟨h.wok,h.few,fun y hy=>(List.mem_or_eq_of_mem_set hy).elim (h.units y) fun e=>e▸hx⟩
theorem SOk.at {st:Wst} {us:List (UA×USt)} {m i:Nat} {a:UA} {s:USt} (h:SOk st us m) (hi:i<us.length) (he:us[i]=(a,s)):UOk st s:=by
 have:=h.units us[i] (List.getElem_mem hi)
 rw[he] at this;exact this
theorem og_ {us:List (UA×USt)} {i:Nat} {x:UA×USt} (hi:i<us.length) (he:us[i]=x):us.set i x=us:=by
 rw[←he];exact List.set_getElem_self hi
section
variable {w u v w3:World} {S D D':Nat→Prop} {pw i m n ab:Nat} {a:UA} {s:USt} {st st':Wst} {F F':Int→Bool} {ℓ ℓ' ℓ1:Nat→Option Nat} {us:List (UA×USt)} {X:jN_} {R:A_→W_} {d:Sl} {l:L8}
def gk_ (w:World) (ℓ:Nat→Option Nat) (pw:Nat) (F:Int→Bool) (us:List (UA×USt)) (i:Nat) (a:UA) (m:Nat) (X:jN_) (R:A_→W_):Prop:=
 ∀v ℓ' d,Mv w v ℓ ℓ'→Sys v ℓ' pw X.w F (us.set i (a,X.s))→SOk X.w (us.set i (a,X.s)) (m+200000)→Dat w v ℓ' d X.x.d→R (rsv X.x.st X.x.sn d).toArray v
theorem Dat.from {w u v:World} {ℓ':Nat→Option Nat} {d:Sl} {l:L8} (h:Dat u v ℓ' d l) (g:w.heap.size≤u.heap.size):Dat w v ℓ' d l:=⟨h.1.mono g,h.2⟩
theorem gk_.ret (h:gk_ w ℓ pw F us i a m X R) (mv:Mv w v ℓ ℓ') (H:Sys v ℓ' pw X.w F (us.set i (a,X.s))) (K:SOk X.w (us.set i (a,X.s)) (m+200000)) (dt:Dat w v ℓ' d X.x.d) (hab:w.heap.size≤ab) (hn:ℓ' ab=none) (hb:Blk v ab z10 aa_):cG_ ab R (rsv X.x.st X.x.sn d).toArray v:=
 bm_ hb rfl fun v' hk=>h v' ℓ' d (mv.loc hk fun b hb2 q=>o_) (H.local1 hb hn hk (e3_ d_ d_ d_) d_) K ⟨dt.1.keep hk fun b hbb q=>bd_ dt.1 hb d_ (by rw[hbb,q]),dt.2⟩
theorem gk_.hand (h:gk_ w ℓ pw F us i a m X R) (mv:Mv w w3 ℓ ℓ1) (g:w.heap.size≤w3.heap.size) (hab:w.heap.size≤ab) (hn:ℓ1 ab=none) (hb:Blk w3 ab z10 aa_):gk_ w3 ℓ1 pw F us i a m X (cG_ ab R):=fun v ℓ' d mv2 H K dt=>
 h.ret (mv.trans mv2) H K (dt.from g) hab (by rw[mv2.lab _ (au_ hb)];exact hn) (mv2.heap hb hn)
theorem Dat.new {w u v:World} {ℓ:Nat→Option Nat} (H:Sys w ℓ pw st F us) (g:ac_ w u) (h:Own v u.heap.size ae_ 1 d (bv l)):Dat w v ℓ d l:=⟨h.mono g.size,fun b hb=>H.fresh (by have:=(h.ge b hb).1;have:=g.size;omega)⟩
theorem mS_ {xs:Sl} {l:L8} {base:Nat} (h:Own v base ae_ 1 xs (bv l)) (hl:l.length≤1000):Rd v 1 xs (bv l)∧xs.n≤1000000:=by
 have:=gK_ h
 exact⟨h.rd o_,o_⟩
end
open Go CF
def zV_ (t:a5_):L8:=if (bc_ t).1=0 then [] else(match t.regs.reverse.find? fun r=>decide ((r.1:Int)=(bc_ t).2) with
 | some r=>beN 8 r.2
 | none=>List.replicate 8 0)++[0,0,0,0,0,UInt8.ofNat (bc_ t).1,0,0]
def zF_ (t:a5_) (r:Nat×Nat):L8:=[if dv_ t r.1 then 1 else 0,if dv_ t r.1 then UInt8.ofNat (bc_ t).1 else 0,0,UInt8.ofNat r.1]
def zG_ (t:a5_) (svc:Nat) (r:Nat×Nat):L8:=beN 8 r.2++if svc=3 then zF_ t r else []
def vG_ (t:a5_) (svc:Nat):L8:=if svc=1 then zV_ t else t.regs.flatMap (zG_ t svc)
def inX (t:a5_) (svc:Nat):L8:=if svc=2 then [0,8,1,128,234,1,0,0] else beN 4 t.gen++beN 4 (vG_ t svc).length++vG_ t svc
section
variable {w u v:World} {N:Nat→Prop} {pw svc:Nat} {a:UA} {s:USt}
end
end Go.Proofs.YtpmebahhjgkflaaGreatDoor
