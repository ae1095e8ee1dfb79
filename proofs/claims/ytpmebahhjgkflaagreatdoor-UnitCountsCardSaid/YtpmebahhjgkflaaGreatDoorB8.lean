import Derived.LaidEqlPtr
import Derived.Lib.AppendStr
import Derived.Test.YtpmebahhjgkflaaGreatDoorB7
set_option maxHeartbeats 20000000
namespace Go.Proofs.YtpmebahhjgkflaaGreatDoor
open Go CF
set_option maxRecDepth 100000
section
variable {w u v:World} {N N' S:Nat→Prop} {pw i n:Nat} {a:UA} {s:USt} {st:Wst} {F:Int→Bool} {ℓ ℓ':Nat→Option Nat} {us:List (UA×USt)}
theorem g0_ {R:O_→W_} (h:∀qb w',w.heap.size≤qb→ab_ w w'→(∀N,IsQ w' N qb (fun _=>[]))→R (some ⟨qb,0,none⟩) w'):gQ_ w R:=by
 refine lL_.calls _ _ (ag_ fun b w1 hb hb1 hg1 hsz1=>?_)
 refine h b w1 o_ hg1 fun N=>⟨⟨List.replicate 8 au_,rfl,hb1,fun i hi=>?_⟩,fun _ _=>⟨d_,fun c hc=>by cases hc⟩⟩
 rw[List.getElem_replicate]
 exact RdN.nil _ _ _ _
theorem kU_ {R:O_→W_} (h:∀tb w',w.heap.size≤tb→ab_ w w'→(∀N,IsT w' N tb t0)→R (some ⟨tb,0,none⟩) w'):jk_ w R:=by
 refine mM_.calls _ _ (ag_ fun b w1 hb hb1 hg1 hsz1=>?_)
 exact h b w1 o_ hg1 fun N=>⟨⟨au_,hb1,RdN.nil _ _ _ _⟩,xg_⟩
def hy_ (i:dw_) (b:Int):List Value:=co_ i++[Value.int .i64 b]
def AV_ (i:dw_) (name:ByteArray) (n:Nat):USt:=⟨i,name++fn_,name++gM_,n,true,false,-1,0,v0,v0,t0,fun _=>[],[],0,0,0,0⟩
theorem v6_ (u:World) (v p r s:ByteArray) (prot:Int) (dv sl pg tb qb:Nat):(Instr.build bp_ #[(0,.agg #[.string v,.string p,.string r,.string s,.int .u8 prot]),(1,.pointer (some ⟨dv,0,none⟩)),(2,.pointer (some ⟨sl,0,none⟩)),(3,.pointer (some ⟨pg,0,none⟩)),(4,.pointer (some ⟨tb,0,none⟩)),(5,.pointer (some ⟨qb,0,none⟩))]).run Tryz.prog u =
  .ok (.agg #[.string v,.string p,.string r,.string s,.int .u8 prot,.pointer (some ⟨dv,0,none⟩),.pointer (some ⟨sl,0,none⟩),.pointer (some ⟨pg,0,none⟩),.pointer (some ⟨tb,0,none⟩),.pointer (some ⟨qb,0,none⟩),.slice none 0 0,.int .u32 0,.int .i32 0,.int .u32 0,.int .i64 0,.int .i64 0]) u:=k_
theorem ln_ (a b:ByteArray):(a++b).size=a.size+b.size:=ByteArray.size_append
def i9_ (name:ByteArray) (blocks:Int):Bool:=decide (name.size<1)||decide (28<name.size)||decide (blocks<1)||decide (4096<blocks)
theorem yN_ {inf:dw_} {name:ByteArray} {blocks:Int} {R:O_→Int→W_} (hi:sG_ inf)
  (hbad:i9_ name blocks=true→∀w',ab_ w w'→R none 1 w') (hform:i9_ name blocks=false→c7_ inf=false→∀w',ab_ w w'→R none 3 w')
  (hok:i9_ name blocks=false→c7_ inf=true→∀a u,ab_ w u→(∀b,a.set b→w.heap.size≤b)→(∀N:Nat→Prop,IsU u N pw a (AV_ inf name blocks.toNat))→R (some ⟨a.ub,0,none⟩) 0 u) :
  gO_ (some ⟨pw,0,none⟩) name (hy_ inf blocks).toArray w R:=by
 refine lI_.calls _ _ _ _ _ (ag_ fun cb w1 hcb hb1 hg1 hs1=>?_)
 have c5:∀{v:World},Blk v cb (hy_ inf blocks).toArray a7_→v.cell? ((⟨cb,0,none⟩:Addr).add 5)=some (.int .i64 blocks):=fun q=>by rw[ao_,Blk.cell q];rfl
 have c4:∀{v:World},Blk v cb (hy_ inf blocks).toArray a7_→v.cell? (((⟨cb,0,none⟩:Addr).add 0).add 4)=some (.int .u8 (inf.prot:Int)):=fun q=>by rw[ao_,ao_,Blk.cell q];rfl
 have cl:∀{v:World},Blk v cb (hy_ inf blocks).toArray a7_→(loadVar ce_ ((⟨cb,0,none⟩:Addr).add 0)).run Tryz.prog v=.ok (.agg (co_ inf).toArray) v:=fun q=>aD_ (cs:=co_ inf) kz_ iJ_ rfl (fun j x hj=>by
  rw[ao_,ao_,Blk.cell q,Nat.zero_add,List.getElem?_toArray]
  show(co_ inf++[Value.int .i64 blocks])[j]?=some x
  exact(List.getElem?_append_left (List.getElem?_eq_some_iff.1 hj).1).trans hj)
 have hb1:Blk w1 cb (hy_ inf blocks).toArray a7_:=hb1
 refine⟨blocks,fun _=>c5 hb1,blocks,fun _=>c5 hb1,?_⟩
 have eb:((((decide ((name.size:Int)<1))||(decide ((name.size:Int)>28)))||(decide (blocks<1)))||(decide (blocks>4096)))=i9_ name blocks:=by
  unfold i9_
  congr 1
  congr 1
  congr 1
  ·rw[decide_eq_decide];omega
  ·rw[decide_eq_decide];omega
 rw[eb]
 cases hA:i9_ name blocks with
 | true=>exact al_ rfl (hbad hA w1 hg1)
 | false=>
  refine ai_ rfl ⟨_,cl hb1,mu_ hi fun w2 hg2=>?_⟩
  have hg02:=hg1.trans hg2
  cases hF:c7_ inf with
  | false=>exact al_ rfl (hform hA hF w2 hg02)
  | true=>
   have hA':=hA
   unfold i9_ at hA'
   rw[Bool.or_eq_false_iff,Bool.or_eq_false_iff,Bool.or_eq_false_iff,decide_eq_false_iff_not,decide_eq_false_iff_not,decide_eq_false_iff_not,decide_eq_false_iff_not] at hA'
   obtain⟨⟨⟨hA1,hA2⟩,hA3⟩,hA4⟩:=hA'
   refine ai_ rfl (ai_ rfl ?_)
   rintro w3 rfl
   have hg3:=hg02.trans (am_ w2)
   have hb3:Blk w2.drew cb (hy_ inf blocks).toArray a7_:=((hg2.trans (am_ w2))).heap hb1 (fun q=>q)
   generalize w2.drew=w3 at *
   have zd:fn_.size=2:=d_
   have zp:gM_.size=2:=d_
   refine⟨fun o=>Blk o cb (hy_ inf blocks).toArray a7_,hb3,o_,blocks,fun o q=>c5 q,i8_ fun w4 hg4=>?_⟩
   have hb4:Blk w4 cb (hy_ inf blocks).toArray a7_:=hg4.heap hb3 (fun q=>q)
   refine⟨hb4,fun o=>Blk o cb (hy_ inf blocks).toArray a7_,hb4,fun _ q=>q,true,fun _ _=>rfl,?_⟩
   have ebk:blocks=((blocks.toNat:Nat):Int):=o_
   rw[ebk]
   rw[ebk] at hb4
   have c4:∀{v:World},Blk v cb (hy_ inf ((blocks.toNat:Nat):Int)).toArray a7_→v.cell? (((⟨cb,0,none⟩:Addr).add 0).add 4)=some (.int .u8 (inf.prot:Int)):=fun q=>by rw[←ebk] at q;exact c4 q
   have cl:∀{v:World},Blk v cb (hy_ inf ((blocks.toNat:Nat):Int)).toArray a7_→(loadVar ce_ ((⟨cb,0,none⟩:Addr).add 0)).run Tryz.prog v=.ok (.agg (co_ inf).toArray) v:=fun q=>by rw[←ebk] at q;exact cl q
   have hn:1≤blocks.toNat∧blocks.toNat≤4096:=o_
   generalize blocks.toNat=bn at *
   refine w3_ (by rw[ln_];omega) hn fun ps w5 hps hg5 hS5=>⟨o_,qy_ (by rw[ln_];omega) fun sl w6 hsl hg6 hS6=>?_⟩
   rintro w7 rfl
   have hg47:ab_ w4 w6.drew:=(hg5.trans hg6).trans (am_ w6)
   have g6d:=am_ w6
   have hb7:Blk w6.drew cb _ a7_:=hg47.heap hb4 (fun q=>q)
   have hS7:IsS w6.drew ps pw (name++fn_) bn true:=(hg6.trans g6d).heap hS5 (fun q=>q)
   have hL7:cj_ w6.drew sl pw (name++gM_) false (-1) 0:=g6d.heap hS6 (fun q=>q)
   have hg7:=(hg3.trans hg4).trans hg47
   have sz3:=hg3.size
   have sz4:=hg4.size
   have sz5:=hg5.size
   have sz7:=hg7.size
   generalize w6.drew=w7 at *
   have fin:∀{z:World} {dv pg tb qb:Nat},ab_ w7 z→Blk z dv (dm_ ps inf.prot) bV_→IsP z pg v0 v0→(∀N,IsT z N tb t0)→(∀N,IsQ z N qb fun _=>[])→w.heap.size≤dv→w.heap.size≤pg→w.heap.size≤tb→w.heap.size≤qb→
     (∃S3:W_,S3 z∧(∀u5,S3 u5→Blk u5 cb (hy_ inf (bn:Int)).toArray a7_)∧∃g4:A_,(∀u6,S3 u6→(Instr.build bp_ #[(0,.agg (co_ inf).toArray),(1,.pointer (some ⟨dv,0,none⟩)),(2,.pointer (some ⟨sl,0,none⟩)),(3,.pointer (some ⟨pg,0,none⟩)),(4,.pointer (some ⟨tb,0,none⟩)),(5,.pointer (some ⟨qb,0,none⟩))]).run Tryz.prog u6=.ok (.agg g4) u6)∧
      New (.cells g4 bp_) z fun a1 w012=>R (some a1) 0 w012):=fun {z dv pg tb qb} g hd hp ht hq l1 l2 l3 l4=>by
    refine⟨fun o=>Blk o cb (hy_ inf (bn:Int)).toArray a7_,g.heap hb7 (fun q=>q),fun _ q=>q,_,fun o _=>v6_ o inf.v inf.p inf.r inf.s (inf.prot:Int) dv sl pg tb qb,ag_ fun ub w8 hub hb8 hg8 hs8=>?_⟩
    have gz:=g.size
    refine hok hA hF ⟨ub,dv,ps,sl,pg,tb,qb⟩ w8 ((hg7.trans g).trans hg8) (fun b hb=>?_) fun N=>⟨⟨au_,hb8,RdN.nil _ _ _ _⟩,hg8.heap hd (fun q=>q),(g.trans hg8).heap hS7 (fun q=>q),(g.trans hg8).heap hL7 (fun q=>q),hg8.heap hp (fun q=>q),(ht N).grow hg8,(hq N).grow hg8⟩
    rcases hb with q|q|q|q|q|q|q
    ·rw[q];show w.heap.size≤ub;omega
    ·rw[q];exact l1
    ·rw[q];show w.heap.size≤ps;omega
    ·rw[q];show w.heap.size≤sl;omega
    ·rw[q];exact l2
    ·rw[q];exact l3
    ·rw[q];exact l4
   refine⟨fun o=>Blk o cb (hy_ inf (bn:Int)).toArray a7_,hb7,(co_ inf).toArray,fun o q=>cl q,(inf.prot:Int),fun o q=>c4 q,?_,?_⟩
   ·refine ag_ fun dv z1 hdv hd1 h1 s1=>⟨h1.heap hb7 (fun q=>q),i8_ fun z2 h2=>⟨(h1.trans h2).heap hb7 (fun q=>q),ib_ fun pg z3 h3 lp hp=>⟨((h1.trans h2).trans h3).heap hb7 (fun q=>q),kU_ fun tb z4 lt h4 ht=>⟨(((h1.trans h2).trans h3).trans h4).heap hb7 (fun q=>q),g0_ fun qb z5 lq h5 hq=>?_⟩⟩⟩⟩
    have e1:=h1.size
    have e2:=h2.size
    have e3:=h3.size
    have e4:=h4.size
    exact⟨((((h1.trans h2).trans h3).trans h4).trans h5).heap hb7 (fun q=>q),fin ((((h1.trans h2).trans h3).trans h4).trans h5) ((((h2.trans h3).trans h4).trans h5).heap hd1 (fun q=>q)) ((h4.trans h5).heap hp (fun q=>q)) (fun N=>(ht N).grow h5) hq o_ o_ o_ o_⟩
   ·refine i8_ fun z1 h1=>⟨h1.heap hb7 (fun q=>q),?_,ib_ fun pg z2 h2 lp hp=>⟨(h1.trans h2).heap hb7 (fun q=>q),?_,kU_ fun tb z3 lt h3 ht=>⟨((h1.trans h2).trans h3).heap hb7 (fun q=>q),?_,g0_ fun qb z4 lq h4 hq=>⟨(((h1.trans h2).trans h3).trans h4).heap hb7 (fun q=>q),?_⟩⟩⟩⟩
    ·refine ag_ fun dv z2 hdv hd1 h2 s1=>⟨(h1.trans h2).heap hb7 (fun q=>q),ib_ fun pg z3 h3 lp hp=>⟨((h1.trans h2).trans h3).heap hb7 (fun q=>q),kU_ fun tb z4 lt h4 ht=>⟨(((h1.trans h2).trans h3).trans h4).heap hb7 (fun q=>q),g0_ fun qb z5 lq h5 hq=>?_⟩⟩⟩
     have e1:=h1.size
     have e2:=h2.size
     have e3:=h3.size
     have e4:=h4.size
     exact⟨((((h1.trans h2).trans h3).trans h4).trans h5).heap hb7 (fun q=>q),fin ((((h1.trans h2).trans h3).trans h4).trans h5) (((h3.trans h4).trans h5).heap hd1 (fun q=>q)) ((h4.trans h5).heap hp (fun q=>q)) (fun N=>(ht N).grow h5) hq o_ o_ o_ o_⟩
    ·refine ag_ fun dv z3 hdv hd1 h3 s1=>⟨((h1.trans h2).trans h3).heap hb7 (fun q=>q),kU_ fun tb z4 lt h4 ht=>⟨(((h1.trans h2).trans h3).trans h4).heap hb7 (fun q=>q),g0_ fun qb z5 lq h5 hq=>?_⟩⟩
     have e1:=h1.size
     have e2:=h2.size
     have e3:=h3.size
     have e4:=h4.size
     exact⟨((((h1.trans h2).trans h3).trans h4).trans h5).heap hb7 (fun q=>q),fin ((((h1.trans h2).trans h3).trans h4).trans h5) ((h4.trans h5).heap hd1 (fun q=>q)) (((h3.trans h4).trans h5).heap hp (fun q=>q)) (fun N=>(ht N).grow h5) hq o_ o_ o_ o_⟩
    ·refine ag_ fun dv z4 hdv hd1 h4 s1=>⟨(((h1.trans h2).trans h3).trans h4).heap hb7 (fun q=>q),g0_ fun qb z5 lq h5 hq=>?_⟩
     have e1:=h1.size
     have e2:=h2.size
     have e3:=h3.size
     have e4:=h4.size
     exact⟨((((h1.trans h2).trans h3).trans h4).trans h5).heap hb7 (fun q=>q),fin ((((h1.trans h2).trans h3).trans h4).trans h5) (h5.heap hd1 (fun q=>q)) (((h3.trans h4).trans h5).heap hp (fun q=>q)) (fun N=>((ht N).grow h4).grow h5) hq o_ o_ o_ o_⟩
    ·refine ag_ fun dv z5 hdv hd1 h5 s1=>?_
     have e1:=h1.size
     have e2:=h2.size
     have e3:=h3.size
     have e4:=h4.size
     exact⟨((((h1.trans h2).trans h3).trans h4).trans h5).heap hb7 (fun q=>q),fin ((((h1.trans h2).trans h3).trans h4).trans h5) hd1 (((h3.trans h4).trans h5).heap hp (fun q=>q)) (fun N=>((ht N).grow h4).grow h5) (fun N=>(hq N).grow h5) o_ o_ o_ o_⟩
end
open Go CF
section
variable {w u v:World} {N N' S:Nat→Prop} {pw i n:Nat} {a:UA} {s:USt} {st:Wst} {F:Int→Bool} {ℓ ℓ':Nat→Option Nat} {us:List (UA×USt)}
theorem tG_ {P:Program} {tp te:TypeId} {j:TypeInfo} {x y:Operand} (w:World) (a:Addr) (hp:P.underlying tp=some (.pointer te)) (hte:P.info? te=some j) :
  (do eqGuard .neq tp x y (.pointer (some a)) (.pointer (some a));binOp .neq tp (.pointer (some a)) (.pointer (some a)):Sem Value).run P w=.ok (.bool false) w:=by
 have h:∀d:Nat,(Op.equalIn (d+1) tp (.pointer (some a)) (.pointer (some a))).run P w=.ok true w:=fun d=>by
  simp[Op.equalIn,run_underlying hp,sizeOf,typeInfo,hte,run_sameAddr_same]
 simp only[binOp,eqGuard]
 simp[Op.equal,Op.maxDepth,h 9999]
theorem ss_ {P:Program} {tp te:TypeId} {j:TypeInfo} {x y:Operand} {a b:Addr} {ca cb:A_} {ta tb:TypeId} (w:World) (hp:P.underlying tp=some (.pointer te)) (hte:P.info? te=some j) (hsz:j.size≠0)
  (hne:a≠b) (ha:w.heap[a.block]?=some (.cells ca ta (0,0))) (hb:w.heap[b.block]?=some (.cells cb tb (0,0))) :
  (do eqGuard .neq tp x y (.pointer (some a)) (.pointer (some b));binOp .neq tp (.pointer (some a)) (.pointer (some b)):Sem Value).run P w=.ok (.bool true) w:=by
 have h:∀d:Nat,(Op.equalIn (d+1) tp (.pointer (some a)) (.pointer (some b))).run P w=.ok false w:=fun d=>by
  simp[Op.equalIn,run_underlying hp,sizeOf,typeInfo,hte,hsz,run_sameAddr_other w hne ha hb]
 simp only[binOp,eqGuard]
 simp[Op.equal,Op.maxDepth,h 9999]
theorem n1_:Tryz.prog.underlying aM_=some (.pointer bp_):=k_
theorem xt_:∃j,Tryz.prog.info? bp_=some j∧j.size≠0:=by
 obtain⟨j,hj,e⟩:=Option.map_eq_some_iff.1 ug_
 refine⟨j,hj,?_⟩
 simp only[Prod.mk.injEq] at e
 rw[e.2.1];decide
def tH_ (x:Option Nat):Value:=.pointer (x.map fun b=>⟨b,0,none⟩)
def b2_ (b:Nat) (xs:List (Option Nat)):List Nat:=xs.filterMap fun x=>match x with|some c=>if c=b then none else some c|none=>none
theorem tI_ (b:Nat) (l:List (Option Nat)) (x:Option Nat):b2_ b (l++[x])=b2_ b l++(match x with|some c=>if c=b then [] else [c]|none=>[]):=by
 unfold b2_
 rw[List.filterMap_append]
 congr 1
 cases x with
 | none=>rfl
 | some c=>
  by_cases q:c=b
  ·simp[q]
  ·simp[q]
theorem uE_ (b:Nat) (l:List (Option Nat)):(b2_ b l).length≤l.length:=List.length_filterMap_le _ _
theorem tJ_ (w:World) (b:Nat):(Instr.buildSlice k8_ 1 #[(0,.pointer (some ⟨b,0,none⟩))]).run Tryz.prog w=.ok (.slice (some ⟨w.heap.size,0,none⟩) 1 1) (w.alloc (.cells #[.pointer (some ⟨b,0,none⟩)] aM_)):=k_
theorem qJ_ {p:Sl} {xs:List (Option Nat)} {R:W_} (H:Sys w ℓ pw st F us) (hi:i<us.length) (he:us[i]=(a,s)) (hp:RdX w ℓ 1 p (xs.map tH_)) (hx:∀c,some c∈xs→∃(j:Nat) (hj:j<us.length),us[j].1.ub=c) (hxs:xs.length≤1000)
  (hR:∀u,Mv w u ℓ ℓ→Sys u ℓ pw st F (us.set i (a,{s with peers:=b2_ a.ub xs}))→R u):fH_ (some ⟨a.ub,0,none⟩) p w R:=by
 refine fM_.calls _ _ _ _ (ai_ rfl ⟨rfl,?_⟩)
 obtain⟨hU,hown⟩:=H.at hi he
 obtain⟨z1,z2,z3,z4,z5,z6,z7⟩:=de_ a
 have hpn:xs.length=p.n:=by have:=hp.rd.len;rw[List.length_map] at this;omega
 have sf:∀{x:World},a9_ x (fun k=>ℓ k≠none) fun b=>b=a.ub:=a9_.sub fun b _ q=>by rw[q,hown _ z1];exact Option.some_ne_none _
 obtain⟨P,hP1,hP2⟩:=hU.unit
 have mk:∀{v:World} {P:Sl} {l:List Nat},l.length≤1000→ac_ (fun b=>b=a.ub) w v→Blk v a.ub (dE_ a P {s with peers:=l}) bp_→CF.Own v w.heap.size aM_ 1 P (l.map ptr)→Mv w v ℓ ℓ∧Sys v ℓ pw st F (us.set i (a,{s with peers:=l})):=fun {v P l} hl k hb ho=>by
  have hn:P.n=l.length:=by have:=ho.len;rw[List.length_map] at this;omega
  have hUv:IsU v (fun k=>ℓ k≠none) pw a {s with peers:=l}:=hU.unitC (on:=s.on) (lk:=s.lock) (fl:=s.fault) (ct:=s.count) (ps:=l) k sf (fun b _ hne q=>hne q) (fun _ q=>.inl q) ⟨P,hb,ho.rdN o_ H.lt⟩
  exact H.putA hi he k (fun b _ q=>by rw[q];exact z1) hUv
 rw[show(gA (some (⟨a.ub,0,none⟩:Addr))).add 10=⟨a.ub,10,none⟩ by rw[gA,ao_]]
 refine aU_ hP1 (by show 10<16;decide) rfl fun w1 hb1 hk1 hs1=>?_
 refine⟨fun x v=>∃(j:Nat) (P:Sl),x=j∧j≤xs.length∧ac_ (fun b=>b=a.ub) w v∧Blk v a.ub (dE_ a P {s with peers:=b2_ a.ub (xs.take j)}) bp_∧CF.Own v w.heap.size aM_ 1 P ((b2_ a.ub (xs.take j)).map ptr),fun x _=>p.n-x.toNat,⟨0,au_,rfl,Nat.zero_le _,hk1,hb1,aG_ _ _ _ _⟩,?_⟩
 rintro x v ⟨j,P1,rfl,hj,hkv,hbv,hov⟩
 have hlen:=uE_ a.ub (xs.take j)
 have htl:(xs.take j).length≤j:=by rw[List.length_take];omega
 have hP1n:(b2_ a.ub (xs.take j)).length=P1.n:=by have:=hov.len;rw[List.length_map] at this;omega
 obtain⟨hm,Hv⟩:=mk o_ hkv hbv hov
 refine ba_ (fun hltj=>?_) (fun hge=>?_)
 ·have hjl:j<xs.length:=o_
  have htk:xs.take (j+1)=xs.take j++[xs[j]]:=List.take_succ_eq_append_getElem hjl
  refine bR_ (fun v'=>∃P:Sl,ac_ (fun b=>b=a.ub) w v'∧Blk v' a.ub (dE_ a P {s with peers:=b2_ a.ub (xs.take (j+1))}) bp_∧CF.Own v' w.heap.size aM_ 1 P ((b2_ a.ub (xs.take (j+1))).map ptr)) (fun v' hv=>?_) (fun J=>?_)
  ·obtain⟨P,h1,h2,h3⟩:=hv
   rw[w64 o_ o_]
   exact⟨⟨j+1,P,o_,o_,h1,h2,h3⟩,by dsimp only;omega⟩
  rw[htk,tI_] at J
  obtain⟨ha,hc⟩:=ka_ (hm.rdX hp).rd (i:=j) (by rw[List.length_map];exact hjl)
  rw[List.getElem_map] at hc
  refine⟨⟨o_,o_,ha⟩,_,by rw[Int.toNat_natCast];exact hc,?_⟩
  have hmem:xs[j]∈xs:=List.getElem_mem hjl
  generalize xs[j]=xj at *
  cases xj with
  | none=>exact⟨fun q=>by simp at q,none,fun q=>by simp at q,false,fun q=>by simp at q,ai_ rfl (J v ⟨P1,hkv,by rw[List.append_nil];exact hbv,by rw[List.append_nil];exact hov⟩)⟩
  | some c=>
   obtain⟨jj,hjj,hub⟩:=hx c hmem
   have hjj':jj<(us.set i (a,{s with peers:=b2_ a.ub (xs.take j)})).length:=by rw[List.length_set];exact hjj
   have hUj:=(Hv.U jj hjj').1
   have hubj:((us.set i (a,{s with peers:=b2_ a.ub (xs.take j)}))[jj]'hjj').1.ub=c:=by
    by_cases e:jj=i
    ·subst e
     rw[List.getElem_set_self]
     rw[he] at hub;exact hub
    ·rw[List.getElem_set_ne (fun q=>e q.symm)];exact hub
   generalize (us.set i (a,{s with peers:=b2_ a.ub (xs.take j)}))[jj]'hjj'=uj at hUj hubj
   obtain⟨aj,sj⟩:=uj
   dsimp only at hUj hubj
   subst hubj
   obtain⟨P2,hP21,_⟩:=hUj.unit
   obtain⟨ji,hji,hjs⟩:=xt_
   refine⟨fun _=>rfl,some ⟨aj.dv,0,none⟩,fun _=>hUj.cellU fun P=>rfl,?_⟩
   by_cases e:aj.ub=a.ub
   ·refine⟨false,fun _=>by rw[e];exact tG_ v _ n1_ hji,ai_ rfl (J v ⟨P1,hkv,?_,?_⟩)⟩
    ·dsimp only;rw[if_pos e,List.append_nil];exact hbv
    ·dsimp only;rw[if_pos e,List.append_nil];exact hov
   ·refine⟨true,fun _=>ss_ v n1_ hji hjs (fun q=>e (congrArg Addr.block q)) hP21 hbv,al_ rfl ⟨rfl,P1,?_,?_⟩⟩
    ·rw[hbv.cell];rfl
    dsimp only at J
    rw[if_neg e] at J
    refine aJ_ (cells:=#[.pointer (some ⟨aj.ub,0,none⟩)]) (e:=aM_) (z:=1) (base:=0) (tJ_ _ _) rfl d_ (Nat.zero_le _) fun v1 ho1 hg1 _=>?_
    have sz0:=hkv.size
    have sz1:=hg1.size
    refine aN_ k9_ n0_ rfl d_ d_ (hov.grow hg1) (ho1.rd (by show 1≤_;decide)) (by simp[Value.oneCell']) (by show(P1.n+1)*8≤_;omega) o_ fun P3 v2 hn3 ho3 hk3 hat3=>?_
    have hb1v:Blk v1 a.ub (dE_ a P1 {s with peers:=b2_ a.ub (xs.take j)}) bp_:=hg1.heap hbv (fun q=>q)
    have hne3:∀b,some b=P1.blk→b≠a.ub∧w.heap.size≤b:=fun b hb=>by
     obtain⟨cur,hc⟩:=aS_ (hov.grow hg1) hb.symm
     refine⟨fun q=>?_,(hov.ge b hb.symm).1⟩
     subst q
     exact absurd (bj_ hb1v hc) d_
    have hb2:Blk v2 a.ub (dE_ a P1 {s with peers:=b2_ a.ub (xs.take j)}) bp_:=hk3.heap hb1v fun q=>(hne3 _ q).1 rfl
    refine⟨rfl,?_⟩
    refine aU_ hb2 (by show 10<16;decide) rfl fun v3 hb3 hk33 hs3=>J v3 ⟨P3,?_,hb3,?_⟩
    ·exact((hkv.grow hg1).trans hk3 fun b hb q=>by have:=(hne3 b q).2;omega).trans hk33 fun _ _ q=>q
    ·have ho3':CF.Own v2 w.heap.size aM_ 1 P3 ((b2_ a.ub (xs.take j)++[aj.ub]).map ptr):=by rw[List.map_append];exact ho3
     refine ho3'.keep hk33 fun b hb q=>?_
     obtain⟨cur,hc⟩:=aS_ ho3' hb
     subst q
     exact absurd (bj_ hb2 hc) d_
 ·have:j=xs.length:=o_
  subst this
  rw[List.take_length] at Hv
  exact hR v hm Hv
end
open Go CF
section
variable {w u v:World} {N N' S D:Nat→Prop} {pw i n:Nat} {a:UA} {s:USt} {st:Wst} {F:Int→Bool} {ℓ ℓ':Nat→Option Nat} {us:List (UA×USt)}
open Classical in
theorem Sys.world0 (h:aZ_ w pw D st F):∃ℓ:Nat→Option Nat,Sys w ℓ pw st F []∧∀b,¬D b→ℓ b=none:=
 ⟨fun b=>if D b then some 0 else none,⟨⟨D,h,fun k hk=>if_pos hk⟩,fun i hi=>absurd hi (Nat.not_lt_zero i),fun k hk=>by
  by_cases q:D k
  ·exact h.lt q
  ·exact absurd (if_neg q) hk⟩,fun b hb=>if_neg hb⟩
def mv_ (i prot:Nat):dw_:=⟨s_V,s_P,s_1,if i=0 then yf_ else yg_,prot⟩
def nmL (i:Nat):ByteArray:=if i=0 then s_a else s_b
theorem z1_ (i prot:Nat):sG_ (mv_ i prot):=by
 refine⟨by show s_V.size≤_;decide,by show s_P.size≤_;decide,by show s_1.size≤_;decide,?_⟩
 show(if i=0 then yf_ else yg_).size≤_
 split<;>decide
theorem r3_ {i prot:Nat} (hi:i<2) (h:prot≤3):c7_ (mv_ i prot)=true:=by
 have:∀(i:Fin 2) (p:Fin 4),c7_ (mv_ i.val p.val)=true:=by decide +kernel
 exact this ⟨i,hi⟩ ⟨prot,o_⟩
theorem z2_ {i:Nat} (hi:i<2):i9_ (nmL i) 24=false:=by
 have:∀i:Fin 2,i9_ (nmL i.val) 24=false:=by decide +kernel
 exact this ⟨i,hi⟩
theorem yO_ (w:World) (x y:ByteArray):(Instr.buildSlice hC_ 2 #[(0,.string x),(1,.string y)]).run Tryz.prog w=.ok (.slice (some ⟨w.heap.size,0,none⟩) 2 2) (w.alloc (.cells #[.string x,.string y] cG_)):=k_
theorem tK_ {x y:ByteArray} (hb:Blk w n #[.string x,.string y] cG_) (hi:i<2):w.cell? ((gA (some (⟨n,0,none⟩:Addr))).add ((i:Int).toNat*1))=some (.string (if i=0 then x else y)):=by
 rw[gA,ao_,hb.cell,Int.toNat_natCast]
 match i,hi with
 | 0,_=>rfl
 | 1,_=>rfl
theorem oE_ {x y:ByteArray} {K:Sl→W_} (h:∀b w',ab_ w w'→Blk w' b #[.string x,.string y] cG_→K ⟨some ⟨b,0,none⟩,2,2⟩ w'):an_ Tryz.prog .sl (Instr.buildSlice hC_ 2 #[(0,.string x),(1,.string y)]) w K:=by
 refine⟨⟨some ⟨w.heap.size,0,none⟩,2,2⟩,_,yO_ w x y,h _ _ (fG_ w _) ?_⟩
 exact heap_alloc_new w _
theorem pA_ {prot:Nat} {R:A_→W_} (hi:i<2) (h:∀w',ab_ w w'→R (co_ (mv_ i prot)).toArray w'):cM_ (i:Int) (prot:Int) w R:=by
 refine e3_.calls _ _ _ _ (ag_ fun ab w1 hab hb1 hg1 hs1=>oE_ fun b w2 hg2 hb2=>?_)
 refine⟨⟨o_,by show(i:Int)<2;omega,rfl⟩,_,tK_ hb2 hi,?_⟩
 refine ap_ (cells:=(co_ (mv_ i prot)).toArray) (hg2.heap hb1 (fun q=>q)) iJ_ rfl rfl (by simp[co_,Value.oneCell']) fun w3 hb3 hk3 hs3=>⟨_,aD_ (cs:=co_ (mv_ i prot)) kz_ iJ_ rfl (ar_ hb3),h w3 ((hg1.trans hg2).keep hk3 fun i hi q=>o_)⟩
theorem xu_ (u:World) (v p r s:ByteArray) (prot n:Int):(Instr.build a7_ #[(0,.agg #[.string v,.string p,.string r,.string s,.int .u8 prot]),(1,.int .i64 n)]).run Tryz.prog u=.ok (.agg #[.string v,.string p,.string r,.string s,.int .u8 prot,.int .i64 n]) u:=k_
def cB_ (i prot:Nat) (ps:List Nat):USt:={AV_ (mv_ i prot) (nmL i) 24 with peers:=ps}
theorem Sys.ub_ne (H:Sys w ℓ pw st F us) {i j:Nat} (hi:i<us.length) (hj:j<us.length) (h:i≠j):us[i].1.ub≠us[j].1.ub:=fun q=>by
 have h1:=(H.U i hi).2 _ (de_ _).1
 have h2:=(H.U j hj).2 _ (de_ _).1
 rw[q,h2] at h1
 injection h1 with h1
 omega
theorem z3_ (w:World) (x y:O_):(Instr.buildSlice k8_ 3 #[(0,.pointer x),(1,.pointer none),(2,.pointer y)]).run Tryz.prog w=.ok (.slice (some ⟨w.heap.size,0,none⟩) 3 3) (w.alloc (.cells #[.pointer x,.pointer none,.pointer y] aM_)):=k_
theorem qK_ {prot:Nat} {R:A_→W_} (H:Sys w ℓ pw st F []) (hpr:prot≤3)
  (hR:∀u ℓ' a0 a1,Mv w u ℓ ℓ'→Sys u ℓ' pw st F [(a0,cB_ 0 prot [a1.ub]),(a1,cB_ 1 prot [a0.ub])]→R #[.pointer (some ⟨a0.ub,0,none⟩),.pointer (some ⟨a1.ub,0,none⟩)] u):c8_ (some ⟨pw,0,none⟩) (prot:Int) w R:=by
 refine ej_.calls _ _ _ _ (ag_ fun rb w1 hrb hr1 hg1 hs1=>ag_ fun qb w2 hqb hq2 hg2 hs2=>?_)
 have hg02:=hg1.trans hg2
 have H2:=H.grow hg02
 have hrn:ℓ rb=none:=H.fresh o_
 have hqn:ℓ qb=none:=H.fresh o_
 have hr2:Blk w2 rb #[.pointer none,.pointer none] cH_:=hg2.heap hr1 (fun q=>q)
 have lq:w.heap.size≤qb:=o_
 have neq:rb≠qb:=o_
 let St:World→(Nat→Option Nat)→List (UA×USt)→A_→Prop:=fun v ℓ' us cs=>Mv w v ℓ ℓ'∧Sys v ℓ' pw st F us∧ℓ' qb=none∧ℓ' rb=none∧Blk v rb #[.pointer none,.pointer none] cH_∧Blk v qb cs cH_
 have St_go:∀{v v':World} {ℓ' ℓ'':Nat→Option Nat} {us us':List (UA×USt)} {cs:A_},St v ℓ' us cs→Mv v v' ℓ' ℓ''→Sys v' ℓ'' pw st F us'→St v' ℓ'' us' cs:=fun {v v' ℓ' ℓ'' us us' cs} h m H'=>by
  obtain⟨m0,H0,n1,n2,b1,b2⟩:=h
  exact⟨m0.trans m,H',(m.lab _ (aw_ b2)).trans n1,(m.lab _ (aw_ b1)).trans n2,m.heap b1 n2,m.heap b2 n1⟩
 have S2:St w2 ℓ [] #[.pointer none,.pointer none]:=⟨Mv.grow hg02,H2,hqn,hrn,hr2,hq2⟩
 have body:∀{v v4:World} {k:Nat} {ℓ':Nat→Option Nat} {us:List (UA×USt)} {cs:A_} {C:W_},k<2→cs.size=2→St v ℓ' us cs→ab_ v v4→
   (∀a' ℓ5 u',St u' ℓ5 (us++[(a',cB_ k prot [])]) (cs.setIfInBounds k (.pointer (some ⟨a'.ub,0,none⟩)))→C u')→
   gO_ (some ⟨pw,0,none⟩) (nmL k) (hy_ (mv_ k prot) 24).toArray v4 fun p1 n1 w010=>(0≤(k:Int)∧(k:Int)<(2:Int))∧Put ((⟨qb,0,none⟩:Addr).add ((k:Int).toNat*1)) (.pointer p1) w010 C:=by
  intro v v4 k ℓ' us cs C hk2 hcs hS hg4 hC
  refine yN_ (z1_ k prot) (fun q=>by rw[z2_ hk2] at q;cases q) (fun _ q=>by rw[r3_ hk2 hpr] at q;cases q) fun _ _ a' u' hgu ha hU=>⟨⟨o_,o_⟩,?_⟩
  obtain⟨ℓ5,m5,H5⟩:=(hS.2.1.grow hg4).add hgu ha hU
  obtain⟨m0,_,n1,n2,b1,b2⟩:=St_go hS ((Mv.grow hg4).trans m5) H5
  rw[ao_,Int.toNat_natCast,Nat.mul_one,Nat.zero_add]
  refine aU_ b2 o_ rfl fun u3 hb3 hk3 hs3=>hC a' ℓ5 u3 ⟨m0.loc hk3 fun b hb q=>o_,H5.local1 b2 n1 hk3 (eO_ d_ d_ d_) d_,n1,n2,hk3.heap b1 neq,hb3⟩
 have round:∀{v:World} {k:Nat} {ℓ':Nat→Option Nat} {us:List (UA×USt)} {cs:A_} {C:W_},k<2→cs.size=2→St v ℓ' us cs→
   (∀a' ℓ5 u',St u' ℓ5 (us++[(a',cB_ k prot [])]) (cs.setIfInBounds k (.pointer (some ⟨a'.ub,0,none⟩)))→C u')→
   ∀w03,w03=v.drew→∃S:W_,S w03∧(an_ Tryz.prog .sl (Instr.buildSlice hC_ 2 #[(0,.string s_a),(1,.string s_b)]) w03 fun xs w04=>S w04∧(0≤(k:Int)∧(k:Int)<(xs.n:Int)∧xs.A.isSome=true)∧∃S1:W_,S1 w04∧(∀u1,S1 u1→S u1)∧∃s:ByteArray,(∀u2,S1 u2→u2.cell? ((gA xs.A).add ((k:Int).toNat*1))=some (.string s))∧cM_ (k:Int) (prot:Int) w04 fun g w05=>S1 w05∧∃S2:W_,S2 w05∧(∀u3,S2 u3→S1 u3)∧∃g1:A_,(∀u4,S2 u4→(Instr.build a7_ #[(0,.agg g),(1,.int .i64 24)]).run Tryz.prog u4=.ok (.agg g1) u4)∧gO_ (some ⟨pw,0,none⟩) s g1 w05 fun p n w06=>(0≤(k:Int)∧(k:Int)<(2:Int))∧Put ((⟨qb,0,none⟩:Addr).add ((k:Int).toNat*1)) (.pointer p) w06 C)∧
    cM_ (k:Int) (prot:Int) w03 fun g2 w08=>S w08∧∃S3:W_,S3 w08∧(∀u5,S3 u5→S u5)∧∃g3:A_,(∀u6,S3 u6→(Instr.build a7_ #[(0,.agg g2),(1,.int .i64 24)]).run Tryz.prog u6=.ok (.agg g3) u6)∧an_ Tryz.prog .sl (Instr.buildSlice hC_ 2 #[(0,.string s_a),(1,.string s_b)]) w08 fun xs1 w09=>S3 w09∧(0≤(k:Int)∧(k:Int)<(xs1.n:Int)∧xs1.A.isSome=true)∧∃S4:W_,S4 w09∧(∀u7,S4 u7→S3 u7)∧∃s1:ByteArray,(∀u8,S4 u8→u8.cell? ((gA xs1.A).add ((k:Int).toNat*1))=some (.string s1))∧gO_ (some ⟨pw,0,none⟩) s1 g3 w09 fun p1 n1 w010=>(0≤(k:Int)∧(k:Int)<(2:Int))∧Put ((⟨qb,0,none⟩:Addr).add ((k:Int).toNat*1)) (.pointer p1) w010 C:=by
  intro v k ℓ' us cs C hk2 hcs hS hC w03 e3
  subst e3
  have hgd:=am_ v
  have hbld:∀u:World,(Instr.build a7_ #[(0,.agg (co_ (mv_ k prot)).toArray),(1,.int .i64 24)]).run Tryz.prog u=.ok (.agg (hy_ (mv_ k prot) 24).toArray) u:=fun u=>xu_ u _ _ _ _ _ _
  refine⟨fun _=>True,trivial,?_,?_⟩
  ·refine oE_ fun b v4 hg4 hb4=>⟨trivial,⟨o_,by show(k:Int)<2;omega,rfl⟩,fun o=>Blk o b #[.string s_a,.string s_b] cG_,hb4,fun _ _=>trivial,_,fun o q=>tK_ q hk2,pA_ hk2 fun v5 hg5=>?_⟩
   have hb5:Blk v5 b #[.string s_a,.string s_b] cG_:=hg5.heap hb4 (fun q=>q)
   exact⟨hb5,fun o=>Blk o b #[.string s_a,.string s_b] cG_,hb5,fun _ q=>q,_,fun o _=>hbld o,body hk2 hcs hS ((hgd.trans hg4).trans hg5) hC⟩
  ·refine pA_ hk2 fun v4 hg4=>⟨trivial,fun _=>True,trivial,fun _ _=>trivial,_,fun o _=>hbld o,oE_ fun b v5 hg5 hb5=>?_⟩
   exact⟨trivial,⟨o_,by show(k:Int)<2;omega,rfl⟩,fun o=>Blk o b #[.string s_a,.string s_b] cG_,hb5,fun _ _=>trivial,_,fun o q=>tK_ q hk2,body hk2 hcs hS ((hgd.trans hg4).trans hg5) hC⟩
 refine⟨fun x v=>(x=0∧St v ℓ [] #[.pointer none,.pointer none])∨(x=1∧∃ℓ' a0,St v ℓ' [(a0,cB_ 0 prot [])] #[.pointer (some ⟨a0.ub,0,none⟩),.pointer none])∨(x=2∧∃ℓ' a0 a1,St v ℓ' [(a0,cB_ 0 prot []),(a1,cB_ 1 prot [])] #[.pointer (some ⟨a0.ub,0,none⟩),.pointer (some ⟨a1.ub,0,none⟩)]),
  fun x _=>2-x.toNat,.inl ⟨rfl,S2⟩,?_⟩
 rintro x v (⟨rfl,hS⟩|⟨rfl,ℓ',a0,hS⟩|⟨rfl,ℓ',a0,a1,hS⟩)
 ·exact al_ rfl (round (k:=0) d_ rfl hS fun a' ℓ5 u' h=>⟨.inr (.inl ⟨rfl,ℓ5,a',h⟩),by show(2-(IntKind.wrap .i64 (0+1)).toNat<2-(0:Int).toNat);decide⟩)
 ·exact al_ rfl (round (k:=1) d_ rfl hS fun a' ℓ5 u' h=>⟨.inr (.inr ⟨rfl,ℓ5,a0,a',h⟩),by show(2-(IntKind.wrap .i64 (1+1)).toNat<2-(1:Int).toNat);decide⟩)
 refine ai_ rfl ?_
 obtain⟨m0,Hv,n1,n2,b1,b2⟩:=hS
 have c0:∀{v:World},Blk v qb #[.pointer (some ⟨a0.ub,0,none⟩),.pointer (some ⟨a1.ub,0,none⟩)] cH_→v.cell? ((⟨qb,0,none⟩:Addr).add ((0:Int).toNat*1))=some (.pointer (some ⟨a0.ub,0,none⟩)):=fun q=>by rw[ao_,Blk.cell q];rfl
 have c1:∀{v:World},Blk v qb #[.pointer (some ⟨a0.ub,0,none⟩),.pointer (some ⟨a1.ub,0,none⟩)] cH_→v.cell? ((⟨qb,0,none⟩:Addr).add ((1:Int).toNat*1))=some (.pointer (some ⟨a1.ub,0,none⟩)):=fun q=>by rw[ao_,Blk.cell q];rfl
 have hne:a0.ub≠a1.ub:=Hv.ub_ne (i:=0) (j:=1) (by show 0<2;decide) (by show 1<2;decide) d_
 refine⟨⟨d_,d_⟩,_,c0 b2,⟨d_,d_⟩,_,c0 b2,⟨d_,d_⟩,_,c1 b2,?_⟩
 have S3:St v ℓ' [(a0,cB_ 0 prot []),(a1,cB_ 1 prot [])] #[.pointer (some ⟨a0.ub,0,none⟩),.pointer (some ⟨a1.ub,0,none⟩)]:=⟨m0,Hv,n1,n2,b1,b2⟩
 refine aJ_ (cells:=#[.pointer (some ⟨a0.ub,0,none⟩),.pointer none,.pointer (some ⟨a1.ub,0,none⟩)]) (e:=aM_) (z:=1) (base:=v.heap.size) (z3_ _ _ _) rfl d_ (Nat.le_refl _) fun v1 ho1 hg1 _=>?_
 have S4:=St_go S3 (Mv.grow hg1) (Hv.grow hg1)
 have hx1:RdX v1 ℓ' 1 ⟨some ⟨v.heap.size,0,none⟩,3,3⟩ ([some a0.ub,none,some a1.ub].map tH_):=⟨ho1.rd (by show 3≤_;decide),fun _ a ha=>by
  injection ha with ha;subst ha
  exact⟨(ho1.ge v.heap.size (by simp[Sl.blk])).2,Hv.fresh (Nat.le_refl _)⟩⟩
 refine qJ_ (i:=0) (xs:=[some a0.ub,none,some a1.ub]) S4.2.1 (by show 0<2;decide) rfl hx1 (fun c hc=>?_) (by show 3≤1000;decide) fun v2 m2 H2'=>?_
 ·simp only[List.mem_cons,Option.some.injEq,List.not_mem_nil,or_false,reduceCtorEq,false_or] at hc
  rcases hc with rfl|rfl
  ·exact⟨0,by show 0<2;decide,rfl⟩
  ·exact⟨1,by show 1<2;decide,rfl⟩
 have e0:b2_ a0.ub [some a0.ub,none,some a1.ub] = [a1.ub]:=by simp[b2_,hne.symm]
 rw[e0] at H2'
 have S5:=St_go S4 m2 H2'
 refine⟨⟨d_,d_⟩,_,c1 S5.2.2.2.2.2,⟨d_,d_⟩,_,c0 S5.2.2.2.2.2,?_⟩
 refine aJ_ (cells:=#[.pointer (some ⟨a0.ub,0,none⟩)]) (e:=aM_) (z:=1) (base:=v2.heap.size) (tJ_ _ _) rfl d_ (Nat.le_refl _) fun v3 ho3 hg3 _=>?_
 have S6:=St_go S5 (Mv.grow hg3) (H2'.grow hg3)
 have hx3:RdX v3 ℓ' 1 ⟨some ⟨v2.heap.size,0,none⟩,1,1⟩ ([some a0.ub].map tH_):=⟨ho3.rd (by show 1≤_;decide),fun _ a ha=>by
  injection ha with ha;subst ha
  exact⟨(ho3.ge v2.heap.size (by simp[Sl.blk])).2,H2'.fresh (Nat.le_refl _)⟩⟩
 refine qJ_ (i:=1) (xs:=[some a0.ub]) S6.2.1 (by show 1<2;decide) rfl hx3 (fun c hc=>⟨0,by show 0<2;decide,by simp at hc;exact hc.symm⟩) (by show 1≤1000;decide) fun v4 m4 H4'=>?_
 have e1:b2_ a1.ub [some a0.ub] = [a0.ub]:=by simp[b2_,hne]
 rw[e1] at H4'
 have S7:=St_go S6 m4 H4'
 obtain⟨m7,H7,_,n7,b71,b72⟩:=S7
 refine⟨_,aD_ (cs:=[.pointer (some ⟨a0.ub,0,none⟩),.pointer (some ⟨a1.ub,0,none⟩)]) lG_ gq_ rfl (ar_ b72),?_⟩
 refine ap_ (cells:=#[.pointer (some ⟨a0.ub,0,none⟩),.pointer (some ⟨a1.ub,0,none⟩)]) b71 gq_ rfl rfl (by simp[Value.oneCell']) fun v5 hb5 hk5 hs5=>?_
 refine⟨_,aD_ (cs:=[.pointer (some ⟨a0.ub,0,none⟩),.pointer (some ⟨a1.ub,0,none⟩)]) lG_ gq_ rfl (ar_ hb5),?_⟩
 exact hR v5 ℓ' a0 a1 (m7.loc hk5 fun b hb q=>o_) (H7.local1 b71 n7 hk5 (eO_ d_ d_ d_) d_)
end
open Go CF
structure Bag (w0 u:World) (p:Sl) (os:L8) (xs:List (Sl×L8)):Prop where
 row:Row w0 u p os
 lit:∀x∈xs,Rd u 1 x.1 (bv x.2)∧∀b,x.1.blk=some b→b<u.heap.size∧p.blk≠some b
section
variable {w0 u u':World} {p s:Sl} {os l:L8} {xs:List (Sl×L8)}
theorem Bag.start (h:Row w0 u p os):Bag w0 u p os []:=⟨h,fun _ q=>by cases q⟩
theorem Bag.go (h:Bag w0 u p os xs) (g:ab_ u u'):Bag w0 u' p os xs:=⟨h.row.go g,fun x hx=>⟨(h.lit x hx).1.grow g,fun b hb=>⟨by have:=((h.lit x hx).2 b hb).1;have:=g.size;omega,((h.lit x hx).2 b hb).2⟩⟩⟩
theorem Bag.put (h:Bag w0 u p os xs) (g:ab_ u u') (hx:Own u' u.heap.size ae_ 1 s (bv l)) (hl:l.length≤140737488355328):Bag w0 u' p os ((s,l)::xs):=by
 refine⟨h.row.go g,fun x q=>?_⟩
 rcases List.mem_cons.1 q with rfl|q
 ·refine⟨hx.rd (by have:=hx.len;rw[ax_] at this;show s.n≤_;omega),fun b hb=>⟨(hx.ge b hb).2,fun e=>?_⟩⟩
  have:=(hx.ge b hb).1
  have:=(h.row.own.ge b e).2
  omega
 ·exact(h.go g).lit x q
theorem Bag.lay (h:Bag w0 u p os xs) {n:Nat} {parts:Array (Nat×Value)} {t:TypeId} (hr:(Instr.buildSlice t n parts).run Tryz.prog u=.ok (.slice (some ⟨u.heap.size,0,none⟩) n n) (u.alloc (.cells (bv l).toArray ae_))) (hn:n=l.length) (hl:l.length≤140737488355328)
  {K:Sl→W_} (hK:∀s u',ab_ u u'→Bag w0 u' p os ((s,l)::xs)→K s u'):an_ Tryz.prog .sl (Instr.buildSlice t n parts) u K:=
 aJ_ (cells:=(bv l).toArray) (e:=ae_) (z:=1) (base:=u.heap.size) hr (by rw[List.size_toArray,ax_];omega) o_ (Nat.le_refl _) fun w1 ho hg _=>hK _ w1 hg (h.put hg (by simpa using ho) hl)
theorem Bag.app (h:Bag w0 u p os xs) (hm:(s,l)∈xs) (hb:os.length+l.length≤140737488355328) {ty:TypeId} {K:Sl→W_} (hK:∀p' u',ac_ (fun k=>some k=p.blk) u u'→Bag w0 u' p' (os++l) xs→K p' u') :
  an_ Tryz.prog .sl (Builtin.append_ #[aB_,aB_] ty #[.slice p.A p.n p.c,.slice s.A s.n s.c]) u K:=by
 have hr:Rd u 1 s (bv l):=(h.lit _ hm).1
 have hn:=h.row.n
 have hsn:s.n=l.length:=by have:=hr.len;rw[ax_] at this;omega
 refine aN_ aE_ a6_ rfl d_ d_ h.row.own hr (by intro x hx;simp only[bv,List.mem_map] at hx;obtain⟨_,_,rfl⟩:=hx;rfl) (by show(p.n+s.n)*1≤_;omega) h.row.grow.size fun p' u' hn' ho hk hblk=>?_
 rw[←bg_] at ho
 refine hK p' u' hk ⟨h.row.step ho hk,fun x q=>?_⟩
 obtain⟨h1,h2⟩:=h.lit x q
 have hsz:=hk.size
 refine⟨h1.keep hk fun a ha _ e=>?_,fun b hb=>⟨by have:=(h2 b hb).1;omega,fun e=>?_⟩⟩
 ·exact(h2 a.block (by unfold Sl.blk;rw[ha];rfl)).2 e.symm
 ·rcases hblk with r|r
  ·rw[r] at e;exact(h2 b hb).2 e
  ·rw[r] at e
   injection e with e
   have:=(h2 b hb).1
   omega
theorem Bag.keep (h:Bag w0 u p os xs) {b:Nat} {cs:A_} {t:TypeId} (hb:Blk u b cs t) (ht:t≠ae_) (k:ac_ (fun k=>some k=p.blk) u u'):Blk u' b cs t:=h.row.blk k hb ht
end
open Go CF
def fv_ (w:World) (base:Nat) (s:Sl) (l:L8):Prop:=
 l.length=s.n∧∃g cur fz,s.A=some ⟨g,0,none⟩∧base≤g∧w.heap[g]?=some (.cells cur ae_ fz)∧s.n≤s.c∧s.c≤maxLen∧cur.size=s.c∧cur.toList.take s.n=bv l∧(fz.2=0∨s.c≤fz.1)
section
variable {w u:World} {base:Nat} {s:Sl} {l:L8}
theorem fv_.rd (h:fv_ w base s l) (hn:s.n≤140737489403904):Rd w 1 s (bv l):=by
 obtain⟨hl,g,cur,fz,hA,hb,hg,hnc,hcm,hcs,ht,_⟩:=h
 refine⟨by rw[ax_];omega,hnc,hn,fun _=>⟨_,hA,fun j v hj=>?_⟩⟩
 rw[←ht,List.getElem?_take] at hj
 split at hj
 ·rw[ao_,Nat.zero_add]
  simp only[World.cell?,hg]
  simpa using hj
 ·cases hj
theorem fv_.grow (h:fv_ w base s l) (k:ab_ w u):fv_ u base s l:=by
 obtain⟨hl,g,cur,fz,hA,hb,hg,rest⟩:=h
 exact⟨hl,g,cur,fz,hA,hb,k.heap hg (fun q=>q),rest⟩
theorem qL_ {src:TypeId} (hs:Tryz.prog.underlying src=some .string) (hl:l.length≤140737488355328) {K:Sl→W_} (h:∀s w',ab_ w w'→fv_ w' w.heap.size s l→K s w'):an_ Tryz.prog .sl (convert src aB_ (.string (CF.str l))) w K:=by
 have hsz:(CF.str l).size=l.length:=nc_ l
 refine⟨⟨some ⟨w.heap.size,0,none⟩,(CF.str l).size,grownCap w (CF.str l).size 0 ae_⟩,_,Go.Lib.run_convert_string_bytes w src aB_ ae_ (CF.str l) hs aE_ hc_,?_⟩
 have hge:=grownCap_ge w (CF.str l).size 0 ae_
 have hcs:(Go.Lib.bytesCells w ae_ (CF.str l)).size=grownCap w (CF.str l).size 0 ae_:=by
  unfold Go.Lib.bytesCells
  rw[Array.size_append,Array.size_map,Array.size_replicate]
  have:(CF.str l).data.size=(CF.str l).size:=rfl
  omega
 refine h _ _ ⟨rfl,rfl,rfl,by rw[Go.Lib.bytesWorld_size];omega,fun k hk _=>Go.Lib.bytesWorld_at_old w ae_ (CF.str l) k hk⟩ ⟨hsz.symm,w.heap.size,_,_,rfl,Nat.le_refl _,Go.Lib.bytesWorld_at_new w ae_ (CF.str l),hge,grownCap_le_maxLen w _ 0 ae_ (by unfold maxLen;omega),hcs,?_,.inr (by rw[hcs];exact Nat.le_refl _)⟩
 show(Go.Lib.bytesCells w ae_ (CF.str l)).toList.take (CF.str l).size=bv l
 unfold Go.Lib.bytesCells
 rw[Array.toList_append,hsz]
 have e1:((CF.str l).data.map fun b=>Value.int .u8 (b.toNat:Int)).toList=bv l:=by rw[Array.toList_map];rfl
 rw[e1]
 exact List.take_left' (ax_ l)
theorem fv_.app1 (h:fv_ w base s l) {b:UInt8} {x:Sl} {ty:TypeId} (hx:Rd w 1 x (bv [b])) (hxo:∀g,x.blk=some g→g<w.heap.size∧s.blk≠some g) (hl:l.length≤140737488355320) (hbase:base≤w.heap.size) {K:Sl→W_}
  (hK:∀s' w',fv_ w' base s' (l++[b])→ac_ (fun k=>some k=s.blk) w w'→K s' w') :
  an_ Tryz.prog .sl (Builtin.append_ #[aB_,aB_] ty #[.slice s.A s.n s.c,.slice x.A x.n x.c]) w K:=by
 obtain⟨hl0,g,cur,fz,hA,hb,hg,hnc,hcm,hcs,ht,hfz⟩:=h
 have hx1:x.n=1:=by have:=hx.len;rw[ax_] at this;simp at this;omega
 obtain⟨a,ha,hac⟩:=hx.at_ (by simp[bv])
 obtain⟨i,hi,hzz⟩:=Option.map_eq_some_iff.1 a6_
 simp only[Prod.mk.injEq] at hzz
 obtain⟨hz,hsz,hby⟩:=hzz
 have h1:∀v∈bv [b],v.oneCell'=true:=by intro v hv;simp[bv] at hv;subst hv;rfl
 rw[hA,ha,hx1]
 by_cases hroom:s.n+1≤s.c
 ·have hf:=run_firstCells_some (P:=Tryz.prog) (w:=w) i.size 1 a 1 x.c (bv [b]) (by rw[hsz];rfl) hac
  have hcell:w.cell? ⟨g,s.n,none⟩=some cur[s.n]:=by simp only[World.cell?,hg];exact Array.getElem?_eq_getElem o_
  have hfro:w.frozen? ⟨g,s.n,none⟩=false:=by
   obtain⟨lo,hi'⟩:=fz
   simp only[World.frozen?,hg,Bool.and_eq_false_iff,decide_eq_false_iff_not]
   rcases hfz with q|q
   ·right;simp only at q;omega
   ·left;simp only at q;omega
  have hst:(storeCells ⟨g,s.n,none⟩ (bv [b]) 0).run Tryz.prog w=.ok () (w.setRow g (cur.setIfInBounds s.n (.int .u8 (b.toNat:Int)))):=by
   have e0:(⟨g,s.n,none⟩:Addr).add 0=⟨g,s.n,none⟩:=oc_ _
   have hs1:(store ((⟨g,s.n,none⟩:Addr).add 0) (.int .u8 (b.toNat:Int))).run Tryz.prog w=.ok () (w.setRow g (cur.setIfInBounds s.n (.int .u8 (b.toNat:Int)))):=by
    rw[e0,run_store Tryz.prog w _ (.int .u8 (b.toNat:Int)) _ rfl,hcell]
    simp[hfro,setCell_eq_setRow w g s.n cur ae_ fz _ hg]
   show(storeCells ⟨g,s.n,none⟩ [.int .u8 (b.toNat:Int)] 0).run Tryz.prog w=_
   simp only[storeCells,Sem.run_bind,hs1,Result.andThen_ok]
   rfl
  have hu:=run_underlying aE_
  refine⟨⟨some ⟨g,0,none⟩,s.n+1,s.c⟩,w.setRow g (cur.setIfInBounds s.n (.int .u8 (b.toNat:Int))),?_,hK _ _ ⟨by rw[List.length_append];show l.length+1=s.n+1;omega,g,_,fz,rfl,hb,setRow_heap w g cur _ ae_ fz hg,hroom,hcm,by rw[Array.size_setIfInBounds];exact hcs,?_,hfz⟩ ?_⟩
  ·show _=Result.ok (Value.slice (some ⟨g,0,none⟩) (s.n+1) s.c) _
   rw[hsz] at hf
   simp[Builtin.append_,hu,sizeOf,typeInfo,hi,hsz,Builtin.lenOf,hroom,hf,Addr.add_lit,hst]
  ·show((cur.setIfInBounds s.n (.int .u8 (b.toNat:Int))).toList.take (s.n+1))=bv (l++[b])
   have hlt:s.n<cur.toList.length:=by rw[Array.length_toList];omega
   rw[bg_,←ht,Array.toList_setIfInBounds,List.take_add_one,List.take_set_of_le (Nat.le_refl _),List.getElem?_set_self hlt]
   rfl
  ·refine⟨rfl,rfl,rfl,by simp[World.setRow],fun k hk hn=>?_⟩
   have hne:k≠g:=fun e=>hn (by rw[Sl.blk,hA,e];rfl)
   have hne':¬g=k:=fun e=>hne e.symm
   simp only[World.setRow,Array.getElem?_modify]
   rw[if_neg hne']
 ·have hr:=run_append_grow (P:=Tryz.prog) (w:=w) aB_ ty ae_ i (.int .u8 0) aE_ hi hz ⟨g,0,none⟩ s.n s.c (bv l) (by rw[ax_,hsz];omega) (fun j v hj=>by
   rw[←ht,List.getElem?_take] at hj
   split at hj
   ·rw[ao_,Nat.zero_add]
    simp only[World.cell?,hg]
    simpa using hj
   ·cases hj) a 1 x.c (bv [b]) (by rw[hsz];rfl) hac o_ o_ (by rw[hby];exact growslice_fits o_ o_)
  have hge:=grownCap_ge w (s.n+1) s.c ae_
  refine⟨⟨some ⟨w.heap.size,0,none⟩,s.n+1,grownCap w (s.n+1) s.c ae_⟩,_,hr,hK _ _ ⟨by rw[List.length_append];show l.length+1=s.n+1;omega,w.heap.size,_,(0,0),rfl,hbase,heap_alloc_new w.drew _,hge,grownCap_le_maxLen w _ _ _ (by unfold maxLen;omega),?_,?_,.inl rfl⟩ ?_⟩
  ·simp only[Array.size_append,List.size_toArray,size_zeroCells,ax_]
   show l.length+1+(grownCap w (s.n+1) s.c ae_-(s.n+1))*1=grownCap w (s.n+1) s.c ae_
   omega
  ·simp only[Array.toList_append,List.append_assoc]
   rw[←List.append_assoc,←bg_]
   exact List.take_left' (by rw[ax_,List.length_append];show l.length+1=s.n+1;omega)
  ·exact⟨rfl,rfl,rfl,by simp,fun k hk _=>hL_ w.drew _ k hk⟩
end
open Go CF
theorem l3_ {P:Program} {g o cap:Nat} {t:TypeId} {fz:Nat×Nat} (hfz:fz.2=0∨cap≤fz.1):∀(vs:List Value) (i:Nat) (cur:A_) (w:World),w.heap[g]?=some (.cells cur t fz)→cur.size=cap→o+i+vs.length≤cap→(∀v∈vs,v.oneCell'=true)→
  (storeCells ⟨g,o,none⟩ vs i).run P w=.ok () (w.setRow g (cur.toList.take (o+i)++vs++cur.toList.drop (o+i+vs.length)).toArray)
 | [],i,cur,w,hg,_,_,_=>by
  simp only[storeCells,List.append_nil,List.length_nil,Nat.add_zero,List.take_append_drop,Array.toArray_toList]
  rw[setRow_self w g cur t fz hg]
  rfl
 | v::r,i,cur,w,hg,hc,hl,h1=>by
  have hlt:o+i<cur.size:=by simp at hl;omega
  have hadd:(⟨g,o,none⟩:Addr).add i=⟨g,o+i,none⟩:=ao_ _ _ _
  have hcell:w.cell? ⟨g,o+i,none⟩=some cur[o+i]:=by simp only[World.cell?,hg];exact Array.getElem?_eq_getElem hlt
  have hfro:w.frozen? ⟨g,o+i,none⟩=false:=by
   obtain⟨lo,hi'⟩:=fz
   simp only[World.frozen?,hg,Bool.and_eq_false_iff,decide_eq_false_iff_not]
   rcases hfz with q|q
   ·right;simp only at q;omega
   ·left;simp only at q;omega
  have hst:(store ((⟨g,o,none⟩:Addr).add i) v).run P w=.ok () (w.setRow g (cur.setIfInBounds (o+i) v)):=by
   rw[hadd,run_store P w _ v _ (h1 v (by simp)),hcell]
   simp[hfro,setCell_eq_setRow w g (o+i) cur t fz v hg]
  have ih:=l3_ (P:=P) (o:=o) hfz r (i+1) (cur.setIfInBounds (o+i) v) (w.setRow g (cur.setIfInBounds (o+i) v)) (setRow_heap w g cur _ t _ hg) (by rw[Array.size_setIfInBounds];exact hc) (by simp at hl ⊢;omega) (fun x hx=>h1 x (by simp[hx]))
  simp only[storeCells,Sem.run_bind,hst,Result.andThen_ok,ih,setRow_setRow]
  congr 3
  have e:=list_seg_step cur.toList (o+i) v r (by simp at hl ⊢;omega)
  simpa [Array.toList_setIfInBounds,Nat.add_assoc] using e
section
variable {w u:World} {base:Nat} {s:Sl} {l:L8}
theorem fv_.ge (h:fv_ w base s l):∀b,s.blk=some b→base≤b∧b<w.heap.size:=fun b hb=>by
 obtain⟨_,g,cur,fz,hA,hbs,hg,_⟩:=h
 unfold Sl.blk at hb
 rw[hA] at hb
 injection hb with hb
 rw[←hb]
 exact⟨hbs,aw_ hg⟩
theorem fv_.n (h:fv_ w base s l):s.n=l.length:=h.1.symm
theorem uF_ (w:World) (g:Nat) (cs:A_):ac_ (fun k=>k=g) w (w.setRow g cs):=⟨rfl,rfl,rfl,by simp[World.setRow],fun k hk hn=>by
 have hne':¬g=k:=fun e=>hn e.symm
 simp only[World.setRow,Array.getElem?_modify]
 rw[if_neg hne']⟩
theorem fv_.appS (h:fv_ w base s l) {l2:L8} {tu ty:TypeId} (hu:Tryz.prog.underlying tu=some .string) (hl:l.length+l2.length≤140737488355320) (hbase:base≤w.heap.size) {K:Sl→W_}
  (hK:∀s' w',fv_ w' base s' (l++l2)→ac_ (fun k=>some k=s.blk) w w'→K s' w') :
  an_ Tryz.prog .sl (Builtin.append_ #[aB_,tu] ty #[.slice s.A s.n s.c,.string (CF.str l2)]) w K:=by
 obtain⟨hl0,g,cur,fz,hA,hb,hg,hnc,hcm,hcs,ht,hfz⟩:=h
 have hsz2:(CF.str l2).size=l2.length:=nc_ l2
 obtain⟨i,hi,hzz⟩:=Option.map_eq_some_iff.1 a6_
 simp only[Prod.mk.injEq] at hzz
 obtain⟨hz,hsz,hby⟩:=hzz
 have h1:∀v∈bv l2,v.oneCell'=true:=cg_ l2
 have hcur:∀j v,(bv l)[j]?=some v→w.cell? ((⟨g,0,none⟩:Addr).add j)=some v:=fun j v hj=>by
  rw[←ht,List.getElem?_take] at hj
  split at hj
  ·rw[ao_,Nat.zero_add]
   simp only[World.cell?,hg]
   simpa using hj
  ·cases hj
 rw[hA]
 have hus:=run_underlying aE_
 have hut:=run_underlying hu
 have hf:=Go.Lib.run_firstCells_string (P:=Tryz.prog) w 1 (CF.str l2)
 rw[pl_] at hf
 by_cases hroom:s.n+(CF.str l2).size≤s.c
 ·have hst:=l3_ (P:=Tryz.prog) (g:=g) (o:=s.n) (t:=ae_) hfz (bv l2) 0 cur w hg hcs (by rw[ax_];omega) h1
  refine⟨⟨some ⟨g,0,none⟩,s.n+(CF.str l2).size,s.c⟩,w.setRow g (cur.toList.take s.n++bv l2++cur.toList.drop (s.n+(bv l2).length)).toArray,?_,hK _ _ ⟨by rw[List.length_append];show l.length+l2.length=s.n+(CF.str l2).size;omega,g,_,fz,rfl,hb,setRow_heap w g cur _ ae_ fz hg,hroom,hcm,?_,?_,hfz⟩ ((uF_ w g _).mono fun k _ q=>by rw[Sl.blk,hA,q];rfl)⟩
  ·show _=Result.ok (Value.slice (some ⟨g,0,none⟩) (s.n+(CF.str l2).size) s.c) _
   simp only[Nat.add_zero] at hst
   simp[Builtin.append_,hus,hut,sizeOf,typeInfo,hi,hsz,Builtin.lenOf,hroom,hf,Addr.add_lit,hst]
  ·simp only[List.size_toArray,List.length_append,List.length_take,List.length_drop,Array.length_toList,ax_];omega
  ·show(cur.toList.take s.n++bv l2++cur.toList.drop (s.n+(bv l2).length)).take (s.n+(CF.str l2).size)=bv (l++l2)
   rw[ht,bg_]
   exact List.take_left' (by rw[List.length_append,ax_,ax_];omega)
 ·obtain⟨o',w',hr,hn',ho,hk,hblk⟩:∃(o':Sl) (w':World),(Builtin.append_ #[aB_,tu] ty #[.slice (some ⟨g,0,none⟩) s.n s.c,.string (CF.str l2)]).run Tryz.prog w=.ok (.slice o'.A o'.n o'.c) w'∧o'.n=s.n+(CF.str l2).size∧fv_ w' base o' (l++l2)∧ab_ w w'∧True:=by
   have hge:=grownCap_ge w (s.n+(CF.str l2).size) s.c ae_
   have hfirst:=run_firstCells_some (P:=Tryz.prog) (w:=w) 1 s.n ⟨g,0,none⟩ s.n s.c (bv l) (by rw[ax_];omega) hcur
   refine⟨⟨some ⟨w.heap.size,0,none⟩,s.n+(CF.str l2).size,grownCap w (s.n+(CF.str l2).size) s.c ae_⟩,w.drew.alloc (.cells ((bv l).toArray++(bv l2).toArray++Builtin.zeroCells #[.int .u8 0] (grownCap w (s.n+(CF.str l2).size) s.c ae_-(s.n+(CF.str l2).size))) ae_),?_,rfl,⟨by rw[List.length_append];show l.length+l2.length=s.n+(CF.str l2).size;omega,w.heap.size,_,(0,0),rfl,hbase,heap_alloc_new w.drew _,hge,grownCap_le_maxLen w _ _ _ (by unfold maxLen;omega),?_,?_,.inl rfl⟩,⟨rfl,rfl,rfl,by simp,fun k hk _=>hL_ w.drew _ k hk⟩,trivial⟩
   ·have hr:=Go.Lib.run_append_grow_string (P:=Tryz.prog) (w:=w) aB_ tu ty ae_ i (.int .u8 0) aE_ hu hi hz ⟨g,0,none⟩ s.n s.c (bv l) (by rw[ax_,hsz];omega) hcur (CF.str l2) o_ o_ (by rw[hby];exact growslice_fits o_ o_)
    rw[pl_] at hr
    exact hr
   ·simp only[Array.size_append,List.size_toArray,size_zeroCells,ax_]
    show l.length+l2.length+(grownCap w (s.n+(CF.str l2).size) s.c ae_-(s.n+(CF.str l2).size))*1=grownCap w (s.n+(CF.str l2).size) s.c ae_
    omega
   ·simp only[Array.toList_append,List.append_assoc]
    rw[←List.append_assoc,←bg_]
    exact List.take_left' (by rw[ax_,List.length_append];show l.length+l2.length=s.n+(CF.str l2).size;omega)
  exact⟨o',w',hr,hK _ _ ho (hk.mono fun _ _ q=>q.elim)⟩
end
open Go CF
def l4_ (l:L8) (n:Nat):L8:=l++List.replicate (n-l.length) 32
def oF_ (i:dw_):L8:=if c7_ i=false then [] else [0,0,6,2,31,if 0<i.prot then 1 else 0,0,2]++l4_ (ls i.v) 8++l4_ (ls i.p) 16++l4_ (ls i.r) 4
def idL (i:dw_):L8:=l4_ (ls i.v) 8++ls i.s
def l5_ (i:dw_) (page:Nat):Option L8:=
 if page=0 then some [0,128,131,176,178] else if page=128 then some (ls i.s) else if page=131 then some ([2,1,0,UInt8.ofNat (idL i).length]++idL i)
 else if page=176 then some (lay (lay (lay ([0,255]++List.replicate 58 0) 4 4 256) 16 4 256) 20 4 8) else if page=178 then some [0,224,2,0] else none
def if_ (i:dw_) (page:Nat):Option L8:=if c7_ i=false then none else(l5_ i page).map fun b=>[0,UInt8.ofNat page,0,UInt8.ofNat b.length]++b
def rs_ (l:L8) (alloc:Int):L8:=l.take (min (max alloc 0) l.length).toNat
def v7_ (l:List Nat):L8:=lay (List.replicate 8 0) 0 4 (8*l.length)++l.flatMap fun n=>[0,UInt8.ofNat n,0,0,0,0,0,0]
section
variable {w u:World}
theorem iB_ (l:L8) (n:Nat):(l4_ l n).length=max l.length n:=by unfold l4_;rw[List.length_append,List.length_replicate];omega
theorem l6_ {s:ByteArray} {n:Nat} {R:Sl→W_} (hs:s.size≤1000000) (hn:n≤1000) (h:∀xs w',ab_ w w'→fv_ w' w.heap.size xs (l4_ (ls s) n)→R xs w'):iu_ s (n:Int) w R:=by
 obtain⟨l,rfl⟩:∃l,s=CF.str l:=⟨ls s,(n9_ s).symm⟩
 refine lR_.calls _ _ _ _ ?_
 have hsl:=cp_ (CF.str l)
 rw[mF_] at hsl h
 refine qL_ eJ_ o_ fun xs w1 hg1 ho1=>?_
 refine⟨fun p v=>∃k,k≤n-l.length∧ab_ w v∧fv_ v w.heap.size p (l++List.replicate k 32),fun p _=>n-p.n,⟨0,Nat.zero_le _,hg1,by simpa using ho1⟩,?_⟩
 rintro p v ⟨k,hk,hgv,ho⟩
 have hpn:=ho.n
 rw[List.length_append,List.length_replicate] at hpn
 by_cases q:p.n<n
 ·refine al_ (by rw[decide_eq_true_eq];omega) ?_
  refine aJ_ (cells:=#[.int .u8 32]) (e:=ae_) (z:=1) (base:=v.heap.size) k_ rfl d_ (Nat.le_refl _) fun v2 ho2 hg2 _=>?_
  have hx:Rd v2 1 ⟨some ⟨v.heap.size,0,none⟩,1,1⟩ (bv [32]):=ho2.rd (by dsimp only;decide)
  refine(ho.grow hg2).app1 (b:=32) hx (fun g e=>⟨(ho2.ge g e).2,fun e2=>by have:=(ho2.ge g e).1;have:=(ho.ge g e2).2;omega⟩) (by rw[List.length_append,List.length_replicate];omega) (hgv.trans hg2).size fun p' v3 ho3 hk3=>?_
  have hn3:=ho3.n
  rw[List.length_append,List.length_append,List.length_replicate] at hn3
  have e1:([32]:L8).length=1:=rfl
  refine⟨⟨k+1,o_,(hgv.trans hg2).keep hk3 fun i hi e=>by have:=(ho.ge i e.symm).1;omega,?_⟩,by dsimp only;omega⟩
  rw[List.replicate_succ',←List.append_assoc]
  exact ho3
 ·refine ai_ (by rw[decide_eq_false_iff_not];omega) (h p v hgv ?_)
  unfold l4_
  have:k=n-l.length:=o_
  rw[←this];exact ho
theorem il_ {b o:Nat} {i:dw_} {v:Value} (h:Blk w b (co_ i).toArray ce_) (e:(co_ i)[o]?=some v):w.cell? ((⟨b,0,none⟩:Addr).add o)=some v:=by
 rw[ao_,h.cell,Nat.zero_add,List.getElem?_toArray];exact e
theorem zy_ {b:Nat} {i:dw_} (h:Blk w b (co_ i).toArray ce_):(loadVar ce_ ⟨b,0,none⟩).run Tryz.prog w=.ok (.agg (co_ i).toArray) w:=aD_ (cs:=co_ i) kz_ iJ_ rfl (ar_ h)
theorem eA_ {i:dw_} (h:c7_ i=true):i.v.size≤8∧i.p.size≤16∧i.r.size≤4∧1≤i.s.size∧i.s.size≤20∧i.prot≤3:=by
 unfold c7_ ie_ at h
 simp only[Bool.and_eq_true,decide_eq_true_eq] at h
 omega
theorem qM_ {i:dw_} (h:c7_ i=true):sG_ i:=by
 obtain⟨h1,h2,h3,_,h4,_⟩:=eA_ h
 exact⟨o_,o_,o_,o_⟩
theorem yP_ {i:dw_} {R:Sl→W_} (hf:c7_ i=true) (h:∀xs w',ab_ w w'→Own w' w.heap.size ae_ 1 xs (bv (oF_ i))→R xs w'):hN_ (co_ i).toArray w R:=by
 obtain⟨z1,z2,z3,z4,z5,z6⟩:=eA_ hf
 refine hV_.calls _ _ _ (ag_ fun ib w1 hib hb1 hg1 hs1=>?_)
 have hb1:Blk w1 ib (co_ i).toArray ce_:=hb1
 refine⟨_,zy_ hb1,mu_ (qM_ hf) fun w2 hg2=>?_⟩
 rw[hf]
 have hb2:Blk w2 ib (co_ i).toArray ce_:=hg2.heap hb1 (fun q=>q)
 refine ai_ rfl ?_
 refine Row.start (l:=[0,0,6,2,31,0,0,2]) k_ rfl d_ fun p3 w3 r3=>?_
 have hb3:Blk w3 ib (co_ i).toArray ce_:=r3.grow.heap hb2 (fun q=>q)
 refine⟨(i.prot:Int),il_ hb3 rfl,?_⟩
 have hgw2:=hg1.trans hg2
 refine bR_ (fun o=>Row w2 o p3 [0,0,6,2,31,if 0<i.prot then 1 else 0,0,2]∧Blk o ib (co_ i).toArray ce_) ?_ (fun J=>?_)
 ·rintro o ⟨ro,bo⟩
  have l1:=cp_ i.v
  have l2:=cp_ i.p
  have l3:=cp_ i.r
  have m1:=iB_ (ls i.v) 8
  have m2:=iB_ (ls i.p) 16
  have m3:=iB_ (ls i.r) 4
  generalize hH:([0,0,6,2,31,if 0<i.prot then 1 else 0,0,2]:L8)=H at *
  have hHl:H.length=8:=by rw[←hH];rfl
  refine⟨i.v,il_ bo rfl,l6_ (n:=8) o_ d_ fun x1 o1 g1 c1=>?_⟩
  have c1n:=c1.n
  refine(ro.go g1).app (c1.rd o_) o_ fun p4 o2 r4 k4=>?_
  have b4:=(ro.go g1).blk k4 (g1.heap bo (fun q=>q)) d_
  refine⟨i.p,il_ b4 rfl,l6_ (n:=16) o_ d_ fun x2 o3 g3 c3=>?_⟩
  have c3n:=c3.n
  refine(r4.go g3).app (c3.rd o_) (by rw[List.length_append];omega) fun p5 o4 r5 k5=>?_
  have b5:=(r4.go g3).blk k5 (g3.heap b4 (fun q=>q)) d_
  refine⟨i.r,il_ b5 rfl,l6_ (n:=4) o_ d_ fun x3 o5 g5 c5=>?_⟩
  have c5n:=c5.n
  refine(r5.go g5).app (c5.rd o_) (by rw[List.length_append,List.length_append];omega) fun p6 o6 r6 k6=>?_
  refine h p6 o6 (hgw2.trans r6.grow) ?_
  unfold oF_
  rw[hf,if_neg Bool.noConfusion,hH]
  exact r6.own.mono hgw2.size
 ·by_cases q:0<i.prot
  ·refine al_ (by rw[decide_eq_true_eq];omega) ?_
   have hn:=r3.n
   have e8:([0,0,6,2,31,0,0,2]:L8).length=8:=rfl
   obtain⟨hA,_⟩:=bS_ (r3.rd d_) (i:=0) d_
   refine⟨⟨d_,o_,hA⟩,bT_ (i:=5) r3.own o_ rfl fun o ho hk _=>J o ⟨?_,r3.blk hk hb3 d_⟩⟩
   rw[if_pos q]
   exact r3.step (os':=[0,0,6,2,31,1,0,2]) ho hk
  ·refine ai_ (by rw[decide_eq_false_iff_not];omega) (J w3 ⟨?_,hb3⟩)
   rw[if_neg q];exact r3
theorem lo_ {p:Sl} {l:L8} {alloc:Int} {R:Sl→W_} (hp:Rd w 1 p (bv l)) (hn:p.n≤1000000) (h:∀xs w',ab_ w w'→Own w' w.heap.size ae_ 1 xs (bv (rs_ l alloc))→R xs w'):ds_ p alloc w R:=by
 refine np_.calls _ _ _ _ ?_
 have hl:=b4_ hp
 have hcap:=hp.cap
 have e:(mn (mx alloc 0) (p.n:Int)).toNat=(min (max alloc 0) l.length).toNat:=by unfold mn mx;split<;>split<;>omega
 have e2:(min (max alloc 0) l.length).toNat≤p.n:=o_
 refine⟨⟨d_,by unfold mn mx;split<;>split<;>omega,by unfold mn mx;split<;>split<;>omega,hcap⟩,?_⟩
 rw[e]
 have hc:=hp.cutB (l:=0) (k:=(min (max alloc 0) l.length).toNat) (Nat.zero_le _) e2
 rw[List.drop_zero,Nat.sub_zero] at hc
 refine aN_ aE_ a6_ rfl d_ d_ (aG_ w w.heap.size _ _) hc (cg_ _) (by show(0+((min (max alloc 0) l.length).toNat-0))*1≤_;omega) (Nat.le_refl _) fun s' w' hn' ho hk _=>h s' w' (hk.mono fun _ _ q=>by cases q) ho
end
open Go CF
section
variable {w u:World}
theorem rt_ {i:dw_} (hf:c7_ i=true):(idL i).length≤28:=by
 obtain⟨z1,z2,z3,z4,z5,z6⟩:=eA_ hf
 have l1:=cp_ i.v
 have l2:=cp_ i.s
 unfold idL
 rw[List.length_append,iB_];omega
theorem yQ_ {i:dw_} {page:Nat} {b:L8} (hf:c7_ i=true) (h:l5_ i page=some b):b.length≤60:=by
 obtain⟨z1,z2,z3,z4,z5,z6⟩:=eA_ hf
 have l2:=cp_ i.s
 have l3:=rt_ hf
 unfold l5_ at h
 split at h
 ·injection h with h;rw[←h];decide
 split at h
 ·injection h with h;rw[←h];omega
 split at h
 ·injection h with h
  rw[←h,List.length_append]
  have e:([2,1,0,UInt8.ofNat (idL i).length]:L8).length=4:=rfl
  omega
 split at h
 ·injection h with h;rw[←h];decide +kernel
 split at h
 ·injection h with h;rw[←h];decide
 ·cases h
theorem xv_ {i:dw_} {page:Nat} {R:Sl→Bool→W_} (hf:c7_ i=true) (hp:page<256) (h:∀xs w',ab_ w w'→Own w' w.heap.size ae_ 1 xs (bv ((if_ i page).getD []))→R xs (if_ i page).isSome w'):lB_ (co_ i).toArray (page:Int) w R:=by
 obtain⟨z1,z2,z3,z4,z5,z6⟩:=eA_ hf
 have l1:=cp_ i.v
 have l2:=cp_ i.s
 have l3:=rt_ hf
 refine lO_.calls _ _ _ _ (ag_ fun ib w1 hib hb1 hg1 hs1=>?_)
 have hb1:Blk w1 ib (co_ i).toArray ce_:=hb1
 refine⟨_,zy_ hb1,mu_ (qM_ hf) fun w2 hg2=>?_⟩
 rw[hf]
 have hb2:Blk w2 ib (co_ i).toArray ce_:=hg2.heap hb1 (fun q=>q)
 have hgw2:=hg1.trans hg2
 have ep:(page:Int)=(((UInt8.ofNat page).toNat:Nat):Int):=by rw[←aV_,wu8 o_ o_]
 have hpx:if_ i page=(l5_ i page).map fun b=>[0,UInt8.ofNat page,0,UInt8.ofNat b.length]++b:=by unfold if_;rw[hf,if_neg Bool.noConfusion]
 rw[hpx] at h
 refine ai_ rfl (aX_ (fun(x:Sl) o=>∃b,l5_ i page=some b∧ab_ w2 o∧Rd o 1 x (bv b)) ?_ (fun J=>?_))
 ·rintro x o ⟨b,hb,go,rx⟩
  have bl:=yQ_ hf hb
  have xl:=b4_ rx
  rw[hb] at h
  have exl:IntKind.wrap .u8 (x.n:Int)=(((UInt8.ofNat b.length).toNat:Nat):Int):=by rw[←xl,aV_]
  rw[exl,ep]
  have hl:(Instr.buildSlice aB_ 4 #[(0,.int .u8 0),(1,.int .u8 (((UInt8.ofNat page).toNat:Nat):Int)),(2,.int .u8 0),(3,.int .u8 (((UInt8.ofNat b.length).toNat:Nat):Int))]).run Tryz.prog o=.ok (.slice (some ⟨o.heap.size,0,none⟩) 4 4) (o.alloc (.cells (bv [0,UInt8.ofNat page,0,UInt8.ofNat b.length]).toArray ae_)):=k_
  refine Row.start hl rfl (by show 4≤_;decide) fun p3 w3 r3=>?_
  refine r3.app (rx.grow r3.grow) (by show 4+b.length≤_;omega) fun p4 w4 r4 k4=>?_
  exact h p4 w4 ((hgw2.trans go).trans r4.grow) (r4.own.mono (hgw2.trans go).size)
 ·have nb:l5_ i page=none→R ⟨none,0,0⟩ false w2:=fun e=>by
   rw[e] at h
   exact h au_ w2 hgw2 (aG_ _ _ _ _)
  unfold l5_ at J nb
  have lit:∀{n:Nat} {parts:Array (Nat×Value)} {l:L8} {v:World} {K:Sl→W_},ab_ w2 v→(Instr.buildSlice aB_ n parts).run Tryz.prog v=.ok (.slice (some ⟨v.heap.size,0,none⟩) n n) (v.alloc (.cells (bv l).toArray ae_))→n=l.length→l.length≤100→(∀x o,ab_ w2 o→Rd o 1 x (bv l)→K x o)→an_ Tryz.prog .sl (Instr.buildSlice aB_ n parts) v K:=fun {n parts l v K} g hr hn hl hK=>
   Row.start hr hn o_ fun x o ro=>hK x o (g.trans ro.grow) (ro.rd o_)
  refine ay_ (fun e=>?_) (fun n0=>ay_ (fun e=>?_) (fun n1=>ay_ (fun e=>?_) (fun n2=>ay_ (fun e=>?_) (fun n3=>ay_ (fun e=>?_) (fun n4=>?_)))))
  ·refine lit (l:=[0,128,131,176,178]) (ac_.refl _ _) k_ rfl d_ fun x o g r=>J x o ⟨_,if_pos o_,g,r⟩
  ·refine⟨i.s,il_ hb2 rfl,?_⟩
   have es:i.s=CF.str (ls i.s):=(n9_ _).symm
   rw[es]
   refine qL_ eJ_ o_ fun x o g c=>J x o ⟨_,by rw[if_neg o_,if_pos o_],g,c.rd (by have:=c.n;omega)⟩
  ·rintro w3 rfl
   have hg3:ab_ w2 w2.drew:=am_ w2
   refine⟨fun o=>Blk o ib (co_ i).toArray ce_,hg3.heap hb2 (fun q=>q),i.v,fun o q=>il_ q rfl,i.s,fun o q=>il_ q rfl,?_⟩
   refine l6_ (n:=8) o_ d_ fun x1 o1 g1 c1=>⟨(hg3.trans g1).heap hb2 (fun q=>q),?_⟩
   have es:i.s=CF.str (ls i.s):=(n9_ _).symm
   rw[es]
   refine c1.appS (l2:=ls i.s) eJ_ (by rw[iB_];omega) g1.size fun x2 o2 c2 k2=>?_
   have g2:ab_ w2 o2:=(hg3.trans g1).keep k2 fun j hj q=>by have:=(c1.ge j q.symm).1;have:=hg3.size;omega
   have c2n:=c2.n
   have c2:fv_ o2 w2.drew.heap.size x2 (idL i):=c2
   have c2n:x2.n=(idL i).length:=c2.n
   rw[show IntKind.wrap .u8 (x2.n:Int)=(((UInt8.ofNat (idL i).length).toNat:Nat):Int) by rw[c2n,aV_]]
   have hl:(Instr.buildSlice aB_ 4 #[(0,.int .u8 2),(1,.int .u8 1),(2,.int .u8 0),(3,.int .u8 (((UInt8.ofNat (idL i).length).toNat:Nat):Int))]).run Tryz.prog o2=.ok (.slice (some ⟨o2.heap.size,0,none⟩) 4 4) (o2.alloc (.cells (bv [2,1,0,UInt8.ofNat (idL i).length]).toArray ae_)):=k_
   refine Row.start hl rfl (by show 4≤_;decide) fun p3 w3 r3=>?_
   refine r3.app ((c2.grow r3.grow).rd o_) (by show 4+(idL i).length≤_;omega) fun p4 w4 r4 k4=>?_
   exact J p4 w4 ⟨_,by rw[if_neg o_,if_neg o_,if_pos o_],g2.trans r4.grow,r4.rd (by rw[List.length_append];show 4+(idL i).length≤_;omega)⟩
  ·refine cy_ (n:=60) aE_ a6_ rfl d_ d_ (base:=w2.heap.size) (Nat.le_refl _) fun w3 ho3 hg3 hs3=>?_
   refine⟨⟨d_,by dsimp only;decide,rfl⟩,bT_ (i:=1) ho3 (by dsimp only;decide) rfl fun w4 ho4 hk4 _=>?_⟩
   have g4:ab_ w2 w4:=hg3.keep hk4 fun j hj q=>by have q:j=w2.heap.size:=by injection q
                                                  omega
   have ho4:Own w4 w2.heap.size ae_ 1 ⟨some ⟨w2.heap.size,0,none⟩,60,60⟩ (bv ([0,255]++List.replicate 58 0)):=ho4
   refine b7_ (at_:=4) (n:=4) (v:=256) (ho4.rd (by dsimp only;decide)) (by dsimp only;decide) d_ d_ d_ d_ fun s5 w5 ho5 g5=>?_
   have n5:=cY_ ho5
   rw[show(lay ([0,255]++List.replicate 58 0) 4 4 256).length=60 by decide +kernel] at n5
   refine b7_ (at_:=16) (n:=4) (v:=256) (ho5.rd o_) o_ d_ d_ (by decide +kernel) d_ fun s6 w6 ho6 g6=>?_
   have n6:=cY_ ho6
   rw[show(lay (lay ([0,255]++List.replicate 58 0) 4 4 256) 16 4 256).length=60 by decide +kernel] at n6
   refine b7_ (at_:=20) (n:=4) (v:=8) (ho6.rd o_) o_ d_ d_ (by decide +kernel) d_ fun s7 w7 ho7 g7=>?_
   have n7:=cY_ ho7
   rw[show(lay (lay (lay ([0,255]++List.replicate 58 0) 4 4 256) 16 4 256) 20 4 8).length=60 by decide +kernel] at n7
   exact J s7 w7 ⟨_,by rw[if_neg o_,if_neg o_,if_neg o_,if_pos o_],((g4.trans g5).trans g6).trans g7,ho7.rd o_⟩
  ·refine lit (l:=[0,224,2,0]) (ac_.refl _ _) k_ rfl d_ fun x o g r=>J x o ⟨_,by rw[if_neg o_,if_neg o_,if_neg o_,if_neg o_,if_pos o_],g,r⟩
  ·exact nb (by rw[if_neg o_,if_neg o_,if_neg o_,if_neg o_,if_neg o_])
theorem p4_ {l:L8} {at_ n:Nat} (v:Nat) (h:at_+n≤l.length):(lay l at_ n v).length=l.length:=by rw[←pV_];exact pU_ v h (Nat.le_refl _)
def tL_ (l:List Nat):List Value:=l.map fun n:Nat=>.int .i64 (n:Int)
theorem xw_ {p:Sl} {l:List Nat} {R:Sl→W_} (hp:Rd w 1 p (tL_ l)) (hl:l.length≤1000) (h:∀xs w',ab_ w w'→Own w' w.heap.size ae_ 1 xs (bv (v7_ l))→R xs w'):lC_ p w R:=by
 refine lP_.calls _ _ _ ?_
 have hln:p.n=l.length:=by have:=hp.len;rw[tL_,List.length_map] at this;omega
 have hrep:∀k,(List.replicate k (Value.int .u8 0))=bv (List.replicate k 0):=fun k=>by simp[bv]
 refine cy_ (n:=8) aE_ a6_ rfl d_ d_ (base:=w.heap.size) (Nat.le_refl _) fun w1 ho1 hg1 hs1=>?_
 rw[hrep] at ho1
 rw[hln,w64 o_ o_,bZ_ o_ o_,show(8*(l.length:Int))=((8*l.length:Nat):Int) by omega]
 have p4:(256:Nat) ^ 4=4294967296:=rfl
 refine b7_ (at_:=0) (n:=4) (v:=8*l.length) (ho1.rd (by dsimp only;decide)) (by dsimp only;decide) d_ d_ d_ (by rw[p4];omega) fun s2 w2 ho2 hg2=>?_
 have hH:(lay (List.replicate 8 0) 0 4 (8*l.length)).length=8:=p4_ _ (by simp)
 have hgw2:=hg1.trans hg2
 have e:∀k,lay (List.replicate 8 0) 0 4 (8*l.length)++((l.take k).flatMap fun n=>[0,UInt8.ofNat n,0,0,0,0,0,0])=lay (List.replicate 8 0) 0 4 (8*l.length)++((l.take k).flatMap fun n=>[0,UInt8.ofNat n,0,0,0,0,0,0]):=fun _=>rfl
 have fl:∀(r:List Nat),(r.flatMap fun n=>([0,UInt8.ofNat n,0,0,0,0,0,0]:L8)).length=8*r.length:=fun r=>by
  induction r with
  | nil=>rfl
  | cons a r ih=>rw[List.flatMap_cons,List.length_append,ih];simp;omega
 have r2:Row w1 w2 s2 (lay (List.replicate 8 0) 0 4 (8*l.length)):=⟨ho2,hg2⟩
 refine⟨fun q x v=>∃k:Nat,x=(k:Int)∧k≤l.length∧Row w1 v q (lay (List.replicate 8 0) 0 4 (8*l.length)++((l.take k).flatMap fun n=>[0,UInt8.ofNat n,0,0,0,0,0,0])),fun _ x _=>l.length-x.toNat,⟨0,rfl,Nat.zero_le _,by simpa using r2⟩,?_⟩
 rintro q x v ⟨k,rfl,hk,rq⟩
 by_cases hkl:k<l.length
 ·refine al_ (by rw[decide_eq_true_eq];omega) ?_
  obtain⟨hA,hc⟩:=ka_ ((hp.grow hg1).grow rq.grow) (i:=k) (by rw[tL_,List.length_map];exact hkl)
  refine⟨⟨o_,o_,hA⟩,(l[k]:Int),by rw[Int.toNat_natCast,hc];simp[tL_],?_⟩
  rw[aV_]
  have hl:(Instr.buildSlice aB_ 8 #[(0,.int .u8 0),(1,.int .u8 (((UInt8.ofNat l[k]).toNat:Nat):Int)),(2,.int .u8 0),(3,.int .u8 0),(4,.int .u8 0),(5,.int .u8 0),(6,.int .u8 0),(7,.int .u8 0)]).run Tryz.prog v=.ok (.slice (some ⟨v.heap.size,0,none⟩) 8 8) (v.alloc (.cells (bv [0,UInt8.ofNat l[k],0,0,0,0,0,0]).toArray ae_)):=k_
  refine rq.lit hl rfl (by rw[List.length_append,hH,fl,List.length_take];show _+8≤_;omega) fun p' u' r' k'=>?_
  rw[w64 o_ o_]
  refine⟨⟨k+1,o_,hkl,?_⟩,by dsimp only;omega⟩
  rw[List.append_assoc] at r'
  rw[List.take_succ_eq_append_getElem hkl,List.flatMap_append]
  simpa using r'
 ·refine ai_ (by rw[decide_eq_false_iff_not];omega) (h q v (hg1.trans rq.grow) ?_)
  have:k=l.length:=o_
  subst this
  have:=rq.own
  rw[List.take_length] at this
  exact this.mono hg1.size
end
open Go CF
structure SnB (s:Sn):Prop where
 key:s.key<256
 code:s.code<65536
 info:s.info<18446744073709551616
def l7_ (s:Sn):Bool:=
 decide (s.key≤15)&&(s.hi||decide (s.info=0)) &&
 (if s.hf=true then decide (0≤s.field)&&decide (s.field≤65535)&&decide (-1≤s.bit)&&decide (s.bit≤7) else decide (s.field=0)&&decide (s.bit=0) && !s.ic)
def ru_ (s:Sn):Nat:=(if s.ic then 192 else 128)+(if 0≤s.bit then 8+s.bit.toNat else 0)
def ja_ (s:Sn):L8:=[UInt8.ofNat (ru_ s),UInt8.ofNat (s.field.toNat/256),UInt8.ofNat s.field.toNat]
def mX_ (s:Sn):L8:=[if s.hi then 240 else 112,0,UInt8.ofNat s.key]++(if s.hi then beN 4 s.info else [0,0,0,0])++[10,0,0,0,0,UInt8.ofNat (s.code/256),UInt8.ofNat s.code,0]++(if s.hf then ja_ s else [0,0,0])
def hH_ (s:Sn):L8×Nat:=if l7_ s=false then([],3) else if s.hi=true∧4294967295<s.info then([],4) else(mX_ s,0)
def hp_ (s:Sn):L8:=(if s.hi then [0,10,128,0]++beN 8 s.info else [])++(if s.hf then [2,6,0,0]++ja_ s++[0] else [])
def sH_ (s:Sn):L8:=[114,UInt8.ofNat s.key,UInt8.ofNat (s.code/256),UInt8.ofNat s.code,0,0,0,UInt8.ofNat (hp_ s).length]++hp_ s
def jV_ (s:Sn):L8×Nat:=if l7_ s=false then([],3) else(sH_ s,0)
section
variable {w u:World} {s:Sn}
theorem bf_ {b o:Nat} {v:Value} (h:Blk w b (snv s).toArray ak_) (e:(snv s)[o]?=some v):w.cell? ((⟨b,0,none⟩:Addr).add o)=some v:=by
 rw[ao_,h.cell,Nat.zero_add,List.getElem?_toArray];exact e
theorem Bx_ {b:Int} {c:Nat} (h0:0≤b) (h7:b≤7) (hc:c=192∨c=128):bOr .u8 (c:Int) (bOr .u8 8 (IntKind.wrap .u8 (bm_ .i64 b 7)))=(((UInt8.ofNat (c+(8+b.toNat))).toNat:Nat):Int):=by
 obtain⟨n,rfl⟩:∃n:Nat,b=(n:Int):=⟨b.toNat,o_⟩
 have hn:n<8:=o_
 have key:∀n:Fin 8,∀c:Fin 2,bOr .u8 (((if c.val=0 then 192 else 128:Nat):Nat):Int) (bOr .u8 8 (IntKind.wrap .u8 (bm_ .i64 ((n.val:Nat):Int) 7)))=(((UInt8.ofNat ((if c.val=0 then 192 else 128:Nat)+(8+n.val))).toNat:Nat):Int):=by decide +kernel
 rcases hc with rfl|rfl
 ·exact key ⟨n,hn⟩ 0
 ·exact key ⟨n,hn⟩ 1
theorem r4_ {R:Sl→W_} (hf:0≤s.field∧s.field≤65535) (hb : -1≤s.bit∧s.bit≤7) (h:∀xs w',ab_ w w'→Own w' w.heap.size ae_ 1 xs (bv (ja_ s))→xs.n=3→R xs w'):ee_ (snv s).toArray w R:=by
 refine kE_.calls _ _ _ (ag_ fun sb w1 hsb hb1 hg1 hs1=>?_)
 have hb1:Blk w1 sb (snv s).toArray ak_:=hb1
 refine⟨s.ic,bf_ hb1 rfl,?_⟩
 refine aX_ (fun(x:Int) o=>o=w1∧x=((if s.ic then 192 else 128:Nat):Int)) ?_ (fun J=>?_)
 ·rintro x o ⟨rfl,rfl⟩
  refine⟨s.bit,bf_ hb1 rfl,?_⟩
  refine aX_ (fun(x:Int) v=>v=o∧x=(((UInt8.ofNat (ru_ s)).toNat:Nat):Int)) ?_ (fun J=>?_)
  ·rintro x v ⟨rfl,rfl⟩
   refine⟨s.field,bf_ hb1 rfl,s.field,bf_ hb1 rfl,?_⟩
   obtain⟨f,hfe⟩:∃f:Nat,s.field=(f:Int):=⟨s.field.toNat,o_⟩
   have e1:bu_ .i64 s.field 8=((f/256:Nat):Int):=by rw[hfe];exact shr .i64 f 8 d_
   rw[e1,hfe,aV_,aV_]
   refine aJ_ (cells:=#[.int .u8 (((UInt8.ofNat (ru_ s)).toNat:Nat):Int),.int .u8 (((UInt8.ofNat (f/256)).toNat:Nat):Int),.int .u8 (((UInt8.ofNat f).toNat:Nat):Int)]) (e:=ae_) (z:=1) (base:=w.heap.size) k_ rfl d_ hg1.size fun w2 ho hg2 _=>?_
   refine h _ w2 (hg1.trans hg2) ?_ rfl
   have:ja_ s = [UInt8.ofNat (ru_ s),UInt8.ofNat (f/256),UInt8.ofNat f]:=by unfold ja_;rw[hfe];rfl
   rw[this];exact ho
  ·by_cases q:0≤s.bit
   ·refine al_ (by rw[decide_eq_true_eq];omega) ⟨s.bit,bf_ hb1 rfl,J _ _ ⟨rfl,?_⟩⟩
    unfold ru_
    rw[if_pos q]
    exact Bx_ q hb.2 (by cases s.ic<;>simp)
   ·refine ai_ (by rw[decide_eq_false_iff_not];omega) (J _ _ ⟨rfl,?_⟩)
    unfold ru_
    rw[if_neg q]
    cases s.ic<;>rfl
 ·cases hi:s.ic with
  | true=>exact al_ rfl (J _ _ ⟨rfl,by rw[hi];decide⟩)
  | false=>exact ai_ rfl (J _ _ ⟨rfl,by rw[hi];rfl⟩)
theorem qN_ {R:Bool→W_} (h:∀w',ab_ w w'→R (l7_ s) w'):jw_ (snv s).toArray w R:=by
 refine jD_.calls _ _ _ (ag_ fun sb w1 hsb hb1 hg1 hs1=>?_)
 have hb1:Blk w1 sb (snv s).toArray ak_:=hb1
 have h:=h w1 hg1
 unfold l7_ at h
 refine bR_ (fun o=>o=w1∧s.key≤15∧(s.hi=true∨s.info=0)∧s.hf=true) ?_ (fun J=>?_)
 ·rintro o ⟨rfl,hk,hi,hf⟩
  refine⟨s.field,bf_ hb1 rfl,s.field,fun _=>bf_ hb1 rfl,s.bit,fun _=>bf_ hb1 rfl,s.bit,fun _=>bf_ hb1 rfl,?_⟩
  have e:(decide (s.key≤15)&&(s.hi||decide (s.info=0)))=true:=by
   rw[Bool.and_eq_true,Bool.or_eq_true,decide_eq_true_eq,decide_eq_true_eq];exact⟨hk,hi⟩
  rw[e,if_pos hf,Bool.true_and] at h
  exact h
 ·refine⟨(s.key:Int),bf_ hb1 rfl,?_⟩
  refine aX_ (fun(x:Bool) o=>o=w1∧x = !(decide (s.key≤15)&&(s.hi||decide (s.info=0)))) ?_ (fun J1=>?_)
  ·rintro x o ⟨rfl,rfl⟩
   cases hg:(decide (s.key≤15)&&(s.hi||decide (s.info=0))) with
   | false=>rw[hg,Bool.false_and] at h;exact al_ rfl h
   | true=>
    rw[hg,Bool.true_and] at h
    refine ai_ rfl ⟨s.hf,bf_ hb1 rfl,?_⟩
    cases hf:s.hf with
    | true=>
     rw[Bool.and_eq_true,Bool.or_eq_true,decide_eq_true_eq,decide_eq_true_eq] at hg
     exact ai_ rfl (J _ ⟨rfl,hg.1,hg.2,hf⟩)
    | false=>
     rw[hf,if_neg Bool.noConfusion] at h
     refine al_ rfl ⟨s.field,bf_ hb1 rfl,s.bit,fun _=>bf_ hb1 rfl,s.ic,fun _=>bf_ hb1 rfl,?_⟩
     have e1:(s.field==0)=decide (s.field=0):=by rw[Bool.eq_iff_iff,beq_iff_eq,decide_eq_true_eq]
     have e2:(s.bit==0)=decide (s.bit=0):=by rw[Bool.eq_iff_iff,beq_iff_eq,decide_eq_true_eq]
     rw[e1,e2]
     exact h
  ·by_cases hk:s.key≤15
   ·refine ai_ (by rw[decide_eq_false_iff_not];omega) ⟨s.hi,bf_ hb1 rfl,(s.info:Int),fun _=>bf_ hb1 rfl,J1 _ _ ⟨rfl,?_⟩⟩
    rw[decide_eq_true hk,Bool.true_and]
    have e1:((s.info:Int) != 0) = !decide (s.info=0):=by
     rw[Bool.eq_iff_iff,bne_iff_ne,Bool.not_eq_true',decide_eq_false_iff_not];omega
    rw[e1,Bool.not_or]
   ·refine al_ (by rw[decide_eq_true_eq];omega) (J1 _ _ ⟨rfl,?_⟩)
    have e:decide ((s.key:Int)>15)=true:=by rw[decide_eq_true_eq];omega
    rw[e,decide_eq_false hk];rfl
end
open Go CF
section
variable {w u:World} {s:Sn}
theorem r5_ (h:l7_ s=true):s.key≤15∧(s.hf=true→(0≤s.field∧s.field≤65535)∧-1≤s.bit∧s.bit≤7):=by
 unfold l7_ at h
 rw[Bool.and_eq_true,Bool.and_eq_true,decide_eq_true_eq] at h
 refine⟨h.1.1,fun q=>?_⟩
 have h2:=h.2
 rw[if_pos q] at h2
 simp only[Bool.and_eq_true,decide_eq_true_eq] at h2
 omega
theorem sS {b:Nat} (h:Blk w b (snv s).toArray ak_):(loadVar ak_ ⟨b,0,none⟩).run Tryz.prog w=.ok (.agg (snv s).toArray) w:=dM_ (ar_ h)
theorem v8_ {R:Sl→Int→W_} (hb:SnB s) (h:∀xs w',ab_ w w'→Own w' w.heap.size ae_ 1 xs (bv (hH_ s).1)→R xs ((hH_ s).2:Int) w'):gR_ (snv s).toArray w R:=by
 refine iM_.calls _ _ _ (ag_ fun sb w1 hsb hb1 hg1 hs1=>?_)
 have hb1:Blk w1 sb (snv s).toArray ak_:=hb1
 refine⟨_,sS hb1,qN_ fun w2 hg2=>?_⟩
 have hgw2:=hg1.trans hg2
 have hb2:Blk w2 sb (snv s).toArray ak_:=hg2.heap hb1 (fun q=>q)
 unfold hH_ at h
 cases hf:l7_ s with
 | false=>
  rw[hf,if_pos rfl] at h
  exact al_ rfl (h au_ w2 hgw2 (aG_ _ _ _ _))
 | true=>
 rw[hf,if_neg Bool.noConfusion] at h
 obtain⟨hk15,hfb⟩:=r5_ hf
 refine ai_ rfl ⟨s.hi,bf_ hb2 rfl,(s.info:Int),fun _=>bf_ hb2 rfl,?_⟩
 by_cases hbig:s.hi=true∧4294967295<s.info
 ·rw[if_pos hbig] at h
  refine al_ (by rw[hbig.1,Bool.true_and,decide_eq_true_eq];omega) (h au_ w2 hgw2 (aG_ _ _ _ _))
 rw[if_neg hbig] at h
 refine ai_ (by cases hh:s.hi with|false=>rfl|true=>rw[Bool.true_and,decide_eq_false_iff_not];intro q;exact hbig ⟨hh,o_⟩) ?_
 refine cy_ (n:=18) aE_ a6_ rfl d_ d_ (base:=w.heap.size) hgw2.size fun w3 ho3 hg3 hs3=>?_
 rintro w4 rfl
 have hg4:ab_ w2 w3.drew:=hg3.trans (am_ w3)
 have hb4:Blk w3.drew sb (snv s).toArray ak_:=hg4.heap hb2 (fun q=>q)
 have ho4:=ho3.grow (am_ w3)
 have hgw4:=hgw2.trans hg4
 generalize w3.drew=w4 at *
 have nsb:∀{v:World} {k:Nat},some k=(⟨some ⟨w2.heap.size,0,none⟩,18,18⟩:Sl).blk→k≠sb:=fun {v k} e q=>by
  have e:k=w2.heap.size:=by injection e
  have:=aw_ hb2
  omega
 have e1:IntKind.wrap .u8 (bu_ .u16 (s.code:Int) 8)=(((UInt8.ofNat (s.code/256)).toNat:Nat):Int):=by rw[show bu_ .u16 (s.code:Int) 8=((s.code/256:Nat):Int) from shr .u16 s.code 8 d_,aV_]
 have e2:((s.key:Int))=(((UInt8.ofNat s.key).toNat:Nat):Int):=by rw[←aV_,wu8 o_ (by have:=hb.key;omega)]
 refine⟨fun o=>Blk o sb (snv s).toArray ak_,hb4,(s.key:Int),fun o q=>bf_ q rfl,(s.code:Int),fun o q=>bf_ q rfl,(s.code:Int),fun o q=>bf_ q rfl,⟨d_,by dsimp only;decide,rfl⟩,?_⟩
 rw[e1,aV_,e2]
 have st:∀{v v':World},Blk v sb (snv s).toArray ak_→ac_ (fun k=>some k=(⟨some ⟨w2.heap.size,0,none⟩,18,18⟩:Sl).blk) v v'→Blk v' sb (snv s).toArray ak_:=fun {v v'} q k=>k.heap q fun e=>nsb (v:=v) e rfl
 refine bT_ (i:=0) ho4 (by dsimp only;decide) rfl fun w5 ho5 hk5 _=>⟨st hb4 hk5,⟨d_,by dsimp only;decide,rfl⟩,?_⟩
 refine bT_ (i:=2) ho5 (by dsimp only;decide) rfl fun w6 ho6 hk6 _=>⟨st (st hb4 hk5) hk6,⟨d_,by dsimp only;decide,rfl⟩,?_⟩
 refine bT_ (i:=7) ho6 (by dsimp only;decide) rfl fun w7 ho7 hk7 _=>⟨st (st (st hb4 hk5) hk6) hk7,⟨d_,by dsimp only;decide,rfl⟩,?_⟩
 refine bT_ (i:=12) ho7 (by dsimp only;decide) rfl fun w8 ho8 hk8 _=>⟨st (st (st (st hb4 hk5) hk6) hk7) hk8,⟨d_,by dsimp only;decide,rfl⟩,?_⟩
 refine bT_ (i:=13) ho8 (by dsimp only;decide) rfl fun w9 ho9 hk9 _=>?_
 have hb9:=st (st (st (st (st hb4 hk5) hk6) hk7) hk8) hk9
 have hgw9:ab_ w w9:=by
  have k:=(((hk5.trans hk6 fun _ _ q=>q).trans hk7 fun _ _ q=>q).trans hk8 fun _ _ q=>q).trans hk9 fun _ _ q=>q
  exact hgw4.keep k fun i hi e=>by
   have e:i=w2.heap.size:=by injection e
   have:=hgw2.size
   omega
 have ho9:Own w9 w.heap.size ae_ 1 ⟨some ⟨w2.heap.size,0,none⟩,18,18⟩ (bv [112,0,UInt8.ofNat s.key,0,0,0,0,10,0,0,0,0,UInt8.ofNat (s.code/256),UInt8.ofNat s.code,0,0,0,0]):=ho9
 refine⟨s.hi,bf_ hb9 rfl,?_⟩
 refine aX_ (fun(p:Sl) o=>ab_ w o∧Blk o sb (snv s).toArray ak_∧p.n=18∧p.A.isSome=true∧Own o w.heap.size ae_ 1 p (bv ([if s.hi then 240 else 112,0,UInt8.ofNat s.key]++(if s.hi then beN 4 s.info else [0,0,0,0])++[10,0,0,0,0,UInt8.ofNat (s.code/256),UInt8.ofNat s.code,0,0,0,0]))) ?_ (fun J=>?_)
 ·rintro p o ⟨hgo,hbo,hpn,hpA,hoo⟩
  refine⟨s.hf,bf_ hbo rfl,?_⟩
  cases hh:s.hf with
  | false=>
   refine ai_ rfl ?_
   refine h p o hgo ?_
   unfold mX_
   rw[hh,if_neg (show ¬false=true from Bool.noConfusion),List.append_assoc]
   exact hoo
  | true=>
   refine al_ rfl ?_
   rintro o2 rfl
   have hbo2:Blk o.drew sb (snv s).toArray ak_:=(am_ o).heap hbo (fun q=>q)
   have hoo2:=hoo.grow (am_ o)
   have hgo2:=hgo.trans (am_ o)
   generalize o.drew=o at *
   have hcap:=(hoo2.rd o_).cap
   refine⟨fun o=>Blk o sb (snv s).toArray ak_,hbo2,⟨d_,o_,o_,hcap⟩,_,fun u q=>sS q,?_⟩
   refine r4_ (hfb hh).1 (hfb hh).2 fun xs o3 hg3 hx3 hxn=>?_
   have hx3r:=hx3.rd o_
   have hoo3:=hoo2.grow hg3
   rw[Int.toNat_natCast]
   refine rJ_ (o:=15) aE_ a6_ hoo3 hx3r (cg_ _) o_ fun o4 ho4' hk4 _=>?_
   refine h p o4 ?_ ?_
   ·exact(hgo2.trans hg3).keep hk4 fun i hi e=>by have:=(hoo3.ge i e.symm).1;omega
   ·have:(mX_ s)=([if s.hi then 240 else 112,0,UInt8.ofNat s.key]++(if s.hi then beN 4 s.info else [0,0,0,0])++[10,0,0,0,0,UInt8.ofNat (s.code/256),UInt8.ofNat s.code,0,0,0,0]).take 15++ja_ s++([if s.hi then 240 else 112,0,UInt8.ofNat s.key]++(if s.hi then beN 4 s.info else [0,0,0,0])++[10,0,0,0,0,UInt8.ofNat (s.code/256),UInt8.ofNat s.code,0,0,0,0]).drop (15+xs.n):=by
     rw[hxn]
     unfold mX_
     rw[hh,if_pos rfl]
     cases s.hi<;>rfl
    rw[this,bg_,bg_,←jj_,←rg_]
    exact ho4'
 ·cases hh:s.hi with
  | false=>exact ai_ rfl (J _ _ ⟨hgw9,hb9,rfl,rfl,by rw[hh];exact ho9⟩)
  | true=>
   have c0:w9.cell? ((gA (some (⟨w2.heap.size,0,none⟩:Addr))).add ((0:Int).toNat*1))=some (.int .u8 112):=(bS_ (ho9.rd (by dsimp only;decide)) (i:=0) (by show 0<18;decide)).2
   refine al_ rfl ⟨⟨d_,by dsimp only;decide,rfl⟩,112,c0,⟨d_,by dsimp only;decide,rfl⟩,?_⟩
   refine bT_ (i:=0) ho9 (by dsimp only;decide) rfl fun w10 ho10 hk10 _=>?_
   have hb10:=st hb9 hk10
   have hgw10:ab_ w w10:=hgw9.keep hk10 fun i hi e=>by
    have e:i=w2.heap.size:=by injection e
    have:=hgw2.size
    omega
   have ho10:Own w10 w.heap.size ae_ 1 ⟨some ⟨w2.heap.size,0,none⟩,18,18⟩ (bv [240,0,UInt8.ofNat s.key,0,0,0,0,10,0,0,0,0,UInt8.ofNat (s.code/256),UInt8.ofNat s.code,0,0,0,0]):=ho10
   have p4:(256:Nat) ^ 4=4294967296:=rfl
   refine⟨(s.info:Int),bf_ hb10 rfl,?_⟩
   refine b7_ (at_:=3) (n:=4) (v:=s.info) (ho10.rd (by dsimp only;decide)) (by dsimp only;decide) d_ d_ (by show 7≤18;decide) (by rw[p4];have:¬4294967295<s.info:=fun q=>hbig ⟨hh,q⟩;omega) fun s3 w11 ho11 hg11=>?_
   have hl:(lay [240,0,UInt8.ofNat s.key,0,0,0,0,10,0,0,0,0,UInt8.ofNat (s.code/256),UInt8.ofNat s.code,0,0,0,0] 3 4 s.info) = [240,0,UInt8.ofNat s.key]++beN 4 s.info++[10,0,0,0,0,UInt8.ofNat (s.code/256),UInt8.ofNat s.code,0,0,0,0]:=rfl
   rw[hl] at ho11
   have hn:s3.n=18:=by
    have:=ho11.len
    rw[ax_,List.length_append,List.length_append,bx_] at this
    simp at this;omega
   refine J _ _ ⟨hgw10.trans hg11,hg11.heap hb10 (fun q=>q),hn,?_,by rw[hh];exact ho11.mono hgw10.size⟩
   obtain⟨hA,_⟩:=bS_ (ho11.rd o_) (i:=0) (by rw[List.length_append,List.length_append,bx_];simp)
   exact hA
end
open Go CF
section
variable {w u:World} {s:Sn}
theorem nP_ (s:Sn):(ja_ s).length=3:=rfl
theorem xx_ (s:Sn):(hp_ s).length≤20:=by
 unfold hp_
 rw[List.length_append]
 have h1:(if s.hi=true then([0,10,128,0]:L8)++beN 8 s.info else []).length≤12:=by
  split
  ·rw[List.length_append,bx_];decide
  ·decide
 have h2:(if s.hf=true then([2,6,0,0]:L8)++ja_ s++[0] else []).length≤8:=by
  split
  ·rw[List.length_append,List.length_append,nP_];decide
  ·decide
 omega
theorem xy_ {R:Sl→Int→W_} (hb:SnB s) (h:∀xs w',ab_ w w'→Own w' w.heap.size ae_ 1 xs (bv (jV_ s).1)→R xs ((jV_ s).2:Int) w'):dT_ (snv s).toArray w R:=by
 refine fO_.calls _ _ _ (ag_ fun sb w1 hsb hb1 hg1 hs1=>?_)
 have hb1:Blk w1 sb (snv s).toArray ak_:=hb1
 refine⟨_,sS hb1,qN_ fun w2 hg2=>?_⟩
 have hgw2:=hg1.trans hg2
 have hb2:Blk w2 sb (snv s).toArray ak_:=hg2.heap hb1 (fun q=>q)
 unfold jV_ at h
 cases hf:l7_ s with
 | false=>
  rw[hf,if_pos rfl] at h
  exact al_ rfl (h au_ w2 hgw2 (aG_ _ _ _ _))
 | true=>
 rw[hf,if_neg Bool.noConfusion] at h
 obtain⟨hk15,hfb⟩:=r5_ hf
 have e1:IntKind.wrap .u8 (bu_ .u16 (s.code:Int) 8)=(((UInt8.ofNat (s.code/256)).toNat:Nat):Int):=by rw[show bu_ .u16 (s.code:Int) 8=((s.code/256:Nat):Int) from shr .u16 s.code 8 d_,aV_]
 have e2:((s.key:Int))=(((UInt8.ofNat s.key).toNat:Nat):Int):=by rw[←aV_,wu8 o_ (by have:=hb.key;omega)]
 refine ai_ rfl ⟨(s.key:Int),bf_ hb2 rfl,(s.code:Int),bf_ hb2 rfl,(s.code:Int),bf_ hb2 rfl,?_⟩
 rw[e1,aV_,e2]
 refine Row.start (l:=[114,UInt8.ofNat s.key,UInt8.ofNat (s.code/256),UInt8.ofNat s.code,0,0,0,0]) k_ rfl (by show 8≤_;decide) fun p3 w3 hr3=>?_
 have hb3:Blk w3 sb (snv s).toArray ak_:=hr3.grow.heap hb2 (fun q=>q)
 refine⟨s.hi,bf_ hb3 rfl,?_⟩
 generalize hH:([114,UInt8.ofNat s.key,UInt8.ofNat (s.code/256),UInt8.ofNat s.code,0,0,0,0]:L8)=H at *
 have hHl:H.length=8:=by rw[←hH];rfl
 have dl:=xx_ s
 refine aX_ (fun(p:Sl) o=>Bag w2 o p (H++if s.hi then [0,10,128,0]++beN 8 s.info else []) []∧Blk o sb (snv s).toArray ak_) ?_ (fun J=>?_)
 ·rintro p o ⟨hB,hbo⟩
  refine⟨s.hf,bf_ hbo rfl,?_⟩
  refine aX_ (fun(p:Sl) o=>Row w2 o p (H++hp_ s)∧Blk o sb (snv s).toArray ak_) ?_ (fun J=>?_)
  ·rintro p1 o1 ⟨hR,hbo1⟩
   have hn:=hR.n
   rw[List.length_append] at hn
   obtain⟨hA,_⟩:=bS_ (hR.rd (by rw[List.length_append];omega)) (i:=0) (by rw[List.length_append];omega)
   refine⟨⟨d_,o_,hA⟩,?_⟩
   rw[w64 (n:=((p1.n:Int)-8)) o_ o_,show((p1.n:Int)-8)=((hp_ s).length:Int) by omega,aV_]
   refine bT_ (i:=7) hR.own o_ rfl fun o2 ho2 hk2 _=>?_
   refine h p1 o2 ((hgw2.trans hR.grow).keep hk2 fun i hi e=>by have:=(hR.own.ge i e.symm).1;have:=hgw2.size;omega) ?_
   rw[qq_] at ho2
   have:(H++hp_ s).set 7 (UInt8.ofNat (hp_ s).length)=sH_ s:=by
    rw[←hH];rfl
   rw[this] at ho2
   exact ho2.mono hgw2.size
  ·have hl0:(H++if s.hi=true then([0,10,128,0]:L8)++beN 8 s.info else []).length≤20:=by
    rw[List.length_append]
    have h1:(if s.hi=true then([0,10,128,0]:L8)++beN 8 s.info else []).length≤12:=by
     split
     ·rw[List.length_append,bx_];decide
     ·decide
    omega
   cases hh:s.hf with
   | false=>
    refine ai_ rfl (J p o ⟨?_,hbo⟩)
    have:H++hp_ s=(H++if s.hi=true then([0,10,128,0]:L8)++beN 8 s.info else []):=by unfold hp_;rw[hh,if_neg (show ¬false=true from Bool.noConfusion),List.append_nil]
    rw[this];exact hB.row
   | true=>
    obtain⟨kf,kb⟩:=hfb hh
    refine al_ rfl ?_
    rintro o1 rfl
    have hB1:=hB.go (am_ o)
    have hbo1:Blk o.drew sb (snv s).toArray ak_:=(am_ o).heap hbo (fun q=>q)
    generalize o.drew=o1 at *
    have hF:H++hp_ s=(H++if s.hi=true then([0,10,128,0]:L8)++beN 8 s.info else [])++[2,6,0,0]++ja_ s++[0]:=by
     unfold hp_;rw[hh,if_pos rfl];simp only[List.append_assoc]
    generalize (H++if s.hi=true then([0,10,128,0]:L8)++beN 8 s.info else [])=os at *
    have ks:∀{v v':World} {p:Sl} {os:L8} {xs:List (Sl×L8)},Bag w2 v p os xs→Blk v sb (snv s).toArray ak_→ac_ (fun k=>some k=p.blk) v v'→Blk v' sb (snv s).toArray ak_:=fun hB hb k=>hB.keep hb d_ k
    have gs:∀{v v':World},Blk v sb (snv s).toArray ak_→ab_ v v'→Blk v' sb (snv s).toArray ak_:=fun hb g=>g.heap hb (fun q=>q)
    have a4:∀{v:World} {p:Sl} {ps:L8} {xs:List (Sl×L8)} {K:Sl→W_},Bag w2 v p ps xs→Blk v sb (snv s).toArray ak_→(∀x v',Bag w2 v' p ps ((x,[2,6,0,0])::xs)→Blk v' sb (snv s).toArray ak_→K x v')→an_ Tryz.prog .sl (Instr.buildSlice aB_ 4 #[(0,.int .u8 2),(1,.int .u8 6),(2,.int .u8 0),(3,.int .u8 0)]) v K:=
     fun hB hb hK=>hB.lay k_ rfl (by show 4≤_;decide) fun x v' g hB'=>hK x v' hB' (gs hb g)
    have a1:∀{v:World} {p:Sl} {ps:L8} {xs:List (Sl×L8)} {K:Sl→W_},Bag w2 v p ps xs→Blk v sb (snv s).toArray ak_→(∀x v',Bag w2 v' p ps ((x,[0])::xs)→Blk v' sb (snv s).toArray ak_→K x v')→an_ Tryz.prog .sl (Instr.buildSlice aB_ 1 #[(0,.int .u8 0)]) v K:=
     fun hB hb hK=>hB.lay k_ rfl (by show 1≤_;decide) fun x v' g hB'=>hK x v' hB' (gs hb g)
    have ak:∀{v:World} {p:Sl} {ps:L8} {xs:List (Sl×L8)} {K:Sl→W_},Bag w2 v p ps xs→Blk v sb (snv s).toArray ak_→(∀x v',Bag w2 v' p ps ((x,ja_ s)::xs)→Blk v' sb (snv s).toArray ak_→K x v')→ee_ (snv s).toArray v K:=
     fun hB hb hK=>r4_ kf kb fun x v' g ho _=>hK x v' (hB.put g ho (by rw[nP_];decide)) (gs hb g)
    have ap:∀{v:World} {p x:Sl} {ps l:L8} {xs:List (Sl×L8)} {ty:TypeId} {K:Sl→W_},Bag w2 v p ps xs→Blk v sb (snv s).toArray ak_→(x,l)∈xs→ps.length+l.length≤100→(∀p' v',Bag w2 v' p' (ps++l) xs→Blk v' sb (snv s).toArray ak_→K p' v')→an_ Tryz.prog .sl (Builtin.append_ #[aB_,aB_] ty #[.slice p.A p.n p.c,.slice x.A x.n x.c]) v K:=
     fun hB hb hm hl hK=>hB.app hm o_ fun p' v' k hB'=>hK p' v' hB' (ks hB hb k)
    have l4:∀{l:L8},l.length≤20→(l++[2,6,0,0]).length≤24:=fun q=>by rw[List.length_append];show _+4≤24;omega
    have l7:∀{l:L8},l.length≤20→(l++[2,6,0,0]++ja_ s).length≤27:=fun q=>by rw[List.length_append,nP_];have:=l4 q;omega
    have fin:∀{v:World} {p:Sl} {xs:List (Sl×L8)},Bag w2 v p (os++[2,6,0,0]++ja_ s++[0]) xs→Blk v sb (snv s).toArray ak_→_:=fun {v p xs} hB hb=>J p v ⟨by rw[hF];exact hB.row,hb⟩
    have z4:([2,6,0,0]:L8).length=4:=rfl
    have z1:([0]:L8).length=1:=rfl
    have z3:=nP_ s
    refine⟨fun o=>Blk o sb (snv s).toArray ak_,hbo1,_,fun u q=>sS q,?_,?_⟩
    ·refine a4 hB1 hbo1 fun x1 v1 B1 b1=>⟨b1,?_,?_⟩
     ·refine ap B1 b1 (.head _) o_ fun p2 v2 B2 b2=>⟨b2,?_,?_⟩
      ·refine ak B2 b2 fun x3 v3 B3 b3=>⟨?_,?_⟩
       ·refine ap B3 b3 (.head _) (by have:=l4 hl0;omega) fun p4 v4 B4 b4=>a1 B4 b4 fun x5 v5 B5 b5=>⟨b5,ap B5 b5 (.head _) (by have:=l7 hl0;omega) fun p6 v6 B6 b6=>fin B6 b6⟩
       ·refine a1 B3 b3 fun x4 v4 B4 b4=>⟨b4,ap B4 b4 (.tail _ (.head _)) (by have:=l4 hl0;omega) fun p5 v5 B5 b5=>ap B5 b5 (.head _) (by have:=l7 hl0;omega) fun p6 v6 B6 b6=>fin B6 b6⟩
      ·refine a1 B2 b2 fun x3 v3 B3 b3=>⟨b3,ak B3 b3 fun x4 v4 B4 b4=>ap B4 b4 (.head _) (by have:=l4 hl0;omega) fun p5 v5 B5 b5=>ap B5 b5 (.tail _ (.head _)) (by have:=l7 hl0;omega) fun p6 v6 B6 b6=>fin B6 b6⟩
     ·refine a1 B1 b1 fun x2 v2 B2 b2=>⟨b2,ap B2 b2 (.tail _ (.head _)) o_ fun p3 v3 B3 b3=>⟨b3,ak B3 b3 fun x4 v4 B4 b4=>ap B4 b4 (.head _) (by have:=l4 hl0;omega) fun p5 v5 B5 b5=>ap B5 b5 (.tail _ (.head _)) (by have:=l7 hl0;omega) fun p6 v6 B6 b6=>fin B6 b6⟩⟩
    ·refine a1 hB1 hbo1 fun x1 v1 B1 b1=>⟨b1,a4 B1 b1 fun x2 v2 B2 b2=>⟨b2,ap B2 b2 (.head _) o_ fun p3 v3 B3 b3=>⟨b3,ak B3 b3 fun x4 v4 B4 b4=>ap B4 b4 (.head _) (by have:=l4 hl0;omega) fun p5 v5 B5 b5=>ap B5 b5 (.tail _ (.tail _ (.head _))) (by have:=l7 hl0;omega) fun p6 v6 B6 b6=>fin B6 b6⟩⟩⟩
 ·cases hh:s.hi with
  | false=>exact ai_ rfl (J _ _ ⟨by rw[hh];show Bag w2 w3 p3 (H++[]) [];rw[List.append_nil];exact Bag.start hr3,hb3⟩)
  | true=>
   refine al_ rfl ?_
   refine(Bag.start hr3).lay (l:=[0,10,128,0,0,0,0,0,0,0,0,0]) k_ rfl (by show 12≤_;decide) fun x4 w4 g4 B4=>?_
   have hb4:Blk w4 sb (snv s).toArray ak_:=g4.heap hb3 (fun q=>q)
   have p8:(256:Nat) ^ 8=18446744073709551616:=rfl
   have hx4:=(B4.lit _ (.head _)).1
   have hxn:x4.n=12:=by have:=hx4.len;rw[ax_] at this;simp at this;omega
   refine⟨(s.info:Int),bf_ hb4 rfl,b7_ (at_:=4) (n:=8) (v:=s.info) hx4 (by show x4.n≤_;omega) d_ d_ (by show 12≤12;decide) (by rw[p8];exact hb.info) fun x5 w5 ho5 g5=>?_⟩
   have hl:lay [0,10,128,0,0,0,0,0,0,0,0,0] 4 8 s.info = [0,10,128,0]++beN 8 s.info:=rfl
   rw[hl] at ho5
   have B5:=B4.put g5 ho5 (by rw[List.length_append,bx_];decide)
   refine B5.app (.head _) (by rw[List.length_append,bx_];have e:([0,10,128,0]:L8).length=4:=rfl;omega) fun p6 w6 k6 B6=>J _ _ ⟨?_,B5.keep (g5.heap hb4 (fun q=>q)) d_ k6⟩
   rw[hh]
   exact Bag.start B6.row
end
open Go CF
def gF_ (v:a4_):L8:=[8,18,if v.wce then 4 else 0]++List.replicate 17 0
def jb_ (v:a4_):L8:=[10,10,if v.ds then 4 else 0,0,if v.swp then 8 else 0]++List.replicate 7 0
def f5_ (now saved:a4_) (k:Nat):a4_:=if k=1 then⟨true,true,true⟩ else if k=2 then v0 else if k=3 then saved else now
def cm_ (now saved:a4_) (c:Cm):L8:=(if c.page=8∨c.page=63 then gF_ (f5_ now saved c.control) else [])++(if c.page=10∨c.page=63 then jb_ (f5_ now saved c.control) else [])
def mY_ (now:a4_) (c:Cm) (n:Nat):L8:=if c.long then [0,UInt8.ofNat (6+n),0,if now.swp then 144 else 16,0,0,0,0] else [UInt8.ofNat (3+n),0,if now.swp then 144 else 16,0]
def do_ (now saved:a4_) (c:Cm):Option L8:=if cm_ now saved c = [] then none else some (mY_ now c (cm_ now saved c).length++cm_ now saved c)
def fl_ (field:Nat) (bit:Int) (cmd:Bool):Sn:=⟨5,if cmd then 0x2400 else 0x2600,0,false,(field:Int),bit,true,cmd⟩
section
variable {w u:World}
theorem eB_ {b o:Nat} {v:a4_} (h:bQ_ w ⟨b,o,none⟩ (vlv v)):(loadVar aH_ ⟨b,o,none⟩).run Tryz.prog w=.ok (.agg (vlv v).toArray) w:=aD_ (cs:=vlv v) fZ_ bc_ rfl h
theorem mZ_ {b o:Nat} {v:a4_} {x:Value} (h:Blk w b (vlv v).toArray aH_) (e:(vlv v)[o]?=some x):w.cell? ((⟨b,0,none⟩:Addr).add o)=some x:=by
 rw[ao_,h.cell,Nat.zero_add,List.getElem?_toArray];exact e
theorem r6_ {v:a4_} {R:Sl→W_} (h:∀xs w',ab_ w w'→Own w' w.heap.size ae_ 1 xs (bv (gF_ v))→R xs w'):hP_ (vlv v).toArray w R:=by
 refine hX_.calls _ _ _ (ag_ fun vb w1 hvb hb1 hg1 hs1=>?_)
 have hb1:Blk w1 vb (vlv v).toArray aH_:=hb1
 refine cy_ (n:=20) aE_ a6_ rfl d_ d_ (base:=w1.heap.size) (Nat.le_refl _) fun w2 ho2 hg2 hs2=>?_
 refine⟨⟨d_,by dsimp only;decide,rfl⟩,bT_ (i:=0) ho2 (by dsimp only;decide) rfl fun w3 ho3 hk3 _=>⟨⟨d_,by dsimp only;decide,rfl⟩,bT_ (i:=1) ho3 (by dsimp only;decide) rfl fun w4 ho4 hk4 _=>?_⟩⟩
 have gk:∀{x y:World},ab_ w1 x→ac_ (fun k=>some k=(⟨some ⟨w1.heap.size,0,none⟩,20,20⟩:Sl).blk) x y→ab_ w1 y:=fun g k=>g.keep k fun i hi q=>absurd hi (by have q:i=w1.heap.size:=(by injection q);omega)
 have g4:=gk (gk hg2 hk3) hk4
 have hb4:Blk w4 vb (vlv v).toArray aH_:=g4.heap hb1 (fun q=>q)
 refine⟨v.wce,mZ_ hb4 rfl,?_⟩
 cases hv:v.wce with
 | false=>
  refine ai_ rfl (h _ w4 (hg1.trans g4) ?_)
  have:gF_ v = [8,18,0]++List.replicate 17 0:=by unfold gF_;rw[hv];rfl
  rw[this];exact ho4.mono hg1.size
 | true=>
  refine al_ rfl ⟨⟨d_,by dsimp only;decide,rfl⟩,bT_ (i:=2) ho4 (by dsimp only;decide) rfl fun w5 ho5 hk5 _=>h _ w5 (hg1.trans (gk g4 hk5)) ?_⟩
  have:gF_ v = [8,18,4]++List.replicate 17 0:=by unfold gF_;rw[hv];rfl
  rw[this];exact ho5.mono hg1.size
theorem r7_ {v:a4_} {R:Sl→W_} (h:∀xs w',ab_ w w'→Own w' w.heap.size ae_ 1 xs (bv (jb_ v))→R xs w'):hQ_ (vlv v).toArray w R:=by
 refine hY_.calls _ _ _ (ag_ fun vb w1 hvb hb1 hg1 hs1=>?_)
 have hb1:Blk w1 vb (vlv v).toArray aH_:=hb1
 refine cy_ (n:=12) aE_ a6_ rfl d_ d_ (base:=w1.heap.size) (Nat.le_refl _) fun w2 ho2 hg2 hs2=>?_
 refine⟨⟨d_,by dsimp only;decide,rfl⟩,bT_ (i:=0) ho2 (by dsimp only;decide) rfl fun w3 ho3 hk3 _=>⟨⟨d_,by dsimp only;decide,rfl⟩,bT_ (i:=1) ho3 (by dsimp only;decide) rfl fun w4 ho4 hk4 _=>?_⟩⟩
 have gk:∀{x y:World},ab_ w1 x→ac_ (fun k=>some k=(⟨some ⟨w1.heap.size,0,none⟩,12,12⟩:Sl).blk) x y→ab_ w1 y:=fun g k=>g.keep k fun i hi q=>absurd hi (by have q:i=w1.heap.size:=(by injection q);omega)
 have g4:=gk (gk hg2 hk3) hk4
 have hb4:Blk w4 vb (vlv v).toArray aH_:=g4.heap hb1 (fun q=>q)
 refine⟨v.ds,mZ_ hb4 rfl,?_⟩
 refine bR_ (fun o=>ab_ w1 o∧Own o w1.heap.size ae_ 1 ⟨some ⟨w1.heap.size,0,none⟩,12,12⟩ (bv ([10,10,if v.ds then 4 else 0,0,0]++List.replicate 7 0))) ?_ (fun J=>?_)
 ·rintro o ⟨go,oo⟩
  have bo:=go.heap hb1 (fun q=>q)
  refine⟨v.swp,mZ_ bo rfl,?_⟩
  cases hv:v.swp with
  | false=>
   refine ai_ rfl (h _ o (hg1.trans go) ?_)
   have:jb_ v = [10,10,if v.ds then 4 else 0,0,0]++List.replicate 7 0:=by unfold jb_;rw[hv];rfl
   rw[this];exact oo.mono hg1.size
  | true=>
   refine al_ rfl ⟨⟨d_,by dsimp only;decide,rfl⟩,bT_ (i:=4) oo (by dsimp only;decide) rfl fun w5 ho5 hk5 _=>h _ w5 (hg1.trans (gk go hk5)) ?_⟩
   have:jb_ v = [10,10,if v.ds then 4 else 0,0,8]++List.replicate 7 0:=by unfold jb_;rw[hv];rfl
   rw[this];exact ho5.mono hg1.size
 ·cases hv:v.ds with
  | false=>exact ai_ rfl (J w4 ⟨g4,by rw[hv];exact ho4⟩)
  | true=>exact al_ rfl ⟨⟨d_,by dsimp only;decide,rfl⟩,bT_ (i:=2) ho4 (by dsimp only;decide) rfl fun w5 ho5 hk5 _=>J w5 ⟨gk g4 hk5,by rw[hv];exact ho5⟩⟩
theorem oG_ {field:Nat} {bit:Int} {cmd:Bool} {R:A_→W_} (h:∀w',ab_ w w'→R (snv (fl_ field bit cmd)).toArray w'):fy_ (field:Int) bit cmd w R:=by
 refine lS_.calls _ _ _ _ _ (ag_ fun ab w1 hab hb1 hg1 hs1=>?_)
 refine aX_ (fun(x:Int) o=>o=w1∧x=((if cmd then 0x2400 else 0x2600:Nat):Int)) ?_ (fun J=>?_)
 ·rintro x o ⟨rfl,rfl⟩
  refine ap_ (cells:=(snv (fl_ field bit cmd)).toArray) hb1 aR_ rfl rfl (by simp[snv,Value.oneCell']) fun w2 hb2 hk2 _=>⟨_,dM_ (ar_ hb2),h w2 (hg1.keep hk2 fun i hi q=>o_)⟩
 ·cases cmd with
  | true=>exact al_ rfl (J _ _ ⟨rfl,rfl⟩)
  | false=>exact ai_ rfl (J _ _ ⟨rfl,rfl⟩)
theorem qO_ {pb:Nat} {now saved:a4_} {R:A_→W_} (h:IsP w pb now saved) (hR:∀w',ab_ w w'→R (vlv saved).toArray w'):eU_ (some ⟨pb,0,none⟩) w R:=by
 refine e7_.calls _ _ _ (ag_ fun ab w1 hab hb1 hg1 hs1=>ai_ rfl ⟨rfl,(vlv saved).toArray,?_,?_⟩)
 ·have h1:IsP w1 pb now saved:=hg1.heap h (fun q=>q)
  rw[gA,ao_]
  refine eB_ fun j v hj=>?_
  rw[ao_,Blk.cell h1]
  have:((vlv now++vlv saved).toArray)[0+3+j]?=(vlv saved)[j]?:=by
   rw[List.getElem?_toArray,List.getElem?_append_right (by simp[vlv])]
   congr 1
   simp[vlv]
  rw[this];exact hj
 ·refine ap_ (cells:=(vlv saved).toArray) hb1 bc_ rfl rfl (by simp[vlv,Value.oneCell']) fun w2 hb2 hk2 _=>⟨_,eB_ (ar_ hb2),hR w2 (hg1.keep hk2 fun i hi q=>o_)⟩
end
open Go CF
section
variable {w u:World}
theorem kb_ (v:a4_):(gF_ v).length=20:=rfl
theorem kc_ (v:a4_):(jb_ v).length=12:=rfl
theorem r8_ (now saved:a4_) (c:Cm):(cm_ now saved c).length≤32:=by
 unfold cm_
 rw[List.length_append]
 have h1:(if c.page=8∨c.page=63 then gF_ (f5_ now saved c.control) else []).length≤20:=by split<;>simp[kb_]
 have h2:(if c.page=10∨c.page=63 then jb_ (f5_ now saved c.control) else []).length≤12:=by split<;>simp[kc_]
 omega
theorem qP_ {b o:Nat} {c:Cm} {x:Value} (h:Blk w b (cmv c).toArray az_) (e:(cmv c)[o]?=some x):w.cell? ((⟨b,0,none⟩:Addr).add o)=some x:=by
 rw[ao_,h.cell,Nat.zero_add,List.getElem?_toArray];exact e
theorem v9_ {w0:World} {p:Sl} {l:L8} (h:Row w0 w p l) (hl:l.length≤1000):p.A.isNone=decide (l = [])∨l = []:=by
 by_cases e:l = []
 ·exact .inr e
 ·left
  have hp:0<l.length:=List.length_pos_iff.2 e
  obtain⟨hA,_⟩:=bS_ (h.rd o_) hp
  rw[decide_eq_false e]
  cases hq:p.A with
  | none=>rw[hq] at hA;cases hA
  | some a=>rfl
theorem uG_ {pb:Nat} {now saved:a4_} {c:Cm} {R:Sl→A_→Bool→W_} (h:IsP w pb now saved)
  (hR:match do_ now saved c with
   | none=>∀w',ab_ w w'→R au_ (snv (fl_ 2 5 true)).toArray false w'
   | some l=>∀xs w',ab_ w w'→Own w' w.heap.size ae_ 1 xs (bv l)→R xs (snv sn0).toArray true w'):dy_ (some ⟨pb,0,none⟩) (cmv c).toArray w R:=by
 refine e6_.calls _ _ _ _ (ag_ fun cb w1 hcb hb1 hg1 hs1=>ag_ fun ab w2 hab hb2 hg2 hs2=>?_)
 have hc2:Blk w2 cb (cmv c).toArray az_:=hg2.heap hb1 (fun q=>q)
 have hgw2:=hg1.trans hg2
 have hp2:IsP w2 pb now saved:=hgw2.heap h (fun q=>q)
 refine ik_ hp2 fun w3 hg3=>ag_ fun vb w4 hvb hb4 hg4 hs4=>?_
 refine ap_ (cells:=(vlv now).toArray) hb4 bc_ rfl rfl (by simp[vlv,Value.oneCell']) fun w5 hb5 hk5 hs5=>?_
 have g35:ab_ w3 w5:=hg4.keep hk5 fun i hi q=>o_
 have g25:=hg3.trans g35
 have s25:=g25.size
 have s3:=hg3.size
 have l2:=aw_ hc2
 have lab:ab<w2.heap.size:=aw_ (show Blk w2 ab _ ak_ from hb2)
 refine⟨(c.control:Int),qP_ (g25.heap hc2 (fun q=>q)) rfl,?_⟩
 unfold do_ at hR
 have bl:=r8_ now saved c
 let St (V:a4_) (o:World):Prop:=ac_ (fun k=>k=vb) w2 o∧Blk o vb (vlv V).toArray aH_
 have hvs:w2.heap.size≤vb:=o_
 have toG:∀{V:a4_} {o:World},St V o→ab_ w2 o:=fun q=>⟨q.1.os,q.1.tape,q.1.output,q.1.size,fun k hk _=>q.1.block k hk o_⟩
 have stG:∀{V:a4_} {o o':World},St V o→ab_ o o'→St V o':=fun q g=>⟨q.1.grow g,g.heap q.2 (fun q=>q)⟩
 have stN:∀{V:a4_} {o:World},St V o→ab_ w o:=fun q=>hgw2.trans (toG q)
 have cC:∀{V:a4_} {o:World} {i:Nat} {x:Value},St V o→(cmv c)[i]?=some x→o.cell? ((⟨cb,0,none⟩:Addr).add i)=some x:=fun q e=>qP_ ((toG q).heap hc2 (fun q=>q)) e
 have pP:∀{V:a4_} {o:World},St V o→IsP o pb now saved:=fun q=>(toG q).heap hp2 (fun q=>q)
 refine bR_ (fun o=>St (f5_ now saved c.control) o) ?_ (fun J=>?_)
 ·intro o ho
  have eB:cm_ now saved c=(if c.page=8∨c.page=63 then gF_ (f5_ now saved c.control) else [])++(if c.page=10∨c.page=63 then jb_ (f5_ now saved c.control) else []):=rfl
  generalize hV:f5_ now saved c.control=V at *
  refine⟨(c.page:Int),cC ho rfl,(c.page:Int),fun _=>cC ho rfl,?_⟩
  have e8:(((c.page:Int)==8)||((c.page:Int)==63))=decide (c.page=8∨c.page=63):=by
   rw[Bool.eq_iff_iff,Bool.or_eq_true,beq_iff_eq,beq_iff_eq,decide_eq_true_eq];omega
  have e10:(((c.page:Int)==10)||((c.page:Int)==63))=decide (c.page=10∨c.page=63):=by
   rw[Bool.eq_iff_iff,Bool.or_eq_true,beq_iff_eq,beq_iff_eq,decide_eq_true_eq];omega
  rw[e8]
  refine aX_ (fun(b:Sl) v=>St V v∧Row o v b (if c.page=8∨c.page=63 then gF_ V else [])∧((if c.page=8∨c.page=63 then gF_ V else []) = []→b=au_)) ?_ (fun J=>?_)
  ·rintro b v ⟨hv,rb,nb⟩
   refine⟨(c.page:Int),cC hv rfl,(c.page:Int),fun _=>cC hv rfl,?_⟩
   rw[e10]
   refine aX_ (fun(b:Sl) v=>St V v∧Row o v b (cm_ now saved c)∧(cm_ now saved c = []→b=au_)) ?_ (fun J=>?_)
   ·rintro b v ⟨hv,rb,nb⟩
    by_cases hnil:cm_ now saved c = []
    ·rw[if_pos hnil] at hR
     rw[nb hnil]
     refine al_ rfl (oG_ (field:=2) (bit:=5) (cmd:=true) fun v1 g1=>?_)
     refine ap_ (cells:=(snv (fl_ 2 5 true)).toArray) (((toG hv).trans g1).heap hb2 (fun q=>q)) aR_ rfl rfl (by simp[snv,Value.oneCell']) fun v2 hb2' hk2 _=>⟨_,dM_ (ar_ hb2'),hR v2 ?_⟩
     exact((stN hv).trans g1).keep hk2 fun i hi q=>by have:=hg1.size;omega
    ·rw[if_neg hnil] at hR
     have hA:b.A.isNone=false:=by
      rcases v9_ rb o_ with q|q
      ·rw[q,decide_eq_false hnil]
      ·exact absurd q hnil
     refine ai_ hA (ik_ (pP hv) fun v1 g1=>⟨now.swp,rfl,?_⟩)
     have hv1:=stG hv g1
     have rb1:=rb.go g1
     have bn:=rb.n
     refine aX_ (fun(d:Int) o=>o=v1∧d=(((if now.swp then(144:UInt8) else 16).toNat:Nat):Int)) ?_ (fun J=>?_)
     ·rintro d o2 ⟨rfl,rfl⟩
      have e3:IntKind.wrap .u8 (IntKind.wrap .i64 (3+(b.n:Int)))=(((UInt8.ofNat (3+(cm_ now saved c).length)).toNat:Nat):Int):=by rw[w64 o_ o_,show(3+(b.n:Int))=((3+(cm_ now saved c).length:Nat):Int) by omega,aV_]
      have e6:IntKind.wrap .u8 (IntKind.wrap .i64 (6+(b.n:Int)))=(((UInt8.ofNat (6+(cm_ now saved c).length)).toNat:Nat):Int):=by rw[w64 o_ o_,show(6+(b.n:Int))=((6+(cm_ now saved c).length:Nat):Int) by omega,aV_]
      rw[e3,e6]
      generalize hdv:(if now.swp=true then(144:UInt8) else 16)=dv at *
      have hl:(Instr.buildSlice aB_ 4 #[(0,.int .u8 (((UInt8.ofNat (3+(cm_ now saved c).length)).toNat:Nat):Int)),(1,.int .u8 0),(2,.int .u8 ((dv.toNat:Nat):Int)),(3,.int .u8 0)]).run Tryz.prog o2=.ok (.slice (some ⟨o2.heap.size,0,none⟩) 4 4) (o2.alloc (.cells (bv [UInt8.ofNat (3+(cm_ now saved c).length),0,dv,0]).toArray ae_)):=k_
      refine Row.start hl rfl (by show 4≤_;decide) fun p3 v3 r3=>?_
      have hv3:=stG hv1 r3.grow
      refine⟨c.long,cC hv3 rfl,?_⟩
      have hmh:mY_ now c (cm_ now saved c).length=if c.long then [0,UInt8.ofNat (6+(cm_ now saved c).length),0,dv,0,0,0,0] else [UInt8.ofNat (3+(cm_ now saved c).length),0,dv,0]:=by unfold mY_;rw[hdv]
      refine aX_ (fun(hd:Sl) v=>∃b0,ab_ o2 b0∧Row b0 v hd (mY_ now c (cm_ now saved c).length)) ?_ (fun J=>?_)
      ·rintro hd v ⟨b0,gb,rh⟩
       have hml:(mY_ now c (cm_ now saved c).length).length≤8:=by rw[hmh];split<;>simp
       have rb2:=(rb1.go gb).go rh.grow
       refine rh.app (rb2.rd o_) o_ fun p5 v5 r5 k5=>?_
       have hv5:=stG (stG hv1 gb) r5.grow
       refine ap_ (cells:=(snv sn0).toArray) ((toG hv5).heap hb2 (fun q=>q)) aR_ rfl rfl (by simp[snv,sn0,Value.oneCell']) fun v6 hb6 hk6 _=>⟨_,dM_ (ar_ hb6),hR p5 v6 ((stN hv5).keep hk6 fun i hi q=>by have:=hg1.size;omega) ?_⟩
       exact(r5.own.mono (stN (stG hv1 gb)).size).keep hk6 fun b hb q=>r5.ne ((toG hv5).heap hb2 (fun q=>q)) d_ (by rw[←q,hb])
      ·cases hlg:c.long with
       | true=>
        have hl8:(Instr.buildSlice aB_ 8 #[(0,.int .u8 0),(1,.int .u8 (((UInt8.ofNat (6+(cm_ now saved c).length)).toNat:Nat):Int)),(2,.int .u8 0),(3,.int .u8 ((dv.toNat:Nat):Int)),(4,.int .u8 0),(5,.int .u8 0),(6,.int .u8 0),(7,.int .u8 0)]).run Tryz.prog v3=.ok (.slice (some ⟨v3.heap.size,0,none⟩) 8 8) (v3.alloc (.cells (bv [0,UInt8.ofNat (6+(cm_ now saved c).length),0,dv,0,0,0,0]).toArray ae_)):=k_
        refine al_ rfl (Row.start hl8 rfl (by show 8≤_;decide) fun p4 v4 r4=>J p4 v4 ⟨v3,r3.grow,?_⟩)
        rw[hmh,hlg];exact r4
       | false=>
        refine ai_ rfl (J p3 v3 ⟨o2,ac_.refl _ _,?_⟩)
        rw[hmh,hlg];exact r3
     ·cases hs:now.swp with
      | true=>exact al_ rfl (J _ _ ⟨rfl,by rw[hs];decide⟩)
      | false=>exact ai_ rfl (J _ _ ⟨rfl,by rw[hs];rfl⟩)
   ·by_cases q:c.page=10∨c.page=63
    ·refine al_ (by rw[decide_eq_true_eq];exact q) ⟨_,eB_ (ar_ hv.2),r7_ fun x v1 g1 o1=>?_⟩
     have x12:=cY_ o1
     rw[kc_] at x12
     refine(rb.go g1).app (o1.rd o_) (by have:(if c.page=8∨c.page=63 then gF_ V else []).length≤20:=(by split<;>simp[kb_])
                                         rw[kc_];omega) fun p2 v2 r2 k2=>J p2 v2 ⟨?_,?_,fun e=>?_⟩
     ·have h1:=stG hv g1
      refine⟨h1.1.trans k2 fun i hi q=>?_,(rb.go g1).blk k2 h1.2 d_⟩
      have:=(rb.own.ge i q.symm).1
      have:=(toG ho).size
      omega
     ·rw[eB,if_pos q];exact r2
     ·rw[eB,if_pos q] at e
      have:=congrArg List.length e
      rw[List.length_append,kc_,List.length_nil] at this
      omega
    ·refine ai_ (by rw[decide_eq_false_iff_not];exact q) (J b v ⟨hv,?_,?_⟩)
     ·rw[eB,if_neg q,List.append_nil];exact rb
     ·rw[eB,if_neg q,List.append_nil];exact nb
  ·by_cases q:c.page=8∨c.page=63
   ·refine al_ (by rw[decide_eq_true_eq];exact q) ⟨_,eB_ (ar_ ho.2),r6_ fun x v1 g1 o1=>?_⟩
    have x20:=cY_ o1
    rw[kb_] at x20
    refine(Row.nil g1).app (o1.rd o_) (by rw[kb_];decide) fun p2 v2 r2 k2=>J p2 v2 ⟨?_,?_,fun e=>?_⟩
    ·exact stG (stG ho g1) (k2.mono fun _ _ q=>by cases q)
    ·rw[if_pos q];exact r2
    ·rw[if_pos q] at e;cases e
   ·refine ai_ (by rw[decide_eq_false_iff_not];exact q) (J au_ o ⟨ho,?_,fun _=>rfl⟩)
    rw[if_neg q];exact Row.nil (ac_.refl _ _)
 ·have h5:St now w5:=⟨⟨g25.os,g25.tape,g25.output,g25.size,fun k hk _=>g25.block k hk (fun q=>q)⟩,hb5⟩
  have put:∀{V V':a4_} {o:World} {K:W_},St V o→(∀o',St V' o'→K o')→af_ Tryz.prog (storeVar aH_ ⟨vb,0,none⟩ (.agg (vlv V').toArray)) o K:=fun {V V' o K} q hK=>
   ap_ (cells:=(vlv V').toArray) q.2 bc_ rfl rfl (by simp[vlv,Value.oneCell']) fun o' hb' hk' _=>hK o' ⟨q.1.trans hk' fun _ _ q=>q,hb'⟩
  refine ay_ (fun e=>?_) (fun n1=>ay_ (fun e=>?_) (fun n2=>ay_ (fun e=>?_) (fun n3=>?_)))
  ·exact put (V':=⟨true,true,true⟩) h5 fun o' h'=>J o' (by unfold f5_;rw[if_pos o_];exact h')
  ·refine i8_ fun o1 g1=>put (stG h5 g1) fun o' h'=>J o' (by unfold f5_;rw[if_neg o_,if_pos o_];exact h')
  ·refine qO_ (pP h5) fun o1 g1=>put (stG h5 g1) fun o' h'=>J o' (by unfold f5_;rw[if_neg o_,if_neg o_,if_pos o_];exact h')
  ·exact J w5 (by unfold f5_;rw[if_neg o_,if_neg o_,if_neg o_];exact h5)
end
open Go CF
def vf:a4_:=⟨false,false,false⟩
def kV_ (b:UInt8):Option L8:=if b=8 then some (gF_ vf) else if b=10 then some (jb_ vf) else none
def nQ_ (b:UInt8) (i:Nat):UInt8:=if i=2 then 4 else if i=4∧b=10 then 8 else 0
def sI_ (r:L8) (j:Nat):Option (Nat×Nat):=(gZ_ (r.getD (j+2) 0 &&& ~~~(nQ_ (r.getD 0 0) (j+2))).toNat 8).map fun k=>(j+2,k)
def wa_ (r:L8) (n:Nat):Option (Nat×Nat):=(List.range (n-2)).findSome? (sI_ r)
def sJ_ (v:a4_) (r:L8):a4_:=if r.getD 0 0=8 then {v with wce:=r.getD 2 0 != 0} else {v with ds:=r.getD 2 0 != 0,swp:=r.getD 4 0 != 0}
def hI_ (l:L8) (at_:Nat) (v:a4_):Except Sn (a4_×Nat):=
 match kV_ ((l.drop at_).getD 0 0) with
 | none=>.error (fl_ at_ (-1) false)
 | some W=>
  if (l.drop at_).length<2∨((l.drop at_).length<W.length∧(l.drop at_).getD 1 0=W.getD 1 0) then .error (ci_ 0x1a00)
  else if (l.drop at_).getD 1 0≠W.getD 1 0 then .error (fl_ (at_+1) (-1) false)
  else match wa_ (l.drop at_) W.length with
   | some (i,k)=>.error (fl_ (at_+i) (k:Int) false)
   | none=>.ok (sJ_ v (l.drop at_),W.length)
theorem wb_ {b:UInt8} {n:Nat} (hn:n<256):(((b.toNat:Nat):Int)==(n:Int))=decide (b=UInt8.ofNat n):=by
 rw[Bool.eq_iff_iff,beq_iff_eq,decide_eq_true_eq]
 constructor
 ·intro h
  apply UInt8.toNat_inj.1
  rw[UInt8.toNat_ofNat',Nat.mod_eq_of_lt o_];omega
 ·rintro rfl
  rw[UInt8.toNat_ofNat',Nat.mod_eq_of_lt o_]
theorem qQ_ {b:UInt8}:(((b.toNat:Nat):Int) != 0)=(b != 0):=by
 rw[Bool.eq_iff_iff,bne_iff_ne,bne_iff_ne]
 constructor
 ·intro h e;subst e;exact h rfl
 ·intro h e
  apply h
  apply UInt8.toNat_inj.1
  show b.toNat=0
  omega
section
variable {w u:World}
theorem wc_ {p:Sl} {l:L8} {at_:Nat} {V:a4_} {R:A_→Int→A_→Bool→W_} (hp:Rd w 1 p (bv l)) (hpn:p.n≤1000000) (hat:at_<l.length)
  (hR:match hI_ l at_ V with
   | .error s=>∀w',ab_ w w'→R (vlv V).toArray 0 (snv s).toArray false w'
   | .ok (v',n)=>∀w',ab_ w w'→R (vlv v').toArray (n:Int) (snv sn0).toArray true w'):nh_ p (at_:Int) (vlv V).toArray w R:=by
 refine kH_.calls _ _ _ _ _ (ag_ fun vb w0 hvb hb0 hg0 hs0=>ag_ fun ab w1 hab hb1 hg1 hs1=>ag_ fun sb w2 hsb hb2 hg2 hs2=>?_)
 simp only[Int.toNat_natCast]
 have hpl:=b4_ hp
 have hgw2:=(hg0.trans hg1).trans hg2
 have hv2:Blk w2 vb (vlv V).toArray aH_:=(hg1.trans hg2).heap hb0 (fun q=>q)
 have ha2:Blk w2 ab _ aH_:=hg2.heap hb1 (fun q=>q)
 have hs2':Blk w2 sb _ ak_:=hb2
 have hc2:Rd w2 1 ⟨aI_ p.A p.c at_ 1,p.n-at_,p.c-at_⟩ (bv (l.drop at_)):=by
  have:=(hp.grow hgw2).cutB (l:=at_) (k:=p.n) o_ (Nat.le_refl _)
  rwa [List.take_of_length_le (by rw[List.length_drop];omega)] at this
 have rl:(l.drop at_).length=p.n-at_:=by rw[List.length_drop];omega
 unfold hI_ at hR
 generalize hrest:l.drop at_=r at *
 have cell:∀{v:World} {i:Nat},ab_ w2 v→i<r.length→(aI_ p.A p.c at_ 1).isSome=true∧v.cell? ((gA (aI_ p.A p.c at_ 1)).add (i*1))=some (.int .u8 ((r.getD i 0).toNat:Int)):=fun {v i} g hi=>bS_ (hc2.grow g) hi
 have ret:∀{o:World} {V':a4_} {s:Sn} {n:Int} {b:Bool} {A B:A_},ab_ w o→Blk o ab A aH_→A.size=3→Blk o sb B ak_→B.size=8→(∀o',ab_ w o'→R (vlv V').toArray n (snv s).toArray b o')→
   af_ Tryz.prog (storeVar aH_ ⟨ab,0,none⟩ (.agg (vlv V').toArray)) o fun o1=>af_ Tryz.prog (storeVar ak_ ⟨sb,0,none⟩ (.agg (snv s).toArray)) o1 fun o2=>∃res:A_,(loadVar aH_ ⟨ab,0,none⟩).run Tryz.prog o2=.ok (.agg res) o2∧∃res1:A_,(loadVar ak_ ⟨sb,0,none⟩).run Tryz.prog o2=.ok (.agg res1) o2∧R res n res1 b o2:=
  fun {o V' s n b A B} g hA hA3 hB hB8 hK=>ap_ (cells:=(vlv V').toArray) hA bc_ rfl hA3 (by simp[vlv,Value.oneCell']) fun o1 h1 k1 _=>ap_ (cells:=(snv s).toArray) (k1.heap hB o_) aR_ rfl hB8 (by simp[snv,Value.oneCell']) fun o2 h2 k2 _=>
   ⟨_,eB_ (ar_ (k2.heap h1 o_)),_,dM_ (ar_ h2),hK o2 ((g.keep k1 fun i hi q=>by have:=hg0.size;omega).keep k2 fun i hi q=>by have:=hg0.size;have:=hg1.size;omega)⟩
 have bad:∀{o:World} {field:Nat} {bit:Int},ab_ w2 o→(∀o',ab_ w o'→R (vlv V).toArray 0 (snv (fl_ field bit false)).toArray false o')→∀o1,o1=o.drew→∃S:W_,S o1∧∃g1:A_,(∀u4,S u4→(loadVar aH_ ⟨vb,0,none⟩).run Tryz.prog u4=.ok (.agg g1) u4)∧fy_ (field:Int) bit false o1 fun g2 w09=>S w09∧af_ Tryz.prog (storeVar aH_ ⟨ab,0,none⟩ (.agg g1)) w09 fun w010=>af_ Tryz.prog (storeVar ak_ ⟨sb,0,none⟩ (.agg g2)) w010 fun w011=>∃res2:A_,(loadVar aH_ ⟨ab,0,none⟩).run Tryz.prog w011=.ok (.agg res2) w011∧∃res3:A_,(loadVar ak_ ⟨sb,0,none⟩).run Tryz.prog w011=.ok (.agg res3) w011∧R res2 0 res3 false w011:=by
  rintro o field bit g hK o1 rfl
  have g1:=g.trans (am_ o)
  refine⟨fun o=>ab_ w2 o,g1,(vlv V).toArray,fun u q=>eB_ (ar_ (q.heap hv2 (fun q=>q))),oG_ fun o2 g2=>?_⟩
  have g3:=g1.trans g2
  exact⟨g3,ret (hgw2.trans g3) (g3.heap ha2 (fun q=>q)) rfl (g3.heap hs2' (fun q=>q)) rfl hK⟩
 have r0:0<r.length:=o_
 refine⟨⟨o_,o_,by have:=hp.cap;omega,hp.cap⟩,⟨d_,o_,(cell (ac_.refl _ _) r0).1⟩,_,(cell (ac_.refl _ _) r0).2,?_⟩
 have e8:((((r.getD 0 0).toNat:Nat):Int)==8)=decide (r.getD 0 0=8):=wb_ (n:=8) d_
 have e10:((((r.getD 0 0).toNat:Nat):Int)==10)=decide (r.getD 0 0=10):=wb_ (n:=10) d_
 rw[e8,e10]
 refine aX_ (fun(x:Sl) o=>∃W,kV_ (r.getD 0 0)=some W∧ab_ w2 o∧Own o w2.heap.size ae_ 1 x (bv W)) ?_ (fun J=>?_)
 case refine_2=>
  by_cases q8:r.getD 0 0=8
  ·exact al_ (decide_eq_true q8) (r6_ (v:=vf) fun x o g ho=>J x o ⟨_,by unfold kV_;rw[if_pos q8],g,ho⟩)
  refine ai_ (decide_eq_false q8) ?_
  by_cases q10:r.getD 0 0=10
  ·exact al_ (decide_eq_true q10) (r7_ (v:=vf) fun x o g ho=>J x o ⟨_,by unfold kV_;rw[if_neg q8,if_pos q10],g,ho⟩)
  refine ai_ (decide_eq_false q10) (bad (ac_.refl _ _) ?_)
  have:kV_ (r.getD 0 0)=none:=by unfold kV_;rw[if_neg q8,if_neg q10]
  rw[this] at hR
  exact hR
 rintro x o ⟨W,hW,go,hx⟩
 rw[hW] at hR
 dsimp only at hR
 have hWl:(r.getD 0 0=8∧W=gF_ vf)∨(r.getD 0 0=10∧W=jb_ vf):=by
  unfold kV_ at hW
  by_cases q8:r.getD 0 0=8
  ·rw[if_pos q8] at hW;injection hW with hW;exact .inl ⟨q8,hW.symm⟩
  ·rw[if_neg q8] at hW
   by_cases q10:r.getD 0 0=10
   ·rw[if_pos q10] at hW;injection hW with hW;exact .inr ⟨q10,hW.symm⟩
   ·rw[if_neg q10] at hW;cases hW
 have hWn:12≤W.length∧W.length≤20:=by
  rcases hWl with⟨_,rfl⟩|⟨_,rfl⟩
  ·rw[kb_];omega
  ·rw[kc_];omega
 have xn:=cY_ hx
 have hxr:=hx.rd o_
 have cx1:=bS_ hxr (i:=1) o_
 rintro o1 rfl
 have g1:=go.trans (am_ o)
 have cx:∀{v:World},ab_ o.drew v→v.cell? ((gA x.A).add (1*1))=some (.int .u8 ((W.getD 1 0).toNat:Int)):=fun g=>(bS_ ((hxr.grow (am_ o)).grow g) (i:=1) o_).2
 generalize o.drew=o1 at *
 have eqb:∀{a b:UInt8},((((a.toNat:Nat):Int)==((b.toNat:Nat):Int)))=decide (a=b):=fun {a b}=>by
  rw[Bool.eq_iff_iff,beq_iff_eq,decide_eq_true_eq]
  exact⟨fun h=>UInt8.toNat_inj.1 o_,fun h=>by rw[h]⟩
 refine⟨fun v=>ab_ o1 v,ac_.refl _ _,?_⟩
 by_cases h2:r.length<2
 ·rw[if_pos (.inl h2)] at hR
  have hf:(decide (((p.n-at_:Nat):Int)<(x.n:Int)) && !decide (((p.n-at_:Nat):Int)<2))=true→False:=fun q=>by
   rw[Bool.and_eq_true,Bool.not_eq_true',decide_eq_false_iff_not] at q
   omega
  refine⟨fun q=>(hf q).elim,0,fun q=>(hf q).elim,fun q=>(hf q).elim,0,fun q=>(hf q).elim,al_ (by rw[Bool.or_eq_true,decide_eq_true_eq];left;omega) ⟨_,eB_ (ar_ (g1.heap hv2 (fun q=>q))),?_⟩⟩
  exact ret (s:=ci_ 0x1a00) (hgw2.trans g1) (g1.heap ha2 (fun q=>q)) rfl (g1.heap hs2' (fun q=>q)) rfl hR
 refine⟨fun _=>⟨d_,o_,(cell g1 (i:=1) o_).1⟩,_,fun _ v q=>(cell (g1.trans q) (i:=1) o_).2,fun _=>⟨d_,o_,cx1.1⟩,_,fun _ v q=>cx q,?_⟩
 rw[eqb]
 by_cases hshort:r.length<W.length∧r.getD 1 0=W.getD 1 0
 ·rw[if_pos (.inr hshort)] at hR
  refine al_ (by rw[Bool.or_eq_true,Bool.and_eq_true,decide_eq_true_eq,decide_eq_true_eq,decide_eq_true_eq];right;exact⟨o_,hshort.2⟩) ⟨_,eB_ (ar_ (g1.heap hv2 (fun q=>q))),?_⟩
  exact ret (s:=ci_ 0x1a00) (hgw2.trans g1) (g1.heap ha2 (fun q=>q)) rfl (g1.heap hs2' (fun q=>q)) rfl hR
 rw[if_neg (fun q=>q.elim h2 hshort)] at hR
 refine ai_ ?_ ?_
 ·rw[Bool.or_eq_false_iff,Bool.and_eq_false_iff,decide_eq_false_iff_not,decide_eq_false_iff_not,decide_eq_false_iff_not]
  refine⟨o_,?_⟩
  by_cases q:r.getD 1 0=W.getD 1 0
  ·left;intro q2;exact hshort ⟨o_,q⟩
  ·right;exact q
 rintro o2 rfl
 have g2:ab_ o1 o1.drew:=am_ o1
 have gw2:=g1.trans g2
 generalize o1.drew=o2 at *
 refine⟨fun v=>ab_ o2 v,ac_.refl _ _,⟨d_,o_,(cell g1 (i:=1) o_).1⟩,_,fun v q=>(cell (gw2.trans q) (i:=1) o_).2,⟨d_,o_,cx1.1⟩,_,fun v q=>cx (g2.trans q),?_⟩
 by_cases hne:r.getD 1 0=W.getD 1 0
 case neg=>
  rw[if_pos hne] at hR
  refine al_ (by rw[bne,eqb,Bool.not_eq_true',decide_eq_false_iff_not];exact hne) ?_
  rw[w64 o_ o_,show((at_:Int)+1)=((at_+1:Nat):Int) by omega]
  exact bad gw2 hR
 rw[if_neg (fun q=>q hne)] at hR
 have hlen:W.length≤r.length:=by
  rcases Nat.lt_or_ge r.length W.length with q|q
  ·exact absurd ⟨q,hne⟩ hshort
  ·exact q
 refine ai_ (by rw[bne,eqb,Bool.not_eq_false',decide_eq_true_eq];exact hne) ?_
 refine⟨fun i v=>∃j:Nat,i=((j+2:Nat):Int)∧j+2≤W.length∧ab_ o2 v∧∀k,k<j→sI_ r k=none,fun i _=>W.length-i.toNat,⟨0,rfl,o_,ac_.refl _ _,fun _ q=>absurd q (Nat.not_lt_zero _)⟩,?_⟩
 rintro i v ⟨j,rfl,hj,gv,hnon⟩
 have g2v:=gw2.trans gv
 by_cases hjl:j+2<W.length
 ·refine al_ (by rw[decide_eq_true_eq];omega) ?_
  refine bR_ (fun v'=>ab_ o2 v'∧sI_ r j=none) (fun v' hv=>?_) (fun J=>?_)
  ·rw[w64 o_ o_]
   exact⟨⟨j+1,o_,o_,hv.1,fun k hk=>by
    by_cases e:k=j
    ·rw[e];exact hv.2
    ·exact hnon k o_⟩,by dsimp only;omega⟩
  ·refine aX_ (fun(can:Int) v'=>v'=v∧can=(((nQ_ (r.getD 0 0) (j+2)).toNat:Nat):Int)) ?_ (fun J2=>?_)
   ·rintro can v' ⟨rfl,rfl⟩
    have hbit:sI_ r j=(gZ_ (r.getD (j+2) 0 &&& ~~~(nQ_ (r.getD 0 0) (j+2))).toNat 8).map fun k=>(j+2,k):=rfl
    have hB:=(r.getD (j+2) 0 &&& ~~~(nQ_ (r.getD 0 0) (j+2))).toNat_lt
    have hclr:=zw_ (r.getD (j+2) 0) (nQ_ (r.getD 0 0) (j+2))
    generalize (r.getD (j+2) 0 &&& ~~~(nQ_ (r.getD 0 0) (j+2))).toNat=B at *
    refine⟨fun bit u=>∃t:Nat,bit=(t:Int)-1∧t≤8∧u=v'∧gZ_ B 8=gZ_ B t,fun bit _=>(bit+1).toNat,⟨8,d_,d_,rfl,rfl⟩,?_⟩
    rintro bit u ⟨t,rfl,ht,rfl,ho⟩
    cases t with
    | zero=>exact ai_ d_ (J u ⟨gv,by rw[hbit,ho];rfl⟩)
    | succ t=>
     have hc:=cell g2v (i:=j+2) o_
     refine al_ (by rw[decide_eq_true_eq];omega) ⟨⟨o_,o_,hc.1⟩,_,hc.2,o_,?_⟩
     have e1:(((t+1:Nat):Int)-1).toNat=t:=o_
     have e2:((t+1:Nat):Int)-1=(t:Int):=o_
     rw[hclr,e1,shr .u8 B t (by show t≤8;omega),yJ_ (Nat.lt_of_le_of_lt (Nat.div_le_self _ _) o_),e2]
     by_cases q:B/2 ^ t%2=1
     ·refine al_ (by rw[beq_iff_eq];omega) ?_
      have hob:gZ_ B (t+1)=some t:=by unfold gZ_;rw[if_pos q]
      have hfirst:wa_ r W.length=some (j+2,t):=mU_ (i:=j) o_ hnon (by rw[hbit,ho,hob];rfl)
      rw[hfirst] at hR
      rw[w64 o_ o_,show((at_:Int)+((j+2:Nat):Int))=((at_+(j+2):Nat):Int) by omega]
      exact bad g2v hR
     ·refine ai_ (by rw[beq_eq_false_iff_ne];omega) ?_
      rw[w64 o_ o_]
      refine⟨⟨t,rfl,o_,rfl,ho.trans ?_⟩,by dsimp only;omega⟩
      show(if B/2 ^ t%2=1 then some t else gZ_ B t)=_
      rw[if_neg q]
   ·by_cases hj0:j=0
    ·refine al_ (by rw[beq_iff_eq];omega) (J2 _ _ ⟨rfl,?_⟩)
     unfold nQ_;rw[if_pos o_];rfl
    ·refine ai_ (by rw[beq_eq_false_iff_ne];omega) ⟨fun _=>⟨d_,o_,(cell g2v r0).1⟩,_,fun _=>(cell g2v r0).2,?_⟩
     rw[e10]
     by_cases h4:j+2=4∧r.getD 0 0=10
     ·refine al_ (by rw[Bool.and_eq_true,beq_iff_eq,decide_eq_true_eq];exact⟨o_,h4.2⟩) (J2 _ _ ⟨rfl,?_⟩)
      unfold nQ_;rw[if_neg o_,if_pos h4];rfl
     ·refine ai_ ?_ (J2 _ _ ⟨rfl,?_⟩)
      ·rw[Bool.and_eq_false_iff,beq_eq_false_iff_ne,decide_eq_false_iff_not]
       by_cases q:j+2=4
       ·right;exact fun e=>h4 ⟨q,e⟩
       ·left;omega
      ·unfold nQ_;rw[if_neg o_,if_neg h4];rfl
 ·have hnone:wa_ r W.length=none:=jh_ fun k hk=>hnon k o_
  rw[hnone] at hR
  have hvv:Blk v vb (vlv V).toArray aH_:=g2v.heap hv2 (fun q=>q)
  refine ai_ (by rw[decide_eq_false_iff_not];omega) ⟨⟨d_,o_,(cell g2v r0).1⟩,_,(cell g2v r0).2,?_⟩
  rw[e8]
  refine bR_ (fun v'=>ac_ (fun k=>k=vb) w2 v'∧Blk v' vb (vlv (sJ_ V r)).toArray aH_) ?_ (fun J=>?_)
  ·rintro v' ⟨kv,bv'⟩
   have ga:Blk v' ab _ aH_:=kv.heap ha2 o_
   have gs:Blk v' sb _ ak_:=kv.heap hs2' (by have:=hg1.size;omega)
   refine⟨_,eB_ (ar_ bv'),?_⟩
   rw[xn]
   exact ret (s:=sn0) (hgw2.keep kv fun i hi q=>o_) ga rfl gs rfl hR
  ·by_cases q8:r.getD 0 0=8
   ·have c2:=cell g2v (i:=2) o_
    refine al_ (decide_eq_true q8) ⟨⟨d_,o_,c2.1⟩,_,c2.2,?_⟩
    rw[qQ_,ao_]
    refine aU_ hvv (by simp[vlv]) rfl fun v1 h1 k1 _=>J v1 ⟨(g2v.mono fun _ _ q=>q.elim).trans k1 fun _ _ q=>q,?_⟩
    unfold sJ_;rw[if_pos q8];exact h1
   ·refine ai_ (decide_eq_false q8) ?_
    rintro v0 rfl
    have g3:=g2v.trans (am_ v)
    have h3:Blk v.drew vb (vlv V).toArray aH_:=(am_ v).heap hvv (fun q=>q)
    generalize v.drew=v0 at *
    have lr:∀{v':World},ac_ (fun k=>k=vb) v0 v'→Rd v' 1 ⟨aI_ p.A p.c at_ 1,p.n-at_,p.c-at_⟩ (bv r):=fun k=>(hc2.grow g3).keep k fun a ha _ e=>by
     have hcc:=(hc2.at_ (by intro e;have:=congrArg List.length e;rw[ax_,List.length_nil] at this;omega))
     obtain⟨a',ha',hca⟩:=hp.at_ (by intro e;have:=congrArg List.length e;rw[ax_,List.length_nil] at this;omega)
     have ha:aI_ p.A p.c at_ 1=some a:=ha
     obtain⟨a2,ha2',eb⟩:∃a2,p.A=some a2∧a.block=a2.block:=by
      unfold aI_ at ha
      split at ha
      ·exact⟨a,ha,rfl⟩
      ·rw[ha'] at ha
       injection ha with ha
       exact⟨a',ha',by rw[←ha,ir_]⟩
     rw[ha'] at ha2'
     injection ha2' with ha2'
     have:=mH_ (hca 0 _ (List.getElem?_eq_getElem (by rw[ax_];omega)))
     rw[ir_] at this
     have:a.block<w.heap.size:=by rw[eb,←ha2'];exact this
     omega
    have c2:=cell g3 (i:=2) o_
    have c4:=cell g3 (i:=4) o_
    refine⟨fun v'=>ac_ (fun k=>k=vb) v0 v',ac_.refl _ _,⟨d_,o_,c2.1⟩,_,fun v' q=>(bS_ (lr q) (i:=2) o_).2,⟨d_,o_,c4.1⟩,_,fun v' q=>(bS_ (lr q) (i:=4) o_).2,?_⟩
    rw[qQ_,qQ_,ao_]
    refine aU_ h3 (by simp[vlv]) rfl fun v1 h1 k1 _=>⟨k1,?_⟩
    rw[ao_]
    refine aU_ h1 (by simp[vlv]) rfl fun v2 h2' k2 _=>J v2 ⟨((g3.mono fun _ _ q=>q.elim).trans k1 fun _ _ q=>q).trans k2 fun _ _ q=>q,?_⟩
    unfold sJ_;rw[if_neg q8];exact h2'
end
open Go CF
def mw_ (l:L8):Nat→Nat→a4_→Except Sn a4_
 | 0,_,v=>.ok v
 | k+1,at_,v=>if at_<l.length then(match hI_ l at_ v with
  | .error s=>.error s
  | .ok (v',n)=>mw_ l k (at_+n) v') else .ok v
theorem yR_ {l:L8} {at_:Nat} {v:a4_} (h:l.length≤at_):∀k,mw_ l k at_ v=.ok v
 | 0=>rfl
 | k+1=>by unfold mw_;rw[if_neg o_]
def vne (a b:a4_):Bool:=a.wce != b.wce||a.ds != b.ds||a.swp != b.swp
theorem z4_ {a b:a4_}:vne a b=true↔a≠b:=by
 obtain⟨a1,a2,a3⟩:=a
 obtain⟨b1,b2,b3⟩:=b
 unfold vne
 simp only[Bool.or_eq_true,bne_iff_ne,ne_eq,a4_.mk.injEq,Classical.not_and_iff_not_or_not]
 exact⟨fun q=>q.elim (fun q=>q.elim .inl fun q=>.inr (.inl q)) fun q=>.inr (.inr q),fun q=>q.elim (fun q=>.inl (.inl q)) fun q=>q.elim (fun q=>.inl (.inr q)) .inr⟩
def mhd (c:Cm):Nat:=if c.long then 8 else 4
def mdv (c:Cm):Nat:=if c.long then 3 else 2
def mh1 (l:L8) (c:Cm) (i:Nat):Bool:=decide (l.getD i 0≠0)&&decide (i≠mdv c)
def nR_ (now saved:a4_) (c:Cm) (l:L8):Except Sn (Bool×a4_×a4_):=
 if l = [] then .ok (false,now,saved)
 else if l.length<mhd c then .error (ci_ 0x1a00)
 else match (List.range (mhd c)).find? (mh1 l c) with
  | some i=>.error (fl_ i (-1) false)
  | none=>match mw_ l l.length (mhd c) now with
   | .error s=>.error s
   | .ok v=>.ok (vne v now,v,if c.save then v else saved)
theorem z5_ {l:L8} {at_ n:Nat} {v v':a4_} (h:hI_ l at_ v=.ok (v',n)):12≤n:=by
 unfold hI_ at h
 split at h
 ·cases h
 ·rename_i W hW
  have hWl:12≤W.length:=by
   unfold kV_ at hW
   split at hW
   ·injection hW with hW;rw[←hW];decide
   ·split at hW
    ·injection hW with hW;rw[←hW];decide
    ·cases hW
  split at h
  ·cases h
  ·split at h
   ·cases h
   ·split at h
    ·cases h
    ·injection h with h
     injection h with _ h
     omega
section
variable {w u:World}
theorem xz_:gl_ Tryz.prog 8 aH_=some [.b,.b,.b]:=k_
theorem z6_:kd Tryz.prog aH_=.ag:=k_
theorem z7_:Tryz.prog.eqGuardType Tryz.prog.depth aH_=false:=k_
theorem ve_ (v:a4_):bk_ [.b,.b,.b] (vlv v):=⟨rfl,rfl,rfl,trivial⟩
theorem z8_ {a b:a4_} (h:vlv a=vlv b):a=b:=by
 obtain⟨a1,a2,a3⟩:=a
 obtain⟨b1,b2,b3⟩:=b
 simp[vlv] at h
 obtain⟨h1,h2,h3⟩:=h
 rw[h1,h2,h3]
theorem r9_ {pb:Nat} {now saved:a4_} {c:Cm} {p:Sl} {l:L8} {R:Bool→A_→Bool→W_} (h:IsP w pb now saved) (hp:Rd w 1 p (bv l)) (hpn:p.n≤1000000)
  (hR:match nR_ now saved c l with
   | .error s=>∀w',ab_ w w'→R false (snv s).toArray false w'
   | .ok (b,n',s')=>∀w',ac_ (fun k=>k=pb) w w'→IsP w' pb n' s'→R b (snv sn0).toArray true w'):ef_ (some ⟨pb,0,none⟩) (cmv c).toArray p w R:=by
 refine eq_.calls _ _ _ _ _ (ag_ fun cb w1 hcb hb1 hg1 hs1=>ag_ fun ab w2 hab hb2 hg2 hs2=>?_)
 have hc2:Blk w2 cb (cmv c).toArray az_:=hg2.heap hb1 (fun q=>q)
 have ha2:Blk w2 ab _ ak_:=hb2
 have hgw2:=hg1.trans hg2
 have hp2:IsP w2 pb now saved:=hgw2.heap h (fun q=>q)
 have lp:=aw_ h
 have hpl:=b4_ hp
 have r2:=hp.grow hgw2
 have s1:=hg1.size
 unfold nR_ at hR
 have ret:∀{o:World} {s:Sn} {b b':Bool} {B:A_},Blk o ab B ak_→B.size=8→(∀o',ac_ (fun k=>k=ab) o o'→R b (snv s).toArray b' o')→
   af_ Tryz.prog (storeVar ak_ ⟨ab,0,none⟩ (.agg (snv s).toArray)) o fun o2=>∃res:A_,(loadVar ak_ ⟨ab,0,none⟩).run Tryz.prog o2=.ok (.agg res) o2∧R b res b' o2:=
  fun {o s b b' B} hB hB8 hK=>ap_ (cells:=(snv s).toArray) hB aR_ rfl hB8 (by simp[snv,Value.oneCell']) fun o2 h2 k2 _=>⟨_,dM_ (ar_ h2),hK o2 k2⟩
 by_cases hnil:l = []
 ·rw[if_pos hnil] at hR
  subst hnil
  refine al_ (by rw[show p.n=0 from hpl.symm];rfl) (ret (s:=sn0) ha2 rfl fun o k=>?_)
  have g:ab_ w o:=hgw2.keep k fun i hi q=>o_
  exact hR o (g.mono fun _ _ q=>q.elim) (g.heap h (fun q=>q))
 rw[if_neg hnil] at hR
 have l0:0<l.length:=List.length_pos_iff.2 hnil
 refine ai_ (by rw[Bool.or_eq_false_iff,beq_eq_false_iff_ne];exact⟨rfl,o_⟩) ⟨c.long,qP_ hc2 rfl,?_⟩
 refine sy_ (fun(hd dv:Int) o=>o=w2∧hd=((mhd c:Nat):Int)∧dv=((mdv c:Nat):Int)) ?_ (fun J=>?_)
 case refine_2=>
  unfold mhd mdv at J
  cases hlg:c.long with
  | true=>exact al_ rfl (J _ _ _ ⟨rfl,by rw[hlg];rfl,by rw[hlg];rfl⟩)
  | false=>exact ai_ rfl (J _ _ _ ⟨rfl,by rw[hlg];rfl,by rw[hlg];rfl⟩)
 rintro hd dv o ⟨rfl,rfl,rfl⟩
 have hhd:mhd c≤8:=by unfold mhd;split<;>omega
 generalize hH:mhd c=H at *
 by_cases hsh:l.length<H
 ·rw[if_pos hsh] at hR
  refine al_ (by rw[decide_eq_true_eq];omega) (ret (s:=ci_ 0x1a00) ha2 rfl fun o' k=>hR o' (hgw2.keep k fun i hi q=>o_))
 rw[if_neg hsh] at hR
 refine ai_ (by rw[decide_eq_false_iff_not];omega) ⟨fun x v=>∃j:Nat,x=(j:Int)∧j≤H∧v=o∧∀k,k<j→mh1 l c k=false,fun x _=>H-x.toNat,⟨0,rfl,Nat.zero_le _,rfl,fun _ q=>absurd q (Nat.not_lt_zero _)⟩,?_⟩
 rintro x v ⟨j,rfl,hj,rfl,hnon⟩
 by_cases hjH:j<H
 ·refine al_ (by rw[decide_eq_true_eq];omega) ?_
  obtain⟨hA,hc⟩:=bS_ r2 (i:=j) o_
  refine⟨⟨o_,o_,hA⟩,_,by rw[Int.toNat_natCast];exact hc,?_⟩
  have e:((((l.getD j 0).toNat:Nat):Int) != 0&&((j:Int) != ((mdv c:Nat):Int)))=mh1 l c j:=by
   unfold mh1
   rw[qQ_]
   congr 1
   ·rw[Bool.eq_iff_iff,bne_iff_ne,decide_eq_true_eq]
   ·rw[Bool.eq_iff_iff,bne_iff_ne,decide_eq_true_eq]
    exact⟨fun h e=>h (by rw[e]),fun h e=>h (Int.ofNat.inj e)⟩
  rw[e]
  cases hq:mh1 l c j with
  | true=>
   rw[i2_ hjH hnon hq] at hR
   refine al_ rfl (oG_ fun v1 g1=>ret (g1.heap ha2 (fun q=>q)) rfl fun o' k=>hR o' ((hgw2.trans g1).keep k fun i hi q=>o_))
  | false=>
   refine ai_ rfl ?_
   rw[w64 o_ o_]
   exact⟨⟨j+1,o_,hjH,rfl,fun k hk=>by
    by_cases e:k=j
    ·rw[e];exact hq
    ·exact hnon k o_⟩,by dsimp only;omega⟩
 have ejH:j=H:=o_
 subst ejH
 rw[i1_ hnon] at hR
 dsimp only at hR
 have now0:(loadVar aH_ ((gA (some (⟨pb,0,none⟩:Addr))).add 0)).run Tryz.prog v=.ok (.agg (vlv now).toArray) v:=by
  rw[gA,ao_]
  refine eB_ fun i x hx=>?_
  rw[ao_,Blk.cell hp2]
  have:((vlv now++vlv saved).toArray)[0+0+i]?=(vlv now)[i]?:=by
   rw[List.getElem?_toArray,show 0+0+i=i by omega,List.getElem?_append_left]
   exact(List.getElem?_eq_some_iff.1 hx).1
  rw[this];exact hx
 refine ai_ (by rw[decide_eq_false_iff_not];omega) ⟨rfl,_,now0,ag_ fun vb w3 hvb hb3 hg3 hs3=>?_⟩
 refine ap_ (cells:=(vlv now).toArray) hb3 bc_ rfl rfl (by simp[vlv,Value.oneCell']) fun w4 hb4 hk4 hs4=>?_
 have g24:ab_ v w4:=hg3.keep hk4 fun i hi q=>o_
 have hvs:v.heap.size≤vb:=o_
 let St (V:a4_) (o:World):Prop:=ab_ v o∧Blk o vb (vlv V).toArray aH_
 have lab:ab<v.heap.size:=aw_ ha2
 have hlow:∀k,l.length-j≤k→k=l.length→mw_ l l.length j now=mw_ l k j now:=fun k _ e=>by rw[e]
 refine⟨fun x o=>∃(t k:Nat) (V:a4_),x=(t:Int)∧t≤2000000∧St V o∧l.length-t≤k∧mw_ l l.length j now=mw_ l k t V,fun x _=>l.length-x.toNat,⟨j,l.length,now,rfl,o_,⟨g24,hb4⟩,o_,rfl⟩,?_⟩
 rintro x o ⟨t,k,V,rfl,ht,⟨go,bo⟩,hk,hgo⟩
 by_cases htl:t<l.length
 ·refine al_ (by rw[decide_eq_true_eq];omega) ⟨_,eB_ (ar_ bo),?_⟩
  obtain⟨k,rfl⟩:∃k',k=k'+1:=⟨k-1,o_⟩
  have hstep:mw_ l (k+1) t V=(match hI_ l t V with
   | .error s=>.error s
   | .ok (v',n)=>mw_ l k (t+n) v'):=by
   show(if t<l.length then _ else _)=_
   rw[if_pos htl]
  rw[hstep] at hgo
  refine wc_ (r2.grow go) hpn htl ?_
  have hn12:∀v' n,hI_ l t V=.ok (v',n)→12≤n:=fun v' n e=>z5_ e
  have hnle:∀v' n,hI_ l t V=.ok (v',n)→n≤20:=fun v' n e=>by
   unfold hI_ at e
   split at e
   ·cases e
   ·rename_i W hW
    have hWl:W.length≤20:=by
     unfold kV_ at hW
     split at hW
     ·injection hW with hW;rw[←hW];decide
     ·split at hW
      ·injection hW with hW;rw[←hW];decide
      ·cases hW
    split at e
    ·cases e
    ·split at e
     ·cases e
     ·split at e
      ·cases e
      ·injection e with e
       injection e with _ e
       omega
  generalize hI_ l t V=X at hgo hn12 hnle ⊢
  have lay:∀{o1:World} {v':a4_} {s:Sn} {K:Addr→Addr→W_},ab_ o o1→(∀tb sb o2,ab_ o1 o2→o1.heap.size≤tb→Blk o2 tb (vlv v').toArray aH_→Blk o2 sb (snv s).toArray ak_→K ⟨tb,0,none⟩ ⟨sb,0,none⟩ o2)→
    New (.cells #[.bool false,.bool false,.bool false] aH_) o1 fun to w012=>New (.cells #[.int .u8 0,.int .u16 0,.int .u64 0,.bool false,.int .i64 0,.int .i64 0,.bool false,.bool false] ak_) w012 fun s1 w013=>af_ Tryz.prog (storeVar aH_ to (.agg (vlv v').toArray)) w013 fun w014=>af_ Tryz.prog (storeVar ak_ s1 (.agg (snv s).toArray)) w014 fun w015=>K to s1 w015:=
   fun {o1 v' s K} g hK=>ag_ fun tb v1 htb hb1 hg1 hs1=>ag_ fun sb v2 hsb hb2 hg2 hs2=>
    ap_ (cells:=(vlv v').toArray) (hg2.heap hb1 (fun q=>q)) bc_ rfl rfl (by simp[vlv,Value.oneCell']) fun v3 hb3 hk3 hs3=>ap_ (cells:=(snv s).toArray) (hk3.heap hb2 o_) aR_ rfl rfl (by simp[snv,Value.oneCell']) fun v4 hb4 hk4 hs4=>
     hK tb sb v4 (((hg1.trans hg2).keep hk3 fun i hi q=>o_).keep hk4 fun i hi q=>o_) o_ (hk4.heap hb3 o_) hb4
  cases X with
  | error s=>
   intro o1 g1
   refine lay g1 fun tb sb o2 g2 htb bt bs=>al_ rfl ?_
   rintro o3 rfl
   have g3:=(g1.trans g2).trans (am_ o2)
   have bs3:Blk o2.drew sb (snv s).toArray ak_:=(am_ o2).heap bs (fun q=>q)
   refine⟨fun z=>Blk z sb (snv s).toArray ak_,bs3,_,fun z q=>dM_ (ar_ q),ret ((go.trans g3).heap ha2 (fun q=>q)) rfl fun o' k=>?_⟩
   rw[hgo] at hR
   exact hR o' ((hgw2.trans (go.trans g3)).keep k fun i hi q=>o_)
  | ok y=>
   obtain⟨v',n⟩:=y
   have h12:=hn12 v' n rfl
   have h20:=hnle v' n rfl
   intro o1 g1
   refine lay g1 fun tb sb o2 g2 htb bt bs=>ai_ rfl ⟨_,eB_ (ar_ bt),?_⟩
   have g3:=g1.trans g2
   refine ap_ (cells:=(vlv v').toArray) (g3.heap bo (fun q=>q)) bc_ rfl rfl (by simp[vlv,Value.oneCell']) fun o4 hb4' hk4' _=>?_
   rw[w64 o_ o_,show((t:Int)+(n:Int))=((t+n:Nat):Int) by omega]
   exact⟨⟨t+n,k,v',rfl,o_,⟨(go.trans g3).keep hk4' fun i hi q=>o_,hb4'⟩,o_,hgo⟩,by dsimp only;omega⟩
 ·refine ai_ (by rw[decide_eq_false_iff_not];omega) ?_
  rw[yR_ o_ k] at hgo
  rw[hgo] at hR
  dsimp only at hR
  rintro o1 rfl
  have g1:=go.trans (am_ o)
  have b1:Blk o.drew vb (vlv V).toArray aH_:=(am_ o).heap bo (fun q=>q)
  generalize o.drew=o1 at *
  have hpo:IsP o1 pb now saved:=g1.heap hp2 (fun q=>q)
  have now1:∀{z:World},IsP z pb now saved→(loadVar aH_ ((gA (some (⟨pb,0,none⟩:Addr))).add 0)).run Tryz.prog z=.ok (.agg (vlv now).toArray) z:=fun {z} q=>by
   rw[gA,ao_]
   refine eB_ fun i x hx=>?_
   rw[ao_,Blk.cell q]
   have:((vlv now++vlv saved).toArray)[0+0+i]?=(vlv now)[i]?:=by
    rw[List.getElem?_toArray,show 0+0+i=i by omega,List.getElem?_append_left]
    exact(List.getElem?_eq_some_iff.1 hx).1
   rw[this];exact hx
  obtain⟨r,hr,hrun⟩:=yc_ (x:=.tmp 76) (y:=.tmp 80) xz_ z6_ z7_ (ve_ V) (ve_ now)
  have er:r=vne V now:=by
   rw[Bool.eq_iff_iff,hr,z4_]
   exact⟨fun q e=>q (by rw[e]),fun q e=>q (z8_ e)⟩
  refine⟨fun z=>Blk z vb (vlv V).toArray aH_∧IsP z pb now saved,⟨b1,hpo⟩,_,fun z q=>eB_ (ar_ q.1),rfl,_,fun z q=>now1 q.2,r,fun z _=>hrun z,_,eB_ (ar_ b1),rfl,?_⟩
  rw[gA,ao_]
  refine dW_ (o:=0) (cells:=(vlv V).toArray) hpo bc_ rfl (by simp[vlv]) (by intro x hx;simp[vlv] at hx;rcases hx with rfl|rfl|rfl<;>rfl) fun o2 h2 k2 _=>?_
  have h2:IsP o2 pb V saved:=h2
  have lpb:pb<v.heap.size:=aw_ hp2
  have ks:∀{z z':World} {b:Nat} {cs:A_} {t:TypeId},Blk z b cs t→b≠pb→ac_ (fun k=>k=pb) z z'→Blk z' b cs t:=fun hb hn k=>k.heap hb hn
  have npab:ab≠pb:=fun e=>bH_ (g1.heap ha2 (fun q=>q)) hpo d_ e
  have npcb:cb≠pb:=fun e=>bH_ (g1.heap hc2 (fun q=>q)) hpo d_ e
  have kw2:ac_ (fun k=>k=pb) w o2:=((hgw2.trans g1).mono fun _ _ q=>q.elim).trans k2 fun _ _ q=>q
  refine⟨c.save,qP_ (ks (g1.heap hc2 (fun q=>q)) npcb k2) rfl,?_⟩
  refine bR_ (fun z=>ac_ (fun k=>k=pb) w z∧Blk z ab (snv sn0).toArray ak_∧IsP z pb V (if c.save then V else saved)) ?_ (fun J=>?_)
  ·rintro z ⟨kz,bz,pz⟩
   refine ret (s:=sn0) bz rfl fun z' k'=>?_
   rw[er]
   have nw:∀i,i<w.heap.size→i=ab→False:=fun i hi q=>o_
   exact hR z' ⟨k'.os.trans kz.os,k'.tape.trans kz.tape,k'.output.trans kz.output,Nat.le_trans kz.size k'.size,fun i hi hn=>by rw[k'.block i (by have:=kz.size;omega) (fun q=>nw i hi q),kz.block i hi hn]⟩ (k'.heap pz (fun e=>npab e.symm))
  ·have a2:=ks (g1.heap ha2 (fun q=>q)) npab k2
   cases hsv:c.save with
   | false=>exact ai_ rfl (J o2 ⟨kw2,a2,by rw[hsv];exact h2⟩)
   | true=>
    have nv:vb≠pb:=o_
    refine al_ rfl ⟨_,eB_ (ar_ (ks b1 nv k2)),rfl,?_⟩
    show af_ Tryz.prog (storeVar aH_ ((gA (some (⟨pb,0,none⟩:Addr))).add 3) (.agg (vlv V).toArray)) o2 _
    rw[show(gA (some (⟨pb,0,none⟩:Addr))).add 3=⟨pb,3,none⟩ by rw[gA,ao_]]
    refine dW_ (o:=3) (cells:=(vlv V).toArray) h2 bc_ rfl (by simp[vlv]) (by intro x hx;simp[vlv] at hx;rcases hx with rfl|rfl|rfl<;>rfl) fun o3 h3 k3 _=>?_
    exact J o3 ⟨kw2.trans k3 fun _ _ q=>q,ks a2 npab k3,by rw[hsv];exact h3⟩
end
open Go CF
structure im_ where
 service:Nat
 type:Nat
 key:Nat
 action:Nat
 aptpl:Bool
def otv (o:im_):List Value:=[.int .u8 (o.service:Int),.int .u8 (o.type:Int),.int .u64 (o.key:Int),.int .u64 (o.action:Int),.bool o.aptpl]
abbrev Ev:=Nat×Nat
def evc (e:Ev):List Value:=[.int .i64 (e.1:Int),.int .u16 (e.2:Int)]
def evv (l:List Ev):List Value:=l.flatMap evc
theorem vf_ (e:Ev):(evc e).length=2:=rfl
theorem vg_ (l:List Ev):(evv l).length=l.length*2:=bv_ vf_ l
theorem wd_ (a b:List Ev):evv (a++b)=evv a++evv b:=List.flatMap_append
theorem we_ (a b:List (Nat×Nat)):rgv (a++b)=rgv a++rgv b:=List.flatMap_append
def tells (l:List (Nat×Nat)) (f:Nat×Nat→Bool) (code:Nat):List Ev:=(l.filter f).map fun r=>(r.1,code)
def l8_ (t:a1_) (but:Nat):a1_×List Ev:=({t with kind:=0,holder:=-1},if 5≤t.kind then tells t.regs (fun r=>decide (r.1≠but)) 10756 else [])
def mx_ (t:a1_) (n key:Nat):a1_:={t with regs:=t.regs.filter (fun r=>decide (r.1<n))++(if key≠0 then [(n,key)] else [])++t.regs.filter (fun r=>decide (n<r.1))}
def bW_ (t:a1_) (n:Nat) (o:im_) (known:Bool):a1_×List Ev:=
 if o.action=0∧known=true then
  if (allK t.kind=true∧t.regs.length=1)∨((t.kind≠0∧t.holder=(n:Int))∧allK t.kind=false) then l8_ (mx_ t n 0) n else(mx_ t n 0,[])
 else if o.action≠0 then(mx_ t n o.action,[]) else(t,[])
def fC_ (t:a1_) (n:Nat) (o:im_) (known:Bool):a1_×List Ev:=({(bW_ t n o known).1 with lasts:=o.aptpl,gen:=((bW_ t n o known).1.gen+1)%4294967296},(bW_ t n o known).2)
structure DoT where
 st:Nat
 code:Nat
 ev:List Ev
 t:a1_
def fV_ (t:a1_) (n:Nat) (o:im_):DoT:=
 if f4_ o.type=false then⟨2,0x2400,[],t⟩
 else if t.kind=0 then⟨0,0,[],{t with kind:=o.type,holder:=(n:Int)}⟩
 else if cl_ t n=true∧t.kind=o.type then⟨0,0,[],t⟩ else⟨24,0,[],t⟩
def g1_ (t:a1_) (n:Nat) (o:im_):DoT:=
 if cl_ t n=false then⟨0,0,[],t⟩ else if t.kind≠o.type then⟨2,0x2400,[],t⟩ else⟨0,0,(l8_ t n).2,(l8_ t n).1⟩
def oH_ (t:a1_) (n:Nat):a1_×List Ev:=({t with regs:=[],kind:=0,holder:=-1,gen:=(t.gen+1)%4294967296},tells t.regs (fun r=>decide (r.1≠n)) 10755)
def sK_ (t:a1_) (a:Nat):Bool:=t.regs.any fun r=>(decide (t.kind≠0) && !allK t.kind)&&decide ((r.1:Int)=t.holder)&&decide (r.2=a)
def sL_ (t:a1_) (n a:Nat) (all:Bool) (r:Nat×Nat):Bool:=decide (r.1=n)||(decide (r.2≠a) && !all)
def g2_ (t:a1_) (n:Nat) (o:im_):DoT:=
 if o.action=0∧(allK t.kind&&decide (o.action=0))=false then⟨2,0x2600,[],t⟩
 else if (sK_ t o.action||(allK t.kind&&decide (o.action=0)))=true∧f4_ o.type=false then⟨2,0x2400,[],t⟩
 else if (t.regs.any fun r=>decide (r.2=o.action))=false∧(allK t.kind&&decide (o.action=0))=false then⟨24,0,[],t⟩
 else
  let left:=t.regs.filter (sL_ t n o.action (allK t.kind&&decide (o.action=0)))
  let out:=tells t.regs (fun r=> !sL_ t n o.action (allK t.kind&&decide (o.action=0)) r) 10757
  if (sK_ t o.action||(allK t.kind&&decide (o.action=0)))=true then
   ⟨0,0,out++(if 5≤t.kind∧t.kind≠o.type then tells left (fun r=>decide (r.1≠n)) 10756 else []),{t with regs:=left,kind:=o.type,holder:=(n:Int),gen:=(t.gen+1)%4294967296}⟩
  else⟨0,0,out,{t with regs:=left,gen:=(t.gen+1)%4294967296}⟩
def cV_ (t:a1_) (n:Nat) (o:im_):DoT:=
 if 6<o.service then⟨2,0x2400,[],t⟩
 else if o.service=6 then⟨0,0,(fC_ t n o (fT_ t n).isSome).2,(fC_ t n o (fT_ t n).isSome).1⟩
 else if o.service=0 then(if o.key≠(fT_ t n).getD 0 then⟨24,0,[],t⟩ else⟨0,0,(fC_ t n o (fT_ t n).isSome).2,(fC_ t n o (fT_ t n).isSome).1⟩)
 else if (fT_ t n).isSome=false∨o.key≠(fT_ t n).getD 0 then⟨24,0,[],t⟩
 else if o.service=1 then fV_ t n o
 else if o.service=2 then g1_ t n o
 else if o.service=3 then⟨0,0,(oH_ t n).2,(oH_ t n).1⟩
 else g2_ t n o
section
variable {w u v:World} {N:Nat→Prop} {tb n:Nat} {t:a1_}
structure Qr (B:Nat) (w v:World):Prop where
 keep:ac_ (fun k=>B≤k) w v
 regs:∀b cs,Blk w b cs aF_→Blk v b cs aF_
theorem Qr.refl (B:Nat) (w:World):Qr B w w:=⟨ac_.refl _ _,fun _ _ q=>q⟩
theorem Qr.trans {B:Nat} (h:Qr B w u) (g:Qr B u v):Qr B w v:=⟨h.keep.trans g.keep fun _ _ q=>q,fun b cs q=>g.regs b cs (h.regs b cs q)⟩
theorem Qr.grow {B:Nat} (g:ab_ w u):Qr B w u:=⟨g.mono fun _ _ q=>q.elim,fun b cs q=>g.heap q (fun q=>q)⟩
theorem Qr.from {B:Nat} (h:Qr B w u) (g:ab_ v w) (hB:v.heap.size≤B):ab_ v u:=g.keep h.keep fun i hi q=>o_
theorem fW_ {xs:Sl} {l:List (Nat×Nat)} {i:Nat} {K:Addr→W_} (hx:Rd w 2 xs (rgv l)) (hi:i<l.length) (hK:∀rb w',ab_ w w'→Blk w' rb (rgc l[i]).toArray aF_→w.heap.size≤rb→K ⟨rb,0,none⟩ w') :
  (0≤(i:Int)∧(i:Int)<(xs.n:Int)∧xs.A.isSome=true)∧∃g:A_,(loadVar aF_ ((gA xs.A).add ((i:Int).toNat*2))).run Tryz.prog w=.ok (.agg g) w∧New (.cells #[.int .i64 0,.int .u64 0] aF_) w fun r w1=>af_ Tryz.prog (storeVar aF_ r (.agg g)) w1 fun w2=>K r w2:=by
 have hl:l.length=xs.n:=by have:=hx.len;rw[bK_] at this;omega
 obtain⟨a,ha,hc⟩:=xh_ hx hi
 refine⟨⟨o_,o_,by rw[ha];rfl⟩,(rgc l[i]).toArray,by rw[ha,Int.toNat_natCast];exact aD_ lH_ fz_ rfl hc,?_⟩
 exact ag_ fun rb v1 hrb hb1 hg1 hs1=>ap_ (cells:=(rgc l[i]).toArray) hb1 fz_ rfl rfl (by simp[rgc,Value.oneCell']) fun v2 hb2 hk2 hs2=>hK rb v2 (hg1.keep hk2 fun i hi q=>o_) hb2 o_
theorem AW_ (w:World) (a b:Int):(Instr.buildSlice dt_ 1 #[(0,.agg #[.int .i64 a,.int .u16 b])]).run Tryz.prog w=.ok (.slice (some ⟨w.heap.size,0,none⟩) 1 1) (w.alloc (.cells #[.int .i64 a,.int .u16 b] a2_)):=k_
theorem AX_ (w:World) (a b:Int):(Instr.buildSlice dV_ 1 #[(0,.agg #[.int .i64 a,.int .u64 b])]).run Tryz.prog w=.ok (.slice (some ⟨w.heap.size,0,none⟩) 1 1) (w.alloc (.cells #[.int .i64 a,.int .u64 b] aF_)):=k_
theorem AY_ (l:List Ev):∀v∈evv l,v.oneCell'=true:=by
 intro v hv
 simp only[evv,List.mem_flatMap] at hv
 obtain⟨e,_,he⟩:=hv
 simp only[evc,List.mem_cons,List.mem_nil_iff,or_false] at he
 rcases he with rfl|rfl<;>rfl
theorem vh_ {B:Nat} {out:Sl} {evs:List Ev} {a c:Nat} {ty:TypeId} {K:Sl→W_} (ho:Own w B a2_ 2 out (evv evs)) (hB:B≤w.heap.size) (hl:evs.length≤1000) (hK:∀out' w',Qr B w w'→Own w' B a2_ 2 out' (evv (evs++[(a,c)]))→K out' w') :
  an_ Tryz.prog .sl (Instr.buildSlice dt_ 1 #[(0,.agg #[.int .i64 (a:Int),.int .u16 (c:Int)])]) w fun xs w1=>an_ Tryz.prog .sl (Builtin.append_ #[dt_,dt_] ty #[.slice out.A out.n out.c,.slice xs.A xs.n xs.c]) w1 K:=by
 have hn:out.n=evs.length:=by have:=ho.len;rw[vg_] at this;omega
 refine aJ_ (cells:=#[.int .i64 (a:Int),.int .u16 (c:Int)]) (e:=a2_) (z:=2) (base:=w.heap.size) (AW_ _ _ _) rfl d_ (Nat.le_refl _) fun w1 h1 g1 _=>?_
 have o1:=ho.grow g1
 refine aN_ sl_ no_ rfl d_ d_ o1 (h1.rd (by dsimp only;decide)) (AY_ [(a,c)]) (by show(out.n+1)*16≤_;omega) (by have:=g1.size;omega) fun s' w2 hn' h2 k2 _=>?_
 refine hK s' w2 ((Qr.grow g1).trans ⟨⟨k2.os,k2.tape,k2.output,k2.size,fun k hk q=>k2.block k hk fun e=>q ?_⟩,fun b cs q=>k2.heap q fun e=>bd_ o1 q d_ e.symm⟩) (by rw[wd_];exact h2)
 exact(o1.ge k e.symm).1
theorem o7_ {B:Nat} {out:Sl} {l:List (Nat×Nat)} {a c:Nat} {ty:TypeId} {K:Sl→W_} (ho:Own w B aF_ 2 out (rgv l)) (hB:B≤w.heap.size) (hl:l.length≤1000) (hK:∀out' w',ac_ (fun k=>B≤k) w w'→Own w' B aF_ 2 out' (rgv (l++[(a,c)]))→(∀b cs t,Blk w b cs t→t≠aF_→Blk w' b cs t)→K out' w') :
  an_ Tryz.prog .sl (Instr.buildSlice dV_ 1 #[(0,.agg #[.int .i64 (a:Int),.int .u64 (c:Int)])]) w fun xs w1=>an_ Tryz.prog .sl (Builtin.append_ #[dV_,dV_] ty #[.slice out.A out.n out.c,.slice xs.A xs.n xs.c]) w1 K:=by
 have hn:out.n=l.length:=by have:=ho.len;rw[bK_] at this;omega
 refine aJ_ (cells:=#[.int .i64 (a:Int),.int .u64 (c:Int)]) (e:=aF_) (z:=2) (base:=w.heap.size) (AX_ _ _ _) rfl d_ (Nat.le_refl _) fun w1 h1 g1 _=>?_
 have o1:=ho.grow g1
 refine aN_ oi_ fz_ rfl d_ d_ o1 (h1.rd (by dsimp only;decide)) (vc_ [(a,c)]) (by show(out.n+1)*16≤_;omega) (by have:=g1.size;omega) fun s' w2 hn' h2 k2 _=>?_
 refine hK s' w2 ((g1.mono fun _ _ q=>q.elim).trans ⟨k2.os,k2.tape,k2.output,k2.size,fun k hk q=>k2.block k hk fun e=>q (o1.ge k e.symm).1⟩ fun _ _ q=>q) (by rw[we_];exact h2) fun b cs t q ht=>k2.heap (g1.heap q (fun q=>q)) fun e=>bd_ o1 (g1.heap q (fun q=>q)) ht e.symm
theorem rv_ {B:Nat} {xs out:Sl} {l:List (Nat×Nat)} {evs:List Ev} {but code:Nat} {ty:TypeId} {E:Sl→W_} (hx:∀v,Qr B w v→Rd v 2 xs (rgv l)) (ho:Own w B a2_ 2 out (evv evs)) (hB:B≤w.heap.size) (hl:evs.length+l.length≤1000)
  (hE:∀out' v,Qr B w v→Own v B a2_ 2 out' (evv (evs++tells l (fun r=>decide (r.1≠but)) code))→E out' v) :
  ∃(I:Sl→Int→W_) (μ:Sl→Int→World→Nat),I out 0 w∧∀(out1:Sl) (x:Int) (w03:World),I out1 x w03→Br (decide (x<(xs.n:Int))) (aK_ (fun(out2:Sl) (w04:World)=>I out2 (IntKind.wrap .i64 (x+1)) w04∧μ out2 (IntKind.wrap .i64 (x+1)) w04<μ out1 x w03) fun J_1=>(0≤x∧x<(xs.n:Int)∧xs.A.isSome=true)∧∃g:A_,(loadVar aF_ ((gA xs.A).add (x.toNat*2))).run Tryz.prog w03=.ok (.agg g) w03∧New (.cells #[.int .i64 0,.int .u64 0] aF_) w03 fun r w05=>af_ Tryz.prog (storeVar aF_ r (.agg g)) w05 fun w06=>
   ∃n1:Int,w06.cell? (r.add 0)=some (.int .i64 n1)∧Br (n1 != (but:Int)) (∃n2:Int,w06.cell? (r.add 0)=some (.int .i64 n2)∧an_ Tryz.prog .sl (Instr.buildSlice dt_ 1 #[(0,.agg #[.int .i64 n2,.int .u16 (code:Int)])]) w06 fun xs1 w08=>an_ Tryz.prog .sl (Builtin.append_ #[dt_,dt_] ty #[.slice out1.A out1.n out1.c,.slice xs1.A xs1.n xs1.c]) w08 fun xs2 w09=>J_1 xs2 w09) (J_1 out1 w06)) (E out1 w03):=by
 have hln:l.length=xs.n:=by have:=(hx w (Qr.refl _ _)).len;rw[bK_] at this;omega
 refine⟨fun o x v=>∃j:Nat,x=j∧j≤l.length∧Qr B w v∧Own v B a2_ 2 o (evv (evs++tells (l.take j) (fun r=>decide (r.1≠but)) code)),fun _ x _=>xs.n-x.toNat,⟨0,rfl,Nat.zero_le _,Qr.refl _ _,by simpa [tells] using ho⟩,?_⟩
 rintro o x v ⟨j,rfl,hj,q,hov⟩
 have tl:∀k,(tells (l.take k) (fun r=>decide (r.1≠but)) code).length≤l.length:=fun k=>by
  unfold tells
  rw[List.length_map]
  exact Nat.le_trans (List.length_filter_le _ _) (by rw[List.length_take];omega)
 refine ba_ (fun hlt=>?_) (fun hge=>?_)
 ·have hjl:j<l.length:=o_
  refine aX_ (fun o2 v'=>Qr B w v'∧Own v' B a2_ 2 o2 (evv (evs++tells (l.take (j+1)) (fun r=>decide (r.1≠but)) code))) (fun o2 v' hv=>?_) (fun J=>?_)
  ·rw[w64 o_ o_]
   exact⟨⟨j+1,o_,o_,hv.1,hv.2⟩,by dsimp only;omega⟩
  ·refine fW_ (hx v q) hjl fun rb v1 g1 b1 _=>?_
   have q1:=q.trans (Qr.grow g1)
   have o1:=hov.grow g1
   have hs:l.take (j+1)=l.take j++[l[j]]:=by rw[List.take_succ_eq_append_getElem hjl]
   refine⟨(l[j].1:Int),by rw[ao_,b1.cell];rfl,?_⟩
   refine eR_ (fun e=>⟨(l[j].1:Int),by rw[ao_,b1.cell];rfl,?_⟩) (fun e=>?_)
   ·refine vh_ o1 (by have:=q1.keep.size;omega) (by rw[List.length_append];have:=tl j;omega) fun o3 v3 q3 h3=>J o3 v3 ⟨q1.trans q3,?_⟩
    have:tells (l.take (j+1)) (fun r=>decide (r.1≠but)) code=tells (l.take j) (fun r=>decide (r.1≠but)) code++[(l[j].1,code)]:=by
     unfold tells
     rw[hs,List.filter_append,List.map_append]
     congr 1
     rw[List.filter_cons,if_pos (by rw[decide_eq_true_eq];omega)];rfl
    rw[this,←List.append_assoc];exact h3
   ·refine J o v1 ⟨q1,?_⟩
    have:tells (l.take (j+1)) (fun r=>decide (r.1≠but)) code=tells (l.take j) (fun r=>decide (r.1≠but)) code:=by
     unfold tells
     rw[hs,List.filter_append,List.map_append]
     have:[l[j]].filter (fun r=>decide (r.1≠but)) = []:=by rw[List.filter_cons,if_neg (by rw[decide_eq_true_eq];omega)];rfl
     rw[this];simp
    rw[this];exact o1
 ·have:j=l.length:=o_
  subst this
  rw[List.take_length] at hov
  exact hE o v q hov
end
end Go.Proofs.YtpmebahhjgkflaaGreatDoor
