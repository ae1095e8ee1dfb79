import Derived.WalkKit
import Derived.ProofKit
import Derived.OpenShut
import Derived.ShutString
import Derived.ChangeOld
import Derived.Below
import Derived.SizedLaws
import Derived.Laws.MakeOwn
import Derived.Lib.AppendZerosOnto
import Derived.Deep.DeepAppendWide
import Derived.Test.YtpmebahhjgkflaaGreatDoorB3
set_option maxHeartbeats 20000000
namespace Go.Proofs.YtpmebahhjgkflaaGreatDoor
open Go CF
set_option maxRecDepth 100000
theorem ar_ {w:World} {b:Nat} {l:List Value} {t:TypeId} (h:Blk w b l.toArray t):bY_ w ⟨b,0,none⟩ l:=fun j v hj=>by
 rw[aq_,h.cell];simpa using hj
theorem bq_ {w:World} {b:Nat} {cs cs':A_} {t t':TypeId} {f:Nat×Nat} (h:Blk w b cs t) (h':w.heap[b]?=some (.cells cs' t' f)):t=t':=by
 rw[h] at h'
 injection h' with h'
 injection h'
theorem be_ {w:World} {base:Nat} {e:TypeId} {z:Nat} {s:Sl} {vs:List Value} (h:Own w base e z s vs) {b:Nat} {cs:A_} {t:TypeId} (hb:Blk w b cs t) (hne:t≠e):s.blk≠some b:=fun q=>by
 obtain⟨cur,hc⟩:=a4_ h q
 exact hne (bq_ hb hc)
section
variable {w w':World} {pw:Nat} {D:Nat→Prop} {st:Wst} {pl:Pl} {mb md:Nat} {ws:Sl} {cs:List (Cg×Sl)}
theorem ca_.pm (h:ca_ w pw D st pl mb md ws cs):mb≠pw∧md≠pw:=⟨fun q=>bX_ h.seen _ _ _ (by rw[q];exact h.blk),fun q=>bX_ h.dur _ _ _ (by rw[q];exact h.blk)⟩
theorem ca_.wm (h:ca_ w pw D st pl mb md ws cs):ws.blk≠some mb∧ws.blk≠some md∧ws.blk≠some pw:=by
 refine⟨fun q=>?_,fun q=>?_,be_ h.own h.blk d_⟩
 ·obtain⟨cur,hc⟩:=a4_ h.own q;exact bX_ h.seen _ _ _ hc
 ·obtain⟨cur,hc⟩:=a4_ h.own q;exact bX_ h.dur _ _ _ hc
theorem tx_ {S:Nat→Prop} (h:bR_ w D) (hl:∀k,D k→k<w.heap.size) (k:aa_ S w w') (hs:∀g cur,S g→w'.heap[g]?≠some (.cells cur ae_ (0,0))):bR_ w' D:=fun g cur hg q=>by
 by_cases e:S g
 ·exact hs g cur e hg
 ·exact h g cur (by rw[←k.block g (hl g q) e];exact hg) q
theorem ca_.setSeen {F:a7_} (h:ca_ w pw D st pl mb md ws cs) (k:aa_ (fun k=>k=mb) w w') (hF:IsF w' mb F):ca_ w' pw D {st with seen:=F} pl mb md ws cs:=by
 have hsz:=k.size
 have nb:=hD_ h.seen
 refine⟨k.heap h.blk (fun q=>h.pm.1 q.symm),hF,h.dur.keep k (fun q=>h.ne q.symm) nb,h.ne,h.own.keep k fun b hb q=>h.wm.1 (by rw[hb,q]),h.waits,fun c hc=>(h.rows c hc).keep k fun b hb=>?_,h.dw,h.db,h.dd,h.ds,fun k hk=>(by have:=h.lt k hk;omega),tx_ h.nb h.lt k fun g cur q hg=>?_,h.plan.keep k fun b hb q=>h.np.1 (by rw[hb,q]),h.dp,h.np⟩
 ·obtain⟨cur,hcur⟩:=a4_ (h.rows c hc) hb
  exact nb b cur hcur
 ·subst q;exact bX_ hF _ _ _ hg
theorem ca_.setDur {F:a7_} (h:ca_ w pw D st pl mb md ws cs) (k:aa_ (fun k=>k=md) w w') (hF:IsF w' md F):ca_ w' pw D {st with dur:=F} pl mb md ws cs:=by
 have hsz:=k.size
 have nb:=hD_ h.dur
 refine⟨k.heap h.blk (fun q=>h.pm.2 q.symm),h.seen.keep k (fun q=>h.ne q) nb,hF,h.ne,h.own.keep k fun b hb q=>h.wm.2.1 (by rw[hb,q]),h.waits,fun c hc=>(h.rows c hc).keep k fun b hb=>?_,h.dw,h.db,h.dd,h.ds,fun k hk=>(by have:=h.lt k hk;omega),tx_ h.nb h.lt k fun g cur q hg=>?_,h.plan.keep k fun b hb q=>h.np.2 (by rw[hb,q]),h.dp,h.np⟩
 ·obtain⟨cur,hcur⟩:=a4_ (h.rows c hc) hb
  exact nb b cur hcur
 ·subst q;exact bX_ hF _ _ _ hg
theorem ca_.setWaits {w1 w2:World} {ws':Sl} {cs':List (Cg×Sl)} (h:ca_ w pw D st pl mb md ws cs) (k:aa_ (fun k=>some k=ws.blk) w w1) (hown:Own w1 0 aK_ 5 ws' (cs'.flatMap cgv)) (hat:ws'.blk=ws.blk∨ws'.blk=some w.heap.size∨ws'.blk=none)
  (hr:∀c∈cs',Own w 0 ae_ 1 c.2 (bv c.1.p)) (hb:Blk w2 pw (em_ pl.mf mb md ws' st.ops) bs_) (k2:aa_ (fun k=>k=pw) w1 w2) :
  ca_ w2 pw (fun k=>((k=pw∨k=mb∨k=md)∨some k=ws'.blk)∨pl.mf=some k) {st with waits:=cs'.map (·.1)} pl mb md ws' cs'∧aa_ D w w2∧∀k,(((k=pw∨k=mb∨k=md)∨some k=ws'.blk)∨pl.mf=some k)→D k∨w.heap.size≤k:=by
 have hsz:=k.size
 have hsz2:=k2.size
 have nb1:bR_ w fun k=>some k=ws.blk:=fun g cur hg q=>h.nb g cur hg (h.ds g q.symm)
 have hb1:Blk w1 pw (em_ pl.mf mb md ws st.ops) bs_:=k.heap h.blk fun q=>h.wm.2.2 q.symm
 have hwp:ws'.blk≠some pw:=be_ hown hb1 d_
 have f1:=h.seen.keep k (fun q=>h.wm.1 q.symm) nb1
 have d1:=h.dur.keep k (fun q=>h.wm.2.1 q.symm) nb1
 have nb2:bR_ w1 fun k=>k=pw:=fun g cur hg q=>by
  subst q;exact absurd (bq_ hb1 hg) d_
 have f2:=f1.keep k2 h.pm.1 nb2
 have d2:=d1.keep k2 h.pm.2 nb2
 have o2:Own w2 0 aK_ 5 ws' (cs'.flatMap cgv):=hown.keep k2 fun b hb3 q=>hwp (by rw[hb3,q])
 refine⟨⟨hb,f2,d2,h.ne,o2,rfl,fun c hc=>((hr c hc).keep k fun b hb3=>?_).keep k2 fun b hb3=>?_,.inl (.inl (.inl rfl)),.inl (.inl (.inr (.inl rfl))),.inl (.inl (.inr (.inr rfl))),fun g hg=>.inl (.inr hg.symm),fun j hj=>?_,fun g cur hg q=>?_,(h.plan.keep k fun b hb3 q=>?_).keep k2 fun b hb3 q=>?_,fun b hb3=>.inr hb3,h.np⟩,
  (k.mono fun i _ q=>h.ds i q.symm).trans k2 fun i _ q=>(by subst q;exact h.dw),fun j hj=>?_⟩
 ·obtain⟨cur,hcur⟩:=a4_ (hr c hc) hb3
  exact nb1 b cur hcur
 ·have hc1:Own w1 0 ae_ 1 c.2 (bv c.1.p):=(hr c hc).keep k fun b hb4=>by
   obtain⟨cur,hcur⟩:=a4_ (hr c hc) hb4
   exact nb1 b cur hcur
  obtain⟨cur,hcur⟩:=a4_ hc1 hb3
  exact nb2 b cur hcur
 ·rcases hj with((q|q|q)|q)|q
  ·have:=aw_ h.blk;omega
  ·have:=pO_ f2;omega
  ·have:=pO_ d2;omega
  ·have:=(hown.ge j q.symm).2;omega
  ·obtain⟨es,c,hm⟩:=h.plan.map q
   have:=aw_ hm;omega
 ·rcases q with((q|q|q)|q)|q
  ·subst q;exact absurd (bq_ hb hg) d_
  ·subst q;exact bX_ f2 _ _ _ hg
  ·subst q;exact bX_ d2 _ _ _ hg
  ·obtain⟨cur',hc'⟩:=a4_ o2 q.symm
   rw[hc'] at hg
   injection hg with hg
   injection hg with _ ht
   exact absurd ht d_
  ·obtain⟨es,c,hm⟩:=h.plan.map q
   have hg2:w2.heap[g]?=w.heap[g]?:=by
    have hlt:=aw_ hm
    rw[k2.block g o_ (fun e=>by subst e;rw[h.blk] at hm;cases hm),k.block g hlt (fun e=>by
     obtain⟨cur',hc'⟩:=a4_ h.own e.symm
     rw[hc'] at hm;cases hm)]
   rw[hg2,hm] at hg
   cases hg
 ·obtain⟨es,c,hm⟩:=h.plan.map hb3
  obtain⟨cur',hc'⟩:=a4_ h.own q.symm
  rw[hc'] at hm;cases hm
 ·obtain⟨es,c,hm⟩:=h.plan.map hb3
  subst q
  rw[h.blk] at hm;cases hm
 ·rcases hj with((q|q|q)|q)|q
  ·exact .inl (q▸h.dw)
  ·exact .inl (q▸h.db)
  ·exact .inl (q▸h.dd)
  ·rcases hat with r|r|r
   ·exact .inl (h.ds j (by rw[←r];exact q.symm))
   ·rw[r] at q;injection q with q;exact .inr o_
   ·rw[r] at q;cases q
  ·exact .inl (h.dp j q)
end
theorem mM_ (l:List (Cg×Sl)):(l.flatMap cgv).length=l.length*5:=cY_ nY_ l
theorem uL_ {w:World} {pw:Nat} {D:Nat→Prop} {st:Wst} {F:Int→Bool} {name:ByteArray} {off:Nat} {p:Sl} {bs:L8} {R:Int→W_} (hw:ba_ w pw D st F) (hp:Own w 0 ae_ 1 p (bv bs)) (hb:off+bs.length≤1048576)
  (ho:st.ops<1000000000000) (hn:st.waits.length<1000000000)
  (h:F (st.ops:Int)=false→∀w' D',aa_ D w w'→ba_ w' pw D' ⟨bF_ st.seen name off bs,st.dur,st.waits++[⟨119,name,⟨#[]⟩,off,bs⟩],st.ops+1⟩ F→(∀k,D' k→D k∨w.heap.size≤k)→R 0 w')
  (hbad:F (st.ops:Int)=true→∀w',aa_ D w w'→ba_ w' pw D {st with ops:=st.ops+1} F→R 6 w') :
  gP_ (some ⟨pw,0,none⟩) #[.int .u8 119,.string name,.string ⟨#[]⟩,.int .i64 (off:Int),.slice p.A p.n p.c] w R:=by
 obtain⟨pl,hF,mb,md,ws,cs,hw⟩:=hw
 subst hF
 refine fd_.calls _ _ _ _ ?_
 generalize hx:((⟨119,name,⟨#[]⟩,off,bs⟩,p):Cg×Sl)=x
 have hxv:(#[.int .u8 119,.string name,.string ⟨#[]⟩,.int .i64 (off:Int),.slice p.A p.n p.c]:A_)=(cgv x).toArray:=by subst hx;rfl
 refine ag_ fun cb w0 hcb hb0 hg0 hsz0=>?_
 rw[hxv] at hb0
 have hb0:Blk w0 cb (cgv x).toArray aK_:=hb0
 have hw0:=hw.keep hg0 (fun _ _ q=>q) (bo_ w)
 refine mL_ hw0 ho fun w1 hk1 hw1=>?_
 cases hfl:pl.F (st.ops:Int) with
 | true=>exact am_ rfl (hbad hfl w1 ((hg0.mono (S':=D) fun _ _ q=>q.elim).trans hk1 fun _ _ q=>(by subst q;exact hw.dw)) ⟨pl,rfl,mb,md,ws,cs,hw1⟩)
 | false=>
 refine aj_ rfl ?_
 have hcp:cb≠pw:=fun q=>by have:=aw_ hw.blk;omega
 have hb1:=hk1.heap hb0 hcp
 rintro w2 rfl
 have hg2:ab_ w1 w1.drew:=ak_ w1
 have hw2:=hw1.keep hg2 (fun _ _ q=>q) (bo_ w1)
 have hb2:=hg2.heap hb1 (fun q=>q)
 have c4:∀{u:World},Blk u cb (cgv x).toArray aK_→u.cell? ((⟨cb,0,none⟩:Addr).add 4)=some (.slice p.A p.n p.c):=fun q=>by subst hx;rw[aq_,q.cell];rfl
 have lv:∀{u:World},Blk u cb (cgv x).toArray aK_→(loadVar aK_ ⟨cb,0,none⟩).run Tryz.prog u=.ok (.agg (cgv x).toArray) u:=fun q=>aE_ he_ c0_ rfl (ar_ q)
 have hpn:bs.length=p.n:=by have:=hp.len;rw[az_] at this;omega
 have hp0:Own w0 0 ae_ 1 p (bv bs):=hp.grow hg0
 have nbp:∀{u:World} {st':Wst} {ws':Sl} {cs':List (Cg×Sl)} {D':Nat→Prop},ca_ u pw D' st' pl mb md ws' cs'→bR_ u fun k=>k=pw:=fun q g cur hg e=>by subst e;exact absurd (bq_ q.blk hg) d_
 have okeep:∀{u u':World} {S:Nat→Prop},Own u 0 ae_ 1 p (bv bs)→aa_ S u u'→bR_ u S→Own u' 0 ae_ 1 p (bv bs):=fun q k nb=>q.keep k fun b hb3=>by
  obtain⟨cur,hc⟩:=a4_ q hb3
  exact nb b cur hc
 have hp2:Own w1.drew 0 ae_ 1 p (bv bs):=(okeep hp0 hk1 (nbp hw0)).grow hg2
 refine⟨fun u=>Blk u pw (em_ pl.mf mb md ws (st.ops+1)) bs_∧Blk u cb (cgv x).toArray aK_,⟨hw2.blk,hb2⟩,rfl,some mb,fun u hu=>by rw[gA,aq_,hu.1.cell];rfl,(cgv x).toArray,fun u hu=>lv hu.2,p,fun u hu=>c4 hu.2,?_⟩
 rw[←hxv]
 refine iP_ hw2.seen (hp2.rd o_) hb fun w3 hk3 hF3=>?_
 have hw3:=hw2.setSeen hk3 hF3
 rw[List.take_of_length_le o_] at hw3 hF3
 have hb3:Blk w3 cb (cgv x).toArray aK_:=hk3.heap hb2 fun q=>bX_ hw2.seen _ _ _ (by rw[←q];exact hb2)
 have hp3:=okeep hp2 hk3 (hD_ hw2.seen)
 rintro w4 rfl
 have hg4:ab_ w3 w3.drew:=ak_ w3
 have hw4:=hw3.keep hg4 (fun _ _ q=>q) (bo_ w3)
 have hb4:=hg4.heap hb3 (fun q=>q)
 have hlen:cs.length=st.waits.length:=by rw[←hw.waits,List.length_map]
 have hwn:ws.n=cs.length:=by have:=hw.own.len;rw[mM_] at this;omega
 refine⟨fun u=>Blk u pw (em_ pl.mf mb md ws (st.ops+1)) bs_∧Blk u cb (cgv x).toArray aK_,⟨hw4.blk,hb4⟩,rfl,ws,fun u hu=>by rw[gA,aq_,hu.1.cell];rfl,(cgv x).toArray,fun u hu=>lv hu.2,?_⟩
 refine aN_ (cells:=(cgv x).toArray) (e:=aK_) (z:=5) (base:=0) (by subst hx;kernel_rfl) rfl d_ (Nat.zero_le _) fun w5 hlit5 hg5 _=>⟨⟨hg5.heap hw4.blk (fun q=>q),hg5.heap hb4 (fun q=>q)⟩,?_⟩
 have hw5:=hw4.keep hg5 (fun _ _ q=>q) (bo_ _)
 refine aZ_ ma_ c0_ rfl d_ d_ hw5.own (hlit5.rd (by show 1≤_;decide)) (by subst hx;simp[cgv,Value.oneCell']) (by show(ws.n+1)*72≤_;omega) (Nat.zero_le _) fun ws' w6 hn6 hown6 hk6 hat6=>?_
 have hb6:Blk w6 pw (em_ pl.mf mb md ws (st.ops+1)) bs_:=hk6.heap hw5.blk fun q=>hw5.wm.2.2 q.symm
 refine⟨rfl,?_⟩
 rw[gA,aq_]
 refine a0_ hb6 (by show 2<7;decide) rfl fun w7 hb7 hk7 hsz7=>?_
 have hrows:∀c∈cs++[x],Own w5 0 ae_ 1 c.2 (bv c.1.p):=fun c hc=>by
  rcases List.mem_append.1 hc with q|q
  ·exact hw5.rows c q
  ·rw[List.mem_singleton.1 q];subst hx;exact(hp3.grow hg4).grow hg5
 have hown6':Own w6 0 aK_ 5 ws' ((cs++[x]).flatMap cgv):=by
  rw[List.flatMap_append]
  simpa using hown6
 have hfin:=hw5.setWaits (w1:=w6) (w2:=w7) (ws':=ws') (cs':=cs++[x]) hk6 hown6' (hat6.imp id .inl) hrows hb7 hk7
 have hKD:aa_ D w w7:=by
  have k1:aa_ D w w1.drew:=((hg0.mono (S':=D) fun _ _ q=>q.elim).trans hk1 fun _ _ q=>(by subst q;exact hw.dw)).trans hg2 fun _ _ q=>q.elim
  have k2:aa_ D w w5:=((k1.trans hk3 fun _ _ q=>(by subst q;exact hw.db)).trans hg4 fun _ _ q=>q.elim).trans hg5 fun _ _ q=>q.elim
  exact k2.trans hfin.2.1 fun _ _ q=>q
 refine h hfl w7 (fun k=>((k=pw∨k=mb∨k=md)∨some k=ws'.blk)∨pl.mf=some k) hKD ⟨pl,rfl,mb,md,ws',cs++[x],?_⟩ fun k hk=>?_
 ·have:=hfin.1
  rw[List.map_append,hw.waits] at this
  subst hx
  exact this
 ·rcases hfin.2.2 k hk with q|q
  ·exact .inl q
  ·have h1:=hg0.size
   have h2:=hk1.size
   have h3:=hg2.size
   have h4:=hk3.size
   have h5:=hg4.size
   have h6:=hg5.size
   exact .inr o_
open Go CF
def kD_ (w:World) (S:Nat→Prop) (B:Nat):Prop:=∀g cur,w.heap[g]?=some (.cells cur ae_ (0,0))→S g→B≤g
theorem bR_.b {w:World} {S:Nat→Prop} (h:bR_ w S) (B:Nat):kD_ w S B:=fun g cur hg q=>absurd q (h g cur hg)
def j1_ (w:World) (B:Nat) (v:Option Value) (l:Option L8):Prop:=iO_ w v l∧∀s:Sl,v=some (.slice s.A s.n s.c)→∀b,s.blk=some b→b<B
theorem j1_.keep {S:Nat→Prop} {w w':World} {B:Nat} {v:Option Value} {l:Option L8} (h:j1_ w B v l) (k:aa_ S w w') (hn:kD_ w S B):j1_ w' B v l:=by
 refine⟨?_,h.2⟩
 cases l with
 | none=>exact h.1
 | some l=>
  obtain⟨⟨s,h1,h2,h3⟩,hB⟩:=h
  refine⟨s,h1,h2.keep k fun b hb q=>?_,h3⟩
  obtain⟨cur,hc⟩:=a4_ h2 hb
  have:=hn b cur hc q
  have:=hB s h1 b hb
  omega
theorem iO_.toB {w:World} {v:Option Value} {l:Option L8} (h:iO_ w v l):j1_ w w.heap.size v l:=by
 refine⟨h,fun s hs b hb=>?_⟩
 cases l with
 | none=>rw[show v=none from h] at hs;cases hs
 | some l=>
  obtain⟨s',h1,h2,_⟩:=h
  rw[h1] at hs
  injection hs with hs
  injection hs with hA hn hc
  have:s'.blk=some b:=by rw[←hb];simp[Sl.blk,hA]
  obtain⟨cur,hc⟩:=a4_ h2 this
  exact aw_ hc
def lq_ (w:World) (mb:Nat) (F:a7_) (B:Nat):Prop:=∃m,kk_ w mb m∧∀s,j1_ w B (m s) (F s)
theorem lq_.keep {S:Nat→Prop} {w w':World} {mb B:Nat} {F:a7_} (h:lq_ w mb F B) (k:aa_ S w w') (hm:¬S mb) (hn:kD_ w S B):lq_ w' mb F B:=by
 obtain⟨m,h1,h2⟩:=h
 exact⟨m,h1.keep k hm,fun s=>(h2 s).keep k hn⟩
theorem lq_.isF {w:World} {mb B:Nat} {F:a7_} (h:lq_ w mb F B):IsF w mb F:=by
 obtain⟨m,h1,h2⟩:=h
 exact⟨m,h1,fun s=>(h2 s).1⟩
theorem IsF.toB {w:World} {mb:Nat} {F:a7_} (h:IsF w mb F):lq_ w mb F w.heap.size:=by
 obtain⟨m,h1,h2⟩:=h
 exact⟨m,h1,fun s=>(h2 s).toB⟩
def gY_ (w:World) (pw:Nat) (D:Nat→Prop) (st:Wst) (F:Int→Bool) (B:Nat):Prop:=∃pl,pl.F=F∧∃mb md ws cs,ca_ w pw D st pl mb md ws cs∧lq_ w mb st.seen B∧lq_ w md st.dur B∧∀c∈cs,∀b,c.2.blk=some b→b<B
section
variable {w u v:World} {pw B:Nat} {D S:Nat→Prop} {st:Wst} {F:Int→Bool} {k:Nat}
theorem gY_.isWq (h:gY_ w pw D st F B):ba_ w pw D st F:=by
 obtain⟨pl,hF,mb,md,ws,cs,h,_⟩:=h
 exact⟨pl,hF,mb,md,ws,cs,h⟩
theorem ba_.toB (h:ba_ w pw D st F):gY_ w pw D st F w.heap.size:=by
 obtain⟨pl,hF,mb,md,ws,cs,h⟩:=h
 refine⟨pl,hF,mb,md,ws,cs,h,h.seen.toB,h.dur.toB,fun c hc b hb=>?_⟩
 obtain⟨cur,hcur⟩:=a4_ (h.rows c hc) hb
 exact aw_ hcur
theorem gY_.keep (h:gY_ w pw D st F B) (k:aa_ S w u) (hd:∀k,D k→¬S k) (hs:kD_ w S B):gY_ u pw D st F B:=by
 obtain⟨pl,hF,mb,md,ws,cs,h,f1,f2,f3⟩:=h
 have hsz:=k.size
 have g1:=f1.keep k (hd _ h.db) hs
 have g2:=f2.keep k (hd _ h.dd) hs
 refine⟨pl,hF,mb,md,ws,cs,⟨k.heap h.blk (hd _ h.dw),g1.isF,g2.isF,h.ne,h.own.keep k fun b hb=>hd _ (h.ds b hb),h.waits,fun c hc=>(h.rows c hc).keep k fun b hb q=>?_,h.dw,h.db,h.dd,h.ds,fun k hk=>by have:=h.lt k hk;omega,fun g cur hg q=>?_,
  h.plan.keep k fun b hb=>hd _ (h.dp b hb),h.dp,h.np⟩,g1,g2,f3⟩
 ·obtain⟨cur,hcur⟩:=a4_ (h.rows c hc) hb
  have:=hs b cur hcur q
  have:=f3 c hc b hb
  omega
 ·have hlt:=h.lt g q
  have:=k.block g hlt (hd g q)
  exact h.nb g cur (by rw[←this];exact hg) q
theorem gY_.grow (h:gY_ w pw D st F B) (k:ab_ w u):gY_ u pw D st F B:=h.keep k (fun _ _ q=>q) ((bo_ w).b B)
def RdW (w u:World) (pw:Nat) (D:Nat→Prop) (st:Wst) (k:Nat):Prop:=∀F B,gY_ w pw D st F B→gY_ u pw D {st with ops:=st.ops+k} F B
theorem RdW.isWq (h:RdW w u pw D st k) (hw:ba_ w pw D st F):ba_ u pw D {st with ops:=st.ops+k} F:=(h _ _ hw.toB).isWq
theorem RdW.isW (h:RdW w u pw D st k) (hw:IsW w pw D st):IsW u pw D {st with ops:=st.ops+k}:=(h.isWq hw.q).isW
theorem RdW.grow (h:RdW w u pw D st k) (g:ab_ u v):RdW w v pw D st k:=fun F B hB=>(h F B hB).grow g
theorem uM_ {pl:Pl} {mb md:Nat} {ws:Sl} {cs:List (Cg×Sl)} (hw:ca_ w pw D st pl mb md ws cs) (hk:aa_ (fun k=>k=pw) w u) (hw1:ca_ u pw D {st with ops:=st.ops+1} pl mb md ws cs):RdW w u pw D st 1:=fun F B hB=>by
 obtain⟨pl',hF,mb',md',ws',cs',h,f1,f2,f3⟩:=hB
 have nbp:bR_ w fun k=>k=pw:=fun g cur hg q=>hw.nb g cur hg (by subst q;exact hw.dw)
 have e:=h.blk.symm.trans hw.blk
 injection e with e
 injection e with e
 have e:=congrArg Array.toList e
 simp only[em_,List.cons.injEq,Value.map.injEq,Option.some.injEq,Value.slice.injEq,true_and,and_true] at e
 obtain⟨rfl,rfl,⟨eA,en,ec⟩,em⟩:=e
 obtain⟨A,n,c⟩:=ws
 obtain⟨A',n',c'⟩:=ws'
 dsimp only at eA en ec
 subst eA en ec
 have nm:mb'≠pw:=fun q=>bX_ hw.seen _ _ _ (by rw[q];exact hw.blk)
 have nd:md'≠pw:=fun q=>bX_ hw.dur _ _ _ (by rw[q];exact hw.blk)
 refine⟨pl',hF,mb',md',_,cs',⟨by rw[em];exact hw1.blk,hw1.seen,hw1.dur,hw1.ne,h.own.keep hk fun b hb2 q=>?_,h.waits,fun c hc=>(h.rows c hc).keep hk fun b hb2=>?_,hw1.dw,hw1.db,hw1.dd,h.ds,hw1.lt,hw1.nb,h.plan.keep hk fun b hb2 q=>?_,h.dp,h.np⟩,f1.keep hk nm (nbp.b B),f2.keep hk nd (nbp.b B),f3⟩
 ·obtain⟨cur,hc⟩:=a4_ h.own hb2
  subst q
  exact absurd (bq_ hw.blk hc) d_
 ·obtain⟨cur,hc2⟩:=a4_ (h.rows c hc) hb2
  exact nbp b cur hc2
 ·obtain⟨es,c,hm⟩:=h.plan.map hb2
  subst q
  rw[h.blk] at hm;cases hm
end
open Go CF
theorem dg_ (l:L8):∀u∈bv l,u.oneCell'=true:=by
 intro u hu
 simp only[bv,List.mem_map] at hu
 obtain⟨p,_,rfl⟩:=hu;rfl
theorem oo_ {s:ByteArray} {w:World} {R:Bool→W_} (h:R (decide (1≤s.size∧s.size≤32)) w):hs_ s w R:=by
 refine fY_.calls _ _ _ ?_
 have e:((decide ((s.size:Int)≥1))&&(decide ((s.size:Int)≤32)))=decide (1≤s.size∧s.size≤32):=by
  rw[Bool.eq_iff_iff,Bool.and_eq_true,decide_eq_true_eq,decide_eq_true_eq,decide_eq_true_eq]
  omega
 unfold fY_
 rw[e]
 exact h
theorem nc_ {w:World} {pw:Nat} {D:Nat→Prop} {st:Wst} {F:Int→Bool} {file:ByteArray} {off:Nat} {p:Sl} {bs:L8} {R:Int→W_} (hw:ba_ w pw D st F) (hs:1≤file.size∧file.size≤32) (hp:Rd w 1 p (bv bs)) (hb:off+bs.length≤1048576)
  (ho:st.ops<1000000000000) (hn:st.waits.length<1000000000)
  (h:F (st.ops:Int)=false→∀w' D',aa_ D w w'→ba_ w' pw D' ⟨bF_ st.seen file off bs,st.dur,st.waits++[⟨119,file,⟨#[]⟩,off,bs⟩],st.ops+1⟩ F→(∀k,D' k→D k∨w.heap.size≤k)→R 0 w')
  (hbad:F (st.ops:Int)=true→∀w',aa_ D w w'→ba_ w' pw D {st with ops:=st.ops+1} F→R 6 w') :
  fo_ (some ⟨pw,0,none⟩) file (off:Int) p w R:=by
 refine dA_.calls _ _ _ _ _ _ ?_
 have hpn:bs.length=p.n:=by have:=hp.len;rw[az_] at this;omega
 refine oo_ ?_
 rw[decide_eq_true hs]
 refine aj_ (by rw[Bool.or_eq_false_iff,decide_eq_false_iff_not];exact⟨rfl,o_⟩) ?_
 have hwp:IntKind.wrap .i64 (1048576-(off:Int))=1048576-(off:Int):=w64 o_ o_
 refine aj_ (by rw[Bool.or_eq_false_iff,decide_eq_false_iff_not,decide_eq_false_iff_not,hwp];omega) (aj_ rfl ?_)
 refine aZ_ (s:=⟨none,0,0⟩) (vs:=[]) (base:=0) aX_ bE_ rfl d_ d_ (aH_ _ _ _ _) hp (dg_ _) (by show(0+p.n)*1≤_;omega) (Nat.zero_le _) fun s1 w1 hn1 hown1 hk1 _=>?_
 have hg1:ab_ w w1:=hk1.mono fun i hi q=>by cases q
 rw[List.nil_append] at hown1
 have hsz:=hg1.size
 refine uL_ (hw.grow hg1) hown1 hb ho hn (fun hf w2 D' hk2 hw2 hD=>h hf w2 D' ((hg1.mono fun _ _ q=>q.elim).trans hk2 fun _ _ q=>q) hw2 fun k hk=>?_) (fun hf w2 hk2 hw2=>hbad hf w2 ((hg1.mono fun _ _ q=>q.elim).trans hk2 fun _ _ q=>q) hw2)
 rcases hD k hk with q|q
 ·exact .inl q
 ·exact .inr o_
theorem jn_ {w:World} {pw:Nat} {D:Nat→Prop} {st:Wst} {F:Int→Bool} {file:ByteArray} {off n:Nat} {R:Sl→Int→W_} (hw:ba_ w pw D st F) (hs:1≤file.size∧file.size≤32) (hb:off≤1000000000) (hb2:n≤1000000000)
  (ho:st.ops<1000000000000)
  (h:F (st.ops:Int)=false→∀s w',aa_ D w w'→RdW w w' pw D st 1→Own w' w.heap.size ae_ 1 s (bv ((((st.seen file).getD []).drop off).take n))→s.n≤1048576→R s (if (st.seen file).isSome then 0 else 8) w')
  (hbad:F (st.ops:Int)=true→∀w',aa_ D w w'→RdW w w' pw D st 1→R ⟨none,0,0⟩ 6 w') :
  cL_ (some ⟨pw,0,none⟩) file (off:Int) (n:Int) w R:=by
 obtain⟨pl,hF,mb,md,ws,cs,hw⟩:=hw
 subst hF
 refine d8_.calls _ _ _ _ _ _ ?_
 refine oo_ ?_
 rw[decide_eq_true hs]
 refine aj_ (by rw[Bool.or_eq_false_iff,Bool.or_eq_false_iff,decide_eq_false_iff_not,decide_eq_false_iff_not];exact⟨⟨rfl,o_⟩,o_⟩) (aj_ rfl ⟨rfl,some mb,by rw[gA,aq_,hw.blk.cell];rfl,?_⟩)
 obtain⟨r,hlk,_,hown,hr2,hol⟩:=on_ hw.seen file
 refine⟨r,hlk,?_⟩
 refine mL_ hw ho fun w1 hk1 hw1=>?_
 have hkD:aa_ D w w1:=hk1.mono fun _ _ q=>by subst q;exact hw.dw
 have hw1':RdW w w1 pw D st 1:=uM_ hw hk1 hw1
 have hsz:=hk1.size
 cases hfl:pl.F (st.ops:Int) with
 | true=>exact am_ rfl (hbad hfl w1 hkD hw1')
 | false=>
 have h:=h hfl
 refine aj_ rfl ?_
 cases hF:st.seen file with
 | none=>
  rw[hF] at hr2
  refine am_ (by rw[hr2];rfl) ?_
  have:=h ⟨none,0,0⟩ w1 hkD hw1'
  rw[hF] at this
  exact this (by simp only[Option.getD_none,List.drop_nil,List.take_nil];exact aH_ _ _ _ _) (Nat.zero_le _)
 | some l=>
  rw[hF] at hr2 hown hol h
  simp only[Option.getD_some,Option.isSome_some,if_true] at hr2 hown hol h
  refine aj_ (by rw[hr2];rfl) ?_
  have hln:l.length=r.1.n:=by have:=hown.len;rw[az_] at this;omega
  have hown1:Own w1 0 ae_ 1 r.1 (bv l):=hown.keep hk1 fun b hb3 q=>by
   obtain⟨cur,hc⟩:=a4_ hown hb3
   subst q
   exact absurd (bq_ hw.blk hc) d_
  refine a2_ (fun hge=>?_) (fun hlt=>?_)
  ·have:=h ⟨none,0,0⟩ w1 hkD hw1'
   rw[List.drop_of_length_le o_,List.take_nil] at this
   exact this (aH_ w1 w.heap.size ae_ 1) (Nat.zero_le _)
  ·have hrd:=hown1.rd o_
   have hcap:=hrd.cap
   have e1:IntKind.wrap .i64 ((r.1.n:Int)-(off:Int))=((r.1.n-off:Nat):Int):=by rw[w64 o_ o_];omega
   have e2:IntKind.wrap .i64 ((off:Int)+(mn (n:Int) (IntKind.wrap .i64 ((r.1.n:Int)-(off:Int)))))=((off+min n (r.1.n-off):Nat):Int):=by
    rw[e1,tu_,w64 o_ o_];omega
   rw[e2]
   refine⟨⟨o_,o_,o_,hcap⟩,?_⟩
   simp only[Int.toNat_natCast]
   have hx:=hrd.cutB (l:=off) (k:=off+min n (r.1.n-off)) o_ o_
   refine aZ_ (s:=⟨none,0,0⟩) (vs:=[]) (base:=w.heap.size) aX_ bE_ rfl d_ d_ (aH_ _ _ _ _) hx (dg_ _) (by show(0+(off+min n (r.1.n-off)-off))*1≤_;omega) hsz fun s2 w2 hn2 hown2 hk2 _=>?_
   have hg2:ab_ w1 w2:=hk2.mono fun i hi q=>by cases q
   rw[List.nil_append] at hown2
   have e3:(l.drop off).take (off+min n (r.1.n-off)-off)=(l.drop off).take n:=by
    rw[show off+min n (r.1.n-off)-off=min n (l.drop off).length by rw[List.length_drop];omega]
    rcases Nat.le_total n (l.drop off).length with q|q
    ·rw[Nat.min_eq_left q]
    ·rw[Nat.min_eq_right q,List.take_length,List.take_of_length_le q]
   rw[e3] at hown2
   refine h s2 w2 (hkD.grow hg2) (hw1'.grow hg2) hown2 ?_
   have:s2.n=0+(off+min n (r.1.n-off)-off):=hn2
   omega
theorem mN_ {w:World} {pw:Nat} {D:Nat→Prop} {st:Wst} {file:ByteArray} {off n:Nat} {R:Sl→Int→W_} (hw:IsW w pw D st) (hs:1≤file.size∧file.size≤32) (hb:off≤1000000000) (hb2:n≤1000000000)
  (ho:st.ops<1000000000000)
  (h:∀s w',aa_ D w w'→RdW w w' pw D st 1→Own w' w.heap.size ae_ 1 s (bv ((((st.seen file).getD []).drop off).take n))→s.n≤1048576→R s (if (st.seen file).isSome then 0 else 8) w') :
  cL_ (some ⟨pw,0,none⟩) file (off:Int) (n:Int) w R:=
 jn_ hw.q hs hb hb2 ho (fun _ s w' k r=>h s w' k r) (fun q=>by cases q)
theorem nd_ {w:World} {pw:Nat} {D:Nat→Prop} {st:Wst} {file:ByteArray} {off n:Nat} {R:Sl→Int→W_} (hw:IsW w pw D st) (hs:1≤file.size∧file.size≤32) (hb:off≤1000000000) (hb2:n≤1000000000)
  (ho:st.ops<1000000000000)
  (h:∀s w',aa_ D w w'→IsW w' pw D {st with ops:=st.ops+1}→Own w' w.heap.size ae_ 1 s (bv ((((st.seen file).getD []).drop off).take n))→s.n≤1048576→R s (if (st.seen file).isSome then 0 else 8) w') :
  cL_ (some ⟨pw,0,none⟩) file (off:Int) (n:Int) w R:=mN_ hw hs hb hb2 ho fun s w' k r=>h s w' k (r.isW hw)
end Go.Proofs.YtpmebahhjgkflaaGreatDoor
namespace Go.Proofs.YtpmebahhjgkflaaGreatDoor.CF
open Go Go.RowKit
set_option maxRecDepth 100000
section
variable {H:Type} {enc:TypeId×Value→H} {P:Program} {w:World} {base:Nat} {spare:Nat→Bool} {held:Bool}
def xF_ (P:Program) (t:TypeId) (d:DataW H):Prop:=∀m∈d.weights P t,m≤reachBytes
def hG_ (enc:TypeId×Value→H) (P:Program) (w:World) (base:Nat) (spare:Nat→Bool) (held:Bool) (t:TypeId) (Φ:List Value→Prop):Prop:=
 ∀n cs x,DataW.trod enc P w base spare held n t cs=some x→xF_ P t x.1→Φ cs
theorem j2_ {e:TypeId}:∀{ds:List (DataW H)} {d:DataW H},d∈ds→∀m∈d.weights P e,m∈DataW.weightsAll P e ds
 | d0::ds,d,hd,m,hm=>by
  simp only[DataW.weightsAll,List.mem_append]
  rcases List.mem_cons.1 hd with rfl|h
  ·exact .inl hm
  ·exact .inr (j2_ h m hm)
theorem sc_ {t:TypeId} (ht:P.underlying t=some .bool):hG_ enc P w base spare held t fun cs=>∃b,cs = [.bool b]:=fun _ _ _ h _=>by
 obtain⟨b,hb,_⟩:=DataW.trod_bool ht h;exact⟨b,hb⟩
theorem ty_ {t:TypeId} {k:IntKind} (ht:P.underlying t=some (.int k)):hG_ enc P w base spare held t fun cs=>∃n,cs = [.int k n]∧(Lit.int k n).wf=true:=fun _ _ _ h _=>by
 obtain⟨n,hn,_,hw⟩:=DataW.trod_int ht h;exact⟨n,hn,hw⟩
theorem tz_ {t:TypeId} (ht:P.underlying t=some .string):hG_ enc P w base spare held t fun cs=>∃l:L8,cs = [.string (str l)]∧l.length≤140737488351232:=fun _ _ x h hl=>by
 obtain⟨s,hs,hx,_⟩:=DataW.trod_string ht h
 refine⟨ls s,by rw[hs,pI_],?_⟩
 have:=hl (ls s).length (by rw[hx];simp[DataW.weights,ls])
 exact this
theorem qT_ {t e:TypeId} {k:Nat} (ht:P.underlying t=some (.array k e)) {φ:List Value→Prop} (hf:hG_ enc P w base spare held e φ) :
  hG_ enc P w base spare held t fun cs=>cs.length=P.cellsOf t∧∀i,i<k→φ ((cs.drop (i*P.cellsOf e)).take (P.cellsOf e)):=fun n cs x h hw=>by
 obtain⟨xs,n',_,hx,hcl,hxl,heach⟩:=DataW.trod_array ht h
 refine⟨hcl,fun i hi=>?_⟩
 have hi':i<xs.length:=o_
 have he:=heach i hi
 rw[List.getElem?_eq_getElem hi'] at he
 refine hf n' _ _ he fun m hm=>hw m ?_
 rw[hx]
 show m∈DataW.weights P t (.agg (xs.map (·.1)))
 rw[DataW.weights,ht]
 exact j2_ (List.mem_map.2 ⟨xs[i],List.getElem_mem hi',rfl⟩) m hm
theorem hG_.mono {t:TypeId} {Φ Ψ:List Value→Prop} (h:hG_ enc P w base spare held t Φ) (hi:∀cs,Φ cs→Ψ cs):hG_ enc P w base spare held t Ψ:=fun n cs x ht hl=>hi cs (h n cs x ht hl)
def okV:Value→Prop
 | .int k n=>(Lit.int k n).wf=true
 | .string s=>s.size≤140737488351232
 | _=>True
theorem mh_ (t:TypeId):P.cellsOf t=b8_ P t:=by
 unfold Program.cellsOf b8_
 cases P.info? t<;>rfl
theorem a1_.join:∀{ks ls:List Kd} {a b:List Value},a1_ ks a→a1_ ls b→a1_ (ks++ls) (a++b)
 | [],_,[],_,_,h=>h
 | _::_,_,_::_,_,h,h'=>⟨h.1,a1_.join h.2 h'⟩
 | [],_,_::_,_,h,_=>h.elim
 | _::_,_,[],_,h,_=>h.elim
theorem lr_ {rec:TypeId→Option (List Kd)} {cs:List Value}:∀(l:List Field) (off:Nat) (ks:List Kd),iH_ rec P l off=some ks→
  (∀f∈l,∀ls,rec f.type=some ls→P.cellsOf f.type=ls.length→a1_ ls ((cs.drop f.offset).take ls.length)∧∀v∈(cs.drop f.offset).take ls.length,okV v)→
  a1_ ks ((cs.drop off).take ks.length)∧∀v∈(cs.drop off).take ks.length,okV v
 | [],off,ks,h,_=>by
  simp only[iH_,Option.some.injEq] at h
  subst h
  exact⟨by simp[a1_],by simp⟩
 | f::r,off,ks,h,hf=>by
  simp only[iH_] at h
  split at h
  ·rename_i ks1 h1 h2 h3
   split at h
   ·rename_i l h4 h5
    simp only[Option.some.injEq] at h
    subst h
    have ho:f.offset=off:=Nat.eq_of_beq_eq_true h2
    have hz:b8_ P f.type=ks1.length:=Nat.eq_of_beq_eq_true h4
    obtain⟨a1,a2⟩:=hf f (by simp) ks1 h3 (by rw[mh_,hz])
    obtain⟨b1,b2⟩:=lr_ r (off+ks1.length) l h5 fun g hg=>hf g (by simp[hg])
    rw[ho] at a1 a2
    have e:(cs.drop off).take (ks1++l).length=(cs.drop off).take ks1.length++(cs.drop (off+ks1.length)).take l.length:=by
     rw[List.length_append,List.take_add,List.drop_drop]
    rw[e]
    refine⟨a1.join b1,fun v hv=>?_⟩
    rcases List.mem_append.1 hv with q|q
    ·exact a2 v q
    ·exact b2 v q
   ·cases h
  ·cases h
theorem ne_ {ks:List Kd}:∀(n:Nat) (cs:List Value),cs.length=n*ks.length→(∀i,i<n→a1_ ks ((cs.drop (i*ks.length)).take ks.length))→a1_ (mC_ n ks) cs
 | 0,cs,hl,_=>by
  have:cs = []:=List.eq_nil_of_length_eq_zero (by simpa using hl)
  subst this;trivial
 | n+1,cs,hl,h=>by
  have h0:=h 0 o_
  rw[Nat.zero_mul,List.drop_zero] at h0
  have hr:=ne_ (ks:=ks) n (cs.drop ks.length) (by rw[List.length_drop,hl,Nat.succ_mul];omega) fun i hi=>by
   have:=h (i+1) o_
   rwa [Nat.succ_mul,Nat.add_comm,←List.drop_drop] at this
  have:=h0.join hr
  rwa [List.take_append_drop] at this
theorem kE_:∀(d:Nat) (t:TypeId) (ks:List Kd),dQ_ P d t=some ks→P.cellsOf t=ks.length→hG_ enc P w base spare held t fun cs=>a1_ ks cs∧∀v∈cs,okV v
 | 0,t,ks,h,_=>by cases h
 | d+1,t,ks,h,hz=>by
  unfold dQ_ at h
  split at h
  ·rename_i hu
   cases h
   refine(sc_ hu).mono ?_
   rintro cs ⟨b,rfl⟩
   exact⟨⟨rfl,trivial⟩,by simp[okV]⟩
  ·rename_i k hu
   cases h
   refine(ty_ hu).mono ?_
   rintro cs ⟨b,rfl,hw⟩
   exact⟨⟨by simp only[Kd.fit];cases k<;>rfl,trivial⟩,by simpa [okV] using hw⟩
  ·rename_i hu
   cases h
   refine(tz_ hu).mono ?_
   rintro cs ⟨b,rfl,hw⟩
   exact⟨⟨rfl,trivial⟩,by simpa [okV,mB_] using hw⟩
  ·rename_i fs hu
   split at h
   ·intro n cs x hx hw
    obtain⟨xs,n',_,hxe,hcl,hxl,heach⟩:=DataW.trod_struct hu hx
    have:=lr_ (P:=P) (cs:=cs) fs.toList 0 ks h ?_
    ·rw[List.drop_zero,←hz,←hcl,List.take_length] at this
     exact this
    ·intro f hf ls hls hlz
     obtain⟨i,hi,rfl⟩:=List.getElem_of_mem hf
     have hi':i<fs.size:=by simpa using hi
     have hfi:fs[i]?=some fs.toList[i]:=by rw[Array.getElem?_eq_getElem hi'];rfl
     have hix:i<xs.length:=by rw[hxl];exact hi'
     have he:=heach i _ hfi
     rw[List.getElem?_eq_getElem hix,hlz] at he
     refine kE_ d _ ls hls hlz n' _ _ he fun m hm=>hw m ?_
     rw[hxe]
     show m∈DataW.weights P t (.agg (xs.map (·.1)))
     rw[DataW.weights,hu]
     refine DataW.weights_mem_each (j:=i) (t:=fs.toList[i].type) (d:=xs[i].1) ?_ ?_ m hm
     ·rw[List.getElem?_map,List.getElem?_eq_getElem hi];rfl
     ·rw[List.getElem?_map,List.getElem?_eq_getElem hix];rfl
   ·cases h
  ·rename_i k e hu
   split at h
   ·rename_i ls hls
    split at h
    ·rename_i hbe
     cases h
     have hze:P.cellsOf e=ls.length:=by rw[mh_];exact Nat.eq_of_beq_eq_true hbe
     refine(qT_ hu (kE_ d e ls hls hze)).mono ?_
     rintro cs ⟨hcl,hall⟩
     rw[hz,hq_] at hcl
     rw[hze] at hall
     refine⟨ne_ k cs hcl fun i hi=>(hall i hi).1,fun v hv=>?_⟩
     obtain⟨j,hj,rfl⟩:=List.getElem_of_mem hv
     have hl0:0<ls.length:=by
      rcases Nat.eq_zero_or_pos ls.length with q|q
      ·rw[hcl,q] at hj;omega
      ·exact q
     have hq:j/ls.length<k:=Nat.div_lt_of_lt_mul (by rw[Nat.mul_comm,←hcl];exact hj)
     refine(hall _ hq).2 _ (List.mem_iff_getElem?.2 ⟨j%ls.length,?_⟩)
     rw[List.getElem?_take,if_pos (Nat.mod_lt _ hl0),List.getElem?_drop,Nat.mul_comm,Nat.div_add_mod,List.getElem?_eq_getElem hj]
    ·cases h
   ·cases h
  ·cases h
end
theorem oV_ {P:Program} {f:FuncId} {args:A_} {w:World} (h:al_ P f args w [.b] fun b w'=>b=true∧ab_ w w') :
  Calls P f args w fun e w'=>e=.returned (.bool true)∧Below w.heap.size w w':=
 h.mono fun e w' hx=>by
  obtain⟨x,hx,hb,hg⟩:=hx
  have hb:x=true:=hb
  subst hb
  exact⟨hx,aa_.below hg⟩
end Go.Proofs.YtpmebahhjgkflaaGreatDoor.CF
namespace Go.Proofs.YtpmebahhjgkflaaGreatDoor
open Go CF
set_option maxRecDepth 100000
def num (l:L8):Nat:=l.foldl (fun v b=>v*256+b.toNat) 0
theorem uN_ (l:L8) (b:UInt8):num (l++[b])=num l*256+b.toNat:=by simp[num,List.foldl_append]
theorem j3_ (l:L8):num l<256 ^ l.length:=by
 have key:∀(l:L8) (v:Nat),l.foldl (fun v b=>v*256+b.toNat) v<(v+1)*256 ^ l.length:=by
  intro l
  induction l with
  | nil=>intro v;simp
  | cons b r ih=>
   intro v
   rw[List.foldl_cons,List.length_cons,Nat.pow_succ]
   have h1:=ih (v*256+b.toNat)
   have h2:=b.toNat_lt
   have h3:(v*256+b.toNat+1)*256 ^ r.length≤(v+1)*256*256 ^ r.length:=Nat.mul_le_mul_right _ o_
   have h4:(v+1)*256*256 ^ r.length=(v+1)*(256 ^ r.length*256):=by rw[Nat.mul_assoc,Nat.mul_comm 256]
   omega
 have:=key l 0
 rw[Nat.zero_add,Nat.one_mul] at this
 exact this
theorem wd_ {a b:Nat} (ha:a<72057594037927936) (hb:b<256):bOr .u64 ((a*256:Nat):Int) (b:Int)=((a*256+b:Nat):Int):=by
 unfold bOr
 show IntKind.wrap .u64 (((BitVec.ofInt 64 ((a*256:Nat):Int) ||| BitVec.ofInt 64 (b:Int)).toNat:Nat):Int)=_
 rw[BitVec.ofInt_natCast,BitVec.ofInt_natCast,BitVec.toNat_or,BitVec.toNat_ofNat,BitVec.toNat_ofNat,Nat.mod_eq_of_lt o_,Nat.mod_eq_of_lt o_]
 have e:a*256 ||| b=a*256+b:=by
  have:=Nat.shiftLeft_add_eq_or_of_lt (i:=8) (b:=b) o_ a
  rw[Nat.shiftLeft_eq] at this
  exact this.symm
 rw[e]
 exact h3_ o_ o_
theorem yb_ {a:Nat} (ha:a<72057594037927936):cl_ .u64 (a:Int) 8=((a*256:Nat):Int):=by
 unfold cl_
 have e:(min 8 (IntKind.bits .u64))=8:=d_
 rw[e,h3_ o_ o_]
 omega
theorem gu_ {p:Sl} {l:L8} {at_ n:Nat} {w:World} {R:Int→Int→W_} (hp:Rd w 1 p (bv l)) (hb:p.n≤140737489403904) (hn:1≤n) (hn8:n≤8) (hat:at_+n≤l.length)
  (h:R ((num ((l.drop at_).take n):Nat):Int) 0 w):fB_ p (at_:Int) (n:Int) w R:=by
 refine lS_.calls _ _ _ _ _ ?_
 have hln:l.length=p.n:=by have:=hp.len;rw[az_] at this;omega
 have hcap:=hp.cap
 refine hV_.calls _ _ _ _ _ ?_
 have e1:IntKind.wrap .i64 ((p.n:Int)-(n:Int))=(p.n:Int)-(n:Int):=w64 o_ o_
 refine aj_ (by rw[Bool.or_eq_false_iff,decide_eq_false_iff_not,decide_eq_false_iff_not];omega) (aj_ (by rw[Bool.or_eq_false_iff,decide_eq_false_iff_not,decide_eq_false_iff_not,e1];omega) (aj_ rfl ?_))
 have e2:IntKind.wrap .i64 ((at_:Int)+(n:Int))=((at_+n:Nat):Int):=by rw[w64 o_ o_];omega
 rw[e2]
 simp only[Int.toNat_natCast]
 refine⟨⟨o_,o_,o_,hcap⟩,?_⟩
 have hx:=hp.cutB (l:=at_) (k:=at_+n) o_ o_
 rw[show at_+n-at_=n by omega] at hx
 generalize hseg:(l.drop at_).take n=seg at *
 have hsl:seg.length=n:=by rw[←hseg,List.length_take,List.length_drop];omega
 refine⟨fun v x w'=>w'=w∧∃j:Nat,x=j∧j≤n∧v=((num (seg.take j):Nat):Int),fun _ x _=>n-x.toNat,⟨rfl,0,rfl,Nat.zero_le _,rfl⟩,?_⟩
 rintro v x w0 ⟨rfl,j,rfl,hj,rfl⟩
 refine bl_ (fun hlt=>?_) (fun hge=>?_)
 ·obtain⟨a,ha,hc⟩:=hx.byte (i:=j) (by show j<n;omega)
  have ha:aM_ p.A p.c at_ 1=some a:=ha
  have hjs:j<seg.length:=o_
  refine⟨⟨o_,o_,by rw[ha];rfl⟩,((seg[j]).toNat:Int),by rw[ha];exact hc,?_⟩
  have hnl:=j3_ (seg.take j)
  have hb8:=seg[j].toNat_lt
  have hsm:num (seg.take j)<72057594037927936:=by
   refine Nat.lt_of_lt_of_le hnl ?_
   rw[List.length_take,Nat.min_eq_left o_]
   calc 256 ^ j≤256 ^ 7:=Nat.pow_le_pow_right d_ o_
    _=72057594037927936:=d_
  rw[yb_ hsm,h3_ o_ o_,wd_ hsm o_,w64 o_ o_]
  refine⟨⟨rfl,j+1,o_,o_,?_⟩,by dsimp only;omega⟩
  rw[List.take_succ_eq_append_getElem hjs,uN_]
 ·have:j=n:=o_
  subst this
  rw[List.take_of_length_le o_]
  exact h
structure Bk where
 d:L8
 g:Nat
 a:Nat
 r:Nat
 hd:d.length=16
 hg:g<65536
 ha:a<65536
 hr:r<4294967296
def bc (b:Bk):List Value:=bv b.d++[.int .u16 (b.g:Int),.int .u16 (b.a:Int),.int .u32 (b.r:Int)]
theorem fZ_ (b:Bk):(bc b).length=19:=by simp[bc,az_,b.hd]
def wY_:Bk:=⟨[0,0,0,0,0,0,0,0,0,0,0,0,0,0,0,0],65535,65535,4294967295,rfl,d_,d_,d_⟩
def be2 (n:Nat):L8:=[UInt8.ofNat (n/2 ^ 8),UInt8.ofNat n]
def be4 (n:Nat):L8:=[UInt8.ofNat (n/2 ^ 24),UInt8.ofNat (n/2 ^ 16),UInt8.ofNat (n/2 ^ 8),UInt8.ofNat n]
def yc_ (b:Bk):L8:=[1]++b.d++(be2 b.g++be2 b.a)++be4 b.r
theorem bt_ (n:Nat):IntKind.wrap .u8 (n:Int)=((UInt8.ofNat n).toNat:Int):=by
 rw[UInt8.toNat_ofNat']
 have e:IntKind.wrap .u8 (n:Int)=(n:Int)%256:=by simp[IntKind.wrap,IntKind.signed,IntKind.bits]
 rw[e]
 omega
theorem shr (k:IntKind) (n s:Nat) (hs:s≤k.bits):bK_ k (n:Int) s=((n/2 ^ s:Nat):Int):=by
 unfold bK_
 rw[Nat.min_eq_left hs,show((2:Int) ^ s)=((2 ^ s:Nat):Int) by norm_cast]
 exact(Int.ofNat_fdiv n (2 ^ s)).symm
open Go CF
theorem fp_ {P:Program} {w:World} {b o:Nat} {t ty:TypeId} {zv:Option Value} {z bytes:Nat} {old cells:A_} (hb:Blk w b old t) (hinfo:(P.info? ty).map (fun i=>(i.zero,i.size,i.bytes))=some (zv,z,bytes)) (hz:z=cells.size) (ho:o+cells.size≤old.size)
  (h1:∀v∈cells.toList,v.oneCell'=true) {K:W_} (h:∀w1,Blk w1 b (old.toList.take o++cells.toList++old.toList.drop (o+cells.size)).toArray t→aa_ (fun k=>k=b) w w1→w1.heap.size=w.heap.size→K w1):ah_ P (storeVar ty ⟨b,o,none⟩ (.agg cells)) w K:=by
 obtain⟨i,hi,hzz⟩:=Option.map_eq_some_iff.1 hinfo
 simp only[Prod.mk.injEq] at hzz
 have hst:=run_storeCells_at P b o t cells.toList 0 old w hb (by simpa using ho) h1
 have hs:cells.size=i.size:=o_
 refine⟨_,?_,h (w.setRow b (old.toList.take o++cells.toList++old.toList.drop (o+cells.size)).toArray) (setRow_heap w b old _ t (0,0) hb) ⟨rfl,rfl,rfl,by simp,fun k _ hn=>setRow_other w b k _ hn⟩ (by simp)⟩
 simp only[Nat.add_zero,Array.length_toList] at hst
 simp[storeVar,sizeOf,typeInfo,hi,Value.cells,hs]
 rw[hs,List.append_assoc] at hst
 exact hst
theorem xG_ (b:Bk):(bc b).toArray[16]?=some (.int .u16 (b.g:Int))∧(bc b).toArray[17]?=some (.int .u16 (b.a:Int))∧(bc b).toArray[18]?=some (.int .u32 (b.r:Int)):=by
 have hl:(bv b.d).length=16:=by rw[az_,b.hd]
 refine⟨?_,?_,?_⟩<;>·simp only[bc,List.getElem?_toArray];rw[List.getElem?_append_right o_,hl];rfl
theorem rt_ (b:Bk):∀v∈bc b,v.oneCell'=true:=by
 intro v hv
 rcases List.mem_append.1 hv with q|q
 ·exact dg_ _ v q
 ·simp only[List.mem_cons,List.not_mem_nil,or_false] at q
  rcases q with rfl|rfl|rfl<;>rfl
theorem wZ_ (b:Bk):((bc b).toArray.all (·.oneCell'))=true:=by
 rw[Array.all_eq_true_iff_forall_mem];intro v hv;exact rt_ b v (by simpa using hv)
theorem w0_ (l:L8) (h:l.length=2):num l<65536:=by have:=j3_ l;rw[h] at this;exact this
theorem uO_ (l:L8) (h:l.length=4):num l<4294967296:=by have:=j3_ l;rw[h] at this;exact this
def xH_ (l:L8):Bk:=
 if h:25≤l.length∧l[0]?=some 1 then
  ⟨(l.drop 1).take 16,num ((l.drop 17).take 2),num ((l.drop 19).take 2),num ((l.drop 21).take 4),by simp;omega,w0_ _ (by simp;omega),w0_ _ (by simp;omega),uO_ _ (by simp;omega)⟩
 else wY_
open Go CF
def Good (f:L8):Prop:=∀j:Nat,f.getD (25*j) 0=1→25*j+25≤f.length
def sd_ (f:L8) (j:Nat):Bk:=xH_ ((f.drop (25*j)).take 25)
theorem uP_:Good []:=fun j h=>by simp at h
open Go CF
def w1_ (pw:Nat) (file:ByteArray) (blocks:Nat) (cache:Bool):A_:=#[.pointer (some ⟨pw,0,none⟩),.string file,.int .i64 (blocks:Int),.bool cache]
abbrev IsS (w:World) (ps pw:Nat) (file:ByteArray) (blocks:Nat) (cache:Bool):Prop:=Blk w ps (w1_ pw file blocks cache) k5_
theorem tA_ {w:World} {pw:Nat} {file:ByteArray} {blocks:Nat} {cache:Bool} {R:O_→Int→W_} (hs:1≤file.size∧file.size≤32) (hb:1≤blocks∧blocks≤4096)
  (h:∀ps w',ps=w.heap.size→ab_ w w'→IsS w' ps pw file blocks cache→R (some ⟨ps,0,none⟩) 0 w'):jA_ (some ⟨pw,0,none⟩) file (blocks:Int) cache w R:=by
 refine hv_.calls _ _ _ _ _ _ ?_
 refine aj_ (by rw[Bool.or_eq_false_iff,Bool.or_eq_false_iff,Bool.or_eq_false_iff,decide_eq_false_iff_not,decide_eq_false_iff_not,decide_eq_false_iff_not,decide_eq_false_iff_not];omega) (aj_ rfl ?_)
 exact ag_ fun ps w1 hps hb1 hg1 _=>h ps w1 hps hg1 hb1
def gj_ (st:Wst) (file:ByteArray) (o:Nat) (r:L8):Wst:=⟨bF_ st.seen file o r,st.dur,st.waits++[⟨119,file,⟨#[]⟩,o,r⟩],st.ops+1⟩
def nZ_ (st:Wst) (file:ByteArray) (lba:Nat) (rs:Nat→L8):Nat→Wst
 | 0=>st
 | k+1=>gj_ (nZ_ st file lba rs k) file (25*(lba+k)) (rs k)
open Go CF
theorem ba_.lt {w:World} {pw:Nat} {D:Nat→Prop} {st:Wst} {F:Int→Bool} (h:ba_ w pw D st F) {k:Nat} (hk:D k):k<w.heap.size:=by
 obtain⟨_,_,mb,md,ws,cs,h⟩:=h
 exact h.lt k hk
def yd_ (bs:List Bk) (i:Nat):L8:=match bs[i]? with|some b=>yc_ b|none=>[]
theorem se_ {w:World} {s:Sl} {bs:List Bk} (h:Rd w 19 s (bs.flatMap bc)):bs.length=s.n:=by
 have:=h.len;rw[cY_ fZ_] at this;omega
theorem mO_ {w:World} {s:Sl} {bs:List Bk} (h:Rd w 19 s (bs.flatMap bc)) {i:Nat} (hi:i<bs.length):∃a,s.A=some a∧bY_ w (a.add (i*19)) (bc bs[i]):=by
 obtain⟨a,ha,hc⟩:=h.elem (i:=i) (by rw[←se_ h];exact hi) d_
 exact⟨a,ha,by rw[gC_ fZ_ hi] at hc;exact hc⟩
def hf_ (st:Wst) (file:ByteArray) (lba n:Nat):List Bk:=(List.range n).map fun i=>sd_ ((st.seen file).getD []) (lba+i)
theorem tB_ (w:World) (b:Bk):(Instr.buildSlice jX_ 1 #[(0,.agg (bc b).toArray)]).run Tryz.prog w=.ok (.slice (some ⟨w.heap.size,0,none⟩) 1 1) (w.alloc (.cells (bc b).toArray aG_)):=by
 obtain⟨d,g,a,r,hd,hg,ha,hr⟩:=b
 match d,hd with
 | [x0,x1,x2,x3,x4,x5,x6,x7,x8,x9,x10,x11,x12,x13,x14,x15],_=>
  show(Instr.buildSlice jX_ 1 #[(0,.agg #[.int .u8 (x0.toNat:Int),.int .u8 (x1.toNat:Int),.int .u8 (x2.toNat:Int),.int .u8 (x3.toNat:Int),.int .u8 (x4.toNat:Int),.int .u8 (x5.toNat:Int),.int .u8 (x6.toNat:Int),.int .u8 (x7.toNat:Int),.int .u8 (x8.toNat:Int),.int .u8 (x9.toNat:Int),.int .u8 (x10.toNat:Int),.int .u8 (x11.toNat:Int),.int .u8 (x12.toNat:Int),.int .u8 (x13.toNat:Int),.int .u8 (x14.toNat:Int),.int .u8 (x15.toNat:Int),.int .u16 (g:Int),.int .u16 (a:Int),.int .u32 (r:Int)])]).run Tryz.prog w=_
  kernel_rfl
open Go CF
def w2_:Nat:=0x82f63b78
def mP_ (s:Nat):Nat:=if s%2=1 then(s/2) ^^^ w2_ else s/2
def o4_:Nat→Nat→Nat
 | 0,s=>s
 | k+1,s=>mP_ (o4_ k s)
def sf_ (s:Nat) (b:UInt8):Nat:=o4_ 8 (s ^^^ b.toNat)
def h7_ (s:Nat) (l:L8):Nat:=l.foldl sf_ s
def c32 (l:L8):Nat:=h7_ 0xffffffff l ^^^ 0xffffffff
theorem hg_ {a b:Nat} (ha:a<4294967296) (hb:b<4294967296):a ^^^ b<4294967296:=Nat.xor_lt_two_pow (n:=32) ha hb
theorem we_ {s:Nat} (h:s<4294967296):mP_ s<4294967296:=by
 unfold mP_
 split
 ·exact hg_ o_ d_
 ·omega
theorem kF_ {s:Nat} (h:s<4294967296):∀k,o4_ k s<4294967296
 | 0=>h
 | k+1=>we_ (kF_ h k)
theorem wf_ {s:Nat} (h:s<4294967296) (b:UInt8):sf_ s b<4294967296:=kF_ (hg_ h (by have:=b.toNat_lt;omega)) 8
theorem ru_ {l:L8}:∀{s:Nat},s<4294967296→h7_ s l<4294967296:=by
 induction l with
 | nil=>intro s h;exact h
 | cons b r ih=>intro s h;exact ih (wf_ h b)
theorem w3_ (l:L8):c32 l<4294967296:=hg_ (ru_ d_) d_
theorem qU_ (s:Nat) (a b:L8):h7_ s (a++b)=h7_ (h7_ s a) b:=by simp[h7_,List.foldl_append]
theorem tC_ (s:Nat) (a:L8) (b:UInt8):h7_ s (a++[b])=sf_ (h7_ s a) b:=by rw[qU_];rfl
theorem sg_ {a b:Nat} (ha:a<4294967296) (hb:b<4294967296):g9_ .u32 (a:Int) (b:Int)=((a ^^^ b:Nat):Int):=by
 unfold g9_
 show IntKind.wrap .u32 (((BitVec.ofInt 32 (a:Int) ^^^ BitVec.ofInt 32 (b:Int)).toNat:Nat):Int)=_
 rw[BitVec.ofInt_natCast,BitVec.ofInt_natCast,BitVec.toNat_xor,BitVec.toNat_ofNat,BitVec.toNat_ofNat,Nat.mod_eq_of_lt o_,Nat.mod_eq_of_lt o_]
 have:=hg_ ha hb
 exact jz_ o_ o_
theorem wg_ {a:Nat} (ha:a<4294967296):bz_ .u32 (a:Int) 1=((a%2:Nat):Int):=by
 unfold bz_
 show IntKind.wrap .u32 (((BitVec.ofInt 32 (a:Int) &&& BitVec.ofInt 32 ((1:Nat):Int)).toNat:Nat):Int)=_
 rw[BitVec.ofInt_natCast,BitVec.ofInt_natCast,BitVec.toNat_and,BitVec.toNat_ofNat,BitVec.toNat_ofNat,Nat.mod_eq_of_lt o_,Nat.mod_eq_of_lt o_]
 rw[Nat.and_one_is_mod]
 exact jz_ o_ o_
theorem vQ_ {a:Nat} (ha:a<4294967296):nT_ .u32 (a:Int)=((a ^^^ 4294967295:Nat):Int):=by
 unfold nT_
 have e:(if IntKind.signed .u32=true then(-1:Int) else IntKind.max .u32)=((4294967295:Nat):Int):=d_
 rw[e,sg_ d_ ha,Nat.xor_comm]
open Go CF
theorem w4_ {s:Nat} (hs:s<4294967296) {X Y:Prop} (h1:s%2=1→X) (h0:s%2=0→Y):Br ((bz_ .u32 (s:Int) 1)==1) X Y:=by
 rw[wg_ hs]
 exact as_ (fun q=>h1 o_) (fun q=>h0 o_)
theorem w5_ {s:Nat} (hs:s<4294967296) (h:s%2=1):g9_ .u32 (bK_ .u32 (s:Int) 1) 2197175160=((mP_ s:Nat):Int):=by
 rw[shr .u32 s 1 d_]
 have:=sg_ (a:=s/2) (b:=w2_) o_ d_
 unfold mP_
 rw[if_pos h]
 exact this
theorem w6_ {s:Nat} (h:s%2=0):bK_ .u32 (s:Int) 1=((mP_ s:Nat):Int):=by
 rw[shr .u32 s 1 d_]
 unfold mP_
 rw[if_neg o_]
theorem n0_ {p:Sl} {l:L8} {s:Nat} {w:World} {R:Int→W_} (hp:Rd w 1 p (bv l)) (hs:s<4294967296)
  (h:R ((h7_ (s ^^^ 4294967295) l ^^^ 4294967295:Nat):Int) w):ks_ (s:Int) p w R:=by
 refine iq_.calls _ _ _ _ ?_
 have hln:l.length=p.n:=by have:=hp.len;rw[az_] at this;omega
 have hnb:=hp.nb
 have hs':s ^^^ 4294967295<4294967296:=hg_ hs d_
 refine⟨fun v x w'=>w'=w∧∃j:Nat,x=j∧j≤p.n∧v=((h7_ (s ^^^ 4294967295) (l.take j):Nat):Int),fun _ x _=>p.n-x.toNat,⟨rfl,0,rfl,Nat.zero_le _,vQ_ hs⟩,?_⟩
 rintro v x w0 ⟨rfl,j,rfl,hj,rfl⟩
 have hcs:h7_ (s ^^^ 4294967295) (l.take j)<4294967296:=ru_ hs'
 refine bl_ (fun hlt=>?_) (fun hge=>?_)
 ·obtain⟨a,ha,hc⟩:=hp.byte (i:=j) hlt
  have hjs:j<l.length:=o_
  have hb8:=l[j].toNat_lt
  refine⟨⟨o_,o_,by rw[ha];rfl⟩,(l[j].toNat:Int),by rw[ha];exact hc,?_⟩
  rw[jz_ (n:=(l[j].toNat:Int)) o_ o_,sg_ hcs o_]
  generalize hT:h7_ (s ^^^ 4294967295) (l.take j) ^^^ l[j].toNat=T
  have hTl:T<4294967296:=by rw[←hT];exact hg_ hcs o_
  refine⟨fun v x w'=>w'=w0∧∃k:Nat,x=k∧k≤8∧v=((o4_ k T:Nat):Int),fun _ x _=>8-x.toNat,⟨rfl,0,rfl,d_,rfl⟩,?_⟩
  rintro v x w1 ⟨rfl,k,rfl,hk,rfl⟩
  refine a2_ (fun hlt8=>?_) (fun hge8=>?_)
  ·refine w4_ (kF_ hTl k) (fun q=>?_) (fun q=>?_)
   ·rw[w5_ (kF_ hTl k) q,w64 o_ o_]
    exact⟨⟨rfl,k+1,o_,o_,rfl⟩,by dsimp only;omega⟩
   ·rw[w6_ q,w64 o_ o_]
    exact⟨⟨rfl,k+1,o_,o_,rfl⟩,by dsimp only;omega⟩
  ·have:k=8:=o_
   subst this
   rw[w64 o_ o_]
   refine⟨⟨rfl,j+1,o_,o_,?_⟩,by dsimp only;omega⟩
   rw[List.take_succ_eq_append_getElem hjs,tC_]
   unfold sf_
   rw[hT]
 ·have:j=p.n:=o_
  subst this
  rw[List.take_of_length_le o_] at hcs ⊢
  rw[vQ_ hcs]
  exact h
theorem ls_ {p:Sl} {l:L8} {w:World} {R:Int→W_} (hp:Rd w 1 p (bv l)) (h:R ((c32 l:Nat):Int) w):kq_ p w R:=by
 refine kB_.calls _ _ _ ?_
 refine n0_ (s:=0) hp d_ ?_
 rw[Nat.zero_xor]
 exact h
end Go.Proofs.YtpmebahhjgkflaaGreatDoor
namespace Go.Proofs.YtpmebahhjgkflaaGreatDoor.CF
open Go Go.RowKit
set_option maxRecDepth 100000
theorem en_ {w:World} {base:Nat} {e:TypeId} {s:Sl} {vs:List Value} (hs:Own w base e 1 s vs) {i:Nat} (hi:i<s.n) {v:Value} (hv:v.oneCell'=true)
  {K:W_} (h:∀w1,Own w1 base e 1 s (vs.set i v)→aa_ (fun k=>some k=s.blk) w w1→w1.heap.size=w.heap.size→K w1):Put ((gA s.A).add (i*1)) v w K:=by
 obtain⟨hlen,hown⟩:=hs
 rcases hown with⟨_,hn0⟩|⟨g,cap,cur,hv',hbg,hg,hnc,hcm,hcs,htake⟩
 ·omega
 ·injection hv' with hA hN hC
  have hcs':cur.size=cap:=by simpa using hcs
  rw[Nat.mul_one,hA,gA,aq_,Nat.zero_add]
  refine a0_ hg o_ hv fun w1 hb1 hk1 hsz1=>?_
  refine h w1 ⟨by rw[List.length_set];exact hlen,.inr ⟨g,cap,_,by rw[hA,hC],hbg,hb1,hnc,hcm,by simpa using hcs,?_⟩⟩ (hk1.mono fun k _ q=>by simp[Sl.blk,hA,q]) hsz1
  have hF:cur.toList.take (s.n*1)=vs:=htake
  rw[←hF,Array.toList_setIfInBounds,List.take_set]
theorem hZ_ {P:Program} {w:World} {t e:TypeId} {zv:Value} {bytes n base:Nat} (ht:P.underlying t=some (.slice e)) (hinfo:(P.info? e).map (fun i=>(i.zero,i.size,i.bytes))=some (some zv,1,bytes)) (hzc:zv.cells=#[zv])
  (hb:bytes*n≤281474976710656) (hn:n≤140737488355328) (hbase:base≤w.heap.size)
  {K:Sl→W_} (h:∀w1,Own w1 base e 1 ⟨some ⟨w.heap.size,0,none⟩,n,n⟩ (List.replicate n zv)→ab_ w w1→w1.heap.size=w.heap.size+1→K ⟨some ⟨w.heap.size,0,none⟩,n,n⟩ w1) :
  an_ P .sl (Instr.makeSlice t (.int .i64 (n:Int)) (.int .i64 (n:Int))) w K:=by
 obtain⟨i,hi,hzz⟩:=Option.map_eq_some_iff.1 hinfo
 simp only[Prod.mk.injEq] at hzz
 obtain⟨hz,hsz,hby⟩:=hzz
 have hb':(i.bytes:Int)*(n:Int)≤281474976710656:=by
  rw[hby,←Int.natCast_mul];omega
 have hr:=run_make (P:=P) w t e i zv ht hi hz .i64 .i64 (n:Int) (n:Int) o_ (Int.le_refl _) hb' o_
 simp only[Int.toNat_natCast] at hr
 refine⟨⟨some ⟨w.heap.size,0,none⟩,n,n⟩,_,hr,h _ ?_ (dh_ w _) (by simp)⟩
 have hm:madeCells zv.cells (n*i.size)=(List.replicate n zv).toArray:=by
  rw[hzc,hsz,Nat.mul_one]
  apply Array.ext
  ·simp[madeCells]
  ·intro k h1 h2
   simp[madeCells,Nat.mod_one]
 rw[hm]
 have:=World.ownsRow_lit (e:=e) (size:=1) (base:=base) w (List.replicate n zv).toArray n hbase (by unfold maxLen;omega) (by simp)
 exact this
theorem ib_ {P:Program} {w:World} {t tn ty e:TypeId} {zv:Value} {base k:Nat} (ht:P.underlying t=some (.slice e)) (htn:P.underlying tn=some (.int .i64)) (hinfo:(P.info? e).map (fun i=>(i.zero,i.size,i.bytes))=some (some zv,1,1)) (hzc:zv.cells=#[zv])
  {s:Sl} {vs:List Value} (hs:Rd w 1 s vs) (hc:s.c<s.n+k) (hk:0<k) (hbd:s.n+k≤1000000000) (hbase:base≤w.heap.size)
  {K:Sl→W_} (h:∀s' w',s'.n=s.n+k→Own w' base e 1 s' (vs++List.replicate k zv)→ab_ w w'→s'.blk=some w.heap.size→K s' w') :
  an_ P .sl (Builtin.append_ #[t,tn] ty #[.slice s.A s.n s.c,.int .i64 (k:Int)]) w K:=by
 obtain⟨i,hi,hzz⟩:=Option.map_eq_some_iff.1 hinfo
 simp only[Prod.mk.injEq] at hzz
 obtain⟨hz,hsz,hby⟩:=hzz
 have hvl:vs.length=s.n:=by have:=hs.len;omega
 have hold:(Builtin.firstCells i.size s.n (.slice s.A s.n s.c)).run P w.drew=.ok vs.toArray w.drew:=by
  rw[hsz]
  by_cases hne:vs = []
  ·subst hne
   simp only[List.length_nil] at hvl
   rw[←hvl]
   cases hA:s.A with
   | none=>exact run_firstCells_none (P:=P) (w:=w.drew) 1 0 0 _
   | some a=>exact run_firstCells_some (P:=P) (w:=w.drew) 1 0 a 0 s.c [] rfl (fun j v hj=>by simp at hj)
  ·obtain⟨a,ha,hc⟩:=(hs.grow (ak_ w)).at_ hne
   rw[ha]
   exact run_firstCells_some (P:=P) (w:=w.drew) 1 s.n a s.n s.c vs o_ hc
 have hr:=Go.Lib.run_append_grow_zeros (P:=P) w t tn ty e i zv .i64 .i64 ht htn hi hz s.A s.n s.c vs hold k hk o_ hc o_ (by rw[hby];omega) (by rw[hby];exact growslice_fits o_ o_)
 refine⟨⟨some ⟨w.heap.size,0,none⟩,s.n+k,grownCap w (s.n+k) s.c e⟩,_,hr,h _ _ rfl ?_ ⟨rfl,rfl,rfl,by simp,fun k hk _=>k0_ w.drew _ k hk⟩ rfl⟩
 have hge:=grownCap_ge w (s.n+k) s.c e
 have hcm:grownCap w (s.n+k) s.c e≤maxLen:=grownCap_le_maxLen w (s.n+k) s.c e (by unfold maxLen;omega)
 have hzk:∀m,(Builtin.zeroCells zv.cells m).size=m:=fun m=>by rw[size_zeroCells,hzc];simp
 have hzr:(Builtin.zeroCells zv.cells k).toList=List.replicate k zv:=by
  rw[hzc]
  apply List.ext_getElem
  ·rw[Array.length_toList,←hzc,hzk];simp
  ·intro j h1 h2
   simp[Builtin.zeroCells,Nat.mod_one]
 refine⟨by simp;omega,.inr ⟨w.heap.size,grownCap w (s.n+k) s.c e,_,rfl,hbase,heap_alloc_new w.drew _,hge,hcm,?_,?_⟩⟩
 ·simp only[Array.size_append,List.size_toArray,hzk,hvl]
  omega
 ·simp only[Array.toList_append,hzr]
  have:(vs++List.replicate k zv).length=(s.n+k)*1:=by simp;omega
  rw[←this]
  exact List.take_left
theorem mQ_ {P:Program} {w:World} {base:Nat} {t ty e:TypeId} {zv:Value} {z bytes:Nat} (ht:P.underlying t=some (.slice e)) (hinfo:(P.info? e).map (fun i=>(i.zero,i.size,i.bytes))=some (some zv,z,bytes))
  (hzc:zv.cells.size=z) (hz0:0<z) (hb0:0<bytes) {s x:Sl} {vs xs:List Value} (hs:Own w base e z s vs) (hx:Rd w z x xs) (h1:∀u∈xs,u.oneCell'=true)
  (hm:s.n+x.n≤140737489403904) (hbd:((s.n+x.n)+(s.n+x.n)/4+192)*bytes≤281474976710656) (hbase:base≤w.heap.size) {K:Sl→W_}
  (h:∀s' w',s'.n=s.n+x.n→Own w' base e z s' (vs++xs)→aa_ (fun k=>some k=s.blk) w w'→K s' w') :
  an_ P .sl (Builtin.append_ #[t,t] ty #[.slice s.A s.n s.c,.slice x.A x.n x.c]) w K:=by
 obtain⟨i,hi,hzz⟩:=Option.map_eq_some_iff.1 hinfo
 simp only[Prod.mk.injEq] at hzz
 obtain⟨hz,hsz,hby⟩:=hzz
 have blk:(Value.slice s.A s.n s.c).ownBlock=s.blk:=by unfold Sl.blk;cases s.A<;>rfl
 have hxl:xs.length=x.n*z:=hx.len
 by_cases hne:xs = []
 ·have hn0:x.n=0:=by
   rw[hne,List.length_nil] at hxl
   rcases Nat.mul_eq_zero.1 hxl.symm with q|q<;>omega
  have hsl:=hs.len
  have hc:s.n+x.n≤s.c:=by
   rcases hs.2 with⟨h2,q⟩|⟨g,cap,cur,hv,_,_,h4,_⟩
   ·injection h2 with _ e1 e2;omega
   ·injection hv with _ _ e2;omega
  have hfc:(Builtin.firstCells i.size x.n (.slice x.A x.n x.c)).run P w=.ok #[] w:=by
   rw[hn0]
   cases hA:x.A with
   | none=>exact run_firstCells_none (P:=P) (w:=w) i.size 0 0 _
   | some a=>exact run_firstCells_some (P:=P) (w:=w) i.size 0 a 0 x.c [] (by simp) (fun j v hj=>by simp at hj)
  refine⟨s,w,?_,h s w o_ (by rw[hne,List.append_nil];exact hs) (aa_.refl _ _)⟩
  show _=Result.ok (Value.slice s.A s.n s.c) w
  rw[hn0] at hc hfc ⊢
  obtain⟨A,n,c⟩:=s
  simp only[Nat.add_zero] at hc ⊢
  cases A<;>simp[Builtin.append_,run_underlying ht,sizeOf,typeInfo,hi,Builtin.lenOf,hfc,hc,storeCells]
 ·obtain⟨a,ha,hcells⟩:=hx.at_ hne
  obtain⟨v',w',hr,hown,hg,_⟩:=run_append_own_wide (P:=P) w base t ty e i zv z bytes ht hi hz hsz hby hzc hz0 _ s.n vs hs a x.n x.c xs hx.len hcells h1 (by unfold maxLen;omega) hbd hbase
  have hv':∃s':Sl,v'=.slice s'.A s'.n s'.c∧s'.n=s.n+x.n:=by
   rcases hown.2 with⟨rfl,hn⟩|⟨g,cap,cur,rfl,_⟩
   ·exact⟨⟨none,0,0⟩,rfl,hn.symm⟩
   ·exact⟨⟨some ⟨g,0,none⟩,_,cap⟩,rfl,rfl⟩
  obtain⟨s',rfl,hn'⟩:=hv'
  rw[ha]
  exact⟨s',w',hr,h s' w' hn' (by have q:=hown;rw[←hn'] at q;exact q) (blk▸lf_ hg)⟩
theorem cu_ {j:W_} {body:(W_)→Prop} (I:W_) (h1:∀u,I u→j u) (h2:(∀u,I u→j u)→body j):aR_ j body:=h2 h1
theorem bc_ {α:Type} {j:α→W_} {body:(α→W_)→Prop} (I:α→W_) (h1:∀x u,I x u→j x u) (h2:(∀x u,I x u→j x u)→body j):aR_ j body:=h2 h1
theorem sh_ {α β:Type} {j:α→β→W_} {body:(α→β→W_)→Prop} (I:α→β→W_) (h1:∀x y u,I x y u→j x y u) (h2:(∀x y u,I x y u→j x y u)→body j):aR_ j body:=h2 h1
theorem cm_ {α:Type} {j:α→W_} {body:(α→W_)→Prop} (I:α→W_) (h1:∀x u,I x u→j x u) (h2:(∀x u,I x u→j x u)→body j):bB_ j body:=h2 h1
end Go.Proofs.YtpmebahhjgkflaaGreatDoor.CF
namespace Go.Proofs.YtpmebahhjgkflaaGreatDoor
open Go CF
set_option maxRecDepth 100000
def beN:Nat→Nat→L8
 | 0,_=>[]
 | j+1,v=>UInt8.ofNat (v/256 ^ j)::beN j v
theorem bg_:∀(n v:Nat),(beN n v).length=n
 | 0,_=>rfl
 | n+1,v=>by simp[beN,bg_ n v]
theorem tD_ (l:L8):∀v:Nat,l.foldl (fun v b=>v*256+b.toNat) v=v*256 ^ l.length+num l:=by
 induction l with
 | nil=>intro v;simp[num]
 | cons b r ih=>
  intro v
  unfold num
  simp only[List.foldl_cons,List.length_cons]
  rw[ih,ih (0*256+b.toNat),Nat.pow_succ]
  simp only[Nat.zero_mul,Nat.zero_add]
  rw[Nat.add_mul,Nat.mul_assoc,Nat.mul_comm (256 ^ r.length) 256]
  omega
theorem uQ_ (b:UInt8) (l:L8):num (b::l)=b.toNat*256 ^ l.length+num l:=by
 show List.foldl _ (0*256+b.toNat) l=_
 rw[tD_];simp
theorem rv_:∀(n v:Nat),num (beN n v)=v%256 ^ n
 | 0,v=>by simp[beN,num,Nat.mod_one]
 | n+1,v=>by
  simp only[beN]
  have e:(256:Nat) ^ (n+1)=256 ^ n*256:=Nat.pow_succ ..
  rw[uQ_,bg_,rv_ n v,UInt8.toNat_ofNat',e,Nat.mod_mul,Nat.mul_comm,Nat.add_comm]
theorem fJ_ {n v:Nat} (h:v<256 ^ n):num (beN n v)=v:=by rw[rv_,Nat.mod_eq_of_lt h]
theorem tE_ (l:L8) (i:Nat) (b:UInt8):(bv l).set i (.int .u8 (b.toNat:Int))=bv (l.set i b):=by
 simp[bv,List.map_set]
def gZ_ (l:L8) (at_ n j v:Nat):L8:=l.take (at_+(n-j))++beN j v++l.drop (at_+n)
theorem op_ (l:L8) (at_ n v:Nat):gZ_ l at_ n 0 v=l:=by simp[gZ_,beN]
theorem uR_ {l:L8} {at_ n j:Nat} (v:Nat) (h:at_+n≤l.length) (hj:j≤n):(gZ_ l at_ n j v).length=l.length:=by
 simp[gZ_,bg_];omega
theorem oq_ {l:L8} {at_ n j:Nat} (v:Nat) (h:at_+n≤l.length) (hj:j<n) :
  (gZ_ l at_ n j v).set (at_+(n-1-j)) (UInt8.ofNat (v/256 ^ j))=gZ_ l at_ n (j+1) v:=by
 unfold gZ_
 have e1:at_+(n-j)=at_+(n-(j+1))+1:=o_
 have e2:at_+(n-1-j)=at_+(n-(j+1)):=o_
 have hl:at_+(n-(j+1))<l.length:=o_
 rw[e1,e2,List.take_succ_eq_append_getElem hl]
 generalize hm:at_+(n-(j+1))=m at *
 have ht:(l.take m).length=m:=by rw[List.length_take];omega
 simp only[List.append_assoc]
 rw[List.set_append_right _ _ o_,ht,Nat.sub_self]
 rfl
def lay (l:L8) (at_ n v:Nat):L8:=l.take at_++beN n v++l.drop (at_+n)
theorem uS_ (l:L8) (at_ n v:Nat):gZ_ l at_ n n v=lay l at_ n v:=by simp[gZ_,lay]
theorem pR_ (v j:Nat):v/256 ^ j/256=v/256 ^ (j+1):=by rw[Nat.pow_succ,Nat.div_div_eq_div_mul]
theorem si_ {p:Sl} {at_ n:Nat} {w:World} {R:Int→W_} (hb:p.n≤140737489403904) (hn:1≤n) (hn8:n≤8) (hat:at_+n≤p.n) (h:R 0 w):i9_ p (at_:Int) (n:Int) w R:=by
 refine hV_.calls _ _ _ _ _ ?_
 have e1:IntKind.wrap .i64 ((p.n:Int)-(n:Int))=(p.n:Int)-(n:Int):=w64 o_ o_
 exact aj_ (by rw[Bool.or_eq_false_iff,decide_eq_false_iff_not,decide_eq_false_iff_not];omega) (aj_ (by rw[Bool.or_eq_false_iff,decide_eq_false_iff_not,decide_eq_false_iff_not,e1];omega) h)
theorem mR_ {p:Sl} {l:L8} {at_ n v:Nat} {w:World} {R:Sl→Int→W_} (hp:Rd w 1 p (bv l)) (hb:p.n≤1000000000) (hn:1≤n) (hn8:n≤8) (hat:at_+n≤l.length) (hv:v<256 ^ n)
  (h:∀s w',Own w' w.heap.size ae_ 1 s (bv (lay l at_ n v))→ab_ w w'→R s 0 w'):jR_ p (at_:Int) (n:Int) (v:Int) w R:=by
 refine lU_.calls _ _ _ _ _ _ ?_
 have hln:l.length=p.n:=by have:=hp.len;rw[az_] at this;omega
 refine si_ o_ hn hn8 o_ ?_
 have e8:IntKind.wrap .i64 (8*(n:Int))=((8*n:Nat):Int):=by rw[w64 o_ o_];omega
 rw[e8,Int.toNat_natCast,shr .u64 v (8*n) (by show 8*n≤64;omega)]
 have hz:v/2 ^ (8*n)=0:=by
  refine Nat.div_eq_of_lt ?_
  rw[Nat.pow_mul]
  exact hv
 rw[hz]
 refine⟨fun _=>o_,aj_ (by simp) (aj_ rfl ?_)⟩
 refine aZ_ (s:=⟨none,0,0⟩) (vs:=[]) (base:=w.heap.size) aX_ bE_ rfl d_ d_ (aH_ _ _ _ _) hp (dg_ _) (by show(0+p.n)*1≤_;omega) (Nat.le_refl _) fun s1 w1 hn1 hown1 hk1 _=>?_
 have hg1:ab_ w w1:=hk1.mono fun i hi q=>by cases q
 rw[List.nil_append] at hown1
 have hn1:s1.n=p.n:=by rw[hn1];exact Nat.zero_add _
 refine⟨fun x i u=>∃j:Nat,j≤n∧i=((n:Int)-1-(j:Int))∧x=((v/256 ^ j:Nat):Int)∧ab_ w u∧Own u w.heap.size ae_ 1 s1 (bv (gZ_ l at_ n j v)),fun _ i _=>(i+1).toNat,
  ⟨0,Nat.zero_le _,by rw[w64 o_ o_];omega,by simp,hg1,by rw[op_];exact hown1⟩,?_⟩
 rintro x i w2 ⟨j,hj,rfl,rfl,hg2,hown2⟩
 refine a2_ (fun hlt=>?_) (fun hge=>?_)
 ·have e1:IntKind.wrap .i64 ((at_:Int)+((n:Int)-1-(j:Int)))=((at_+(n-1-j):Nat):Int):=by rw[w64 o_ o_];omega
  rw[e1,Int.toNat_natCast,bt_]
  have hs1A:s1.A.isSome=true:=by
   have hne:bv (gZ_ l at_ n j v)≠[]:=fun q=>by have:=congrArg List.length q;rw[az_,uR_ v hat o_,List.length_nil] at this;omega
   obtain⟨a,ha,_⟩:=(hown2.rd o_).at_ hne
   rw[ha];rfl
  refine⟨⟨o_,o_,hs1A⟩,?_⟩
  refine en_ (i:=at_+(n-1-j)) hown2 o_ rfl fun w3 hown3 hk3 _=>?_
  rw[tE_,oq_ v hat o_] at hown3
  rw[shr .u64 _ 8 d_,w64 o_ o_]
  refine⟨⟨j+1,o_,o_,?_,hg2.keep hk3 fun i hi q=>by have:=(hown2.ge i q.symm).1;omega,hown3⟩,by dsimp only;omega⟩
  rw[←pR_]
 ·have:j=n:=o_
  subst this
  rw[uS_] at hown2
  exact h s1 w2 hown2 hg2
theorem pS_ {n v:Nat} {w:World} {R:Sl→W_} (hn:1≤n) (hn8:n≤8) (h:∀s w',Own w' w.heap.size ae_ 1 s (bv (beN n v))→ab_ w w'→s.n=n→R s w'):c2_ (v:Int) (n:Int) w R:=by
 refine eC_.calls _ _ _ _ ?_
 refine hZ_ (base:=w.heap.size) aX_ bE_ rfl o_ o_ (Nat.le_refl _) fun w1 hown1 hg1 hsz1=>?_
 have hrep:(List.replicate n (Value.int .u8 0))=bv (List.replicate n 0):=by simp[bv]
 rw[hrep] at hown1
 have hl0:(List.replicate n (0:UInt8)).length=n:=List.length_replicate
 refine⟨fun x i u=>∃j:Nat,j≤n∧i=((n:Int)-1-(j:Int))∧x=((v/256 ^ j:Nat):Int)∧ab_ w u∧Own u w.heap.size ae_ 1 ⟨some ⟨w.heap.size,0,none⟩,n,n⟩ (bv (gZ_ (List.replicate n 0) 0 n j v)),fun _ i _=>(i+1).toNat,
  ⟨0,Nat.zero_le _,by rw[w64 o_ o_];omega,by simp,hg1,by rw[op_];exact hown1⟩,?_⟩
 rintro x i w2 ⟨j,hj,rfl,rfl,hg2,hown2⟩
 refine a2_ (fun hlt=>?_) (fun hge=>?_)
 ·have e1:((n:Int)-1-(j:Int))=((n-1-j:Nat):Int):=o_
  rw[bt_,show((n:Int)-1-(j:Int)).toNat=n-1-j by omega]
  refine⟨⟨o_,by show _<(n:Int);omega,rfl⟩,?_⟩
  refine en_ hown2 (i:=n-1-j) (by show n-1-j<n;omega) rfl fun w3 hown3 hk3 _=>?_
  have e2:n-1-j=0+(n-1-j):=o_
  rw[tE_,e2,oq_ v o_ o_] at hown3
  rw[shr .u64 _ 8 d_,w64 o_ o_]
  refine⟨⟨j+1,o_,o_,?_,hg2.keep hk3 fun i hi q=>by have:=(hown2.ge i q.symm).1;omega,hown3⟩,by dsimp only;omega⟩
  rw[←pR_]
 ·have:j=n:=o_
  subst this
  have e:gZ_ (List.replicate j 0) 0 j j v=beN j v:=by simp[gZ_]
  rw[e] at hown2
  exact h _ w2 hown2 hg2 rfl
open Go CF
def gv_ (st:Wst) (file:ByteArray):L8:=(st.seen file).getD []
open Go CF
section
variable {H:Type} {enc:TypeId×Value→H} {w:World} {base:Nat} {spare:Nat→Bool} {held:Bool}
end
theorem tF_ {st:Wst} {file:ByteArray} {a n:Nat} {l:List Bk} (hn:l.length=n) (h:∀i (hi:i<l.length),sd_ (gv_ st file) (a+i)=l[i]):hf_ st file a n=l:=by
 unfold hf_
 apply List.ext_getElem
 ·simp[hn]
 ·intro i h1 h2
  rw[List.getElem_map,List.getElem_range]
  exact h i h2
open Go CF
def apC (F:a7_) (c:Cg):a7_:=bF_ F c.name c.off c.p
def kG_ (F:a7_) (l:List Cg):a7_:=l.foldl apC F
theorem sj_ (F:a7_) (l:List Cg) (c:Cg):kG_ F (l++[c])=apC (kG_ F l) c:=by simp[kG_]
def Wok (st:Wst):Prop:=∀c∈st.waits,c.kind=119∧c.off+c.p.length≤1048576
theorem pT_ {w:World} {pw:Nat} {D:Nat→Prop} {st:Wst} {F:Int→Bool} {R:Int→W_} (hw:ba_ w pw D st F) (hk:Wok st) (ho:st.ops<1000000000000) (hn:st.waits.length<1000000000)
  (h:F (st.ops:Int)=false→∀w' D',aa_ D w w'→ba_ w' pw D' ⟨st.seen,kG_ st.dur st.waits,[],st.ops+1⟩ F→(∀k,D' k→D k∨w.heap.size≤k)→R 0 w')
  (hbad:F (st.ops:Int)=true→∀w',aa_ D w w'→ba_ w' pw D {st with ops:=st.ops+1} F→R 6 w'):dY_ (some ⟨pw,0,none⟩) w R:=by
 obtain⟨pl,hF,mb,md,ws,cs,hw⟩:=hw
 subst hF
 refine ed_.calls _ _ _ ?_
 refine aj_ rfl ?_
 refine mL_ hw ho fun w1 hk1 hw1=>?_
 have hk1D:aa_ D w w1:=hk1.mono fun _ _ q=>by subst q;exact hw.dw
 cases hfl:pl.F (st.ops:Int) with
 | true=>exact am_ rfl (hbad hfl w1 hk1D ⟨pl,rfl,mb,md,ws,cs,hw1⟩)
 | false=>
 have h:=h hfl
 refine aj_ rfl ⟨rfl,ws,by rw[gA,aq_,hw1.blk.cell];rfl,?_⟩
 have hlen:cs.length=st.waits.length:=by rw[←hw.waits,List.length_map]
 have hwn:ws.n=cs.length:=by have:=hw.own.len;rw[mM_] at this;omega
 refine⟨fun x u=>∃j:Nat,x=j∧j≤cs.length∧aa_ D w u∧ca_ u pw D ⟨st.seen,kG_ st.dur (st.waits.take j),st.waits,st.ops+1⟩ pl mb md ws cs,fun x _=>cs.length-x.toNat,
  ⟨0,rfl,Nat.zero_le _,hk1D,hw1⟩,?_⟩
 rintro x w2 ⟨j,rfl,hj,hk2,hw2⟩
 refine bl_ (fun hlt=>?_) (fun hge=>?_)
 ·have hjc:j<cs.length:=o_
  have hjw:j<st.waits.length:=o_
  have hcj:cs[j].1=st.waits[j]:=by
   have:=hw.waits
   simp only[←this,List.getElem_map]
  obtain⟨hkind,hbnd⟩:=hk _ (List.getElem_mem hjw)
  obtain⟨a,ha,hc⟩:=(hw2.own.rd o_).elem (i:=j) o_ d_
  rw[gC_ nY_ hjc] at hc
  have lv:∀{u:World} {b:Addr},bY_ u b (cgv cs[j])→(loadVar aK_ b).run Tryz.prog u=.ok (.agg (cgv cs[j]).toArray) u:=fun q=>aE_ he_ c0_ rfl q
  refine⟨⟨o_,o_,by rw[ha];rfl⟩,(cgv cs[j]).toArray,by rw[ha];exact lv hc,?_⟩
  refine ag_ fun cb w3 hcb hb3 hg3 hsz3=>?_
  have hw3:=hw2.keep hg3 (fun _ _ q=>q) (bo_ w2)
  refine ap_ (cells:=(cgv cs[j]).toArray) hb3 c0_ rfl rfl (by simp[cgv,Value.oneCell']) fun w4 hb4 hk4 hsz4=>?_
  have hg4:ab_ w2 w4:=hg3.keep hk4 fun i hi q=>o_
  have hw4:=hw2.keep hg4 (fun _ _ q=>q) (bo_ w2)
  rintro w5 rfl
  have hg5:ab_ w4 w4.drew:=ak_ w4
  have hw5:=hw4.keep hg5 (fun _ _ q=>q) (bo_ w4)
  have hb5:Blk w4.drew cb (cgv cs[j]).toArray aK_:=hg5.heap hb4 (fun q=>q)
  refine⟨fun u=>Blk u pw (em_ pl.mf mb md ws (st.ops+1)) bs_∧Blk u cb (cgv cs[j]).toArray aK_,⟨hw5.blk,hb5⟩,rfl,some md,fun u hu=>by rw[gA,aq_,hu.1.cell];rfl,(cgv cs[j]).toArray,fun u hu=>lv (ar_ hu.2),cs[j].2,fun u hu=>by rw[aq_,hu.2.cell];rfl,?_⟩
  have hrow:=hw5.rows _ (List.getElem_mem hjc)
  have hpl:cs[j].1.p.length=cs[j].2.n:=by have:=hrow.len;rw[az_] at this;omega
  have e:(cgv cs[j]).toArray=#[.int .u8 119,.string cs[j].1.name,.string cs[j].1.to,.int .i64 (cs[j].1.off:Int),.slice cs[j].2.A cs[j].2.n cs[j].2.c]:=by
   unfold cgv;rw[hcj,hkind]
  rw[e]
  refine iP_ hw5.dur (hrow.rd (by rw[hcj] at hpl;omega)) (by rw[hcj];exact hbnd) fun w6 hk6 hF6=>?_
  have hw6:=hw5.setDur hk6 hF6
  rw[show(cs[j].1.p).take cs[j].2.n=cs[j].1.p from List.take_of_length_le o_] at hw6
  have hk6D:aa_ D w w6:=(((hk2.grow hg4).grow hg5)).trans hk6 fun _ _ q=>by subst q;exact hw.dd
  rw[w64 o_ o_]
  refine⟨⟨j+1,o_,o_,hk6D,?_⟩,by dsimp only;omega⟩
  rw[List.take_succ_eq_append_getElem hjw,sj_,←hcj]
  exact hw6
 ·have hjn:j=st.waits.length:=o_
  rw[hjn,List.take_length] at hw2
  refine⟨rfl,?_⟩
  rw[gA,aq_]
  refine a0_ hw2.blk (by show 2<7;decide) rfl fun w3 hb3 hk3 hsz3=>?_
  have hfin:=hw2.setWaits (w1:=w2) (w2:=w3) (ws':=⟨none,0,0⟩) (cs':=[]) (aa_.mono (aa_.refl (fun _=>False) w2) fun _ _ q=>q.elim) (aH_ _ _ _ _) (.inr (.inr rfl)) (fun c hc=>by cases hc) hb3 hk3
  have s2:=hk2.size
  refine h w3 (fun k=>((k=pw∨k=mb∨k=md)∨some k=(⟨none,0,0⟩:Sl).blk)∨pl.mf=some k) (hk2.trans hfin.2.1 fun _ _ q=>q) ⟨pl,rfl,mb,md,⟨none,0,0⟩,[],hfin.1⟩ fun k hk=>?_
  rcases hfin.2.2 k hk with q|q
  ·exact .inl q
  ·exact .inr o_
open Go CF
def f0_ (s:Wst):Wst:=⟨s.seen,kG_ s.dur s.waits,[],s.ops+1⟩
def pU_ (y:Bool) (s:Wst):Wst:=if y then f0_ s else s
theorem qV_ (y:Bool) (s:Wst):(pU_ y s).seen=s.seen:=by cases y<;>rfl
def vR_ (n:Nat) (fua cache:Bool):Bool:=decide (0<n)&&(fua || !cache)
theorem n1_ {w:World} {ps pw:Nat} {D:Nat→Prop} {st:Wst} {F:Int→Bool} {file:ByteArray} {blocks:Nat} {cache:Bool} {R:Int→W_} (hS:IsS w ps pw file blocks cache) (hps:¬D ps) (hw:ba_ w pw D st F) (hok:Wok st)
  (ho:st.ops<10000000000) (hn:st.waits.length<800000000)
  (h:F (st.ops:Int)=false→∀u D',aa_ D w u→ba_ u pw D' (f0_ st) F→(∀k,D' k→D k∨w.heap.size≤k)→IsS u ps pw file blocks cache→R 0 u)
  (hbad:F (st.ops:Int)=true→∀u,aa_ D w u→ba_ u pw D {st with ops:=st.ops+1} F→IsS u ps pw file blocks cache→R 6 u):fQ_ (some ⟨ps,0,none⟩) w R:=by
 refine d7_.calls _ _ _ (aj_ rfl ⟨rfl,some ⟨pw,0,none⟩,by rw[gA,aq_,Blk.cell hS];rfl,?_⟩)
 exact pT_ hw hok o_ o_ (fun hf u D' hk hw' hD'=>h hf u D' hk hw' hD' (hk.heap hS hps)) (fun hf u hk hw'=>hbad hf u hk hw' (hk.heap hS hps))
open Go CF
open Go CF
def o5_ (st:Wst) (file:ByteArray) (bs:List Bk):Prop:=Good (gv_ st file)∧∀j,j<bs.length→some (sd_ (gv_ st file) j)=bs[j]?
theorem sk_ {st:Wst} {file:ByteArray} {bs:List Bk} (h:o5_ st file bs):hf_ st file 0 bs.length=bs:=
 tF_ rfl fun i hi=>by
  have:=h.2 i hi
  rw[List.getElem?_eq_getElem hi] at this
  rw[Nat.zero_add]
  exact Option.some.inj this
open Go CF
def gG (s:Nat):Nat:=if s/32768=1 then(2*s%65536) ^^^ 0x8bb7 else 2*s%65536
def gGs:Nat→Nat→Nat
 | 0,s=>s
 | k+1,s=>gG (gGs k s)
def gB (s:Nat) (b:UInt8):Nat:=gGs 8 (s ^^^ b.toNat*256)
def c16 (l:L8):Nat:=l.foldl gB 0
theorem kH_ {a b:Nat} (ha:a<65536) (hb:b<65536):a ^^^ b<65536:=Nat.xor_lt_two_pow (n:=16) ha hb
theorem xI_ {s:Nat} (h:s<65536):gG s<65536:=by
 unfold gG
 split
 ·exact kH_ (Nat.mod_lt _ d_) d_
 ·exact Nat.mod_lt _ d_
theorem pV_ {s:Nat} (h:s<65536):∀k,gGs k s<65536
 | 0=>h
 | k+1=>xI_ (pV_ h k)
theorem xJ_ {s:Nat} (h:s<65536) (b:UInt8):gB s b<65536:=pV_ (kH_ h (by have:=b.toNat_lt;omega)) 8
theorem wh_ {l:L8}:∀{s:Nat},s<65536→l.foldl gB s<65536:=by
 induction l with
 | nil=>intro s h;exact h
 | cons b r ih=>intro s h;exact ih (xJ_ h b)
theorem tG_ (l:L8):c16 l<65536:=wh_ d_
theorem uT_ (l:L8) (b:UInt8):c16 (l++[b])=gB (c16 l) b:=by simp[c16,List.foldl_append]
theorem xK_ (n:Nat):IntKind.wrap .u16 (n:Int)=((n%65536:Nat):Int):=by
 have e:IntKind.wrap .u16 (n:Int)=(n:Int)%65536:=by simp[IntKind.wrap,IntKind.signed,IntKind.bits]
 rw[e];omega
theorem vS_ {a b:Nat} (ha:a<65536) (hb:b<65536):g9_ .u16 (a:Int) (b:Int)=((a ^^^ b:Nat):Int):=by
 unfold g9_
 show IntKind.wrap .u16 (((BitVec.ofInt 16 (a:Int) ^^^ BitVec.ofInt 16 (b:Int)).toNat:Nat):Int)=_
 rw[BitVec.ofInt_natCast,BitVec.ofInt_natCast,BitVec.toNat_xor,BitVec.toNat_ofNat,BitVec.toNat_ofNat,Nat.mod_eq_of_lt o_,Nat.mod_eq_of_lt o_]
 have:=kH_ ha hb
 exact nV_ o_ o_
theorem rw_ {b:Nat} (h:b<256):cl_ .u16 (b:Int) 8=((b*256:Nat):Int):=by
 unfold cl_
 have e:(min 8 (IntKind.bits .u16))=8:=d_
 rw[e,show(b:Int)*2 ^ 8=((b*256:Nat):Int) by omega]
 exact nV_ o_ o_
theorem rx_ {s:Nat}:cl_ .u16 (s:Int) 1=((2*s%65536:Nat):Int):=by
 unfold cl_
 have e:(min 1 (IntKind.bits .u16))=1:=d_
 rw[e,show(s:Int)*2 ^ 1=((2*s:Nat):Int) by omega,xK_]
def mkR (kind lba:Nat):Nat:=if kind=1∨kind=2 then lba%4294967296 else 0
theorem w7_ (kind lba:Nat):mkR kind lba<4294967296:=by unfold mkR;split<;>omega
def mkB (kind lba:Nat) (d:L8) (h:d.length=16):Bk:=⟨d,c16 d,0,mkR kind lba,h,tG_ d,d_,w7_ kind lba⟩
def lt_ (kind:Nat) (b:Bk):Bool:=decide (b.a=65535)&&(decide (kind≠3)||decide (b.r=4294967295))
def dM_ (kind prot lba:Nat) (b:Bk):Nat:=
 if kind=0∨3<kind∨prot=3∨4<prot∨lt_ kind b=true then 0
 else if prot≠2∧b.g≠c16 b.d then 0x1001
 else if prot≠4∧kind≠3∧b.r≠lba%4294967296 then 0x1003 else 0
def lu_ (kind prot:Nat):Bool:=decide (kind≤3)&&(decide (prot=0)||(decide (0<kind)&&decide (prot≤4)))
def sl_ (b:Bk):L8:=be2 b.g++be2 b.a++be4 b.r
def it_ (wt:Bool) (b:Bk):L8:=b.d++if wt then sl_ b else []
def eE_ (wt:Bool) (l:List Bk):L8:=l.flatMap (it_ wt)
def szB (wt:Bool):Nat:=if wt then 24 else 16
theorem tH_ (wt:Bool) (b:Bk):(it_ wt b).length=szB wt:=by
 cases wt
 ·simp[it_,szB,b.hd]
 ·simp[it_,szB,sl_,be2,be4,b.hd]
theorem tI_ (wt:Bool) (l:List Bk):(eE_ wt l).length=l.length*szB wt:=by
 unfold eE_
 induction l with
 | nil=>simp
 | cons a r ih=>rw[List.flatMap_cons,List.length_append,ih,tH_,List.length_cons,Nat.succ_mul,Nat.add_comm]
def ef_ (l:L8):L8:=(l++List.replicate 16 0).take 16
theorem or_ (l:L8):(ef_ l).length=16:=by simp[ef_]
theorem kI_ (l:L8) (k:Nat):num (l.take k)<256 ^ k:=
 Nat.lt_of_lt_of_le (j3_ _) (Nat.pow_le_pow_right d_ (by rw[List.length_take];omega))
def unB (wt:Bool) (l:L8):Bk:=
 if wt then⟨ef_ l,num ((l.drop 16).take 2),num ((l.drop 18).take 2),num ((l.drop 20).take 4),or_ l,kI_ _ 2,kI_ _ 2,kI_ _ 4⟩
 else⟨ef_ l,0,0,0,or_ l,d_,d_,d_⟩
def b7_ (wt:Bool) (l:L8):List Bk:=(List.range (l.length/szB wt)).map fun i=>unB wt ((l.drop (i*szB wt)).take (szB wt))
theorem kJ_ (wt:Bool) (l:L8):(b7_ wt l).length=l.length/szB wt:=by simp[b7_]
theorem wi_ {wt:Bool} {l:L8} {i:Nat} (h:i<(b7_ wt l).length):(b7_ wt l)[i]=unB wt ((l.drop (i*szB wt)).take (szB wt)):=by simp[b7_]
theorem ry_ {a b:UInt8}:num [a,b]=a.toNat*256+b.toNat:=by simp[num]
open Go CF
theorem w8_ {s:Nat} (hs:s<65536) {X Y:Prop} (h1:s/32768=1→X) (h0:¬s/32768=1→Y):Br ((bK_ .u16 (s:Int) 15)==1) X Y:=by
 rw[shr .u16 s 15 d_]
 exact as_ (fun q=>h1 (by have:(2:Nat) ^ 15=32768:=rfl;omega)) (fun q=>h0 (by have:(2:Nat) ^ 15=32768:=rfl;omega))
theorem pW_ {p:Sl} {l:L8} {w:World} {R:Int→W_} (hp:Rd w 1 p (bv l)) (h:R ((c16 l:Nat):Int) w):kr_ p w R:=by
 refine kC_.calls _ _ _ ?_
 refine ir_.calls _ _ _ _ ?_
 have hln:l.length=p.n:=by have:=hp.len;rw[az_] at this;omega
 have hnb:=hp.nb
 refine⟨fun v x w'=>w'=w∧∃j:Nat,x=j∧j≤p.n∧v=((c16 (l.take j):Nat):Int),fun _ x _=>p.n-x.toNat,⟨rfl,0,rfl,Nat.zero_le _,rfl⟩,?_⟩
 rintro v x w0 ⟨rfl,j,rfl,hj,rfl⟩
 have hcs:=tG_ (l.take j)
 refine bl_ (fun hlt=>?_) (fun hge=>?_)
 ·obtain⟨a,ha,hc⟩:=hp.byte (i:=j) hlt
  have hjs:j<l.length:=o_
  have hb8:=l[j].toNat_lt
  refine⟨⟨o_,o_,by rw[ha];rfl⟩,(l[j].toNat:Int),by rw[ha];exact hc,?_⟩
  rw[nV_ (n:=(l[j].toNat:Int)) o_ o_,rw_ hb8,vS_ hcs o_]
  generalize hT:c16 (l.take j) ^^^ l[j].toNat*256=T
  have hTl:T<65536:=by rw[←hT];exact kH_ hcs o_
  refine⟨fun v x w'=>w'=w0∧∃k:Nat,x=k∧k≤8∧v=((gGs k T:Nat):Int),fun _ x _=>8-x.toNat,⟨rfl,0,rfl,d_,rfl⟩,?_⟩
  rintro v x w1 ⟨rfl,k,rfl,hk,rfl⟩
  have hgl:=pV_ hTl k
  refine a2_ (fun hlt8=>?_) (fun hge8=>?_)
  ·refine w8_ hgl (fun q=>?_) (fun q=>?_)
   ·rw[rx_,show g9_ .u16 ((2*gGs k T%65536:Nat):Int) 35767=((2*gGs k T%65536 ^^^ 35767:Nat):Int) from vS_ o_ d_,w64 o_ o_]
    refine⟨⟨rfl,k+1,o_,o_,?_⟩,by dsimp only;omega⟩
    simp only[gGs];unfold gG;rw[if_pos q]
   ·rw[rx_,w64 o_ o_]
    refine⟨⟨rfl,k+1,o_,o_,?_⟩,by dsimp only;omega⟩
    simp only[gGs];unfold gG;rw[if_neg q]
  ·have:k=8:=o_
   subst this
   rw[w64 o_ o_]
   refine⟨⟨rfl,j+1,o_,o_,?_⟩,by dsimp only;omega⟩
   rw[List.take_succ_eq_append_getElem hjs,uT_]
   unfold gB
   rw[hT]
 ·have:j=p.n:=o_
  subst this
  rw[List.take_of_length_le o_]
  exact h
def tc (g a r:Nat):List Value:=[.int .u16 (g:Int),.int .u16 (a:Int),.int .u32 (r:Int)]
theorem dRd {w:World} {pb:Nat} {b:Bk} (h:Blk w pb (bc b).toArray aG_):Rd w 1 ⟨some ⟨pb,0,none⟩,16,16⟩ (bv b.d):=
 ⟨by rw[az_,b.hd];rfl,Nat.le_refl _,by show 16≤_;decide,fun _=>⟨_,rfl,fun j v hj=>ar_ h j v (by rw[bc,List.getElem?_append_left (List.getElem?_eq_some_iff.1 hj).1];exact hj)⟩⟩
theorem wj_ (b:Bk):(bc b).drop 16=tc b.g b.a b.r:=by
 unfold bc
 rw[List.drop_append,List.drop_of_length_le (by rw[az_,b.hd];omega),az_,b.hd];rfl
theorem rz_ (b:Bk):(bc b).take 16=bv b.d:=by
 unfold bc
 rw[List.take_append_of_le_length (by rw[az_,b.hd];omega),List.take_of_length_le (by rw[az_,b.hd];omega)]
theorem nf_ {w:World} {a:Addr} {b:Bk} (h:bY_ w a (bc b)):bY_ w (a.add 16) (tc b.g b.a b.r):=fun j v hj=>by
 rw[iG_]
 refine h (16+j) v ?_
 rw[←wj_,List.getElem?_drop] at hj
 exact hj
theorem sm_ {w:World} {a:Addr} {b:Bk} (h:bY_ w a (bc b)):bY_ w (a.add 0) (bv b.d):=fun j v hj=>by
 rw[tm_]
 refine h j v ?_
 rw[←rz_,List.getElem?_take] at hj
 split at hj
 ·exact hj
 ·cases hj
theorem o6_ {w:World} {a:Addr} {g n r:Nat} (h:bY_ w a (tc g n r)):(loadVar eW_ a).run Tryz.prog w=.ok (.agg (tc g n r).toArray) w:=
 aE_ qR_ eX_ rfl h
theorem xL_ {w:World} {a:Addr} {d:L8} (hd:d.length=16) (h:bY_ w a (bv d)):(loadVar nb_ a).run Tryz.prog w=.ok (.agg (bv d).toArray) w:=
 aE_ sa_ r9_ (by rw[az_,hd]) h
theorem sn_ {w:World} {a:Addr} {b:Bk} (h:bY_ w a (bc b)):(loadVar aG_ a).run Tryz.prog w=.ok (.agg (bc b).toArray) w:=
 aE_ qS_ jG_ (by rw[fZ_]) h
theorem tJ_ {kind lba app:Nat} {d:L8} {w:World} {R:A_→W_} (hd:d.length=16) (h:∀w',ab_ w w'→R (tc (c16 d) app (mkR kind lba)).toArray w'):mH_ (kind:Int) (lba:Int) (bv d).toArray (app:Int) w R:=by
 refine kz_.calls _ _ _ _ _ _ ?_
 refine ag_ fun db w0 hdb hb0 hg0 hsz0=>?_
 have hb0:Blk w0 db (bv d).toArray nb_:=hb0
 refine ag_ fun ab w1 hab hb1 hg1 hsz1=>⟨d_,?_⟩
 have hb0':=hg1.heap hb0 (fun q=>q)
 have hrd:Rd w1 1 ⟨some ⟨db,0,none⟩,16,16⟩ (bv d):=⟨by rw[az_,hd];rfl,Nat.le_refl _,by show 16≤_;decide,fun _=>⟨_,rfl,fun j v hj=>ar_ hb0' j v hj⟩⟩
 refine pW_ (p:=⟨some ⟨db,0,none⟩,16,16⟩) hrd ?_
 refine ag_ fun tb w2 htb hb2 hg2 hsz2=>?_
 refine ap_ (cells:=(tc (c16 d) app 0).toArray) hb2 eX_ rfl rfl (by simp[tc,Value.oneCell']) fun w3 hb3 hk3 hsz3=>?_
 have hb1':Blk w2 ab _ eW_:=hg2.heap hb1 (fun q=>q)
 have hb13:Blk w3 ab _ eW_:=hk3.heap hb1' o_
 have hg03:ab_ w w3:=((hg0.trans hg1).trans hg2).keep hk3 fun i hi q=>o_
 refine cu_ (fun u=>ab_ w u∧Blk u tb (tc (c16 d) app (mkR kind lba)).toArray eW_∧Blk u ab #[.int .u16 0,.int .u16 0,.int .u32 0] eW_) ?_ (fun J=>?_)
 ·rintro u ⟨hgu,hbt,hba⟩
  refine⟨_,o6_ (ar_ hbt),?_⟩
  refine ap_ (cells:=(tc (c16 d) app (mkR kind lba)).toArray) hba eX_ rfl rfl (by simp[tc,Value.oneCell']) fun u2 hb2' hk2' _=>?_
  exact⟨_,o6_ (ar_ hb2'),h u2 (hgu.keep hk2' fun i hi q=>by have:=hg0.size;omega)⟩
 ·by_cases q:kind=1∨kind=2
  ·refine am_ (by rw[Bool.or_eq_true,beq_iff_eq,beq_iff_eq];omega) ?_
   rw[aq_]
   refine a0_ hb3 (by show 2<3;decide) rfl fun w4 hb4 hk4 _=>J w4 ⟨hg03.keep hk4 fun i hi q=>by have:=hg0.size;omega,?_,hk4.heap hb13 o_⟩
   have e:IntKind.wrap .u32 (lba:Int)=((mkR kind lba:Nat):Int):=by
    unfold mkR;rw[if_pos q]
    have e:IntKind.wrap .u32 (lba:Int)=(lba:Int)%4294967296:=by simp[IntKind.wrap,IntKind.signed,IntKind.bits]
    rw[e];omega
   rw[e] at hb4
   exact hb4
  ·refine aj_ (by rw[Bool.or_eq_false_iff,beq_eq_false_iff_ne,beq_eq_false_iff_ne];omega) (J w3 ⟨hg03,?_,hb13⟩)
   unfold mkR;rw[if_neg q];exact hb3
theorem pX_ {kind:Nat} {b:Bk} {w:World} {R:Bool→W_} (h:∀w',ab_ w w'→R (lt_ kind b) w'):jF_ (kind:Int) (tc b.g b.a b.r).toArray w R:=by
 refine hC_.calls _ _ _ _ ?_
 refine ag_ fun tb w0 htb hb0 hg0 hsz0=>?_
 have hb0:Blk w0 tb (tc b.g b.a b.r).toArray eW_:=hb0
 refine⟨(b.a:Int),by rw[aq_,hb0.cell];rfl,?_⟩
 have:=h w0 hg0
 unfold lt_ at this
 refine hp_ (fun q=>?_) (fun q=>⟨(b.r:Int),fun _=>by rw[aq_,hb0.cell];rfl,?_⟩)
 ·rw[decide_eq_false o_] at this;exact this
 ·have e:((kind:Int) != 3||(b.r:Int)==4294967295)=(decide (b.a=65535)&&(decide (kind≠3)||decide (b.r=4294967295))):=by
   rw[decide_eq_true (by omega:b.a=65535),Bool.true_and,Bool.eq_iff_iff,Bool.or_eq_true,Bool.or_eq_true,bne_iff_ne,beq_iff_eq,decide_eq_true_eq,decide_eq_true_eq]
   omega
  rw[e];exact this
theorem pY_ {kind prot lba:Nat} {b:Bk} {w:World} {R:Int→W_} (h:∀w',ab_ w w'→R ((dM_ kind prot lba b:Nat):Int) w'):lm_ (kind:Int) (prot:Int) (lba:Int) (bc b).toArray w R:=by
 refine jm_.calls _ _ _ _ _ _ ?_
 refine ag_ fun bb w0 hbb hb0 hg0 hsz0=>?_
 have hb0:Blk w0 bb (bc b).toArray aG_:=hb0
 have ht0:bY_ w0 (⟨bb,0,none⟩:Addr) (bc b):=ar_ hb0
 refine⟨_,fun _=>o6_ (nf_ ht0),?_⟩
 generalize hG:(((((kind:Int)==0)||decide ((kind:Int)>3))||((prot:Int)==3))||decide ((prot:Int)>4))=G
 have hGiff:G=true↔(kind=0∨3<kind∨prot=3∨4<prot):=by
  rw[←hG,Bool.or_eq_true,Bool.or_eq_true,Bool.or_eq_true,beq_iff_eq,beq_iff_eq,decide_eq_true_eq,decide_eq_true_eq]
  omega
 refine cm_ (fun x u=>ab_ w0 u∧(G=false→x=lt_ kind b)) ?_ (fun J=>⟨fun q=>pX_ fun u hu=>J _ _ ⟨hu,fun _=>rfl⟩,fun q=>J _ _ ⟨aa_.refl _ _,fun e=>by rw[e] at q;cases q⟩⟩)
 rintro x u ⟨hgu,hx⟩
 by_cases hz:G=true∨lt_ kind b=true
 ·have hc:dM_ kind prot lba b=0:=by
   unfold dM_
   refine if_pos ?_
   rcases hz with q|q
   ·have:=hGiff.1 q;omega
   ·simp[q]
  have:=h u (hg0.trans hgu)
  rw[hc] at this
  refine am_ ?_ this
  rw[Bool.or_eq_true]
  cases hg:G with
  | true=>exact .inl rfl
  | false=>right;rw[hx hg];exact hz.resolve_left (by rw[hg];decide)
 have hGf:G=false:=by cases hg:G with|false=>rfl|true=>exact absurd (.inl hg) hz
 have hE:lt_ kind b=false:=by cases hg:lt_ kind b with|false=>rfl|true=>exact absurd (.inr hg) hz
 have hn:¬(kind=0∨3<kind∨prot=3∨4<prot∨lt_ kind b=true):=by
  have hx:¬(kind=0∨3<kind∨prot=3∨4<prot):=fun q=>hz (.inl (hGiff.2 q))
  rintro(q|q|q|q|q)
  ·exact hx (.inl q)
  ·exact hx (.inr (.inl q))
  ·exact hx (.inr (.inr (.inl q)))
  ·exact hx (.inr (.inr (.inr q)))
  ·rw[hE] at q;cases q
 refine aj_ (by rw[hGf,hx hGf,hE];rfl) ?_
 rintro w2 rfl
 have hg2:ab_ w0 u.drew:=hgu.trans (ak_ u)
 have hbu:∀{v:World},ab_ w0 v→Blk v bb (bc b).toArray aG_:=fun g=>g.heap hb0 (fun q=>q)
 obtain⟨e16,e17,e18⟩:=xG_ b
 refine⟨fun v=>ab_ w0 v,hg2,(b.g:Int),fun _ v hv=>by rw[aq_,aq_,(hbu hv).cell];exact e16,fun _=>d_,?_⟩
 have hd:∀{v:World},ab_ w0 v→Rd v 1 ⟨some ⟨bb,0,none⟩,16,16⟩ (bv b.d):=fun g=>dRd (hbu g)
 refine cm_ (fun x v=>ab_ w0 v∧((prot:Int)≠2→x=((c16 b.d:Nat):Int))) ?_ (fun J=>⟨fun q=>pW_ (p:=⟨some ⟨bb,0,none⟩,16,16⟩) (hd hg2) (J _ _ ⟨hg2,fun _=>rfl⟩),fun q=>J _ _ ⟨hg2,fun e=>absurd (by simpa using q) e⟩⟩)
 rintro x v ⟨hgv,hxv⟩
 refine⟨hgv,?_⟩
 have hfin:=h v (hg0.trans hgv)
 by_cases q1:prot≠2∧b.g≠c16 b.d
 ·have hc:dM_ kind prot lba b=4097:=by unfold dM_;rw[if_neg hn,if_pos q1]
  rw[hc] at hfin
  refine am_ ?_ hfin
  rw[hxv o_,Bool.and_eq_true,bne_iff_ne,bne_iff_ne]
  omega
 refine aj_ ?_ ⟨(b.r:Int),fun _=>by rw[aq_,aq_,(hbu hgv).cell];exact e18,?_⟩
 ·rw[Bool.and_eq_false_iff,bne_eq_false_iff_eq,bne_eq_false_iff_eq]
  by_cases e:prot=2
  ·left;omega
  ·right;rw[hxv o_];omega
 have e32:IntKind.wrap .u32 (lba:Int)=((lba%4294967296:Nat):Int):=by
  have e:IntKind.wrap .u32 (lba:Int)=(lba:Int)%4294967296:=by simp[IntKind.wrap,IntKind.signed,IntKind.bits]
  rw[e];omega
 rw[e32]
 by_cases q2:prot≠4∧kind≠3∧b.r≠lba%4294967296
 ·have hc:dM_ kind prot lba b=4099:=by unfold dM_;rw[if_neg hn,if_neg q1,if_pos q2]
  rw[hc] at hfin
  refine am_ ?_ hfin
  rw[Bool.and_eq_true,Bool.and_eq_true,bne_iff_ne,bne_iff_ne,bne_iff_ne]
  omega
 ·have hc:dM_ kind prot lba b=0:=by unfold dM_;rw[if_neg hn,if_neg q1,if_neg q2]
  rw[hc] at hfin
  refine aj_ ?_ hfin
  rw[Bool.and_eq_false_iff,Bool.and_eq_false_iff,bne_eq_false_iff_eq,bne_eq_false_iff_eq,bne_eq_false_iff_eq]
  omega
theorem tK_ {wt:Bool} {w:World} {R:Int→W_} (h:R ((szB wt:Nat):Int) w):mI_ wt w R:=by
 refine kA_.calls _ _ _ ?_
 cases wt
 ·exact aj_ rfl h
 ·exact am_ rfl h
open Go CF
structure Sn where
 key:Nat
 code:Nat
 info:Nat
 hi:Bool
 field:Int
 bit:Int
 hf:Bool
 ic:Bool
def sn0:Sn:=⟨0,0,0,false,0,0,false,false⟩
def snv (s:Sn):List Value:=[.int .u8 (s.key:Int),.int .u16 (s.code:Int),.int .u64 (s.info:Int),.bool s.hi,.int .i64 s.field,.int .i64 s.bit,.bool s.hf,.bool s.ic]
def dN_ (code:Nat):Sn:=⟨5,code,0,false,0,0,false,false⟩
def mS_ (field:Nat):Sn:=⟨5,0x2600,0,false,(field:Int),-1,true,false⟩
def atS (key code info:Nat):Sn:=⟨key,code,info,true,0,0,false,false⟩
def rsv (st:Nat) (s:Sn) (d:Sl):List Value:=[.int .u8 (st:Int)]++snv s++[.slice d.A d.n d.c]
abbrev au_:Sl:=⟨none,0,0⟩
theorem mT_ (st:Nat) (s:Sn) (d:Sl):(rsv st s d).toArray.all (·.oneCell')=true:=by simp[rsv,snv,Value.oneCell']
theorem kK_ {w:World} {a:Addr} {st:Nat} {s:Sn} {d:Sl} (h:bY_ w a (rsv st s d)):(loadVar ad_ a).run Tryz.prog w=.ok (.agg (rsv st s d).toArray) w:=aE_ pM_ gQ_ rfl h
theorem fK_ {w:World} {a:Addr} {s:Sn} (h:bY_ w a (snv s)):(loadVar av_ a).run Tryz.prog w=.ok (.agg (snv s).toArray) w:=aE_ eU_ aV_ rfl h
theorem bL_ {w:World} {a:Nat} {old:A_} {st:Nat} {s:Sn} {d:Sl} {K:A_→W_} (hb:Blk w a old ad_) (ho:old.size=10)
  (h:∀w',aa_ (fun k=>k=a) w w'→K (rsv st s d).toArray w') :
  ah_ Tryz.prog (storeVar ad_ ⟨a,0,none⟩ (.agg (rsv st s d).toArray)) w fun w'=>∃res:A_,(loadVar ad_ ⟨a,0,none⟩).run Tryz.prog w'=.ok (.agg res) w'∧K res w':=
 ap_ (cells:=(rsv st s d).toArray) hb gQ_ rfl ho (mT_ _ _ _) fun w1 hb1 hk1 _=>⟨_,kK_ (ar_ hb1),h w1 hk1⟩
theorem gw_ {w:World} {a:Nat} {old:A_} {st:Nat} {s:Sn} {d:Sl} {K:W_} (hb:Blk w a old ad_) (ho:old.size=10)
  (h:∀w',Blk w' a (rsv st s d).toArray ad_→aa_ (fun k=>k=a) w w'→w'.heap.size=w.heap.size→K w'):ah_ Tryz.prog (storeVar ad_ ⟨a,0,none⟩ (.agg (rsv st s d).toArray)) w K:=
 ap_ (cells:=(rsv st s d).toArray) hb gQ_ rfl ho (mT_ _ _ _) h
theorem c6_ {w u v:World} {a:Nat} (hg:ab_ w u) (ha:w.heap.size≤a) (hk:aa_ (fun k=>k=a) u v):ab_ w v:=hg.keep hk fun i hi q=>o_
theorem g0_ {s:Sn} {w:World} {R:A_→W_} (h:∀w',ab_ w w'→R (rsv 2 s au_).toArray w'):do_ (snv s).toArray w R:=by
 refine in_.calls _ _ _ ?_
 refine ag_ fun sb w0 hsb hb0 hg0 hsz0=>?_
 have hb0:Blk w0 sb (snv s).toArray av_:=hb0
 refine ag_ fun ab w1 hab hb1 hg1 hsz1=>⟨_,fK_ (ar_ (hg1.heap hb0 (fun q=>q))),(rsv 2 s au_).toArray,k_,?_⟩
 exact bL_ hb1 rfl fun w2 hk2=>h w2 (c6_ (hg0.trans hg1) (by have:=hg0.size;omega) hk2)
theorem rA_ {key code info:Nat} {w:World} {R:A_→W_} (h:∀w',ab_ w w'→R (rsv 2 (atS key code info) au_).toArray w'):lR_ (key:Int) (code:Int) (info:Int) w R:=by
 refine lV_.calls _ _ _ _ _ ?_
 refine ag_ fun ab w0 hab hb0 hg0 hsz0=>?_
 refine g0_ (s:=atS key code info) fun w1 hg1=>?_
 exact bL_ (hg1.heap hb0 (fun q=>q)) rfl fun w2 hk2=>h w2 (c6_ (hg0.trans hg1) o_ hk2)
theorem os_ {d:Sl} {w:World} {R:A_→W_} (h:∀w',ab_ w w'→R (rsv 0 sn0 d).toArray w'):ja_ d w R:=by
 refine jl_.calls _ _ _ ?_
 refine ag_ fun ab w0 hab hb0 hg0 hsz0=>?_
 exact bL_ (st:=0) (s:=sn0) (d:=d) hb0 rfl fun w2 hk2=>h w2 (c6_ hg0 o_ hk2)
theorem mi_ {w:World} {R:A_→W_} (h:∀w',ab_ w w'→R (rsv 2 (dN_ 0x1a00) au_).toArray w'):jE_ w R:=by
 refine hB_.calls _ _ ?_
 refine ag_ fun ab w0 hab hb0 hg0 hsz0=>?_
 refine g0_ (s:=dN_ 0x1a00) fun w1 hg1=>?_
 exact bL_ (hg1.heap hb0 (fun q=>q)) rfl fun w2 hk2=>h w2 (c6_ (hg0.trans hg1) o_ hk2)
theorem qW_ {a b c:Nat} {w:World} {R:Bool→W_} (ha:a<18446744073709551616) (hb:b<18446744073709551616) (hc:c<18446744073709551616) (h:R (decide (a+b≤c)) w):kn_ (a:Int) (b:Int) (c:Int) w R:=by
 refine gX_.calls _ _ _ _ _ ?_
 unfold gX_
 have e:(decide ((a:Int)≤(c:Int))&&decide ((b:Int)≤IntKind.wrap .u64 ((c:Int)-(a:Int))))=decide (a+b≤c):=by
  rw[Bool.eq_iff_iff,Bool.and_eq_true,decide_eq_true_eq,decide_eq_true_eq,decide_eq_true_eq]
  by_cases q:a≤c
  ·rw[h3_ o_ o_];omega
  ·omega
 first
  | (rw[e];exact h)
  | exact e▸h
open Go CF
def cP_:Bk:=⟨[0,0,0,0,0,0,0,0,0,0,0,0,0,0,0,0],0,0,0,rfl,d_,d_,d_⟩
theorem j4_ {w:World} {base:Nat} {e:TypeId} {s:Sl} {l:L8} (h:Own w base e 1 s (bv l)):s.n=l.length:=by have:=h.len;rw[az_] at this;omega
theorem cV_ {w:World} {s:Sl} {l:L8} (h:Rd w 1 s (bv l)):l.length=s.n:=by have:=h.len;rw[az_] at this;omega
theorem eu_ {w u u':World} {base:Nat} {e:TypeId} {z:Nat} {s:Sl} {vs:List Value} (hg:ab_ w u) (ho:Own u base e z s vs) (hb:w.heap.size≤base) (hk:aa_ (fun k=>some k=s.blk) u u'):ab_ w u':=
 hg.keep hk fun i hi q=>by have:=(ho.ge i q.symm).1;omega
theorem qX_ {w:World} {pb:Nat} {p:Sl} {l:L8} (hb:Blk w pb (bc cP_).toArray aG_) (hp:Rd w 1 p (bv l)) (h16:16≤l.length) {K:Int→W_}
  (h:∀w',Blk w' pb (bv (l.take 16)++tc 0 0 0).toArray aG_→aa_ (fun k=>k=pb) w w'→w'.heap.size=w.heap.size→K 16 w') :
  an_ Tryz.prog (.i .i64) (Builtin.copy_ #[bn_,bn_] r6_ #[.slice (some ⟨pb,0,none⟩) 16 16,.slice p.A p.n p.c]) w K:=by
 have hln:=cV_ hp
 have hdl:(l.take 16).length=16:=by rw[List.length_take];omega
 have hne:bv l≠[]:=fun e=>by have:=congrArg List.length e;rw[az_,List.length_nil] at this;omega
 obtain⟨a2,ha2,hc2⟩:=hp.at_ hne
 have hsrc:∀j v,(bv (l.take 16))[j]?=some v→w.cell? (a2.add j)=some v:=fun j v hj=>hc2 j v (by
  rw[←nU_,List.getElem?_take] at hj
  split at hj
  ·exact hj
  ·cases hj)
 have hcp:=run_copy_row (P:=Tryz.prog) w bn_ bn_ r6_ ae_ pb 0 16 16 a2 p.n p.c _ aG_ (bv (l.take 16)) aX_ k_ hb (by rw[az_,hdl];exact(Nat.min_eq_right o_).symm) hsrc (by rw[az_,hdl];decide) (dg_ _)
 have hset:=setRow_heap w pb _ ((bc cP_).toArray.toList.take 0++bv (l.take 16)++(bc cP_).toArray.toList.drop (0+16)).toArray aG_ (0,0) hb
 have hoth:=fun k (hn:¬k=pb)=>setRow_other w pb k ((bc cP_).toArray.toList.take 0++bv (l.take 16)++(bc cP_).toArray.toList.drop (0+16)).toArray hn
 have hos:∀x,(w.setRow pb x).os=w.os∧(w.setRow pb x).tape=w.tape∧(w.setRow pb x).output=w.output∧(w.setRow pb x).heap.size=w.heap.size:=fun x=>⟨rfl,rfl,rfl,by simp⟩
 have hos:=hos ((bc cP_).toArray.toList.take 0++bv (l.take 16)++(bc cP_).toArray.toList.drop (0+16)).toArray
 rw[ha2]
 refine⟨16,_,hcp.trans (by rw[az_,hdl];rfl),?_⟩
 generalize w.setRow pb ((bc cP_).toArray.toList.take 0++bv (l.take 16)++(bc cP_).toArray.toList.drop (0+16)).toArray=w5 at *
 refine h w5 ?_ ⟨hos.1,hos.2.1,hos.2.2.1,o_,fun k _ hn=>hoth k hn⟩ hos.2.2.2
 exact hset
theorem so_ (b:Bk):bv (it_ false b)=bv b.d:=by simp[it_]
theorem sp_ (wt:Bool) {bs:List Bk} {j:Nat} (h:j<bs.length):eE_ wt (bs.take (j+1))=eE_ wt (bs.take j)++it_ wt bs[j]:=by
 unfold eE_
 rw[List.take_succ_eq_append_getElem h,List.flatMap_append]
 simp
theorem tL_ {ls:Sl} {wt:Bool} {bs:List Bk} {w:World} {R:Sl→W_} (hl:Rd w 19 ls (bs.flatMap bc)) (hn:bs.length≤4096)
  (h:∀s w',Own w' w.heap.size ae_ 1 s (bv (eE_ wt bs))→ab_ w w'→R s w'):mG_ ls wt w R:=by
 refine ky_.calls _ _ _ _ ?_
 have hbn:=se_ hl
 refine⟨fun p x u=>∃j:Nat,x=j∧j≤bs.length∧ab_ w u∧Own u w.heap.size ae_ 1 p (bv (eE_ wt (bs.take j))),fun _ x _=>bs.length-x.toNat,⟨0,rfl,Nat.zero_le _,aa_.refl _ _,aH_ _ _ _ _⟩,?_⟩
 rintro p x u ⟨j,rfl,hj,hgu,hown⟩
 refine bl_ (fun hlt=>?_) (fun hge=>?_)
 ·have hjb:j<bs.length:=o_
  have hpn:=j4_ hown
  rw[tI_,List.length_take,Nat.min_eq_left hj] at hpn
  have hsz:szB wt≤24:=by unfold szB;split<;>decide
  have hjs:j*szB wt≤4096*24:=Nat.mul_le_mul o_ hsz
  refine bc_ (fun q v=>ab_ w v∧Own v w.heap.size ae_ 1 q (bv (eE_ wt (bs.take (j+1))))) (fun q v ⟨h1,h2⟩=>by
   rw[w64 o_ o_]
   exact⟨⟨j+1,o_,o_,h1,h2⟩,by dsimp only;omega⟩) (fun J=>?_)
  obtain⟨a0,ha0,hc0⟩:=mO_ (hl.grow hgu) hjb
  refine⟨⟨o_,o_,by rw[ha0];rfl⟩,(bc bs[j]).toArray,by rw[ha0,Int.toNat_natCast];exact sn_ hc0,?_⟩
  rw[sp_ wt hjb] at J
  generalize bs[j]=b at *
  refine ag_ fun pb w1 hpb hb1 hg1 hsz1=>?_
  refine ap_ (cells:=(bc b).toArray) hb1 jG_ (by simp[fZ_]) (by simp[fZ_]) (wZ_ _) fun w2 hb2 hk2 hsz2=>⟨d_,?_⟩
  have hg2:ab_ u w2:=hg1.keep hk2 fun i hi q=>o_
  have hgw2:=hgu.trans hg2
  refine aZ_ (x:=⟨some ⟨pb,0,none⟩,16,16⟩) aX_ bE_ rfl d_ d_ (hown.grow hg2) (dRd hb2) (dg_ _) (by show(p.n+16)*1≤_;omega) hgw2.size fun q w3 hn3 hown3 hk3 hat3=>?_
  rw[←b3_] at hown3
  have hgw3:=eu_ hgw2 (hown.grow hg2) (Nat.le_refl _) hk3
  have hpq:pb≠q.n∨True:=.inr trivial
  have hb3:Blk w3 pb (bc b).toArray aG_:=hk3.heap hb2 fun e=>by have:=(hown.ge pb e.symm).2;omega
  cases wt with
  | false=>
   refine aj_ rfl (J q w3 ⟨hgw3,?_⟩)
   rw[b3_,so_,←b3_]
   exact hown3
  | true=>
   refine am_ rfl ⟨_,o6_ (nf_ (ar_ hb3)),?_⟩
   refine ag_ fun tb w4 htb hb4 hg4 hsz4=>?_
   refine ap_ (cells:=(tc b.g b.a b.r).toArray) hb4 eX_ rfl rfl (by simp[tc,Value.oneCell']) fun w5 hb5 hk5 hsz5=>?_
   have hg35:ab_ w3 w5:=hg4.keep hk5 fun i hi q=>o_
   have cg:w5.cell? ((⟨tb,0,none⟩:Addr).add 0)=some (.int .u16 (b.g:Int)):=by rw[aq_,hb5.cell];rfl
   have ca:w5.cell? ((⟨tb,0,none⟩:Addr).add 1)=some (.int .u16 (b.a:Int)):=by rw[aq_,hb5.cell];rfl
   have cr:w5.cell? ((⟨tb,0,none⟩:Addr).add 2)=some (.int .u32 (b.r:Int)):=by rw[aq_,hb5.cell];rfl
   refine⟨_,cg,_,cg,_,ca,_,ca,_,cr,_,cr,_,cr,_,cr,?_⟩
   rw[shr .u16 b.g 8 d_,shr .u16 b.a 8 d_,shr .u32 b.r 24 d_,shr .u32 b.r 16 d_,shr .u32 b.r 8 d_,bt_,bt_,bt_,bt_,bt_,bt_,bt_,bt_]
   refine aN_ (cells:=(bv (sl_ b)).toArray) (e:=ae_) (z:=1) (base:=w.heap.size) k_ rfl d_ (hgw3.trans hg35).size fun w6 hlit6 hg6 _=>?_
   have hn3:q.n=p.n+16:=hn3
   refine aZ_ aX_ bE_ rfl d_ d_ ((hown3.grow hg35).grow hg6) (hlit6.rd (by show 8≤_;decide)) (dg_ _) (by rw[hn3];show(p.n+16+8)*1≤_;omega) ((hgw3.trans hg35).trans hg6).size fun q2 w7 hn7 hown7 hk7 _=>?_
   refine J q2 w7 ⟨eu_ ((hgw3.trans hg35).trans hg6) ((hown3.grow hg35).grow hg6) (Nat.le_refl _) hk7,?_⟩
   have e:bv (eE_ true (bs.take j)++it_ true b)=bv (eE_ true (bs.take j)++b.d)++bv (sl_ b):=by
    rw[←b3_];simp[it_]
   rw[e]
   exact hown7
 ·have:j=bs.length:=o_
  subst this
  rw[List.take_length] at hown
  exact h p u hown hgu
theorem w9_ {a b:Nat} (ha:a<256) (hb:b<256):bOr .u16 (cl_ .u16 (IntKind.wrap .u16 (a:Int)) 8) (IntKind.wrap .u16 (b:Int))=((a*256+b:Nat):Int):=by
 rw[nV_ (n:=(a:Int)) o_ o_,nV_ (n:=(b:Int)) o_ o_,rw_ ha]
 unfold bOr
 show IntKind.wrap .u16 (((BitVec.ofInt 16 ((a*256:Nat):Int) ||| BitVec.ofInt 16 (b:Int)).toNat:Nat):Int)=_
 rw[BitVec.ofInt_natCast,BitVec.ofInt_natCast,BitVec.toNat_or,BitVec.toNat_ofNat,BitVec.toNat_ofNat,Nat.mod_eq_of_lt o_,Nat.mod_eq_of_lt o_]
 have e:a*256 ||| b=a*256+b:=by
  have:=Nat.shiftLeft_add_eq_or_of_lt (i:=8) (b:=b) o_ a
  rw[Nat.shiftLeft_eq] at this
  exact this.symm
 rw[e]
 exact nV_ o_ o_
theorem uU_ {x y m:Nat} (hm:∃k,m=2 ^ k) (hx:∃a,x=a*m) (hy:y<m) (hs:x+y<4294967296):bOr .u32 (x:Int) (y:Int)=((x+y:Nat):Int):=by
 obtain⟨k,rfl⟩:=hm
 obtain⟨a,rfl⟩:=hx
 unfold bOr
 show IntKind.wrap .u32 (((BitVec.ofInt 32 ((a*2 ^ k:Nat):Int) ||| BitVec.ofInt 32 (y:Int)).toNat:Nat):Int)=_
 rw[BitVec.ofInt_natCast,BitVec.ofInt_natCast,BitVec.toNat_or,BitVec.toNat_ofNat,BitVec.toNat_ofNat,Nat.mod_eq_of_lt o_,Nat.mod_eq_of_lt o_]
 have e:a*2 ^ k ||| y=a*2 ^ k+y:=by
  have:=Nat.shiftLeft_add_eq_or_of_lt (i:=k) (b:=y) hy a
  rw[Nat.shiftLeft_eq] at this
  exact this.symm
 rw[e]
 exact jz_ o_ o_
theorem sq_ {a k m:Nat} (hm:m=2 ^ k) (hk:k≤32) (h:a*m<4294967296):cl_ .u32 (a:Int) k=((a*m:Nat):Int):=by
 subst hm
 unfold cl_
 have e:(min k (IntKind.bits .u32))=k:=Nat.min_eq_left hk
 have e2:(a:Int)*2 ^ k=((a*2 ^ k:Nat):Int):=by norm_cast
 rw[e,e2]
 exact jz_ o_ o_
theorem ye_ {a b c d:Nat} (ha:a<256) (hb:b<256) (hc:c<256) (hd:d<256) :
  bOr .u32 (bOr .u32 (bOr .u32 (cl_ .u32 (IntKind.wrap .u32 (a:Int)) 24) (cl_ .u32 (IntKind.wrap .u32 (b:Int)) 16)) (cl_ .u32 (IntKind.wrap .u32 (c:Int)) 8)) (IntKind.wrap .u32 (d:Int))=((a*16777216+b*65536+c*256+d:Nat):Int):=by
 rw[jz_ (n:=(a:Int)) o_ o_,jz_ (n:=(b:Int)) o_ o_,jz_ (n:=(c:Int)) o_ o_,jz_ (n:=(d:Int)) o_ o_]
 rw[sq_ (a:=a) (k:=24) (m:=16777216) rfl d_ o_,sq_ (a:=b) (k:=16) (m:=65536) rfl d_ o_,sq_ (a:=c) (k:=8) (m:=256) rfl d_ o_]
 rw[uU_ (m:=16777216) ⟨24,rfl⟩ ⟨a,rfl⟩ o_ o_,uU_ (m:=65536) ⟨16,rfl⟩ ⟨a*256+b,o_⟩ o_ o_,uU_ (m:=256) ⟨8,rfl⟩ ⟨a*65536+b*256+c,o_⟩ o_ o_]
theorem xM_ {a b c d:UInt8}:num [a,b,c,d]=a.toNat*16777216+b.toNat*65536+c.toNat*256+d.toNat:=by simp[num];omega
theorem tM_ (l:L8) (h:16≤l.length):bc (unB false l)=bv (l.take 16)++tc 0 0 0:=by
 have e:ef_ l=l.take 16:=by unfold ef_;rw[List.take_append_of_le_length h]
 show bv (ef_ l)++tc 0 0 0=_
 rw[e]
theorem uV_ (l:L8) (h:16≤l.length):bc (unB true l)=bv (l.take 16)++tc (num ((l.drop 16).take 2)) (num ((l.drop 18).take 2)) (num ((l.drop 20).take 4)):=by
 have e:ef_ l=l.take 16:=by unfold ef_;rw[List.take_append_of_le_length h]
 show bv (ef_ l)++tc (num ((l.drop 16).take 2)) (num ((l.drop 18).take 2)) (num ((l.drop 20).take 4))=_
 rw[e]
theorem uW_ {wt:Bool} {l:L8}:unB wt (l.take (szB wt))=unB wt l:=by
 cases wt with
 | false=>
  unfold unB szB
  have e:ef_ (l.take 16)=ef_ l:=by
   unfold ef_
   rcases Nat.le_total 16 l.length with q|q
   ·rw[List.take_append_of_le_length (by rw[List.length_take];omega),List.take_take,List.take_append_of_le_length q];rfl
   ·rw[List.take_of_length_le q]
  simp only[Bool.false_eq_true,if_false,e]
 | true=>
  unfold unB szB
  have e:ef_ (l.take 24)=ef_ l:=by
   unfold ef_
   rcases Nat.le_total 24 l.length with q|q
   ·rw[List.take_append_of_le_length (by rw[List.length_take];omega),List.take_take,List.take_append_of_le_length o_];rfl
   ·rw[List.take_of_length_le q]
  have f:∀d n,d+n≤24→((l.take 24).drop d).take n=(l.drop d).take n:=fun d n h=>by
   rw[List.drop_take,List.take_take,Nat.min_eq_left o_]
  simp only[if_true,e,f 16 2 d_,f 18 2 d_,f 20 4 d_]
open Go CF
theorem vT_ {X:L8} {d:Nat} (h:d+2≤X.length):(X.drop d).take 2 = [X[d],X[d+1]]:=by
 rw[List.drop_eq_getElem_cons (show d<X.length by omega),List.take_succ_cons,List.drop_eq_getElem_cons (show d+1<X.length by omega),List.take_succ_cons,List.take_zero]
theorem xN_ {X:L8} {d:Nat} (h:d+4≤X.length):(X.drop d).take 4 = [X[d],X[d+1],X[d+2],X[d+3]]:=by
 rw[List.drop_eq_getElem_cons (show d<X.length by omega),List.take_succ_cons,List.drop_eq_getElem_cons (show d+1<X.length by omega),List.take_succ_cons,List.drop_eq_getElem_cons (show d+2<X.length by omega),List.take_succ_cons,
  List.drop_eq_getElem_cons (show d+3<X.length by omega),List.take_succ_cons,List.take_zero]
theorem qY_ {p:Sl} {l:L8} {wt:Bool} {w:World} {R:Sl→Bool→W_} (hp:Rd w 1 p (bv l)) (hb:p.n≤140737488351232)
  (h1:l.length%szB wt≠0→R au_ false w) (h2:l.length%szB wt=0→∀out u,ab_ w u→Own u w.heap.size aG_ 19 out ((b7_ wt l).flatMap bc)→R out true u):kp_ p wt w R:=by
 refine ip_.calls _ _ _ _ ?_
 have hln:=cV_ hp
 have hs16:16≤szB wt∧szB wt≤24:=by unfold szB;split<;>decide
 refine tK_ ⟨o_,?_⟩
 have em:((p.n:Int).tmod ((szB wt:Nat):Int))=((l.length%szB wt:Nat):Int):=by rw[hln];rfl
 rw[em]
 refine hp_ (fun q=>h1 o_) (fun q=>?_)
 have hm:l.length%szB wt=0:=o_
 have hN:l.length=l.length/szB wt*szB wt:=by have:=Nat.div_add_mod l.length (szB wt);rw[hm,Nat.mul_comm] at this;omega
 have h2:=h2 hm
 generalize hNN:l.length/szB wt=N at *
 have hN16:N*16≤l.length:=by rw[hN];exact Nat.mul_le_mul_left _ hs16.1
 have hul:(b7_ wt l).length=N:=by rw[kJ_,hNN]
 refine⟨fun p1 out u=>∃j:Nat,j≤N∧ab_ w u∧(∀v,ab_ w v→Rd v 1 p1 (bv (l.drop (j*szB wt))))∧Own u w.heap.size aG_ 19 out (((b7_ wt l).take j).flatMap bc),fun p1 _ _=>p1.n,
  ⟨0,Nat.zero_le _,aa_.refl _ _,fun v hv=>by rw[Nat.zero_mul,List.drop_zero];exact hp.grow hv,aH_ _ _ _ _⟩,?_⟩
 rintro p1 out u ⟨j,hj,hgu,hp1,hown⟩
 have hpu:=hp1 u hgu
 have hpn:=cV_ hpu
 rw[List.length_drop] at hpn
 have hjs:j*szB wt≤N*szB wt:=Nat.mul_le_mul_right _ hj
 by_cases hjN:j=N
 ·subst hjN
  refine aj_ (by rw[decide_eq_false_iff_not];omega) ?_
  rw[List.take_of_length_le o_] at hown
  exact h2 out u hgu hown
 have hjs1:j*szB wt+szB wt≤N*szB wt:=by rw[←Nat.succ_mul];exact Nat.mul_le_mul_right _ o_
 have hcap:=hpu.cap
 refine am_ (by rw[decide_eq_true_eq];omega) ?_
 have hXl:(l.drop (j*szB wt)).length=p1.n:=by rw[List.length_drop];exact hpn
 have hun:(b7_ wt l)[j]' o_=unB wt (l.drop (j*szB wt)):=by rw[wi_,uW_]
 have hou:=se_ (hown.rd (by
  have:=hown.len
  rw[cY_ fZ_,List.length_take] at this
  omega))
 rw[List.length_take,hul,Nat.min_eq_left hj] at hou
 refine bc_ (fun out1 v=>ab_ w v∧Own v w.heap.size aG_ 19 out1 (((b7_ wt l).take (j+1)).flatMap bc)) ?_ (fun J=>?_)
 ·rintro out1 v ⟨h3,h5⟩
  refine⟨⟨o_,o_,o_,hcap⟩,⟨j+1,o_,h3,fun x hx=>?_,h5⟩,?_⟩
  ·have:=(hp1 x hx).cutB (l:=szB wt) (k:=p1.n) o_ (Nat.le_refl _)
   rw[List.take_of_length_le (by rw[List.length_drop];omega),List.drop_drop] at this
   rw[Nat.succ_mul]
   exact this
  ·show((p1.n:Int)).toNat-((szB wt:Nat):Int).toNat<p1.n
   rw[Int.toNat_natCast,Int.toNat_natCast];omega
 have hflat:((b7_ wt l).take (j+1)).flatMap bc=((b7_ wt l).take j).flatMap bc++bc (unB wt (l.drop (j*szB wt))):=by
  rw[List.take_succ_eq_append_getElem o_,List.flatMap_append,hun];simp
 rw[hflat] at J
 generalize hX:l.drop (j*szB wt)=X at *
 refine ag_ fun pb w1 hpb hb1 hg1 hsz1=>⟨d_,?_⟩
 have hb1:Blk w1 pb (bc cP_).toArray aG_:=hb1
 refine qX_ hb1 (hp1 w1 (hgu.trans hg1)) o_ fun w2 hb2 hk2 hsz2=>?_
 have hg2:ab_ u w2:=hg1.keep hk2 fun i hi q=>o_
 refine cu_ (fun v=>ab_ u v∧Blk v pb (bc (unB wt X)).toArray aG_) ?_ (fun J1=>?_)
 ·rintro v ⟨hgv,hbv⟩
  refine⟨_,sn_ (ar_ hbv),?_⟩
  refine aN_ (cells:=(bc (unB wt X)).toArray) (e:=aG_) (z:=19) (base:=0) (tB_ _ _) (by simp[fZ_]) d_ (Nat.zero_le _) fun w3 hlit3 hg3 _=>?_
  refine mQ_ nX_ jG_ rfl d_ d_ ((hown.grow hgv).grow hg3) (hlit3.rd (by show 1≤_;decide)) (fun x hx=>rt_ _ x (by simpa using hx)) (by show out.n+1≤_;omega) (by show(out.n+1+(out.n+1)/4+192)*24≤_;omega) ((hgu.trans hgv).trans hg3).size fun s' w4 hn4 hown4 hk4=>?_
  exact J s' w4 ⟨eu_ ((hgu.trans hgv).trans hg3) ((hown.grow hgv).grow hg3) (Nat.le_refl _) hk4,by simpa using hown4⟩
 ·have hgw2:=hgu.trans hg2
  cases wt with
  | false=>
   refine aj_ rfl (J1 w2 ⟨hg2,?_⟩)
   rw[tM_ X o_]
   exact hb2
  | true=>
   have h24:24≤X.length:=by have:szB true=24:=rfl;omega
   refine am_ rfl ⟨⟨d_,o_,o_,hcap⟩,?_⟩
   rintro w3 rfl
   have hg3:ab_ w2 w2.drew:=ak_ w2
   have hcut:∀v,ab_ w v→Rd v 1 ⟨aM_ p1.A p1.c 16 1,p1.n-16,p1.c-16⟩ (bv (X.drop 16)):=fun v hv=>by
    have:=(hp1 v hv).cutB (l:=16) (k:=p1.n) o_ (Nat.le_refl _)
    rwa [List.take_of_length_le (by rw[List.length_drop];omega)] at this
   have rd:∀i (hi:16+i<X.length) v,ab_ w v→v.cell? ((gA (aM_ p1.A p1.c 16 1)).add (i*1))=some (.int .u8 (X[16+i].toNat:Int)):=fun i hi v hv=>by
    obtain⟨a,ha,hc⟩:=(hcut v hv).byte (i:=i) (by show i<p1.n-16;omega)
    have ha:aM_ p1.A p1.c 16 1=some a:=ha
    rw[ha,gA]
    simpa using hc
   have hA:(aM_ p1.A p1.c 16 1).isSome=true:=by
    obtain⟨a,ha,_⟩:=(hcut w2 hgw2).byte (i:=0) (by show 0<p1.n-16;omega)
    have ha:aM_ p1.A p1.c 16 1=some a:=ha
    rw[ha];rfl
   have bd:∀i:Nat,i<8→(0:Int)≤(i:Int)∧(i:Int)<(((((p1.n:Int)).toNat-16):Nat):Int)∧(aM_ p1.A p1.c 16 1).isSome=true:=fun i hi=>⟨o_,by rw[Int.toNat_natCast];omega,hA⟩
   refine⟨fun v=>ab_ w v,hgw2.trans hg3,bd 0 d_,_,rd 0 o_,bd 1 d_,_,rd 1 o_,bd 2 d_,_,rd 2 o_,bd 3 d_,_,rd 3 o_,
    bd 4 d_,_,rd 4 o_,bd 5 d_,_,rd 5 o_,bd 6 d_,_,rd 6 o_,bd 7 d_,_,rd 7 o_,?_⟩
   rw[w9_ (UInt8.toNat_lt _) (UInt8.toNat_lt _),w9_ (UInt8.toNat_lt _) (UInt8.toNat_lt _),ye_ (UInt8.toNat_lt _) (UInt8.toNat_lt _) (UInt8.toNat_lt _) (UInt8.toNat_lt _)]
   have hb3:Blk w2.drew pb _ aG_:=hg3.heap hb2 (fun q=>q)
   rw[aq_]
   refine fp_ (o:=0+16) (cells:=(tc (X[16+0].toNat*256+X[16+1].toNat) (X[16+2].toNat*256+X[16+3].toNat) (X[16+4].toNat*16777216+X[16+5].toNat*65536+X[16+6].toNat*256+X[16+7].toNat)).toArray) hb3 eX_ rfl
    (by have:(bv (X.take 16)).length=16:=by rw[az_,List.length_take];omega
        simp[this,tc]) (by intro v hv;simp[tc] at hv;rcases hv with rfl|rfl|rfl<;>rfl) fun w4 hb4 hk4 hsz4=>?_
   refine J1 w4 ⟨(hg2.trans hg3).keep hk4 fun i hi q=>o_,?_⟩
   have e:(unB true X)=unB true X:=rfl
   rw[uV_ X o_,vT_ o_,vT_ o_,xN_ o_,ry_,ry_,xM_]
   have hl16:(bv (X.take 16)).length=16:=by rw[az_,List.length_take];omega
   have e2:((bv (X.take 16)++tc 0 0 0).take (0+16))=bv (X.take 16):=by rw[List.take_append_of_le_length o_,List.take_of_length_le o_]
   have e3:((bv (X.take 16)++tc 0 0 0).drop (0+16+3)) = []:=List.drop_of_length_le (by rw[List.length_append,hl16];decide)
   have hb4:Blk w4 pb ((bv (X.take 16)++tc 0 0 0).take (0+16)++tc (X[16+0].toNat*256+X[16+1].toNat) (X[16+2].toNat*256+X[16+3].toNat) (X[16+4].toNat*16777216+X[16+5].toNat*65536+X[16+6].toNat*256+X[16+7].toNat)++(bv (X.take 16)++tc 0 0 0).drop (0+16+3)).toArray aG_:=hb4
   rw[e2,e3,List.append_nil] at hb4
   exact hb4
open Go CF
structure Cm where
 kind:Nat
 long:Bool
 lba:Nat
 blocks:Nat
 alloc:Int
 fua:Bool
 prot:Nat
 unmap:Bool
 evpd:Bool
 page:Nat
 control:Nat
 save:Bool
 service:Nat
 type:Nat
 bytes:Bool
def cmv (c:Cm):List Value:=[.int .u8 (c.kind:Int),.bool c.long,.int .u64 (c.lba:Int),.int .u64 (c.blocks:Int),.int .i64 c.alloc,.bool c.fua,.int .u8 (c.prot:Int),.bool c.unmap,.bool c.evpd,.int .u8 (c.page:Int),.int .u8 (c.control:Int),
 .bool c.save,.int .u8 (c.service:Int),.int .u8 (c.type:Int),.bool c.bytes]
theorem lW_ {w:World} {a:Addr} {c:Cm} (h:bY_ w a (cmv c)):(loadVar aD_ a).run Tryz.prog w=.ok (.agg (cmv c).toArray) w:=aE_ om_ gI_ rfl h
def eo_ (ps kind:Nat):A_:=#[.pointer (some ⟨ps,0,none⟩),.int .u8 (kind:Int)]
structure Dvq (w:World) (dv ps pw:Nat) (file:ByteArray) (kind n:Nat) (cache:Bool) (D:Nat→Prop) (st:Wst) (bs:List Bk) (m:Nat) (F:Int→Bool):Prop where
 dev:Blk w dv (eo_ ps kind) ck_
 isS:IsS w ps pw file n cache
 isW:ba_ w pw D st F
 nps:¬D ps
 ndv:¬D dv
 ok:Wok st
 tells:o5_ st file bs
 len:bs.length=n
 size:1≤n∧n≤4096
 nm:1≤file.size∧file.size≤32
 kd:kind≤3
 few:st.ops≤m∧st.waits.length≤m
section
variable {w u:World} {dv ps pw:Nat} {file:ByteArray} {kind n:Nat} {cache:Bool} {D D':Nat→Prop} {st st':Wst} {bs bs':List Bk} {m m':Nat} {F:Int→Bool}
theorem Dvq.step (h:Dvq w dv ps pw file kind n cache D st bs m F) (k:aa_ D w u) (hw:ba_ u pw D' st' F) (hD:∀k,D' k→D k∨w.heap.size≤k) (hok:Wok st') (ht:o5_ st' file bs') (hl:bs'.length=n) (hf:st'.ops≤m'∧st'.waits.length≤m') :
  Dvq u dv ps pw file kind n cache D' st' bs' m' F:=by
 have l1:=aw_ h.dev
 have l2:=aw_ h.isS
 refine⟨k.heap h.dev h.ndv,k.heap h.isS h.nps,hw,fun q=>?_,fun q=>?_,hok,ht,hl,h.size,h.nm,h.kd,hf⟩
 ·rcases hD _ q with r|r
  ·exact h.nps r
  ·omega
 ·rcases hD _ q with r|r
  ·exact h.ndv r
  ·omega
theorem Dvq.grow (h:Dvq w dv ps pw file kind n cache D st bs m F) (g:ab_ w u):Dvq u dv ps pw file kind n cache D st bs m F:=
 ⟨g.heap h.dev (fun q=>q),g.heap h.isS (fun q=>q),h.isW.grow g,h.nps,h.ndv,h.ok,h.tells,h.len,h.size,h.nm,h.kd,h.few⟩
theorem Dvq.mono (h:Dvq w dv ps pw file kind n cache D st bs m F) (hm:m≤m'):Dvq w dv ps pw file kind n cache D st bs m' F:=
 ⟨h.dev,h.isS,h.isW,h.nps,h.ndv,h.ok,h.tells,h.len,h.size,h.nm,h.kd,by have:=h.few;omega⟩
theorem pZ_ (h:Blk w dv (eo_ ps kind) ck_):w.cell? ((gA (some ⟨dv,0,none⟩)).add 0)=some (.pointer (some ⟨ps,0,none⟩)):=by rw[gA,aq_,h.cell];rfl
theorem uX_ (h:Blk w dv (eo_ ps kind) ck_):w.cell? ((gA (some ⟨dv,0,none⟩)).add 1)=some (.int .u8 (kind:Int)):=by rw[gA,aq_,h.cell];rfl
theorem qZ_ {R:Int→W_} (h:Dvq w dv ps pw file kind n cache D st bs m F) (hR:R (n:Int) w):gO_ (some ⟨dv,0,none⟩) w R:=by
 refine fb_.calls _ _ _ ⟨rfl,some ⟨ps,0,none⟩,pZ_ h.dev,?_⟩
 refine dd_.calls _ _ _ (aj_ rfl ⟨rfl,(n:Int),by rw[gA,aq_,Blk.cell h.isS];rfl,?_⟩)
 have:=h.size
 dsimp only
 rw[h3_ o_ o_]
 exact hR
end
open Go CF
theorem tN_ {w y z:World} {D:Nat→Prop} {ab:Nat} (hk:aa_ D w y) (ha:w.heap.size≤ab) (hz:aa_ (fun k=>k=ab) y z):aa_ D w z:=
 ⟨hz.os.trans hk.os,hz.tape.trans hk.tape,hz.output.trans hk.output,Nat.le_trans hk.size hz.size,fun k hk' hn=>by rw[hz.block k (by have:=hk.size;omega) o_,hk.block k hk' hn]⟩
theorem uY_ {y z:World} {pw:Nat} {D:Nat→Prop} {st:Wst} {F:Int→Bool} {ab:Nat} {cs:A_} {t:TypeId} (hw:ba_ y pw D st F) (hb:Blk y ab cs t) (ht:t≠ae_) (hn:¬D ab) (hz:aa_ (fun k=>k=ab) y z):ba_ z pw D st F:=
 hw.keep hz (fun k hk q=>hn (q▸hk)) (fun g cur hg q=>by subst q;exact ht (bq_ hb hg))
theorem sr_:ad_≠ae_:=d_
section
variable {w u:World} {dv ps pw:Nat} {file:ByteArray} {kind n:Nat} {cache:Bool} {D D':Nat→Prop} {st st':Wst} {bs bs':List Bk} {m m':Nat}
end
theorem q0_ {P:Program} {w:World} {base:Nat} {e ty:TypeId} {z o:Nat} {zv:Option Value} {q bytes:Nat} {s:Sl} {vs:List Value} {cells:A_} (hs:Own w base e z s vs) (hinfo:(P.info? ty).map (fun i=>(i.zero,i.size,i.bytes))=some (zv,q,bytes)) (hq:q=cells.size)
  (ho:o+cells.size≤vs.length) (hpos:0<cells.size) (h1:∀v∈cells.toList,v.oneCell'=true) {K:W_}
  (h:∀w1,Own w1 base e z s (vs.take o++cells.toList++vs.drop (o+cells.size))→aa_ (fun k=>some k=s.blk) w w1→w1.heap.size=w.heap.size→K w1):ah_ P (storeVar ty ((gA s.A).add o) (.agg cells)) w K:=by
 obtain⟨hlen,hown⟩:=hs
 rcases hown with⟨h2,hn0⟩|⟨g,cap,cur,hv',hbg,hg,hnc,hcm,hcs,htake⟩
 ·rw[hn0,Nat.zero_mul] at hlen;omega
 ·injection hv' with hA hN hC
  have hle:s.n*z≤cur.size:=by rw[hcs];exact Nat.mul_le_mul_right _ hnc
  rw[hA,gA,aq_,Nat.zero_add]
  refine fp_ hg hinfo hq o_ h1 fun w1 hb1 hk1 hsz1=>?_
  refine h w1 ⟨by simp only[List.length_append,List.length_take,List.length_drop,Array.length_toList];omega,.inr ⟨g,cap,_,by rw[hA,hC],hbg,hb1,hnc,hcm,?_,?_⟩⟩ (hk1.mono fun k _ q=>by simp[Sl.blk,hA,q]) hsz1
  ·simp only[List.size_toArray,List.length_append,List.length_take,List.length_drop,Array.length_toList];omega
  ·have hF:cur.toList.take (s.n*z)=vs:=htake
   have hl:vs.length=s.n*z:=hlen
   rw[←hF]
   apply List.ext_getElem?
   intro j
   simp only[List.getElem?_take,List.getElem?_append,List.length_append,List.length_take,Array.length_toList,List.getElem?_drop]
   have e1:min o cur.size=o:=o_
   have e2:min o (min (s.n*z) cur.size)=o:=o_
   simp only[e1,e2]
   by_cases q1:j<o
   ·have q2:j<o+cells.size:=o_
    have q3:j<s.n*z:=o_
    simp only[if_pos q1,if_pos q2,if_pos q3]
   ·by_cases q2:j<o+cells.size
    ·have q3:j<s.n*z:=o_
     simp only[if_neg q1,if_pos q2,if_pos q3]
    ·by_cases q3:j<s.n*z
     ·have q4:o+cells.size+(j-(o+cells.size))<s.n*z:=o_
      simp only[if_neg q2,if_pos q3,if_pos q4]
     ·have q4:¬o+cells.size+(j-(o+cells.size))<s.n*z:=o_
      simp only[if_neg q2,if_neg q3,if_neg q4]
theorem f1_ (l:List Bk):(l.flatMap bc).length=l.length*19:=cY_ fZ_ l
theorem uZ_ {l:List Bk} {j:Nat} {b:Bk} (hj:j<l.length) (hd:b.d=l[j].d):(l.flatMap bc).take (j*19+16)++tc b.g b.a b.r++(l.flatMap bc).drop (j*19+16+3)=(l.set j b).flatMap bc:=by
 have e:l=l.take j++l[j]::l.drop (j+1):=by rw[List.getElem_cons_drop,List.take_append_drop]
 have hA:((l.take j).flatMap bc).length=j*19:=by rw[f1_,List.length_take,Nat.min_eq_left o_]
 have hl:l.flatMap bc=(l.take j).flatMap bc++(bc l[j]++(l.drop (j+1)).flatMap bc):=by
  conv=>lhs;rw[e]
  rw[List.flatMap_append,List.flatMap_cons]
 have hs:(l.set j b).flatMap bc=(l.take j).flatMap bc++(bc b++(l.drop (j+1)).flatMap bc):=by
  rw[List.set_eq_take_append_cons_drop,if_pos hj,List.flatMap_append,List.flatMap_cons]
 have hb:bc b=bv l[j].d++tc b.g b.a b.r:=by unfold bc tc;rw[hd]
 have t1:((l.take j).flatMap bc++(bc l[j]++(l.drop (j+1)).flatMap bc)).take (j*19+16)=(l.take j).flatMap bc++bv l[j].d:=by
  rw[←hA,List.take_length_add_append,List.take_append_of_le_length (by rw[fZ_];omega),rz_]
 have t2:((l.take j).flatMap bc++(bc l[j]++(l.drop (j+1)).flatMap bc)).drop (j*19+16+3)=(l.drop (j+1)).flatMap bc:=by
  rw[Nat.add_assoc,←hA,List.drop_length_add_append]
  have:16+3=(bc l[j]).length:=by rw[fZ_]
  rw[this,List.drop_left]
 rw[hl,hs,t1,t2,hb]
 simp
open Go CF
def mk1 (kind lba:Nat) (b:Bk):Bk:=mkB kind lba b.d b.hd
def dB_ (kind lba:Nat) (U:List Bk):Nat→List Bk
 | 0=>U
 | j+1=>(dB_ kind lba U j).set j (mk1 kind (lba+j) (U.getD j cP_))
theorem jo_ (kind lba:Nat) (U:List Bk):∀j,(dB_ kind lba U j).length=U.length
 | 0=>rfl
 | j+1=>by simp[dB_,jo_ kind lba U j]
theorem p0_ (kind lba:Nat) (U:List Bk):∀(j i:Nat) (hi:i<U.length),(dB_ kind lba U j)[i]'(by rw[jo_];exact hi)=if i<j then mk1 kind (lba+i) U[i] else U[i]
 | 0,i,hi=>by rw[if_neg o_];rfl
 | j+1,i,hi=>by
  have ih:=p0_ kind lba U j i hi
  simp only[dB_,List.getElem_set]
  by_cases e:j=i
  ·subst e
   rw[if_pos rfl,if_pos o_,List.getD_eq_getElem?_getD,List.getElem?_eq_getElem hi];rfl
  ·rw[if_neg e,ih]
   by_cases q:i<j
   ·rw[if_pos q,if_pos o_]
   ·rw[if_neg q,if_neg o_]
theorem tO_ (kind lba:Nat) (b:Bk):tc (mk1 kind lba b).g (mk1 kind lba b).a (mk1 kind lba b).r=tc (c16 b.d) 0 (mkR kind lba):=rfl
theorem oW_ {w:World} {dv ps kind:Nat} {c:Cm} {p:Sl} {l:L8} {N:Nat} {R:Sl→A_→Bool→W_} (hd:Blk w dv (eo_ ps kind) ck_) (hp:Rd w 1 p (bv l)) (hb:p.n≤140737488351232) (hlba:c.lba≤4096) (hN:N≤4096)
  (h1:(l.length%szB (decide (c.prot≠0))≠0∨l.length/szB (decide (c.prot≠0))≠N)→∀u,ab_ w u→R au_ (rsv 2 (dN_ 0x1a00) au_).toArray false u)
  (h2:l.length%16=0→l.length/16=N→c.prot=0→∀xs u,ab_ w u→Own u w.heap.size aG_ 19 xs ((dB_ kind c.lba (b7_ false l) N).flatMap bc)→R xs (rsv 0 sn0 au_).toArray true u)
  (h3:l.length%24=0→l.length/24=N→c.prot≠0→(∀i (hi:i<(b7_ true l).length),dM_ kind c.prot (c.lba+i) (b7_ true l)[i]=0)→∀xs u,ab_ w u→Own u w.heap.size aG_ 19 xs ((b7_ true l).flatMap bc)→R xs (rsv 0 sn0 au_).toArray true u)
  (h4:l.length%24=0→l.length/24=N→c.prot≠0→∀i (hi:i<(b7_ true l).length),dM_ kind c.prot (c.lba+i) (b7_ true l)[i]≠0→(∀j (hj:j<i),dM_ kind c.prot (c.lba+j) ((b7_ true l)[j]' o_)=0)→∀u,ab_ w u→
   R au_ (rsv 2 (atS 11 (dM_ kind c.prot (c.lba+i) (b7_ true l)[i]) (c.lba+i)) au_).toArray false u) :
  f9_ (some ⟨dv,0,none⟩) (cmv c).toArray p (N:Int) w R:=by
 refine gf_.calls _ _ _ _ _ _ ?_
 refine ag_ fun cb w0 hcb hb0 hg0 hsz0=>?_
 have hb0:Blk w0 cb (cmv c).toArray aD_:=hb0
 refine ag_ fun ab w1 hab hb1 hg1 hsz1=>?_
 have hgw1:=hg0.trans hg1
 have hc1:Blk w1 cb (cmv c).toArray aD_:=hg1.heap hb0 (fun q=>q)
 refine⟨(c.prot:Int),by rw[aq_,hc1.cell];rfl,?_⟩
 have ew:((c.prot:Int) != 0)=decide (c.prot≠0):=by rw[Bool.eq_iff_iff,bne_iff_ne,decide_eq_true_eq];omega
 rw[ew]
 generalize hwt:decide (c.prot≠0)=wt at *
 have hd1:=hgw1.heap hd (fun q=>q)
 have hln:=cV_ hp
 refine qY_ (hp.grow hgw1) hb (fun q=>am_ rfl (mi_ fun w2 hg2=>bL_ (hg2.heap hb1 (fun q=>q)) rfl fun w3 hk3=>h1 (.inl q) w3 (c6_ (hgw1.trans hg2) o_ hk3))) fun hm xs w2 hg2 hown2=>?_
 have hgw2:=hgw1.trans hg2
 have hUl:(b7_ wt l).length=l.length/szB wt:=kJ_ wt l
 have hs16:16≤szB wt:=by unfold szB;split<;>decide
 have hdiv:l.length/szB wt≤l.length:=Nat.div_le_self _ _
 have hown2:Own w2 w.heap.size aG_ 19 xs ((b7_ wt l).flatMap bc):=hown2.mono hgw1.size
 have hxn:xs.n=(b7_ wt l).length:=by have:=hown2.len;rw[f1_] at this;omega
 rw[h3_ (n:=(xs.n:Int)) o_ o_]
 have hb2:Blk w2 ab _ ad_:=hg2.heap hb1 (fun q=>q)
 by_cases hN':l.length/szB wt=N
 case neg=>
  refine am_ (by rw[Bool.or_eq_true,bne_iff_ne];right;omega) (mi_ fun w3 hg3=>bL_ (hg3.heap hb2 (fun q=>q)) rfl fun w4 hk4=>h1 (.inr hN') w4 (c6_ (hgw2.trans hg3) o_ hk4))
 refine aj_ (by rw[Bool.or_eq_false_iff,bne_eq_false_iff_eq];exact⟨rfl,o_⟩) ?_
 generalize hU:b7_ wt l=U at *
 have hc2:Blk w2 cb (cmv c).toArray aD_:=hg2.heap hc1 (fun q=>q)
 have hd2:Blk w2 dv (eo_ ps kind) ck_:=hg2.heap hd1 (fun q=>q)
 have c2:∀{v:World},Blk v cb (cmv c).toArray aD_→v.cell? ((⟨cb,0,none⟩:Addr).add 2)=some (.int .u64 (c.lba:Int)):=fun q=>by rw[aq_,q.cell];rfl
 have c6:∀{v:World},Blk v cb (cmv c).toArray aD_→v.cell? ((⟨cb,0,none⟩:Addr).add 6)=some (.int .u8 (c.prot:Int)):=fun q=>by rw[aq_,q.cell];rfl
 have xblk:∀{v:World} {L:List Bk},Own v w.heap.size aG_ 19 xs (L.flatMap bc)→∀{b:Nat} {cs:A_} {t:TypeId},Blk v b cs t→t≠aG_→xs.blk≠some b:=fun ho b cs t hbb ht=>be_ ho hbb ht
 refine⟨fun x v=>∃j:Nat,x=j∧j≤U.length∧ab_ w v∧Blk v cb (cmv c).toArray aD_∧Blk v dv (eo_ ps kind) ck_∧Blk v ab _ ad_∧
   ((wt=false∧Own v w.heap.size aG_ 19 xs ((dB_ kind c.lba U j).flatMap bc))∨(wt=true∧Own v w.heap.size aG_ 19 xs (U.flatMap bc)∧∀i (hi:i<U.length),i<j→dM_ kind c.prot (c.lba+i) U[i]=0)),fun x _=>U.length-x.toNat,
  ⟨0,rfl,Nat.zero_le _,hgw2,hc2,hd2,hb2,by cases wt with
   | false=>exact .inl ⟨rfl,hown2⟩
   | true=>exact .inr ⟨rfl,hown2,fun _ _ q=>absurd q (Nat.not_lt_zero _)⟩⟩,?_⟩
 rintro x v ⟨j,rfl,hj,hgv,hcv,hdv,hav,hcase⟩
 refine bl_ (fun hlt=>?_) (fun hge=>?_)
 ·have hjU:j<U.length:=o_
  have e1:IntKind.wrap .u64 ((c.lba:Int)+IntKind.wrap .u64 (j:Int))=((c.lba+j:Nat):Int):=by
   rw[h3_ (n:=(j:Int)) o_ o_,h3_ o_ o_];omega
  rw[w64 (n:=(j:Int)+1) o_ o_]
  refine cu_ (fun y=>ab_ w y∧Blk y cb (cmv c).toArray aD_∧Blk y dv (eo_ ps kind) ck_∧Blk y ab _ ad_∧
   ((wt=false∧Own y w.heap.size aG_ 19 xs ((dB_ kind c.lba U (j+1)).flatMap bc))∨(wt=true∧Own y w.heap.size aG_ 19 xs (U.flatMap bc)∧∀i (hi:i<U.length),i<j+1→dM_ kind c.prot (c.lba+i) U[i]=0)))
   (fun y hy=>⟨⟨j+1,o_,o_,hy⟩,by dsimp only;omega⟩) (fun J=>⟨(c.lba:Int),c2 hcv,?_⟩)
  rw[e1]
  rcases hcase with⟨hwf,hown⟩|⟨hwt',hown,hall⟩
  ·refine am_ (by rw[hwf];rfl) ?_
   rintro w3 rfl
   have hg3:ab_ v v.drew:=ak_ v
   have hVl:(dB_ kind c.lba U j).length=U.length:=jo_ _ _ _ _
   have hVj:(dB_ kind c.lba U j)[j]' o_=U[j]:=by rw[p0_ _ _ _ _ _ hjU,if_neg o_]
   obtain⟨a0,ha0,hc0⟩:=mO_ (hown.rd o_) (i:=j) o_
   rw[hVj] at hc0
   have bnd:(0:Int)≤(j:Int)∧(j:Int)<(xs.n:Int)∧xs.A.isSome=true:=⟨o_,o_,by rw[ha0];rfl⟩
   refine⟨fun y=>ab_ v y,hg3,rfl,(kind:Int),fun y hy=>uX_ (hy.heap hdv (fun q=>q)),bnd,(bv U[j].d).toArray,fun y hy=>?_,?_⟩
   ·rw[ha0,Int.toNat_natCast]
    exact xL_ U[j].hd (sm_ (fun i x hx=>hy.cell (hc0 i x hx) (fun q=>q)))
   refine tJ_ (app:=0) U[j].hd fun w4 hg4=>⟨bnd,?_⟩
   have hg14:=hg3.trans hg4
   have hown4:=hown.grow hg14
   rw[Int.toNat_natCast,iG_]
   refine q0_ (o:=j*19+16) (cells:=(tc (c16 U[j].d) 0 (mkR kind (c.lba+j))).toArray) hown4 eX_ rfl (by rw[f1_,hVl];show j*19+16+3≤_;omega) (by show 0<3;decide) (by intro q hq;simp[tc] at hq;rcases hq with rfl|rfl|rfl<;>rfl) fun w5 hown5 hk5 _=>?_
   have hfs:=uZ_ (l:=dB_ kind c.lba U j) (j:=j) (b:=mk1 kind (c.lba+j) U[j]) o_ (by rw[hVj];rfl)
   rw[tO_] at hfs
   have hown5:Own w5 w.heap.size aG_ 19 xs (((dB_ kind c.lba U j).flatMap bc).take (j*19+16)++tc (c16 U[j].d) 0 (mkR kind (c.lba+j))++((dB_ kind c.lba U j).flatMap bc).drop (j*19+16+3)):=hown5
   rw[hfs] at hown5
   have hnb:∀{b:Nat} {cs:A_} {t:TypeId},Blk w4 b cs t→t≠aG_→Blk w5 b cs t:=fun hbb ht=>hk5.heap hbb fun q=>be_ hown4 hbb ht q.symm
   refine J w5 ⟨eu_ (hgv.trans hg14) hown4 (Nat.le_refl _) hk5,hnb (hg14.heap hcv (fun q=>q)) d_,hnb (hg14.heap hdv (fun q=>q)) d_,hnb (hg14.heap hav (fun q=>q)) d_,.inl ⟨hwf,?_⟩⟩
   have e2:dB_ kind c.lba U (j+1)=(dB_ kind c.lba U j).set j (mk1 kind (c.lba+j) U[j]):=by
    simp only[dB_];rw[List.getD_eq_getElem?_getD,List.getElem?_eq_getElem hjU];rfl
   rw[e2];exact hown5
  ·refine aj_ (by rw[hwt'];rfl) ?_
   rintro w3 rfl
   have hg3:ab_ v v.drew:=ak_ v
   obtain⟨a0,ha0,hc0⟩:=mO_ (hown.rd o_) hjU
   have bnd:(0:Int)≤(j:Int)∧(j:Int)<(xs.n:Int)∧xs.A.isSome=true:=⟨o_,o_,by rw[ha0];rfl⟩
   refine⟨fun y=>ab_ v y,hg3,rfl,(kind:Int),fun y hy=>uX_ (hy.heap hdv (fun q=>q)),(c.prot:Int),fun y hy=>c6 (hy.heap hcv (fun q=>q)),bnd,(bc U[j]).toArray,fun y hy=>?_,?_⟩
   ·rw[ha0,Int.toNat_natCast]
    exact sn_ (fun i x hx=>hy.cell (hc0 i x hx) (fun q=>q))
   refine pY_ fun w4 hg4=>?_
   have hg14:=hg3.trans hg4
   subst hwt'
   have hp0:c.prot≠0:=by simpa using hwt
   by_cases hz:dM_ kind c.prot (c.lba+j) U[j]=0
   ·refine aj_ (by rw[hz];rfl) (J w4 ⟨hgv.trans hg14,hg14.heap hcv (fun q=>q),hg14.heap hdv (fun q=>q),hg14.heap hav (fun q=>q),.inr ⟨rfl,hown.grow hg14,fun i hi q=>?_⟩⟩)
    by_cases e:i=j
    ·subst e;exact hz
    ·exact hall i hi o_
   ·refine am_ (by rw[bne_iff_ne];omega) (rA_ (key:=11) fun w5 hg5=>?_)
    refine bL_ ((hg14.trans hg5).heap hav (fun q=>q)) rfl fun w6 hk6=>?_
    subst hU
    exact h4 hm hN' hp0 j hjU hz (fun i hi=>hall i o_ hi) w6 (c6_ ((hgv.trans hg14).trans hg5) o_ hk6)
 ·have hjn:j=U.length:=o_
  refine bL_ (st:=0) (s:=sn0) (d:=au_) hav rfl fun w3 hk3=>?_
  have hg3:=c6_ hgv o_ hk3
  have ok:∀{L:List Bk},Own v w.heap.size aG_ 19 xs (L.flatMap bc)→Own w3 w.heap.size aG_ 19 xs (L.flatMap bc):=fun ho=>ho.keep hk3 fun b hb q=>be_ ho hav d_ (by rw[hb,q])
  rcases hcase with⟨hwf,hown⟩|⟨hwt',hown,hall⟩
  ·subst hwf
   have hp0:c.prot=0:=by simpa using hwt
   subst hU
   rw[hjn,hUl,hN'] at hown
   exact h2 hm hN' hp0 xs w3 hg3 (ok hown)
  ·subst hwt'
   have hp0:c.prot≠0:=by simpa using hwt
   subst hU
   exact h3 hm hN' hp0 (fun i hi=>hall i hi o_) xs w3 hg3 (ok hown)
open Go CF
def z10:A_:=#[.int .u8 0,.int .u8 0,.int .u16 0,.int .u64 0,.bool false,.int .i64 0,.int .i64 0,.bool false,.bool false,.slice none 0 0]
def u0_:Sn:=⟨5,0x2400,0,false,1,7,true,true⟩
def u1_:Sn:=⟨5,0x2000,0,false,0,7,true,true⟩
section
variable {w u:World} {dv ps pw:Nat} {file:ByteArray} {kind n:Nat} {cache:Bool} {D D':Nat→Prop} {st st':Wst} {bs bs':List Bk} {m m':Nat}
theorem Dvq.put {F:Int→Bool} (h:Dvq w dv ps pw file kind n cache D st bs m F) {ab:Nat} {cs:A_} {t:TypeId} (hb:Blk w ab cs t) (h1:t≠ae_) (h2:t≠ck_) (h3:t≠k5_) (hn:¬D ab) (hk:aa_ (fun k=>k=ab) w u) :
  Dvq u dv ps pw file kind n cache D st bs m F:=by
 refine⟨hk.heap h.dev fun q=>?_,hk.heap h.isS fun q=>?_,uY_ h.isW hb h1 hn hk,h.nps,h.ndv,h.ok,h.tells,h.len,h.size,h.nm,h.kd,h.few⟩
 ·have hd:=h.dev
  rw[q] at hd
  exact h2 (bq_ hb hd)
 ·have hd:=h.isS
  rw[q] at hd
  exact h3 (bq_ hb hd)
def wfS:Sn:=⟨3,0x0c00,0,false,0,0,false,false⟩
theorem ss_ {kind prot:Nat} {w:World} {R:Bool→W_} (h:R (lu_ kind prot) w):lk_ (kind:Int) (prot:Int) w R:=by
 refine hW_.calls _ _ _ _ ?_
 have e:(decide ((kind:Int)≤3)&&(((prot:Int)==0)||(decide ((kind:Int)>0)&&decide ((prot:Int)≤4))))=lu_ kind prot:=by
  unfold lu_
  rw[Bool.eq_iff_iff]
  simp only[Bool.and_eq_true,Bool.or_eq_true,decide_eq_true_eq,beq_iff_eq]
  omega
 unfold hW_
 rw[e]
 exact h
end
open Go CF
def rB_ (X Y:L8):Option Nat:=(List.range X.length).find? fun i=>decide (X.getD i 0≠Y.getD i 0)
theorem dC_ {w:World} {s:Sl} {l:L8} (h:Rd w 1 s (bv l)) {i:Nat} (hi:i<l.length):s.A.isSome=true∧w.cell? ((gA s.A).add (i*1))=some (.int .u8 ((l.getD i 0).toNat:Int)):=by
 obtain⟨a,ha,hc⟩:=h.byte (i:=i) (by rw[←cV_ h];exact hi)
 rw[ha]
 refine⟨rfl,?_⟩
 rw[List.getD_eq_getElem?_getD,List.getElem?_eq_getElem hi]
 exact hc
section
variable {w u:World} {dv ps pw:Nat} {file:ByteArray} {kind n:Nat} {cache:Bool} {D D':Nat→Prop} {st st':Wst} {bs bs':List Bk} {m m':Nat}
end
open Go CF
section
variable {w u v:World} {dv ps pw:Nat} {file:ByteArray} {kind n:Nat} {cache:Bool} {D D':Nat→Prop} {st st':Wst} {bs bs':List Bk} {m m':Nat} {ls:List (Nat×List Value×TypeId)} {rows:List (Sl×L8)}
end
open Go CF
def n2_ (l:L8) (j:Nat):Nat:=num ((l.drop (8+16*j)).take 8)
def p1_ (l:L8) (j:Nat):Nat:=num ((l.drop (8+16*j+8)).take 4)
def xa_ (l:L8):Nat→Nat
 | 0=>0
 | j+1=>xa_ l j+p1_ l j
section
variable {w u:World} {dv ps pw:Nat} {file:ByteArray} {kind n:Nat} {cache:Bool} {D D':Nat→Prop} {st st':Wst} {bs bs':List Bk} {m m':Nat}
end
open Go CF
def z16:L8:=[0,0,0,0,0,0,0,0,0,0,0,0,0,0,0,0]
def xO_ (b:Bk) (r:Nat):Bk:=⟨b.d,b.g,b.a,r%4294967296,b.hd,b.hg,b.ha,o_⟩
def xP_ (kind:Nat) (c:Cm) (b0:Bk) (i:Nat):Bk:=if c.prot=0 then mk1 kind (c.lba+i) b0 else if kind=1∨kind=2 then xO_ b0 (c.lba+i) else b0
def xb_ (kind:Nat) (c:Cm) (b0:Bk) (N:Nat):List Bk:=(List.range N).map (xP_ kind c b0)
def vU_ (n:Nat) (c:Cm):Nat:=if c.blocks=0 then n-c.lba else c.blocks
section
variable {w u:World} {dv ps pw:Nat} {file:ByteArray} {kind n:Nat} {cache:Bool} {D D':Nat→Prop} {st st':Wst} {bs bs':List Bk} {m m':Nat}
end
open Go CF
theorem iC_ (w:World):Rd w 1 au_ (bv []):=wT_ w 1
theorem mj_ {key code:Nat} {w:World} {R:A_→W_} (h:∀w',ab_ w w'→R (rsv 2 ⟨key,code,0,false,0,0,false,false⟩ au_).toArray w'):a9_ (key:Int) (code:Int) w R:=by
 refine d1_.calls _ _ _ _ ?_
 refine ag_ fun ab w1 hab hb1 hg1 hsz1=>⟨(rsv 2 ⟨key,code,0,false,0,0,false,false⟩ au_).toArray,k_,?_⟩
 exact bL_ hb1 rfl fun w2 hk2=>h w2 (c6_ hg1 o_ hk2)
def kSn:List Kd:=[.i .u8,.i .u16,.i .u64,.b,.i .i64,.i .i64,.b,.b]
theorem n3_:dQ_ Tryz.prog 8 av_=some kSn:=k_
theorem p2_:kd Tryz.prog av_=.ag:=k_
theorem p3_:Tryz.prog.eqGuardType Tryz.prog.depth av_=false:=k_
theorem rC_ (s:Sn):a1_ kSn (snv s):=⟨rfl,rfl,rfl,rfl,rfl,rfl,rfl,rfl,trivial⟩
theorem ot_ {w:World} {b:Nat} {s:Nat} {sn:Sn} {d:Sl} (h:Blk w b (rsv s sn d).toArray ad_):bY_ w ((⟨b,0,none⟩:Addr).add 1) (snv sn):=fun j v hj=>by
 rw[iG_]
 refine ar_ h (1+j) v ?_
 have:j<8:=(List.getElem?_eq_some_iff.1 hj).1
 unfold rsv
 rw[List.append_assoc,List.getElem?_append_right (by simp),show 1+j - [Value.int .u8 (s:Int)].length=j by simp,List.getElem?_append_left (by exact this)]
 exact hj
theorem jH_ {s:Nat} {sn:Sn} {d1 d2:Sl} {l:L8} {w:World} {R:Bool→W_} (h1:Rd w 1 d1 (bv l)) (h2:Rd w 1 d2 (bv l)) (h:∀w',ab_ w w'→R true w'):aJ_ (rsv s sn d1).toArray (rsv s sn d2).toArray w R:=by
 refine d0_.calls _ _ _ _ ?_
 refine ag_ fun ab w1 hab hb1 hg1 hsz1=>?_
 refine ag_ fun bb w2 hbb hb2 hg2 hsz2=>?_
 have hb1:Blk w2 ab (rsv s sn d1).toArray ad_:=hg2.heap hb1 (fun q=>q)
 have hb2:Blk w2 bb (rsv s sn d2).toArray ad_:=hb2
 obtain⟨r,hr,hrun⟩:=uD_ (x:=.tmp 12) (y:=.tmp 14) n3_ p2_ p3_ (rC_ sn) (rC_ sn)
 have hr1:r=true:=hr.2 rfl
 subst hr1
 have g:=hg1.trans hg2
 refine⟨(s:Int),by rw[aq_,hb1.cell];rfl,(s:Int),by rw[aq_,hb2.cell];rfl,(snv sn).toArray,fun _=>fK_ (ot_ hb1),(snv sn).toArray,fun _=>fK_ (ot_ hb2),true,fun _=>hrun w2,d1,fun _=>by rw[aq_,hb1.cell];rfl,str l,
  fun _=>gM_ aX_ jU_ hc_ (h1.grow g),d2,fun _=>by rw[aq_,hb2.cell];rfl,str l,fun _=>gM_ aX_ jU_ hc_ (h2.grow g),?_⟩
 have:=h w2 g
 simpa [rq_] using this
open Go CF
section
variable {w u u' v v':World} {dv ps pw:Nat} {file:ByteArray} {kind n:Nat} {cache:Bool} {D D':Nat→Prop} {st st':Wst} {bs bs':List Bk} {m m':Nat} {ls:List (Nat×List Value×TypeId)} {rows:List (Sl×L8)}
end
open Go CF
section
variable {w u u' v v':World} {dv ps pw:Nat} {file:ByteArray} {kind n:Nat} {cache:Bool} {D D':Nat→Prop} {st st':Wst} {bs bs':List Bk} {m m':Nat} {ls:List (Nat×List Value×TypeId)} {rows:List (Sl×L8)}
end
open Go CF
theorem g1_ {n:Nat} {p:Nat→Bool} (h:∀i,i<n→p i=false):(List.range n).find? p=none:=by
 rw[List.find?_eq_none]
 intro i hi
 rw[h i (List.mem_range.1 hi)];simp
theorem g2_ {n i:Nat} {p:Nat→Bool} (hi:i<n) (h:∀j,j<i→p j=false) (hp:p i=true):(List.range n).find? p=some i:=by
 rw[List.find?_eq_some_iff_append]
 refine⟨hp,List.range i,(List.range (n-i-1)).map (fun k=>i+1+k),?_,fun j hj=>?_⟩
 ·have e:n=i+(1+(n-i-1)):=o_
  conv=>lhs;rw[e,List.range_add,List.range_add]
  simp[List.map_map,Nat.add_assoc,Function.comp_def]
 ·rw[h j (List.mem_range.1 hj)];rfl
def hH_ (F:Int→Bool) (o n:Nat):Option Nat:=(List.range n).find? fun k=>F ((o+k:Nat):Int)
theorem ng_ {F:Int→Bool} {o n:Nat} (h:∀i:Nat,i<n→F ((o+i:Nat):Int)=false):hH_ F o n=none:=g1_ h
theorem st_ {F:Int→Bool} {o n k:Nat} (hk:k<n) (h:∀i:Nat,i<k→F ((o+i:Nat):Int)=false) (hf:F ((o+k:Nat):Int)=true):hH_ F o n=some k:=g2_ hk h hf
theorem mk_ (o n:Nat):hH_ aQ_ o n=none:=ng_ fun _ _=>rfl
structure RsX where
 st:Nat
 sn:Sn
 d:L8
def okX (d:L8):RsX:=⟨0,sn0,d⟩
def snX (s:Sn):RsX:=⟨2,s,[]⟩
def o7_ (kind prot lba:Nat) (L:List Bk):Option Nat:=(List.range L.length).find? fun i=>decide (dM_ kind prot (lba+i) (L.getD i cP_)≠0)
def su_ (kind prot lba:Nat) (L:List Bk) (i:Nat):Sn:=atS 11 (dM_ kind prot (lba+i) (L.getD i cP_)) (lba+i)
theorem lX_ {L:List Bk} {i:Nat} (hi:i<L.length):L.getD i cP_=L[i]:=by rw[List.getD_eq_getElem?_getD,List.getElem?_eq_getElem hi];rfl
theorem sv_ {kind prot lba:Nat} {L:List Bk} (h:∀i (hi:i<L.length),dM_ kind prot (lba+i) L[i]=0):o7_ kind prot lba L=none:=
 g1_ fun i hi=>by rw[lX_ hi,h i hi];rfl
theorem sw_ {kind prot lba i:Nat} {L:List Bk} (hi:i<L.length) (hz:dM_ kind prot (lba+i) L[i]≠0) (h:∀j (hj:j<i),dM_ kind prot (lba+j) (L[j]' o_)=0):o7_ kind prot lba L=some i:=
 g2_ hi (fun j hj=>by rw[lX_ o_,h j hj];rfl) (by rw[lX_ hi,decide_eq_true_eq];exact hz)
def nh_ (F:Int→Bool) (kind prot lba n o:Nat) (L:List Bk):Except Sn (List Bk)×Nat:=
 match hH_ F o n with
 | some k=>(.error (atS 3 0x1100 (lba+k)),k+1)
 | none=>match o7_ kind prot lba L with
  | some i=>(.error (su_ kind prot lba L i),n)
  | none=>(.ok L,n)
def lY_ (kind:Nat) (c:Cm) (l:L8) (N:Nat):Except Sn (List Bk):=
 if l.length%szB (decide (c.prot≠0))≠0∨l.length/szB (decide (c.prot≠0))≠N then .error (dN_ 0x1a00)
 else if c.prot=0 then .ok (dB_ kind c.lba (b7_ false l) N)
 else match o7_ kind c.prot c.lba (b7_ true l) with
  | some i=>.error (su_ kind c.prot c.lba (b7_ true l) i)
  | none=>.ok (b7_ true l)
def p4_ (F:Int→Bool) (file:ByteArray) (cache:Bool) (st:Wst) (lba n:Nat) (rs:Nat→L8) (fua:Bool):Option Nat×Wst:=
 match hH_ F st.ops (n+(if vR_ n fua cache then 1 else 0)) with
 | some k=>(some k,{nZ_ st file lba rs k with ops:=st.ops+k+1})
 | none=>(none,pU_ (vR_ n fua cache) (nZ_ st file lba rs n))
def lv_ (lba:Nat) (x:Option Nat×Wst):RsX×Wst:=match x.1 with
 | some k=>(snX (atS 3 0x0c00 (lba+k)),x.2)
 | none=>(okX [],x.2)
def f2_ (F:Int→Bool) (file:ByteArray) (cache:Bool) (st:Wst) (lba:Nat) (L:List Bk) (fua:Bool):RsX×Wst:=lv_ lba (p4_ F file cache st lba L.length (yd_ L) fua)
def u2_ (F:Int→Bool) (file:ByteArray) (cache:Bool) (st:Wst) (lba n:Nat):Option Nat×Wst:=p4_ F file cache st lba n (fun _=>[0]) false
def more (st:Wst) (k:Nat):Wst:={st with ops:=st.ops+k}
def n4_ (F:Int→Bool) (kind:Nat) (st:Wst) (bs:List Bk) (c:Cm) (l:L8):RsX×Wst:=
 if c.bytes=true∧(l.length%szB (decide (c.prot≠0))≠0∨l.length/szB (decide (c.prot≠0))≠c.blocks) then(snX (dN_ 0x1a00),st)
 else match nh_ F kind c.prot c.lba c.blocks st.ops ((bs.drop c.lba).take c.blocks) with
  | (.error s,k)=>(snX s,more st k)
  | (.ok L,k)=>if c.bytes=true then(match rB_ (eE_ false L) (eE_ false (b7_ (decide (c.prot≠0)) l)) with
    | some i=>(snX (atS 14 0x1d00 i),more st k)
    | none=>(okX [],more st k)) else(okX [],more st k)
def sx_ (F:Int→Bool) (kind n:Nat) (cache:Bool) (file:ByteArray) (st:Wst) (c:Cm) (l:L8):RsX×Wst:=
 match lY_ kind c l 1 with
 | .error s=>(snX s,st)
 | .ok L=>if c.unmap=true∧(L.getD 0 cP_).d=z16 then lv_ c.lba (u2_ F file cache st c.lba (vU_ n c)) else f2_ F file cache st c.lba (xb_ kind c (L.getD 0 cP_) (vU_ n c)) false
def yf_ (n:Nat) (l:L8) (j:Nat):Option Sn:=
 if n<n2_ l j+p1_ l j then some (atS 5 0x2100 (n2_ l j)) else if 256<xa_ l (j+1) then some ⟨5,0x2600,0,false,((8+16*j+8:Nat):Int),-1,true,false⟩ else none
def xQ_ (n:Nat) (l:L8) (N:Nat):Option Sn:=(List.range N).findSome? (yf_ n l)
theorem n5_ {α:Type} {f:Nat→Option α} {a:α}:∀{N i:Nat},i<N→(∀j,j<i→f j=none)→f i=some a→(List.range N).findSome? f=some a:=by
 intro N i hi h ha
 have e:N=i+(1+(N-i-1)):=o_
 have h0:(List.range i).findSome? f=none:=by
  rw[List.findSome?_eq_none_iff]
  exact fun x hx=>h x (List.mem_range.1 hx)
 rw[e,List.range_add,List.range_add,List.findSome?_append,h0]
 simp[ha]
theorem k9_ {α:Type} {f:Nat→Option α} {N:Nat} (h:∀j,j<N→f j=none):(List.range N).findSome? f=none:=by
 rw[List.findSome?_eq_none_iff]
 exact fun x hx=>h x (List.mem_range.1 hx)
def p5_ (F:Int→Bool) (file:ByteArray) (cache:Bool) (st:Wst) (l:L8):Nat→Option Sn×Wst
 | 0=>(none,st)
 | k+1=>match p5_ F file cache st l k with
  | (some s,x)=>(some s,x)
  | (none,x)=>match u2_ F file cache x (n2_ l k) (p1_ l k) with
   | (some j,y)=>(some (atS 3 0x0c00 (n2_ l k+j)),y)
   | (none,y)=>(none,y)
def u3_ (l:L8):Prop:=8≤l.length∧num ((l.drop 0).take 2)=l.length-2∧num ((l.drop 2).take 2)=l.length-8∧(l.length-8)%16=0
instance (l:L8):Decidable (u3_ l):=by unfold u3_;infer_instance
def p6_ (F:Int→Bool) (n:Nat) (cache:Bool) (file:ByteArray) (st:Wst) (l:L8):RsX×Wst:=
 if l.length=0 then(okX [],st)
 else if ¬u3_ l then(snX (dN_ 0x1a00),st)
 else match xQ_ n l ((l.length-8)/16) with
  | some s=>(snX s,st)
  | none=>match p5_ F file cache st l ((l.length-8)/16) with
   | (some s,x)=>(snX s,x)
   | (none,x)=>(okX [],x)
def mU_ (F:Int→Bool) (kind:Nat) (cache:Bool) (file:ByteArray) (st:Wst) (bs:List Bk) (c:Cm) (l:L8):RsX×Wst:=
 if l.length≠2*(szB (decide (c.prot≠0))*c.blocks) then(snX (dN_ 0x1a00),st)
 else match lY_ kind c (l.drop (szB (decide (c.prot≠0))*c.blocks)) c.blocks with
  | .error s=>(snX s,st)
  | .ok fresh=>match nh_ F kind c.prot c.lba c.blocks st.ops ((bs.drop c.lba).take c.blocks) with
   | (.error s,k)=>(snX s,more st k)
   | (.ok L,k)=>match rB_ (eE_ false L) (eE_ false (b7_ (decide (c.prot≠0)) (l.take (szB (decide (c.prot≠0))*c.blocks)))) with
    | some i=>(snX (atS 14 0x1d00 i),more st k)
    | none=>f2_ F file cache (more st k) c.lba fresh c.fua
def xc_ (kind n:Nat) (c:Cm):L8:=
 if c.long=false then lay (lay (List.replicate 8 0) 0 4 (n-1)) 4 4 16
 else((if 0<kind then(lay (lay (List.replicate 32 0) 0 8 (n-1)) 8 4 16).set 12 (UInt8.ofNat ((kind-1)*2+1)) else lay (lay (List.replicate 32 0) 0 8 (n-1)) 8 4 16).set 14 128).take (min (max c.alloc 0) 32).toNat
def doX (F:Int→Bool) (kind n:Nat) (cache:Bool) (file:ByteArray) (st:Wst) (c:Cm) (l:L8):RsX×Wst:=
 if lu_ kind c.prot=false then(snX u0_,st)
 else if c.kind≠13∧c.kind≠6∧n<c.lba+c.blocks then(snX (atS 5 0x2100 c.lba),st)
 else if c.kind=7 then(match nh_ F kind c.prot c.lba c.blocks st.ops (((hf_ st file 0 n).drop c.lba).take c.blocks) with
  | (.error s,k)=>(snX s,more st k)
  | (.ok L,k)=>(okX (eE_ (decide (c.prot≠0)) L),more st k))
 else if c.kind=8∨c.kind=9 then(match lY_ kind c l c.blocks with
  | .error s=>(snX s,st)
  | .ok L=>f2_ F file cache st c.lba L (c.fua||decide (c.kind=9)))
 else if c.kind=10 then n4_ F kind st (hf_ st file 0 n) c l
 else if c.kind=11 then(if F (st.ops:Int)=true then(snX wfS,more st 1) else(okX [],f0_ st))
 else if c.kind=12 then sx_ F kind n cache file st c l
 else if c.kind=13 then p6_ F n cache file st l
 else if c.kind=14 then mU_ F kind cache file st (hf_ st file 0 n) c l
 else if c.kind=6 then(okX (xc_ kind n c),st)
 else(snX u1_,st)
section
variable {w u:World} {dv ps pw:Nat} {file:ByteArray} {kind n:Nat} {cache:Bool} {D D':Nat→Prop} {st st':Wst} {bs bs':List Bk} {m m':Nat} {F:Int→Bool}
def fq_ (w:World) (dv ps pw:Nat) (file:ByteArray) (kind n:Nat) (cache:Bool) (D:Nat→Prop) (m:Nat) (F:Int→Bool) (X:RsX×Wst) (R:A_→W_):Prop:=
 ∀u D' bs' d,aa_ D w u→Dvq u dv ps pw file kind n cache D' X.2 bs' (m+9000) F→(∀k,D' k→D k∨w.heap.size≤k)→Own u w.heap.size ae_ 1 d (bv X.1.d)→R (rsv X.1.st X.1.sn d).toArray u
theorem fq_.plain {X:RsX×Wst} {R:A_→W_} (h:fq_ w dv ps pw file kind n cache D m F X R) (hd:X.1.d = []) {D':Nat→Prop} {bs':List Bk} (k:aa_ D w u) (hv:Dvq u dv ps pw file kind n cache D' X.2 bs' m' F) (hm:m'≤m+9000) (hD:∀k,D' k→D k∨w.heap.size≤k):R (rsv X.1.st X.1.sn au_).toArray u:=
 h u D' bs' au_ k (hv.mono hm) hD (by rw[hd];exact aH_ _ _ _ _)
theorem u4_ (h:Dvq w dv ps pw file kind n cache D st bs m F):hf_ st file 0 n=bs:=by
 have:=sk_ h.tells
 rw[h.len] at this;exact this
theorem Dvq.reads (h:Dvq w dv ps pw file kind n cache D st bs m F) (k:aa_ D w u) {j:Nat} (hr:RdW w u pw D st j):Dvq u dv ps pw file kind n cache D (more st j) bs (m+j) F:=
 h.step k (hr.isWq h.isW) (fun _ q=>.inl q) h.ok h.tells h.len ⟨by show st.ops+j≤_;have:=h.few;omega,by show st.waits.length≤_;have:=h.few;omega⟩
end
open Go CF
section
variable {w u:World} {dv ps pw:Nat} {file:ByteArray} {kind n:Nat} {cache:Bool} {D D':Nat→Prop} {st st':Wst} {bs bs':List Bk} {m m':Nat} {F:Int→Bool}
theorem p7_ {c:Cm} {p:Sl} {l:L8} {N:Nat} {R:Sl→A_→Bool→W_} (hd:Blk w dv (eo_ ps kind) ck_) (hp:Rd w 1 p (bv l)) (hb:p.n≤140737488351232) (hlba:c.lba≤4096) (hN:N≤4096)
  (hR:match lY_ kind c l N with
   | .ok L=>L.length=N→∀xs u,ab_ w u→Own u w.heap.size aG_ 19 xs (L.flatMap bc)→R xs (rsv 0 sn0 au_).toArray true u
   | .error s=>∀u,ab_ w u→R au_ (rsv 2 s au_).toArray false u):f9_ (some ⟨dv,0,none⟩) (cmv c).toArray p (N:Int) w R:=by
 unfold lY_ at hR
 refine oW_ hd hp hb hlba hN (fun q u g=>?_) (fun h1 h2 h3 xs u g ho=>?_) (fun h1 h2 h3 h4 xs u g ho=>?_) (fun h1 h2 h3 i hi hz hall u g=>?_)
 ·rw[if_pos q] at hR;exact hR u g
 ·have e:szB (decide (c.prot≠0))=16:=by rw[decide_eq_false (by simpa using h3)];rfl
  rw[e,if_neg o_,if_pos h3] at hR
  exact hR (by rw[jo_,kJ_];exact h2) xs u g ho
 ·have e:szB (decide (c.prot≠0))=24:=by rw[decide_eq_true h3];rfl
  rw[e,if_neg o_,if_neg h3,sv_ h4] at hR
  exact hR (by rw[kJ_];exact h2) xs u g ho
 ·have e:szB (decide (c.prot≠0))=24:=by rw[decide_eq_true h3];rfl
  rw[e,if_neg o_,if_neg h3,sw_ hi hz hall] at hR
  have:=hR u g
  unfold su_ at this
  rw[lX_ hi] at this
  exact this
end
open Go CF
section
variable {w u:World} {dv ps pw:Nat} {file:ByteArray} {kind n:Nat} {cache:Bool} {D D':Nat→Prop} {st st':Wst} {bs bs':List Bk} {m m':Nat} {F:Int→Bool}
theorem Dvq.put' (h:Dvq w dv ps pw file kind n cache D st bs m F) {ab:Nat} {cs:A_} (hb:Blk w ab cs ad_) (hn:¬D ab) (hk:aa_ (fun k=>k=ab) w u):Dvq u dv ps pw file kind n cache D st bs m F:=
 h.put hb sr_ d_ d_ hn hk
theorem p8_ {D D2:Nat→Prop} {w y:World} (hs:w.heap.size≤y.heap.size) (h:∀k,D2 k→D k∨y.heap.size≤k):∀k,D2 k→D k∨w.heap.size≤k:=fun k q=>by
 rcases h k q with r|r
 ·exact .inl r
 ·exact .inr o_
end
open Go CF
section
variable {w u:World} {dv ps pw:Nat} {file:ByteArray} {kind n:Nat} {cache:Bool} {D D':Nat→Prop} {st st':Wst} {bs bs':List Bk} {m m':Nat} {F:Int→Bool}
end
open Go CF
section
variable {w u:World} {dv ps pw:Nat} {file:ByteArray} {kind n:Nat} {cache:Bool} {D D':Nat→Prop} {st st':Wst} {bs bs':List Bk} {m m':Nat}
end
open Go CF
section
variable {w u:World} {dv ps pw:Nat} {file:ByteArray} {kind n:Nat} {cache:Bool} {D D':Nat→Prop} {st st':Wst} {bs bs':List Bk} {m m':Nat} {F:Int→Bool}
end
end Go.Proofs.YtpmebahhjgkflaaGreatDoor
