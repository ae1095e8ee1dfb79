import Derived.Test.YtpmebahhjgkflaaGreatDoorB8
set_option maxHeartbeats 20000000
namespace Go.Proofs.YtpmebahhjgkflaaGreatDoor
open Go CF
set_option maxRecDepth 100000
def lK_ (F:a7_) (c:Cg) (i keep cut:Nat):a7_:=
 if i<keep then apC F c else if i=keep∧0<cut then bF_ F c.name c.off (c.p.take cut) else F
def cR_ (F:a7_) (l:List Cg) (keep cut:Nat):Nat→a7_
 | 0=>F
 | k+1=>match l[k]? with|some c=>lK_ (cR_ F l keep cut k) c k keep cut|none=>cR_ F l keep cut k
theorem uq_ {w:World} {pw:Nat} {D:Nat→Prop} {st:Wst} {F:Int→Bool} {keep cut:Nat} {R:W_} (hw:ba_ w pw D st F) (hk:Wok st) (hn:st.waits.length<1000000000)
  (h:∀w' D',aa_ D w w'→IsW w' pw D' ⟨cR_ st.dur st.waits keep cut st.waits.length,cR_ st.dur st.waits keep cut st.waits.length,[],0⟩→(∀k,D' k→D k∨w.heap.size≤k)→R w') :
  di_ (some ⟨pw,0,none⟩) (keep:Int) (cut:Int) w R:=by
 obtain⟨pl,_,mb,md,ws,cs,hw⟩:=hw
 refine ds_.calls _ _ _ _ _ ?_
 refine aj_ rfl ⟨rfl,ws,by rw[gA,aq_,hw.blk.cell];rfl,?_⟩
 have hlen:cs.length=st.waits.length:=by rw[←hw.waits,List.length_map]
 have hwn:ws.n=cs.length:=by have:=hw.own.len;rw[mM_] at this;omega
 refine⟨fun x u=>∃j:Nat,x=j∧j≤cs.length∧aa_ D w u∧ca_ u pw D ⟨st.seen,cR_ st.dur st.waits keep cut j,st.waits,st.ops⟩ pl mb md ws cs,fun x _=>cs.length-x.toNat,
  ⟨0,rfl,Nat.zero_le _,aa_.mono (aa_.refl (fun _=>False) w) (fun _ _ q=>q.elim),hw⟩,?_⟩
 rintro x w2 ⟨j,rfl,hj,hk2,hw2⟩
 refine bl_ (fun hlt=>?_) (fun hge=>?_)
 ·have hjc:j<cs.length:=o_
  have hjw:j<st.waits.length:=o_
  have hcj:cs[j].1=st.waits[j]:=by
   have:=hw.waits
   simp only[←this,List.getElem_map]
  obtain⟨hkind,hbnd⟩:=hk _ (List.getElem_mem hjw)
  obtain⟨a,ha,hc⟩:=(hw2.own.rd o_).elem (i:=j) o_ d_
  rw[gC_ nY_ hjc] at hc
  have lv:∀{u:World} {b:Addr},bY_ u b (cgv cs[j])→(loadVar aK_ b).run Tryz.prog u=.ok (.agg (cgv cs[j]).toArray) u:=fun q=>aE_ he_ c0_ rfl q
  have hstep:cR_ st.dur st.waits keep cut (j+1)=lK_ (cR_ st.dur st.waits keep cut j) cs[j].1 j keep cut:=by
   rw[hcj];simp only[cR_];rw[List.getElem?_eq_getElem hjw]
  refine⟨⟨o_,o_,by rw[ha];rfl⟩,(cgv cs[j]).toArray,by rw[ha];exact lv hc,?_⟩
  refine ag_ fun cb w3 hcb hb3 hg3 hsz3=>?_
  refine ap_ (cells:=(cgv cs[j]).toArray) hb3 c0_ rfl rfl (by simp[cgv,Value.oneCell']) fun w4 hb4 hk4 hsz4=>?_
  have hg4:ab_ w2 w4:=hg3.keep hk4 fun i hi q=>o_
  have hw4:=hw2.keep hg4 (fun _ _ q=>q) (bo_ w2)
  have hb4:Blk w4 cb (cgv cs[j]).toArray aK_:=hb4
  have hrow4:=hw4.rows _ (List.getElem_mem hjc)
  have hpl:cs[j].1.p.length=cs[j].2.n:=by have:=hrow4.len;rw[az_] at this;omega
  have e:(cgv cs[j]).toArray=#[.int .u8 119,.string cs[j].1.name,.string cs[j].1.to,.int .i64 (cs[j].1.off:Int),.slice cs[j].2.A cs[j].2.n cs[j].2.c]:=by
   unfold cgv;rw[hcj,hkind]
  have next:∀u,aa_ D w u→ca_ u pw D ⟨st.seen,cR_ st.dur st.waits keep cut (j+1),st.waits,st.ops⟩ pl mb md ws cs→
    (∃j_1:Nat,IntKind.wrap .i64 ((j:Int)+1)=j_1∧j_1≤cs.length∧aa_ D w u∧ca_ u pw D ⟨st.seen,cR_ st.dur st.waits keep cut j_1,st.waits,st.ops⟩ pl mb md ws cs)∧cs.length-(IntKind.wrap .i64 ((j:Int)+1)).toNat<cs.length-(j:Int).toNat:=fun u hu hwu=>by
   rw[w64 o_ o_]
   exact⟨⟨j+1,o_,o_,hu,hwu⟩,o_⟩
  have doing:∀(most:Nat) (K:W_),(∀u,aa_ D w u→ca_ u pw D ⟨st.seen,bF_ (cR_ st.dur st.waits keep cut j) cs[j].1.name cs[j].1.off (cs[j].1.p.take most),st.waits,st.ops⟩ pl mb md ws cs→K u)→
    c3_ (some md) (cgv cs[j]).toArray (most:Int) w4.drew K:=fun most K hK=>by
   have hg5:ab_ w4 w4.drew:=ak_ w4
   have hw5:=hw4.keep hg5 (fun _ _ q=>q) (bo_ w4)
   have hrow:=hw5.rows _ (List.getElem_mem hjc)
   rw[e]
   refine iP_ hw5.dur (hrow.rd (by rw[hcj] at hpl;omega)) (by rw[hcj];exact hbnd) fun w6 hk6 hF6=>?_
   exact hK w6 (((hk2.grow hg4).grow hg5).trans hk6 fun _ _ q=>by subst q;exact hw.dd) (hw5.setDur hk6 hF6)
  have hbk:∀{u:World},ab_ w4 u→Blk u pw (em_ pl.mf mb md ws st.ops) bs_∧Blk u cb (cgv cs[j]).toArray aK_:=fun g=>⟨g.heap hw4.blk (fun q=>q),g.heap hb4 (fun q=>q)⟩
  refine bl_ (fun hjk=>?_) (fun hjk=>?_)
  ·rintro w5 rfl
   refine⟨fun u=>Blk u pw (em_ pl.mf mb md ws st.ops) bs_∧Blk u cb (cgv cs[j]).toArray aK_,hbk (ak_ w4),rfl,some md,fun u hu=>by rw[gA,aq_,hu.1.cell];rfl,(cgv cs[j]).toArray,fun u hu=>lv (ar_ hu.2),cs[j].2,fun u hu=>by rw[aq_,hu.2.cell];rfl,?_⟩
   refine doing _ _ fun u hu hwu=>next u hu ?_
   rw[show(cs[j].1.p).take cs[j].2.n=cs[j].1.p from List.take_of_length_le o_] at hwu
   rw[hstep,lK_,if_pos hjk]
   exact hwu
  ·refine⟨119,fun _=>by rw[aq_,hb4.cell,e];rfl,?_⟩
   by_cases q:j=keep∧0<cut
   ·refine am_ (by rw[Bool.and_eq_true,Bool.and_eq_true,beq_iff_eq,decide_eq_true_eq];exact⟨⟨o_,rfl⟩,o_⟩) ?_
    rintro w5 rfl
    refine⟨fun u=>Blk u pw (em_ pl.mf mb md ws st.ops) bs_∧Blk u cb (cgv cs[j]).toArray aK_,hbk (ak_ w4),rfl,some md,fun u hu=>by rw[gA,aq_,hu.1.cell];rfl,(cgv cs[j]).toArray,fun u hu=>lv (ar_ hu.2),?_⟩
    refine doing _ _ fun u hu hwu=>next u hu ?_
    rw[hstep,lK_,if_neg o_,if_pos q]
    exact hwu
   ·refine aj_ ?_ (next w4 (hk2.grow hg4) ?_)
    ·rw[Bool.and_eq_false_iff,Bool.and_eq_false_iff,beq_eq_false_iff_ne,decide_eq_false_iff_not]
     by_cases q1:j=keep
     ·right;omega
     ·left;left;omega
    ·rw[hstep,lK_,if_neg o_,if_neg q]
     exact hw4
 ·have hjn:j=st.waits.length:=o_
  rw[hjn] at hw2
  have hdur:=hw2.dur
  obtain⟨m,⟨es,c,hbm,hsk,hm⟩,hfa⟩:=hw2.dur
  refine⟨rfl,some md,by rw[gA,aq_,hw2.blk.cell];rfl,s0_ hbm ⟨rfl,?_⟩⟩
  have hg3:ab_ w2 (w2.alloc (.map es c)):=dh_ w2 _
  have hsz3:(w2.alloc (.map es c)).heap.size=w2.heap.size+1:=by simp
  have hF3:IsF (w2.alloc (.map es c)) w2.heap.size (cR_ st.dur st.waits keep cut st.waits.length):=⟨m,⟨es,c,by show(w2.heap.push _)[w2.heap.size]?=_;simp,hsk,hm⟩,fun s=>(hfa s).keep hg3 (bo_ w2)⟩
  have hw3:=hw2.keep hg3 (fun _ _ q=>q) (bo_ w2)
  generalize w2.alloc (.map es c)=w3 at *
  rw[gA,aq_]
  refine a0_ hw3.blk (by show 0<7;decide) rfl fun w4 hb4 hk4 _=>⟨rfl,?_⟩
  refine a0_ hb4 (by show 2<7;decide) rfl fun w5 hb5 hk5 _=>⟨rfl,?_⟩
  refine a0_ hb5 (by show 4<7;decide) rfl fun w6 hb6 hk6 _=>⟨rfl,?_⟩
  refine a0_ hb6 (by show 3<7;decide) rfl fun w7 hb7 hk7 _=>⟨rfl,?_⟩
  refine a0_ hb7 (by show 5<7;decide) rfl fun w8 hb8 hk8 _=>⟨rfl,?_⟩
  refine a0_ hb8 (by show 6<7;decide) rfl fun w9 hb9 hk9 _=>?_
  have hb9:Blk w9 pw (em_ none w2.heap.size md ⟨none,0,0⟩ 0) bs_:=hb9
  have hkp:aa_ (fun k=>k=pw) w3 w9:=((((hk4.trans hk5 fun _ _ q=>q).trans hk6 fun _ _ q=>q).trans hk7 fun _ _ q=>q).trans hk8 fun _ _ q=>q).trans hk9 fun _ _ q=>q
  have nbp:bR_ w3 fun k=>k=pw:=fun g cur hg q=>by subst q;exact absurd (bq_ hw3.blk hg) d_
  have pwl:=aw_ hw2.blk
  have mdl:=pO_ hdur
  have fs:=hF3.keep hkp o_ nbp
  have fd:=hw3.dur.keep hkp hw3.pm.2 nbp
  have s2:=hk2.size
  have s9:=hkp.size
  refine h w9 (fun k=>k=pw∨k=w2.heap.size∨k=md) ((hk2.grow hg3).trans hkp fun _ _ q=>by subst q;exact hw.dw) ⟨tv_,rfl,w2.heap.size,md,⟨none,0,0⟩,[],?_⟩ fun k hk'=>?_
  ·refine⟨hb9,fs,fd,o_,aH_ _ _ _ _,rfl,fun c hc=>(by cases hc),.inl rfl,.inr (.inl rfl),.inr (.inr rfl),fun g hg=>(by simp[Sl.blk] at hg),fun k hk'=>o_,fun g cur hg q=>?_,fun _=>rfl,fun b hb=>(by cases hb),⟨fun q=>(by cases q),fun q=>(by cases q)⟩⟩
   rcases q with q|q|q
   ·subst q;exact absurd (bq_ hb9 hg) d_
   ·subst q;exact bX_ fs _ _ _ hg
   ·subst q;exact bX_ fd _ _ _ hg
  ·rcases hk' with q|q|q
   ·exact .inl (q▸hw.dw)
   ·exact .inr o_
   ·exact .inl (q▸hw.dd)
open Go CF
section
variable {w v u:World} {pw i n m:Nat} {ℓ ℓ':Nat→Option Nat} {P:Pu} {st:Wst} {s:USt} {F:Int→Bool} {x:Nat×USt}
theorem Tw.tables {R:Sl→Int→Int→W_} (T:Tw w v ℓ pw F P st m) (he:P[i]?=some x) (hR:∀xs v',ab_ v v'→CF.Own v' v.heap.size ax_ 2 xs (rgv x.2.tab.regs)→R xs ((aB_ x.2.tab).1:Int) (aB_ x.2.tab).2 v'):ez_ (some ⟨x.1,0,none⟩) v R:=by
 obtain⟨us,H,K,rfl⟩:=T.ex
 obtain⟨hi,hx0⟩:=List.getElem?_eq_some_iff.1 he
 have hlen:(pub us).length=us.length:=by unfold pub;rw[List.length_map]
 have hiu:i<us.length:=o_
 have ex:x=(us[i].1.ub,us[i].2):=by rw[←hx0,nM_ hiu]
 subst ex
 obtain⟨hU,_⟩:=H.at (a:=us[i].1) (s:=us[i].2) hiu rfl
 refine eB_.calls _ _ _ ⟨fun _=>rfl,some ⟨us[i].1.tb,0,none⟩,fun _=>hU.cellU fun P=>rfl,aj_ rfl ⟨rfl,some ⟨us[i].1.tb,0,none⟩,hU.cellU fun P=>rfl,jr_ hU.tab fun v1 g1=>⟨rfl,some ⟨us[i].1.tb,0,none⟩,(hU.grow g1).cellU fun P=>rfl,q2_ (hU.tab.grow g1) fun xs v2 g2 o2=>hR xs v2 (g1.trans g2) (o2.mono g1.size)⟩⟩⟩
theorem Tw.crash {keep cut:Nat} {R:W_} (T:Tw w v ℓ pw F P st m) (hm:m≤500000000)
  (hR:∀v' ℓ',Mv v v' ℓ ℓ'→ab_ w v'→(∀b,b<w.heap.size→ℓ' b=none)→Sys v' ℓ' pw ⟨cR_ st.dur st.waits keep cut st.waits.length,cR_ st.dur st.waits keep cut st.waits.length,[],0⟩ aQ_ []→R v'):di_ (some ⟨pw,0,none⟩) (keep:Int) (cut:Int) v R:=by
 obtain⟨us,H,K,rfl⟩:=T.ex
 obtain⟨D,hW,hD⟩:=H.W
 refine uq_ hW K.wok (by have:=K.few;omega) fun v' D' k hW' hD'=>?_
 obtain⟨ℓ',mv,Hs,_⟩:=H.worldN hD k hW' hD'
 obtain⟨g1,g2⟩:=Mv.tw T mv
 exact hR v' ℓ' mv g1 g2 ⟨Hs.W,fun i h=>absurd h (Nat.not_lt_zero i),Hs.lt⟩
end
structure db_ (s:USt) (st:Wst) (k:Nat) (p:L8):Prop where
 ats:AtS st.seen s.keepf s.at_ k p
 sure:s.sure=true
 gen:s.gen=k
 waits:st.waits = []
 dur:st.dur=st.seen
section
variable {b i n k:Nat} {s S:USt} {st st':Wst} {P:Pu} {l lo p:L8} {c:Cm}
theorem db_.save (h:db_ s st k p) (hk:k+1<18446744073709551616) (hp:(cs_ s).length≤4096):∃(a':Int) (st':Wst),bJ_ aQ_ s st=(true,{s with sure:=true,at_:=a',gen:=k+1},st')∧db_ {s with sure:=true,at_:=a',gen:=k+1} st' (k+1) (cs_ s):=by
 have e:b6_ aQ_ st s.keepf ⟨s.sure,s.at_,s.gen⟩ (cs_ s)=(0,⟨true,(toS s.at_:Int),k+1⟩,f0_ (gj_ st (nmS s.keepf (toS s.at_)) 0 (bw_ (k+1) (cs_ s)))):=by
  unfold b6_
  rw[if_pos h.sure]
  unfold c7_
  rw[if_neg (by exact Bool.noConfusion),if_neg (by exact Bool.noConfusion)]
  show(0,(⟨true,(toS s.at_:Int),fr_ s.gen⟩:SlX),f0_ (gj_ st (nmS s.keepf (toS s.at_)) 0 (bw_ (fr_ s.gen) (cs_ s))))=_
  rw[h.gen,show fr_ k=k+1 from Nat.mod_eq_of_lt hk]
 have ha:=h.ats.save hp hk
 refine⟨(toS s.at_:Int),f0_ (gj_ st (nmS s.keepf (toS s.at_)) 0 (bw_ (k+1) (cs_ s))),?_,⟨ha,rfl,rfl,rfl,?_⟩⟩
 ·unfold bJ_
  rw[e]
  rfl
 ·show kG_ st.dur (st.waits++[_])=bF_ st.seen _ _ _
  rw[h.waits,h.dur]
  rfl
theorem db_.keep (h:db_ s st k p) (hk:k+1<18446744073709551616) (hp:(cs_ s).length≤4096):∃(a':Int) (st':Wst),gp_ aQ_ true s st=⟨okX [],{s with sure:=true,at_:=a',gen:=k+1},st'⟩∧db_ {s with sure:=true,at_:=a',gen:=k+1} st' (k+1) (cs_ s):=by
 obtain⟨a',st',e,K⟩:=h.save hk hp
 refine⟨a',st',?_,K⟩
 unfold gp_
 rw[if_pos rfl,e,if_pos rfl]
theorem ur_ {r:List (Nat×Nat)} (h:∀x∈r,x.1<n):r.filter (fun x=>decide (x.1<n))=r∧r.filter (fun x=>decide (n<x.1)) = []:=
 ⟨List.filter_eq_self.2 fun x hx=>decide_eq_true (h x hx),List.filter_eq_nil_iff.2 fun x hx=>by have:=h x hx;simp;omega⟩
theorem wJ_ {t:aT_} {a:Nat} {lasts:Bool} {kind key:Nat} (h:∀x∈t.regs,x.1<n) (ha:a≠0):bI_ t n ⟨6,kind,key,a,lasts⟩=⟨0,0,[],{t with regs:=t.regs++[(n,a)],lasts:=lasts,gen:=(t.gen+1)%4294967296}⟩:=by
 obtain⟨f1,f2⟩:=ur_ h
 unfold bI_
 rw[if_neg (show ¬(6<6) by decide),if_pos rfl]
 unfold dG_ bx_
 dsimp only
 rw[if_neg (fun q=>ha q.1),if_pos ha]
 unfold iY_
 rw[f1,f2,if_pos ha,List.append_nil]
end
open Go CF
theorem oQ_:∀{r:List (Nat×Nat)} {j:Nat},j≤r.length→(r.flatMap fw_).drop (9*j)=(r.drop j).flatMap fw_
 | r,0,_=>rfl
 | [],j+1,h=>by simp at h
 | x::r,j+1,h=>by
  have e:(fw_ x++r.flatMap fw_).drop 9=r.flatMap fw_:=by rw[←mZ_ x,List.drop_left]
  rw[List.flatMap_cons,show 9*(j+1)=9+9*j by omega,←List.drop_drop,e,oQ_ (by simpa using h)]
  rfl
theorem x4_ {h:Int} (h1 : -1≤h) (h2:h<8):i8X (hbX h)=h:=by
 have:h = -1∨h=0∨h=1∨h=2∨h=3∨h=4∨h=5∨h=6∨h=7:=o_
 rcases this with rfl|rfl|rfl|rfl|rfl|rfl|rfl|rfl|rfl<;>decide
section
variable {t:aT_}
theorem qE_ (hl:t.lasts=true):bk_ t = [80,82,UInt8.ofNat (aB_ t).1,hbX (aB_ t).2,UInt8.ofNat t.regs.length]++t.regs.flatMap fw_:=by
 unfold bk_
 rw[hl,if_neg Bool.noConfusion]
theorem us_ (hl:t.lasts=true) (ok:cv_ t) {j:Nat} (hj:j<t.regs.length):er_ (bk_ t) j=t.regs[j].1∧g7_ (bk_ t) j=t.regs[j].2:=by
 have hd:(bk_ t).drop (5+9*j)=fw_ t.regs[j]++(t.regs.drop (j+1)).flatMap fw_:=by
  rw[qE_ hl,←List.drop_drop]
  show(t.regs.flatMap fw_).drop (9*j)=_
  rw[oQ_ o_,List.drop_eq_getElem_cons hj,List.flatMap_cons]
 obtain⟨r1,r2,r3⟩:=ok.regs _ (List.getElem_mem hj)
 constructor
 ·unfold er_
  have:(bk_ t).getD (5+9*j) 0=((bk_ t).drop (5+9*j)).getD 0 0:=by
   rw[List.getD_eq_getElem?_getD,List.getD_eq_getElem?_getD,List.getElem?_drop]
   rfl
  rw[this,hd]
  show(UInt8.ofNat t.regs[j].1).toNat=_
  rw[UInt8.toNat_ofNat']
  omega
 ·unfold g7_
  have:(bk_ t).drop (6+9*j)=((bk_ t).drop (5+9*j)).drop 1:=by
   rw[List.drop_drop]
   congr 1
   omega
  rw[this,hd]
  show num ((beN 8 t.regs[j].2++_).take 8)=_
  rw[List.take_append_of_le_length (by rw[bg_];omega),List.take_of_length_le (by rw[bg_];omega)]
  exact fJ_ (by simpa using r3)
theorem qF_ (hl:t.lasts=true) (ok:cv_ t):∀j,j≤t.regs.length→ldR (bk_ t) j=some (t.regs.take j)
 | 0,_=>rfl
 | j+1,h=>by
  have hj:j<t.regs.length:=o_
  obtain⟨e1,e2⟩:=us_ hl ok hj
  obtain⟨r1,r2,r3⟩:=ok.regs _ (List.getElem_mem hj)
  unfold ldR
  rw[qF_ hl ok j o_]
  dsimp only
  rw[e1,e2,if_neg,List.take_succ_eq_append_getElem hj]
  intro q
  rcases q with q|q|q
  ·unfold iy_ at q
   cases j with
   | zero=>simp at q;omega
   | succ i=>
    have hi:i<t.regs.length:=o_
    rw[List.take_succ_eq_append_getElem hi,List.getLast?_append] at q
    have:=List.pairwise_iff_getElem.1 ok.sorted i (i+1) hi hj o_
    simp at q
    omega
  ·omega
  ·omega
def l8_ (t:aT_):aT_:=⟨t.regs,0,(aB_ t).1,(aB_ t).2,true⟩
theorem s1_ (hl:t.lasts=true) (ok:cv_ t) (hb:iz_ (aB_ t).1 (aB_ t).2 t.regs=false) (hk:(aB_ t).1<256) (hh : -1≤(aB_ t).2∧(aB_ t).2<8):hM_ (bk_ t)=some (l8_ t):=by
 have e:=qE_ hl
 have hlen:(bk_ t).length=5+9*t.regs.length:=by rw[e,List.length_append,jw_];rfl
 have few:=ok.few
 have e4:((bk_ t).getD 4 0).toNat=t.regs.length:=by
  rw[e]
  show(UInt8.ofNat t.regs.length).toNat=_
  rw[UInt8.toNat_ofNat']
  omega
 have e0:(bk_ t).getD 0 0=80:=by rw[e];rfl
 have e1:(bk_ t).getD 1 0=82:=by rw[e];rfl
 have e2:((bk_ t).getD 2 0).toNat=(aB_ t).1:=by
  rw[e]
  show(UInt8.ofNat (aB_ t).1).toNat=_
  rw[UInt8.toNat_ofNat']
  omega
 have e3:i8X ((bk_ t).getD 3 0)=(aB_ t).2:=by
  rw[e]
  exact x4_ hh.1 hh.2
 unfold hM_
 rw[if_neg (fun q=>by rw[q] at hlen;simp at hlen;omega),if_neg (by rw[e0,e1,e4,hlen];simp),e4,qF_ hl ok _ (Nat.le_refl _),List.take_length,e2,e3]
 dsimp only
 rw[hb,if_neg Bool.noConfusion]
 rfl
end
open Go CF
def fT_ (s:USt):USt:={s with count:=0,q:=fun _=>[],sure:=false,at_:=-1,gen:=0}
def iA_ (b1:Nat) (T:aT_) (v:aU_):USt:={aO_ 0 0 [b1] with on:=1,tab:=T,now:=v,saved:=v,cache:=v.wce}
def dP_ (ks:Nat→Nat) (la:Bool) (j:Nat):aT_:=⟨(List.range j).map fun i=>(i,ks i),j,0,-1,if j=0 then false else la⟩
def bb_ (ks:Nat→Nat) (la:Bool) (t:Nat):aT_:={dP_ ks la 4 with kind:=t,holder:=2}
def TyL (t:Nat):Prop:=t∈[1,3,5,6,7,8]
section
variable {b0 b1 j k t:Nat} {s S:USt} {st st':Wst} {r:Pu} {T:aT_} {v:aU_} {p:L8} {ks:Nat→Nat} {la:Bool}
structure UpL (s:USt) (T:aT_) (v:aU_):Prop where
 on:s.on=1
 fault:s.fault=0
 tab:s.tab=T
 now:s.now=v
 saved:s.saved=v
theorem hn_ (h:fT_ s=iA_ b1 T v):UpL s T v:=⟨congrArg USt.on h,congrArg USt.fault h,congrArg USt.tab h,congrArg USt.now h,congrArg USt.saved h⟩
theorem rR_ (hk:∀i,0<ks i∧ks i<18446744073709551616) (hj:j≤4):cv_ (dP_ ks la j):=by
 refine⟨by show((List.range j).map _).length≤8;simp;omega,?_,fun x hx=>?_,by show j<_;omega,by show(0:Nat)<256;decide,⟨Int.le_refl _,by show(-1:Int)<8;decide⟩⟩
 ·show((List.range j).map fun i=>(i,ks i)).Pairwise _
  rw[List.pairwise_map]
  exact List.pairwise_lt_range
 ·obtain⟨i,hi,rfl⟩:=List.mem_map.1 hx
  have:=List.mem_range.1 hi
  exact⟨by show i<8;omega,hk i⟩
theorem qG_ (h:TyL t):t<256∧t≠0:=by
 unfold TyL at h
 simp at h
 omega
theorem oc_ (hk:∀i,0<ks i∧ks i<18446744073709551616) (ht:TyL t):cv_ (bb_ ks la t):=
 have o:=rR_ (la:=la) hk (Nat.le_refl 4)
 ⟨o.few,o.sorted,o.regs,o.gen,(qG_ ht).1,⟨by show(-1:Int)≤2;decide,by show(2:Int)<8;decide⟩⟩
theorem vN_ (hk:∀i,0<ks i∧ks i<18446744073709551616) (hj:j<4):bI_ (dP_ ks la j) j ⟨6,0,0,ks j,la⟩=⟨0,0,[],dP_ ks la (j+1)⟩:=by
 rw[wJ_ (fun x hx=>by
  obtain⟨i,hi,rfl⟩:=List.mem_map.1 hx
  exact List.mem_range.1 hi) (by have:=(hk j).1;omega)]
 unfold dP_
 dsimp only
 rw[List.range_succ,List.map_append,if_neg (Nat.succ_ne_zero j),Nat.mod_eq_of_lt o_]
 rfl
theorem rS_ {s:USt} (h:db_ s st k p) (hk:k+1<18446744073709551616) (ok:cv_ s.tab) (b:Bool):∃s' st' k' p',gp_ aQ_ b s st=⟨okX [],s',st'⟩∧fT_ s'=fT_ s∧s'.q=s.q∧db_ s' st' k' p'∧k'≤k+1∧(b=true→p'=cs_ s∧k'=k+1):=by
 cases b with
 | false=>exact⟨s,st,k,p,rfl,rfl,rfl,h,Nat.le_succ _,fun q=>by cases q⟩
 | true=>
  obtain⟨a',st',e,K⟩:=h.keep hk (by have:=i2_ ok;omega)
  exact⟨_,st',k+1,cs_ s,e,rfl,rfl,K,Nat.le_refl _,fun _=>⟨rfl,rfl⟩⟩
theorem db_.same {s':USt} (h:db_ s st k p) (h1:s'.keepf=s.keepf) (h2:s'.at_=s.at_) (h3:s'.sure=s.sure) (h4:s'.gen=s.gen):db_ s' st k p:=⟨by rw[h1,h2];exact h.ats,h3.trans h.sure,h4.trans h.gen,h.waits,h.dur⟩
theorem yn_ (hk:∀i,0<ks i∧ks i<18446744073709551616) (hj:j<4) (hc:fT_ S=iA_ b1 (dP_ ks la j) v0) (hq:S.q j = []) (K:db_ S st k p) (hb:k+1<18446744073709551616):∃s' st' k' p',aW_ aQ_ ((b0,S)::r) st 0 j (cX_ 6 0) (eL_ 0 (ks j) la)=(okX [],(b0,s')::r,st')∧fT_ s'=iA_ b1 (dP_ ks la (j+1)) v0∧s'.q=S.q∧db_ s' st' k' p'∧k'≤k+1:=by
 obtain⟨p1,p2,p3,p4,p5⟩:=jy_ (sv:=6) (kind:=0) d_
 have up:=hn_ hc
 have up':UpL (ao_ S) (dP_ ks la j) v0:=⟨up.on,up.fault,up.tab,up.now,up.saved⟩
 have hd:bI_ (ao_ S).tab j ⟨(aP_ (cX_ 6 0)).1.service,(aP_ (cX_ 6 0)).1.type,0,ks j,la⟩=⟨0,0,[],dP_ ks la (j+1)⟩:=by
  rw[p3,p4,up'.tab];exact vN_ hk hj
 have e:=qD_ (F:=aQ_) (c:=(aP_ (cX_ 6 0)).1) (s:=ao_ S) (st:=st) (n:=j) (key:=0) (action:=ks j) (lasts:=la) d_ (hk j).2 p5 hd rfl
 have hl:((ao_ S).tab.lasts||(dP_ ks la (j+1)).lasts)=la:=by
  rw[up'.tab]
  unfold dP_
  dsimp only
  rw[if_neg (Nat.succ_ne_zero j)]
  split<;>cases la<;>rfl
 obtain⟨s',st',k',p',e2,h1,h2,h3,h4,_⟩:=rS_ (s:={ao_ S with tab:=dP_ ks la (j+1),q:=evQ (ao_ S).q []}) (K.same rfl rfl rfl rfl) hb (rR_ hk o_) la
 refine⟨s',st',k',p',?_,?_,h2,h3,h4⟩
 ·rw[ph_ (b:=b0) (s:=S) (n:=j) rfl (fy_ up.on up.fault) p1 hq (by rw[p2];exact if_pos (.inr (.inl rfl))) (by show S.now.swp=false;rw[up.now];rfl),qC_ (b:=b0) (s:=ao_ S) rfl p2,e]
  dsimp only
  rw[hl,e2]
  rfl
 ·rw[h1]
  have:fT_ {ao_ S with tab:=dP_ ks la (j+1),q:=evQ (ao_ S).q []}={fT_ S with tab:=dP_ ks la (j+1)}:=rfl
  rw[this,hc]
  rfl
theorem yo_ (hk:∀i,0<ks i∧ks i<18446744073709551616) (ht:TyL t) (hc:fT_ S=iA_ b1 (dP_ ks la 4) v0) (hq:S.q 2 = []) (K:db_ S st k p) (hb:k+1<18446744073709551616):∃s' st' k' p',aW_ aQ_ ((b0,S)::r) st 0 2 (cX_ 1 t) (eL_ (ks 2) 0 false)=(okX [],(b0,s')::r,st')∧fT_ s'=iA_ b1 (bb_ ks la t) v0∧s'.q=S.q∧db_ s' st' k' p'∧k'≤k+1:=by
 have hsv:(1,t)∈[(6,0),(1,1),(1,3),(1,5),(1,6),(1,7),(1,8)]:=by
  unfold TyL at ht
  simp at ht ⊢
  omega
 obtain⟨p1,p2,p3,p4,p5⟩:=jy_ hsv
 have up:=hn_ hc
 have hd:bI_ (ao_ S).tab 2 ⟨(aP_ (cX_ 1 t)).1.service,(aP_ (cX_ 1 t)).1.type,ks 2,0,false⟩=⟨0,0,[],bb_ ks la t⟩:=by
  rw[p3,p4,show(ao_ S).tab=dP_ ks la 4 from up.tab]
  have kt:eq_ (dP_ ks la 4) 2=some (ks 2):=rfl
  unfold bI_
  rw[if_neg (show ¬(6<1) by decide),if_neg (show ¬(1=6) by decide),if_neg (show ¬(1=0) by decide),kt,if_neg (by simp),if_pos rfl]
  unfold dO_
  have:ep_ t=true:=by
   unfold TyL at ht
   simp at ht
   rcases ht with rfl|rfl|rfl|rfl|rfl|rfl<;>rfl
  dsimp only
  rw[this,if_neg Bool.noConfusion,if_pos (show(dP_ ks la 4).kind=0 from rfl)]
  rfl
 have e:=qD_ (F:=aQ_) (c:=(aP_ (cX_ 1 t)).1) (s:=ao_ S) (st:=st) (n:=2) (key:=ks 2) (action:=0) (lasts:=false) (hk 2).2 d_ p5 hd rfl
 have hl:((ao_ S).tab.lasts||(bb_ ks la t).lasts)=la:=by
  rw[show(ao_ S).tab=dP_ ks la 4 from up.tab]
  show(la||la)=la
  cases la<;>rfl
 obtain⟨s',st',k',p',e2,h1,h2,h3,h4,_⟩:=rS_ (s:={ao_ S with tab:=bb_ ks la t,q:=evQ (ao_ S).q []}) (K.same rfl rfl rfl rfl) hb (oc_ hk ht) la
 refine⟨s',st',k',p',?_,?_,h2,h3,h4⟩
 ·rw[ph_ (b:=b0) (s:=S) (n:=2) rfl (fy_ up.on up.fault) p1 hq (by rw[p2];exact if_pos (.inr (.inl rfl))) (by show S.now.swp=false;rw[up.now];rfl),qC_ (b:=b0) (s:=ao_ S) rfl p2,e]
  dsimp only
  rw[hl,e2]
  rfl
 ·rw[h1]
  have:fT_ {ao_ S with tab:=bb_ ks la t,q:=evQ (ao_ S).q []}={fT_ S with tab:=bb_ ks la t}:=rfl
  rw[this,hc]
  rfl
def svC:L8:=[0x15,0x11,0,0,24,0]
def svP (b:Bool):L8:=[0,0,0,0,8,18,if b then 4 else 0]++List.replicate 17 0
def vS (b:Bool):aU_:=⟨b,false,false⟩
theorem qH_:(aP_ svC).2.2=true∧(aP_ svC).1.kind=4∧(aP_ svC).1.save=true∧(aP_ svC).1.alloc=24:=by decide +kernel
theorem vO_ (b:Bool):∃ch,ju_ v0 v0 (aP_ svC).1 (svP b)=.ok (ch,vS b,vS b):=by
 cases b
 ·exact⟨true,k_⟩
 ·exact⟨false,k_⟩
theorem x5_ (ht:TyL t) (c:Nat):bN_ (bb_ ks la t) 2 c=false:=by
 have:cy_ (bb_ ks la t) 2=true:=by
  unfold TyL at ht
  simp at ht
  rcases ht with rfl|rfl|rfl|rfl|rfl|rfl<;>rfl
 exact if_pos (.inr (.inr this))
theorem svL {b:Bool} (hk:∀i,0<ks i∧ks i<18446744073709551616) (ht:TyL t) (hc:fT_ S=iA_ b1 (bb_ ks la t) v0) (hq:S.q 2 = []) (K:db_ S st k p) (hb:k+1<18446744073709551616):∃s' st',aW_ aQ_ ((b0,S)::r) st 0 2 svC (svP b)=(okX [],(b0,s')::r,st')∧db_ s' st' (k+1) (UInt8.ofNat (cI_ (vS b))::bk_ (bb_ ks la t))∧s'.keepf=S.keepf∧s'.tab=bb_ ks la t∧s'.on=1∧s'.file=S.file:=by
 obtain⟨p1,p2,p3,p4⟩:=qH_
 obtain⟨ch,ep⟩:=vO_ b
 have up:=hn_ hc
 have hl:(svP b).length=24:=by cases b<;>rfl
 have hne:decide (svP b≠[])=true:=by cases b<;>rfl
 have key:∀s1:USt,s1.keepf=S.keepf→s1.at_=S.at_→s1.sure=S.sure→s1.gen=S.gen→s1.tab=bb_ ks la t→s1.saved=vS b→s1.on=1→s1.file=S.file→∃s' st',gp_ aQ_ true s1 st=⟨okX [],s',st'⟩∧db_ s' st' (k+1) (UInt8.ofNat (cI_ (vS b))::bk_ (bb_ ks la t))∧s'.keepf=S.keepf∧s'.tab=bb_ ks la t∧s'.on=1∧s'.file=S.file:=fun s1 q1 q2 q3 q4 q5 q6 q7 q8=>by
  obtain⟨a',st',e,K'⟩:=(K.same q1 q2 q3 q4).keep hb (by have:=i2_ (s:=s1) (by rw[q5];exact oc_ hk ht);omega)
  refine⟨_,st',e,?_,q1,q5,q7,q8⟩
  have:cs_ s1=UInt8.ofNat (cI_ (vS b))::bk_ (bb_ ks la t):=by unfold cs_;rw[q5,q6]
  rw[←this]
  exact K'
 have es:∃s' st',h8_ aQ_ (ao_ S) st 2 (aP_ svC).1 (svP b)=⟨okX [],s',st'⟩∧db_ s' st' (k+1) (UInt8.ofNat (cI_ (vS b))::bk_ (bb_ ks la t))∧s'.keepf=S.keepf∧s'.tab=bb_ ks la t∧s'.on=1∧s'.file=S.file:=by
  unfold h8_
  rw[if_neg (by rw[p4,hl];decide),show(ao_ S).now=v0 from up.now,show(ao_ S).saved=v0 from up.saved,ep]
  dsimp only
  rw[p3,hne]
  cases ch with
  | true=>exact key (pg_ (m0_ (ao_ S) (vS b) (vS b)) 2 10753) rfl rfl rfl rfl up.tab rfl up.on rfl
  | false=>exact key (m0_ (ao_ S) (vS b) (vS b)) rfl rfl rfl rfl up.tab rfl up.on rfl
 obtain⟨s',st',e,h1,h2,h3,h4,h5⟩:=es
 refine⟨s',st',?_,h1,h2,h3,h4,h5⟩
 rw[ph_ (b:=b0) (s:=S) (n:=2) rfl (fy_ up.on up.fault) p1 hq (by rw[show(ao_ S).tab=bb_ ks la t from up.tab];exact x5_ ht _) (by show S.now.swp=false;rw[up.now];rfl)]
 unfold jN_
 rw[if_neg o_]
 show(if (aP_ svC).1.kind=4 then _ else _)=_
 rw[if_pos p2,e]
 rfl
end
open Go CF
def ho_ (ks:Nat→Nat) (la:Bool) (t:Nat):aT_:=if la then l8_ (bb_ ks la t) else t0
def crW (st:Wst):Wst:=⟨st.seen,st.seen,[],0⟩
section
variable {b0 b1 j k t n:Nat} {s S:USt} {st st':Wst} {r P:Pu} {T:aT_} {v:aU_} {p:L8} {ks:Nat→Nat} {la b:Bool}
theorem v3_ (ht:TyL t):aB_ (l8_ (bb_ ks la t))=aB_ (bb_ ks la t)∧(aB_ (bb_ ks la t)).1=t∧iz_ (aB_ (bb_ ks la t)).1 (aB_ (bb_ ks la t)).2 (bb_ ks la t).regs=false∧(-1≤(aB_ (bb_ ks la t)).2∧(aB_ (bb_ ks la t)).2<8):=by
 unfold TyL at ht
 simp at ht
 rcases ht with rfl|rfl|rfl|rfl|rfl|rfl
 all_goals first
  | exact⟨rfl,rfl,rfl,by show(-1:Int)≤2;decide,by show(2:Int)<8;decide⟩
  | exact⟨rfl,rfl,rfl,by show(-1:Int)≤-1;decide,by show(-1:Int)<8;decide⟩
theorem x6_ (hk:∀i,0<ks i∧ks i<18446744073709551616) (ht:TyL t):hM_ (bk_ (bb_ ks la t))=some (ho_ ks la t):=by
 unfold ho_
 cases la with
 | false=>rfl
 | true=>
  obtain⟨_,h1,h2,h3⟩:=v3_ (ks:=ks) (la:=true) ht
  rw[if_pos rfl]
  exact s1_ rfl (oc_ hk ht) h2 (by rw[h1];exact(qG_ ht).1) h3
def xz_ (b1:Nat) (T:aT_) (v:aU_) (a:Int) (k:Nat):USt:={ao_ (aO_ 0 0 [b1]) with q:=onQ fun _=>[],sure:=true,at_:=a,gen:=k,on:=1,tab:=T,now:=v,saved:=v,cache:=v.wce}
theorem xA_ (hk:∀i,0<ks i∧ks i<18446744073709551616) (ht:TyL t) (K:db_ s st (k+1) (UInt8.ofNat (cI_ (vS b))::bk_ (bb_ ks la t))) (hkf:s.keepf=(aO_ 0 0 [b1]).keepf):∃a,aC_ aQ_ (ao_ (aO_ 0 0 [b1])) (crW st)=(0,xz_ b1 (ho_ ks la t) (vS b) a (k+1),more (crW st) 2):=by
 have hld:ldN st.seen (aO_ 0 0 [b1]).keepf 2=(s.at_,k+1,UInt8.ofNat (cI_ (vS b))::bk_ (bb_ ks la t)):=by rw[←hkf];exact K.ats.ld
 have ha:¬s.at_<0:=by
  rcases K.ats with⟨_,q,_⟩|⟨i,q,_⟩
  ·omega
  ·omega
 have e:aI_ aQ_ (crW st) (aO_ 0 0 [b1]).keepf ⟨false,-1,0⟩=(0,UInt8.ofNat (cI_ (vS b))::bk_ (bb_ ks la t),k+1,⟨true,s.at_,k+1⟩,more (crW st) 2):=by
  unfold aI_
  rw[mk_]
  dsimp only
  rw[show(crW st).seen=st.seen from rfl,hld]
  dsimp only
  rw[if_neg ha]
 have hv:(UInt8.ofNat (cI_ (vS b))).toNat=cI_ (vS b):=by
  have:=n9_ (vS b)
  rw[UInt8.toNat_ofNat']
  omega
 refine⟨s.at_,?_⟩
 unfold aC_
 rw[if_neg (by show ¬(0=1);decide)]
 have el:cd_ aQ_ (ao_ (aO_ 0 0 [b1])) (crW st)=(0,{xz_ b1 (ho_ ks la t) (vS b) s.at_ (k+1) with on:=0},more (crW st) 2):=by
  unfold cd_
  rw[show aI_ aQ_ (crW st) (ao_ (aO_ 0 0 [b1])).keepf ⟨(ao_ (aO_ 0 0 [b1])).sure,(ao_ (aO_ 0 0 [b1])).at_,(ao_ (aO_ 0 0 [b1])).gen⟩=_ from e]
  dsimp only
  have ew:fN_ aQ_ (ao_ (aO_ 0 0 [b1])) (crW st)={ao_ (aO_ 0 0 [b1]) with q:=onQ fun _=>[],sure:=true,at_:=s.at_,gen:=k+1}:=by
   unfold fN_
   rw[show aI_ aQ_ (crW st) (ao_ (aO_ 0 0 [b1])).keepf ⟨(ao_ (aO_ 0 0 [b1])).sure,(ao_ (aO_ 0 0 [b1])).at_,(ao_ (aO_ 0 0 [b1])).gen⟩=_ from e]
   rfl
  rw[ew]
  unfold fO_
  rw[if_neg d_,if_neg (fun q=>q rfl)]
  rw[if_neg (by
   intro q
   rcases q with q|q
   ·cases q
   ·have:((UInt8.ofNat (cI_ (vS b))::bk_ (bb_ ks la t)).getD 0 0).toNat=cI_ (vS b):=hv
    have:=n9_ (vS b)
    omega)]
  rw[show(UInt8.ofNat (cI_ (vS b))::bk_ (bb_ ks la t)).drop 1=bk_ (bb_ ks la t) from rfl,x6_ hk ht]
  dsimp only
  rw[show((UInt8.ofNat (cI_ (vS b))::bk_ (bb_ ks la t)).getD 0 0).toNat=cI_ (vS b) from hv,ua_]
  rfl
 rw[el]
 rfl
theorem ut_ (ht:TyL t) (c:Nat):bN_ (ho_ ks la t) 2 c=false:=by
 unfold ho_
 cases la with
 | false=>exact if_pos (.inl rfl)
 | true=>
  rw[if_pos rfl]
  have:cy_ (l8_ (bb_ ks true t)) 2=true:=by
   unfold TyL at ht
   simp at ht
   rcases ht with rfl|rfl|rfl|rfl|rfl|rfl<;>rfl
  exact if_pos (.inr (.inr this))
def msC:L8:=[0x1a,0,8,0,255,0]
theorem qI_:(aP_ msC).2.2=true∧(aP_ msC).1.kind=5∧(aP_ msC).1.alloc=255:=by decide +kernel
def msD (b:Bool):L8:=mY_ ((ch_ (vS b) (vS b) (aP_ msC).1).getD []) 255
theorem rT_ (b:Bool):(ch_ (vS b) (vS b) (aP_ msC).1).isSome=true∧(msD b).length=24∧(msD b)[6]?=some (if b then 4 else 0):=by cases b<;>decide +kernel
theorem x7_ (hs:s.on=1) (hf:s.fault=0) (hq:s.q 2 = []) (hc:bN_ s.tab 2 1=false) (hn:s.now=vS b) (hv:s.saved=vS b):aW_ aQ_ ((b0,s)::r) st 0 2 msC []=(okX (msD b),(b0,ao_ s)::r,st):=by
 obtain⟨p1,p2,p3⟩:=qI_
 rw[ph_ (b:=b0) (s:=s) (n:=2) rfl (fy_ hs hf) p1 hq (by rw[p2];exact hc) (by show s.now.swp=false;rw[hn];rfl),uo_ (b:=b0) (s:=ao_ s) rfl o_ o_ o_]
 have:hk_ aQ_ (ao_ s) st 2 (aP_ msC).1 []=⟨okX (msD b),ao_ s,st⟩:=by
  obtain⟨h1,_⟩:=rT_ b
  obtain⟨d,hd⟩:=Option.isSome_iff_exists.1 h1
  unfold hk_ hN_
  rw[if_neg o_,if_neg o_,if_neg o_,if_neg o_,if_neg o_,if_pos p2,show(ao_ s).now=vS b from hn,show(ao_ s).saved=vS b from hv,hd]
  unfold msD
  rw[hd,p3]
  rfl
 rw[this]
 rfl
end
open Go CF
section
variable {F:Int→Bool} {b i n b0 b1 j:Nat} {s S s0 s1:USt} {st st':Wst} {P r:Pu} {l lo:L8} {c:Cm} {ps bs:List Nat} {x x1:Nat×USt}
end
open Go CF
section
variable {w v z:World} {pw i n m b0 b1:Nat} {ℓ ℓ':Nat→Option Nat} {P:Pu} {st:Wst} {s s0 s1:USt} {F:Int→Bool}
theorem wK_ {st:Wst} {k:Nat} {ps:List Nat} (h:st.seen=fun _=>none):ldN st.seen (aO_ k 0 ps).keepf 2=(-1,0,[]):=rQ_ h
end
open Go CF
def kv (ks:Nat→Nat):List Value:=[.int .u64 (ks 0:Int),.int .u64 (ks 1:Int),.int .u64 (ks 2:Int),.int .u64 (ks 3:Int)]
theorem x8_ (ks:Nat→Nat) {i:Nat} (h:i<4):(kv ks).toArray[i]?=some (.int .u64 (ks i:Int)):=by
 match i,h with
 | 0,_=>rfl
 | 1,_=>rfl
 | 2,_=>rfl
 | 3,_=>rfl
def kF (ks:Nat→Nat) (i:Nat):Nat:=if ks i=0 then 1 else ks i
theorem v4_ {ks:Nat→Nat} {i:Nat} (h:ks i≠0):kF ks i=ks i:=if_neg h
theorem x9_ {ks:Nat→Nat} (h:∀i,ks i<18446744073709551616) (i:Nat):0<kF ks i∧kF ks i<18446744073709551616:=by
 unfold kF
 have:=h i
 split<;>omega
section
variable {w v u:World} {b0 b1 j k t pw m:Nat} {s S:USt} {st st':Wst} {r:Pu} {ks:Nat→Nat} {la:Bool} {ℓ ℓ':Nat→Option Nat} {P:Pu} {F:Int→Bool}
structure qJ_ (ks:Nat→Nat) (la:Bool) (b1 j:Nat) (s:USt) (st:Wst):Prop where
 new:j=0→s=aO_ 0 0 [b1]∧st=stN
 old:0<j→fT_ s=iA_ b1 (dP_ ks la j) v0∧(∀t,t<8→s.q t=if t<j then [] else bd_ [] 10496)∧∃k p,db_ s st k p∧k≤j
theorem qJ_.step (h:qJ_ ks la b1 j s st) (hk:∀i,0<ks i∧ks i<18446744073709551616) (hj:j<4):∃S st1 s' st2,aC_ aQ_ (ao_ s) st=(0,S,st1)∧S.on=1∧S.q j=bd_ [] 10496∧(s.on≠1→ldN st.seen s.keepf 2=(-1,0,[]))∧aW_ aQ_ [(b0,bA_ S j),(b1,aO_ 1 0 [b0])] st1 0 j (cX_ 6 0) (eL_ 0 (ks j) la)=(okX [],[(b0,s'),(b1,aO_ 1 0 [b0])],st2)∧qJ_ ks la b1 (j+1) s' st2:=by
 have key:∀S st1 k p,aC_ aQ_ (ao_ s) st=(0,S,st1)→fT_ S=iA_ b1 (dP_ ks la j) v0→(∀t,t<8→S.q t=if t<j then [] else bd_ [] 10496)→db_ S st1 k p→k≤j→(s.on≠1→ldN st.seen s.keepf 2=(-1,0,[]))→∃S st1 s' st2,aC_ aQ_ (ao_ s) st=(0,S,st1)∧S.on=1∧S.q j=bd_ [] 10496∧(s.on≠1→ldN st.seen s.keepf 2=(-1,0,[]))∧aW_ aQ_ [(b0,bA_ S j),(b1,aO_ 1 0 [b0])] st1 0 j (cX_ 6 0) (eL_ 0 (ks j) la)=(okX [],[(b0,s'),(b1,aO_ 1 0 [b0])],st2)∧qJ_ ks la b1 (j+1) s' st2:=fun S st1 k p hs hc hq K hkj hL=>by
  have up:=hn_ hc
  have hqj:S.q j=bd_ [] 10496:=by rw[hq j o_,if_neg (Nat.lt_irrefl _)]
  have hqt:(bA_ S j).q j = []:=wI_ (by rw[hqj];exact l5_)
  obtain⟨s',st2,k',p',e,h1,h2,h3,h4⟩:=yn_ (b0:=b0) (r:=[(b1,aO_ 1 0 [b0])]) hk hj (show fT_ (bA_ S j)=_ from hc) hqt (K.same rfl rfl rfl rfl) o_
  refine⟨S,st1,s',st2,hs,up.on,hqj,hL,e,⟨fun q=>o_,fun _=>⟨h1,fun t ht=>?_,k',p',h3,o_⟩⟩⟩
  rw[h2]
  show(if t=j then fL_ (S.q j) else S.q t)=_
  by_cases q:t=j
  ·rw[if_pos q,if_pos o_,hqj];exact l5_
  ·rw[if_neg q,hq t ht]
   by_cases q2:t<j
   ·rw[if_pos q2,if_pos o_]
   ·rw[if_neg q2,if_neg o_]
 by_cases e:j=0
 ·obtain⟨rfl,rfl⟩:=h.new e
  subst e
  have hl:ldN stN.seen (aO_ 0 0 [b1]).keepf 2=(-1,0,[]):=wK_ rfl
  refine key (b1_ (ao_ (aO_ 0 0 [b1]))) (more stN 2) 0 [] (sZ_ (s:=ao_ (aO_ 0 0 [b1])) rfl hl) rfl (fun t ht=>?_) ⟨xf_ _,rfl,rfl,rfl,rfl⟩ (Nat.le_refl _) fun _=>hl
  rw[if_neg o_]
  exact x3_ ht
 ·obtain⟨hc,hq,k,p,K,hkj⟩:=h.old o_
  have up:=hn_ hc
  exact key (ao_ s) st k p (fy_ up.on up.fault) hc hq (K.same rfl rfl rfl rfl) hkj fun q=>absurd up.on q
theorem rU_ (T:Tw w v ℓ pw F P st m) {i:Nat} {x:Nat×USt} (he:P[i]?=some x):Good (gv_ st x.2.file):=by
 obtain⟨us,H,K,rfl⟩:=T.ex
 obtain⟨hi,hx0⟩:=List.getElem?_eq_some_iff.1 he
 have hlen:(pub us).length=us.length:=by unfold pub;rw[List.length_map]
 have hiu:i<us.length:=o_
 have ex:x=(us[i].1.ub,us[i].2):=by rw[←hx0,nM_ hiu]
 subst ex
 exact(K.at (a:=us[i].1) (s:=us[i].2) hiu rfl).good
structure qK_ (ks:Nat→Nat) (la b:Bool) (t b1 j:Nat) (s:USt) (st st0:Wst):Prop where
 new:j=0→s=aO_ 0 0 [b1]∧st=crW st0
 old:0<j→s.on=1∧s.fault=0∧s.tab=ho_ ks la t∧s.now=vS b∧s.saved=vS b∧∀t,t<8→s.q t=if t<j then [] else bd_ [] 10496
theorem qK_.step {b:Bool} {st0:Wst} {s0:USt} (h:qK_ ks la b t b1 j s st st0) (hk:∀i,0<ks i∧ks i<18446744073709551616) (ht:TyL t) (hj:j<8) (K:db_ s0 st0 (k+1) (UInt8.ofNat (cI_ (vS b))::bk_ (bb_ ks la t))) (hkf:s0.keepf=(aO_ 0 0 [b1]).keepf):∃s' st2,aW_ aQ_ ((b0,s)::r) st 0 j z6 []=(snX (uaS 10496),(b0,s')::r,st2)∧qK_ ks la b t b1 (j+1) s' st2 st0:=by
 have key:∀S st1,aC_ aQ_ (ao_ s) st=(0,S,st1)→S.on=1→S.fault=0→S.tab=ho_ ks la t→S.now=vS b→S.saved=vS b→(∀t,t<8→S.q t=if t<j then [] else bd_ [] 10496)→∃s' st2,aW_ aQ_ ((b0,s)::r) st 0 j z6 []=(snX (uaS 10496),(b0,s')::r,st2)∧qK_ ks la b t b1 (j+1) s' st2 st0:=fun S st1 hs h1 h2 h3 h4 h5 hq=>by
  have hqj:S.q j=bd_ [] 10496:=by rw[hq j hj,if_neg (Nat.lt_irrefl _)]
  refine⟨bA_ S j,st1,qB_ (b:=b0) (s:=s) rfl hs (by rw[i4_]) (by rw[i4_];rfl) (by rw[hqj];exact l4_),⟨fun q=>o_,fun _=>⟨h1,h2,h3,h4,h5,fun t ht=>?_⟩⟩⟩
  show(if t=j then fL_ (S.q j) else S.q t)=_
  by_cases q:t=j
  ·rw[if_pos q,if_pos o_,hqj];exact l5_
  ·rw[if_neg q,hq t ht]
   by_cases q2:t<j
   ·rw[if_pos q2,if_pos o_]
   ·rw[if_neg q2,if_neg o_]
 by_cases e:j=0
 ·obtain⟨rfl,rfl⟩:=h.new e
  obtain⟨a,hs⟩:=xA_ hk ht K hkf
  refine key _ _ hs rfl rfl rfl rfl rfl fun t ht=>?_
  rw[if_neg o_]
  exact if_pos ht
 ·obtain⟨h1,h2,h3,h4,h5,hq⟩:=h.old o_
  exact key (ao_ s) st (fy_ h1 h2) h1 h2 h3 h4 h5 hq
theorem s2_:Tryz.prog.eqGuardType Tryz.prog.depth ax_=false:=k_
theorem qL_:dQ_ Tryz.prog 8 ax_=some [.i .i64,.i .u64]:=k_
theorem s3_:kd Tryz.prog ax_=.ag:=k_
theorem rV_ (r:Nat×Nat):a1_ [.i .i64,.i .u64] (rgc r):=⟨rfl,rfl,trivial⟩
end
open Go CF
theorem wL_ {q:List Nat} (h:q=bd_ [] 10496):cD_ q≠none:=by rw[h,l4_];exact Option.some_ne_none _
open Go CF
section
variable {w:World}
theorem uu_ {k n:Nat} (hk:k<256) (hn:0<n):(IntKind.wrap .i64 (k:Int)).tmod (n:Int)=((k%n:Nat):Int):=by rw[w64 o_ o_];exact Int.ofNat_tmod k n
theorem ya_ {k:Nat}:IntKind.wrap .u8 (((k:Int).tmod 2)*4)=(((if decide (k%2=1) then(4:UInt8) else 0).toNat:Nat):Int):=by
 have e:(k:Int).tmod 2=((k%2:Nat):Int):=Int.ofNat_tmod k 2
 rw[e]
 have h:=Nat.mod_two_eq_zero_or_one k
 generalize k%2=r at *
 rcases h with rfl|rfl<;>decide
theorem xB_ {i:Nat} (h:i<6):∃t,([1,3,5,6,7,8]:L8)[i]?=some (UInt8.ofNat t)∧TyL t∧(UInt8.ofNat t).toNat=t:=by
 match i,h with
 | 0,_=>exact⟨1,rfl,by unfold TyL;decide,rfl⟩
 | 1,_=>exact⟨3,rfl,by unfold TyL;decide,rfl⟩
 | 2,_=>exact⟨5,rfl,by unfold TyL;decide,rfl⟩
 | 3,_=>exact⟨6,rfl,by unfold TyL;decide,rfl⟩
 | 4,_=>exact⟨7,rfl,by unfold TyL;decide,rfl⟩
 | 5,_=>exact⟨8,rfl,by unfold TyL;decide,rfl⟩
theorem od_ {ks:Nat→Nat} {kind page bits keep cut:Nat} {la:Bool} {R:Bool→W_} (hks:∀i,ks i<18446744073709551616) (hkd:kind<256) (hbt:bits<256) (hkp:keep<256) (hct:cut<256) (h:∀w',ab_ w w'→R true w'):dL_ (kv ks).toArray (kind:Int) la (page:Int) (bits:Int) (keep:Int) (cut:Int) w R:=by
 have hkF:=x9_ hks
 refine ct_.calls _ _ _ _ _ _ _ _ _ (ag_ fun kb w1 hkb hb1 hg1 hs1=>qz_ fun w2 g2=>aj_ rfl (j0_ fun pw D w3 g3 hW hD=>?_))
 obtain⟨ℓ0,H0,hℓ0⟩:=Sys.world0 hW
 have s12:=g2.size
 have g03:=(hg1.trans g2).trans g3
 have old:∀b,b<w.heap.size→ℓ0 b=none:=fun b hb=>hℓ0 b fun q=>by have:=hD b q;omega
 have nkb:ℓ0 kb=none:=hℓ0 kb fun q=>by have:=hD kb q;omega
 refine Tw.units (m:=0) H0 g03 old d_ (fun c hc=>by cases hc) ⟨Nat.le_refl _,Nat.le_refl _⟩ (fun k _=>uP_) fun w4 ℓ4 b0 b1 m4 T4=>?_
 have L4:LB w4 ℓ4 kb (kv ks).toArray gR_:=LB.mv ⟨g3.heap (g2.heap hb1 (fun q=>q)) (fun q=>q),nkb⟩ m4
 refine⟨some ⟨b0,0,none⟩,⟨⟨d_,d_⟩,rfl⟩,?_⟩
 have ckb:∀{v:World} {ℓ':Nat→Option Nat} {i:Nat},LB v ℓ' kb (kv ks).toArray gR_→i<4→v.cell? ((⟨kb,0,none⟩:Addr).add (i*1))=some (.int .u64 (ks i:Int)):=fun q hi=>by rw[aq_,Blk.cell q.blk,Nat.zero_add,Nat.mul_one];exact x8_ ks hi
 refine⟨fun x v=>∃(j:Nat) (ℓ':Nat→Option Nat) (s:USt) (st:Wst),x=j∧j≤4∧Tw w v ℓ' pw aQ_ [(b0,s),(b1,aO_ 1 0 [b0])] st (2000020*j)∧LB v ℓ' kb (kv ks).toArray gR_∧(∀i,i<j→ks i≠0)∧qJ_ (kF ks) la b1 j s st,fun x _=>4-x.toNat,
  ⟨0,ℓ4,_,_,rfl,d_,T4,L4,fun i hi=>o_,⟨fun _=>⟨rfl,rfl⟩,fun q=>o_⟩⟩,?_⟩
 rintro x v ⟨j,ℓ',s,st,rfl,hj,T,L,hnz,hr⟩
 refine bl_ (y:=4) (fun hlt=>?_) (fun hge=>?_)
 ·have cj:v.cell? ((⟨kb,0,none⟩:Addr).add ((j:Int).toNat*1))=some (.int .u64 (ks j:Int)):=by rw[Int.toNat_natCast];exact ckb L hlt
  refine⟨⟨o_,o_⟩,_,cj,?_⟩
  by_cases hz:ks j=0
  ·exact am_ (by rw[hz];rfl) (h v T.grow)
  refine aj_ (by rw[beq_eq_false_iff_ne];omega) ⟨⟨o_,o_⟩,_,cj,?_⟩
  refine nN_ (sv:=6) (kind:=0) (key:=0) (action:=ks j) d_ d_ fun xs ps v1 gv1 ox op=>?_
  obtain⟨S,st1,s',st2,hs,hS,hqj,hL,e,hr'⟩:=hr.step (b0:=b0) hkF hlt
  rw[v4_ hz] at e
  obtain⟨p1,p2,_⟩:=jy_ (sv:=6) (kind:=0) d_
  have eD:hO_ aQ_ 0 j (cX_ 6 0) (eL_ 0 (ks j) la) 9 [(b0,s),(b1,aO_ 1 0 [b0])] st=(okX [],[(b0,s'),(b1,aO_ 1 0 [b0])],st2):=by
   rw[sY_ (b:=b0) (s:=s) rfl hs p1 (by rw[p2];rfl) (by rw[hqj];exact l4_)]
   show hO_ aQ_ 0 j (cX_ 6 0) (eL_ 0 (ks j) la) 8 [(b0,bA_ S j),(b1,aO_ 1 0 [b0])] st1=_
   rw[kY_ (by rw[e];exact(by decide:(0:Nat)≠6)),e]
  refine Tw.does2 (i:=0) (n:=j) (l:=cX_ 6 0) (lo:=eL_ 0 (ks j) la) (P:=[(b0,s),(b1,aO_ 1 0 [b0])]) (s:=s) rfl hs hS p1 (by rw[p2];rfl) (by rw[p2];exact qw_) hL (fun q=>absurd q (wL_ hqj)) (fun _=>by
   show(aW_ aQ_ [(b0,bA_ S j),(b1,aO_ 1 0 [b0])] st1 0 j (cX_ 6 0) (eL_ 0 (ks j) la)).1.sn.key≠6
   rw[e];exact(by decide:(0:Nat)≠6)) (T.go gv1) o_ o_ (T.rowN gv1 ox d_) (T.rowN gv1 op (by rw[i5_];decide)) (by rw[fe_ op,i5_];decide) eD fun v2 ℓ2 d2 mv2 T2 dt2=>?_
  refine iD_ fun rb v3 hrb gv3 hbr=>⟨0,by rw[aq_,Blk.cell hbr];rfl,aj_ rfl ?_⟩
  rw[w64 o_ o_]
  exact⟨⟨j+1,ℓ2,s',st2,o_,o_,(T2.go gv3).mono o_,((L.go gv1).mv mv2).go gv3,fun i hi=>by
   by_cases q:i=j
   ·rw[q];exact hz
   ·exact hnz i o_,hr'⟩,by dsimp only;omega⟩
 obtain rfl:j=4:=o_
 obtain⟨hc,hq,k,p,K,hk4⟩:=hr.old d_
 clear hr
 have up:=hn_ hc
 refine T.lit (l:=[1,3,5,6,7,8]) k_ (by rfl) d_ fun xs2 v1 gv1 T1 X1=>⟨d_,?_⟩
 have hx2:xs2.n=6:=by have:6=xs2.n*1:=X1.rd.len;omega
 have e6:=uu_ (k:=kind) (n:=6) hkd d_
 have e6:(IntKind.wrap .i64 (kind:Int)).tmod 6=((kind%6:Nat):Int):=e6
 rw[e6]
 have h6:kind%6<6:=Nat.mod_lt _ d_
 obtain⟨t,ht1,ht,ht2⟩:=xB_ h6
 generalize kind%6=i6 at *
 obtain⟨q1,q2⟩:=h0_ X1.rd (i:=i6) (by rw[az_];exact h6)
 have q2:v1.cell? ((gA xs2.A).add ((i6:Int).toNat*1))=some (.int .u8 (t:Int)):=by
  rw[Int.toNat_natCast,q2]
  have:(bv [1,3,5,6,7,8])[i6]?=some (.int .u8 (t:Int)):=by
   unfold bv
   rw[List.getElem?_map,ht1]
   show some (Value.int .u8 ((UInt8.ofNat t).toNat:Int))=_
   rw[ht2]
  rw[List.getElem?_eq_getElem (by rw[az_];exact h6)] at this
  exact this
 have L1:=L.go gv1
 refine⟨⟨o_,o_,q1⟩,_,q2,⟨d_,d_⟩,_,ckb L1 (i:=2) d_,?_⟩
 have hk2:kF ks 2=ks 2:=v4_ (hnz 2 d_)
 have htl:=qG_ ht
 refine nN_ (sv:=1) (kind:=t) (key:=ks 2) (action:=0) d_ htl.1 fun xs ps v2 gv2 ox op=>?_
 have hq2:s.q 2 = []:=by rw[hq 2 d_,if_pos d_]
 obtain⟨s2,st2,k2,p2',e2,hc2,hqs2,K2,hk2'⟩:=yo_ (b0:=b0) (r:=[(b1,aO_ 1 0 [b0])]) hkF ht hc hq2 K o_
 rw[hk2] at e2
 have hsv:(1,t)∈[(6,0),(1,1),(1,3),(1,5),(1,6),(1,7),(1,8)]:=by
  unfold TyL at ht
  simp at ht ⊢
  omega
 obtain⟨p1,p2,_⟩:=jy_ hsv
 have key0:(okX ([]:L8)).sn.key≠6:=(by decide:(0:Nat)≠6)
 have hqn:∀{s:USt},s.q 2 = []→cD_ ((ao_ s).q 2)=none:=fun q=>by show cD_ (_:List Nat)=none;rw[show(ao_ _).q 2 = [] from q];rfl
 refine Tw.does2 (i:=0) (n:=2) (l:=cX_ 1 t) (lo:=eL_ (ks 2) 0 false) (P:=[(b0,s),(b1,aO_ 1 0 [b0])]) (s:=s) rfl (fy_ up.on up.fault) up.on p1 (by rw[p2];rfl) (by rw[p2];exact qw_) (fun q=>absurd up.on q) (fun _=>by rw[e2];exact key0) (fun q=>absurd (hqn hq2) q) (T1.go gv2) o_ d_ (T1.rowN gv2 ox (by show 10≤1000000;decide)) (T1.rowN gv2 op (by rw[i5_];decide)) (by rw[fe_ op,i5_];decide) (kY_ (by rw[e2];exact key0)) fun v3 ℓ3 d3 mv3 T3 dt3=>?_
 rw[e2] at T3 ⊢
 refine iD_ fun rb v4 hrb gv4 hbr=>⟨0,by rw[aq_,Blk.cell hbr];rfl,aj_ rfl ?_⟩
 have T4':Tw w v4 ℓ3 pw aQ_ [(b0,s2),(b1,aO_ 1 0 [b0])] st2 20000000:=(T3.go gv4).mono o_
 have up2:=hn_ hc2
 refine Tw.tables (i:=0) (x:=(b0,s2)) T4' rfl fun xs5 v5 gv5 o5=>⟨d_,?_⟩
 have T5:=T4'.go gv5
 have R5:LR v5 ℓ3 v4.heap.size ax_ 2 xs5 (rgv s2.tab.regs):=⟨o5,fun b hb=>T4'.fresh (o5.ge b hb).1⟩
 rw[ya_]
 generalize hbit:decide (bits%2=1)=bit
 refine aN_ (cells:=(bv [0,0,0,0,8,18,if bit then 4 else 0]).toArray) (e:=ae_) (z:=1) (base:=v5.heap.size) k_ rfl d_ (Nat.le_refl _) fun v6 o6 gv6 _=>?_
 refine ib_ (k:=17) (base:=v5.heap.size) aX_ na_ bE_ rfl (o6.rd (by dsimp only;decide)) (by dsimp only;decide) d_ (by dsimp only;decide) gv6.size fun xs7 v7 hn7 o7 gv7 hb7=>?_
 have g57:=gv6.trans gv7
 have T7:=T5.go g57
 have o7:CF.Own v7 v5.heap.size ae_ 1 xs7 (bv (svP bit)):=by
  have e:(bv [0,0,0,0,8,18,if bit then(4:UInt8) else 0]++List.replicate 17 (Value.int .u8 0))=bv (svP bit):=by cases bit<;>kernel_rfl
  rw[←e];exact o7
 have R7:=R5.go g57
 refine T7.lit (l:=svC) k_ (by rfl) d_ fun xs8 v8 gv8 T8 X8=>?_
 have X7:RdX v8 ℓ3 1 xs7 (bv (svP bit)):=T5.rowN (g57.trans gv8) (o7.grow gv8) (by cases bit<;>decide)
 have hq22:s2.q 2 = []:=by rw[hqs2];exact hq2
 obtain⟨f1,f2,f3,f4⟩:=qH_
 obtain⟨s3,st3,e3,K3,hkf3,htb3,hon3,hfl3⟩:=svL (b0:=b0) (r:=[(b1,aO_ 1 0 [b0])]) (b:=bit) hkF ht hc2 hq22 K2 o_
 refine Tw.does2 (i:=0) (n:=2) (l:=svC) (lo:=svP bit) (P:=[(b0,s2),(b1,aO_ 1 0 [b0])]) (s:=s2) rfl (fy_ up2.on up2.fault) up2.on f1 (by rw[f2];rfl) (by rw[f2];exact vH_) (fun q=>absurd up2.on q) (fun _=>by rw[e3];exact key0) (fun q=>absurd (hqn hq22) q) T8 d_ d_ X8 X7 (by rw[fe_ o7];cases bit<;>decide) (kY_ (by rw[e3];exact key0)) fun v9 ℓ9 d9 mv9 T9 dt9=>?_
 rw[e3] at T9 ⊢
 refine iD_ fun rb2 v10 hrb2 gv10 hbr2=>⟨0,by rw[aq_,Blk.cell hbr2];rfl,aj_ rfl ⟨d_,?_⟩⟩
 have T10:Tw w v10 ℓ9 pw aQ_ [(b0,s3),(b1,aO_ 1 0 [b0])] st3 30000000:=(T9.go gv10).mono d_
 have R10:=((R7.go gv8).mv mv9).go gv10
 have ek:=uu_ (k:=keep) (n:=3) hkp d_
 have ek:(IntKind.wrap .i64 (keep:Int)).tmod 3=((keep%3:Nat):Int):=ek
 rw[ek,w64 (n:=(cut:Int)) o_ o_]
 refine Tw.crash T10 d_ fun v11 ℓ11 mv11 g11 old11 H11=>?_
 have est:(⟨cR_ st3.dur st3.waits (keep%3) cut st3.waits.length,cR_ st3.dur st3.waits (keep%3) cut st3.waits.length,[],0⟩:Wst)=crW st3:=by
  rw[K3.waits,K3.dur];rfl
 rw[est] at H11
 have hgood:∀k,k<2→Good (gv_ (crW st3) (nmL k++c1_)):=fun k hk=>by
  have a0:=rU_ T10 (i:=0) (x:=(b0,s3)) rfl
  have a1:=rU_ T10 (i:=1) (x:=(b1,aO_ 1 0 [b0])) rfl
  have f0:s3.file=fdL 0:=hfl3.trans (congrArg USt.file hc2)
  rw[show((b0,s3):Nat×USt).2.file=fdL 0 from f0] at a0
  match k,hk with
  | 0,_=>exact a0
  | 1,_=>exact a1
 refine Tw.units (m:=0) H11 g11 old11 d_ (fun c hc=>by cases hc) ⟨Nat.le_refl _,Nat.le_refl _⟩ hgood fun v12 ℓ12 c0 c1 m12 T12=>?_
 have R12:=(R10.mv mv11).mv m12
 refine⟨some ⟨c0,0,none⟩,⟨⟨d_,d_⟩,rfl⟩,?_⟩
 have hkfC:s3.keepf=(aO_ 0 0 [c1]).keepf:=hkf3.trans (show s2.keepf=(aO_ 0 0 [c1]).keepf from(congrArg USt.keepf hc2:(fT_ s2).keepf=(iA_ b1 (bb_ (kF ks) la t) v0).keepf))
 have htab:s2.tab=bb_ (kF ks) la t:=up2.tab
 rw[htab] at R12
 clear R10 R7 R5
 refine⟨fun x v=>∃(j:Nat) (ℓ':Nat→Option Nat) (s:USt) (r:Pu) (st:Wst),x=j∧j≤8∧Tw w v ℓ' pw aQ_ ((c0,s)::r) st (200002*j)∧LR v ℓ' v4.heap.size ax_ 2 xs5 (rgv (bb_ (kF ks) la t).regs)∧qK_ (kF ks) la bit t c1 j s st st3,fun x _=>8-x.toNat,
  ⟨0,ℓ12,_,_,_,rfl,d_,T12,R12,⟨fun _=>⟨rfl,rfl⟩,fun q=>o_⟩⟩,?_⟩
 rintro x v ⟨j,ℓ',s,r,st,rfl,hj,T,Rr,hT⟩
 refine bl_ (y:=8) (fun hlt=>?_) (fun hge=>?_)
 ·refine kX_ fun xs9 v1 gv1 ho1=>?_
  obtain⟨s',st',e,hT'⟩:=hT.step (b0:=c0) (r:=r) hkF ht hlt K3 hkfC
  have hload:l6_ aQ_ ((c0,s)::r) st 0 j z6:=sX_ fun x hx=>fun _=>vD_ _ _ _
  refine Tw.dosN (x:=(c0,s)) hload (T.go gv1) o_ rfl o_ (T.rowN gv1 ho1 d_) (Tw.rowNil (T.go gv1)) d_ fun v2 ℓ2 d mv T2 dt _=>?_
  rw[e] at T2 dt ⊢
  refine iD_ fun qb v3 hqb gv3 hbq=>?_
  rintro v4' rfl
  have g4:=ak_ v3
  have dl:d.n=0:=fe_ dt.1
  have Tq:=(T2.go gv3).go g4
  have Rq:=(((Rr.go gv1).mv mv).go gv3).go g4
  have hbq4:Blk v3.drew qb _ ad_:=g4.heap hbq (fun q=>q)
  have rdd:Rd v3.drew 1 d (bv []):=((dt.1.grow gv3).grow g4).rd o_
  generalize v3.drew=v4' at *
  refine⟨fun o=>Blk o qb (rsv 2 (uaS 10496) d).toArray ad_,hbq4,_,fun o q=>kK_ (ar_ q),mj_ (key:=6) (code:=10496) fun v5 gv5=>⟨gv5.heap hbq4 (fun q=>q),jH_ (rdd.grow gv5) (iC_ _) fun v6 gv6=>aj_ rfl ?_⟩⟩
  rw[w64 o_ o_]
  have g56:=gv5.trans gv6
  exact⟨⟨j+1,ℓ2,s',r,st',o_,o_,(Tq.go g56).mono o_,Rq.go g56,hT'⟩,by dsimp only;omega⟩
 obtain rfl:j=8:=o_
 obtain⟨u1,u2,u3,u4,u5,uq⟩:=hT.old d_
 clear hT
 refine Tw.tables (i:=0) (x:=(c0,s)) T rfl fun xs10 v1 gv1 o1=>?_
 have T1:=T.go gv1
 have R1:=Rr.go gv1
 have M1:LR v1 ℓ' v.heap.size ax_ 2 xs10 (rgv (ho_ (kF ks) la t).regs):=⟨by rw[←u3];exact o1,fun b hb=>T.fresh (o1.ge b hb).1⟩
 have n5:xs5.n=4:=by
  have:=R1.own.len
  rw[bG_] at this
  have:4*2=xs5.n*2:=this
  omega
 have n10:xs10.n=(ho_ (kF ks) la t).regs.length:=by
  have:=M1.own.len
  rw[bG_] at this
  omega
 dsimp only
 rw[u3,htab]
 refine cu_ (fun o=>o=v1) ?_ (fun J=>?_)
 rotate_left
 ·cases la with
  | false=>
   refine am_ rfl (aj_ ?_ (J _ rfl))
   have e0:xs10.n=0:=n10
   rw[e0]
   rfl
  | true=>
   obtain⟨b1',_⟩:=v3_ (ks:=kF ks) (la:=true) ht
   refine aj_ rfl (aj_ ?_ (J _ rfl))
   have e0:xs10.n=4:=n10
   show((((((aB_ (l8_ (bb_ (kF ks) true t))).1:Int) != ((aB_ (bb_ (kF ks) true t)).1:Int))||((aB_ (l8_ (bb_ (kF ks) true t))).2 != (aB_ (bb_ (kF ks) true t)).2))||((xs10.n:Int) != (xs5.n:Int)))||((xs10.n:Int) != 4))=false
   rw[b1',e0,n5]
   simp
 rintro o rfl
 refine⟨fun x v=>∃i:Nat,x=i∧i≤xs10.n∧ab_ o v,fun x _=>xs10.n-x.toNat,⟨0,rfl,Nat.zero_le _,aa_.refl _ _⟩,?_⟩
 rintro x v2 ⟨i,rfl,hi,gv2⟩
 have hr5:=(R1.go gv2).own.rd o_
 have l10:(ho_ (kF ks) la t).regs.length≤4:=by
  unfold ho_
  cases la
  ·exact Nat.zero_le _
  ·exact Nat.le_refl 4
 have hr10:=(M1.go gv2).own.rd o_
 refine bl_ (y:=xs10.n) (fun hlt=>?_) (fun hge=>?_)
 ·rintro v3 rfl
  have g3:=ak_ v2
  have hr5:=hr5.grow g3
  have hr10:=hr10.grow g3
  have gv3:=gv2.trans g3
  generalize v2.drew=v3 at *
  have hla:la=true:=by
   cases la with
   | true=>rfl
   | false=>
    have:xs10.n=0:=n10
    omega
  have hregs:(ho_ (kF ks) la t).regs=(bb_ (kF ks) la t).regs:=by rw[hla];rfl
  rw[hregs] at hr10
  have h4:(bb_ (kF ks) la t).regs.length=4:=rfl
  have hi4:i<(bb_ (kF ks) la t).regs.length:=by rw[hregs] at n10;omega
  obtain⟨a5,ha5,hc5⟩:=nn_ hr5 hi4
  obtain⟨a10,ha10,hc10⟩:=nn_ hr10 hi4
  obtain⟨rb,hrb,hrun⟩:=pK_ (x:=.tmp 181) (y:=.tmp 185) qL_ s3_ s2_ (rV_ (bb_ (kF ks) la t).regs[i]) (rV_ (bb_ (kF ks) la t).regs[i])
  have hrf:rb=false:=by
   cases rb with
   | false=>rfl
   | true=>exact absurd rfl (hrb.1 rfl)
  subst hrf
  refine⟨fun z=>z=v3,rfl,⟨o_,o_,by rw[ha10];rfl⟩,(rgc (bb_ (kF ks) la t).regs[i]).toArray,(by rintro z rfl;rw[ha10,Int.toNat_natCast];exact aE_ gG_ cZ_ rfl hc10),⟨o_,o_,by rw[ha5];rfl⟩,(rgc (bb_ (kF ks) la t).regs[i]).toArray,(by rintro z rfl;rw[ha5,Int.toNat_natCast];exact aE_ gG_ cZ_ rfl hc5),false,(fun z _=>hrun z),aj_ rfl ?_⟩
  rw[w64 o_ o_]
  exact⟨⟨i+1,o_,o_,gv3⟩,by dsimp only;omega⟩
 have T2:=T1.go gv2
 refine T2.lit (l:=msC) k_ (by rfl) d_ fun xs11 v3 gv3 T3 X3=>?_
 have hq8:s.q 2 = []:=by rw[uq 2 d_,if_pos d_]
 have e8:=x7_ (b0:=c0) (r:=r) (st:=st) (b:=bit) u1 u2 hq8 (by rw[u3];exact ut_ ht 1) u4 u5
 have hneed:l6_ aQ_ ((c0,s)::r) st 0 2 msC:=ob_ (b:=c0) (s:=s) rfl (fun q=>absurd u1 q) (by rw[qI_.2.1];exact oN_ d_ d_ d_ vG_)
 refine Tw.dosN (x:=(c0,s)) hneed T3 d_ rfl d_ X3 (Tw.rowNil T3) d_ fun v4' ℓ4' d4 mv4 T4' dt4 _=>?_
 rw[e8] at T4' dt4 ⊢
 refine iD_ fun sb v5' hsb gv5' hbs=>?_
 obtain⟨_,dl,d6⟩:=rT_ bit
 have dn:d4.n=24:=by rw[fe_ dt4.1];exact dl
 have rd6:=h0_ ((dt4.1.grow gv5').rd o_) (i:=6) (by rw[az_];show 6<(msD bit).length;omega)
 have cell6:v5'.cell? ((gA d4.A).add ((6:Int).toNat*1))=some (.int .u8 (((if bit then(4:UInt8) else 0).toNat:Nat):Int)):=by
  have e:(bv (msD bit))[6]?=some (.int .u8 (((if bit then(4:UInt8) else 0).toNat:Nat):Int)):=by
   unfold bv
   rw[List.getElem?_map,d6]
   rfl
  rw[List.getElem?_eq_getElem (by rw[az_];omega)] at e
  exact rd6.2.trans e
 refine⟨0,by rw[aq_,Blk.cell hbs];rfl,d4,(fun _=>by rw[aq_,Blk.cell hbs];rfl),d4,(fun _=>by rw[aq_,Blk.cell hbs];rfl),(fun _=>⟨d_,by rw[dn];decide,rd6.1⟩),_,(fun _=>cell6),(fun _=>d_),?_⟩
 rw[dn]
 have:(((0:Int)==0)&&(((24:Nat):Int)==24)&&((((if bit then(4:UInt8) else 0).toNat:Nat):Int)==(((if bit then(4:UInt8) else 0).toNat:Nat):Int)))=true:=by simp
 rw[this]
 exact h v5' (T4'.grow.trans gv5')
theorem oY_ {ks:Nat→Nat} {kind page bits keep cut:Int} {la:Bool} {R:Bool→W_} (hks:∀i,ks i<18446744073709551616) (h1:(Lit.int .u8 kind).wf=true) (h2:(Lit.int .u8 page).wf=true) (h3:(Lit.int .u8 bits).wf=true) (h4:(Lit.int .u8 keep).wf=true) (h5:(Lit.int .u8 cut).wf=true) (h:∀w',ab_ w w'→R true w'):dL_ (kv ks).toArray kind la page bits keep cut w R:=by
 obtain⟨a,rfl,ha⟩:=ka_ h1
 obtain⟨b,rfl,hb⟩:=ka_ h2
 obtain⟨c,rfl,hc⟩:=ka_ h3
 obtain⟨d,rfl,hd⟩:=ka_ h4
 obtain⟨e,rfl,he⟩:=ka_ h5
 exact od_ hks ha hc hd he h
end
section
variable {H:Type} {enc:TypeId×Value→H} {w:World} {base:Nat} {spare:Nat→Bool} {held:Bool}
theorem s4_ {P:Program} {r:Reach} {t:TypeId} {v:Value} {n:Nat} {e:TypeId} (ht:P.underlying t=some (.array n e)) (h:Value.okWide P w r base t v):∃cs,v=.agg cs∧cs.size=P.cellsOf t:=by
 simp only[Value.okWide,ht] at h
 obtain⟨cs,h1,h2,_⟩:=h
 exact⟨cs,h1,h2⟩
theorem kZ_ {x:Int} (h:(Lit.int .u64 x).wf=true):∃n:Nat,x=(n:Int)∧n<18446744073709551616:=by
 simp[Lit.wf,IntKind.min,IntKind.max,IntKind.signed,IntKind.bits] at h
 exact⟨x.toNat,o_,o_⟩
theorem oZ_ {cs:List Value} (h:a1_ [.i .u64,.i .u64,.i .u64,.i .u64] cs) (hk:∀v∈cs,okV v):∃ks:Nat→Nat,cs=kv ks∧∀i,ks i<18446744073709551616:=by
 match cs,h with
 | [v0,v1,v2,v3],h=>
  obtain⟨h0,h1,h2,h3,_⟩:=h
  obtain⟨x0,rfl⟩:=l7_ h0
  obtain⟨x1,rfl⟩:=l7_ h1
  obtain⟨x2,rfl⟩:=l7_ h2
  obtain⟨x3,rfl⟩:=l7_ h3
  obtain⟨y0,rfl,z0⟩:=kZ_ (hk _ (by simp):okV (.int .u64 x0))
  obtain⟨y1,rfl,z1⟩:=kZ_ (hk (.int .u64 x1) (by simp):okV (.int .u64 x1))
  obtain⟨y2,rfl,z2⟩:=kZ_ (hk (.int .u64 x2) (by simp):okV (.int .u64 x2))
  obtain⟨y3,rfl,z3⟩:=kZ_ (hk (.int .u64 x3) (by simp):okV (.int .u64 x3))
  refine⟨fun i=>match i with|0=>y0|1=>y1|2=>y2|_=>y3,rfl,fun i=>?_⟩
  match i with
  | 0=>exact z0
  | 1=>exact z1
  | 2=>exact z2
  | i+3=>exact z3
theorem s5_:hG_ enc Tryz.prog w base spare held gR_ fun cs=>∃ks:Nat→Nat,cs=kv ks∧∀i,ks i<18446744073709551616:=
 (kE_ 8 gR_ _ k_ k_).mono fun _ ⟨h,hk⟩=>oZ_ h hk
end
end Go.Proofs.YtpmebahhjgkflaaGreatDoor
