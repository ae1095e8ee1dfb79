import Derived.Test.YtpmebahhjgkflaaGreatDoorB8
set_option maxHeartbeats 20000000
namespace Go.Proofs.YtpmebahhjgkflaaGreatDoor
open Go CF
set_option maxRecDepth 100000
theorem qR_:∀(l:List (Nat×Nat)) (m k:Nat),l.Pairwise (fun a b=>a.1<b.1)→(∀r∈l,m≤r.1∧r.1<k)→l.length≤k-m
 | [],_,_,_,_=>Nat.zero_le _
 | a::r,m,k,hp,hb=>by
  have ha:=hb a (.head _)
  have:=qR_ r (a.1+1) k (List.pairwise_cons.1 hp).2 fun x hx=>⟨(List.pairwise_cons.1 hp).1 x hx,(hb x (.tail _ hx)).2⟩
  rw[List.length_cons];omega
structure hJ_ (l:List (Nat×Nat)):Prop where
 sorted:l.Pairwise fun a b=>a.1<b.1
 regs:∀r∈l,r.1<8∧0<r.2∧r.2<18446744073709551616
theorem hJ_.few {l:List (Nat×Nat)} (h:hJ_ l):l.length≤8:=qR_ l 0 8 h.sorted fun r hr=>⟨Nat.zero_le _,(h.regs r hr).1⟩
theorem d3_.rok {t:a1_} (h:d3_ t):hJ_ t.regs:=⟨h.sorted,h.regs⟩
theorem hJ_.filter {l:List (Nat×Nat)} (h:hJ_ l) (f:Nat×Nat→Bool):hJ_ (l.filter f):=⟨h.sorted.filter f,fun r hr=>h.regs r (List.mem_filter.1 hr).1⟩
theorem d3_.with {t:a1_} (h:d3_ t) {l:List (Nat×Nat)} (hl:hJ_ l) {g k:Nat} {ho:Int} {b:Bool} (hg:g<4294967296) (hk:k<256) (hh : -1≤ho∧ho<8):d3_ ⟨l,g,k,ho,b⟩:=⟨hl.few,hl.sorted,hl.regs,hg,hk,hh⟩
theorem tM_ {t:a1_} (h:d3_ t) {n key:Nat} (hn:n<8) (hk:key<18446744073709551616):hJ_ (mx_ t n key).regs:=by
 have hr:=h.rok
 unfold mx_
 dsimp only
 refine⟨?_,fun r hm=>?_⟩
 ·rw[List.pairwise_append,List.pairwise_append]
  refine⟨⟨h.sorted.filter _,?_,fun a ha b hb=>?_⟩,h.sorted.filter _,fun a ha b hb=>?_⟩
  ·split
   ·exact List.pairwise_singleton _ _
   ·exact List.Pairwise.nil
  ·have h1:=(List.mem_filter.1 ha).2
   rw[decide_eq_true_eq] at h1
   split at hb
   ·rw[List.mem_singleton] at hb;rw[hb];exact h1
   ·cases hb
  ·have h2:=(List.mem_filter.1 hb).2
   rw[decide_eq_true_eq] at h2
   rcases List.mem_append.1 ha with ha|ha
   ·have h1:=(List.mem_filter.1 ha).2
    rw[decide_eq_true_eq] at h1
    omega
   ·split at ha
    ·rw[List.mem_singleton] at ha;rw[ha];exact h2
    ·cases ha
 ·rcases List.mem_append.1 hm with hm|hm
  ·rcases List.mem_append.1 hm with hm|hm
   ·exact h.regs r (List.mem_filter.1 hm).1
   ·split at hm
    ·rename_i hk0
     rw[List.mem_singleton] at hm
     rw[hm]
     exact⟨hn,Nat.pos_of_ne_zero hk0,hk⟩
    ·cases hm
  ·exact h.regs r (List.mem_filter.1 hm).1
section
variable {w u v:World} {N:Nat→Prop} {tb n:Nat} {t:a1_}
theorem vi_ (hb:Blk w tb (b8_ au_ t0) cf_∨∃cs,Blk w tb cs cf_):a9_ w N fun k=>k=tb:=fun b _ q=>by
 subst q
 rcases hb with hb|⟨cs,hb⟩
 ·exact .inr ⟨_,_,hb,by unfold mt_;decide⟩
 ·exact .inr ⟨_,_,hb,by unfold mt_;decide⟩
structure eC_ (w v:World) (N:Nat→Prop) (tb:Nat) (s:Sl) (t:a1_):Prop where
 keep:ac_ (fun k=>k=tb) w v
 blk:Blk v tb (b8_ s t) cf_
 row:RdN v N aF_ 2 s (rgv t.regs)
theorem IsT.at (h:IsT w N tb t):∃s,eC_ w w N tb s t∧d3_ t:=by
 obtain⟨⟨s,h1,h2⟩,h3⟩:=h
 exact⟨s,⟨ac_.refl _ _,h1,h2⟩,h3⟩
theorem eC_.isT {s:Sl} (h:eC_ w v N tb s t) (ok:d3_ t):IsT v N tb t:=⟨⟨s,h.blk,h.row⟩,ok⟩
theorem eC_.go {s:Sl} {z:World} (h:eC_ w v N tb s t) (g:ab_ v z):eC_ w z N tb s t:=⟨h.keep.grow g,g.heap h.blk (fun q=>q),h.row.grow g⟩
theorem eC_.put {s s':Sl} {t':a1_} {z:World} (h:eC_ w v N tb s t) (k:ac_ (fun k=>k=tb) v z) (hb:Blk z tb (b8_ s' t') cf_) (hr:s'=s∧t'.regs=t.regs∨RdN z N aF_ 2 s' (rgv t'.regs)):eC_ w z N tb s' t':=by
 refine⟨h.keep.trans k fun _ _ q=>q,hb,?_⟩
 rcases hr with⟨rfl,e⟩|hr
 ·rw[e]
  exact h.row.step (.inr (.inl rfl)) k (vi_ (.inr ⟨_,h.blk⟩)) fun _ q=>.inl q
 ·exact hr
theorem eC_.cell {s:Sl} (h:eC_ w v N tb s t) {o:Nat} {x:Value} (e:(b8_ s t)[o]?=some x):v.cell? ((gA (some (⟨tb,0,none⟩:Addr))).add o)=some x:=cZ_ h.blk e
theorem eC_.put1 {s s':Sl} {t':a1_} {o:Nat} {x:Value} {K:W_} (h:eC_ w v N tb s t) (ho:o<5) (hx:x.oneCell'=true) (he:(b8_ s t).setIfInBounds o x=b8_ s' t') (hr:s'=s∧t'.regs=t.regs∨RdN v N aF_ 2 s' (rgv t'.regs)) (hK:∀z,eC_ w z N tb s' t'→ac_ (fun k=>k=tb) v z→K z) :
  Put ((gA (some (⟨tb,0,none⟩:Addr))).add o) x v K:=by
 rw[gA,ao_,Nat.zero_add]
 refine aU_ h.blk (by simp[b8_];omega) hx fun z hz k _=>hK z (h.put k (by rw[←he];exact hz) ?_) k
 rcases hr with hr|hr
 ·exact .inl hr
 ·refine .inr ?_
  exact hr.step (.inr (.inl rfl)) k (vi_ (.inr ⟨_,h.blk⟩)) fun _ q=>.inl q
theorem rdr {s:Sl} (h:RdN w N aF_ 2 s (rgv t.regs)) {B:Nat} (hB:w.heap.size≤B):∀v,Qr B w v→Rd v 2 s (rgv t.regs):=fun v q=>h.rd.keep q.keep fun a _ ha e=>o_
theorem free_spec {but:Nat} {R:Sl→W_} (h:IsT w N tb t) (hR:∀out v,ac_ (fun k=>k=tb) w v→IsT v N tb (l8_ t but).1→Own v w.heap.size a2_ 2 out (evv (l8_ t but).2)→R out v):ha_ (some ⟨tb,0,none⟩) (but:Int) w R:=by
 refine hk_.calls _ _ _ _ ?_
 obtain⟨s,A,ok⟩:=h.at
 have hk:=ok.kind
 have hf:=ok.few
 refine⟨rfl,(t.kind:Int),A.cell rfl,?_⟩
 refine aX_ (fun(out:Sl) v=>eC_ w v N tb s t∧Own v w.heap.size a2_ 2 out (evv (l8_ t but).2)) ?_ (fun J=>?_)
 ·rintro out v ⟨Av,ho⟩
  refine⟨rfl,Av.put1 (t':={t with kind:=0}) (s':=s) (o:=2) d_ rfl rfl (.inl ⟨rfl,rfl⟩) fun v2 A2 k2=>⟨rfl,A2.put1 (t':={t with kind:=0,holder:=-1}) (s':=s) (o:=3) d_ rfl rfl (.inl ⟨rfl,rfl⟩) fun v3 A3 k3=>?_⟩⟩
  refine hR out v3 A3.keep (A3.isT (ok.with ok.rok ok.gen d_ d_)) ?_
  exact(ho.keep k2 fun b hb e=>bd_ ho Av.blk d_ (by rw[hb,e])).keep k3 fun b hb e=>bd_ (ho.keep k2 fun b hb e=>bd_ ho Av.blk d_ (by rw[hb,e])) A2.blk d_ (by rw[hb,e])
 ·unfold l8_ at J
  dsimp only at J
  by_cases q:5≤t.kind
  ·rw[if_pos q] at J
   refine al_ (by rw[decide_eq_true_eq];omega) ⟨rfl,s,A.cell rfl,?_⟩
   refine rv_ (B:=w.heap.size) (evs:=[]) (code:=10756) (rdr A.row (Nat.le_refl _)) (aG_ _ _ _ _) (Nat.le_refl _) (by rw[List.length_nil];omega) fun out v q2 ho=>J out v ⟨A.go (q2.from (ac_.refl _ _) (Nat.le_refl _)),?_⟩
   simpa using ho
  ·rw[if_neg q] at J
   exact ai_ (by rw[decide_eq_false_iff_not];omega) (J au_ w ⟨A,aG_ _ _ _ _⟩)
theorem vj_ {B:Nat} {xs out:Sl} {l evs:List (Nat×Nat)} {ty:TypeId} {f:Nat×Nat→Bool} {test:Int→Bool} {E:Sl→W_} (hx:∀v,ac_ (fun k=>B≤k) w v→Rd v 2 xs (rgv l)) (ht:∀r∈l,test (r.1:Int)=f r) (ho:Own w B aF_ 2 out (rgv evs)) (hB:B≤w.heap.size) (hl:evs.length+l.length≤1000)
  (hE:∀out' v,ac_ (fun k=>B≤k) w v→Own v B aF_ 2 out' (rgv (evs++l.filter f))→E out' v) :
  ∃(I:Sl→Int→W_) (μ:Sl→Int→World→Nat),I out 0 w∧∀(out1:Sl) (x:Int) (w03:World),I out1 x w03→Br (decide (x<(xs.n:Int))) (aK_ (fun(out2:Sl) (w04:World)=>I out2 (IntKind.wrap .i64 (x+1)) w04∧μ out2 (IntKind.wrap .i64 (x+1)) w04<μ out1 x w03) fun J_1=>(0≤x∧x<(xs.n:Int)∧xs.A.isSome=true)∧∃g:A_,(loadVar aF_ ((gA xs.A).add (x.toNat*2))).run Tryz.prog w03=.ok (.agg g) w03∧New (.cells #[.int .i64 0,.int .u64 0] aF_) w03 fun r w05=>af_ Tryz.prog (storeVar aF_ r (.agg g)) w05 fun w06=>
   ∃n1:Int,w06.cell? (r.add 0)=some (.int .i64 n1)∧Br (test n1) (∃g1:A_,(loadVar aF_ r).run Tryz.prog w06=.ok (.agg g1) w06∧an_ Tryz.prog .sl (Instr.buildSlice dV_ 1 #[(0,.agg g1)]) w06 fun xs1 w08=>an_ Tryz.prog .sl (Builtin.append_ #[dV_,dV_] ty #[.slice out1.A out1.n out1.c,.slice xs1.A xs1.n xs1.c]) w08 fun xs2 w09=>J_1 xs2 w09) (J_1 out1 w06)) (E out1 w03):=by
 have hln:l.length=xs.n:=by have:=(hx w (ac_.refl _ _)).len;rw[bK_] at this;omega
 refine⟨fun o x v=>∃j:Nat,x=j∧j≤l.length∧ac_ (fun k=>B≤k) w v∧Own v B aF_ 2 o (rgv (evs++(l.take j).filter f)),fun _ x _=>xs.n-x.toNat,⟨0,rfl,Nat.zero_le _,ac_.refl _ _,by simpa using ho⟩,?_⟩
 rintro o x v ⟨j,rfl,hj,q,hov⟩
 have tl:∀k,((l.take k).filter f).length≤l.length:=fun k=>Nat.le_trans (List.length_filter_le _ _) (by rw[List.length_take];omega)
 refine ba_ (fun hlt=>?_) (fun hge=>?_)
 ·have hjl:j<l.length:=o_
  refine aX_ (fun o2 v'=>ac_ (fun k=>B≤k) w v'∧Own v' B aF_ 2 o2 (rgv (evs++(l.take (j+1)).filter f))) (fun o2 v' hv=>?_) (fun J=>?_)
  ·rw[w64 o_ o_]
   exact⟨⟨j+1,o_,o_,hv.1,hv.2⟩,by dsimp only;omega⟩
  ·refine fW_ (hx v q) hjl fun rb v1 g1 b1 _=>?_
   have q1:ac_ (fun k=>B≤k) w v1:=q.trans (g1.mono fun _ _ q=>q.elim) fun _ _ q=>q
   have o1:=hov.grow g1
   have hs:l.take (j+1)=l.take j++[l[j]]:=by rw[List.take_succ_eq_append_getElem hjl]
   refine⟨(l[j].1:Int),by rw[ao_,b1.cell];rfl,?_⟩
   rw[ht l[j] (List.getElem_mem hjl)]
   cases hf:f l[j] with
   | true=>
    refine al_ rfl ⟨(rgc l[j]).toArray,aD_ lH_ fz_ rfl (ar_ b1),?_⟩
    refine o7_ (a:=l[j].1) (c:=l[j].2) o1 (by have:=q1.size;omega) (by rw[List.length_append];have:=tl j;omega) fun o3 v3 q3 h3 _=>J o3 v3 ⟨q1.trans q3 fun _ _ q=>q,?_⟩
    have:(l.take (j+1)).filter f=(l.take j).filter f++[(l[j].1,l[j].2)]:=by
     rw[hs,List.filter_append]
     congr 1
     rw[List.filter_cons,if_pos hf];rfl
    rw[this,←List.append_assoc];exact h3
   | false=>
    refine ai_ rfl (J o v1 ⟨q1,?_⟩)
    have:(l.take (j+1)).filter f=(l.take j).filter f:=by
     rw[hs,List.filter_append]
     have:[l[j]].filter f = []:=by rw[List.filter_cons,if_neg (by rw[hf];exact Bool.noConfusion)];rfl
     rw[this];simp
    rw[this];exact o1
 ·have:j=l.length:=o_
  subst this
  rw[List.take_length] at hov
  exact hE o v q hov
theorem tN_ {key:Nat} {R:W_} (h:IsT w N tb t) (hN:∀b,N b→b<w.heap.size) (hn:n<8) (hk:key<18446744073709551616) (hR:∀v,ac_ (fun k=>k=tb) w v→IsT v N tb (mx_ t n key)→R v):hS_ (some ⟨tb,0,none⟩) (n:Int) (key:Int) w R:=by
 refine h6_.calls _ _ _ _ _ ?_
 obtain⟨s,A,ok⟩:=h.at
 have hf:=ok.few
 have rk:∀v,ac_ (fun k=>w.heap.size≤k) w v→Rd v 2 s (rgv t.regs):=fun v k=>A.row.rd.keep k fun a _ ha e=>o_
 have toG:∀{v},ac_ (fun k=>w.heap.size≤k) w v→ab_ w v:=fun k=>ab_.keep (ac_.refl _ _) k fun i hi q=>o_
 have fl:∀f:Nat×Nat→Bool,(t.regs.filter f).length≤8:=fun f=>Nat.le_trans (List.length_filter_le _ _) hf
 refine⟨rfl,s,A.cell rfl,?_⟩
 refine vj_ (B:=w.heap.size) (evs:=[]) (f:=fun r=>decide (r.1<n)) (test:=fun x=>decide (x<(n:Int))) rk (fun r _=>by rw[decide_eq_decide];omega) (aG_ _ _ _ _) (Nat.le_refl _) (by rw[List.length_nil];omega) fun l1 v1 k1 o1=>?_
 rw[List.nil_append] at o1
 refine aX_ (fun(l2:Sl) v=>ac_ (fun k=>w.heap.size≤k) w v∧Own v w.heap.size aF_ 2 l2 (rgv (t.regs.filter (fun r=>decide (r.1<n))++if key≠0 then [(n,key)] else []))) ?_ (fun J=>?_)
 ·rintro l2 v2 ⟨k2,o2⟩
  have A2:=A.go (toG k2)
  refine⟨rfl,s,A2.cell rfl,?_⟩
  refine vj_ (w:=v2) (B:=w.heap.size) (f:=fun r=>decide (n<r.1)) (test:=fun x=>decide (x>(n:Int))) (fun v k=>rk v (k2.trans k fun _ _ q=>q)) (fun r _=>by rw[decide_eq_decide];omega) o2 k2.size (by
   rw[List.length_append]
   have:=fl (fun r=>decide (r.1<n))
   have:(if key≠0 then [(n,key)] else []).length≤1:=by split<;>simp
   omega) fun l3 v3 k3 o3=>?_
  have k3w:=k2.trans k3 fun _ _ q=>q
  have A3:=A.go (toG k3w)
  have rn:RdN v3 N aF_ 2 l3 (rgv (mx_ t n key).regs):=o3.rdN (by
   have h1:=o3.len
   rw[bK_] at h1
   have:=(tM_ ok hn hk).few
   have e:(mx_ t n key).regs.length=(t.regs.filter (fun r=>decide (r.1<n))++(if key≠0 then [(n,key)] else [])++t.regs.filter (fun r=>decide (n<r.1))).length:=rfl
   omega) hN
  exact⟨rfl,A3.put1 (t':=mx_ t n key) (s':=l3) (o:=0) d_ rfl rfl (.inr rn) fun v4 A4 _=>hR v4 A4.keep (A4.isT (ok.with (tM_ ok hn hk) ok.gen ok.kind ok.holder))⟩
 ·by_cases q:key=0
  ·refine ai_ (by rw[bne_eq_false_iff_eq];omega) (J l1 v1 ⟨k1,?_⟩)
   rw[if_neg (fun e=>e q),List.append_nil];exact o1
  ·refine al_ (by rw[bne_iff_ne];omega) ?_
   refine o7_ (a:=n) (c:=key) o1 k1.size (by have:=fl (fun r=>decide (r.1<n));omega) fun l2 v2 k2 o2 _=>J l2 v2 ⟨k1.trans k2 fun _ _ q=>q,?_⟩
   rw[if_pos q];exact o2
end
open Go CF
structure qS_ (o:im_):Prop where
 key:o.key<18446744073709551616
 action:o.action<18446744073709551616
 type:o.type<256
section
variable {w u v:World} {N:Nat→Prop} {tb n:Nat} {t:a1_} {o:im_}
theorem cQ_ {b i:Nat} {x:Value} (h:Blk w b (otv o).toArray bB_) (e:(otv o)[i]?=some x):w.cell? ((⟨b,0,none⟩:Addr).add i)=some x:=by
 rw[ao_,h.cell,Nat.zero_add,List.getElem?_toArray];exact e
theorem o8_ {b:Nat} (h:Blk w b (otv o).toArray bB_):(loadVar bB_ ⟨b,0,none⟩).run Tryz.prog w=.ok (.agg (otv o).toArray) w:=aD_ yi_ tg_ rfl (ar_ h)
theorem n2_ {known:Bool} {R:Sl→W_} (h:IsT w N tb t) (hN:∀b,N b→b<w.heap.size) (hn:n<8) (ho:qS_ o)
  (hR:∀out v,ac_ (fun k=>k=tb) w v→IsT v N tb (fC_ t n o known).1→Own v w.heap.size a2_ 2 out (evv (fC_ t n o known).2)→R out v):cx_ (some ⟨tb,0,none⟩) (n:Int) (otv o).toArray known w R:=by
 refine er_.calls _ _ _ _ _ _ (ag_ fun ob w1 hob hb1 hg1 hs1=>?_)
 have hb1:Blk w1 ob (otv o).toArray bB_:=hb1
 have h1:=h.grow hg1
 have hN1:∀b,N b→b<w1.heap.size:=fun b q=>by have:=hN b q;omega
 have ltb:tb<w.heap.size:=h.lt
 refine⟨(o.action:Int),cQ_ hb1 rfl,?_⟩
 unfold fC_ at hR
 refine aX_ (fun(out:Sl) v=>ac_ (fun k=>k=tb) w1 v∧IsT v N tb (bW_ t n o known).1∧Own v w1.heap.size a2_ 2 out (evv (bW_ t n o known).2)) ?_ (fun J=>?_)
 ·rintro out v ⟨k,hT,hO⟩
  have hbv:Blk v ob (otv o).toArray bB_:=k.heap hb1 o_
  obtain⟨s,A,ok⟩:=hT.at
  refine⟨o.aptpl,cQ_ hbv rfl,rfl,A.put1 (t':={(bW_ t n o known).1 with lasts:=o.aptpl}) (s':=s) (o:=4) d_ rfl rfl (.inl ⟨rfl,rfl⟩) fun v2 A2 k2=>⟨rfl,((bW_ t n o known).1.gen:Int),A2.cell rfl,rfl,?_⟩⟩
  have eg:IntKind.wrap .u32 (((bW_ t n o known).1.gen:Int)+1)=((((bW_ t n o known).1.gen+1)%4294967296:Nat):Int):=by
   have e:IntKind.wrap .u32 (((bW_ t n o known).1.gen:Int)+1)=(((bW_ t n o known).1.gen:Int)+1)%4294967296:=by simp[IntKind.wrap,IntKind.signed,IntKind.bits]
   rw[e];omega
  rw[eg]
  refine A2.put1 (t':={(bW_ t n o known).1 with lasts:=o.aptpl,gen:=((bW_ t n o known).1.gen+1)%4294967296}) (s':=s) (o:=1) d_ rfl rfl (.inl ⟨rfl,rfl⟩) fun v3 A3 k3=>?_
  have kw:ac_ (fun k=>k=tb) w v3:=(((hg1.mono fun _ _ q=>q.elim).trans k fun _ _ q=>q).trans k2 fun _ _ q=>q).trans k3 fun _ _ q=>q
  have o2:=hO.keep k2 fun b hb e=>bd_ hO A.blk d_ (by rw[hb,e])
  exact hR out v3 kw (A3.isT (ok.with ok.rok o_ ok.kind ok.holder)) ((o2.keep k3 fun b hb e=>bd_ o2 A2.blk d_ (by rw[hb,e])).mono hg1.size)
 ·unfold bW_ at J
  by_cases q0:o.action=0∧known=true
  ·rw[if_pos q0] at J
   obtain⟨s,A,ok⟩:=h1.at
   have hsn:t.regs.length=s.n:=by have:=A.row.rd.len;rw[bK_] at this;omega
   refine al_ (by rw[Bool.and_eq_true,beq_iff_eq];exact⟨o_,q0.2⟩) ⟨rfl,(t.kind:Int),A.cell rfl,ez_ ⟨fun _=>rfl,s,fun _=>A.cell rfl,rfl,(t.kind:Int),A.cell rfl,fun _=>rfl,t.holder,fun _=>A.cell rfl,?_⟩⟩
   refine tN_ (key:=0) h1 hN1 hn d_ fun v2 k2 T2=>?_
   obtain⟨s2,A2,ok2⟩:=T2.at
   have ek:(((t.kind:Int) != 0))=decide (t.kind≠0):=by rw[Bool.eq_iff_iff,bne_iff_ne,decide_eq_true_eq];omega
   have eh:(t.holder==(n:Int))=decide (t.holder=(n:Int)):=by rw[Bool.eq_iff_iff,beq_iff_eq,decide_eq_true_eq]
   have el:((s.n:Int)==1)=decide (t.regs.length=1):=by rw[Bool.eq_iff_iff,beq_iff_eq,decide_eq_true_eq];omega
   rw[ek,eh,el]
   refine⟨fun _=>rfl,(t.kind:Int),fun _=>A2.cell rfl,?_⟩
   refine cI_ (fun(b2:Bool) o'=>o'=v2∧((((decide (t.kind≠0))&&(decide (t.holder=(n:Int))))&&(!(allK t.kind&&decide (t.regs.length=1))))=true→b2=allK t.kind)) ?_ (fun J2=>⟨fun _=>ez_ (J2 _ _ ⟨rfl,fun _=>rfl⟩),fun q=>J2 _ _ ⟨rfl,fun e=>by rw[q] at e;cases e⟩⟩)
   rintro b2 o' ⟨rfl,hb2⟩
   have hcond:((allK t.kind&&decide (t.regs.length=1))||(((decide (t.kind≠0))&&(decide (t.holder=(n:Int)))) && !b2))=decide ((allK t.kind=true∧t.regs.length=1)∨((t.kind≠0∧t.holder=(n:Int))∧allK t.kind=false)):=by
    rw[Bool.eq_iff_iff,decide_eq_true_eq]
    simp only[Bool.or_eq_true,Bool.and_eq_true,decide_eq_true_eq,Bool.not_eq_true']
    by_cases ql:allK t.kind=true∧t.regs.length=1
    ·exact⟨fun _=>.inl ql,fun _=>.inl ql⟩
    ·by_cases qh:t.kind≠0∧t.holder=(n:Int)
     ·have:=hb2 (by
       simp only[Bool.and_eq_true,decide_eq_true_eq,Bool.not_eq_true',Bool.and_eq_false_iff,decide_eq_false_iff_not]
       refine⟨qh,?_⟩
       by_cases e:allK t.kind=true
       ·exact .inr fun e2=>ql ⟨e,e2⟩
       ·exact .inl (by simpa using e))
      rw[this]
     ·exact⟨fun q=>q.elim (fun q=>absurd q ql) fun q=>absurd q.1 qh,fun q=>q.elim (fun q=>absurd q ql) fun q=>absurd q.1 qh⟩
   rw[hcond]
   have kw:ac_ (fun k=>k=tb) w1 o':=k2
   by_cases qc:(allK t.kind=true∧t.regs.length=1)∨((t.kind≠0∧t.holder=(n:Int))∧allK t.kind=false)
   ·rw[if_pos qc] at J
    refine al_ (decide_eq_true qc) (free_spec T2 fun out v3 k3 T3 O3=>J out v3 ⟨k2.trans k3 fun _ _ q=>q,T3,O3.mono k2.size⟩)
   ·rw[if_neg qc] at J
    exact ai_ (decide_eq_false qc) (J au_ o' ⟨k2,T2,aG_ _ _ _ _⟩)
  ·rw[if_neg q0] at J
   refine ai_ ?_ ⟨(o.action:Int),cQ_ hb1 rfl,?_⟩
   ·rw[Bool.and_eq_false_iff,beq_eq_false_iff_ne]
    by_cases e:o.action=0
    ·right
     cases hk:known with
     | false=>rfl
     | true=>exact absurd ⟨e,hk⟩ q0
    ·left;omega
   ·by_cases qa:o.action=0
    ·rw[if_neg (fun e=>e qa)] at J
     exact ai_ (by rw[bne_eq_false_iff_eq];omega) (J au_ w1 ⟨ac_.refl _ _,h1,aG_ _ _ _ _⟩)
    ·rw[if_pos qa] at J
     exact al_ (by rw[bne_iff_ne];omega) ⟨(o.action:Int),cQ_ hb1 rfl,tN_ h1 hN1 hn ho.action fun v2 k2 T2=>J au_ v2 ⟨k2,T2,aG_ _ _ _ _⟩⟩
theorem tO_ {R:Int→Int→Sl→W_} (h:IsT w N tb t) (hn:n<8) (ho:qS_ o)
  (hR:∀v,ac_ (fun k=>k=tb) w v→IsT v N tb (fV_ t n o).t→R ((fV_ t n o).st:Int) ((fV_ t n o).code:Int) au_ v):eX_ (some ⟨tb,0,none⟩) (n:Int) (otv o).toArray w R:=by
 refine fc_.calls _ _ _ _ _ (ag_ fun ob w1 hob hb1 hg1 hs1=>?_)
 have hb1:Blk w1 ob (otv o).toArray bB_:=hb1
 have h1:=h.grow hg1
 have ltb:tb<w.heap.size:=h.lt
 unfold fV_ at hR
 have kg:∀{v:World},ab_ w v→ac_ (fun k=>k=tb) w v:=fun g=>g.mono fun _ _ q=>q.elim
 refine⟨(o.type:Int),cQ_ hb1 rfl,lk_ ?_⟩
 cases hty:f4_ o.type with
 | false=>rw[hty,if_pos rfl] at hR;exact al_ rfl (hR w1 (kg hg1) h1)
 | true=>
  rw[hty,if_neg Bool.noConfusion] at hR
  obtain⟨s,A,ok⟩:=h1.at
  refine ai_ rfl ⟨rfl,(t.kind:Int),A.cell rfl,?_⟩
  by_cases q:t.kind=0
  ·rw[if_pos q] at hR
   refine al_ (by rw[beq_iff_eq];omega) ⟨(o.type:Int),cQ_ hb1 rfl,rfl,A.put1 (t':={t with kind:=o.type}) (s':=s) (o:=2) d_ rfl rfl (.inl ⟨rfl,rfl⟩) fun v2 A2 k2=>⟨rfl,A2.put1 (t':={t with kind:=o.type,holder:=(n:Int)}) (s':=s) (o:=3) d_ rfl rfl (.inl ⟨rfl,rfl⟩) fun v3 A3 k3=>?_⟩⟩
   exact hR v3 (((kg hg1).trans k2 fun _ _ q=>q).trans k3 fun _ _ q=>q) (A3.isT (ok.with ok.rok ok.gen ho.type o_))
  ·rw[if_neg q] at hR
   refine ai_ (by rw[beq_eq_false_iff_ne];omega) ?_
   rintro w2 rfl
   have g2:=hg1.trans (am_ w1)
   have h2:=h1.grow (am_ w1)
   have b2:Blk w1.drew ob (otv o).toArray bB_:=(am_ w1).heap hb1 (fun q=>q)
   generalize w1.drew=w2 at *
   refine⟨fun z=>ab_ w2 z,ac_.refl _ _,i7_ h2 fun w3 g3=>⟨g3,fun _=>rfl,fun z=>ab_ w2 z,g3,fun _ q=>q,(t.kind:Int),fun _ z gz=>?_,fun z=>ab_ w2 z,g3,fun _ q=>q,(o.type:Int),fun _ z gz=>cQ_ (gz.heap b2 (fun q=>q)) rfl,?_⟩⟩
   ·obtain⟨s,A,_⟩:=(h2.grow gz).at
    exact A.cell rfl
   ·have e:(cl_ t n&&((t.kind:Int)==(o.type:Int)))=decide (cl_ t n=true∧t.kind=o.type):=by
     rw[Bool.eq_iff_iff,Bool.and_eq_true,beq_iff_eq,decide_eq_true_eq]
     exact and_congr_right fun _=>⟨fun e=>o_,fun e=>o_⟩
    rw[e]
    by_cases qh:cl_ t n=true∧t.kind=o.type
    ·rw[if_pos qh] at hR;exact al_ (decide_eq_true qh) (hR w3 (kg (g2.trans g3)) (h2.grow g3))
    ·rw[if_neg qh] at hR;exact ai_ (decide_eq_false qh) (hR w3 (kg (g2.trans g3)) (h2.grow g3))
theorem tP_ {R:Int→Int→Sl→W_} (h:IsT w N tb t)
  (hR:∀out v,ac_ (fun k=>k=tb) w v→IsT v N tb (g1_ t n o).t→Own v w.heap.size a2_ 2 out (evv (g1_ t n o).ev)→R ((g1_ t n o).st:Int) ((g1_ t n o).code:Int) out v):eY_ (some ⟨tb,0,none⟩) (n:Int) (otv o).toArray w R:=by
 refine fd_.calls _ _ _ _ _ (ag_ fun ob w1 hob hb1 hg1 hs1=>?_)
 have hb1:Blk w1 ob (otv o).toArray bB_:=hb1
 have h1:=h.grow hg1
 unfold g1_ at hR
 have kg:∀{v:World},ab_ w v→ac_ (fun k=>k=tb) w v:=fun g=>g.mono fun _ _ q=>q.elim
 refine i7_ h1 fun w2 g2=>?_
 have gw2:=hg1.trans g2
 cases hh:cl_ t n with
 | false=>rw[hh,if_pos rfl] at hR;exact al_ rfl (hR au_ w2 (kg gw2) (h1.grow g2) (aG_ _ _ _ _))
 | true=>
  rw[hh,if_neg Bool.noConfusion] at hR
  refine ai_ rfl ?_
  rintro w3 rfl
  have g3:=gw2.trans (am_ w2)
  have h3:=(h1.grow g2).grow (am_ w2)
  have b3:Blk w2.drew ob (otv o).toArray bB_:=(g2.trans (am_ w2)).heap hb1 (fun q=>q)
  generalize w2.drew=w3 at *
  refine⟨fun z=>ab_ w3 z,ac_.refl _ _,rfl,(t.kind:Int),fun z gz=>?_,(o.type:Int),fun z gz=>cQ_ (gz.heap b3 (fun q=>q)) rfl,?_⟩
  ·obtain⟨s,A,_⟩:=(h3.grow gz).at
   exact A.cell rfl
  ·by_cases q:t.kind=o.type
   ·rw[if_neg (fun e=>e q)] at hR
    exact ai_ (by rw[bne_eq_false_iff_eq];omega) (free_spec h3 fun out v k T O=>hR out v ((kg g3).trans k fun _ _ q=>q) T (O.mono g3.size))
   ·rw[if_pos q] at hR
    exact al_ (by rw[bne_iff_ne];omega) (hR au_ w3 (kg g3) h3 (aG_ _ _ _ _))
theorem wf_ {R:Sl→W_} (h:IsT w N tb t)
  (hR:∀out v,ac_ (fun k=>k=tb) w v→IsT v N tb (oH_ t n).1→Own v w.heap.size a2_ 2 out (evv (oH_ t n).2)→R out v):gp_ (some ⟨tb,0,none⟩) (n:Int) w R:=by
 refine gy_.calls _ _ _ _ ?_
 obtain⟨s,A,ok⟩:=h.at
 have hf:=ok.few
 refine⟨rfl,s,A.cell rfl,?_⟩
 refine rv_ (B:=w.heap.size) (evs:=[]) (code:=10755) (rdr A.row (Nat.le_refl _)) (aG_ _ _ _ _) (Nat.le_refl _) (by rw[List.length_nil];omega) fun out v q2 ho=>?_
 rw[List.nil_append] at ho
 have Av:=A.go (q2.from (ac_.refl _ _) (Nat.le_refl _))
 have rn:RdN v N aF_ 2 au_ (rgv []):=RdN.nil _ _ _ _
 refine⟨rfl,Av.put1 (t':={t with regs:=[]}) (s':=au_) (o:=0) d_ rfl rfl (.inr rn) fun v1 A1 k1=>⟨rfl,A1.put1 (t':={t with regs:=[],kind:=0}) (s':=au_) (o:=2) d_ rfl rfl (.inl ⟨rfl,rfl⟩) fun v2 A2 k2=>⟨rfl,A2.put1 (t':={t with regs:=[],kind:=0,holder:=-1}) (s':=au_) (o:=3) d_ rfl rfl (.inl ⟨rfl,rfl⟩) fun v3 A3 k3=>⟨rfl,(t.gen:Int),A3.cell rfl,rfl,?_⟩⟩⟩⟩
 have eg:IntKind.wrap .u32 ((t.gen:Int)+1)=(((t.gen+1)%4294967296:Nat):Int):=by
  have e:IntKind.wrap .u32 ((t.gen:Int)+1)=((t.gen:Int)+1)%4294967296:=by simp[IntKind.wrap,IntKind.signed,IntKind.bits]
  rw[e];omega
 rw[eg]
 refine A3.put1 (t':=(oH_ t n).1) (s':=au_) (o:=1) d_ rfl rfl (.inl ⟨rfl,rfl⟩) fun v4 A4 k4=>?_
 have o1:=ho.keep k1 fun b hb e=>bd_ ho Av.blk d_ (by rw[hb,e])
 have o2:=o1.keep k2 fun b hb e=>bd_ o1 A1.blk d_ (by rw[hb,e])
 have o3:=o2.keep k3 fun b hb e=>bd_ o2 A2.blk d_ (by rw[hb,e])
 have o4:=o3.keep k4 fun b hb e=>bd_ o3 A3.blk d_ (by rw[hb,e])
 exact hR out v4 A4.keep (A4.isT ⟨by show 0≤8;decide,List.Pairwise.nil,fun r hr=>(by cases hr),by show(t.gen+1)%4294967296<4294967296;omega,by show 0<256;decide,by show -1≤(-1:Int)∧(-1:Int)<8;decide⟩) o4
end
open Go CF
section
variable {w u v:World} {N:Nat→Prop} {tb n:Nat} {t:a1_} {o:im_}
theorem tQ_ {l:List (Nat×Nat)} {f:Nat×Nat→Bool} {j:Nat} (hj:j<l.length):(l.take (j+1)).any f=((l.take j).any f||f l[j]):=by
 rw[List.take_succ_eq_append_getElem hj,List.any_append];simp
theorem tR_ {R:Int→Int→Sl→W_} (h:IsT w N tb t) (hN:∀b,N b→b<w.heap.size) (hn:n<8) (ho:qS_ o)
  (hR:∀out v,ac_ (fun k=>k=tb) w v→IsT v N tb (g2_ t n o).t→Own v w.heap.size a2_ 2 out (evv (g2_ t n o).ev)→R ((g2_ t n o).st:Int) ((g2_ t n o).code:Int) out v):eZ_ (some ⟨tb,0,none⟩) (n:Int) (otv o).toArray w R:=by
 refine fe_.calls _ _ _ _ _ (ag_ fun ob w0 hob hb0 hg0 hs0=>?_)
 have hb0:Blk w0 ob (otv o).toArray bB_:=hb0
 have ltb:tb<w.heap.size:=h.lt
 rintro w1 rfl
 have g1:=hg0.trans (am_ w0)
 have b1:Blk w0.drew ob (otv o).toArray bB_:=(am_ w0).heap hb0 (fun q=>q)
 generalize w0.drew=w1 at *
 have h1:=h.grow g1
 have hN1:∀b,N b→b<w1.heap.size:=fun b q=>by have:=hN b q;have:=g1.size;omega
 obtain⟨s,A,ok⟩:=h1.at
 have hf:=ok.few
 have hsn:t.regs.length=s.n:=by have:=A.row.rd.len;rw[bK_] at this;omega
 have kg:∀{v:World},ab_ w v→ac_ (fun k=>k=tb) w v:=fun g=>g.mono fun _ _ q=>q.elim
 have cT:∀{z:World} {i:Nat} {x:Value},ab_ w1 z→(b8_ s t)[i]?=some x→z.cell? ((gA (some (⟨tb,0,none⟩:Addr))).add i)=some x:=fun g e=>(A.go g).cell e
 have cO:∀{z:World} {i:Nat} {x:Value},ab_ w1 z→(otv o)[i]?=some x→z.cell? ((⟨ob,0,none⟩:Addr).add i)=some x:=fun g e=>cQ_ (g.heap b1 (fun q=>q)) e
 refine⟨fun z=>ab_ w1 z,ac_.refl _ _,rfl,(t.kind:Int),fun z g=>cT g rfl,ez_ ⟨ac_.refl _ _,fun z=>ab_ w1 z,ac_.refl _ _,fun _ q=>q,(o.action:Int),fun _ z g=>cO g rfl,rfl,s,cT (ac_.refl _ _) rfl,?_⟩⟩
 have eal:(allK t.kind&&((o.action:Int)==0))=(allK t.kind&&decide (o.action=0)):=by
  congr 1
  rw[Bool.eq_iff_iff,beq_iff_eq,decide_eq_true_eq];omega
 rw[eal]
 unfold g2_ at hR
 generalize hall:(allK t.kind&&decide (o.action=0))=all at *
 have ek:((t.kind:Int) != 0)=decide (t.kind≠0):=by rw[Bool.eq_iff_iff,bne_iff_ne,decide_eq_true_eq];omega
 let hp:Nat×Nat→Bool:=fun r=>(decide (t.kind≠0) && !allK t.kind)&&decide ((r.1:Int)=t.holder)&&decide (r.2=o.action)
 refine⟨fun held x v=>∃j:Nat,x=j∧j≤t.regs.length∧ab_ w1 v∧held=(t.regs.take j).any hp,fun _ x _=>s.n-x.toNat,⟨0,rfl,Nat.zero_le _,ac_.refl _ _,rfl⟩,?_⟩
 rintro held x v ⟨j,rfl,hj,gv,rfl⟩
 refine ba_ (fun hlt=>?_) (fun hge=>?_)
 ·have hjl:j<t.regs.length:=o_
  refine fW_ (A.row.rd.grow gv) hjl fun rb v1 g2 br _=>?_
  rintro v2 rfl
  have gv2:=(gv.trans g2).trans (am_ v1)
  have br2:Blk v1.drew rb (rgc t.regs[j]).toArray aF_:=(am_ v1).heap br (fun q=>q)
  generalize v1.drew=v2 at *
  refine⟨fun z=>ab_ v2 z,ac_.refl _ _,fun _=>rfl,(t.kind:Int),fun _ z g=>cT (gv2.trans g) rfl,fun _=>rfl,(t.kind:Int),fun _ z g=>cT (gv2.trans g) rfl,?_⟩
  rw[ek]
  generalize hde:(t.regs.take j).any hp=hd at *
  refine cI_ (fun(bb:Bool) z=>z=v2∧((decide (t.kind≠0) && !hd)=true→bb=allK t.kind)) ?_ (fun J=>⟨fun _=>ez_ (J _ _ ⟨rfl,fun _=>rfl⟩),fun q=>J _ _ ⟨rfl,fun e=>by rw[q] at e;cases e⟩⟩)
  rintro bb z ⟨rfl,hbb⟩
  refine⟨ac_.refl _ _,fun y=>ab_ z y,ac_.refl _ _,fun _ q=>q,(t.regs[j].1:Int),fun _ y g=>by rw[ao_,Blk.cell (g.heap br2 (fun q=>q))];rfl,fun _=>rfl,fun y=>ab_ z y,ac_.refl _ _,fun _ q=>q,t.holder,fun _ y g=>cT (gv2.trans g) rfl,fun y=>ab_ z y,ac_.refl _ _,fun _ q=>q,(t.regs[j].2:Int),fun _ y g=>by rw[ao_,Blk.cell (g.heap br2 (fun q=>q))];rfl,fun y=>ab_ z y,ac_.refl _ _,fun _ q=>q,(o.action:Int),fun _ y g=>cO (gv2.trans g) rfl,?_⟩
  have e1:((t.regs[j].1:Int)==t.holder)=decide ((t.regs[j].1:Int)=t.holder):=by rw[Bool.eq_iff_iff,beq_iff_eq,decide_eq_true_eq]
  have e2:((t.regs[j].2:Int)==(o.action:Int))=decide (t.regs[j].2=o.action):=by
   rw[Bool.eq_iff_iff,beq_iff_eq,decide_eq_true_eq]
   exact⟨fun e=>o_,fun e=>o_⟩
  rw[e1,e2]
  have e3:(hd||((((decide (t.kind≠0))&&(!bb))&&decide ((t.regs[j].1:Int)=t.holder))&&decide (t.regs[j].2=o.action)))=(t.regs.take (j+1)).any hp:=by
   rw[tQ_ hjl,hde]
   cases hd with
   | true=>rfl
   | false=>
    by_cases q:t.kind≠0
    ·rw[hbb (by rw[decide_eq_true q];rfl)]
    ·show _=(false||((decide (t.kind≠0) && !allK t.kind)&&decide ((t.regs[j].1:Int)=t.holder)&&decide (t.regs[j].2=o.action)))
     rw[decide_eq_false q];rfl
  rw[e3,w64 o_ o_]
  exact⟨⟨j+1,o_,o_,gv2,rfl⟩,by dsimp only;omega⟩
 have ej:j=t.regs.length:=o_
 subst ej
 rw[List.take_length]
 have hheld:t.regs.any hp=sK_ t o.action:=rfl
 rw[hheld]
 have gwv:=g1.trans gv
 have hv:=h1.grow gv
 have eo:((o.action:Int)==0)=decide (o.action=0):=by rw[Bool.eq_iff_iff,beq_iff_eq,decide_eq_true_eq];omega
 refine⟨(o.action:Int),cO gv rfl,?_⟩
 rw[eo]
 by_cases c1:o.action=0∧all=false
 ·rw[if_pos c1] at hR
  exact al_ (by rw[Bool.and_eq_true,decide_eq_true_eq,c1.2];exact⟨c1.1,rfl⟩) (hR au_ v (kg gwv) hv (aG_ _ _ _ _))
 rw[if_neg c1] at hR
 refine ai_ (by
  rw[Bool.and_eq_false_iff,decide_eq_false_iff_not,Bool.not_eq_false']
  by_cases q:o.action=0
  ·right
   cases ha:all with
   | true=>rfl
   | false=>exact absurd ⟨q,ha⟩ c1
  ·exact .inl q) ⟨(o.type:Int),fun _=>cO gv rfl,?_⟩
 generalize hha:(sK_ t o.action||all)=ha at *
 refine cI_ (fun(b2:Bool) z=>z=v∧(ha=true→b2=f4_ o.type)) ?_ (fun J=>⟨fun _=>lk_ (J _ _ ⟨rfl,fun _=>rfl⟩),fun q=>J _ _ ⟨rfl,fun e=>by rw[q] at e;cases e⟩⟩)
 rintro b2 z ⟨rfl,hb2⟩
 by_cases c2:ha=true∧f4_ o.type=false
 ·rw[if_pos c2] at hR
  exact al_ (by rw[hb2 c2.1,c2.1,c2.2];rfl) (hR au_ z (kg gwv) hv (aG_ _ _ _ _))
 rw[if_neg c2] at hR
 refine ai_ (by
  cases hq:ha with
  | false=>rfl
  | true=>
   rw[hb2 hq]
   cases ht:f4_ o.type with
   | true=>rfl
   | false=>exact absurd ⟨hq,ht⟩ c2) ⟨rfl,s,cT gv rfl,?_⟩
 have tl:∀(f:Nat×Nat→Bool) (k:Nat),(tells (t.regs.take k) f 10757).length≤8:=fun f k=>by
  unfold tells
  rw[List.length_map]
  exact Nat.le_trans (List.length_filter_le _ _) (by rw[List.length_take];omega)
 have fl:∀(f:Nat×Nat→Bool) (k:Nat),((t.regs.take k).filter f).length≤8:=fun f k=>Nat.le_trans (List.length_filter_le _ _) (by rw[List.length_take];omega)
 generalize hB:z.heap.size=B at *
 let lp:=sL_ t n o.action all
 let np:Nat×Nat→Bool:=fun r=> !lp r
 have toG:∀{y},ac_ (fun k=>B≤k) z y→ab_ z y:=fun k=>ab_.keep (ac_.refl _ _) k fun i hi q=>o_
 refine⟨fun out left x y=>∃j:Nat,x=j∧j≤t.regs.length∧ac_ (fun k=>B≤k) z y∧Own y B a2_ 2 out (evv (tells (t.regs.take j) np 10757))∧Own y B aF_ 2 left (rgv ((t.regs.take j).filter lp)),fun _ _ x _=>s.n-x.toNat,⟨0,rfl,Nat.zero_le _,ac_.refl _ _,aG_ _ _ _ _,aG_ _ _ _ _⟩,?_⟩
 rintro out left x y ⟨j,rfl,hj,ky,oe,og⟩
 have gzy:=toG ky
 have gy:=gv.trans gzy
 refine ba_ (fun hlt=>?_) (fun hge=>?_)
 ·have hjl:j<t.regs.length:=o_
  have hs:t.regs.take (j+1)=t.regs.take j++[t.regs[j]]:=by rw[List.take_succ_eq_append_getElem hjl]
  refine sy_ (fun o2 l2 y'=>ac_ (fun k=>B≤k) z y'∧Own y' B a2_ 2 o2 (evv (tells (t.regs.take (j+1)) np 10757))∧Own y' B aF_ 2 l2 (rgv ((t.regs.take (j+1)).filter lp))) (fun o2 l2 y' hy=>?_) (fun J=>?_)
  ·rw[w64 o_ o_]
   exact⟨⟨j+1,o_,o_,hy.1,hy.2.1,hy.2.2⟩,by dsimp only;omega⟩
  ·refine fW_ (A.row.rd.grow gy) hjl fun rb y1 g2 br _=>?_
   have ky1:ac_ (fun k=>B≤k) z y1:=ky.trans (g2.mono fun _ _ q=>q.elim) fun _ _ q=>q
   have oe1:=oe.grow g2
   have og1:=og.grow g2
   have gy1:=gy.trans g2
   have c1r:∀{i:Nat} {x:Value},(rgc t.regs[j])[i]?=some x→y1.cell? ((⟨rb,0,none⟩:Addr).add i)=some x:=fun e=>by rw[ao_,br.cell,Nat.zero_add,List.getElem?_toArray];exact e
   refine⟨(t.regs[j].1:Int),c1r rfl,?_⟩
   refine aX_ (fun(x2:Bool) y'=>y'=y1∧x2=lp t.regs[j]) ?_ (fun J2=>?_)
   ·rintro x2 y' ⟨rfl,rfl⟩
    cases hl:lp t.regs[j] with
    | true=>
     refine al_ rfl ⟨(rgc t.regs[j]).toArray,aD_ lH_ fz_ rfl (ar_ br),?_⟩
     refine o7_ (a:=t.regs[j].1) (c:=t.regs[j].2) og1 (by have:=ky1.size;omega) (by have:=fl lp j;omega) fun l3 y3 k3 h3 hk3=>J out l3 y3 ⟨ky1.trans k3 fun _ _ q=>q,?_,?_⟩
     ·have:tells (t.regs.take (j+1)) np 10757=tells (t.regs.take j) np 10757:=by
       unfold tells
       rw[hs,List.filter_append,List.map_append]
       have:[t.regs[j]].filter np = []:=by rw[List.filter_cons,if_neg (by show ¬(!lp t.regs[j])=true;rw[hl];decide)];rfl
       rw[this];simp
      rw[this]
      rcases oe1 with⟨hlen,hnil|⟨g,cap,cur,hv',hbg,hg,rest⟩⟩
      ·exact⟨hlen,.inl hnil⟩
      ·exact⟨hlen,.inr ⟨g,cap,cur,hv',hbg,hk3 g cur _ hg d_,rest⟩⟩
     ·have:(t.regs.take (j+1)).filter lp=(t.regs.take j).filter lp++[(t.regs[j].1,t.regs[j].2)]:=by
       rw[hs,List.filter_append]
       congr 1
       rw[List.filter_cons,if_pos hl];rfl
      rw[this];exact h3
    | false=>
     refine ai_ rfl ⟨(t.regs[j].1:Int),c1r rfl,?_⟩
     refine vh_ (a:=t.regs[j].1) (c:=10757) oe1 (by have:=ky1.size;omega) (by have:=tl np j;omega) fun o3 y3 q3 h3=>J o3 left y3 ⟨ky1.trans q3.keep fun _ _ q=>q,?_,?_⟩
     ·have:tells (t.regs.take (j+1)) np 10757=tells (t.regs.take j) np 10757++[(t.regs[j].1,10757)]:=by
       unfold tells
       rw[hs,List.filter_append,List.map_append]
       congr 1
       rw[List.filter_cons,if_pos (by show(!lp t.regs[j])=true;rw[hl];rfl)];rfl
      rw[this];exact h3
     ·have:(t.regs.take (j+1)).filter lp=(t.regs.take j).filter lp:=by
       rw[hs,List.filter_append]
       have:[t.regs[j]].filter lp = []:=by rw[List.filter_cons,if_neg (by rw[hl];decide)];rfl
       rw[this];simp
      rw[this]
      rcases og1 with⟨hlen,hnil|⟨g,cap,cur,hv',hbg,hg,rest⟩⟩
      ·exact⟨hlen,.inl hnil⟩
      ·exact⟨hlen,.inr ⟨g,cap,cur,hv',hbg,q3.regs g cur hg,rest⟩⟩
   ·have en:((t.regs[j].1:Int)==(n:Int))=decide (t.regs[j].1=n):=by
     rw[Bool.eq_iff_iff,beq_iff_eq,decide_eq_true_eq]
     exact⟨fun e=>o_,fun e=>o_⟩
    have ea:((t.regs[j].2:Int) != (o.action:Int))=decide (t.regs[j].2≠o.action):=by
     rw[Bool.eq_iff_iff,bne_iff_ne,decide_eq_true_eq]
     exact⟨fun e=>o_,fun e=>o_⟩
    rw[en]
    by_cases q:t.regs[j].1=n
    ·refine al_ (decide_eq_true q) (J2 _ _ ⟨rfl,?_⟩)
     show _=(decide (t.regs[j].1=n)||_)
     rw[decide_eq_true q];rfl
    ·refine ai_ (decide_eq_false q) ⟨(t.regs[j].2:Int),c1r rfl,(o.action:Int),cO gy1 rfl,J2 _ _ ⟨rfl,?_⟩⟩
     rw[ea]
     show _=(decide (t.regs[j].1=n)||(decide (t.regs[j].2≠o.action) && !all))
     rw[decide_eq_false q];rfl
 have ej:j=t.regs.length:=o_
 subst ej
 rw[List.take_length] at oe og
 refine⟨rfl,s,cT gy rfl,?_⟩
 let hk:Nat×Nat→Bool:=fun r=>decide (r.2=o.action)
 refine⟨fun hit x y'=>∃j:Nat,x=j∧j≤t.regs.length∧ab_ y y'∧hit=(t.regs.take j).any hk,fun _ x _=>s.n-x.toNat,⟨0,rfl,Nat.zero_le _,ac_.refl _ _,rfl⟩,?_⟩
 rintro hit x y' ⟨j,rfl,hj2,gy',rfl⟩
 have gw1y:=gy.trans gy'
 refine ba_ (fun hlt=>?_) (fun hge2=>?_)
 ·have hjl:j<t.regs.length:=o_
  refine fW_ (A.row.rd.grow gw1y) hjl fun rb y1 g2 br _=>?_
  refine⟨(t.regs[j].2:Int),fun _=>by rw[ao_,br.cell];rfl,(o.action:Int),fun _=>cO (gw1y.trans g2) rfl,?_⟩
  have e2:((t.regs[j].2:Int)==(o.action:Int))=decide (t.regs[j].2=o.action):=by
   rw[Bool.eq_iff_iff,beq_iff_eq,decide_eq_true_eq]
   exact⟨fun e=>o_,fun e=>o_⟩
  rw[e2,show((t.regs.take j).any hk||decide (t.regs[j].2=o.action))=(t.regs.take (j+1)).any hk by rw[tQ_ hjl],w64 o_ o_]
  exact⟨⟨j+1,o_,o_,gy'.trans g2,rfl⟩,by dsimp only;omega⟩
 have ej:j=t.regs.length:=o_
 subst ej
 rw[List.take_length]
 have hhit:t.regs.any hk=(t.regs.any fun r=>decide (r.2=o.action)):=rfl
 rw[hhit]
 have hy':=h1.grow gw1y
 by_cases c3:(t.regs.any fun r=>decide (r.2=o.action))=false∧all=false
 ·rw[if_pos c3] at hR
  exact al_ (by rw[c3.1,c3.2];rfl) (hR au_ y' (kg (g1.trans gw1y)) hy' (aG_ _ _ _ _))
 rw[if_neg c3] at hR
 refine ai_ (by
  cases hq:(t.regs.any fun r=>decide (r.2=o.action)) with
  | true=>rfl
  | false=>
   cases ha2:all with
   | true=>rfl
   | false=>exact absurd ⟨hq,ha2⟩ c3) ⟨rfl,(t.kind:Int),cT gw1y rfl,rfl,?_⟩
 have A':=A.go gw1y
 have og':=og.grow gy'
 have oe':=oe.grow gy'
 have hBw:w.heap.size≤B:=by have:=gwv.size;omega
 have hBy:B≤y'.heap.size:=by have:=ky.size;have:=gy'.size;omega
 have rfil:hJ_ (t.regs.filter lp):=ok.rok.filter lp
 have lfew:=rfil.few
 have hNB:∀b,N b→b<B:=fun b q=>by have:=hN1 b q;have:=gv.size;omega
 have rn:RdN y' N aF_ 2 left (rgv (t.regs.filter lp)):=⟨og'.mono (Nat.zero_le _),by have:=og'.len;rw[bK_] at this;omega,fun b hb q=>by have:=(og'.ge b hb).1;have:=hNB b q;omega⟩
 refine A'.put1 (t':={t with regs:=t.regs.filter lp}) (s':=left) (o:=0) d_ rfl rfl (.inr rn) fun y1 A1 k1=>?_
 have cO1:∀{i:Nat} {x:Value},(otv o)[i]?=some x→y1.cell? ((⟨ob,0,none⟩:Addr).add i)=some x:=fun e=>cQ_ (k1.heap (gw1y.heap b1 (fun q=>q)) (fun e=>by have:=aw_ hb0;omega)) e
 have oe1:Own y1 B a2_ 2 out (evv (tells t.regs np 10757)):=oe'.keep k1 fun b hb e=>bd_ oe' A'.blk d_ (by rw[hb,e])
 have og1:Own y1 B aF_ 2 left (rgv (t.regs.filter lp)):=og'.keep k1 fun b hb e=>bd_ og' A'.blk d_ (by rw[hb,e])
 have eg:IntKind.wrap .u32 ((t.gen:Int)+1)=(((t.gen+1)%4294967296:Nat):Int):=by
  have e:IntKind.wrap .u32 ((t.gen:Int)+1)=((t.gen:Int)+1)%4294967296:=by simp[IntKind.wrap,IntKind.signed,IntKind.bits]
  rw[e];omega
 have kwy:ac_ (fun k=>k=tb) w w1:=kg g1
 have fin:∀{y2:World} {t2:a1_} {out2:Sl} {evs:List Ev},eC_ w1 y2 N tb left t2→t2.gen=t.gen→d3_ t2→Own y2 B a2_ 2 out2 (evv evs)→(∀v',ac_ (fun k=>k=tb) w v'→IsT v' N tb {t2 with gen:=(t.gen+1)%4294967296}→Own v' w.heap.size a2_ 2 out2 (evv evs)→R 0 0 out2 v')→
   (some (⟨tb,0,none⟩:Addr)).isSome=true∧∃n17:Int,y2.cell? ((gA (some (⟨tb,0,none⟩:Addr))).add 1)=some (.int .u32 n17)∧(some (⟨tb,0,none⟩:Addr)).isSome=true∧Put ((gA (some (⟨tb,0,none⟩:Addr))).add 1) (.int .u32 (IntKind.wrap .u32 (n17+1))) y2 fun w025=>R 0 0 out2 w025:=by
  intro y2 t2 out2 evs A2 hg2 ok2 oe2 hK
  refine⟨rfl,(t.gen:Int),A2.cell (by show(b8_ left t2)[1]?=_;rw[←hg2];rfl),rfl,?_⟩
  rw[eg]
  refine A2.put1 (t':={t2 with gen:=(t.gen+1)%4294967296}) (s':=left) (o:=1) d_ rfl rfl (.inl ⟨rfl,rfl⟩) fun y3 A3 k3=>?_
  exact hK y3 (kwy.trans A3.keep fun _ _ q=>q) (A3.isT (ok2.with ok2.rok o_ ok2.kind ok2.holder)) ((oe2.keep k3 fun b hb e=>bd_ oe2 A2.blk d_ (by rw[hb,e])).mono hBw)
 cases hq:ha with
 | false=>
  rw[hq,if_neg Bool.noConfusion] at hR
  exact aX_ (fun(o4:Sl) y2=>o4=out∧y2=y1) (fun o4 y2 e=>by
   obtain⟨rfl,rfl⟩:=e
   exact fin A1 rfl (ok.with rfil ok.gen ok.kind ok.holder) oe1 fun v' k T O=>hR o4 v' k T O) fun J=>ai_ rfl (J _ _ ⟨rfl,rfl⟩)
 | true=>
  rw[hq,if_pos rfl] at hR
  refine aX_ (fun(o4:Sl) y2=>eC_ w1 y2 N tb left {t with regs:=t.regs.filter lp,kind:=o.type,holder:=(n:Int)}∧Own y2 B a2_ 2 o4 (evv (tells t.regs np 10757++(if 5≤t.kind∧t.kind≠o.type then tells (t.regs.filter lp) (fun r=>decide (r.1≠n)) 10756 else [])))) ?_ (fun J=>?_)
  ·rintro o4 y2 ⟨A2,O2⟩
   exact fin A2 rfl (ok.with rfil ok.gen ho.type o_) O2 fun v' k T O=>hR o4 v' k T O
  ·refine al_ rfl ⟨(o.type:Int),cO1 rfl,rfl,A1.put1 (t':={t with regs:=t.regs.filter lp,kind:=o.type}) (s':=left) (o:=2) d_ rfl rfl (.inl ⟨rfl,rfl⟩) fun y2 A2 k2=>⟨rfl,A2.put1 (t':={t with regs:=t.regs.filter lp,kind:=o.type,holder:=(n:Int)}) (s':=left) (o:=3) d_ rfl rfl (.inl ⟨rfl,rfl⟩) fun y3 A3 k3=>?_⟩⟩
   have oe2:=oe1.keep k2 fun b hb e=>bd_ oe1 A1.blk d_ (by rw[hb,e])
   have oe3:=oe2.keep k3 fun b hb e=>bd_ oe2 A2.blk d_ (by rw[hb,e])
   have og2:=og1.keep k2 fun b hb e=>bd_ og1 A1.blk d_ (by rw[hb,e])
   have og3:=og2.keep k3 fun b hb e=>bd_ og2 A2.blk d_ (by rw[hb,e])
   have b3:Blk y3 ob (otv o).toArray bB_:=by
    have nob:ob≠tb:=o_
    exact k3.heap (k2.heap (k1.heap (gw1y.heap b1 (fun q=>q)) nob) nob) nob
   refine⟨(o.type:Int),fun _=>cQ_ b3 rfl,?_⟩
   have ec:(decide ((t.kind:Int)≥5)&&((t.kind:Int) != (o.type:Int)))=decide (5≤t.kind∧t.kind≠o.type):=by
    rw[Bool.eq_iff_iff,Bool.and_eq_true,decide_eq_true_eq,bne_iff_ne,decide_eq_true_eq]
    exact⟨fun e=>⟨o_,fun e2=>e.2 (by rw[e2])⟩,fun e=>⟨o_,fun e2=>e.2 o_⟩⟩
   rw[ec]
   have s3:=k1.size
   have s4:=k2.size
   have s5:=k3.size
   by_cases c5:5≤t.kind∧t.kind≠o.type
   ·rw[if_pos c5] at J
    refine al_ (decide_eq_true c5) (rv_ (w:=y3) (B:=B) (but:=n) (code:=10756) (fun v q=>?_) oe3 o_ (by have:=tl np t.regs.length;rw[List.take_length] at this;omega) fun o4 y4 q4 O4=>J o4 y4 ⟨?_,O4⟩)
    ·rcases og3 with⟨hlen,hnil|⟨g,cap,cur,hv',hbg,hg,rest⟩⟩
     ·exact CF.Own.rd (base:=B) (e:=aF_) ⟨hlen,.inl hnil⟩ (by have:=hlen;rw[bK_] at this;omega)
     ·exact CF.Own.rd (base:=B) (e:=aF_) ⟨hlen,.inr ⟨g,cap,cur,hv',hbg,q.regs g cur hg,rest⟩⟩ (by have:=hlen;rw[bK_] at this;omega)
    ·have hw1B:w1.heap.size≤B:=by rw[←hB];exact gv.size
     have ltb1:=g1.size
     refine⟨A3.keep.trans q4.keep fun i hi e=>?_,q4.keep.heap A3.blk o_,?_⟩
     ·omega
     ·rcases og3 with⟨hlen,hnil|⟨g,cap,cur,hv',hbg,hg,rest⟩⟩
      ·exact⟨⟨hlen,.inl hnil⟩,A3.row.small,fun b hb=>by exfalso;unfold Sl.blk at hb;have:=hnil.1;injection this with e1 e2 e3;rw[e1] at hb;cases hb⟩
      ·exact⟨⟨hlen,.inr ⟨g,cap,cur,hv',Nat.zero_le _,q4.regs g cur hg,rest⟩⟩,A3.row.small,A3.row.out⟩
   ·rw[if_neg c5] at J
    exact ai_ (decide_eq_false c5) (J out y3 ⟨A3,by rw[List.append_nil];exact oe3⟩)
end
open Go CF
def hbX (h:Int):UInt8:=UInt8.ofNat ((h+256)%256).toNat
def oI_ (r:Nat×Nat):L8:=UInt8.ofNat r.1::beN 8 r.2
def o9_ (t:a1_):L8:=if t.lasts=false then [] else [80,82,UInt8.ofNat (a3_ t).1,hbX (a3_ t).2,UInt8.ofNat t.regs.length]++t.regs.flatMap oI_
theorem tS_ (r:Nat×Nat):(oI_ r).length=9:=by unfold oI_;rw[List.length_cons,bx_]
theorem oJ_:∀l:List (Nat×Nat),(l.flatMap oI_).length=9*l.length
 | []=>rfl
 | a::r=>by rw[List.flatMap_cons,List.length_append,tS_,oJ_ r,List.length_cons];omega
theorem sa_ {t:a1_} (h:d3_ t):(o9_ t).length≤77:=by
 unfold o9_
 split
 ·decide
 ·rw[List.length_append,oJ_]
  have:=h.few
  have e:([80,82,UInt8.ofNat (a3_ t).1,hbX (a3_ t).2,UInt8.ofNat t.regs.length]:L8).length=5:=rfl
  omega
theorem yS_ {h:Int} (h0 : -1≤h) (h8:h<8):IntKind.wrap .u8 h=(((hbX h).toNat:Nat):Int):=by
 have key:∀k:Fin 9,IntKind.wrap .u8 ((k.val:Int)-1)=(((hbX ((k.val:Int)-1)).toNat:Nat):Int):=by decide +kernel
 have:=key ⟨(h+1).toNat,o_⟩
 have e:(((h+1).toNat:Nat):Int)-1=h:=o_
 rw[e] at this;exact this
section
variable {w u v:World} {N:Nat→Prop} {tb n:Nat} {t:a1_} {o:im_}
theorem qT_ {R:Int→W_} (h:IsT w N tb t) (hR:R (t.gen:Int) w):d7_ (some ⟨tb,0,none⟩) w R:=by
 obtain⟨s,A,_⟩:=h.at
 exact hZ_.calls _ _ _ (ai_ rfl ⟨rfl,(t.gen:Int),A.cell rfl,hR⟩)
theorem xA_ {R:Int→Int→Sl→W_} (h:IsT w N tb t) (hN:∀b,N b→b<w.heap.size) (hn:n<8) (ho:qS_ o) (hs:o.service<256)
  (hR:∀out v,ac_ (fun k=>k=tb) w v→IsT v N tb (cV_ t n o).t→Own v w.heap.size a2_ 2 out (evv (cV_ t n o).ev)→R ((cV_ t n o).st:Int) ((cV_ t n o).code:Int) out v):k3_ (some ⟨tb,0,none⟩) (n:Int) (otv o).toArray w R:=by
 refine iP_.calls _ _ _ _ _ (ag_ fun ob w1 hob hb1 hg1 hs1=>?_)
 have hb1:Blk w1 ob (otv o).toArray bB_:=hb1
 have h1:=h.grow hg1
 have hN1:∀b,N b→b<w1.heap.size:=fun b q=>by have:=hN b q;omega
 have kg:∀{v:World},ab_ w v→ac_ (fun k=>k=tb) w v:=fun g=>g.mono fun _ _ q=>q.elim
 unfold cV_ at hR
 refine⟨(o.service:Int),fun _=>cQ_ hb1 rfl,?_⟩
 by_cases s6:6<o.service
 ·rw[if_pos s6] at hR
  exact al_ (by rw[Bool.or_eq_true];right;rw[decide_eq_true_eq];omega) (hR au_ w1 (kg hg1) h1 (aG_ _ _ _ _))
 rw[if_neg s6] at hR
 refine ai_ (by simp only[Bool.or_eq_false_iff,decide_eq_false_iff_not];exact⟨⟨⟨rfl,o_⟩,o_⟩,o_⟩) (nN_ h1 fun w2 g2=>?_)
 have gw2:=hg1.trans g2
 have h2:=h1.grow g2
 have b2:Blk w2 ob (otv o).toArray bB_:=g2.heap hb1 (fun q=>q)
 have hN2:∀b,N b→b<w2.heap.size:=fun b q=>by have:=hN b q;have:=gw2.size;omega
 have lift:∀{D:DoT} {K:Int→Int→Sl→W_},(∀out v,ac_ (fun k=>k=tb) w v→IsT v N tb D.t→Own v w.heap.size a2_ 2 out (evv D.ev)→K (D.st:Int) (D.code:Int) out v)→∀out v,ac_ (fun k=>k=tb) w2 v→IsT v N tb D.t→Own v w2.heap.size a2_ 2 out (evv D.ev)→K (D.st:Int) (D.code:Int) out v:=
  fun hK out v k T O=>hK out v ((kg gw2).trans k fun _ _ q=>q) T (O.mono gw2.size)
 obtain⟨kk,hkk⟩:∃k,fT_ t n=k:=⟨_,rfl⟩
 rw[hkk] at hR ⊢
 have rest:∀(mine:Nat) (kn:Bool),kk.isSome=kn→kk.getD 0=mine→∃n2:Int,w2.cell? ((⟨ob,0,none⟩:Addr).add 0)=some (.int .u8 n2)∧Br (n2==6) (∃g:A_,(loadVar bB_ ⟨ob,0,none⟩).run Tryz.prog w2=.ok (.agg g) w2∧cx_ (some ⟨tb,0,none⟩) (n:Int) g kn w2 fun xs w02=>R 0 0 xs w02) (Br (n2==0) (∃n3:Int,w2.cell? ((⟨ob,0,none⟩:Addr).add 2)=some (.int .u64 n3)∧Br (n3 != (mine:Int)) (R 24 0 (⟨none,0,0⟩:Sl) w2) (∃g1:A_,(loadVar bB_ ⟨ob,0,none⟩).run Tryz.prog w2=.ok (.agg g1) w2∧cx_ (some ⟨tb,0,none⟩) (n:Int) g1 kn w2 fun xs1 w03=>R 0 0 xs1 w03))
   (∃n4:Int,((!(!kn))=true→w2.cell? ((⟨ob,0,none⟩:Addr).add 2)=some (.int .u64 n4))∧Br ((!kn)||(n4 != (mine:Int))) (R 24 0 (⟨none,0,0⟩:Sl) w2) (∃n5:Int,w2.cell? ((⟨ob,0,none⟩:Addr).add 0)=some (.int .u8 n5)∧Br (n5==1) (∃g2:A_,(loadVar bB_ ⟨ob,0,none⟩).run Tryz.prog w2=.ok (.agg g2) w2∧eX_ (some ⟨tb,0,none⟩) (n:Int) g2 w2 fun n6 n7 xs2 w04=>R n6 n7 xs2 w04)
    (Br (n5==2) (∃g3:A_,(loadVar bB_ ⟨ob,0,none⟩).run Tryz.prog w2=.ok (.agg g3) w2∧eY_ (some ⟨tb,0,none⟩) (n:Int) g3 w2 fun n8 n9 xs3 w05=>R n8 n9 xs3 w05) (Br (n5==3) (gp_ (some ⟨tb,0,none⟩) (n:Int) w2 fun xs4 w06=>R 0 0 xs4 w06) (∃g4:A_,(loadVar bB_ ⟨ob,0,none⟩).run Tryz.prog w2=.ok (.agg g4) w2∧eZ_ (some ⟨tb,0,none⟩) (n:Int) g4 w2 fun n10 n11 xs5 w07=>R n10 n11 xs5 w07)))))):=by
  intro mine kn hkn hmi
  rw[hkn,hmi] at hR
  refine⟨(o.service:Int),cQ_ b2 rfl,ay_ (fun e=>?_) (fun e6=>ay_ (fun e=>?_) (fun e0=>?_))⟩
  ·rw[if_pos o_] at hR
   exact⟨_,o8_ b2,n2_ h2 hN2 hn ho fun out v k T O=>hR out v ((kg gw2).trans k fun _ _ q=>q) T (O.mono gw2.size)⟩
  ·rw[if_neg o_,if_pos o_] at hR
   refine⟨(o.key:Int),cQ_ b2 rfl,?_⟩
   by_cases q:o.key=mine
   ·rw[if_neg (fun e=>e q)] at hR
    exact ai_ (by rw[bne_eq_false_iff_eq];omega) ⟨_,o8_ b2,n2_ h2 hN2 hn ho fun out v k T O=>hR out v ((kg gw2).trans k fun _ _ q=>q) T (O.mono gw2.size)⟩
   ·rw[if_pos q] at hR
    exact al_ (by rw[bne_iff_ne];omega) (hR au_ w2 (kg gw2) h2 (aG_ _ _ _ _))
  ·rw[if_neg o_,if_neg o_] at hR
   refine⟨(o.key:Int),fun _=>cQ_ b2 rfl,?_⟩
   by_cases q:kn=false∨o.key≠mine
   ·rw[if_pos q] at hR
    refine al_ ?_ (hR au_ w2 (kg gw2) h2 (aG_ _ _ _ _))
    rw[Bool.or_eq_true,bne_iff_ne]
    rcases q with q|q
    ·left;rw[q];rfl
    ·right;omega
   ·rw[if_neg q] at hR
    have q1:kn=true:=by cases hq:kn with|true=>rfl|false=>exact absurd (.inl hq) q
    have q2:o.key=mine:=Classical.byContradiction fun e=>q (.inr e)
    refine ai_ (by rw[q1,q2];simp) ⟨(o.service:Int),cQ_ b2 rfl,ay_ (fun e=>?_) (fun n1=>ay_ (fun e=>?_) (fun n2'=>ay_ (fun e=>?_) (fun n3=>?_)))⟩
    ·rw[if_pos o_] at hR
     exact⟨_,o8_ b2,tO_ h2 hn ho fun v k T=>hR au_ v ((kg gw2).trans k fun _ _ q=>q) T (by
      have:(fV_ t n o).ev = []:=by unfold fV_;split<;>(try split)<;>(try split)<;>rfl
      rw[this];exact aG_ _ _ _ _)⟩
    ·rw[if_neg o_,if_pos o_] at hR
     exact⟨_,o8_ b2,tP_ h2 (lift hR)⟩
    ·rw[if_neg o_,if_neg o_,if_pos o_] at hR
     exact wf_ h2 fun out v k T O=>hR out v ((kg gw2).trans k fun _ _ q=>q) T (O.mono gw2.size)
    ·rw[if_neg o_,if_neg o_,if_neg o_] at hR
     exact⟨_,o8_ b2,tR_ h2 hN2 hn ho (lift hR)⟩
 cases kk with
 | none=>exact rest 0 false rfl rfl
 | some k=>exact rest k true rfl rfl
theorem qU_ {R:Sl→W_} (h:IsT w N tb t) (hR:∀xs v,ab_ w v→Own v w.heap.size ae_ 1 xs (bv (o9_ t))→R xs v):g9_ (some ⟨tb,0,none⟩) w R:=by
 refine hj_.calls _ _ _ ?_
 obtain⟨s,A,ok⟩:=h.at
 have hf:=ok.few
 have hsn:t.regs.length=s.n:=by have:=A.row.rd.len;rw[bK_] at this;omega
 refine⟨fun _=>rfl,t.lasts,fun _=>A.cell rfl,?_⟩
 unfold o9_ at hR
 cases hl:t.lasts with
 | false=>rw[hl,if_pos rfl] at hR;exact al_ rfl (hR au_ w (ac_.refl _ _) (aG_ _ _ _ _))
 | true=>
 rw[hl,if_neg Bool.noConfusion] at hR
 refine ai_ rfl (l1_ h fun w1 g1=>?_)
 have A1:=A.go g1
 have hrk:(a3_ t).1<256:=by
  unfold a3_
  have:=ok.kind
  split
  ·decide
  ·split<;>exact this
 have hrh : -1≤(a3_ t).2∧(a3_ t).2<8:=by
  unfold a3_
  have:=ok.holder
  split
  ·decide
  ·split
   ·dsimp only;decide
   ·exact this
 have e1:((a3_ t).1:Int)=(((UInt8.ofNat (a3_ t).1).toNat:Nat):Int):=by rw[←aV_,wu8 o_ o_]
 refine⟨rfl,s,A1.cell rfl,?_⟩
 rw[e1,yS_ hrh.1 hrh.2,←hsn,aV_]
 have hl5:(Instr.buildSlice aB_ 5 #[(0,.int .u8 80),(1,.int .u8 82),(2,.int .u8 (((UInt8.ofNat (a3_ t).1).toNat:Nat):Int)),(3,.int .u8 (((hbX (a3_ t).2).toNat:Nat):Int)),(4,.int .u8 (((UInt8.ofNat t.regs.length).toNat:Nat):Int))]).run Tryz.prog w1=.ok (.slice (some ⟨w1.heap.size,0,none⟩) 5 5) (w1.alloc (.cells (bv [80,82,UInt8.ofNat (a3_ t).1,hbX (a3_ t).2,UInt8.ofNat t.regs.length]).toArray ae_)):=k_
 refine Row.start hl5 rfl (by show 5≤_;decide) fun p2 w2 r2=>?_
 generalize hH:([80,82,UInt8.ofNat (a3_ t).1,hbX (a3_ t).2,UInt8.ofNat t.regs.length]:L8)=H at *
 have hHl:H.length=5:=by rw[←hH];rfl
 have A2:=A1.go r2.grow
 refine⟨rfl,s,A2.cell rfl,?_⟩
 refine⟨fun p x y=>∃j:Nat,x=j∧j≤t.regs.length∧Row w1 y p (H++(t.regs.take j).flatMap oI_),fun _ x _=>s.n-x.toNat,⟨0,rfl,Nat.zero_le _,by simpa using r2⟩,?_⟩
 rintro p x y ⟨j,rfl,hj,ry⟩
 refine ba_ (fun hlt=>?_) (fun hge=>?_)
 ·have hjl:j<t.regs.length:=o_
  have hlen:(H++(t.regs.take j).flatMap oI_).length≤77:=by rw[List.length_append,oJ_,List.length_take];omega
  refine fW_ ((A1.row.rd).grow ry.grow) hjl fun rb y1 g2 br _=>?_
  rintro y2 rfl
  have g3:=g2.trans (am_ y1)
  have b3:Blk y1.drew rb (rgc t.regs[j]).toArray aF_:=(am_ y1).heap br (fun q=>q)
  generalize y1.drew=y2 at *
  have rb1:=ok.regs t.regs[j] (List.getElem_mem hjl)
  refine⟨fun z=>Blk z rb (rgc t.regs[j]).toArray aF_,b3,(t.regs[j].2:Int),fun z q=>by rw[ao_,q.cell];rfl,?_⟩
  refine cy_ (n:=9) aE_ a6_ rfl d_ d_ (base:=y2.heap.size) (Nat.le_refl _) fun y3 ho3 g4 hs4=>⟨g4.heap b3 (fun q=>q),?_⟩
  have hrep:∀k,(List.replicate k (Value.int .u8 0))=bv (List.replicate k 0):=fun k=>by simp[bv]
  rw[hrep] at ho3
  have p8:(256:Nat) ^ 8=18446744073709551616:=rfl
  refine b7_ (at_:=1) (n:=8) (v:=t.regs[j].2) (ho3.rd (by dsimp only;decide)) (by dsimp only;decide) d_ d_ d_ (by rw[p8];exact rb1.2.2) fun x4 y4 ho4 g5=>?_
  have b4:Blk y4 rb (rgc t.regs[j]).toArray aF_:=(g4.trans g5).heap b3 (fun q=>q)
  have hl9:lay (List.replicate 9 0) 1 8 t.regs[j].2=0::beN 8 t.regs[j].2:=rfl
  rw[hl9] at ho4
  have hn4:x4.n=9:=by have:=cY_ ho4;rw[List.length_cons,bx_] at this;exact this
  obtain⟨hA4,_⟩:=bS_ (ho4.rd o_) (i:=0) (by rw[List.length_cons];omega)
  refine⟨(t.regs[j].1:Int),by rw[ao_,b4.cell];rfl,⟨d_,o_,hA4⟩,?_⟩
  rw[aV_]
  refine bT_ (i:=0) ho4 o_ rfl fun y5 ho5 k5 _=>?_
  have gy4:=(g3.trans g4).trans g5
  have r4:=ry.go gy4
  have r5:Row w1 y5 p (H++(t.regs.take j).flatMap oI_):=r4.keep k5 (fun b hb e=>by
   have:=(ho4.ge b e.symm).1
   have:=(r4.own.ge b hb).2
   have:=(ry.own.ge b hb).2
   have:=gy4.size
   have:=(g3.trans g4).size
   omega) (fun i hi e=>by
   have:=(ho4.ge i e.symm).1
   have:=ry.grow.size
   have:=(g3.trans g4).size
   omega)
  have ho5:Own y5 y3.heap.size ae_ 1 x4 (bv (oI_ t.regs[j])):=ho5
  refine r5.app (ho5.rd o_) (by rw[tS_];omega) fun p6 y6 r6 k6=>?_
  rw[w64 o_ o_]
  refine⟨⟨j+1,o_,o_,?_⟩,by dsimp only;omega⟩
  rw[List.take_succ_eq_append_getElem hjl,List.flatMap_append,←List.append_assoc]
  simpa using r6
 ·have:j=t.regs.length:=o_
  subst this
  rw[List.take_length] at ry
  exact hR p y (g1.trans ry.grow) (ry.own.mono g1.size)
end
open Go CF
def l9_ (r:List (Nat×Nat)):Int:=match r.getLast? with|some x=>(x.1:Int)|none=>-1
def gh_ (l:L8) (j:Nat):Nat:=(l.getD (5+9*j) 0).toNat
def ko_ (l:L8) (j:Nat):Nat:=num ((l.drop (6+9*j)).take 8)
def ldR (l:L8):Nat→Option (List (Nat×Nat))
 | 0=>some []
 | j+1=>match ldR l j with
  | none=>none
  | some r=>if (gh_ l j:Int)≤l9_ r∨8≤gh_ l j∨ko_ l j=0 then none else some (r++[(gh_ l j,ko_ l j)])
def i8X (b:UInt8):Int:=if b.toNat<128 then(b.toNat:Int) else(b.toNat:Int)-256
def in_ (r:List (Nat×Nat)) (x:Int):Option Nat:=(r.find? fun r=>decide ((r.1:Int)=x)).map (·.2)
def nS_ (k:Nat) (h:Int) (r:List (Nat×Nat)):Bool:=
 if k=0∨allK k=true then decide (h≠-1)||(allK k&&decide (r = [])) else !(in_ r h).isSome || !f4_ k
def nT_ (l:L8):Option a1_:=
 if l = [] then some t0
 else if l.length<5∨l.getD 0 0≠80∨l.getD 1 0≠82∨l.length≠5+9*(l.getD 4 0).toNat then none
 else match ldR l (l.getD 4 0).toNat with
  | none=>none
  | some r=>if nS_ (l.getD 2 0).toNat (i8X (l.getD 3 0)) r=true then none else some ⟨r,0,(l.getD 2 0).toNat,i8X (l.getD 3 0),true⟩
theorem tT_ {l:L8} {j:Nat} (h:ldR l j=none):∀k,ldR l (j+k)=none
 | 0=>h
 | k+1=>by
  show(match ldR l (j+k) with
   | none=>none
   | some r=>_)=none
  rw[tT_ h k]
theorem AZ_ (l:L8) (j:Nat):ko_ l j<18446744073709551616:=by
 have:=eL_ (l.drop (6+9*j)) 8
 have p8:(256:Nat) ^ 8=18446744073709551616:=rfl
 rw[p8] at this;exact this
theorem tU_ {l:L8}:∀{j:Nat} {r:List (Nat×Nat)},ldR l j=some r→hJ_ r∧(∀x∈r,(x.1:Int)≤l9_ r)∧r.length=j
 | 0,r,h=>by
  injection h with h
  subst h
  exact⟨⟨List.Pairwise.nil,fun _ q=>by cases q⟩,fun _ q=>(by cases q),rfl⟩
 | j+1,r,h=>by
  unfold ldR at h
  cases hj:ldR l j with
  | none=>rw[hj] at h;cases h
  | some r0=>
   rw[hj] at h
   obtain⟨h1,h2,h3⟩:=tU_ hj
   dsimp only at h
   split at h
   ·cases h
   ·rename_i hq
    injection h with h
    subst h
    have hl:l9_ (r0++[(gh_ l j,ko_ l j)])=(gh_ l j:Int):=by unfold l9_;rw[List.getLast?_append];rfl
    refine⟨⟨?_,fun x hx=>?_⟩,fun x hx=>?_,by rw[List.length_append,h3];rfl⟩
    ·rw[List.pairwise_append]
     refine⟨h1.sorted,List.pairwise_singleton _ _,fun a ha b hb=>?_⟩
     rw[List.mem_singleton] at hb
     rw[hb]
     have:=h2 a ha
     show a.1<gh_ l j
     omega
    ·rcases List.mem_append.1 hx with hx|hx
     ·exact h1.regs x hx
     ·rw[List.mem_singleton] at hx
      rw[hx]
      exact⟨by show gh_ l j<8;omega,by show 0<ko_ l j;omega,AZ_ l j⟩
    ·rw[hl]
     rcases List.mem_append.1 hx with hx|hx
     ·have:=h2 x hx;omega
     ·rw[List.mem_singleton] at hx;rw[hx];exact Int.le_refl _
theorem yT_ {r:List (Nat×Nat)} {x:Int} (h:∀y∈r,y.1<8) (hs:(in_ r x).isSome=true):0≤x∧x<8:=by
 unfold in_ at hs
 cases hf:r.find? fun r=>decide ((r.1:Int)=x) with
 | none=>rw[hf] at hs;cases hs
 | some y=>
  have h1:=List.find?_some hf
  have h2:=h y (List.mem_of_find?_eq_some hf)
  rw[decide_eq_true_eq] at h1
  omega
theorem yU_ {l:L8} {t:a1_} (h:nT_ l=some t):d3_ t:=by
 unfold nT_ at h
 split at h
 ·injection h with h;rw[←h];exact xg_
 split at h
 ·cases h
 split at h
 ·cases h
 ·rename_i r hr
  split at h
  ·cases h
  ·rename_i hb
   injection h with h
   subst h
   obtain⟨h1,_,_⟩:=tU_ hr
   have hk:=(l.getD 2 0).toNat_lt
   refine⟨h1.few,h1.sorted,h1.regs,by show 0<4294967296;decide,by show(l.getD 2 0).toNat<256;omega,?_⟩
   show -1≤i8X (l.getD 3 0)∧i8X (l.getD 3 0)<8
   unfold nS_ at hb
   split at hb
   ·rw[Bool.or_eq_true,decide_eq_true_eq] at hb
    have:i8X (l.getD 3 0) = -1:=Classical.byContradiction fun e=>hb (.inl e)
    rw[this];decide
   ·have:(in_ r (i8X (l.getD 3 0))).isSome=true:=by
     cases hq:(in_ r (i8X (l.getD 3 0))).isSome with
     | true=>rfl
     | false=>rw[hq] at hb;exact absurd rfl hb
    have:=yT_ (fun y hy=>(h1.regs y hy).1) this
    omega
section
variable {w u v:World} {N:Nat→Prop} {tb n:Nat} {t:a1_}
theorem xB_ {x:Int} {s:Sl} {R:Int→Bool→W_} (h1:Blk w tb (b8_ s t) cf_) (h2:Rd w 2 s (rgv t.regs)) (hfew:t.regs.length≤1000) (hR:∀w',ab_ w w'→match in_ t.regs x with|some k=>R (k:Int) true w'|none=>R 0 false w'):dr_ (some ⟨tb,0,none⟩) x w R:=by
 refine f2_.calls _ _ _ _ ?_
 have hsn:t.regs.length=s.n:=by have:=h2.len;rw[bK_] at this;omega
 refine⟨rfl,s,cZ_ h1 rfl,?_⟩
 refine⟨fun y v=>∃j:Nat,y=j∧j≤t.regs.length∧ab_ w v∧(t.regs.find? fun r=>decide ((r.1:Int)=x))=((t.regs.drop j).find? fun r=>decide ((r.1:Int)=x)),fun y _=>s.n-y.toNat,⟨0,rfl,Nat.zero_le _,ac_.refl _ _,rfl⟩,?_⟩
 rintro y v ⟨j,rfl,hj,hg,he⟩
 refine ba_ (fun hlt=>?_) (fun hge=>?_)
 ·have hjl:j<t.regs.length:=o_
  rw[List.drop_eq_getElem_cons hjl] at he
  refine fW_ (h2.grow hg) hjl fun rb v2 hg2 hb2 _=>?_
  refine⟨(t.regs[j].1:Int),by rw[ao_,hb2.cell];rfl,?_⟩
  refine ay_ (fun e=>?_) (fun e=>?_)
  ·refine⟨(t.regs[j].2:Int),by rw[ao_,hb2.cell];rfl,?_⟩
   have hR:=hR v2 (hg.trans hg2)
   have e2:decide ((t.regs[j].1:Int)=x)=true:=decide_eq_true e
   have:in_ t.regs x=some t.regs[j].2:=by unfold in_;rw[he,List.find?_cons,e2];rfl
   rw[this] at hR;exact hR
  ·have e2:decide ((t.regs[j].1:Int)=x)=false:=decide_eq_false e
   rw[List.find?_cons,e2] at he
   rw[w64 o_ o_]
   exact⟨⟨j+1,o_,o_,hg.trans hg2,he⟩,by dsimp only;omega⟩
 ·have:j=t.regs.length:=o_
  subst this
  rw[List.drop_length] at he
  have hR:=hR v hg
  have:in_ t.regs x=none:=by unfold in_;rw[he];rfl
  rw[this] at hR;exact hR
structure LdT (w v:World) (tb:Nat) (t:a1_):Prop where
 keep:ab_ w v
 new:w.heap.size≤tb
 blk:∃s,Blk v tb (b8_ s t) cf_∧Own v w.heap.size aF_ 2 s (rgv t.regs)
theorem LdT.go (h:LdT w v tb t) (g:ab_ v u):LdT w u tb t:=by
 obtain⟨s,h1,h2⟩:=h.blk
 exact⟨h.keep.trans g,h.new,s,g.heap h1 (fun q=>q),h2.grow g⟩
theorem LdT.put1 {t':a1_} {o:Nat} {x:Value} {K:W_} (h:LdT w v tb t) (ho:o<5) (hx:x.oneCell'=true) (he:∀s,(b8_ s t).setIfInBounds o x=b8_ s t') (hr:t'.regs=t.regs) (hK:∀z,LdT w z tb t'→ac_ (fun k=>k=tb) v z→K z):Put ((gA (some (⟨tb,0,none⟩:Addr))).add o) x v K:=by
 obtain⟨s,h1,h2⟩:=h.blk
 rw[gA,ao_,Nat.zero_add]
 have hn:=h.new
 refine aU_ h1 (by simp[b8_];omega) hx fun z hz k _=>hK z ⟨h.keep.keep k fun i hi q=>o_,h.new,s,by rw[←he s];exact hz,?_⟩ k
 rw[hr]
 exact h2.keep k fun b hb e=>bd_ h2 h1 d_ (by rw[hb,e])
theorem LdT.cell (h:LdT w v tb t) {o:Nat} {x:Value} (e:∀s,(b8_ s t)[o]?=some x):v.cell? ((gA (some (⟨tb,0,none⟩:Addr))).add o)=some x:=by
 obtain⟨s,h1,_⟩:=h.blk
 exact cZ_ h1 (e s)
theorem z9_ (b:UInt8):IntKind.wrap .i64 (IntKind.wrap .i8 (b.toNat:Int))=i8X b:=by
 have hb:=b.toNat_lt
 have key:∀k:Fin 256,IntKind.wrap .i8 ((k.val:Nat):Int)=(if k.val<128 then((k.val:Nat):Int) else((k.val:Nat):Int)-256):=by decide +kernel
 have e:IntKind.wrap .i8 (b.toNat:Int)=i8X b:=key ⟨b.toNat,hb⟩
 rw[e]
 unfold i8X
 split<;>exact w64 o_ o_
end
open Go CF
section
variable {w u v:World} {tb n:Nat} {t:a1_}
theorem uH_ {p:Sl} {l:L8} {R:O_→Int→W_} (hp:Rd w 1 p (bv l)) (hpn:p.n≤1000000)
  (hR:match nT_ l with
   | some t=>∀tb v,LdT w v tb t→R (some ⟨tb,0,none⟩) 0 v
   | none=>∀v,ab_ w v→R none 3 v):pN_ p w R:=by
 refine nq_.calls _ _ _ (mM_.calls _ _ (ag_ fun tb w1 htb hb1 hg1 hsz1=>?_))
 have hl:=b4_ hp
 have L1:LdT w w1 tb t0:=⟨hg1,o_,au_,hb1,aG_ _ _ _ _⟩
 have p1:=hp.grow hg1
 unfold nT_ at hR
 by_cases h0:l = []
 ·rw[if_pos h0] at hR
  exact al_ (by rw[beq_iff_eq,←hl,h0];rfl) (hR tb w1 L1)
 rw[if_neg h0] at hR
 have l0:0<l.length:=List.length_pos_iff.2 h0
 refine ai_ (by rw[beq_eq_false_iff_ne];omega) ?_
 have at1:∀{i:Nat},i<l.length→p.A.isSome=true∧w1.cell? ((gA p.A).add (i*1))=some (.int .u8 ((l.getD i 0).toNat:Int)):=fun hi=>bS_ p1 hi
 have ne:∀{b:UInt8} {m:Nat},m<256→((((b.toNat:Nat):Int) != (m:Int)))=decide (b≠UInt8.ofNat m):=fun {b m} hm=>by
  rw[bne,wb_ hm];simp
 have g5:∀{q:Bool},((!(decide ((p.n:Int)<5)||q))=true)→5≤l.length:=fun {q} e=>by
  rw[Bool.not_eq_true',Bool.or_eq_false_iff,decide_eq_false_iff_not] at e
  omega
 have g5':((!(decide ((p.n:Int)<5)))=true)→5≤l.length:=fun e=>by
  rw[Bool.not_eq_true',decide_eq_false_iff_not] at e
  omega
 have g5'':∀{q q2:Bool},((!((decide ((p.n:Int)<5)||q)||q2))=true)→5≤l.length:=fun {q q2} e=>by
  rw[Bool.not_eq_true',Bool.or_eq_false_iff,Bool.or_eq_false_iff,decide_eq_false_iff_not] at e
  omega
 refine⟨fun e=>⟨d_,o_,(at1 l0).1⟩,((l.getD 0 0).toNat:Int),fun e=>(at1 l0).2,fun e=>⟨d_,by have:=g5 e;omega,(at1 l0).1⟩,((l.getD 1 0).toNat:Int),fun e=>(at1 (by have:=g5 e;omega)).2,fun e=>⟨d_,by have:=g5'' e;omega,(at1 l0).1⟩,((l.getD 4 0).toNat:Int),fun e=>(at1 (by have:=g5'' e;omega)).2,?_⟩
 have h4:=(l.getD 4 0).toNat_lt
 have e9:IntKind.wrap .i64 (5+IntKind.wrap .i64 (9*IntKind.wrap .i64 ((l.getD 4 0).toNat:Int)))=((5+9*(l.getD 4 0).toNat:Nat):Int):=by
  rw[w64 (n:=((l.getD 4 0).toNat:Int)) o_ o_,w64 (n:=9*((l.getD 4 0).toNat:Int)) o_ o_,w64 o_ o_];omega
 have n80:(((l.getD 0 0).toNat:Int) != 80)=decide (l.getD 0 0≠UInt8.ofNat 80):=ne (m:=80) d_
 have n82:(((l.getD 1 0).toNat:Int) != 82)=decide (l.getD 1 0≠UInt8.ofNat 82):=ne (m:=82) d_
 rw[e9,n80,n82]
 have ec:(((decide ((p.n:Int)<5)||decide (l.getD 0 0≠UInt8.ofNat 80))||decide (l.getD 1 0≠UInt8.ofNat 82))||((p.n:Int) != ((5+9*(l.getD 4 0).toNat:Nat):Int)))=decide (l.length<5∨l.getD 0 0≠80∨l.getD 1 0≠82∨l.length≠5+9*(l.getD 4 0).toNat):=by
  have e1:decide ((p.n:Int)<5)=decide (l.length<5):=by rw[decide_eq_decide];omega
  have e2:((p.n:Int) != ((5+9*(l.getD 4 0).toNat:Nat):Int))=decide (l.length≠5+9*(l.getD 4 0).toNat):=by
   rw[Bool.eq_iff_iff,bne_iff_ne,decide_eq_true_eq]
   exact⟨fun q e=>q o_,fun q e=>q o_⟩
  rw[e1,e2,Bool.eq_iff_iff,decide_eq_true_eq]
  simp only[Bool.or_eq_true,decide_eq_true_eq]
  exact⟨fun q=>q.elim (fun q=>q.elim (fun q=>q.elim .inl fun q=>.inr (.inl q)) fun q=>.inr (.inr (.inl q))) fun q=>.inr (.inr (.inr q)),fun q=>q.elim (fun q=>.inl (.inl (.inl q))) fun q=>q.elim (fun q=>.inl (.inl (.inr q))) fun q=>q.elim (fun q=>.inl (.inr q)) .inr⟩
 rw[ec]
 by_cases hc:l.length<5∨l.getD 0 0≠80∨l.getD 1 0≠82∨l.length≠5+9*(l.getD 4 0).toNat
 ·rw[if_pos hc] at hR
  exact al_ (decide_eq_true hc) (hR w1 hg1)
 rw[if_neg hc] at hR
 have hlen:l.length=5+9*(l.getD 4 0).toNat:=Classical.byContradiction fun e=>hc (.inr (.inr (.inr e)))
 generalize hM:(l.getD 4 0).toNat=M at *
 refine ai_ (decide_eq_false hc) ⟨⟨d_,o_,(at1 l0).1⟩,((l.getD 2 0).toNat:Int),(at1 o_).2,rfl,?_⟩
 refine L1.put1 (t':={t0 with kind:=(l.getD 2 0).toNat}) (o:=2) d_ rfl (fun s=>rfl) rfl fun w2 L2 k2=>⟨rfl,L2.put1 (t':={t0 with kind:=(l.getD 2 0).toNat,lasts:=true}) (o:=4) d_ rfl (fun s=>rfl) rfl fun w3 L3 k3=>?_⟩
 generalize hK:(l.getD 2 0).toNat=K at *
 let TT (r:List (Nat×Nat)):a1_:=⟨r,0,K,-1,true⟩
 refine⟨fun last at_ y=>∃(j:Nat) (r:List (Nat×Nat)),at_=((5+9*j:Nat):Int)∧j≤M∧ldR l j=some r∧last=l9_ r∧LdT w y tb (TT r),fun _ at_ _=>l.length-at_.toNat,⟨0,[],rfl,Nat.zero_le _,rfl,rfl,L3⟩,?_⟩
 rintro last at_ y ⟨j,r,rfl,hj,hr,rfl,Ly⟩
 obtain⟨rok,rle,rlen⟩:=tU_ hr
 have rfew:=rok.few
 have py:=hp.grow Ly.keep
 have aty:∀{z:World} {i:Nat},ab_ w z→i<l.length→p.A.isSome=true∧z.cell? ((gA p.A).add (i*1))=some (.int .u8 ((l.getD i 0).toNat:Int)):=fun g hi=>bS_ (hp.grow g) hi
 by_cases hjM:j<M
 ·refine al_ (by rw[decide_eq_true_eq];omega) ⟨⟨o_,o_,(aty Ly.keep l0).1⟩,(gh_ l j:Int),by rw[Int.toNat_natCast];exact(aty Ly.keep o_).2,?_⟩
  rw[w64 (n:=(((5+9*j:Nat):Int)+1)) o_ o_,show(((5+9*j:Nat):Int)+1)=((6+9*j:Nat):Int) by omega]
  refine bX_ (at_:=6+9*j) (n:=8) py o_ d_ d_ o_ ?_
  have hn8:gh_ l j<256:=(l.getD (5+9*j) 0).toNat_lt
  have hk8:num ((l.drop (6+9*j)).take 8)=ko_ l j:=rfl
  rw[hk8,w64 (n:=(gh_ l j:Int)) o_ o_]
  have hstep:ldR l (j+1)=(if (gh_ l j:Int)≤l9_ r∨8≤gh_ l j∨ko_ l j=0 then none else some (r++[(gh_ l j,ko_ l j)])):=by
   show(match ldR l j with
    | none=>none
    | some r=>_)=_
   rw[hr]
  by_cases hbad:(gh_ l j:Int)≤l9_ r∨8≤gh_ l j∨ko_ l j=0
  ·rw[if_pos hbad] at hstep
   have:=tT_ hstep (M-(j+1))
   rw[show j+1+(M-(j+1))=M by omega] at this
   rw[this] at hR
   refine al_ ?_ (hR y Ly.keep)
   simp only[Bool.or_eq_true,decide_eq_true_eq,beq_iff_eq]
   rcases hbad with q|q|q
   ·exact .inl (.inl q)
   ·exact .inl (.inr o_)
   ·exact .inr o_
  ·rw[if_neg hbad] at hstep
   refine ai_ (by simp only[Bool.or_eq_false_iff,decide_eq_false_iff_not,beq_eq_false_iff_ne];exact⟨⟨fun q=>hbad (.inl q),fun q=>hbad (.inr (.inl o_))⟩,fun q=>hbad (.inr (.inr o_))⟩) ?_
   obtain⟨s,hbs,hos⟩:=Ly.blk
   refine⟨rfl,s,cZ_ hbs rfl,?_⟩
   refine o7_ (B:=w.heap.size) (a:=gh_ l j) (c:=ko_ l j) hos Ly.keep.size (by show r.length≤1000;omega) fun s' y2 k2' o2 hk2=>⟨rfl,?_⟩
   have hb2:Blk y2 tb (b8_ s (TT r)) cf_:=hk2 _ _ _ hbs d_
   have gy2:ab_ w y2:=Ly.keep.keep k2' fun i hi q=>o_
   rw[gA,ao_,Nat.zero_add]
   refine aU_ hb2 (by simp[b8_]) rfl fun y3 hb3 k3 _=>?_
   have hn:=Ly.new
   have o3:Own y3 w.heap.size aF_ 2 s' (rgv (r++[(gh_ l j,ko_ l j)])):=o2.keep k3 fun b hb e=>bd_ o2 hb2 d_ (by rw[hb,e])
   rw[w64 o_ o_,show(((5+9*j:Nat):Int)+9)=((5+9*(j+1):Nat):Int) by omega]
   refine⟨⟨j+1,r++[(gh_ l j,ko_ l j)],rfl,o_,hstep,?_,⟨gy2.keep k3 fun i hi q=>o_,hn,s',hb3,o3⟩⟩,by dsimp only;omega⟩
   unfold l9_;rw[List.getLast?_append];rfl
 ·have ej:j=M:=o_
  subst ej
  rw[hr] at hR
  dsimp only at hR
  refine ai_ (by rw[decide_eq_false_iff_not];omega) ⟨⟨d_,o_,(aty Ly.keep l0).1⟩,((l.getD 3 0).toNat:Int),(aty Ly.keep o_).2,rfl,?_⟩
  rw[z9_]
  generalize hH:i8X (l.getD 3 0)=H at *
  refine Ly.put1 (t':=⟨r,0,K,H,true⟩) (o:=3) d_ rfl (fun s=>rfl) rfl fun y2 L2' k2'=>⟨rfl,(K:Int),L2'.cell (fun s=>rfl),fun _=>rfl,(K:Int),fun _=>L2'.cell (fun s=>rfl),?_⟩
  have eK:((K:Int)==0)=decide (K=0):=by rw[Bool.eq_iff_iff,beq_iff_eq,decide_eq_true_eq];omega
  rw[eK]
  refine cI_ (fun(b:Bool) z=>z=y2∧((!decide (K=0))=true→b=allK K)) ?_ (fun J=>⟨fun _=>ez_ (J _ _ ⟨rfl,fun _=>rfl⟩),fun q=>J _ _ ⟨rfl,fun e=>by rw[q] at e;cases e⟩⟩)
  rintro b z ⟨rfl,hb⟩
  have fin:∀{z':World} {q:Bool},LdT w z' tb ⟨r,0,K,H,true⟩→q=nS_ K H r→Br q (R none 3 z') (R (some ⟨tb,0,none⟩) 0 z'):=fun {z' q} L e=>by
   rw[e]
   cases hq:nS_ K H r with
   | true=>rw[hq,if_pos rfl] at hR;exact al_ rfl (hR z' L.keep)
   | false=>rw[hq,if_neg Bool.noConfusion] at hR;exact ai_ rfl (hR tb z' L)
  unfold nS_ at fin
  by_cases hk:K=0∨allK K=true
  ·refine al_ ?_ ⟨rfl,H,L2'.cell (fun s=>rfl),fun _=>rfl,(K:Int),fun _=>L2'.cell (fun s=>rfl),?_⟩
   ·by_cases q:K=0
    ·rw[decide_eq_true q];rfl
    ·rw[hb (by rw[decide_eq_false q];rfl)]
     rcases hk with r'|r'
     ·exact absurd r' q
     ·rw[r',Bool.or_true]
   ·have eH:(H != (-1))=decide (H≠-1):=by rw[Bool.eq_iff_iff,bne_iff_ne,decide_eq_true_eq]
    rw[eH]
    refine cI_ (fun(b1:Bool) z'=>z'=z∧((!decide (H≠-1))=true→b1=allK K)) ?_ (fun J=>⟨fun _=>ez_ (J _ _ ⟨rfl,fun _=>rfl⟩),fun q=>J _ _ ⟨rfl,fun e=>by rw[q] at e;cases e⟩⟩)
    rintro b1 z' ⟨rfl,hb1'⟩
    obtain⟨s,hbs,hos⟩:=L2'.blk
    have hsn:s.n=r.length:=by
     have:=hos.len
     rw[bK_] at this
     have e:(a1_.mk r 0 K H true).regs.length=r.length:=rfl
     omega
    refine⟨fun _=>rfl,s,fun _=>cZ_ hbs rfl,fin L2' ?_⟩
    rw[if_pos hk]
    cases hq:decide (H≠-1) with
    | true=>rfl
    | false=>
     rw[hb1' (by rw[hq];rfl)]
     show(allK K&&((s.n:Int)==0))=_
     rw[Bool.false_or]
     congr 1
     rw[Bool.eq_iff_iff,beq_iff_eq,decide_eq_true_eq,hsn]
     exact⟨fun e=>List.eq_nil_of_length_eq_zero o_,fun e=>by rw[e];rfl⟩
  ·have hk0:K≠0:=fun e=>hk (.inl e)
   have hka:allK K=false:=by cases hq:allK K with|false=>rfl|true=>exact absurd (.inr hq) hk
   refine ai_ (by rw[decide_eq_false hk0,hb (by rw[decide_eq_false hk0];rfl),hka];rfl) ⟨rfl,H,L2'.cell (fun s=>rfl),?_⟩
   obtain⟨s,hbs,hos⟩:=L2'.blk
   refine xB_ hbs (hos.rd (by have:=hos.len;rw[bK_] at this;have e:(a1_.mk r 0 K H true).regs.length=r.length:=rfl;omega)) (by show r.length≤1000;omega) fun z2 gz2=>?_
   have L3':=L2'.go gz2
   have eK2:nS_ K H r=(!(in_ r H).isSome || !f4_ K):=by unfold nS_;rw[if_neg hk]
   have tail:∀{bb:Bool},bb=(in_ r H).isSome→((!(!bb))=true→(some (⟨tb,0,none⟩:Addr)).isSome=true)∧∃n14:Int,((!(!bb))=true→z2.cell? ((gA (some (⟨tb,0,none⟩:Addr))).add 2)=some (.int .u8 n14))∧bL_ (fun(b3:Bool) (w012:World)=>Br ((!bb)||(!b3)) (R none 3 w012) (R (some ⟨tb,0,none⟩) 0 w012)) fun J_1=>((!(!bb))=true→iv_ n14 z2 J_1)∧((!(!bb))=false→J_1 (Kd.dflt .b) z2):=by
    rintro bb rfl
    refine⟨fun _=>rfl,(K:Int),fun _=>L3'.cell (fun s=>rfl),?_⟩
    refine cI_ (fun(b3:Bool) z'=>z'=z2∧((!(!(in_ r H).isSome))=true→b3=f4_ K)) ?_ (fun J=>⟨fun _=>lk_ (J _ _ ⟨rfl,fun _=>rfl⟩),fun q=>J _ _ ⟨rfl,fun e=>by rw[q] at e;cases e⟩⟩)
    rintro b3 z' ⟨rfl,hb3⟩
    refine fin L3' ?_
    rw[if_neg hk]
    cases hq:(in_ r H).isSome with
    | false=>rfl
    | true=>rw[hb3 (by rw[hq];rfl)]
   cases hq:in_ r H with
   | some k=>exact tail (bb:=true) (by rw[hq];rfl)
   | none=>exact tail (bb:=false) (by rw[hq];rfl)
end
open Go CF
theorem p5_ {st:Wst} {file:ByteArray} {n:Nat} (h:Good (ch_ st file)):hm_ st file (dd_ st file 0 n):=by
 refine⟨h,fun j hj=>?_⟩
 have hj:j<n:=by unfold dd_ at hj;rwa [List.length_map,List.length_range] at hj
 unfold dd_
 rw[List.getElem?_map,List.getElem?_range hj,Option.map_some,Nat.zero_add]
 rfl
theorem p6_ (st:Wst) (file:ByteArray) (lba n:Nat):(dd_ st file lba n).length=n:=by unfold dd_;rw[List.length_map,List.length_range]
theorem ma_ {a b:Wst} {f:ByteArray} (h:a.seen f=b.seen f):ch_ a f=ch_ b f:=by unfold ch_;rw[h]
theorem lp_ {st:Wst} {f g:ByteArray} {lba:Nat} {rs:Nat→L8} (h:f≠g):∀k,(bO_ st g lba rs k).seen f=st.seen f
 | 0=>rfl
 | k+1=>by
  show fs_ (bO_ st g lba rs k).seen g _ _ f=st.seen f
  unfold fs_ rl_
  rw[if_neg h]
  exact lp_ h k
theorem oK_ {F:Int→Bool} {cache:Bool} {st:Wst} {f g:ByteArray} {lba n:Nat} {rs:Nat→L8} {fua:Bool} (h:f≠g):(mq_ F g cache st lba n rs fua).2.seen f=st.seen f:=by
 unfold mq_
 split
 ·exact lp_ h _
 ·show(dX_ _ (bO_ st g lba rs n)).seen f=_
  rw[pr_];exact lp_ h _
theorem pB_ {lba:Nat} {x:Option Nat×Wst}:(gY_ lba x).2=x.2:=by unfold gY_;split<;>rfl
theorem sb_ {F:Int→Bool} {cache:Bool} {st:Wst} {f g:ByteArray} {l:L8} (h:f≠g):∀k,(jr_ F g cache st l k).2.seen f=st.seen f
 | 0=>rfl
 | k+1=>by
  have ih:=sb_ (F:=F) (cache:=cache) (st:=st) (l:=l) h k
  unfold jr_
  cases hq:jr_ F g cache st l k with
  | mk o x=>
   rw[hq] at ih
   cases o with
   | some s=>exact ih
   | none=>
    dsimp only
    have:=oK_ (F:=F) (cache:=cache) (st:=x) (lba:=d5_ l k) (n:=fS_ l k) (rs:=fun _=>[0]) (fua:=false) h
    unfold jq_
    cases hx:mq_ F g cache x (d5_ l k) (fS_ l k) (fun _=>[0]) false with
    | mk o2 y=>
     rw[hx] at this
     cases o2<;>exact this.trans ih
theorem io_ {F:Int→Bool} {kind n:Nat} {cache:Bool} {st:Wst} {f g:ByteArray} {c:Cm} {l:L8} (h:f≠g):(doX F kind n cache g st c l).2.seen f=st.seen f:=by
 have wr:∀{L:List Bk} {fua:Bool} {s:Wst},s.seen=st.seen→(cA_ F g cache s c.lba L fua).2.seen f=st.seen f:=fun {L fua s} e=>by
  unfold cA_
  rw[pB_,oK_ h,e]
 unfold doX
 split
 ·rfl
 split
 ·rfl
 split
 ·split<;>rfl
 split
 ·split
  ·rfl
  ·exact wr rfl
 split
 ·unfold mT_
  split
  ·rfl
  ·split
   ·rfl
   ·split
    ·split<;>rfl
    ·rfl
 split
 ·split<;>rfl
 split
 ·unfold qv_
  split
  ·rfl
  ·split
   ·rw[pB_];exact oK_ h
   ·exact wr rfl
 split
 ·unfold oy_
  split
  ·rfl
  split
  ·rfl
  split
  ·rfl
  ·have:=sb_ (F:=F) (cache:=cache) (st:=st) (l:=l) h ((l.length-8)/16)
   split<;>(rename_i hq;rw[hq] at this;exact this)
 split
 ·unfold li_
  split
  ·rfl
  split
  ·rfl
  split
  ·rfl
  ·split
   ·rfl
   ·exact wr rfl
 split
 ·rfl
 ·rfl
open Go CF
structure UOk (st:Wst) (s:USt):Prop where
 n:1≤s.n∧s.n≤4096
 form:c7_ s.inf=true
 name:∃b:ByteArray,1≤b.size∧b.size≤28∧s.file=b++fn_∧s.keepf=b++gM_
 good:Good (ch_ st s.file)
 once:s.on=1∨(s.on=0∧s.lock=0)
structure SOk (st:Wst) (us:List (UA×USt)) (m:Nat):Prop where
 wok:Wok st
 few:st.ops≤m∧st.waits.length≤m
 units:∀x∈us,UOk st x.2
theorem UOk.sizes {st:Wst} {s:USt} (h:UOk st s):(1≤s.file.size∧s.file.size≤32)∧1≤s.keepf.size∧s.keepf.size≤30:=by
 obtain⟨b,h1,h2,h3,h4⟩:=h.name
 have e1:(b++fn_).size=b.size+2:=ln_ b fn_
 have e2:(b++gM_).size=b.size+2:=ln_ b gM_
 rw[h3,h4]
 omega
theorem UOk.prot {st:Wst} {s:USt} (h:UOk st s):s.inf.prot≤3:=(eA_ h.form).2.2.2.2.2
theorem UOk.same {st st':Wst} {s s':USt} (h:UOk st s) (hg:Good (ch_ st' s.file)) (e1:s'.inf=s.inf) (e2:s'.file=s.file) (e3:s'.keepf=s.keepf) (e4:s'.n=s.n) (e5:s'.on=s.on) (e6:s'.lock=s.lock):UOk st' s':=
 ⟨by rw[e4];exact h.n,by rw[e1];exact h.form,by rw[e2,e3];exact h.name,by rw[e2];exact hg,by rw[e5,e6];exact h.once⟩
section
variable {w u v:World} {S D D':Nat→Prop} {pw i m:Nat} {a:UA} {s:USt} {st st':Wst} {F F':Int→Bool} {ℓ ℓ':Nat→Option Nat} {us:List (UA×USt)}
open Classical in
theorem Sys.worldN (h:Sys w ℓ pw st F us) {D D':Nat→Prop} (hD:∀k,D k→ℓ k=some 0) (k:ac_ D w u) (hw:aZ_ u pw D' st' F') (hn:∀k,D' k→D k∨w.heap.size≤k):∃ℓ',Mv w u ℓ ℓ'∧Sys u ℓ' pw st' F' us∧∀b,ℓ' b≠none→ℓ b≠none∨D' b:=by
 have hsz:=k.size
 refine⟨fun b=>if w.heap.size≤b∧D' b then some 0 else ℓ b,⟨k.mono fun b hb q=>by rw[hD b q];exact Option.some_ne_none _,fun b hb=>if_neg o_⟩,⟨⟨D',hw,fun b hb=>?_⟩,fun j hj=>⟨(h.U j hj).1.step k (a9_.sub fun b _ q=>by rw[hD b q];exact Option.some_ne_none _) (fun b hb q=>?_) (fun b hb=>?_),fun b hb=>?_⟩,fun b hb=>?_⟩,fun b hb=>?_⟩
 ·rcases hn b hb with q|q
  ·by_cases r:w.heap.size≤b∧D' b
   ·exact if_pos r
   ·rw[if_neg r];exact hD b q
  ·exact if_pos ⟨q,hb⟩
 ·have:=(h.U j hj).2 b hb
  rw[hD b q] at this
  injection this with this
  omega
 ·by_cases r:w.heap.size≤b
  ·exact .inr r
  ·rw[if_neg o_] at hb;exact .inl hb
 ·have:=(h.U j hj).1.lt hb
  rw[if_neg o_]
  exact(h.U j hj).2 b hb
 ·by_cases r:w.heap.size≤b∧D' b
  ·exact hw.lt r.2
  ·rw[if_neg r] at hb
   have:=h.lt b hb
   omega
 ·by_cases r:w.heap.size≤b∧D' b
  ·exact .inr r.2
  ·dsimp only at hb;rw[if_neg r] at hb;exact .inl hb
def Dat (w u:World) (ℓ':Nat→Option Nat) (d:Sl) (l:L8):Prop:=Own u w.heap.size ae_ 1 d (bv l)∧∀b,d.blk=some b→ℓ' b=none
theorem Dat.nil (w u:World) (ℓ':Nat→Option Nat):Dat w u ℓ' au_ []:=⟨aG_ _ _ _ _,fun b hb=>by cases hb⟩
theorem Sys.dev (H:Sys w ℓ pw st F us) (K:SOk st us m) (hi:i<us.length) (he:us[i]=(a,s)):∃D,(∀k,D k→ℓ k=some 0)∧Dvq w a.dv a.ps pw s.file s.inf.prot s.n s.cache D st (dd_ st s.file 0 s.n) m F:=by
 obtain⟨D,hW,hD⟩:=H.W
 obtain⟨hU,hown⟩:=H.at hi he
 have O:UOk st s:=by have:=K.units us[i] (List.getElem_mem hi);rw[he] at this;exact this
 obtain⟨z1,z2,z3,z4,z5,z6,z7⟩:=de_ a
 have nD:∀{b},a.set b→¬D b:=fun hb q=>by
  have h1:=hown _ hb
  rw[hD _ q] at h1
  injection h1 with h1
  omega
 exact⟨D,hD,hU.dev,hU.store,hW,nD z3,nD z2,K.wok,p5_ O.good,p6_ _ _ _ _,O.n,O.sizes.1,O.prot,K.few⟩
theorem A0_ {b:ByteArray}:(ls (b++fn_)).getLast?=some 100:=by
 rw[rW_,List.getLast?_append]
 have:(ls fn_).getLast?=some 100:=d_
 rw[this];rfl
theorem uI_ {b c:ByteArray} {i:Nat} (hi:i<2):nmS b i≠c++fn_:=fun e=>by
 have h:=congrArg (fun x=>(ls x).getLast?) e
 rw[A0_] at h
 have:nmS b i=(b++oX_)++str [UInt8.ofNat (48+i)]:=rfl
 rw[this,rW_,List.getLast?_append,mF_] at h
 have h:some (UInt8.ofNat (48+i))=some 100:=h
 injection h with h
 have h2:=congrArg UInt8.toNat h
 rw[UInt8.toNat_ofNat',Nat.mod_eq_of_lt o_] at h2
 have:(100:UInt8).toNat=100:=rfl
 omega
theorem Aa_ {c:Cm} {p:Sl} {l:L8} {R:A_→W_} (hN:pZ_ c.kind) (H:Sys w ℓ pw st F us) (K:SOk st us m) (hm:m≤400000000) (hi:i<us.length) (he:us[i]=(a,s)) (hp:RdX w ℓ 1 p (bv l)) (hb:p.n≤140737488351232) (hlb:c.lba<18446744073709551616) (hbl:c.blocks<18446744073709551616)
  (hR:∀u ℓ' d,Mv w u ℓ ℓ'→Sys u ℓ' pw (doX F s.inf.prot s.n s.cache s.file st c l).2 F us→SOk (doX F s.inf.prot s.n s.cache s.file st c l).2 us (m+9000)→Dat w u ℓ' d (doX F s.inf.prot s.n s.cache s.file st c l).1.d→R (rsv (doX F s.inf.prot s.n s.cache s.file st c l).1.st (doX F s.inf.prot s.n s.cache s.file st c l).1.sn d).toArray u) :
  ca_ (some ⟨a.dv,0,none⟩) (cmv c).toArray p w R:=by
 obtain⟨D,hD,hv⟩:=H.dev K hi he
 have hpk:∀v,ac_ D w v→Rd v 1 p (bv l):=fun v k=>hp.rd.keepN k fun hne b hb q=>by
  have:=(hp.out hne b hb).2
  rw[hD _ q] at this
  cases this
 refine rU_ hN hv hm hp.rd hb hpk hlb hbl fun u D' bs' d hk hv' hD' ho=>?_
 obtain⟨ℓ',mv,Hs,hl⟩:=H.worldN hD hk hv'.isW hD'
 refine hR u ℓ' d mv Hs ⟨hv'.ok,hv'.few,fun x hx=>?_⟩ ⟨ho,fun b hb=>?_⟩
 ·have ok:=K.units x hx
  refine ok.same ?_ rfl rfl rfl rfl rfl rfl
  by_cases e:x.2.file=s.file
  ·rw[e];exact hv'.tells.1
  ·rw[ma_ (io_ e)];exact ok.good
 ·cases hq:ℓ' b with
  | none=>rfl
  | some y=>
   exfalso
   rcases hl b (by rw[hq];exact Option.some_ne_none _) with r|r
   ·have:=H.lt b r
    have:=(ho.ge b hb).1
    omega
   ·obtain⟨cur,hc⟩:=aS_ ho hb
    obtain⟨pl,_,mb,md,ws,cs,hd⟩:=hv'.isW
    exact hd.nb b cur hc r
end
open Go CF
structure lq_ where
 x:RsX
 s:USt
 w:Wst
abbrev uaS (c:Nat):Sn:=⟨6,c,0,false,0,0,false,false⟩
def ig_ (q:List Nat):Sn:=match i6_ q with|some c=>uaS c|none=>sn0
def A1_ (c:Cm) (q:List Nat):L8:=rs_ (if c.long then(jV_ (ig_ q)).1 else(hH_ (ig_ q)).1) c.alloc
def jW_ (F:Int→Bool) (s:USt) (st:Wst) (n:Nat) (c:Cm) (l:L8):lq_:=
 if c.kind=1 then⟨okX [],s,st⟩
 else if c.kind=2 then⟨okX (A1_ c (s.q n)),fk_ s n,st⟩
 else if c.kind=3 then match (if c.evpd then if_ s.inf c.page else some (oF_ s.inf)) with
  | some d=>⟨okX (rs_ d c.alloc),s,st⟩
  | none=>⟨snX (nO_ 2 7),s,st⟩
 else if c.kind=17 then⟨okX (rs_ (v7_ [0]) c.alloc),s,st⟩
 else if c.kind=5 then match do_ s.now s.saved c with
  | some d=>⟨okX (rs_ d c.alloc),s,st⟩
  | none=>⟨snX (fl_ 2 5 true),s,st⟩
 else⟨(doX F s.inf.prot s.n s.cache s.file st c l).1,s,(doX F s.inf.prot s.n s.cache s.file st c l).2⟩
structure lr_ (c:Cm):Prop where
 lba:c.lba<18446744073709551616
 blocks:c.blocks<18446744073709551616
 page:c.page<256
 service:c.service<256
 type:c.type<256
 alloc:c.kind=4→c.alloc≤1000000
theorem tV_ {q:List Nat} (h:∀c∈q,c<65536):SnB (ig_ q):=by
 unfold ig_ i6_
 cases hb:dn_ q q.length with
 | none=>show SnB sn0;exact⟨d_,d_,d_⟩
 | some i=>
  refine⟨by dsimp only[Option.map_some,uaS];omega,?_,by dsimp only[Option.map_some,uaS];omega⟩
  show q.getD i 0<65536
  rw[List.getD_eq_getElem?_getD]
  cases hq:q[i]? with
  | none=>decide
  | some c=>exact h c (List.mem_of_getElem? hq)
theorem wg_ (s:Sn):(hH_ s).1.length≤18:=by
 unfold hH_
 split
 ·decide
 split
 ·decide
 ·show(mX_ s).length≤18
  unfold mX_ ja_
  simp only[List.length_append,List.length_cons,List.length_nil]
  split<;>split<;>simp[bx_]
theorem xC_ (s:Sn):(jV_ s).1.length≤40:=by
 unfold jV_
 split
 ·decide
 ·show(sH_ s).length≤40
  unfold sH_ hp_ ja_
  simp only[List.length_append,List.length_cons,List.length_nil]
  split<;>split<;>simp[bx_]
theorem yV_ (i:dw_):(oF_ i).length≤1000:=by
 unfold oF_
 cases hf:c7_ i with
 | false=>rw[if_pos rfl];decide
 | true=>
  obtain⟨z1,z2,z3,z4,z5,z6⟩:=eA_ hf
  have l1:=cp_ i.v
  have l2:=cp_ i.p
  have l3:=cp_ i.r
  rw[if_neg Bool.noConfusion]
  simp only[List.length_append,List.length_cons,List.length_nil,iB_]
  omega
theorem xD_ {i:dw_} {p:Nat} {d:L8} (h:if_ i p=some d):d.length≤1000:=by
 unfold if_ at h
 cases hf:c7_ i with
 | false=>rw[hf,if_pos rfl] at h;cases h
 | true=>
  rw[hf,if_neg Bool.noConfusion] at h
  obtain⟨z1,z2,z3,z4,z5,z6⟩:=eA_ hf
  have l1:=cp_ i.s
  have l3:=rt_ hf
  obtain⟨b,hb,rfl⟩:=Option.map_eq_some_iff.1 h
  have:b.length≤64:=by
   unfold l5_ at hb
   split at hb
   ·injection hb with hb;subst hb;decide
   split at hb
   ·injection hb with hb;subst hb;omega
   split at hb
   ·injection hb with hb;subst hb;simp only[List.length_append,List.length_cons,List.length_nil];omega
   split at hb
   ·injection hb with hb;subst hb;decide
   split at hb
   ·injection hb with hb;subst hb;decide
   ·cases hb
  simp only[List.length_append,List.length_cons,List.length_nil]
  omega
theorem uJ_ {now saved:a4_} {c:Cm} {d:L8} (h:do_ now saved c=some d):d.length≤1000:=by
 unfold do_ at h
 split at h
 ·cases h
 ·injection h with h
  subst h
  have:=r8_ now saved c
  rw[List.length_append]
  unfold mY_
  split<;>simp only[List.length_cons,List.length_nil]<;>omega
theorem SOk.mono {st:Wst} {us:List (UA×USt)} {m m':Nat} (h:SOk st us m) (hm:m≤m'):SOk st us m':=⟨h.wok,⟨Nat.le_trans h.few.1 hm,Nat.le_trans h.few.2 hm⟩,h.units⟩
theorem SOk.put {st:Wst} {us:List (UA×USt)} {m i:Nat} {x:UA×USt} (h:SOk st us m) (hx:UOk st x.2):SOk st (us.set i x) m:=⟨h.wok,h.few,fun y hy=>(List.mem_or_eq_of_mem_set hy).elim (h.units y) fun e=>e▸hx⟩
theorem SOk.at {st:Wst} {us:List (UA×USt)} {m i:Nat} {a:UA} {s:USt} (h:SOk st us m) (hi:i<us.length) (he:us[i]=(a,s)):UOk st s:=by
 have:=h.units us[i] (List.getElem_mem hi)
 rw[he] at this;exact this
theorem js_ {us:List (UA×USt)} {i:Nat} {x:UA×USt} (hi:i<us.length) (he:us[i]=x):us.set i x=us:=by
 rw[←he];exact List.set_getElem_self hi
section
variable {w u v w3:World} {S D D':Nat→Prop} {pw i m n ab:Nat} {a:UA} {s:USt} {st st':Wst} {F F':Int→Bool} {ℓ ℓ' ℓ1:Nat→Option Nat} {us:List (UA×USt)} {X:lq_} {R:A_→W_} {d:Sl} {l:L8}
def fX_ (w:World) (ℓ:Nat→Option Nat) (pw:Nat) (F:Int→Bool) (us:List (UA×USt)) (i:Nat) (a:UA) (m:Nat) (X:lq_) (R:A_→W_):Prop:=
 ∀v ℓ' d,Mv w v ℓ ℓ'→Sys v ℓ' pw X.w F (us.set i (a,X.s))→SOk X.w (us.set i (a,X.s)) (m+200000)→Dat w v ℓ' d X.x.d→R (rsv X.x.st X.x.sn d).toArray v
theorem Dat.from {w u v:World} {ℓ':Nat→Option Nat} {d:Sl} {l:L8} (h:Dat u v ℓ' d l) (g:w.heap.size≤u.heap.size):Dat w v ℓ' d l:=⟨h.1.mono g,h.2⟩
theorem fX_.ret (h:fX_ w ℓ pw F us i a m X R) (mv:Mv w v ℓ ℓ') (H:Sys v ℓ' pw X.w F (us.set i (a,X.s))) (K:SOk X.w (us.set i (a,X.s)) (m+200000)) (dt:Dat w v ℓ' d X.x.d) (hab:w.heap.size≤ab) (hn:ℓ' ab=none) (hb:Blk v ab z10 aa_):cu_ ab R (rsv X.x.st X.x.sn d).toArray v:=
 aW_ hb rfl fun v' hk=>h v' ℓ' d (mv.loc hk fun b hb2 q=>o_) (H.local1 hb hn hk (eO_ d_ d_ d_) d_) K ⟨dt.1.keep hk fun b hbb q=>bd_ dt.1 hb d_ (by rw[hbb,q]),dt.2⟩
theorem fX_.hand (h:fX_ w ℓ pw F us i a m X R) (mv:Mv w w3 ℓ ℓ1) (g:w.heap.size≤w3.heap.size) (hab:w.heap.size≤ab) (hn:ℓ1 ab=none) (hb:Blk w3 ab z10 aa_):fX_ w3 ℓ1 pw F us i a m X (cu_ ab R):=fun v ℓ' d mv2 H K dt=>
 h.ret (mv.trans mv2) H K (dt.from g) hab (by rw[mv2.lab _ (aw_ hb)];exact hn) (mv2.heap hb hn)
theorem Dat.new {w u v:World} {ℓ:Nat→Option Nat} (H:Sys w ℓ pw st F us) (g:ab_ w u) (h:Own v u.heap.size ae_ 1 d (bv l)):Dat w v ℓ d l:=⟨h.mono g.size,fun b hb=>H.fresh (by have:=(h.ge b hb).1;have:=g.size;omega)⟩
theorem oL_ {xs:Sl} {l:L8} {base:Nat} (h:Own v base ae_ 1 xs (bv l)) (hl:l.length≤1000):Rd v 1 xs (bv l)∧xs.n≤1000000:=by
 have:=gD_ h
 exact⟨h.rd o_,o_⟩
end
open Go CF
def p7_ (t:a1_):L8:=if (a3_ t).1=0 then [] else(match t.regs.reverse.find? fun r=>decide ((r.1:Int)=(a3_ t).2) with
 | some r=>beN 8 r.2
 | none=>List.replicate 8 0)++[0,0,0,0,0,UInt8.ofNat (a3_ t).1,0,0]
def qV_ (t:a1_) (r:Nat×Nat):L8:=[if cl_ t r.1 then 1 else 0,if cl_ t r.1 then UInt8.ofNat (a3_ t).1 else 0,0,UInt8.ofNat r.1]
def hq_ (t:a1_) (svc:Nat) (r:Nat×Nat):L8:=beN 8 r.2++if svc=3 then qV_ t r else []
def fw_ (t:a1_) (svc:Nat):L8:=if svc=1 then p7_ t else t.regs.flatMap (hq_ t svc)
def inX (t:a1_) (svc:Nat):L8:=if svc=2 then [0,8,1,128,234,1,0,0] else beN 4 t.gen++beN 4 (fw_ t svc).length++fw_ t svc
theorem xE_ (t:a1_) (svc:Nat) (r:Nat×Nat):(hq_ t svc r).length≤12:=by
 unfold hq_ qV_
 rw[List.length_append,bx_]
 split<;>simp
theorem nU_ (t:a1_) (svc:Nat):∀l:List (Nat×Nat),(l.flatMap (hq_ t svc)).length≤12*l.length
 | []=>Nat.le_refl _
 | r::l=>by
  have:=xE_ t svc r
  have:=nU_ t svc l
  rw[List.flatMap_cons,List.length_append,List.length_cons];omega
theorem yW_ (t:a1_):(p7_ t).length≤16:=by
 unfold p7_
 split
 ·decide
 ·rw[List.length_append]
  split<;>simp[bx_]
theorem qW_ {t:a1_} (ok:d3_ t) (svc:Nat):(fw_ t svc).length≤96:=by
 unfold fw_
 split
 ·have:=yW_ t;omega
 ·have:=nU_ t svc t.regs;have:=ok.few;omega
theorem Ab_ {t:a1_} (ok:d3_ t) (svc:Nat):(inX t svc).length≤1000:=by
 have:=qW_ ok svc
 unfold inX
 split
 ·decide
 ·simp only[List.length_append,bx_];omega
theorem xF_ {l:List (Nat×Nat)} {q:Nat×Nat→Bool} {j:Nat} (hj:j<l.length):(l.take (j+1)).reverse.find? q=if q l[j]=true then some l[j] else(l.take j).reverse.find? q:=by
 rw[List.take_succ_eq_append_getElem hj,List.reverse_append,List.reverse_singleton,List.singleton_append,List.find?_cons]
 cases q l[j]<;>rfl
theorem wh_ (k:Nat):(List.replicate k (Value.int .u8 0))=bv (List.replicate k 0):=by simp[bv]
section
variable {w u v:World} {N:Nat→Prop} {pw svc:Nat} {a:UA} {s:USt}
theorem Ac_ {R:Sl→W_} (hU:IsU w N pw a s) {body:Sl} {v:World} (hg:ab_ w v) (hb:Own v w.heap.size ae_ 1 body (bv (fw_ s.tab svc))) (h2:svc≠2) (h:∀xs z,ab_ w z→Own z w.heap.size ae_ 1 xs (bv (inX s.tab svc))→R xs z) :
  ∀w02,w02=v.drew→∃S:W_,S w02∧(some (⟨a.ub,0,none⟩:Addr)).isSome=true∧∃p1:O_,(∀u1,S u1→u1.cell? ((gA (some (⟨a.ub,0,none⟩:Addr))).add 8)=some (.pointer p1))∧(an_ Tryz.prog .sl (Instr.makeSlice aB_ (.int .i64 8) (.int .i64 8)) w02 fun xs w03=>S w03∧d7_ p1 w03 fun n2 w04=>bt_ xs 0 4 (IntKind.wrap .u64 n2) w04 fun xs1 _ w05=>bt_ xs1 4 4 (IntKind.wrap .u64 (body.n:Int)) w05 fun xs2 _ w06=>an_ Tryz.prog .sl (Builtin.append_ #[aB_,aB_] aB_ #[.slice xs2.A xs2.n xs2.c,.slice body.A body.n body.c]) w06 fun xs3 w07=>R xs3 w07)∧d7_ p1 w02 fun n5 w08=>an_ Tryz.prog .sl (Instr.makeSlice aB_ (.int .i64 8) (.int .i64 8)) w08 fun xs4 w09=>S w09∧bt_ xs4 0 4 (IntKind.wrap .u64 n5) w09 fun xs5 _ w010=>bt_ xs5 4 4 (IntKind.wrap .u64 (body.n:Int)) w010 fun xs6 _ w011=>an_ Tryz.prog .sl (Builtin.append_ #[aB_,aB_] aB_ #[.slice xs6.A xs6.n xs6.c,.slice body.A body.n body.c]) w011 fun xs7 w012=>R xs7 w012:=by
 rintro w1 rfl
 have g1:ab_ w v.drew:=hg.trans (am_ v)
 have hb1:Own v.drew w.heap.size ae_ 1 body (bv (fw_ s.tab svc)):=hb.grow (am_ v)
 generalize v.drew=w1 at *
 have hbl:=qW_ hU.tab.ok svc
 have hbn:=gD_ hb1
 have hgen:=hU.tab.ok.gen
 have p4:(256:Nat) ^ 4=4294967296:=rfl
 have fin:∀{xs:Sl} {y:World},ab_ w1 y→Own y w1.heap.size ae_ 1 xs (bv (List.replicate 8 0))→bt_ xs 0 4 (IntKind.wrap .u64 (s.tab.gen:Int)) y fun xs1 _ w05=>bt_ xs1 4 4 (IntKind.wrap .u64 (body.n:Int)) w05 fun xs2 _ w06=>an_ Tryz.prog .sl (Builtin.append_ #[aB_,aB_] aB_ #[.slice xs2.A xs2.n xs2.c,.slice body.A body.n body.c]) w06 fun xs3 w07=>R xs3 w07:=fun {xs y} gy hy=>by
  have n8:=gD_ hy
  rw[List.length_replicate] at n8
  rw[bZ_ o_ o_]
  refine b7_ (at_:=0) (n:=4) (v:=s.tab.gen) (hy.rd o_) o_ d_ d_ (by rw[List.length_replicate];decide) (by rw[p4];exact hgen) fun x2 y2 o2 g2=>?_
  have l2:(lay (List.replicate 8 0) 0 4 s.tab.gen).length=8:=p4_ _ (by simp)
  have n2:=gD_ o2
  rw[bZ_ o_ o_]
  refine b7_ (at_:=4) (n:=4) (v:=body.n) (o2.rd o_) o_ d_ d_ (by rw[l2];decide) (by rw[p4];omega) fun x3 y3 o3 g3=>?_
  have l3:(lay (lay (List.replicate 8 0) 0 4 s.tab.gen) 4 4 body.n).length=8:=by rw[p4_ _ (by rw[l2];decide),l2]
  have n3:=gD_ o3
  have g13:=(gy.trans g2).trans g3
  have gw3:=g1.trans g13
  have gs2:=(gy.trans g2).size
  have gs1:=g1.size
  refine aN_ aE_ a6_ rfl d_ d_ (o3.mono (show w.heap.size≤y2.heap.size by omega)) ((hb1.grow g13).rd o_) (cg_ _) (by show(x3.n+body.n)*1≤_;omega) gw3.size fun x4 y4 n4 o4 k4 _=>?_
  refine h x4 y4 (gw3.keep k4 fun b hb q=>by have:=(o3.ge b q.symm).1;omega) ?_
  have e:lay (lay (List.replicate 8 0) 0 4 s.tab.gen) 4 4 body.n=beN 4 s.tab.gen++beN 4 body.n:=by
   unfold lay
   simp[beN]
  have e2:inX s.tab svc=beN 4 s.tab.gen++beN 4 body.n++fw_ s.tab svc:=by unfold inX;rw[if_neg h2,hbn]
  rw[e2,←e]
  unfold bv at o4 ⊢
  rw[List.map_append];exact o4
 refine⟨fun z=>ab_ w1 z,ac_.refl _ _,rfl,some ⟨a.tb,0,none⟩,fun z q=>(hU.grow (g1.trans q)).cellU fun P=>rfl,?_,?_⟩
 ·refine cy_ (n:=8) aE_ a6_ rfl d_ d_ (base:=w1.heap.size) (Nat.le_refl _) fun w2 o2 g2 _=>⟨g2,?_⟩
  rw[wh_] at o2
  exact qT_ (hU.grow (g1.trans g2)).tab (fin g2 o2)
 ·refine qT_ (hU.grow g1).tab ?_
  refine cy_ (n:=8) aE_ a6_ rfl d_ d_ (base:=w1.heap.size) (Nat.le_refl _) fun w2 o2 g2 _=>⟨g2,?_⟩
  rw[wh_] at o2
  exact fin g2 o2
theorem Ad_ {t:a1_} (ok:d3_ t):(a3_ t).1<256:=by
 unfold a3_
 have:=ok.kind
 split
 ·decide
 ·split<;>exact this
theorem Ae_ {R:Sl→W_} (hU:IsU w N pw a s) (hN:∀b,N b→b<w.heap.size) (hsv:svc<256) (h:∀xs z,ab_ w z→Own z w.heap.size ae_ 1 xs (bv (inX s.tab svc))→R xs z):hO_ (some ⟨a.ub,0,none⟩) (svc:Int) w R:=by
 refine hW_.calls _ _ _ _ ⟨rfl,some ⟨a.tb,0,none⟩,hU.cellU fun P=>rfl,?_⟩
 refine l1_ hU.tab fun w0 g0=>?_
 have hU0:=hU.grow g0
 have ok:=hU.tab.ok
 have hf:=ok.few
 have hrk:=Ad_ ok
 generalize hK:(a3_ s.tab).1=kd at *
 generalize hH:(a3_ s.tab).2=hd at *
 have e1:(kd:Int)=(((UInt8.ofNat kd).toNat:Nat):Int):=by rw[←aV_,wu8 o_ o_]
 refine aX_ (fun body v=>svc≠2∧ab_ w v∧Own v w.heap.size ae_ 1 body (bv (fw_ s.tab svc))) ?_ (fun J=>?_)
 ·rintro body v ⟨h2,hg,hb⟩
  exact Ac_ hU hg hb h2 h
 refine ay_ (y:=2) (fun h2=>?_) (fun h2=>?_)
 ·refine aJ_ (cells:=(bv [0,8,1,128,234,1,0,0]).toArray) (e:=ae_) (z:=1) (base:=w.heap.size) k_ rfl d_ g0.size fun w1 o1 g1 _=>?_
  refine h _ w1 (g0.trans g1) ?_
  have:inX s.tab svc = [0,8,1,128,234,1,0,0]:=by unfold inX;rw[if_pos o_]
  rw[this];exact o1
 have h2:svc≠2:=o_
 refine ay_ (y:=1) (fun h1=>?_) (fun h1=>?_)
 ·have h1:svc=1:=o_
  have eb:fw_ s.tab svc=p7_ s.tab:=by unfold fw_;rw[if_pos h1]
  refine eR_ (fun hk=>?_) (fun hk=>?_)
  ·have hk:kd≠0:=o_
   refine cy_ (n:=16) aE_ a6_ rfl d_ d_ (base:=w0.heap.size) (Nat.le_refl _) fun w1 o1 g1 _=>?_
   rw[wh_] at o1
   have n1:=gD_ o1
   rw[List.length_replicate] at n1
   refine⟨⟨d_,by dsimp only;decide,rfl⟩,?_⟩
   have hA:(some (⟨w0.heap.size,0,none⟩:Addr)).isSome=true:=rfl
   rw[e1]
   refine bT_ (i:=13) (s:=⟨some ⟨w0.heap.size,0,none⟩,16,16⟩) o1 (by dsimp only;decide) rfl fun w2 o2 k2 _=>?_
   have gw1:=g0.trans g1
   have gw2:ab_ w w2:=gw1.keep k2 fun b hb q=>by have:=(o1.ge b q.symm).1;have:=g0.size;omega
   have o2:Own w2 w0.heap.size ae_ 1 ⟨some ⟨w0.heap.size,0,none⟩,16,16⟩ (bv (List.replicate 8 0++[0,0,0,0,0,UInt8.ofNat kd,0,0])):=o2
   refine⟨rfl,some ⟨a.tb,0,none⟩,(hU.grow gw2).cellU fun P=>rfl,pv_ (hU.grow gw2).tab fun x w3 g3 o3=>?_⟩
   have rx:Rd w3 2 x (rgv s.tab.regs):=o3.rd (by have:=o3.len;rw[bK_] at this;omega)
   have hxn:x.n=s.tab.regs.length:=by have:=o3.len;rw[bK_] at this;omega
   have gw3:=gw2.trans g3
   have o2':=o2.grow g3
   have er:∀r:Nat×Nat,decide ((r.1:Int)=(a3_ s.tab).2)=decide ((r.1:Int)=hd):=fun r=>by rw[hH]
   let bodyAt:Nat→L8:=fun j=>(match (s.tab.regs.take j).reverse.find? fun r=>decide ((r.1:Int)=hd) with
    | some r=>beN 8 r.2
    | none=>List.replicate 8 0)++[0,0,0,0,0,UInt8.ofNat kd,0,0]
   have bl:∀j,(bodyAt j).length=16:=fun j=>by
    show((match (s.tab.regs.take j).reverse.find? fun r=>decide ((r.1:Int)=hd) with
    | some r=>beN 8 r.2
    | none=>List.replicate 8 0)++[0,0,0,0,0,UInt8.ofNat kd,0,0]).length=16
    rw[List.length_append]
    split<;>simp[bx_]
   refine⟨fun p y v=>∃j:Nat,y=j∧j≤s.tab.regs.length∧ab_ w3 v∧Own v w.heap.size ae_ 1 p (bv (bodyAt j)),fun _ y _=>x.n-y.toNat,⟨0,rfl,Nat.zero_le _,ac_.refl _ _,o2'.mono g0.size⟩,?_⟩
   rintro p y v ⟨j,rfl,hj,hg,ho⟩
   refine ba_ (fun hlt=>?_) (fun hge=>?_)
   ·have hjl:j<s.tab.regs.length:=o_
    have rb1:=ok.regs s.tab.regs[j] (List.getElem_mem hjl)
    have pn:=gD_ ho
    rw[bl] at pn
    refine aX_ (fun p' v'=>ab_ w3 v'∧Own v' w.heap.size ae_ 1 p' (bv (bodyAt (j+1)))) ?_ (fun J2=>?_)
    ·rintro p' v' ⟨hg',ho'⟩
     rw[w64 o_ o_]
     exact⟨⟨j+1,o_,o_,hg',ho'⟩,by dsimp only;omega⟩
    refine fW_ (rx.grow hg) hjl fun rb y1 g2 br _=>?_
    refine⟨(s.tab.regs[j].1:Int),by rw[ao_,br.cell];rfl,?_⟩
    have hs:=xF_ (q:=fun r=>decide ((r.1:Int)=hd)) hjl
    refine ay_ (fun e=>?_) (fun e=>?_)
    ·rw[if_pos (by simpa using e)] at hs
     have p8:(256:Nat) ^ 8=18446744073709551616:=rfl
     refine⟨(s.tab.regs[j].2:Int),by rw[ao_,br.cell];rfl,?_⟩
     refine b7_ (at_:=0) (n:=8) (v:=s.tab.regs[j].2) ((ho.grow g2).rd o_) o_ d_ d_ (by rw[bl];decide) (by rw[p8];exact rb1.2.2) fun p2 y2 o4 g4=>J2 p2 y2 ⟨(hg.trans g2).trans g4,?_⟩
     have e4:lay (bodyAt j) 0 8 s.tab.regs[j].2=bodyAt (j+1):=by
      show(bodyAt j).take 0++beN 8 s.tab.regs[j].2++(bodyAt j).drop (0+8)=(match (s.tab.regs.take (j+1)).reverse.find? fun r=>decide ((r.1:Int)=hd) with
       | some r=>beN 8 r.2
       | none=>List.replicate 8 0)++[0,0,0,0,0,UInt8.ofNat kd,0,0]
      rw[hs,List.take_zero,List.nil_append]
      congr 1
      show((match (s.tab.regs.take j).reverse.find? fun r=>decide ((r.1:Int)=hd) with
       | some r=>beN 8 r.2
       | none=>List.replicate 8 0)++[0,0,0,0,0,UInt8.ofNat kd,0,0]).drop 8=_
      split<;>rw[List.drop_append_of_le_length (by simp[bx_])]<;>simp[bx_,List.drop_eq_nil_of_le]
     rw[e4] at o4
     exact o4.mono (by have:=(gw3.trans (hg.trans g2)).size;omega)
    ·rw[if_neg (by simpa using e)] at hs
     refine J2 p y1 ⟨hg.trans g2,?_⟩
     have e4:bodyAt (j+1)=bodyAt j:=by show(match (s.tab.regs.take (j+1)).reverse.find? fun r=>decide ((r.1:Int)=hd) with
       | some r=>beN 8 r.2
       | none=>List.replicate 8 0)++[0,0,0,0,0,UInt8.ofNat kd,0,0]=_;rw[hs]
     rw[e4];exact ho.grow g2
   ·have:j=s.tab.regs.length:=o_
    subst this
    refine J p v ⟨h2,gw3.trans hg,?_⟩
    have e4:bodyAt s.tab.regs.length=fw_ s.tab svc:=by
     rw[eb]
     unfold p7_
     rw[hK,hH,if_neg hk]
     show(match (s.tab.regs.take s.tab.regs.length).reverse.find? fun r=>decide ((r.1:Int)=hd) with
      | some r=>beN 8 r.2
      | none=>List.replicate 8 0)++[0,0,0,0,0,UInt8.ofNat kd,0,0]=_
     rw[List.take_length]
    rw[←e4];exact ho
  ·have hk:kd=0:=o_
   refine J au_ w0 ⟨h2,g0,?_⟩
   have:p7_ s.tab = []:=by unfold p7_;rw[if_pos (by rw[hK];exact hk)]
   rw[eb,this];exact aG_ _ _ _ _
 ·have h1:svc≠1:=o_
  have eb:fw_ s.tab svc=s.tab.regs.flatMap (hq_ s.tab svc):=by unfold fw_;rw[if_neg h1]
  refine⟨rfl,some ⟨a.tb,0,none⟩,hU0.cellU fun P=>rfl,pv_ hU0.tab fun x w3 g3 o3=>?_⟩
  have rx:Rd w3 2 x (rgv s.tab.regs):=o3.rd (by have:=o3.len;rw[bK_] at this;omega)
  have hxn:x.n=s.tab.regs.length:=by have:=o3.len;rw[bK_] at this;omega
  have gw3:=g0.trans g3
  refine⟨fun p y v=>∃j:Nat,y=j∧j≤s.tab.regs.length∧Row w3 v p ((s.tab.regs.take j).flatMap (hq_ s.tab svc)),fun _ y _=>x.n-y.toNat,⟨0,rfl,Nat.zero_le _,Row.nil (ac_.refl _ _)⟩,?_⟩
  rintro p y v ⟨j,rfl,hj,ry⟩
  refine ba_ (fun hlt=>?_) (fun hge=>?_)
  ·have hjl:j<s.tab.regs.length:=o_
   have rb1:=ok.regs s.tab.regs[j] (List.getElem_mem hjl)
   have hlen:((s.tab.regs.take j).flatMap (hq_ s.tab svc)).length≤96:=by
    have:=nU_ s.tab svc (s.tab.regs.take j)
    rw[List.length_take] at this;omega
   refine aX_ (fun p' v'=>Row w3 v' p' ((s.tab.regs.take (j+1)).flatMap (hq_ s.tab svc))) ?_ (fun J2=>?_)
   ·rintro p' v' ry'
    rw[w64 o_ o_]
    exact⟨⟨j+1,o_,o_,ry'⟩,by dsimp only;omega⟩
   rw[List.take_succ_eq_append_getElem hjl,List.flatMap_append,List.flatMap_singleton] at J2
   refine fW_ (rx.grow ry.grow) hjl fun rb y1 g2 br _=>?_
   rintro y2 rfl
   have g3':=g2.trans (am_ y1)
   have b3:Blk y1.drew rb (rgc s.tab.regs[j]).toArray aF_:=(am_ y1).heap br (fun q=>q)
   generalize y1.drew=y2 at *
   refine⟨fun z=>Blk z rb (rgc s.tab.regs[j]).toArray aF_,b3,(s.tab.regs[j].2:Int),fun z q=>by rw[ao_,q.cell];rfl,?_⟩
   refine cy_ (n:=8) aE_ a6_ rfl d_ d_ (base:=y2.heap.size) (Nat.le_refl _) fun y3 ho3 g4 hs4=>⟨g4.heap b3 (fun q=>q),?_⟩
   rw[wh_] at ho3
   have p8:(256:Nat) ^ 8=18446744073709551616:=rfl
   refine b7_ (at_:=0) (n:=8) (v:=s.tab.regs[j].2) (ho3.rd (by dsimp only;decide)) (by dsimp only;decide) d_ d_ d_ (by rw[p8];exact rb1.2.2) fun x4 y4 ho4 g5=>?_
   have b4:Blk y4 rb (rgc s.tab.regs[j]).toArray aF_:=(g4.trans g5).heap b3 (fun q=>q)
   have hl8:lay (List.replicate 8 0) 0 8 s.tab.regs[j].2=beN 8 s.tab.regs[j].2:=rfl
   rw[hl8] at ho4
   have hn4:x4.n=8:=by have:=cY_ ho4;rw[bx_] at this;exact this
   have r4:=ry.go ((g3'.trans g4).trans g5)
   refine r4.app (ho4.rd o_) (by rw[bx_];omega) fun p6 y6 r6 k6=>?_
   have b6:Blk y6 rb (rgc s.tab.regs[j]).toArray aF_:=r4.blk k6 b4 d_
   refine ay_ (y:=3) (fun h3=>?_) (fun h3=>?_)
   ·have h3:svc=3:=o_
    have ei:hq_ s.tab svc s.tab.regs[j]=beN 8 s.tab.regs[j].2++qV_ s.tab s.tab.regs[j]:=by unfold hq_;rw[if_pos h3]
    rw[ei,←List.append_assoc] at J2
    rintro y7 rfl
    have g7:=am_ y6
    have r7:=r6.go g7
    have b7:Blk y6.drew rb (rgc s.tab.regs[j]).toArray aF_:=g7.heap b6 (fun q=>q)
    generalize y6.drew=y7 at *
    have hU7:=hU.grow (gw3.trans r7.grow)
    refine⟨fun z=>z=y7,rfl,rfl,some ⟨a.tb,0,none⟩,(by rintro z rfl;exact hU7.cellU fun P=>rfl),(s.tab.regs[j].1:Int),(by rintro z rfl;rw[ao_,b7.cell];rfl),i7_ hU7.tab fun y8 g8=>?_⟩
    have r8:=r7.go g8
    have b8:Blk y8 rb (rgc s.tab.regs[j]).toArray aF_:=g8.heap b7 (fun q=>q)
    refine sy_ (fun(hd2 t2:Int) z=>z=y8∧hd2=(((if cl_ s.tab s.tab.regs[j].1 then 1 else 0:UInt8).toNat:Nat):Int)∧t2=(((if cl_ s.tab s.tab.regs[j].1 then UInt8.ofNat kd else 0:UInt8).toNat:Nat):Int)) ?_ (fun J3=>?_)
    ·rintro hd2 t2 z ⟨rfl,rfl,rfl⟩
     refine⟨(s.tab.regs[j].1:Int),by rw[ao_,b8.cell];rfl,?_⟩
     rw[aV_]
     have ef:qV_ s.tab s.tab.regs[j] = [if cl_ s.tab s.tab.regs[j].1 then 1 else 0,if cl_ s.tab s.tab.regs[j].1 then UInt8.ofNat kd else 0,0,UInt8.ofNat s.tab.regs[j].1]:=by unfold qV_;rw[hK]
     rw[ef] at J2
     generalize (if cl_ s.tab s.tab.regs[j].1 then 1 else 0:UInt8)=q1 at *
     generalize (if cl_ s.tab s.tab.regs[j].1 then UInt8.ofNat kd else 0:UInt8)=q2 at *
     have hl4:(Instr.buildSlice aB_ 4 #[(0,.int .u8 ((q1.toNat:Nat):Int)),(1,.int .u8 ((q2.toNat:Nat):Int)),(2,.int .u8 0),(3,.int .u8 (((UInt8.ofNat s.tab.regs[j].1).toNat:Nat):Int))]).run Tryz.prog z=.ok (.slice (some ⟨z.heap.size,0,none⟩) 4 4) (z.alloc (.cells (bv [q1,q2,0,UInt8.ofNat s.tab.regs[j].1]).toArray ae_)):=k_
     have hln:((s.tab.regs.take j).flatMap (hq_ s.tab svc)++beN 8 s.tab.regs[j].2).length≤104:=by rw[List.length_append,bx_];omega
     exact r8.lit hl4 rfl (by show _+4≤_;omega) fun p9 y9 r9 k9=>J2 p9 y9 r9
    ·cases hh:cl_ s.tab s.tab.regs[j].1 with
     | true=>rw[hh] at J3;exact al_ rfl (J3 1 kd y8 ⟨rfl,rfl,by rw[if_pos rfl];exact e1⟩)
     | false=>rw[hh] at J3;exact ai_ rfl (J3 0 0 y8 ⟨rfl,rfl,rfl⟩)
   ·have h3:svc≠3:=o_
    have ei:hq_ s.tab svc s.tab.regs[j]=beN 8 s.tab.regs[j].2:=by unfold hq_;rw[if_neg h3,List.append_nil]
    rw[ei] at J2
    exact J2 p6 y6 r6
  ·have:j=s.tab.regs.length:=o_
   subst this
   rw[List.take_length,←eb] at ry
   exact J p v ⟨h2,gw3.trans ry.grow,ry.own.mono (gw3.size)⟩
end
open Go CF
section
variable {w u v w3:World} {S D D':Nat→Prop} {pw i m n ab:Nat} {a:UA} {s:USt} {st st':Wst} {F F':Int→Bool} {ℓ ℓ' ℓ1:Nat→Option Nat} {us:List (UA×USt)} {X:lq_} {R:A_→W_} {out:Sl} {l:L8} {c:Cm}
structure Bm_ (w:World) (ℓ:Nat→Option Nat) (pw:Nat) (F:Int→Bool) (us:List (UA×USt)) (i:Nat) (a:UA) (n:Nat) (c:Cm) (out:Sl) (R:A_→W_):Prop where
 sel:c.kind=4→∀w2 ab,ab_ w w2→w.heap.size≤ab→Blk w2 ab z10 aa_→fo_ (some ⟨a.ub,0,none⟩) (n:Int) (cmv c).toArray out w2 (cu_ ab R)
 prout:c.kind=16→∀w2 ab,ab_ w w2→w.heap.size≤ab→Blk w2 ab z10 aa_→fp_ (some ⟨a.ub,0,none⟩) (n:Int) (cmv c).toArray out w2 (cu_ ab R)
 copy:c.kind=18→∀w2 ab,ab_ w w2→w.heap.size≤ab→Blk w2 ab z10 aa_→ed_ (some ⟨a.ub,0,none⟩) (n:Int) (cmv c).toArray out w2 (cu_ ab R)
def my_ (F:Int→Bool) (s:USt) (st:Wst) (n:Nat) (c:Cm) (l:L8):lq_:=if c.kind=15 then⟨okX (rs_ (inX s.tab c.service) c.alloc),s,st⟩ else jW_ F s st n c l
structure jX_ (k:Nat):Prop where
 fixed:k=2→∀{w:World} {s:Sn} {R:Sl→Int→W_},SnB s→(∀xs w',ab_ w w'→Own w' w.heap.size ae_ 1 xs (bv (hH_ s).1)→R xs ((hH_ s).2:Int) w')→gR_ (snv s).toArray w R
 desc:k=2→∀{w:World} {s:Sn} {R:Sl→Int→W_},SnB s→(∀xs w',ab_ w w'→Own w' w.heap.size ae_ 1 xs (bv (jV_ s).1)→R xs ((jV_ s).2:Int) w')→dT_ (snv s).toArray w R
 std:k=3→∀{w:World} {i:dw_} {R:Sl→W_},c7_ i=true→(∀xs w',ab_ w w'→Own w' w.heap.size ae_ 1 xs (bv (oF_ i))→R xs w')→hN_ (co_ i).toArray w R
 page:k=3→∀{w:World} {i:dw_} {page:Nat} {R:Sl→Bool→W_},c7_ i=true→page<256→(∀xs w',ab_ w w'→Own w' w.heap.size ae_ 1 xs (bv ((if_ i page).getD []))→R xs (if_ i page).isSome w')→lB_ (co_ i).toArray (page:Int) w R
 luns:k=17→∀{w:World} {p:Sl} {l:List Nat} {R:Sl→W_},Rd w 1 p (tL_ l)→l.length≤1000→(∀xs w',ab_ w w'→Own w' w.heap.size ae_ 1 xs (bv (v7_ l))→R xs w')→lC_ p w R
 msense:k=5→∀{w:World} {pb:Nat} {now saved:a4_} {c:Cm} {R:Sl→A_→Bool→W_},IsP w pb now saved→
  (match do_ now saved c with
   | none=>∀w',ab_ w w'→R au_ (snv (fl_ 2 5 true)).toArray false w'
   | some l=>∀xs w',ab_ w w'→Own w' w.heap.size ae_ 1 xs (bv l)→R xs (snv sn0).toArray true w')→dy_ (some ⟨pb,0,none⟩) (cmv c).toArray w R
 prin:k=15→∀{w:World} {N:Nat→Prop} {pw:Nat} {a:UA} {s:USt} {svc:Nat} {R:Sl→W_},IsU w N pw a s→(∀b,N b→b<w.heap.size)→svc<256→(∀xs z,ab_ w z→Own z w.heap.size ae_ 1 xs (bv (inX s.tab svc))→R xs z)→hO_ (some ⟨a.ub,0,none⟩) (svc:Int) w R
 inlen:k=15→∀{t:a1_},d3_ t→∀svc:Nat,(inX t svc).length≤1000
 dev:k≠1→k≠2→k≠3→k≠17→k≠5→k≠4→k≠15→k≠16→k≠18→pZ_ k
theorem yX_ (hN:c.kind≠4→c.kind≠16→c.kind≠18→jX_ c.kind) (H:Sys w ℓ pw st F us) (K:SOk st us m) (hm:m≤400000000) (hi:i<us.length) (he:us[i]=(a,s)) (hn:n<8) (hp:RdX w ℓ 1 out (bv l)) (hb:out.n≤140737488351232) (hc:lr_ c)
  (hR:c.kind≠4→c.kind≠16→c.kind≠18→fX_ w ℓ pw F us i a m (my_ F s st n c l) R) (hP:Bm_ w ℓ pw F us i a n c out R):bs_ (some ⟨a.ub,0,none⟩) (n:Int) (cmv c).toArray out w R:=by
 refine fr_.calls _ _ _ _ _ _ (ag_ fun cb w1 hcb hb1 hg1 hs1=>ag_ fun ab w2 hab hb2 hg2 hs2=>?_)
 have g2:=hg1.trans hg2
 have hc2:Blk w2 cb (cmv c).toArray az_:=hg2.heap hb1 (fun q=>q)
 have hb2:Blk w2 ab z10 aa_:=hb2
 have s1:=hg1.size
 have hab':w.heap.size≤ab:=o_
 have nab:ℓ ab=none:=H.fresh hab'
 have ncb:ℓ cb=none:=H.fresh o_
 have hset:=js_ hi he
 have hU:=(H.at hi he).1
 have KU:=K.at hi he
 have cAt:∀{v:World} {o:Nat} {x:Value},ab_ w2 v→(cmv c).toArray[o]?=some x→v.cell? ((⟨cb,0,none⟩:Addr).add o)=some x:=fun g e=>by rw[ao_,Blk.cell (g.heap hc2 (fun q=>q)),Nat.zero_add];exact e
 have cl:∀{v:World},ab_ w2 v→(loadVar az_ ⟨cb,0,none⟩).run Tryz.prog v=.ok (.agg (cmv c).toArray) v:=fun g=>jO_ (ar_ (g.heap hc2 (fun q=>q)))
 refine⟨(c.kind:Int),cAt (ac_.refl _ _) rfl,?_⟩
 have done:∀{v:World} {x:L8} {xs:Sl} {w4:World},fX_ w ℓ pw F us i a m ⟨okX x,s,st⟩ R→ab_ w2 w4→ab_ w4 v→Own v w4.heap.size ae_ 1 xs (bv x)→cu_ ab R (rsv 0 sn0 xs).toArray v:=fun {v x xs w4} hR g g' o=>by
  have gv:=g2.trans (g.trans g')
  refine hR.ret (X:=⟨okX x,s,st⟩) (d:=xs) (Mv.grow gv) ?_ ?_ (Dat.new H (g2.trans g) o) hab' nab ((g.trans g').heap hb2 (fun q=>q))
  ·show Sys v ℓ pw st F (us.set i (a,s));rw[hset];exact H.grow gv
  ·show SOk st (us.set i (a,s)) (m+200000);rw[hset];exact K.mono o_
 have fail:∀{v:World} {x:Sn},fX_ w ℓ pw F us i a m ⟨snX x,s,st⟩ R→ab_ w2 v→cu_ ab R (rsv 2 x au_).toArray v:=fun {v x} hR g=>by
  have gv:=g2.trans g
  refine hR.ret (X:=⟨snX x,s,st⟩) (d:=au_) (Mv.grow gv) ?_ ?_ (Dat.nil _ _ _) hab' nab (g.heap hb2 (fun q=>q))
  ·show Sys v ℓ pw st F (us.set i (a,s));rw[hset];exact H.grow gv
  ·show SOk st (us.set i (a,s)) (m+200000);rw[hset];exact K.mono o_
 have base:c.kind≠15→my_ F s st n c l=jW_ F s st n c l:=fun h=>if_neg h
 refine ay_ (y:=1) (fun k=>?_) (fun k1=>?_)
 ·have hR:=hR o_ o_ o_
  rw[base o_] at hR
  unfold jW_ at hR
  rw[if_pos o_] at hR
  exact done (xs:=au_) hR (ac_.refl _ _) (ac_.refl _ _) (aG_ _ _ _ _)
 refine ay_ (y:=2) (fun k=>?_) (fun k2=>?_)
 ·have hR:=hR o_ o_ o_
  rw[base o_] at hR
  unfold jW_ at hR
  rw[if_neg o_,if_pos o_] at hR
  refine ag_ fun sb w3 hsb hb3 hg3 hs3=>ap_ (cells:=(snv sn0).toArray) hb3 aR_ rfl rfl (by simp[snv,sn0,Value.oneCell']) fun w4 hb4 hk4 hs4=>?_
  have g4':ab_ w2 w4:=hg3.keep hk4 fun b hb q=>o_
  have g4:=g2.trans g4'
  have H4:=H.grow g4
  obtain⟨hU4,hown⟩:=H4.at hi he
  obtain⟨z1,z2,z3,z4,z5,z6,z7⟩:=de_ a
  have nqb:ℓ a.qb=some (i+1):=hown _ z7
  refine⟨rfl,some ⟨a.qb,0,none⟩,hU4.cellU fun P=>rfl,?_⟩
  refine oA_ hU4.q hn (by rw[nqb];exact Option.some_ne_none _) H4.lt fun w5 hk5 hq5=>?_
  have sfq:a9_ w4 (fun k=>ℓ k≠none) fun b=>b=a.qb:=a9_.sub fun b _ q=>by rw[q,nqb];exact Option.some_ne_none _
  have hU5:IsU w5 (fun k=>ℓ k≠none) pw a (fk_ s n):=hU4.que hk5 sfq (fun b _ hne q=>hne q) (fun _ q=>.inl q) hq5
  obtain⟨m5,H5⟩:=H4.putA hi he hk5 (fun b _ q=>by rw[q];exact z7) hU5
  have m5:Mv w w5 ℓ ℓ:=(Mv.grow g4).trans m5
  have nsb:ℓ sb=none:=H.fresh (by have:=g2.size;omega)
  have hs5:Blk w5 sb (snv sn0).toArray ak_:=hk5.heap hb4 (by rintro rfl;rw[nqb] at nsb;cases nsb)
  have hc5:Blk w5 cb (cmv c).toArray az_:=hk5.heap (g4'.heap hc2 (fun q=>q)) (by rintro rfl;rw[nqb] at ncb;cases ncb)
  have ha5:Blk w5 ab z10 aa_:=hk5.heap (g4'.heap hb2 (fun q=>q)) (by rintro rfl;rw[nqb] at nab;cases nab)
  have s4:=g4.size
  have s5:=hk5.size
  have hsbw:w.heap.size≤sb:=by have:=g2.size;omega
  have wok:=tV_ (hU.q.few n hn).2
  have go:∀v,ab_ w5 v∨ac_ (fun k=>k=sb) w5 v→Blk v sb (snv (ig_ (s.q n))).toArray ak_→Mv w v ℓ ℓ→Sys v ℓ pw st F (us.set i (a,fk_ s n))→∃g:A_,(loadVar ak_ ⟨sb,0,none⟩).run Tryz.prog v=.ok (.agg g) v∧gR_ g v fun xs n2 w07=>∃b1:Bool,w07.cell? ((⟨cb,0,none⟩:Addr).add 1)=some (.bool b1)∧aK_ (fun(p1:Sl) (w08:World)=>∃n3:Int,w08.cell? ((⟨cb,0,none⟩:Addr).add 4)=some (.int .i64 n3)∧ds_ p1 n3 w08 fun xs1 w09=>cu_ ab R (rsv 0 sn0 xs1).toArray w09) fun J_=>Br b1 (∃g1:A_,(loadVar ak_ ⟨sb,0,none⟩).run Tryz.prog w07=.ok (.agg g1) w07∧dT_ g1 w07 fun xs2 n4 w011=>J_ xs2 w011) (J_ xs w07):=fun v gv bv0 mv Hv=>by
   have k5v:ac_ (fun k=>k=sb) w5 v:=gv.elim (fun g=>g.mono fun _ _ q=>q.elim) id
   have cbsb:cb≠sb:=bH_ hc5 hs5 d_
   have absb:ab≠sb:=bH_ ha5 hs5 d_
   have hcv:Blk v cb (cmv c).toArray az_:=k5v.heap hc5 cbsb
   have hav:Blk v ab z10 aa_:=k5v.heap ha5 absb
   refine⟨_,dM_ (ar_ bv0),(hN o_ o_ o_).fixed o_ wok fun xs w7 g7 o7=>⟨c.long,by rw[ao_,Blk.cell (g7.heap hcv (fun q=>q))];rfl,?_⟩⟩
   refine aX_ (fun p z=>ab_ v z∧Own z v.heap.size ae_ 1 p (bv (if c.long then(jV_ (ig_ (s.q n))).1 else(hH_ (ig_ (s.q n))).1))) ?_ (fun J=>?_)
   ·rintro p z ⟨gz,oz⟩
    refine⟨c.alloc,by rw[ao_,Blk.cell (gz.heap hcv (fun q=>q))];rfl,?_⟩
    have hl:(if c.long then(jV_ (ig_ (s.q n))).1 else(hH_ (ig_ (s.q n))).1).length≤1000:=by
     have:=xC_ (ig_ (s.q n));have:=wg_ (ig_ (s.q n));split<;>omega
    obtain⟨r1,r2⟩:=oL_ oz hl
    refine lo_ r1 r2 fun x z2 g9 o9=>?_
    have gv2:=gz.trans g9
    refine hR.ret (X:=⟨okX (A1_ c (s.q n)),fk_ s n,st⟩) (d:=x) (mv.go gv2) (Hv.grow gv2) ((K.put (x:=(a,fk_ s n)) (KU.same KU.good rfl rfl rfl rfl rfl rfl)).mono o_) ⟨o9.mono ?_,fun b hb=>H.fresh ?_⟩ hab' nab (gv2.heap hav (fun q=>q))
    ·have:=k5v.size;have:=gz.size;omega
    ·have:=(o9.ge b hb).1;have:=k5v.size;have:=gz.size;omega
   ·cases hlg:c.long with
    | true=>rw[hlg,if_pos rfl] at J;exact al_ rfl ⟨_,dM_ (ar_ (g7.heap bv0 (fun q=>q))),(hN o_ o_ o_).desc o_ wok fun x2 w8 g8 o8=>J x2 w8 ⟨g7.trans g8,o8.mono g7.size⟩⟩
    | false=>rw[hlg,if_neg Bool.noConfusion] at J;exact ai_ rfl (J xs w7 ⟨g7,o7⟩)
  unfold ig_ at go
  cases hpk:i6_ (s.q n) with
  | none=>
   rw[hpk] at go
   refine bR_ (fun v=>v=w5) ?_ (fun J=>ai_ rfl (J w5 rfl))
   intro v e
   rw[e]
   exact go w5 (.inl (ac_.refl _ _)) hs5 m5 H5
  | some code=>
   rw[hpk] at go
   refine bR_ (fun v=>ac_ (fun k=>k=sb) w5 v∧Blk v sb (snv (uaS code)).toArray ak_) ?_ (fun J=>?_)
   ·rintro v ⟨kv,bv0⟩
    exact go v (.inr kv) bv0 (m5.loc kv fun b hb q=>o_) (H5.local1 hs5 nsb kv (eO_ d_ d_ d_) d_)
   ·exact al_ rfl (ap_ (cells:=(snv (uaS code)).toArray) hs5 aR_ rfl rfl (by simp[snv,Value.oneCell']) fun v bv0 kv _=>J v ⟨kv,bv0⟩)
 refine ay_ (y:=3) (fun k=>?_) (fun k3=>?_)
 ·have hR:=hR o_ o_ o_
  rw[base o_] at hR
  unfold jW_ at hR
  rw[if_neg o_,if_neg o_,if_pos o_] at hR
  have hU2:=hU.grow g2
  have info:∀{v:World},ab_ w2 v→(loadVar ce_ ((gA (some (⟨a.ub,0,none⟩:Addr))).add 0)).run Tryz.prog v=.ok (.agg (co_ s.inf).toArray) v:=fun {v} g=>by
   obtain⟨P,hbu,_⟩:=(hU2.grow g).unit
   refine aD_ (cs:=co_ s.inf) kz_ iJ_ rfl fun j x hj=>?_
   rw[gA,ao_,ao_,hbu.cell,Nat.zero_add]
   rw[show dE_ a P s=(co_ s.inf++[ptr a.dv,ptr a.sl,ptr a.pg,ptr a.tb,ptr a.qb,.slice P.A P.n P.c,.int .u32 (s.on:Int),.int .i32 (s.lock:Int),.int .u32 0,.int .i64 (s.fault:Int),.int .i64 (s.count:Int)]).toArray from rfl,List.getElem?_toArray]
   rw[List.getElem?_append_left (by simpa using (List.getElem?_eq_some_iff.1 (by simpa using hj)).1)]
   simpa using hj
  refine⟨rfl,_,info (ac_.refl _ _),(hN o_ o_ o_).std o_ KU.form fun xs w3 g3 o3=>⟨c.evpd,cAt g3 rfl,?_⟩⟩
  refine sy_ (fun p ok v=>ab_ w2 v∧(match (if c.evpd then if_ s.inf c.page else some (oF_ s.inf)) with|some d=>ok=true∧Own v w2.heap.size ae_ 1 p (bv d)|none=>ok=false)) ?_ (fun J=>?_)
  ·rintro p ok v ⟨gv,h⟩
   cases hd:(if c.evpd then if_ s.inf c.page else some (oF_ s.inf)) with
   | none=>
    rw[hd] at h hR
    subst h
    refine al_ rfl (fU_ fun w5 g5=>br_ fun w6 g6=>fail hR ((gv.trans g5).trans g6))
   | some d=>
    rw[hd] at h hR
    obtain⟨rfl,o⟩:=h
    refine ai_ rfl ⟨c.alloc,cAt gv rfl,?_⟩
    have hl:d.length≤1000:=by
     cases hev:c.evpd with
     | true=>rw[hev,if_pos rfl] at hd;exact xD_ hd
     | false=>rw[hev,if_neg Bool.noConfusion] at hd;injection hd with hd;subst hd;exact yV_ _
    obtain⟨r1,r2⟩:=oL_ o hl
    exact lo_ r1 r2 fun x z g9 o9=>done hR gv g9 o9
  ·cases hev:c.evpd with
   | true=>
    rw[hev,if_pos rfl] at J
    refine al_ rfl ?_
    rintro w4 rfl
    have g4:ab_ w2 w3.drew:=g3.trans (am_ w3)
    refine⟨fun z=>z=w3.drew,rfl,rfl,_,(by rintro z rfl;exact info g4),(c.page:Int),(by rintro z rfl;exact cAt g4 rfl),(hN o_ o_ o_).page o_ KU.form hc.page fun x w5 g5 o5=>J x _ w5 ⟨g4.trans g5,?_⟩⟩
    cases hd:if_ s.inf c.page with
    | none=>rfl
    | some d=>rw[hd] at o5;exact⟨rfl,o5.mono g4.size⟩
   | false=>
    rw[hev,if_neg Bool.noConfusion] at J
    exact ai_ rfl (J xs true w3 ⟨g3,rfl,o3⟩)
 refine ay_ (y:=17) (fun k=>?_) (fun k17=>?_)
 ·have hR:=hR o_ o_ o_
  rw[base o_] at hR
  unfold jW_ at hR
  rw[if_neg o_,if_neg o_,if_neg o_,if_pos o_] at hR
  rintro w3 rfl
  have g3:=am_ w2
  generalize w2.drew=w3 at *
  refine⟨fun v=>ab_ w2 v,g3,c.alloc,fun v q=>cAt q rfl,?_⟩
  refine aJ_ (cells:=#[.int .i64 0]) (e:=hb_) (z:=1) (base:=w3.heap.size) k_ rfl d_ (Nat.le_refl _) fun w4 o4 g4 _=>⟨g3.trans g4,?_⟩
  refine(hN o_ o_ o_).luns o_ (l:=[0]) (o4.rd (by dsimp only;decide)) d_ fun x w5 g5 o5=>⟨(g3.trans g4).trans g5,?_⟩
  obtain⟨r1,r2⟩:=oL_ o5 d_
  refine lo_ r1 r2 fun y w6 g6 o6=>⟨((g3.trans g4).trans g5).trans g6,fun v=>ab_ w2 v,((g3.trans g4).trans g5).trans g6,fun _ q=>q,?_⟩
  exact done hR ((g3.trans g4).trans g5) g6 o6
 refine ay_ (y:=5) (fun k=>?_) (fun k5=>?_)
 ·have hR:=hR o_ o_ o_
  rw[base o_] at hR
  unfold jW_ at hR
  rw[if_neg o_,if_neg o_,if_neg o_,if_neg o_,if_pos o_] at hR
  rintro w3 rfl
  have g3:=am_ w2
  generalize w2.drew=w3 at *
  have gw3:=g2.trans g3
  have hU3:=hU.grow gw3
  have pgs:∀{v:World},ab_ w2 v→v.cell? ((gA (some (⟨a.ub,0,none⟩:Addr))).add 7)=some (.pointer (some ⟨a.pg,0,none⟩)):=fun g=>((hU.grow g2).grow g).cellU fun P=>rfl
  have tail:∀{v:World} {sb:Nat} {x:Sn} {b:Bool} {xs:Sl} {w0:World},ab_ w2 w0→ab_ w0 v→Blk v sb (snv x).toArray ak_→(match do_ s.now s.saved c with|none=>b=false∧x=fl_ 2 5 true|some d=>b=true∧Own v w0.heap.size ae_ 1 xs (bv d))→Br (!b) (∃g8:A_,(loadVar ak_ ⟨sb,0,none⟩).run Tryz.prog v=.ok (.agg g8) v∧aT_ g8 v fun g9 w031=>cu_ ab R g9 w031) (∃n8:Int,v.cell? ((⟨cb,0,none⟩:Addr).add 4)=some (.int .i64 n8)∧ds_ xs n8 v fun xs10 w033=>cu_ ab R (rsv 0 sn0 xs10).toArray w033):=fun {v sb x b xs w0} g0 gv hb h=>by
   cases hd:do_ s.now s.saved c with
   | none=>
    rw[hd] at h hR
    obtain⟨rfl,rfl⟩:=h
    exact al_ rfl ⟨_,dM_ (ar_ hb),br_ fun w5 g5=>fail hR ((g0.trans gv).trans g5)⟩
   | some d=>
    rw[hd] at h hR
    obtain⟨rfl,o⟩:=h
    obtain⟨r1,r2⟩:=oL_ o (uJ_ hd)
    exact ai_ rfl ⟨c.alloc,cAt (g0.trans gv) rfl,lo_ r1 r2 fun x z g9 o9=>done hR (g0.trans gv) g9 o9⟩
  refine⟨fun v=>ab_ w2 v,g3,rfl,some ⟨a.pg,0,none⟩,fun v q=>pgs q,(cmv c).toArray,fun v q=>cl q,?_,?_⟩
  ·have key:∀xs x b w4,ab_ w3 w4→(match do_ s.now s.saved c with|none=>b=false∧x=fl_ 2 5 true|some d=>b=true∧Own w4 w3.heap.size ae_ 1 xs (bv d))→New (.cells #[.int .u8 0,.int .u16 0,.int .u64 0,.bool false,.int .i64 0,.int .i64 0,.bool false,.bool false] ak_) w4 fun s1 w029=>ab_ w2 w029∧af_ Tryz.prog (storeVar ak_ s1 (.agg (snv x).toArray)) w029 fun w030=>Br (!b) (∃g8:A_,(loadVar ak_ s1).run Tryz.prog w030=.ok (.agg g8) w030∧aT_ g8 w030 fun g9 w031=>cu_ ab R g9 w031) (∃n8:Int,w030.cell? ((⟨cb,0,none⟩:Addr).add 4)=some (.int .i64 n8)∧ds_ xs n8 w030 fun xs10 w033=>cu_ ab R (rsv 0 sn0 xs10).toArray w033):=fun xs x b w4 g4 h=>by
    refine ag_ fun sb w5 hsb hb5 hg5 hs5=>⟨(g3.trans g4).trans hg5,ap_ (cells:=(snv x).toArray) hb5 aR_ rfl rfl (by simp[snv,Value.oneCell']) fun w6 hb6 hk6 _=>?_⟩
    have g46:ab_ w4 w6:=hg5.keep hk6 fun b hb q=>o_
    refine tail g3 (g4.trans g46) hb6 ?_
    cases hd:do_ s.now s.saved c with
    | none=>rw[hd] at h;exact h
    | some d=>rw[hd] at h;exact⟨h.1,h.2.grow g46⟩
   refine(hN o_ o_ o_).msense o_ hU3.pages ?_
   cases hd:do_ s.now s.saved c with
   | none=>exact fun w4 g4=>key au_ (fl_ 2 5 true) false w4 g4 (by rw[hd];exact⟨rfl,rfl⟩)
   | some d=>exact fun xs w4 g4 o4=>key xs sn0 true w4 g4 (by rw[hd];exact⟨rfl,o4⟩)
  ·refine ag_ fun sb w4 hsb hb4 hg4 hs4=>⟨g3.trans hg4,?_⟩
   have key:∀xs x b w5,ab_ w4 w5→(match do_ s.now s.saved c with|none=>b=false∧x=fl_ 2 5 true|some d=>b=true∧Own w5 w4.heap.size ae_ 1 xs (bv d))→af_ Tryz.prog (storeVar ak_ ⟨sb,0,none⟩ (.agg (snv x).toArray)) w5 fun w030=>Br (!b) (∃g8:A_,(loadVar ak_ ⟨sb,0,none⟩).run Tryz.prog w030=.ok (.agg g8) w030∧aT_ g8 w030 fun g9 w031=>cu_ ab R g9 w031) (∃n8:Int,w030.cell? ((⟨cb,0,none⟩:Addr).add 4)=some (.int .i64 n8)∧ds_ xs n8 w030 fun xs10 w033=>cu_ ab R (rsv 0 sn0 xs10).toArray w033):=fun xs x b w5 g5 h=>by
    refine ap_ (cells:=(snv x).toArray) (g5.heap hb4 (fun q=>q)) aR_ rfl rfl (by simp[snv,Value.oneCell']) fun w6 hb6 hk6 _=>?_
    have g36:ab_ w3 w6:=(hg4.trans g5).keep hk6 fun b hb q=>o_
    refine tail g3 g36 hb6 ?_
    cases hd:do_ s.now s.saved c with
    | none=>rw[hd] at h;exact h
    | some d=>rw[hd] at h;exact⟨h.1,(h.2.keep hk6 fun b hb q=>by have:=(h.2.ge b hb).1;omega).mono hg4.size⟩
   refine(hN o_ o_ o_).msense o_ (hU3.grow hg4).pages ?_
   cases hd:do_ s.now s.saved c with
   | none=>exact fun w5 g5=>key au_ (fl_ 2 5 true) false w5 g5 (by rw[hd];exact⟨rfl,rfl⟩)
   | some d=>exact fun xs w5 g5 o5=>key xs sn0 true w5 g5 (by rw[hd];exact⟨rfl,o5⟩)
 refine ay_ (y:=4) (fun k=>⟨_,cl (ac_.refl _ _),hP.sel o_ w2 ab g2 hab' hb2⟩) (fun k4=>?_)
 refine ay_ (y:=15) (fun k=>?_) (fun k15=>?_)
 ·have hR:=hR o_ o_ o_
  unfold my_ at hR
  rw[if_pos o_] at hR
  rintro w3 rfl
  have g3:=am_ w2
  generalize w2.drew=w3 at *
  have H3:=H.grow (g2.trans g3)
  refine⟨fun v=>ab_ w2 v,g3,(c.service:Int),fun v q=>cAt q rfl,c.alloc,fun v q=>cAt q rfl,(hN o_ o_ o_).prin o_ (H3.at hi he).1 H3.lt hc.service fun x w5 g5 o5=>⟨g3.trans g5,?_⟩⟩
  obtain⟨r1,r2⟩:=oL_ o5 ((hN o_ o_ o_).inlen o_ hU.tab.ok c.service)
  refine lo_ r1 r2 fun y w6 g6 o6=>⟨(g3.trans g5).trans g6,fun v=>ab_ w2 v,(g3.trans g5).trans g6,fun _ q=>q,?_⟩
  exact done hR (g3.trans g5) g6 o6
 refine ay_ (y:=16) (fun k=>⟨_,cl (ac_.refl _ _),hP.prout o_ w2 ab g2 hab' hb2⟩) (fun k16=>?_)
 refine ay_ (y:=18) (fun k=>⟨_,cl (ac_.refl _ _),hP.copy o_ w2 ab g2 hab' hb2⟩) (fun k18=>?_)
 have hR:=hR o_ o_ o_
 rw[base o_] at hR
 unfold jW_ at hR
 rw[if_neg o_,if_neg o_,if_neg o_,if_neg o_,if_neg o_] at hR
 rintro w3 rfl
 have g3:=am_ w2
 generalize w2.drew=w3 at *
 have gw3:=g2.trans g3
 refine⟨fun v=>ab_ w2 v,g3,rfl,some ⟨a.dv,0,none⟩,fun v q=>((hU.grow g2).grow q).cellU fun P=>rfl,(cmv c).toArray,fun v q=>cl q,?_⟩
 refine Aa_ ((hN o_ o_ o_).dev o_ o_ o_ o_ o_ o_ o_ o_ o_) (H.grow gw3) K hm hi he ((Mv.grow gw3).rdX hp) hb hc.lba hc.blocks fun u ℓ' d mv Hu Ku dt=>?_
 refine hR.ret (X:=⟨(doX F s.inf.prot s.n s.cache s.file st c l).1,s,(doX F s.inf.prot s.n s.cache s.file st c l).2⟩) (d:=d) ((Mv.grow gw3).trans mv) ?_ ?_ (dt.from gw3.size) hab' ?_ (mv.heap (g3.heap hb2 (fun q=>q)) nab)
 ·show Sys u ℓ' pw _ F (us.set i (a,s));rw[hset];exact Hu
 ·show SOk _ (us.set i (a,s)) (m+200000);rw[hset];exact Ku.mono o_
 ·rw[mv.lab ab (aw_ (g3.heap hb2 (fun q=>q)))];exact nab
end
open Go CF
def nV_ (v:a4_) (j:Nat):Nat:=(if v.wce=true∧0<j then 1 else 0)+(if v.ds=true∧1<j then 2 else 0)+(if v.swp=true∧2<j then 4 else 0)
def nW_ (v:a4_):Nat:=nV_ v 3
def jc_ (n:Nat):a4_:=⟨decide (n%2=1),decide (n/2%2=1),decide (n/4%2=1)⟩
theorem Af_ (v:a4_):nW_ v≤7:=by unfold nW_ nV_;split<;>split<;>split<;>decide
def ip_ (s:USt):L8:=UInt8.ofNat (nW_ s.saved)::o9_ s.tab
def cs_ (F:Int→Bool) (s:USt) (st:Wst):Bool×USt×Wst:=
 (decide ((c4_ F st s.keepf ⟨s.sure,s.at_,s.gen⟩ (ip_ s)).1=0),
 {s with sure:=(c4_ F st s.keepf ⟨s.sure,s.at_,s.gen⟩ (ip_ s)).2.1.sure,at_:=(c4_ F st s.keepf ⟨s.sure,s.at_,s.gen⟩ (ip_ s)).2.1.at_,gen:=(c4_ F st s.keepf ⟨s.sure,s.at_,s.gen⟩ (ip_ s)).2.1.gen},
 (c4_ F st s.keepf ⟨s.sure,s.at_,s.gen⟩ (ip_ s)).2.2)
structure gi_ (st st':Wst) (file:ByteArray) (k:Nat):Prop where
 ops:st'.ops≤st.ops+k
 waits:st'.waits.length≤st.waits.length+k
 ok:Wok st→Wok st'
 seen:∀f,(∀i,i<2→f≠nmS file i)→st'.seen f=st.seen f
theorem gi_.refl (st:Wst) (file:ByteArray):gi_ st st file 0:=⟨Nat.le_refl _,Nat.le_refl _,id,fun _ _=>rfl⟩
theorem gi_.trans {a b c:Wst} {file:ByteArray} {j k:Nat} (h:gi_ a b file j) (g:gi_ b c file k):gi_ a c file (j+k):=⟨by have:=h.ops;have:=g.ops;omega,by have:=h.waits;have:=g.waits;omega,fun q=>g.ok (h.ok q),fun f hf=>(g.seen f hf).trans (h.seen f hf)⟩
theorem gi_.le {a b:Wst} {file:ByteArray} {j k:Nat} (h:gi_ a b file j) (hk:j≤k):gi_ a b file k:=⟨by have:=h.ops;omega,by have:=h.waits;omega,h.ok,h.seen⟩
theorem mb_ (st:Wst) (file:ByteArray) (k:Nat):gi_ st (more st k) file k:=⟨Nat.le_refl _,by show st.waits.length≤_;omega,id,fun _ _=>rfl⟩
theorem uK_ (st:Wst) (file:ByteArray):gi_ st (lh_ st) file 1:=⟨Nat.le_refl _,Nat.zero_le _,fun _ c hc=>(by cases hc),fun _ _=>rfl⟩
theorem sc_ {st:Wst} {file:ByteArray} {i:Nat} {r:L8} (hi:i<2) (hr:r.length≤1048576):gi_ st (fi_ st (nmS file i) 0 r) file 1:=by
 refine⟨Nat.le_refl _,by simp[fi_],fun q c hc=>?_,fun f hf=>?_⟩
 ·rcases List.mem_append.1 hc with q2|q2
  ·exact q c q2
  ·rw[List.mem_singleton.1 q2]
   exact⟨rfl,by show 0+r.length≤_;omega⟩
 ·show fs_ st.seen (nmS file i) 0 r f=_
  unfold fs_ rl_
  rw[if_neg (hf i hi)]
theorem xG_ (x:Int):toS x<2:=by unfold toS;split<;>decide
theorem yY_ {F:Int→Bool} {b n k:Nat} (h:gC_ F b n=some k):k<n:=by
 unfold gC_ at h
 have:=List.mem_of_find?_eq_some h
 exact List.mem_range.1 this
theorem oM_ {F:Int→Bool} {st:Wst} {file:ByteArray} {x:SlX}:gi_ st (aP_ F st file x).2.2.2.2 file 2:=by
 unfold aP_
 cases h:gC_ F st.ops 2 with
 | some k=>exact(mb_ st file (k+1)).le (by have:=yY_ h;omega)
 | none=>exact mb_ st file 2
theorem qX_ {F:Int→Bool} {st:Wst} {file:ByteArray} {x:SlX} {l:L8} (hl:l.length≤4096):gi_ st (eN_ F st file x l).2.2 file 2:=by
 unfold eN_
 have hr:=p0_ (i5_ x.gen) l
 split
 ·exact(mb_ st file 1).le d_
 ·split
  ·exact(sc_ (xG_ _) o_).trans (mb_ _ file 1)
  ·exact(sc_ (xG_ _) o_).trans (uK_ _ file)
theorem oN_ {F:Int→Bool} {st:Wst} {file:ByteArray} {x:SlX} {l:L8} (hl:l.length≤4096):gi_ st (c4_ F st file x l).2.2 file 4:=by
 unfold c4_
 split
 ·exact(qX_ hl).le d_
 split
 ·exact oM_.le d_
 ·exact oM_.trans (qX_ hl)
theorem SOk.near {st st':Wst} {us:List (UA×USt)} {m k:Nat} {file:ByteArray} (h:SOk st us m) (n:gi_ st st' file k):SOk st' us (m+k):=by
 refine⟨n.ok h.wok,⟨by have:=n.ops;have:=h.few;omega,by have:=n.waits;have:=h.few;omega⟩,fun x hx=>?_⟩
 have ok:=h.units x hx
 obtain⟨b,_,_,e,_⟩:=ok.name
 refine ok.same ?_ rfl rfl rfl rfl rfl rfl
 have:ch_ st' x.2.file=ch_ st x.2.file:=ma_ (n.seen _ fun i hi q=>by rw[e] at q;exact uI_ hi q.symm)
 rw[this];exact ok.good
section
variable {w u v w3:World} {S D D':Nat→Prop} {pw i m n ab:Nat} {a:UA} {s:USt} {st st':Wst} {F F':Int→Bool} {ℓ ℓ' ℓ1:Nat→Option Nat} {us:List (UA×USt)}
theorem uL_ {x:a4_} {R:Int→W_} (hR:∀w',ab_ w w'→R ((nW_ x:Nat):Int) w'):ml_ (vlv x).toArray w R:=by
 refine jG_.calls _ _ _ (ag_ fun vb w1 hvb hb1 hg1 hs1=>?_)
 have hb1:Blk w1 vb (vlv x).toArray aH_:=hb1
 refine⟨x.wce,mZ_ hb1 rfl,x.ds,mZ_ hb1 rfl,x.swp,mZ_ hb1 rfl,?_⟩
 refine aJ_ (cells:=#[.bool x.wce,.bool x.ds,.bool x.swp]) (e:=qk_) (z:=1) (base:=w1.heap.size) k_ rfl d_ (Nat.le_refl _) fun w2 o2 g2 _=>?_
 have r2:Rd w2 1 ⟨some ⟨w1.heap.size,0,none⟩,3,3⟩ [.bool x.wce,.bool x.ds,.bool x.swp]:=o2.rd (by dsimp only;decide)
 refine⟨fun b y v=>∃j:Nat,y=j∧j≤3∧b=((nV_ x j:Nat):Int)∧ab_ w2 v,fun _ y _=>3-y.toNat,⟨0,rfl,d_,by unfold nV_;simp,ac_.refl _ _⟩,?_⟩
 rintro b y v ⟨j,rfl,hj,rfl,hg⟩
 refine ba_ (y:=3) (fun hlt=>?_) (fun hge=>?_)
 ·refine aX_ (fun b' v'=>v'=v∧b'=((nV_ x (j+1):Nat):Int)) ?_ (fun J=>?_)
  ·rintro b' v' ⟨rfl,rfl⟩
   rw[w64 o_ o_]
   exact⟨⟨j+1,o_,o_,rfl,hg⟩,by dsimp only;omega⟩
  ·have hv:=(r2.grow hg).elem (i:=j) (by dsimp only;omega) d_
   obtain⟨aa,ha,hc⟩:=hv
   refine⟨⟨o_,by dsimp only;omega,rfl⟩,([x.wce,x.ds,x.swp]:List Bool)[j]'(by simpa using hlt),?_,?_⟩
   ·obtain⟨_,h2⟩:=ka_ (r2.grow hg) (i:=j) (by simpa using hlt)
    rw[Int.toNat_natCast,h2]
    have:∀j:Fin 3,([Value.bool x.wce,.bool x.ds,.bool x.swp]:List Value)[j.val]'(j.isLt)=.bool (([x.wce,x.ds,x.swp]:List Bool)[j.val]'(j.isLt)):=by
     intro j
     match j with
     | ⟨0,_⟩=>rfl
     | ⟨1,_⟩=>rfl
     | ⟨2,_⟩=>rfl
    exact congrArg some (this ⟨j,hlt⟩)
   ·have key:∀(x:a4_) (j:Fin 3),(([x.wce,x.ds,x.swp]:List Bool)[j.val]'(j.isLt)=true→bOr .u8 ((nV_ x j.val:Nat):Int) (cD_ .u8 1 ((j.val:Nat):Int).toNat)=((nV_ x (j.val+1):Nat):Int))∧(([x.wce,x.ds,x.swp]:List Bool)[j.val]'(j.isLt)=false→nV_ x j.val=nV_ x (j.val+1)):=by
     rintro⟨a,b,c⟩ j
     revert j
     cases a<;>cases b<;>cases c<;>decide +kernel
    obtain⟨k1,k2⟩:=key x ⟨j,hlt⟩
    cases hx:([x.wce,x.ds,x.swp]:List Bool)[j]'(by simpa using hlt) with
    | true=>exact al_ rfl ⟨o_,J _ v ⟨rfl,k1 hx⟩⟩
    | false=>exact ai_ rfl (J _ v ⟨rfl,congrArg _ (k2 hx)⟩)
 ·have:j=3:=o_
  subst this
  exact hR v ((hg1.trans g2).trans hg)
theorem tW_ {k:Nat} {R:A_→W_} (hk:k≤7) (hR:∀w',ab_ w w'→R (vlv (jc_ k)).toArray w'):k2_ (k:Int) w R:=by
 refine iN_.calls _ _ _ (ag_ fun ab w1 hab hb1 hg1 hs1=>?_)
 have key:∀k:Fin 8,((bm_ .u8 ((k.val:Nat):Int) 1) != 0)=(jc_ k.val).wce∧((bm_ .u8 ((k.val:Nat):Int) 2) != 0)=(jc_ k.val).ds∧((bm_ .u8 ((k.val:Nat):Int) 4) != 0)=(jc_ k.val).swp:=by decide +kernel
 obtain⟨e1,e2,e3⟩:=key ⟨k,o_⟩
 dsimp only at e1 e2 e3
 rw[e1,e2,e3]
 exact ap_ (cells:=(vlv (jc_ k)).toArray) hb1 bc_ rfl rfl (by simp[vlv,Value.oneCell']) fun w2 hb2 hk2 _=>⟨_,eB_ (ar_ hb2),hR w2 (hg1.keep hk2 fun i hi q=>o_)⟩
theorem oO_ {ps:Nat} {file:ByteArray} {nb:Nat} {cache on:Bool} {R:W_} (hS:IsS w ps pw file nb cache) (h:∀u,ac_ (fun k=>k=ps) w u→IsS u ps pw file nb on→R u):b0_ (some ⟨ps,0,none⟩) on w R:=by
 refine dk_.calls _ _ _ _ (al_ rfl ⟨rfl,?_⟩)
 rw[gA,ao_]
 exact aU_ hS (by show 3<4;decide) rfl fun u hb hk _=>h u hk hb
theorem p8_ {s:USt} (ok:d3_ s.tab):(ip_ s).length≤78:=by
 have:=sa_ ok
 unfold ip_
 rw[List.length_cons];omega
theorem xH_ {R:Int→Int→W_} {p:Sl} (H:Sys w ℓ pw st F us) (K:SOk st us m) (hm:m≤500000000) (hi:i<us.length) (he:us[i]=(a,s)) (hp:∀u,Mv w u ℓ ℓ→Rd u 1 p (bv (ip_ s)))
  (hR:∀u ℓ' g,Mv w u ℓ ℓ'→Sys u ℓ' pw (cs_ F s st).2.2 F (us.set i (a,(cs_ F s st).2.1))→SOk (cs_ F s st).2.2 (us.set i (a,(cs_ F s st).2.1)) (m+4)→R g (((c4_ F st s.keepf ⟨s.sure,s.at_,s.gen⟩ (ip_ s)).1:Nat):Int) u):cO_ (some ⟨a.sl,0,none⟩) p w R:=by
 obtain⟨hU,hown⟩:=H.at hi he
 obtain⟨z1,z2,z3,z4,z5,z6,z7⟩:=de_ a
 obtain⟨D,hW,hD⟩:=H.W
 have own:∀{b},a.set b→ℓ b≠none:=fun hb=>by rw[hown _ hb];exact Option.some_ne_none _
 have KU:=K.at hi he
 have e1:us[i].1=a:=by rw[he]
 have pl:=p8_ hU.tab.ok
 refine rr_ (x:=⟨s.sure,s.at_,s.gen⟩) hU.slots (fun q=>by have:=hD _ q;rw[hown _ z4] at this;injection this with this;omega) hW K.wok KU.sizes.2 (by have:=K.few;omega) (by have:=K.few;omega) (l:=ip_ s) o_ (fun u k=>hp u ⟨k.mono fun b _ q=>?_,fun _ _=>rfl⟩) fun u D' g hku hWu hD' hSu=>?_
 ·rcases q with q|q
  ·rw[hD b q];exact Option.some_ne_none _
  ·rw[q];exact own z4
 ·have hs:=H.all (a':=a) (s':=(cs_ F s st).2.1) hi hD hku (fun b _ q=>by
    rcases q with q|q
    ·exact .inl q
    ·refine .inr ?_
     rw[e1,q];exact z4) hWu hD' (fun b hb=>.inl (by rw[e1];exact hb)) (fun b hb q r=>by have:=hU.lt r;omega) (fun N' hN'=>?_)
  ·obtain⟨ℓ',mv,Hu⟩:=hs
   refine hR u ℓ' g mv Hu ?_
   refine SOk.put (x:=(a,(cs_ F s st).2.1)) (K.near (oN_ o_)) ?_
   have:=(K.near (oN_ (F:=F) (st:=st) (file:=s.keepf) (x:=⟨s.sure,s.at_,s.gen⟩) (l:=ip_ s) o_)).at hi he
   exact this.same this.good rfl rfl rfl rfl rfl rfl
  ·refine hU.slot hku (a9_.sub fun b _ q=>?_) (fun b hb hne q=>?_) (fun b hb=>?_) hSu
   ·rcases q with q|q
    ·rw[hD b q];exact Option.some_ne_none _
    ·rw[q];exact own z4
   ·rcases q with q|q
    ·have:=hD b q
     rw[hown b hb] at this
     injection this with this
     omega
    ·exact hne q
   ·rcases hN' b hb with q|q
    ·exact .inl q
    ·exact .inr q.1
theorem yZ_ {R:Bool→W_} (H:Sys w ℓ pw st F us) (K:SOk st us m) (hm:m≤500000000) (hi:i<us.length) (he:us[i]=(a,s))
  (hR:∀u ℓ',Mv w u ℓ ℓ'→Sys u ℓ' pw (cs_ F s st).2.2 F (us.set i (a,(cs_ F s st).2.1))→SOk (cs_ F s st).2.2 (us.set i (a,(cs_ F s st).2.1)) (m+4)→R (cs_ F s st).1 u):cq_ (some ⟨a.ub,0,none⟩) w R:=by
 refine gu_.calls _ _ _ ?_
 rintro w1 rfl
 have g1:=am_ w
 generalize w.drew=w1 at *
 have cl:∀{v:World} {o:Nat} {x:Value},ab_ w v→(∀P,(dE_ a P s)[o]?=some x)→v.cell? ((gA (some (⟨a.ub,0,none⟩:Addr))).add o)=some x:=fun g e=>(((H.grow g).at hi he).1).cellU e
 have T:∀{v:World},ab_ w v→IsU v (fun k=>ℓ k≠none) pw a s:=fun g=>((H.grow g).at hi he).1
 refine⟨fun v=>ab_ w v,g1,rfl,some ⟨a.sl,0,none⟩,fun v q=>cl q fun P=>rfl,rfl,some ⟨a.pg,0,none⟩,fun v q=>cl q fun P=>rfl,rfl,some ⟨a.tb,0,none⟩,fun v q=>cl q fun P=>rfl,?_⟩
 refine qO_ (T g1).pages fun w2 g2=>⟨g1.trans g2,uL_ fun w3 g3=>?_⟩
 have g13:=(g1.trans g2).trans g3
 refine⟨g13,?_⟩
 have vb:=Af_ s.saved
 have ev:((nW_ s.saved:Nat):Int)=(((UInt8.ofNat (nW_ s.saved)).toNat:Nat):Int):=by rw[←aV_,wu8 o_ o_]
 have hl1:∀z:World,(Instr.buildSlice aB_ 1 #[(0,.int .u8 ((nW_ s.saved:Nat):Int))]).run Tryz.prog z=.ok (.slice (some ⟨z.heap.size,0,none⟩) 1 1) (z.alloc (.cells (bv [UInt8.ofNat (nW_ s.saved)]).toArray ae_)):=fun z=>by
  rw[ev];kernel_rfl
 have hE:ip_ s = [UInt8.ofNat (nW_ s.saved)]++o9_ s.tab:=rfl
 have sl:=sa_ (T g1).tab.ok
 have fin:∀{p:Sl} {y:World},ab_ w y→Own y w.heap.size ae_ 1 p (bv (ip_ s))→cO_ (some ⟨a.sl,0,none⟩) p y fun _ n2 z=>R (n2==0) z:=fun {p y} gy o=>by
  have pl:=p8_ (T g1).tab.ok
  have pn:=gD_ o
  refine xH_ (H.grow gy) K hm hi he (fun u mv=>(o.keep mv.keep fun b hb q=>q (H.fresh (o.ge b hb).1)).rd o_) fun u ℓ' g mv Hu Ku=>?_
  have:=hR u ℓ' ((Mv.grow gy).trans mv) Hu Ku
  have e:(((((c4_ F st s.keepf ⟨s.sure,s.at_,s.gen⟩ (ip_ s)).1:Nat):Int)==0):Bool)=(cs_ F s st).1:=by
   show _=decide _
   rw[Bool.eq_iff_iff,beq_iff_eq,decide_eq_true_eq];omega
  rw[e];exact this
 have s13:=g13.size
 refine⟨?_,?_⟩
 ·refine Row.start (hl1 w3) rfl (by show 1≤_;decide) fun p4 w4 r4=>⟨g13.trans r4.grow,qU_ (T (g13.trans r4.grow)).tab fun x5 w5 g5 o5=>⟨(g13.trans r4.grow).trans g5,?_⟩⟩
  have n5:=gD_ o5
  refine(r4.go g5).app (o5.rd o_) (by simp;omega) fun p6 w6 r6 k6=>⟨g13.trans r6.grow,fin (g13.trans r6.grow) ?_⟩
  rw[hE];exact r6.own.mono s13
 ·refine qU_ (T g13).tab fun x4 w4 g4 o4=>⟨g13.trans g4,?_⟩
  have n4:=gD_ o4
  refine Row.start (hl1 w4) rfl (by show 1≤_;decide) fun p5 w5 r5=>⟨(g13.trans g4).trans r5.grow,?_⟩
  refine r5.app ((o4.grow r5.grow).rd o_) (by simp;omega) fun p6 w6 r6 k6=>⟨(g13.trans g4).trans r6.grow,fin ((g13.trans g4).trans r6.grow) ?_⟩
  rw[hE];exact r6.own.mono (g13.trans g4).size
end
end Go.Proofs.YtpmebahhjgkflaaGreatDoor
