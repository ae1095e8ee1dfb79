import Derived.Lib.ConvBytes
import Derived.Test.YtpmebahhjgkflaaGreatDoorB5
set_option maxHeartbeats 20000000
namespace Go.Proofs.YtpmebahhjgkflaaGreatDoor
open Go CF
set_option maxRecDepth 100000
section
variable {w u:World} {dv ps pw:Nat} {file:ByteArray} {kind n:Nat} {cache:Bool} {D D':Nat→Prop} {st st':Wst} {bs bs':List Bk} {m m':Nat} {F:Int→Bool}
theorem i4_ {c:Cm} {R:Sl→A_→Bool→W_} (h:Dvq w dv ps pw file kind n cache D st bs m F) (hm:m≤600000000) (hc:c.lba+c.blocks≤n)
  (hR:match h8_ F kind c.prot c.lba c.blocks st.ops ((bs.drop c.lba).take c.blocks) with
   | (.ok L,k)=>L=(bs.drop c.lba).take c.blocks→k=c.blocks→∀xs u,ac_ D w u→RdW w u pw D st k→Own u w.heap.size av_ 19 xs (L.flatMap bc)→R xs (rsv 0 sn0 au_).toArray true u
   | (.error s,k)=>k≤c.blocks→∀u,ac_ D w u→RdW w u pw D st k→R au_ (rsv 2 s au_).toArray false u) :
  cR_ (some ⟨dv,0,none⟩) (cmv c).toArray w R:=by
 refine h0_.calls _ _ _ _ ?_
 have hlen:=h.len
 have hsz:=h.size
 refine ag_ fun cb w0 hcb hb0 hg0 hsz0=>?_
 have hb0:Blk w0 cb (cmv c).toArray az_:=hb0
 refine ag_ fun ab w1 hab hb1 hg1 hsz1=>?_
 rintro w2 rfl
 have hg2:ab_ w1 w1.drew:=am_ w1
 have hgw2:=(hg0.trans hg1).trans hg2
 have hw2:=h.grow hgw2
 have hc2:Blk w1.drew cb (cmv c).toArray az_:=(hg1.trans hg2).heap hb0 (fun q=>q)
 have c2:∀{v:World},Blk v cb (cmv c).toArray az_→v.cell? ((⟨cb,0,none⟩:Addr).add 2)=some (.int .u64 (c.lba:Int)):=fun q=>by rw[ao_,q.cell];rfl
 have c3:∀{v:World},Blk v cb (cmv c).toArray az_→v.cell? ((⟨cb,0,none⟩:Addr).add 3)=some (.int .u64 (c.blocks:Int)):=fun q=>by rw[ao_,q.cell];rfl
 have c6:∀{v:World},Blk v cb (cmv c).toArray az_→v.cell? ((⟨cb,0,none⟩:Addr).add 6)=some (.int .u8 (c.prot:Int)):=fun q=>by rw[ao_,q.cell];rfl
 refine⟨fun v=>Blk v dv (dm_ ps kind) bV_∧Blk v cb (cmv c).toArray az_,⟨hw2.dev,hc2⟩,rfl,some ⟨ps,0,none⟩,fun v hv=>nE_ hv.1,(c.lba:Int),fun v hv=>c2 hv.2,(c.blocks:Int),fun v hv=>c3 hv.2,?_⟩
 rw[w64 (n:=(c.lba:Int)) o_ o_,w64 (n:=(c.blocks:Int)) o_ o_]
 have hfew:=h.few
 refine qp_ hw2.isS hw2.nps hw2.isW h.nm hsz.2 hc o_ (fun hfl xs w3 hk3 hw3 hown3 hn3=>ai_ rfl ?_) (fun k hkl hfl hf w3 hk3 hw3=>al_ rfl ?_)
 case refine_2=>
  have lt0:=fun k (q:D k)=>h.isW.lt q
  have hc3:Blk w3 cb (cmv c).toArray az_:=hk3.heap hc2 fun q=>by have:=lt0 _ q;omega
  refine⟨(c.lba:Int),c2 hc3,?_⟩
  rw[bZ_ (n:=(k:Int)) o_ o_,bZ_ o_ o_,show((c.lba:Int)+(k:Int))=((c.lba+k:Nat):Int) by omega]
  refine ge_ (key:=3) fun w4 hg4=>?_
  have ha4:Blk w4 ab _ aa_:=hg4.heap (hk3.heap (hg2.heap hb1 (fun q=>q)) (fun q=>by have:=lt0 _ q;omega)) (fun q=>q)
  refine aW_ ha4 rfl fun w5 hk5=>?_
  have hkw:ac_ D w w4:=((hgw2.mono fun _ _ q=>q.elim).trans hk3 fun _ _ q=>q).grow hg4
  have hab2:w.heap.size≤ab:=by have:=hg0.size;omega
  unfold h8_ at hR
  rw[i3_ hkl hfl hf] at hR
  exact hR o_ w5 (hkw.trans hk5 fun i hi q=>o_) (((hw3.pre hgw2).grow hg4).keep hk5 (fun k hk q=>by have:=lt0 _ hk;omega) (fun g cur hg q=>by subst q;exact absurd (bj_ ha4 hg) d_))
 rw[vS_ h.tells o_] at hown3
 have hLl:((bs.drop c.lba).take c.blocks).length=c.blocks:=by rw[List.length_take,List.length_drop];omega
 unfold h8_ at hR
 rw[ho_ hfl] at hR
 generalize (bs.drop c.lba).take c.blocks=L at *
 have lt0:=fun k (q:D k)=>h.isW.lt q
 have hkw3:ac_ D w w3:=(hgw2.mono fun _ _ q=>q.elim).trans hk3 fun _ _ q=>q
 have hc3:Blk w3 cb (cmv c).toArray az_:=hk3.heap hc2 fun q=>by have:=lt0 _ q;omega
 have hd3:Blk w3 dv (dm_ ps kind) bV_:=hk3.heap hw2.dev h.ndv
 have ha3:∀{cs},Blk w1 ab cs aa_→Blk w3 ab cs aa_:=fun q=>hk3.heap (hg2.heap q (fun q=>q)) fun q=>by have:=lt0 _ q;omega
 have hown3:Own w3 w.heap.size av_ 19 xs (L.flatMap bc):=hown3.mono hgw2.size
 have hxr:=hown3.rd o_
 have s2:=hgw2.size
 have s3:=hkw3.size
 refine⟨fun x v=>∃j:Nat,x=j∧j≤L.length∧ab_ w3 v∧∀i (hi:i<L.length),i<j→dY_ kind c.prot (c.lba+i) L[i]=0,fun x _=>L.length-x.toNat,⟨0,rfl,Nat.zero_le _,ac_.refl _ _,fun _ _ q=>absurd q (Nat.not_lt_zero _)⟩,?_⟩
 rintro x v ⟨j,rfl,hj,hgv,hall⟩
 have hav:Blk v ab _ aa_:=hgv.heap (ha3 hb1) (fun q=>q)
 have fin:∀{y:World},ab_ w3 y→∀{z:World},ac_ (fun k=>k=ab) y z→ac_ D w z∧RdW w z pw D st c.blocks:=fun {y} hy {z} hz=>by
  have hgz:ab_ w3 y:=hy
  have hzD:ac_ (fun k=>k=ab) w3 z:=(hgz.mono fun _ _ q=>q.elim).trans hz fun _ _ q=>q
  refine⟨⟨hzD.os.trans hkw3.os,hzD.tape.trans hkw3.tape,hzD.output.trans hkw3.output,Nat.le_trans hkw3.size hzD.size,fun k hk hn=>?_⟩,?_⟩
  ·rw[hzD.block k o_ o_,hkw3.block k hk hn]
  ·refine((hw3.pre hgw2).grow hgz).keep hz (fun k hk q=>?_) (fun g cur hg q=>?_)
   ·have:=lt0 _ hk;omega
   ·subst q
    have:=hgz.heap (ha3 hb1) (fun q=>q)
    exact absurd (bj_ this hg) d_
 refine ba_ (fun hlt=>?_) (fun hge=>?_)
 ·have hjL:j<L.length:=o_
  obtain⟨a0,ha0,hc0⟩:=jo_ (hxr.grow hgv) hjL
  refine⟨⟨o_,o_,by rw[ha0];rfl⟩,(bc L[j]).toArray,by rw[ha0,Int.toNat_natCast];exact nD_ hc0,?_⟩
  refine ag_ fun bb w4 hbb hb4 hg4 hsz4=>?_
  refine ap_ (cells:=(bc L[j]).toArray) hb4 bq_ (by simp[bN_]) (by simp[bN_]) (le_ _) fun w5 hb5 hk5 hsz5=>?_
  have hg5:ab_ v w5:=hg4.keep hk5 fun i hi q=>o_
  have hg35:=hgv.trans hg5
  have hc5:=hg35.heap hc3 (fun q=>q)
  refine⟨(c.lba:Int),c2 hc5,?_⟩
  rintro w6 rfl
  have hg6:ab_ w5 w5.drew:=am_ w5
  have hg36:=hg35.trans hg6
  refine⟨fun y=>Blk y dv (dm_ ps kind) bV_∧Blk y cb (cmv c).toArray az_∧Blk y bb (bc L[j]).toArray av_,⟨hg36.heap hd3 (fun q=>q),hg36.heap hc3 (fun q=>q),hg6.heap hb5 (fun q=>q)⟩,rfl,(kind:Int),fun y hy=>nF_ hy.1,(c.prot:Int),fun y hy=>c6 hy.2.1,
   (bc L[j]).toArray,fun y hy=>nD_ (ar_ hy.2.2),?_⟩
  have e1:IntKind.wrap .u64 ((c.lba:Int)+IntKind.wrap .u64 (j:Int))=((c.lba+j:Nat):Int):=by
   rw[bZ_ (n:=(j:Int)) o_ o_,bZ_ o_ o_];omega
  rw[e1]
  refine ov_ fun w7 hg7=>?_
  have hg37:=hg36.trans hg7
  by_cases hz:dY_ kind c.prot (c.lba+j) L[j]=0
  ·refine ai_ (by rw[hz];rfl) ?_
   rw[w64 o_ o_]
   refine⟨⟨j+1,o_,o_,hg37,fun i hi q=>?_⟩,by dsimp only;omega⟩
   by_cases e:i=j
   ·subst e;exact hz
   ·exact hall i hi o_
  ·refine al_ (by rw[bne_iff_ne];omega) ?_
   refine ge_ (key:=11) fun w8 hg8=>?_
   have hg38:=hg37.trans hg8
   refine aW_ (hg38.heap (ha3 hb1) (fun q=>q)) rfl fun w9 hk9=>?_
   obtain⟨f1,f2⟩:=fin hg38 hk9
   rw[qu_ hjL hz fun j' hj'=>hall j' o_ hj'] at hR
   have:=hR (Nat.le_refl _) w9 f1 f2
   unfold sB_ at this
   rw[mS_ hjL] at this
   exact this
 ·refine aW_ (st:=0) (s:=sn0) (d:=au_) hav rfl fun w4 hk4=>?_
  obtain⟨f1,f2⟩:=fin hgv hk4
  rw[qt_ fun i hi=>hall i hi o_] at hR
  refine hR rfl rfl xs w4 f1 f2 ((hown3.grow hgv).keep hk4 fun b hb q=>?_)
  obtain⟨cur,hcur⟩:=aS_ (hown3.grow hgv) hb
  subst q
  exact absurd (bj_ hav hcur) d_
theorem h9_ {lba:Nat} {ls:Sl} {L:List Bk} {fua:Bool} {R:A_→W_} (h:Dvq w dv ps pw file kind n cache D st bs m F) (hm:m≤600000000) (hc:lba+L.length≤n) (hL:∀v,ac_ D w v→Rd v 19 ls (L.flatMap bc))
  (hR:∀u D' bs',ac_ D w u→Dvq u dv ps pw file kind n cache D' (cA_ F file cache st lba L fua).2 bs' (m+4097) F→(∀k,D' k→D k∨w.heap.size≤k)→R (rsv (cA_ F file cache st lba L fua).1.st (cA_ F file cache st lba L fua).1.sn au_).toArray u):cd_ (some ⟨dv,0,none⟩) (lba:Int) ls fua w R:=by
 have hsz:=h.size
 refine so_ h hm hc hL (fun hfl u D' hk hd hD=>?_) (fun k hk0 hfl hf u D' hk hd hD=>?_)
 ·unfold cA_ gY_ mq_ at hR
  rw[ho_ hfl] at hR
  exact hR u D' _ hk (hd.mono o_) hD
 ·unfold cA_ gY_ mq_ at hR
  rw[i3_ hk0 hfl hf] at hR
  exact hR u D' _ hk (hd.mono o_) hD
theorem u7_ {lba k:Nat} {rs:Nat→L8} {fua:Bool} {j:Nat} (h:(mq_ F file cache st lba k rs fua).1=some j):j≤k:=by
 unfold mq_ at h
 cases e:gC_ F st.ops (k+if cr_ k fua cache then 1 else 0) with
 | none=>rw[e] at h;cases h
 | some i=>
  rw[e] at h
  injection h with h
  have:=List.mem_of_find?_eq_some e
  rw[List.mem_range] at this
  by_cases q:cr_ k fua cache=true
  ·rw[if_pos q] at this;omega
  ·rw[if_neg q] at this;omega
theorem lj_ {c:Cm} {p:Sl} {l:L8} {N:Nat} {R:Sl→A_→Bool→W_} (hd:Blk w dv (dm_ ps kind) bV_) (hp:Rd w 1 p (bv l)) (hb:p.n≤140737488351232) (hlba:c.lba≤4096) (hN:N≤4096)
  (hR:match kQ_ kind c l N with
   | .ok L=>L.length=N→∀xs u,ab_ w u→Own u w.heap.size av_ 19 xs (L.flatMap bc)→R xs (rsv 0 sn0 au_).toArray true u
   | .error s=>∀u,ab_ w u→R au_ (rsv 2 s au_).toArray false u):cT_ (some ⟨dv,0,none⟩) (cmv c).toArray p (N:Int) w R:=by
 unfold kQ_ at hR
 refine sp_ hd hp hb hlba hN (fun q u g=>?_) (fun h1 h2 h3 xs u g ho=>?_) (fun h1 h2 h3 h4 xs u g ho=>?_) (fun h1 h2 h3 i hi hz hall u g=>?_)
 ·rw[if_pos q] at hR;exact hR u g
 ·have e:szB (decide (c.prot≠0))=16:=by rw[decide_eq_false (by simpa using h3)];rfl
  rw[e,if_neg o_,if_pos h3] at hR
  exact hR (by rw[lX_,gX_];exact h2) xs u g ho
 ·have e:szB (decide (c.prot≠0))=24:=by rw[decide_eq_true h3];rfl
  rw[e,if_neg o_,if_neg h3,qt_ h4] at hR
  exact hR (by rw[gX_];exact h2) xs u g ho
 ·have e:szB (decide (c.prot≠0))=24:=by rw[decide_eq_true h3];rfl
  rw[e,if_neg o_,if_neg h3,qu_ hi hz hall] at hR
  have:=hR u g
  unfold sB_ at this
  rw[mS_ hi] at this
  exact this
theorem sr_ {file:ByteArray} {bs:List Bk} {lba n k o:Nat} (h:hm_ st file bs) (hF:lba+n≤bs.length) (hk:k≤n):hm_ {bO_ st file lba (fun _=>[0]) k with ops:=o} file (ft_ bs lba [] k):=by
 obtain⟨h1,h2⟩:=os_ (lba:=lba) h.1 k
 refine⟨h1,fun j hj=>?_⟩
 rw[c6_] at hj
 show some (dK_ (ch_ (bO_ st file lba (fun _=>[0]) k) file) j)=_
 rw[h2,iZ_ _ _ _ _ o_ _ hj]
 split
 ·simp
 ·exact h.2 j hj
theorem Dvq.unmapF (h:Dvq w dv ps pw file kind n cache D st bs m F) (hm:m≤600000000) {lba k:Nat} {R:Int→Int→W_} (hk:lba+k≤n)
  (hR:∀u D' bs',ac_ D w u→Dvq u dv ps pw file kind n cache D' (jq_ F file cache st lba k).2 bs' (m+k+1) F→(∀k,D' k→D k∨w.heap.size≤k)→match (jq_ F file cache st lba k).1 with
   | some j=>R (j:Int) 6 u
   | none=>R (k:Int) 0 u):c9_ (some ⟨ps,0,none⟩) (lba:Int) (k:Int) w R:=by
 have hsz:=h.size
 have hlen:=h.len
 have hfew:=h.few
 refine et_.calls _ _ _ _ _ ?_
 refine nx_ h.isS hsz.2 o_ ?_
 rw[if_pos hk]
 refine ai_ rfl ?_
 unfold jq_ mq_ at hR
 obtain⟨lo,lw⟩:=ij_ st file lba (fun _=>[0]) k
 have bad:∀j,j≤k→gC_ F st.ops (k+if cr_ k false cache then 1 else 0)=some j→∀u D',ac_ D w u→aZ_ u pw D' {bO_ st file lba (fun _=>[0]) j with ops:=st.ops+j+1} F→(∀k,D' k→D k∨w.heap.size≤k)→R (j:Int) 6 u:=fun j hj e u D' hku hw' hD'=>by
  rw[e] at hR
  obtain⟨lo,lw⟩:=ij_ st file lba (fun _=>[0]) j
  exact hR u D' (ft_ bs lba [] j) hku (h.step hku hw' hD' (jp_ h.ok (fun _=>d_) j o_) (sr_ h.tells o_ hj) (by rw[c6_];exact hlen) ⟨by show st.ops+j+1≤_;omega,by show(bO_ st file lba (fun _=>[0]) j).waits.length≤_;omega⟩) hD'
 refine u2_ (n:=k) (rs:=fun _=>[0]) h.isS h.nps h.isW h.nm o_ (fun _=>d_) o_ o_ (fun x u K hx hku hK=>?_) (fun hfl u D' hku hw' hD' hS'=>?_) (fun j hj hfl hf u D' hku hw' hD' hS'=>bad j o_ (i3_ o_ hfl hf) u D' hku hw' hD')
 ·refine⟨rfl,?_⟩
  show iG_ (x:Int) u K
  refine dJ_.calls _ _ _ ?_
  refine aJ_ (cells:=#[.int .u8 0]) (e:=ae_) (z:=1) (base:=0) k_ rfl d_ (Nat.zero_le _) fun w3 hlit3 hg3 _=>hK _ w3 hg3 hlit3
 ·have good:gC_ F st.ops (k+if cr_ k false cache then 1 else 0)=none→∀u D',ac_ D w u→aZ_ u pw D' (dX_ (cr_ k false cache) (bO_ st file lba (fun _=>[0]) k)) F→(∀k,D' k→D k∨w.heap.size≤k)→R (k:Int) 0 u:=fun e u D' hku hw' hD'=>by
   rw[e] at hR
   have so:=qr_ (cr_ k false cache) (bO_ st file lba (fun _=>[0]) k)
   have sw:(dX_ (cr_ k false cache) (bO_ st file lba (fun _=>[0]) k)).waits.length≤st.waits.length+k:=by
    rw[or_]
    split
    ·exact Nat.zero_le _
    ·omega
   have hd:Dvq u dv ps pw file kind n cache D' (dX_ (cr_ k false cache) (bO_ st file lba (fun _=>[0]) k)) (ft_ bs lba [] k) (m+k+1) F:=h.step hku hw' hD' (rO_ (jp_ h.ok (fun _=>d_) k o_)) (up_ h.tells o_) (by rw[c6_];exact hlen) o_
   exact hR u D' _ hku hd hD'
  by_cases q:0<k∧(false=true∨cache=false)
  ·rw[if_pos q]
   have hy:cr_ k false cache=true:=by
    unfold cr_
    rw[Bool.and_eq_true,decide_eq_true_eq,Bool.or_eq_true,Bool.not_eq_true']
    exact q
   rw[hy,if_pos rfl] at good bad
   have s1:=hku.size
   refine nA_ hw' (jp_ h.ok (fun _=>d_) _ o_) o_ o_ (fun hf u2 D2 hk2 hw2 hD2=>?_) (fun hf u2 hk2 hw2=>?_)
   ·rw[lo] at hf
    refine good (ho_ fun i hi=>?_) u2 D2 (hku.trans hk2 fun i hi e=>?_) hw2 (fun k' hk'=>?_)
    ·by_cases e:i=k
     ·rw[e];exact hf
     ·exact hfl i o_
    ·rcases hD' i e with r|r
     ·exact r
     ·omega
    ·rcases hD2 k' hk' with r|r
     ·exact hD' k' r
     ·exact .inr o_
   ·rw[lo] at hf
    refine bad k (Nat.le_refl _) (i3_ o_ hfl hf) u2 D' (hku.trans hk2 fun i hi e=>?_) (by rw[lo] at hw2;exact hw2) hD'
    rcases hD' i e with r|r
    ·exact r
    ·omega
  ·rw[if_neg q]
   have hy:cr_ k false cache=false:=by
    rw[Bool.eq_false_iff]
    intro e
    unfold cr_ at e
    rw[Bool.and_eq_true,decide_eq_true_eq,Bool.or_eq_true,Bool.not_eq_true'] at e
    exact q e
   rw[hy] at good
   exact good (ho_ fun i hi=>hfl i (by simpa using hi)) u D' hku hw' hD'
end
open Go CF
section
variable {w u:World} {dv ps pw:Nat} {file:ByteArray} {kind n:Nat} {cache:Bool} {D D':Nat→Prop} {st st':Wst} {bs bs':List Bk} {m m':Nat} {F:Int→Bool}
theorem Dvq.put' (h:Dvq w dv ps pw file kind n cache D st bs m F) {ab:Nat} {cs:A_} (hb:Blk w ab cs aa_) (hn:¬D ab) (hk:ac_ (fun k=>k=ab) w u):Dvq u dv ps pw file kind n cache D st bs m F:=
 h.put hb nH_ d_ d_ hn hk
theorem nJ_ {D D2:Nat→Prop} {w y:World} (hs:w.heap.size≤y.heap.size) (h:∀k,D2 k→D k∨y.heap.size≤k):∀k,D2 k→D k∨w.heap.size≤k:=fun k q=>by
 rcases h k q with r|r
 ·exact .inl r
 ·exact .inr o_
theorem vV_ {c:Cm} {p:Sl} {l:L8} {K:A_→W_} (h:Dvq w dv ps pw file kind n cache D st bs m F) (hm:m≤600000000) (hp:Rd w 1 p (bv l)) (hb:p.n≤140737488351232) (hc:c.lba+c.blocks≤n)
  (hK:cJ_ w dv ps pw file kind n cache D m F (mT_ F kind st bs c l) K):go_ (some ⟨dv,0,none⟩) (cmv c).toArray p w K:=by
 refine gx_.calls _ _ _ _ _ ?_
 have hsz:=h.size
 have hlen:=h.len
 refine ag_ fun cb w0 hcb hb0 hg0 hsz0=>?_
 have hb0:Blk w0 cb (cmv c).toArray az_:=hb0
 refine ag_ fun ab w1 hab hb1 hg1 hsz1=>?_
 have hb1:Blk w1 ab z10 aa_:=hb1
 have hgw1:=hg0.trans hg1
 have hc1:Blk w1 cb (cmv c).toArray az_:=hg1.heap hb0 (fun q=>q)
 have nab:¬D ab:=fun q=>by have:=h.isW.lt q;omega
 have ncb:¬D cb:=fun q=>by have:=h.isW.lt q;omega
 have sw:=hg0.size
 have hLl:((bs.drop c.lba).take c.blocks).length=c.blocks:=by rw[List.length_take,List.length_drop];omega
 unfold mT_ at hK
 generalize hL:(bs.drop c.lba).take c.blocks=L at *
 refine⟨c.bytes,by rw[ao_,hc1.cell];rfl,?_⟩
 generalize hwt:decide (c.prot≠0)=wt at *
 refine aX_ (fun came v=>ab_ w1 v∧(c.bytes=true→l.length%szB wt=0∧l.length/szB wt=c.blocks∧Own v w.heap.size av_ 19 came ((bE_ wt l).flatMap bc))) ?_ (fun J=>?_)
 ·rintro came v ⟨hgv,hcame⟩
  rw[if_neg (fun q=>by
   obtain⟨r1,r2,_⟩:=hcame q.1
   rcases q.2 with r|r
   ·exact r r1
   ·exact r r2)] at hK
  have hcv:=hgv.heap hc1 (fun q=>q)
  have hav:=hgv.heap hb1 (fun q=>q)
  have hwv:=hgw1.trans hgv
  refine⟨_,jO_ (ar_ hcv),?_⟩
  refine i4_ (h.grow hwv) hm hc ?_
  rw[hL]
  generalize h8_ F kind c.prot c.lba c.blocks st.ops L=X at hK ⊢
  obtain⟨X,k⟩:=X
  cases X with
  | ok L'=>
   rintro rfl rfl xs w4 hk4 hr4 hown4
   have hd4:=(h.grow hwv).reads hk4 hr4
   dsimp only at hK
   refine ag_ fun rb w5 hrb hb5 hg5 hsz5=>bF_ hb5 rfl fun w6 hb6 hk6 hsz6=>ai_ rfl ?_
   have hg46:ab_ w4 w6:=hg5.keep hk6 fun i hi q=>o_
   have hc6:Blk w6 cb (cmv c).toArray az_:=hg46.heap (hk4.heap hcv ncb) (fun q=>q)
   have ha6:Blk w6 ab z10 aa_:=hg46.heap (hk4.heap hav nab) (fun q=>q)
   have hkD6:ac_ D w w6:=((hwv.mono fun _ _ q=>q.elim).trans hk4 fun _ _ q=>q).grow hg46
   have s4:=hk4.size
   have swv:=hwv.size
   have hd6:=hd4.grow hg46
   refine⟨c.bytes,by rw[ao_,hc6.cell];rfl,?_⟩
   refine bR_ (fun y=>ab_ w6 y∧(c.bytes=true→d9_ (b3_ false L') (b3_ false (bE_ wt l))=none)) ?_ (fun J2=>?_)
   ·rintro y ⟨hgy,hno⟩
    refine fB_ fun z hz=>?_
    have haz:=(hgy.trans hz).heap ha6 (fun q=>q)
    refine aW_ (st:=0) (s:=sn0) (d:=au_) haz rfl fun z2 hk2=>?_
    have hK:cJ_ w dv ps pw file kind n cache D m F (okX [],more st c.blocks) K:=by
     by_cases q:c.bytes=true
     ·rw[if_pos q,hno q] at hK;exact hK
     ·rw[if_neg q] at hK;exact hK
    exact hK.plain rfl (bI_ ((hkD6.grow hgy).grow hz) o_ hk2) (((hd6.grow hgy).grow hz).put' haz nab hk2) o_ fun _ q=>.inl q
   ·by_cases hby:c.bytes=true
    ·refine al_ hby ?_
     obtain⟨_,hdv,hcame⟩:=hcame hby
     have hUl:(bE_ wt l).length=c.blocks:=by rw[gX_];exact hdv
     have hown6:=hown4.grow hg46
     have hcame6:Own w6 w.heap.size av_ 19 came ((bE_ wt l).flatMap bc):=(hcame.keep hk4 fun b hbb q=>by
      have:=(hcame.ge b hbb).1
      have:=h.isW.lt q
      omega).grow hg46
     refine pt_ (hown6.rd (by have:=hown6.len;rw[bU_] at this;omega)) (hcame6.rd (by have:=hcame6.len;rw[bU_] at this;omega)) o_ o_ o_ fun y hy=>?_
     cases hf:d9_ (b3_ false L') (b3_ false (bE_ wt l)) with
     | none=>rw[tw_ hf];exact ai_ (by rw[decide_eq_false_iff_not];omega) (J2 y ⟨hy,fun _=>hf⟩)
     | some i=>
      rw[if_pos hby,hf] at hK
      rw[tx_ hf]
      have hil:i<65536+1:=by
       have:=List.mem_of_find?_eq_some hf
       rw[List.mem_range,iz_] at this
       have e16:szB false=16:=rfl
       rw[e16] at this
       omega
      refine al_ (by rw[decide_eq_true_eq];omega) ?_
      rw[bZ_ o_ o_]
      refine ge_ (key:=14) (code:=0x1d00) (info:=i) fun z hz=>?_
      have haz:=(hy.trans hz).heap ha6 (fun q=>q)
      refine aW_ haz rfl fun z2 hk2=>?_
      exact hK.plain rfl (bI_ ((hkD6.grow hy).grow hz) o_ hk2) (((hd6.grow hy).grow hz).put' haz nab hk2) o_ fun _ q=>.inl q
    ·exact ai_ (by simpa using hby) (J2 w6 ⟨ac_.refl _ _,fun q=>absurd q hby⟩)
  | error s=>
   intro hk w4 hk4 hr4
   have hd4:=(h.grow hwv).reads hk4 hr4
   dsimp only at hK
   refine ag_ fun rb w5 hrb hb5 hg5 hsz5=>bF_ hb5 rfl fun w6 hb6 hk6 hsz6=>al_ rfl ⟨_,i0_ (ar_ hb6),?_⟩
   have hg46:ab_ w4 w6:=hg5.keep hk6 fun i hi q=>o_
   have ha6:Blk w6 ab z10 aa_:=hg46.heap (hk4.heap hav nab) (fun q=>q)
   refine aW_ ha6 rfl fun w7 hk7=>?_
   have swv:=hwv.size
   exact hK.plain rfl (bI_ (((hwv.mono fun _ _ q=>q.elim).trans hk4 fun _ _ q=>q).grow hg46) o_ hk7) ((hd4.grow hg46).put' ha6 nab hk7) o_ fun _ q=>.inl q
 ·by_cases hby:c.bytes=true
  ·refine al_ hby ⟨(c.prot:Int),by rw[ao_,hc1.cell];rfl,?_⟩
   have ew:((c.prot:Int) != 0)=wt:=by rw[←hwt,Bool.eq_iff_iff,bne_iff_ne,decide_eq_true_eq];omega
   rw[ew]
   have hln:=b4_ hp
   have hUl:(bE_ wt l).length=l.length/szB wt:=gX_ wt l
   have hs16:16≤szB wt:=by unfold szB;split<;>decide
   have hdiv:l.length/szB wt≤l.length:=Nat.div_le_self _ _
   have bad:∀y,ab_ w1 y→(l.length%szB wt≠0∨l.length/szB wt≠c.blocks)→eH_ y fun g5 w014=>af_ Tryz.prog (storeVar aa_ ⟨ab,0,none⟩ (.agg g5)) w014 fun w015=>∃res3:A_,(loadVar aa_ ⟨ab,0,none⟩).run Tryz.prog w015=.ok (.agg res3) w015∧K res3 w015:=fun y hy hq=>
    hF_ fun z hz=>aW_ ((hy.trans hz).heap hb1 (fun q=>q)) rfl fun z2 hk2=>by
     rw[if_pos ⟨hby,hq⟩] at hK
     have g2:=bY_ ((hgw1.trans hy).trans hz) o_ hk2
     exact hK.plain rfl (g2.mono fun _ _ q=>q.elim) (h.grow g2) o_ fun _ q=>.inl q
   refine jN_ (hp.grow hgw1) hb (fun q=>⟨0,fun e=>by simp at e,al_ rfl (bad w1 (ac_.refl _ _) (.inl q))⟩) fun hm0 xs y hy hown=>?_
   have hcy:=hy.heap hc1 (fun q=>q)
   refine⟨(c.blocks:Int),fun _=>by rw[ao_,Blk.cell hcy];rfl,?_⟩
   have hxn:xs.n=(bE_ wt l).length:=by have:=hown.len;rw[bU_] at this;omega
   rw[bZ_ (n:=(xs.n:Int)) o_ o_]
   by_cases hN:l.length/szB wt=c.blocks
   ·exact ai_ (by rw[Bool.or_eq_false_iff,bne_eq_false_iff_eq];exact⟨rfl,o_⟩) (J xs y ⟨hy,fun _=>⟨hm0,hN,hown.mono hgw1.size⟩⟩)
   ·exact al_ (by rw[Bool.or_eq_true,bne_iff_ne];right;omega) (bad y hy (.inr hN))
  ·exact ai_ (by simpa using hby) (J au_ w1 ⟨ac_.refl _ _,fun q=>absurd q hby⟩)
theorem j9_ {ab:Nat} {s2:Nat} {sn2:Sn} {w6 y2:World} {D2:Nat→Prop} {st2:Wst} {B2:List Bk} {m2:Nat} {K:A_→W_} (hw6:ab_ w w6) (lD:∀k,D k→k<w.heap.size) (hab:w.heap.size≤ab) (ha6:Blk w6 ab z10 aa_) (hk2:ac_ D w6 y2) (hd2:Dvq y2 dv ps pw file kind n cache D2 st2 B2 m2 F) (hD2:∀k,D2 k→D k∨w6.heap.size≤k)
  (hK:∀z,ac_ D w z→Dvq z dv ps pw file kind n cache D2 st2 B2 m2 F→(∀k,D2 k→D k∨w.heap.size≤k)→K (rsv s2 sn2 au_).toArray z) :
  af_ Tryz.prog (storeVar aa_ ⟨ab,0,none⟩ (.agg (rsv s2 sn2 au_).toArray)) y2 fun w'=>∃res:A_,(loadVar aa_ ⟨ab,0,none⟩).run Tryz.prog w'=.ok (.agg res) w'∧K res w':=by
 have nab:¬D ab:=fun q=>by have:=lD _ q;omega
 have hby:Blk y2 ab z10 aa_:=hk2.heap ha6 nab
 have lab:=aw_ ha6
 have nab2:¬D2 ab:=fun q=>by
  rcases hD2 _ q with r|r
  ·exact nab r
  ·omega
 exact aW_ (st:=s2) (s:=sn2) (d:=au_) hby rfl fun z hz=>hK z (bI_ ((hw6.mono fun _ _ q=>q.elim).trans hk2 fun _ _ q=>q) hab hz) (hd2.put' hby nab2 hz) (nJ_ hw6.size hD2)
theorem yA_ {c:Cm} {p:Sl} {l:L8} {K:A_→W_} (h:Dvq w dv ps pw file kind n cache D st bs m F) (hm:m≤500000000) (hp:Rd w 1 p (bv l)) (hb:p.n≤140737488351232) (hc:c.lba+c.blocks≤n)
  (hK:cJ_ w dv ps pw file kind n cache D m F (qv_ F kind n cache file st c l) K):hR_ (some ⟨dv,0,none⟩) (cmv c).toArray p w K:=by
 refine h2_.calls _ _ _ _ _ ?_
 have hsz:=h.size
 have hNle:c.lba+lY_ n c≤n:=by unfold lY_;split<;>omega
 refine ag_ fun cb w0 hcb hb0 hg0 hsz0=>?_
 have hb0:Blk w0 cb (cmv c).toArray az_:=hb0
 refine ag_ fun ab w1 hab hb1 hg1 hsz1=>?_
 have hb1:Blk w1 ab z10 aa_:=hb1
 have hgw1:=hg0.trans hg1
 have hc1:Blk w1 cb (cmv c).toArray az_:=hg1.heap hb0 (fun q=>q)
 have lD:=fun k (q:D k)=>h.isW.lt q
 have nab:¬D ab:=fun q=>by have:=lD _ q;omega
 have sw:=hg0.size
 have cAt:∀{v:World} {i:Nat} {x:Value},ab_ w1 v→(cmv c).toArray[i]?=some x→v.cell? ((⟨cb,0,none⟩:Addr).add i)=some x:=fun g e=>by rw[ao_,Blk.cell (g.heap hc1 (fun q=>q)),Nat.zero_add];exact e
 refine⟨(c.blocks:Int),cAt (ac_.refl _ _) rfl,?_⟩
 refine aX_ (fun n1 v=>n1=((lY_ n c:Nat):Int)∧ab_ w1 v) ?_ (fun J=>?_)
 case refine_2=>
  by_cases hz:c.blocks=0
  case neg=>
   refine ai_ (by rw[beq_eq_false_iff_ne];omega) (J _ _ ⟨?_,ac_.refl _ _⟩)
   unfold lY_;rw[if_neg hz]
  refine al_ (by rw[beq_iff_eq];omega) ?_
  rintro w2 rfl
  have hg2:ab_ w1 w1.drew:=am_ w1
  refine⟨fun v=>ab_ w1 v,hg2,(c.lba:Int),fun v hv=>cAt hv rfl,jP_ (h.grow (hgw1.trans hg2)) ⟨hg2,J _ _ ⟨?_,hg2⟩⟩⟩
  unfold lY_;rw[if_pos o_,bZ_ o_ o_];omega
 rintro n1 v ⟨rfl,hgv⟩
 have hcv:=hgv.heap hc1 (fun q=>q)
 have hav:=hgv.heap hb1 (fun q=>q)
 have hwv:=hgw1.trans hgv
 have hv:=h.grow hwv
 have sv:=hwv.size
 have lab:=aw_ hav
 unfold qv_ at hK
 generalize hNN:lY_ n c=N at *
 refine⟨_,jO_ (ar_ hcv),?_⟩
 refine lj_ (N:=1) hv.dev (hp.grow hwv) hb o_ d_ ?_
 generalize kQ_ kind c l 1=X at hK ⊢
 cases X with
 | error s=>
  intro y hy
  dsimp only at hK
  refine ag_ fun rb w5 hrb hb5 hg5 hsz5=>bF_ hb5 rfl fun w6 hb6 hk6 hsz6=>al_ rfl ?_
  have hyz:ab_ y w6:=hg5.keep hk6 fun i hi q=>o_
  refine⟨_,i0_ (ar_ hb6),aW_ ((hy.trans hyz).heap hav (fun q=>q)) rfl fun z' hk'=>?_⟩
  have g2:=bY_ ((hwv.trans hy).trans hyz) o_ hk'
  exact hK.plain rfl (g2.mono fun _ _ q=>q.elim) (h.grow g2) o_ fun _ q=>.inl q
 | ok L=>
 intro hL1 xs y hy ho
 obtain⟨b0,rfl⟩:∃b0,L = [b0]:=by
  match L,hL1 with
  | [b0],_=>exact⟨b0,rfl⟩
 have hK:cJ_ w dv ps pw file kind n cache D m F (if c.unmap=true∧b0.d=z16 then gY_ c.lba (jq_ F file cache st c.lba N) else cA_ F file cache st c.lba (f3_ kind c b0 N) false) K:=hK
 refine ag_ fun rb w5 hrb hb5 hg5 hsz5=>bF_ hb5 rfl fun w6 hb6 hk6 hsz6=>ai_ rfl ?_
 have hy6:ab_ y w6:=hg5.keep hk6 fun i hi q=>o_
 have hv6:=hy.trans hy6
 have hw6:=hwv.trans hv6
 have ho6:Own w6 w.heap.size av_ 19 xs ([b0].flatMap bc):=(ho.grow hy6).mono sv
 have hxn:xs.n=1:=by have:=ho6.len;rw[bU_] at this;simp at this;omega
 have hat:∀z,ab_ w6 z→∃a,xs.A=some a∧bQ_ z (a.add (0*19)) (bc b0):=fun z hz=>jo_ ((ho6.grow hz).rd o_) (i:=0) Nat.zero_lt_one
 have hat':∀z,ab_ w6 z→bQ_ z ((gA xs.A).add ((0:Int).toNat*19)) (bc b0):=fun z hz=>by
  obtain⟨a,ha,hc⟩:=hat z hz
  rw[ha];exact hc
 have bd:(0:Int)≤(0:Int)∧(0:Int)<(xs.n:Int)∧xs.A.isSome=true:=by
  obtain⟨a,ha,_⟩:=hat w6 (ac_.refl _ _)
  exact⟨d_,o_,by rw[ha];rfl⟩
 have hc6:=hv6.heap hcv (fun q=>q)
 have ha6:=hv6.heap hav (fun q=>q)
 have h6:=h.grow hw6
 have s6:=hv6.size
 obtain⟨r,hr,hrun⟩:=Bu_ (x:=.tmp 42) (y:=.tmp 43) b0.d z16 b0.hd rfl
 refine⟨c.unmap,by rw[ao_,Blk.cell hc6];rfl,fun _=>bd,(bv b0.d).toArray,fun _=>vO_ b0.hd (nC_ (hat' w6 (ac_.refl _ _))),r,fun _=>hrun w6,?_⟩
 by_cases hun:c.unmap=true∧b0.d=z16
 ·rw[if_pos hun] at hK
  refine al_ (by rw[hun.1,hr.2 hun.2];rfl) ?_
  rintro w7 rfl
  have hg7:ab_ w6 w6.drew:=am_ w6
  have h7:=h6.grow hg7
  refine⟨fun z=>ab_ w6 z,hg7,rfl,some ⟨ps,0,none⟩,fun z hz=>nE_ (h6.grow hz).dev,(c.lba:Int),fun z hz=>by rw[ao_,Blk.cell (hz.heap hc6 (fun q=>q))];rfl,?_⟩
  rw[w64 o_ o_,w64 o_ o_]
  have h67:ab_ w w6.drew:=hw6.trans hg7
  have ha7:=hg7.heap ha6 (fun q=>q)
  refine h7.unmapF o_ hNle fun y2 D2 B2 hk2 hd2 hD2=>?_
  unfold gY_ at hK
  have hle:∀j,(jq_ F file cache st c.lba N).1=some j→j≤N:=fun j e=>u7_ e
  generalize jq_ F file cache st c.lba N=X at hK hd2 hle ⊢
  obtain⟨X,x2⟩:=X
  cases X with
  | none=>
   refine ai_ rfl (fB_ fun y3 hy3=>?_)
   exact j9_ h67 lD o_ ha7 (hk2.grow hy3) (hd2.grow hy3) hD2 fun z hz hdz hDz=>hK.plain rfl hz hdz o_ hDz
  | some j=>
   refine al_ rfl ⟨(c.lba:Int),by rw[ao_,Blk.cell (hk2.heap (hg7.heap hc6 (fun q=>q)) (fun q=>by have:=lD _ q;omega))];rfl,?_⟩
   have hjN:j≤N:=hle j rfl
   rw[bZ_ (n:=(j:Int)) o_ o_,bZ_ o_ o_,show((c.lba:Int)+(j:Int))=((c.lba+j:Nat):Int) by omega]
   refine ge_ (key:=3) fun y3 hy3=>?_
   exact j9_ h67 lD o_ ha7 (hk2.grow hy3) (hd2.grow hy3) hD2 fun z hz hdz hDz=>hK.plain rfl hz hdz o_ hDz
 ·rw[if_neg hun] at hK
  have hguard:(c.unmap&&r)=false:=by
   cases hu:c.unmap with
   | false=>rfl
   | true=>
    cases hr':r with
    | false=>rfl
    | true=>exact absurd ⟨hu,hr.1 hr'⟩ hun
  refine ai_ hguard ⟨fun all x z=>∃j:Nat,x=j∧j≤N∧ab_ w6 z∧Own z w6.heap.size av_ 19 all ((f3_ kind c b0 j).flatMap bc),fun _ x _=>N-x.toNat,⟨0,rfl,Nat.zero_le _,ac_.refl _ _,aG_ _ _ _ _⟩,?_⟩
  rintro all x z ⟨j,rfl,hj,hgz,hown⟩
  have han:all.n=j:=by have:=hown.len;rw[bU_,nI_] at this;omega
  refine ba_ (fun hlt=>?_) (fun hge=>?_)
  ·refine aX_ (fun all1 y2=>ab_ w6 y2∧Own y2 w6.heap.size av_ 19 all1 ((f3_ kind c b0 (j+1)).flatMap bc)) (fun all1 y2 hy2=>by
    rw[bZ_ o_ o_]
    exact⟨⟨j+1,o_,o_,hy2.1,hy2.2⟩,by dsimp only;omega⟩) (fun J2=>?_)
   refine⟨bd,(bc b0).toArray,nD_ (hat' z hgz),?_⟩
   refine ag_ fun bb w8 hbb hb8 hg8 hsz8=>?_
   refine ap_ (cells:=(bc b0).toArray) hb8 bq_ (by simp[bN_]) (by simp[bN_]) (le_ _) fun w9 hb9 hk9 hsz9=>?_
   have hz9:ab_ z w9:=hg8.keep hk9 fun i hi q=>o_
   have h69:=hgz.trans hz9
   refine⟨(c.prot:Int),by rw[ao_,Blk.cell (h69.heap hc6 (fun q=>q))];rfl,?_⟩
   have sz:=hgz.size
   refine bR_ (fun y2=>ab_ w6 y2∧Own y2 w6.heap.size av_ 19 all ((f3_ kind c b0 j).flatMap bc)∧Blk y2 bb (bc (kP_ kind c b0 j)).toArray av_) ?_ (fun J3=>?_)
   ·rintro y2 ⟨g2,o2,b2⟩
    refine⟨_,nD_ (ar_ b2),?_⟩
    refine aJ_ (cells:=(bc (kP_ kind c b0 j)).toArray) (e:=av_) (z:=19) (base:=0) (oo_ _ _) (by simp[bN_]) d_ (Nat.zero_le _) fun y3 hlit3 hg3 _=>?_
    refine aN_ jn_ bq_ rfl d_ d_ (o2.grow hg3) (hlit3.rd (by show 1≤_;decide)) (fun x hx=>o2_ _ x (by simpa using hx)) (by show(all.n+1)*24≤_;omega) (g2.trans hg3).size fun s' y4 hn4 hown4 hk4 _=>?_
    refine J2 s' y4 ⟨cz_ (g2.trans hg3) (o2.grow hg3) (Nat.le_refl _) hk4,?_⟩
    rw[us_,List.flatMap_append]
    simpa using hown4
   ·have o9:=hown.grow hz9
    have e64:IntKind.wrap .u64 ((c.lba:Int)+(j:Int))=((c.lba+j:Nat):Int):=by rw[bZ_ o_ o_];omega
    have nbb:all.blk≠some bb:=fun q=>by have:=(hown.ge bb q).2;omega
    by_cases hp0:c.prot=0
    ·refine al_ (by rw[beq_iff_eq];omega) ?_
     rintro y2 rfl
     have g2:ab_ w6 w9.drew:=h69.trans (am_ w9)
     refine⟨fun q=>ab_ w9 q,am_ w9,rfl,(kind:Int),fun q hq=>nF_ (h6.grow (h69.trans hq)).dev,(c.lba:Int),fun q hq=>by rw[ao_,Blk.cell ((h69.trans hq).heap hc6 (fun q=>q))];rfl,(bv b0.d).toArray,fun q hq=>vO_ b0.hd (nC_ (ar_ (hq.heap hb9 (fun q=>q)))),?_⟩
     rw[e64]
     refine rQ_ (app:=0) b0.hd fun y3 hy3=>?_
     have hb3:Blk y3 bb (bc b0).toArray av_:=((am_ w9).trans hy3).heap hb9 (fun q=>q)
     rw[ao_,Nat.zero_add]
     refine dW_ (o:=16) (cells:=(tc (c16 b0.d) 0 (mkR kind (c.lba+j))).toArray) hb3 dQ_ rfl (by simp[bN_,tc]) (by intro v hv;simp[tc] at hv;rcases hv with rfl|rfl|rfl<;>rfl) fun y4 hb4 hk4 hsz4=>?_
     have g3:=g2.trans hy3
     refine J3 y4 ⟨g3.keep hk4 fun i hi q=>o_,(((o9.grow (am_ w9)).grow hy3).keep hk4 fun b hbb q=>nbb (by rw[hbb,q])),?_⟩
     have e:(bc b0).take 16++tc (c16 b0.d) 0 (mkR kind (c.lba+j))++(bc b0).drop (16+3)=bc (kP_ kind c b0 j):=by
      rw[rp_,List.drop_of_length_le (by rw[bN_];decide),List.append_nil]
      unfold kP_;rw[if_pos hp0];rfl
     rw[←e];exact hb4
    ·refine ai_ (by rw[beq_eq_false_iff_ne];omega) ⟨rfl,(kind:Int),nF_ (h6.grow h69).dev,fun _=>rfl,(kind:Int),fun _=>nF_ (h6.grow h69).dev,?_⟩
     by_cases hk12:kind=1∨kind=2
     ·refine al_ (by rw[Bool.or_eq_true,beq_iff_eq,beq_iff_eq];omega) ⟨(c.lba:Int),by rw[ao_,Blk.cell (h69.heap hc6 (fun q=>q))];rfl,?_⟩
      rw[e64,ao_,ao_]
      refine aU_ hb9 (by simp[bN_]) rfl fun y2 hb2 hk2 _=>J3 y2 ⟨h69.keep hk2 fun i hi q=>o_,o9.keep hk2 fun b hbb q=>nbb (by rw[hbb,q]),?_⟩
      have e:((bc b0).toArray.setIfInBounds (0+16+2) (.int .u32 (IntKind.wrap .u32 ((c.lba+j:Nat):Int))))=(bc (kP_ kind c b0 j)).toArray:=by
       have ew:IntKind.wrap .u32 ((c.lba+j:Nat):Int)=(((c.lba+j)%4294967296:Nat):Int):=by
        have e:IntKind.wrap .u32 ((c.lba+j:Nat):Int)=((c.lba+j:Nat):Int)%4294967296:=by simp[IntKind.wrap,IntKind.signed,IntKind.bits]
        rw[e];omega
       rw[ew]
       unfold kP_;rw[if_neg hp0,if_pos hk12]
       have hl16:(bv b0.d).length=16:=by rw[ax_,b0.hd]
       show((bv b0.d++[_,_,_]).toArray.setIfInBounds 18 _)=(bv b0.d++[_,_,_]).toArray
       rw[←Array.toList_inj]
       simp only[Array.toList_setIfInBounds]
       rw[List.set_append_right _ _ o_,hl16];rfl
      rw[←e];exact hb2
     ·refine ai_ (by rw[Bool.or_eq_false_iff,beq_eq_false_iff_ne,beq_eq_false_iff_ne];omega) (J3 w9 ⟨h69,o9,?_⟩)
      unfold kP_;rw[if_neg hp0,if_neg hk12];exact hb9
  ·have hjN:j=N:=o_
   subst hjN
   refine⟨(c.lba:Int),by rw[ao_,Blk.cell (hgz.heap hc6 (fun q=>q))];rfl,?_⟩
   have hz6:=h6.grow hgz
   have sz:=hgz.size
   refine h9_ (L:=f3_ kind c b0 j) hz6 o_ (by rw[nI_];omega) (fun q hq=>?_) fun y2 D2 B2 hk2 hd2 hD2=>?_
   ·have oo:=hown.keep hq fun b hbb e=>by
     have:=(hown.ge b hbb).1
     have:=lD _ e
     omega
    exact oo.rd (by have:=oo.len;rw[bU_,nI_] at this;omega)
   ·have eD:(cA_ F file cache st c.lba (f3_ kind c b0 j) false).1.d = []:=by unfold cA_ gY_;split<;>rfl
    exact j9_ (hw6.trans hgz) lD o_ (hgz.heap ha6 (fun q=>q)) hk2 hd2 (fun k q=>hD2 k q) fun z hz hdz hDz=>hK.plain eD hz hdz o_ hDz
end
open Go CF
section
variable {w u:World} {dv ps pw:Nat} {file:ByteArray} {kind n:Nat} {cache:Bool} {D D':Nat→Prop} {st st':Wst} {bs bs':List Bk} {m m':Nat} {F:Int→Bool}
theorem xd_ {p:Sl} {l:L8} {K:A_→W_} (h:Dvq w dv ps pw file kind n cache D st bs m F) (hm:m≤500000000) (hp:Rd w 1 p (bv l)) (hb:p.n≤140737488351232)
  (hpk:∀v,ac_ D w v→Rd v 1 p (bv l)) (hK:cJ_ w dv ps pw file kind n cache D m F (oy_ F n cache file st l) K):g8_ (some ⟨dv,0,none⟩) p w K:=by
 refine hi_.calls _ _ _ _ ?_
 have hsz:=h.size
 have hlen:=h.len
 have hln:=b4_ hp
 refine ag_ fun ab w1 hab hb1 hg1 hsz1=>?_
 have hb1:Blk w1 ab z10 aa_:=hb1
 have lD:=fun k (q:D k)=>h.isW.lt q
 have nab:¬D ab:=fun q=>by have:=lD _ q;omega
 unfold oy_ at hK
 have ret:∀{v:World} {X:RsX},ab_ w1 v→X.d = []→cJ_ w dv ps pw file kind n cache D m F (X,st) K→
   af_ Tryz.prog (storeVar aa_ ⟨ab,0,none⟩ (.agg (rsv X.st X.sn au_).toArray)) v fun w'=>∃res:A_,(loadVar aa_ ⟨ab,0,none⟩).run Tryz.prog w'=.ok (.agg res) w'∧K res w':=fun {v X} g e hR=>aW_ (g.heap hb1 (fun q=>q)) rfl fun v' hk=>by
  have g2:=bY_ (hg1.trans g) o_ hk
  exact hR.plain e (g2.mono fun _ _ q=>q.elim) (h.grow g2) o_ fun _ q=>.inl q
 by_cases hl0:l.length=0
 ·rw[if_pos hl0] at hK
  exact al_ (by rw[beq_iff_eq];omega) (fB_ fun v hv=>ret (X:=okX []) hv rfl hK)
 rw[if_neg hl0] at hK
 refine ai_ (by rw[beq_eq_false_iff_ne];omega) ?_
 have hp1:=hp.grow hg1
 refine u5_ (at_:=0) (n:=2) hp1 o_ d_ d_ d_ ?_
 refine u5_ (at_:=2) (n:=2) hp1 o_ d_ d_ d_ ⟨fun _=>d_,?_⟩
 have n02:=eL_ (l.drop 0) 2
 have n22:=eL_ (l.drop 2) 2
 have p256:(256:Nat) ^ 2=65536:=rfl
 rw[p256] at n02 n22
 by_cases hform:tA_ l
 case neg=>
  rw[if_pos hform] at hK
  unfold tA_ at hform
  refine al_ ?_ (hF_ fun v hv=>ret (X:=snX (ci_ 0x1a00)) hv rfl hK)
  by_cases h8:l.length<8
  ·simp only[Bool.or_eq_true,decide_eq_true_eq]
   left;left;left;right;omega
  ·rw[if_pos o_,if_pos o_,if_pos o_,w64 o_ o_,w64 o_ o_,w64 o_ o_,w64 o_ o_]
   have em:(((num ((l.drop 2).take 2):Nat):Int).tmod 16)=((num ((l.drop 2).take 2)%16:Nat):Int):=rfl
   rw[em]
   simp only[Bool.or_eq_true,bne_iff_ne,ne_eq]
   by_cases q1:num ((l.drop 0).take 2)=l.length-2
   ·by_cases q2:num ((l.drop 2).take 2)=l.length-8
    ·right;omega
    ·left;right;omega
   ·left;left;right;omega
 rw[if_neg (fun q=>q hform)] at hK
 obtain⟨h8,hf1,hf2,hf3⟩:=hform
 rw[if_pos o_,if_pos o_,if_pos o_]
 refine ai_ ?_ ?_
 ·rw[w64 o_ o_,w64 o_ o_,w64 o_ o_,w64 o_ o_]
  have em:(((num ((l.drop 2).take 2):Nat):Int).tmod 16)=((num ((l.drop 2).take 2)%16:Nat):Int):=rfl
  rw[em]
  simp only[Bool.or_eq_false_iff,bne_eq_false_iff_eq,decide_eq_false_iff_not]
  exact⟨⟨⟨⟨trivial,o_⟩,o_⟩,o_⟩,o_⟩
 generalize hN:(l.length-8)/16=N at *
 have hlN:l.length=8+16*N:=o_
 have bad:∀{v:World} {j:Nat} {s:Sn},ab_ w1 v→j<N→(∀k,k<j→ox_ n l k=none)→ox_ n l j=some s→af_ Tryz.prog (storeVar aa_ ⟨ab,0,none⟩ (.agg (rsv 2 s au_).toArray)) v fun w'=>∃res:A_,(loadVar aa_ ⟨ab,0,none⟩).run Tryz.prog w'=.ok (.agg res) w'∧K res w':=fun {v j s} g hj h0 hs=>by
  have e:vU_ n l N=some s:=mU_ hj h0 hs
  rw[e] at hK
  exact ret (X:=snX s) g rfl hK
 refine⟨fun total i v=>∃j:Nat,i=((8+16*j:Nat):Int)∧j≤N∧ab_ w1 v∧total=((gg_ l j:Nat):Int)∧gg_ l j≤256∧(∀k,k<j→d5_ l k+fS_ l k≤n)∧∀k,k<j→ox_ n l k=none,fun _ i _=>8+16*N-i.toNat,⟨0,rfl,Nat.zero_le _,ac_.refl _ _,rfl,Nat.zero_le _,fun _ q=>absurd q (Nat.not_lt_zero _),fun _ q=>absurd q (Nat.not_lt_zero _)⟩,?_⟩
 rintro total i v ⟨j,rfl,hj,hgv,rfl,hs,hall,hnon⟩
 by_cases hjN:j=N
 case neg=>
  refine al_ (by rw[decide_eq_true_eq];omega) ?_
  have hjl:8+16*j+16≤l.length:=o_
  have hpv:=hp1.grow hgv
  refine bX_ (at_:=8+16*j) (n:=8) hpv o_ d_ d_ o_ ?_
  have e8:IntKind.wrap .i64 (((8+16*j:Nat):Int)+8)=((8+16*j+8:Nat):Int):=by rw[w64 o_ o_];omega
  rw[e8]
  refine bX_ (at_:=8+16*j+8) (n:=4) hpv o_ d_ d_ o_ ?_
  have hrl:=zT_ l j
  have hrk:=zS_ l j
  show cF_ _ v fun n8 w010=>iE_ ((d5_ l j:Nat):Int) ((fS_ l j:Nat):Int) n8 w010 _
  refine jP_ (h.grow (hg1.trans hgv)) (ps_ hrl o_ o_ ?_)
  by_cases hin:d5_ l j+fS_ l j≤n
  case neg=>
   exact al_ (by rw[decide_eq_false hin];rfl) (ge_ (key:=5) (code:=0x2100) (info:=d5_ l j) fun v2 hv2=>bad (hgv.trans hv2) o_ hnon (by unfold ox_;rw[if_pos o_]))
  refine ai_ (by rw[decide_eq_true hin];rfl) ?_
  have et:IntKind.wrap .u64 (((gg_ l j:Nat):Int)+((fS_ l j:Nat):Int))=((gg_ l (j+1):Nat):Int):=by rw[bZ_ o_ o_];simp only[gg_];omega
  show Br (decide (IntKind.wrap .u64 (((gg_ l j:Nat):Int)+((fS_ l j:Nat):Int))>256)) _ _
  by_cases h256:256<gg_ l (j+1)
  ·refine al_ (by rw[et,decide_eq_true_eq];omega) (hn_ (s:=⟨5,0x2600,0,false,((8+16*j+8:Nat):Int),-1,true,false⟩) fun v2 hv2=>bad (hgv.trans hv2) o_ hnon (by unfold ox_;rw[if_neg o_,if_pos h256]))
  ·have e16:IntKind.wrap .i64 (((8+16*j:Nat):Int)+16)=((8+16*(j+1):Nat):Int):=by rw[w64 o_ o_];omega
   refine ai_ (by rw[et,decide_eq_false_iff_not];omega) ?_
   show(∃j_1:Nat,IntKind.wrap .i64 (((8+16*j:Nat):Int)+16)=((8+16*j_1:Nat):Int)∧j_1≤N∧ab_ w1 v∧IntKind.wrap .u64 (((gg_ l j:Nat):Int)+((fS_ l j:Nat):Int))=((gg_ l j_1:Nat):Int)∧gg_ l j_1≤256∧(∀k,k<j_1→d5_ l k+fS_ l k≤n)∧∀k,k<j_1→ox_ n l k=none)∧8+16*N-(IntKind.wrap .i64 (((8+16*j:Nat):Int)+16)).toNat<8+16*N-(((8+16*j:Nat):Int)).toNat
   rw[e16,et]
   exact⟨⟨j+1,rfl,o_,hgv,rfl,o_,fun k hk=>by
    by_cases e:k=j
    ·rw[e];exact hin
    ·exact hall k o_,fun k hk=>by
    by_cases e:k=j
    ·rw[e];unfold ox_;rw[if_neg o_,if_neg h256]
    ·exact hnon k o_⟩,o_⟩
 subst hjN
 refine ai_ (by rw[decide_eq_false_iff_not];omega) ?_
 have eB:vU_ n l j=none:=jh_ hnon
 rw[eB] at hK
 dsimp only at hK
 have hwv:=hg1.trans hgv
 have hbv:Blk v ab z10 aa_:=hgv.heap hb1 (fun q=>q)
 have lab:=aw_ hbv
 have sv:=hwv.size
 refine⟨fun i x=>∃(k:Nat) (Dk:Nat→Prop) (stk:Wst) (Bk:List Bk),i=((8+16*k:Nat):Int)∧k≤j∧ac_ D v x∧Dvq x dv ps pw file kind n cache Dk stk Bk (m+gg_ l k+k) F∧(∀q,Dk q→D q∨v.heap.size≤q)∧jr_ F file cache st l k=(none,stk),fun i _=>8+16*j-i.toNat,
  ⟨0,D,st,bs,rfl,Nat.zero_le _,ac_.refl _ _,h.grow hwv,fun _ q=>.inl q,rfl⟩,?_⟩
 rintro i x ⟨k,Dk,stk,Bs,rfl,hk,hkx,hdx,hDk,hgo⟩
 have hkD:ac_ D w x:=(hwv.mono fun _ _ q=>q.elim).trans hkx fun _ _ q=>q
 have sx:=hkx.size
 have hbx:Blk x ab z10 aa_:=hkx.heap hbv nab
 by_cases hkj:k=j
 case neg=>
  refine al_ (by rw[decide_eq_true_eq];omega) ?_
  have hpx:=hpk x hkD
  refine bX_ (at_:=8+16*k) (n:=8) hpx o_ d_ d_ o_ ?_
  have e8:IntKind.wrap .i64 (((8+16*k:Nat):Int)+8)=((8+16*k+8:Nat):Int):=by rw[w64 o_ o_];omega
  rw[e8]
  refine bX_ (at_:=8+16*k+8) (n:=4) hpx o_ d_ d_ o_ ⟨rfl,some ⟨ps,0,none⟩,nE_ hdx.dev,?_⟩
  show c9_ _ (IntKind.wrap .i64 ((d5_ l k:Nat):Int)) (IntKind.wrap .i64 ((fS_ l k:Nat):Int)) x _
  have hin:=hall k o_
  rw[w64 o_ o_,w64 o_ o_]
  have hsk:=rS_ l (i:=k) (j:=j) hk
  have hsk1:=rS_ l (i:=k+1) (j:=j) o_
  have hj16:j≤4096:=o_
  have hgo1:jr_ F file cache st l (k+1)=(match jq_ F file cache stk (d5_ l k) (fS_ l k) with
   | (some j,y)=>(some (atS 3 0x0c00 (d5_ l k+j)),y)
   | (none,y)=>(none,y)):=by
   show(match jr_ F file cache st l k with
    | (some s,x)=>(some s,x)
    | (none,x)=>match jq_ F file cache x (d5_ l k) (fS_ l k) with
     | (some j,y)=>(some (atS 3 0x0c00 (d5_ l k+j)),y)
     | (none,y)=>(none,y))=_
   rw[hgo]
  have hle:∀i,(jq_ F file cache stk (d5_ l k) (fS_ l k)).1=some i→i≤fS_ l k:=fun i e=>u7_ e
  refine hdx.unmapF o_ hin fun y Dy By hky hdy hDy=>?_
  have hDy2:∀q,Dy q→D q∨v.heap.size≤q:=fun q hq=>by
   rcases hDy q hq with r|r
   ·exact hDk q r
   ·exact .inr o_
  have hkvy:ac_ D v y:=hkx.trans hky fun i hi q=>by
   rcases hDk i q with r|r
   ·exact r
   ·omega
  generalize jq_ F file cache stk (d5_ l k) (fS_ l k)=X at hgo1 hle hdy ⊢
  obtain⟨X,x2⟩:=X
  cases X with
  | none=>
   refine ai_ rfl ?_
   have e16:IntKind.wrap .i64 (((8+16*k:Nat):Int)+16)=((8+16*(k+1):Nat):Int):=by rw[w64 o_ o_];omega
   show(∃(k_1:Nat) (Dk:Nat→Prop) (stk:Wst) (Bk:List Bk),IntKind.wrap .i64 (((8+16*k:Nat):Int)+16)=((8+16*k_1:Nat):Int)∧k_1≤j∧ac_ D v y∧Dvq y dv ps pw file kind n cache Dk stk Bk (m+gg_ l k_1+k_1) F∧(∀q,Dk q→D q∨v.heap.size≤q)∧jr_ F file cache st l k_1=(none,stk))∧8+16*j-(IntKind.wrap .i64 (((8+16*k:Nat):Int)+16)).toNat<8+16*j-(((8+16*k:Nat):Int)).toNat
   rw[e16]
   exact⟨⟨k+1,Dy,x2,By,rfl,o_,hkvy,hdy.mono (by simp only[gg_];omega),hDy2,hgo1⟩,o_⟩
  | some i=>
   have hi:=hle i rfl
   have hst:=qw_ hgo1 (j-(k+1))
   rw[show k+1+(j-(k+1))=j by omega] at hst
   rw[hst] at hK
   refine al_ rfl ?_
   show c0_ 3 3072 (IntKind.wrap .u64 (((d5_ l k:Nat):Int)+IntKind.wrap .u64 (i:Int))) y _
   rw[bZ_ (n:=(i:Int)) o_ o_,bZ_ o_ o_,show(((d5_ l k:Nat):Int)+(i:Int))=((d5_ l k+i:Nat):Int) by omega]
   refine ge_ (key:=3) fun y3 hy3=>?_
   exact j9_ hwv lD o_ hbv (hkvy.grow hy3) (hdy.grow hy3) hDy2 fun z hz hdz hDz=>hK.plain rfl hz hdz o_ hDz
 subst hkj
 rw[hgo] at hK
 refine ai_ (by rw[decide_eq_false_iff_not];omega) (fB_ fun y hy=>?_)
 exact j9_ hwv lD o_ hbv (hkx.grow hy) (hdx.grow hy) hDk fun z hz hdz hDz=>hK.plain rfl hz hdz o_ hDz
end
open Go CF
def u8_ (dv cb ab:Nat) (told:Sl) (K:A_→W_) (r:Addr) (xs1:Sl) (g2:A_) (b1:Bool) (w010:World):Prop:=
 af_ Tryz.prog (storeVar aa_ r (.agg g2)) w010 fun w011=>Br (!b1)
  (∃g3:A_,(loadVar aa_ r).run Tryz.prog w011=.ok (.agg g3) w011∧af_ Tryz.prog (storeVar aa_ ⟨ab,0,none⟩ (.agg g3)) w011 fun w012=>∃res1:A_,(loadVar aa_ ⟨ab,0,none⟩).run Tryz.prog w012=.ok (.agg res1) w012∧K res1 w012)
  (∃g4:A_,(loadVar az_ ⟨cb,0,none⟩).run Tryz.prog w011=.ok (.agg g4) w011∧cR_ (some ⟨dv,0,none⟩) g4 w011 fun xs2 g5 b2 w013=>af_ Tryz.prog (storeVar aa_ r (.agg g5)) w013 fun w014=>Br (!b2)
   (∃g6:A_,(loadVar aa_ r).run Tryz.prog w014=.ok (.agg g6) w014∧af_ Tryz.prog (storeVar aa_ ⟨ab,0,none⟩ (.agg g6)) w014 fun w015=>∃res2:A_,(loadVar aa_ ⟨ab,0,none⟩).run Tryz.prog w015=.ok (.agg res2) w015∧K res2 w015)
   (f8_ xs2 told w014 fun n5 w016=>Br (decide (n5≥0))
    (c0_ 14 7424 (IntKind.wrap .u64 n5) w016 fun g7 w017=>af_ Tryz.prog (storeVar aa_ ⟨ab,0,none⟩ (.agg g7)) w017 fun w018=>∃res3:A_,(loadVar aa_ ⟨ab,0,none⟩).run Tryz.prog w018=.ok (.agg res3) w018∧K res3 w018)
    (∃n6:Int,w016.cell? ((⟨cb,0,none⟩:Addr).add 2)=some (.int .u64 n6)∧∃b3:Bool,w016.cell? ((⟨cb,0,none⟩:Addr).add 5)=some (.bool b3)∧cd_ (some ⟨dv,0,none⟩) n6 xs1 b3 w016 fun g8 w019=>af_ Tryz.prog (storeVar aa_ ⟨ab,0,none⟩ (.agg g8)) w019 fun w020=>
     ∃res4:A_,(loadVar aa_ ⟨ab,0,none⟩).run Tryz.prog w020=.ok (.agg res4) w020∧K res4 w020)))
section
variable {w u:World} {dv ps pw:Nat} {file:ByteArray} {kind n:Nat} {cache:Bool} {D D':Nat→Prop} {st st':Wst} {bs bs':List Bk} {m m':Nat}
end
open Go CF
section
variable {w u:World} {dv ps pw:Nat} {file:ByteArray} {kind n:Nat} {cache:Bool} {D D':Nat→Prop} {st st':Wst} {bs bs':List Bk} {m m':Nat} {F:Int→Bool}
theorem ux_ {c:Cm} {p:Sl} {l:L8} {K:A_→W_} (h:Dvq w dv ps pw file kind n cache D st bs m F) (hm:m≤500000000) (hp:Rd w 1 p (bv l)) (hb:p.n≤140737488351232) (hc:c.lba+c.blocks≤n)
  (hK:cJ_ w dv ps pw file kind n cache D m F (li_ F kind cache file st bs c l) K):fI_ (some ⟨dv,0,none⟩) (cmv c).toArray p w K:=by
 refine fQ_.calls _ _ _ _ _ ?_
 have hsz:=h.size
 have hlen:=h.len
 have hfew:=h.few
 have hln:=b4_ hp
 have hcap:=hp.cap
 refine ag_ fun cb w0 hcb hb0 hg0 hsz0=>?_
 have hb0:Blk w0 cb (cmv c).toArray az_:=hb0
 refine ag_ fun ab w1 hab hb1 hg1 hsz1=>?_
 have hb1:Blk w1 ab z10 aa_:=hb1
 have hgw1:=hg0.trans hg1
 have hc1:Blk w1 cb (cmv c).toArray az_:=hg1.heap hb0 (fun q=>q)
 have lD:=fun k (q:D k)=>h.isW.lt q
 have nab:¬D ab:=fun q=>by have:=lD _ q;omega
 have ncb:¬D cb:=fun q=>by have:=lD _ q;omega
 have sw:=hg0.size
 have cAt:∀{v:World} {i:Nat} {x:Value},ab_ w1 v→(cmv c).toArray[i]?=some x→v.cell? ((⟨cb,0,none⟩:Addr).add i)=some x:=fun g e=>by rw[ao_,Blk.cell (g.heap hc1 (fun q=>q)),Nat.zero_add];exact e
 unfold li_ at hK
 generalize hwt:decide (c.prot≠0)=wt at *
 have ew:((c.prot:Int) != 0)=wt:=by rw[←hwt,Bool.eq_iff_iff,bne_iff_ne,decide_eq_true_eq];omega
 have hs24:16≤szB wt∧szB wt≤24:=by unfold szB;split<;>decide
 generalize hH:szB wt*c.blocks=H at *
 have hHle:H≤24*4096:=by rw[←hH];exact Nat.mul_le_mul hs24.2 o_
 rintro w2 rfl
 have hg2:ab_ w1 w1.drew:=am_ w1
 refine⟨fun v=>ab_ w1 v,hg2,(c.prot:Int),fun v hv=>cAt hv rfl,(c.blocks:Int),fun v hv=>cAt hv rfl,?_⟩
 rw[ew]
 refine rR_ ⟨hg2,?_⟩
 have eH:IntKind.wrap .i64 (((szB wt:Nat):Int)*IntKind.wrap .i64 (c.blocks:Int))=(H:Int):=by
  rw[w64 (n:=(c.blocks:Int)) o_ o_]
  have:((szB wt:Nat):Int)*(c.blocks:Int)=((H:Nat):Int):=by rw[←hH];exact(Int.natCast_mul _ _).symm
  rw[this];exact w64 o_ o_
 have e2H:IntKind.wrap .i64 (2*(H:Int))=((2*H:Nat):Int):=by rw[w64 o_ o_];omega
 rw[eH,e2H]
 have ret:∀{v:World} {X:RsX},ab_ w1 v→X.d = []→cJ_ w dv ps pw file kind n cache D m F (X,st) K→
   af_ Tryz.prog (storeVar aa_ ⟨ab,0,none⟩ (.agg (rsv X.st X.sn au_).toArray)) v fun w'=>∃res:A_,(loadVar aa_ ⟨ab,0,none⟩).run Tryz.prog w'=.ok (.agg res) w'∧K res w':=fun {v X} g e hR=>aW_ (g.heap hb1 (fun q=>q)) rfl fun v' hk=>by
  have g2:=bY_ (hgw1.trans g) o_ hk
  exact hR.plain e (g2.mono fun _ _ q=>q.elim) (h.grow g2) o_ fun _ q=>.inl q
 by_cases hl2:l.length=2*H
 case neg=>
  rw[if_pos hl2] at hK
  exact al_ (by rw[bne_iff_ne];omega) (hF_ fun w3 hg3=>ret (X:=snX (ci_ 0x1a00)) (hg2.trans hg3) rfl hK)
 rw[if_neg (fun q=>q hl2)] at hK
 refine ai_ (by rw[bne_eq_false_iff_eq];omega) ?_
 rintro w3 rfl
 have hg3:ab_ w1 w1.drew.drew:=hg2.trans (am_ _)
 simp only[Int.toNat_natCast]
 refine⟨fun v=>ab_ w1 v,hg3,⟨d_,o_,o_,hcap⟩,(c.prot:Int),fun v hv=>cAt hv rfl,?_⟩
 rw[ew]
 have hdm:H%szB wt=0∧H/szB wt=c.blocks:=by rw[←hH];exact⟨Nat.mul_mod_right _ _,Nat.mul_div_cancel_left _ o_⟩
 have hcut0:∀v,ab_ w v→Rd v 1 ⟨aI_ p.A p.c 0 1,H-0,p.c-0⟩ (bv (l.take H)):=fun v hv=>(hp.grow hv).cutB (l:=0) (k:=H) (Nat.zero_le _) o_
 have hcut1:∀v,ab_ w v→Rd v 1 ⟨aI_ p.A p.c H 1,p.n-H,p.c-H⟩ (bv (l.drop H)):=fun v hv=>by
  have:=(hp.grow hv).cutB (l:=H) (k:=p.n) o_ (Nat.le_refl _)
  rwa [List.take_of_length_le (by rw[List.length_drop];omega)] at this
 have hl0:(l.take H).length=H:=by rw[List.length_take];omega
 have hl1:(l.drop H).length=H:=by rw[List.length_drop];omega
 refine jN_ (hcut0 _ (hgw1.trans hg3)) (by show H-0≤_;omega) (fun q=>absurd (by rw[hl0];exact hdm.1) q) fun _ told w4 hg4 hown4=>?_
 have hgw4:=(hgw1.trans hg3).trans hg4
 have hown4:Own w4 w.heap.size av_ 19 told ((bE_ wt (l.take H)).flatMap bc):=hown4.mono (hgw1.trans hg3).size
 have hUl:(bE_ wt (l.take H)).length=c.blocks:=by rw[gX_,hl0];exact hdm.2
 rintro w5 rfl
 have hg15:ab_ w1 w4.drew:=(hg3.trans hg4).trans (am_ _)
 have hown5:Own w4.drew w.heap.size av_ 19 told ((bE_ wt (l.take H)).flatMap bc):=hown4.grow (am_ _)
 generalize w4.drew=w5 at *
 have hgw5:=hgw1.trans hg15
 have h5:=h.grow hgw5
 refine⟨fun v=>ab_ w1 v,hg15,(cmv c).toArray,fun v hv=>jO_ (ar_ (hv.heap hc1 (fun q=>q))),⟨o_,o_,o_,hcap⟩,(c.blocks:Int),fun v hv=>cAt hv rfl,?_⟩
 have hLl:((bs.drop c.lba).take c.blocks).length=c.blocks:=by rw[List.length_take,List.length_drop];omega
 have lab5:ab<w5.heap.size:=aw_ (hg15.heap hb1 (fun q=>q))
 have lcb5:cb<w5.heap.size:=aw_ (hg15.heap hc1 (fun q=>q))
 have hcome:∀(v:World) (hgv:ab_ w5 v) (R:Sl→A_→Bool→W_),(match kQ_ kind c (l.drop H) c.blocks with
   | .ok L=>L.length=c.blocks→∀xs u,ab_ v u→Own u v.heap.size av_ 19 xs (L.flatMap bc)→R xs (rsv 0 sn0 au_).toArray true u
   | .error s=>∀u,ab_ v u→R au_ (rsv 2 s au_).toArray false u)→cT_ (some ⟨dv,0,none⟩) (cmv c).toArray ⟨aI_ p.A p.c H 1,p.n-H,p.c-H⟩ (c.blocks:Int) v R:=fun v hgv R hR=>
  lj_ (N:=c.blocks) (h5.grow hgv).dev (hcut1 v (hgw5.trans hgv)) (by show p.n-H≤_;omega) o_ o_ hR
 generalize kQ_ kind c (l.drop H) c.blocks=X at hK hcome
 have tailE:∀(s:Sn) (rb:Nat) (v:World) (old:A_),X=.error s→ab_ w5 v→Blk v rb old aa_→old.size=10→w5.heap.size≤rb→u8_ dv cb ab told K ⟨rb,0,none⟩ au_ (rsv 2 s au_).toArray false v:=fun s rb v old hX hgv hbr ho hrb=>
  bF_ hbr ho fun v2 hb2 hk2 _=>al_ rfl ⟨_,i0_ (ar_ hb2),by
   subst hX
   have hg2':ab_ w5 v2:=hgv.keep hk2 fun i hi q=>o_
   exact ret (X:=snX s) (hg15.trans hg2') rfl hK⟩
 have tailG:∀(fresh:List Bk) (xs1:Sl) (rb:Nat) (v:World) (old:A_),X=.ok fresh→fresh.length=c.blocks→ab_ w5 v→Blk v rb old aa_→old.size=10→w5.heap.size≤rb→(xs1.blk≠some rb)→Own v w.heap.size av_ 19 xs1 (fresh.flatMap bc)→
   u8_ dv cb ab told K ⟨rb,0,none⟩ xs1 (rsv 0 sn0 au_).toArray true v:=fun fresh xs1 rb v old hX hfl hgv hbr ho hrb hxr hown1=>
  bF_ hbr ho fun v2 hb2 hk2 _=>ai_ rfl (by
   subst hX
   dsimp only at hK
   have hg2':ab_ w5 v2:=hgv.keep hk2 fun i hi q=>o_
   have hg1':=hg15.trans hg2'
   have hgw2:=hgw5.trans hg2'
   have hc2:=hg1'.heap hc1 (fun q=>q)
   have ha2:=hg1'.heap hb1 (fun q=>q)
   have hown2:Own v2 w.heap.size av_ 19 xs1 (fresh.flatMap bc):=hown1.keep hk2 fun b hbb q=>hxr (by rw[hbb,q])
   have htold2:=hown5.grow hg2'
   have h2:=h.grow hgw2
   have nrb:¬D rb:=fun q=>by have:=lD _ q;have:=hgw5.size;omega
   have sw2:=hgw2.size
   have sw5:=hgw5.size
   refine⟨_,jO_ (ar_ hc2),i4_ h2 o_ hc ?_⟩
   generalize h8_ F kind c.prot c.lba c.blocks st.ops ((bs.drop c.lba).take c.blocks)=Y at hK ⊢
   obtain⟨Y,k⟩:=Y
   cases Y with
   | ok L'=>
    rintro hL' rfl xs2 v3 hk3 hr3 hown3
    dsimp only at hK
    rw[←hL'] at hLl
    have hkD3:ac_ D w v3:=(hgw2.mono fun _ _ q=>q.elim).trans hk3 fun _ _ q=>q
    have ro:∀{x:Sl} {L:List Bk},Own v2 w.heap.size av_ 19 x (L.flatMap bc)→Own v3 w.heap.size av_ 19 x (L.flatMap bc):=fun ho=>ho.keep hk3 fun b hbb q=>by
     have:=(ho.ge b hbb).1
     have:=lD _ q
     omega
    refine bF_ (hk3.heap hb2 nrb) rfl fun v4 hb4 hk4 _=>ai_ rfl ?_
    have ro4:∀{x:Sl} {L:List Bk},Own v3 w.heap.size av_ 19 x (L.flatMap bc)→Own v4 w.heap.size av_ 19 x (L.flatMap bc):=fun ho=>ho.keep hk4 fun b hbb q=>bd_ ho (hk3.heap hb2 nrb) d_ (by rw[hbb,q])
    have hkD4:ac_ D w v4:=bI_ hkD3 o_ hk4
    have hd4:Dvq v4 dv ps pw file kind n cache D (more st c.blocks) bs (m+c.blocks) F:=(h2.reads hk3 hr3).put' (hk3.heap hb2 nrb) nrb hk4
    have o2:=ro4 (hown3.mono sw2)
    have oT:=ro4 (ro htold2)
    have oX:=ro4 (ro hown2)
    have ha4:Blk v4 ab z10 aa_:=hk4.heap (hk3.heap ha2 nab) o_
    have hc4:Blk v4 cb (cmv c).toArray az_:=hk4.heap (hk3.heap hc2 ncb) o_
    have rdo:∀{y:World} {x:Sl} {L:List Bk},L.length≤4096→Own y w.heap.size av_ 19 x (L.flatMap bc)→Rd y 19 x (L.flatMap bc):=fun hL ho=>ho.rd (by have:=ho.len;rw[bU_] at this;omega)
    refine pt_ (rdo o_ o2) (rdo o_ oT) o_ o_ o_ fun v5 hg5=>?_
    have hkD5:=hkD4.grow hg5
    have hd5:=hd4.grow hg5
    have ha5:=hg5.heap ha4 (fun q=>q)
    have s5:=hkD5.size
    have l5:=aw_ ha5
    cases hf:d9_ (b3_ false L') (b3_ false (bE_ wt (l.take H))) with
    | some i=>
     rw[hf] at hK
     have hil:i<65536+1:=by
      have:=List.mem_of_find?_eq_some hf
      rw[List.mem_range,iz_] at this
      have e16:szB false=16:=rfl
      rw[e16] at this
      omega
     rw[tx_ hf]
     refine al_ (by rw[decide_eq_true_eq];omega) ?_
     rw[bZ_ o_ o_]
     refine ge_ (key:=14) (code:=0x1d00) (info:=i) fun v6 hg6=>?_
     have ha6:=hg6.heap ha5 (fun q=>q)
     refine aW_ ha6 rfl fun v7 hk7=>?_
     exact hK.plain rfl (bI_ (hkD5.grow hg6) o_ hk7) ((hd5.grow hg6).put' ha6 nab hk7) o_ fun _ q=>.inl q
    | none=>
     rw[hf] at hK
     dsimp only at hK
     rw[tw_ hf]
     have hc5:=hg5.heap hc4 (fun q=>q)
     refine ai_ (by rw[decide_eq_false_iff_not];omega) ⟨(c.lba:Int),by rw[ao_,Blk.cell hc5];rfl,c.fua,by rw[ao_,Blk.cell hc5];rfl,?_⟩
     have oX5:=oX.grow hg5
     have eD:(cA_ F file cache (more st c.blocks) c.lba fresh c.fua).1.d = []:=by unfold cA_ gY_;split<;>rfl
     refine h9_ (L:=fresh) hd5 o_ o_ (fun y hy=>rdo o_ (oX5.keep hy fun b hbb q=>by
      have:=(oX5.ge b hbb).1
      have:=lD _ q
      omega)) fun v6 D6 B6 hk6 hd6 hD6=>?_
     have ha6:Blk v6 ab z10 aa_:=hk6.heap ha5 nab
     have nab6:¬D6 ab:=fun q=>by
      rcases hD6 _ q with r|r
      ·exact nab r
      ·omega
     refine aW_ ha6 rfl fun v7 hk7=>?_
     exact hK.plain eD (bI_ (hkD5.trans hk6 fun _ _ q=>q) o_ hk7) (hd6.put' ha6 nab6 hk7) o_ (nJ_ s5 hD6)
   | error s=>
    intro hkb v3 hk3 hr3
    dsimp only at hK
    have hd3:=h2.reads hk3 hr3
    refine bF_ (hk3.heap hb2 nrb) rfl fun v4 hb4 hk4 _=>al_ rfl ⟨_,i0_ (ar_ hb4),?_⟩
    have hkD3:ac_ D w v3:=(hgw2.mono fun _ _ q=>q.elim).trans hk3 fun _ _ q=>q
    have ha4:Blk v4 ab z10 aa_:=hk4.heap (hk3.heap ha2 nab) o_
    refine aW_ ha4 rfl fun v5 hk5=>?_
    exact hK.plain rfl (bI_ (bI_ hkD3 o_ hk4) o_ hk5) ((hd3.put' (hk3.heap hb2 nrb) nrb hk4).put' ha4 nab hk5) o_ fun _ q=>.inl q)
 refine⟨?_,?_⟩
 ·refine hcome w5 (ac_.refl _ _) _ ?_
  cases hX:X with
  | error s=>
   intro v2 hv2
   refine ag_ fun rb v3 hrb hb3 hg3' hsz3=>⟨hg15.trans (hv2.trans hg3'),?_⟩
   exact tailE s rb v3 _ hX (hv2.trans hg3') hb3 rfl (by have:=hv2.size;omega)
  | ok fresh=>
   intro hfl xs v2 hv2 ho
   refine ag_ fun rb v3 hrb hb3 hg3' hsz3=>⟨hg15.trans (hv2.trans hg3'),?_⟩
   exact tailG fresh xs rb v3 _ hX hfl (hv2.trans hg3') hb3 rfl (by have:=hv2.size;omega) (fun q=>by have:=(ho.ge _ q).2;omega) ((ho.grow hg3').mono hgw5.size)
 ·refine ag_ fun rb v3 hrb hb3 hg3' hsz3=>⟨hg15.trans hg3',?_⟩
  refine hcome v3 hg3' _ ?_
  cases hX:X with
  | error s=>
   intro v2 hv2
   exact tailE s rb v2 _ hX (hg3'.trans hv2) (hv2.heap hb3 (fun q=>q)) rfl o_
  | ok fresh=>
   intro hfl xs v2 hv2 ho
   exact tailG fresh xs rb v2 _ hX hfl (hg3'.trans hv2) (hv2.heap hb3 (fun q=>q)) rfl o_ (fun q=>by have:=(ho.ge _ q).1;omega) (ho.mono (hgw5.trans hg3').size)
theorem vW_ {base:Nat} {e:TypeId} {z:Nat} {s:Sl} {vs:List Value} (h:Own w base e z s vs) {k:Nat} (hk:k≤s.n):Own w base e z ⟨aI_ s.A s.c 0 z,k-0,s.c-0⟩ (vs.take (k*z)):=by
 obtain⟨hlen,hown⟩:=h
 have hlen:vs.length=s.n*z:=hlen
 have hkz:k*z≤s.n*z:=Nat.mul_le_mul_right _ hk
 have e1:aI_ s.A s.c 0 z=s.A:=by
  unfold aI_
  split
  ·rfl
  ·cases s.A with
   | none=>rfl
   | some a=>rw[Nat.zero_mul,Option.map_some,oc_]
 rw[e1]
 refine⟨by rw[List.length_take];show min (k*z) vs.length=k*z;omega,?_⟩
 rcases hown with⟨h2,hn0⟩|⟨g,cap,cur,hv',hbg,hg,hnc,hcm,hcs,htake⟩
 ·injection h2 with hA hN hC
  exact .inl ⟨by rw[hA];show Value.slice none k s.c=_;rw[hC,show k=0 by omega],by show k=0;omega⟩
 ·injection hv' with hA hN hC
  refine .inr ⟨g,cap,cur,by rw[hA];show Value.slice _ k s.c=Value.slice _ k _;rw[hC],hbg,hg,by show k≤cap;omega,hcm,hcs,?_⟩
  have hF:cur.toList.take (s.n*z)=vs:=htake
  show cur.toList.take (k*z)=_
  rw[←hF,List.take_take,Nat.min_eq_left hkz]
theorem dR_ {l:L8} {at_ n:Nat} (v:Nat) (h:at_+n≤l.length):(lay l at_ n v).length=l.length:=by rw[←pV_];exact pU_ v h (Nat.le_refl _)
theorem tB_ {c:Cm} {K:A_→W_} (h:Dvq w dv ps pw file kind n cache D st bs m F) (hK:∀d u,ab_ w u→Own u w.heap.size ae_ 1 d (bv (pY_ kind n c))→K (rsv 0 sn0 d).toArray u):eV_ (some ⟨dv,0,none⟩) (cmv c).toArray w K:=by
 refine e9_.calls _ _ _ _ ?_
 have hsz:=h.size
 have hkd:=h.kd
 refine ag_ fun cb w0 hcb hb0 hg0 hsz0=>?_
 have hb0:Blk w0 cb (cmv c).toArray az_:=hb0
 refine ag_ fun ab w1 hab hb1 hg1 hsz1=>?_
 have hb1:Blk w1 ab z10 aa_:=hb1
 have hc1:Blk w1 cb (cmv c).toArray az_:=hg1.heap hb0 (fun q=>q)
 have hgw1:=hg0.trans hg1
 have s0:=hg0.size
 refine jP_ (h.grow hgw1) ⟨c.long,by rw[ao_,hc1.cell];rfl,?_⟩
 have en:IntKind.wrap .u64 ((n:Int)-1)=((n-1:Nat):Int):=by rw[bZ_ o_ o_];omega
 rw[en]
 have fin:∀{v:World} {d:Sl},ab_ w1 v→Own v w1.heap.size ae_ 1 d (bv (pY_ kind n c))→cS_ d v fun g w06=>af_ Tryz.prog (storeVar aa_ ⟨ab,0,none⟩ (.agg g)) w06 fun w07=>∃res:A_,(loadVar aa_ ⟨ab,0,none⟩).run Tryz.prog w07=.ok (.agg res) w07∧K res w07:=fun {v d} hv ho=>
  fB_ fun v2 hv2=>aW_ ((hv.trans hv2).heap hb1 (fun q=>q)) rfl fun v3 hk3=>hK d v3 (bY_ (hgw1.trans (hv.trans hv2)) o_ hk3) (((ho.grow hv2).keep hk3 fun b hbb q=>bd_ (ho.grow hv2) ((hv.trans hv2).heap hb1 (fun q=>q)) d_ (by rw[hbb,q])).mono hgw1.size)
 have hrep:∀k,(List.replicate k (Value.int .u8 0))=bv (List.replicate k 0):=fun k=>by simp[bv]
 have p4:(256:Nat) ^ 4=4294967296:=rfl
 have p8:(256:Nat) ^ 8=18446744073709551616:=rfl
 cases hlong:c.long with
 | false=>
  refine al_ rfl ?_
  refine cy_ (n:=8) (base:=w1.heap.size) aE_ a6_ rfl d_ d_ (Nat.le_refl _) fun w2 hown2 hg2 _=>?_
  rw[hrep] at hown2
  refine b7_ (at_:=0) (n:=4) (v:=n-1) (hown2.rd (by show 8≤_;omega)) (by show 8≤_;omega) d_ d_ (by simp) o_ fun s3 w3 hown3 hg3=>?_
  have hn3:=cY_ hown3
  rw[dR_ _ (by simp),List.length_replicate] at hn3
  refine b7_ (at_:=4) (n:=4) (v:=16) (hown3.rd o_) o_ d_ d_ (by rw[dR_ _ (by simp)];simp) o_ fun s4 w4 hown4 hg4=>?_
  refine fin ((hg2.trans hg3).trans hg4) ?_
  unfold pY_;rw[if_pos hlong]
  exact hown4.mono (hg2.trans hg3).size
 | true=>
  refine ai_ rfl ?_
  refine cy_ (n:=32) (base:=w1.heap.size) aE_ a6_ rfl d_ d_ (Nat.le_refl _) fun w2 hown2 hg2 _=>?_
  rw[hrep] at hown2
  refine b7_ (at_:=0) (n:=8) (v:=n-1) (hown2.rd (by show 32≤_;omega)) (by show 32≤_;omega) d_ d_ (by simp) o_ fun s3 w3 hown3 hg3=>?_
  have hn3:=cY_ hown3
  rw[dR_ _ (by simp),List.length_replicate] at hn3
  refine b7_ (at_:=8) (n:=4) (v:=16) (hown3.rd o_) o_ d_ d_ (by rw[dR_ _ (by simp)];simp) o_ fun s4 w4 hown4 hg4=>?_
  have hn4:=cY_ hown4
  rw[dR_ _ (by rw[dR_ _ (by simp)];simp),dR_ _ (by simp),List.length_replicate] at hn4
  have hgw:=(hg2.trans hg3).trans hg4
  have h4:=h.grow (hgw1.trans hgw)
  have hcx:pY_ kind n c=((if 0<kind then(lay (lay (List.replicate 32 0) 0 8 (n-1)) 8 4 16).set 12 (UInt8.ofNat ((kind-1)*2+1)) else lay (lay (List.replicate 32 0) 0 8 (n-1)) 8 4 16).set 14 128).take (min (max c.alloc 0) 32).toNat:=by
   unfold pY_;rw[hlong,if_neg Bool.noConfusion]
  have hl4:(lay (lay (List.replicate 32 0) 0 8 (n-1)) 8 4 16).length=32:=by rw[dR_ _ (by rw[dR_ _ (by simp)];simp),dR_ _ (by simp),List.length_replicate]
  generalize lay (lay (List.replicate 32 0) 0 8 (n-1)) 8 4 16=l4 at *
  have hr4:=hown4.rd o_
  obtain⟨hA,_⟩:=bS_ hr4 (i:=0) (by rw[b4_ hr4];omega)
  have hs3:w1.heap.size≤w3.heap.size:=(hg2.trans hg3).size
  refine⟨rfl,(kind:Int),nF_ h4.dev,?_⟩
  refine bR_ (fun y=>ab_ w1 y∧Own y w3.heap.size ae_ 1 s4 (bv (if 0<kind then l4.set 12 (UInt8.ofNat ((kind-1)*2+1)) else l4))) ?_ (fun J=>?_)
  ·rintro y ⟨hgy,hoy⟩
   refine⟨⟨d_,o_,hA⟩,bT_ (i:=14) hoy o_ rfl fun y2 hoy2 hky2 _=>?_⟩
   have hgy2:ab_ w1 y2:=cz_ hgy hoy hs3 hky2
   have e14:(bv (if 0<kind then l4.set 12 (UInt8.ofNat ((kind-1)*2+1)) else l4)).set 14 (.int .u8 128)=bv ((if 0<kind then l4.set 12 (UInt8.ofNat ((kind-1)*2+1)) else l4).set 14 128):=qq_ _ 14 128
   rw[e14] at hoy2
   have hcap:=(hoy2.rd o_).cap
   refine⟨c.alloc,by rw[ao_,Blk.cell (hgy2.heap hc1 (fun q=>q))];rfl,⟨d_,?_,?_,hcap⟩,?_⟩
   ·unfold mn mx;split<;>split<;>omega
   ·unfold mn mx;split<;>split<;>omega
   ·have em:(mn (mx c.alloc 0) 32).toNat=(min (max c.alloc 0) 32).toNat:=by unfold mn mx;split<;>split<;>omega
    have hl32:((if 0<kind then l4.set 12 (UInt8.ofNat ((kind-1)*2+1)) else l4).set 14 128).length=32:=by
     rw[List.length_set]
     split
     ·rw[List.length_set];exact hl4
     ·exact hl4
    refine fin hgy2 ?_
    rw[hcx]
    have:=vW_ hoy2 (k:=(mn (mx c.alloc 0) 32).toNat) (by unfold mn mx;split<;>split<;>omega)
    rw[Nat.mul_one,jj_,em] at this
    rw[em]
    exact this.mono hs3
  ·by_cases hk:kind>0
   ·refine al_ (by rw[decide_eq_true_eq];omega) ⟨rfl,(kind:Int),nF_ h4.dev,⟨d_,o_,hA⟩,bT_ (i:=12) hown4 o_ rfl fun y hoy hky _=>J y ⟨cz_ hgw hown4 (hg2.trans hg3).size hky,?_⟩⟩
    rw[if_pos hk,←qq_]
    have ek:∀k:Fin 4,0<k.val→bOr .u8 (cD_ .u8 (IntKind.wrap .u8 ((k.val:Int)-1)) 1) 1=(((UInt8.ofNat ((k.val-1)*2+1)).toNat:Nat):Int):=d_
    rw[←ek ⟨kind,o_⟩ hk]
    exact hoy
   ·exact ai_ (by rw[decide_eq_false_iff_not];omega) (J w4 ⟨hgw,by rw[if_neg hk];exact hown4⟩)
end
open Go CF
section
variable {w u:World} {dv ps pw:Nat} {file:ByteArray} {kind n:Nat} {cache:Bool} {D D':Nat→Prop} {st st':Wst} {bs bs':List Bk} {m m':Nat} {F:Int→Bool}
def cu_ (ab:Nat) (R:A_→W_) (g:A_) (v:World):Prop:=af_ Tryz.prog (storeVar aa_ ⟨ab,0,none⟩ (.agg g)) v fun w'=>∃res:A_,(loadVar aa_ ⟨ab,0,none⟩).run Tryz.prog w'=.ok (.agg res) w'∧R res w'
theorem cJ_.hand {X:RsX×Wst} {R:A_→W_} {w3:World} {ab:Nat} (hR:cJ_ w dv ps pw file kind n cache D m F X R) (g:ab_ w w3) (lD:∀k,D k→k<w.heap.size) (hab:w.heap.size≤ab) (hb:Blk w3 ab z10 aa_):cJ_ w3 dv ps pw file kind n cache D m F X (cu_ ab R):=by
 intro u D' bs' d k hv hD ho
 have nab:¬D ab:=fun q=>by have:=lD _ q;omega
 have hbu:=k.heap hb nab
 have lab:=aw_ hb
 have nab2:¬D' ab:=fun q=>by
  rcases hD _ q with r|r
  ·exact nab r
  ·omega
 refine aW_ hbu rfl fun v' hk=>?_
 exact hR v' D' bs' d (bI_ ((g.mono fun _ _ q=>q.elim).trans k fun _ _ q=>q) hab hk) (hv.put' hbu nab2 hk) (nJ_ g.size hD) ((ho.mono g.size).keep hk fun b hbb q=>bd_ ho hbu d_ (by rw[hbb,q]))
def qx_ (b:Bool) (C:O_→A_→Sl→World→(A_→W_)→Prop) (X:(Int→Bool)→Nat→Nat→Bool→ByteArray→Wst→List Bk→Cm→L8→RsX×Wst):Prop:=
 ∀{w:World} {dv ps pw:Nat} {file:ByteArray} {kind n:Nat} {cache:Bool} {D:Nat→Prop} {st:Wst} {bs:List Bk} {m:Nat} {F:Int→Bool} {c:Cm} {p:Sl} {l:L8} {K:A_→W_},Dvq w dv ps pw file kind n cache D st bs m F→m≤400000000→Rd w 1 p (bv l)→p.n≤140737488351232→(∀v,ac_ D w v→Rd v 1 p (bv l))→(b=true→c.lba+c.blocks≤n)→
  cJ_ w dv ps pw file kind n cache D m F (X F kind n cache file st bs c l) K→C (some ⟨dv,0,none⟩) (cmv c).toArray p w K
structure pZ_ (k:Nat):Prop where
 read:k=7→∀{w:World} {dv ps pw:Nat} {file:ByteArray} {kind n:Nat} {cache:Bool} {D:Nat→Prop} {st:Wst} {bs:List Bk} {m:Nat} {F:Int→Bool} {c:Cm} {R:Sl→A_→Bool→W_},Dvq w dv ps pw file kind n cache D st bs m F→m≤600000000→c.lba+c.blocks≤n→
  (match h8_ F kind c.prot c.lba c.blocks st.ops ((bs.drop c.lba).take c.blocks) with
   | (.ok L,k)=>L=(bs.drop c.lba).take c.blocks→k=c.blocks→∀xs u,ac_ D w u→RdW w u pw D st k→Own u w.heap.size av_ 19 xs (L.flatMap bc)→R xs (rsv 0 sn0 au_).toArray true u
   | (.error s,k)=>k≤c.blocks→∀u,ac_ D w u→RdW w u pw D st k→R au_ (rsv 2 s au_).toArray false u)→cR_ (some ⟨dv,0,none⟩) (cmv c).toArray w R
 write:k=8∨k=9→∀{w:World} {dv ps pw:Nat} {file:ByteArray} {kind n:Nat} {cache:Bool} {D:Nat→Prop} {st:Wst} {bs:List Bk} {m:Nat} {F:Int→Bool} {lba:Nat} {ls:Sl} {L:List Bk} {fua:Bool} {R:A_→W_},Dvq w dv ps pw file kind n cache D st bs m F→m≤600000000→lba+L.length≤n→(∀v,ac_ D w v→Rd v 19 ls (L.flatMap bc))→
  (∀u D' bs',ac_ D w u→Dvq u dv ps pw file kind n cache D' (cA_ F file cache st lba L fua).2 bs' (m+4097) F→(∀k,D' k→D k∨w.heap.size≤k)→R (rsv (cA_ F file cache st lba L fua).1.st (cA_ F file cache st lba L fua).1.sn au_).toArray u)→cd_ (some ⟨dv,0,none⟩) (lba:Int) ls fua w R
 verify:k=10→qx_ true go_ fun F kind _ _ _ st bs c l=>mT_ F kind st bs c l
 same:k=12→qx_ true hR_ fun F kind n cache file st _ c l=>qv_ F kind n cache file st c l
 unmap:k=13→qx_ false (fun d _ p w K=>g8_ d p w K) fun F _ n cache file st _ _ l=>oy_ F n cache file st l
 compare:k=14→qx_ true fI_ fun F kind _ cache file st bs c l=>li_ F kind cache file st bs c l
 cap:k=6→qx_ false (fun d c _ w K=>eV_ d c w K) fun _ kind n _ _ st _ c _=>(okX (pY_ kind n c),st)
theorem rU_ {c:Cm} {p:Sl} {l:L8} {R:A_→W_} (hN:pZ_ c.kind) (h:Dvq w dv ps pw file kind n cache D st bs m F) (hm:m≤400000000) (hp:Rd w 1 p (bv l)) (hb:p.n≤140737488351232) (hpk:∀v,ac_ D w v→Rd v 1 p (bv l)) (hlb:c.lba<18446744073709551616) (hbl:c.blocks<18446744073709551616)
  (hR:cJ_ w dv ps pw file kind n cache D m F (doX F kind n cache file st c l) R):ca_ (some ⟨dv,0,none⟩) (cmv c).toArray p w R:=by
 refine jC_.calls _ _ _ _ _ ?_
 have hsz:=h.size
 have hlen:=h.len
 have hfew:=h.few
 unfold doX at hR
 rw[yz_ h] at hR
 refine ag_ fun cb w0 hcb hb0 hg0 hsz0=>?_
 have hb0:Blk w0 cb (cmv c).toArray az_:=hb0
 refine ag_ fun ab w1 hab hb1 hg1 hsz1=>?_
 have hb1:Blk w1 ab z10 aa_:=hb1
 have hgw1:=hg0.trans hg1
 have hc1:Blk w1 cb (cmv c).toArray az_:=hg1.heap hb0 (fun q=>q)
 have hD1:=h.grow hgw1
 have cAt:∀{v:World} {i:Nat} {x:Value},ab_ w1 v→(cmv c).toArray[i]?=some x→v.cell? ((⟨cb,0,none⟩:Addr).add i)=some x:=fun g e=>by rw[ao_,Blk.cell (g.heap hc1 (fun q=>q)),Nat.zero_add];exact e
 have lD:=fun k (q:D k)=>h.isW.lt q
 have nab:¬D ab:=fun q=>by have:=lD _ q;omega
 have ncb:¬D cb:=fun q=>by have:=lD _ q;omega
 have sw:=hg0.size
 have hab':w.heap.size≤ab:=o_
 have fin:∀{X:RsX} {v:World},X.d = []→cJ_ w dv ps pw file kind n cache D m F (X,st) R→ab_ w1 v→cu_ ab R (rsv X.st X.sn au_).toArray v:=fun {X v} e hR g=>aW_ (g.heap hb1 (fun q=>q)) rfl fun v' hk=>by
  have g2:=bY_ (hgw1.trans g) hab' hk
  exact hR.plain e (g2.mono fun _ _ q=>q.elim) (h.grow g2) o_ fun _ q=>.inl q
 refine⟨fun _=>rfl,some ⟨ps,0,none⟩,fun _=>nE_ hD1.dev,ai_ rfl ?_⟩
 rintro w2 rfl
 have hg2:ab_ w1 w1.drew:=am_ w1
 refine⟨fun v=>ab_ w1 v,hg2,rfl,(kind:Int),fun v hv=>nF_ (hD1.grow hv).dev,(c.prot:Int),fun v hv=>cAt hv rfl,vT_ ?_⟩
 by_cases hkn:ou_ kind c.prot=false
 ·rw[if_pos hkn] at hR
  exact al_ (by rw[hkn];rfl) (hn_ (s:=yx_) fun w3 hg3=>fin (X:=snX yx_) rfl hR (hg2.trans hg3))
 rw[if_neg hkn] at hR
 refine ai_ (by simp only[Bool.not_eq_false] at hkn;rw[hkn];rfl) ?_
 rintro w3 rfl
 have hg3:ab_ w1 w1.drew.drew:=hg2.trans (am_ _)
 refine⟨fun v=>ab_ w1 v,hg3,(c.lba:Int),fun v hv=>cAt hv rfl,(c.blocks:Int),fun v hv=>cAt hv rfl,jP_ (hD1.grow hg3) ⟨hg3,?_⟩⟩
 refine ps_ hlb hbl o_ ⟨hg3,fun v=>ab_ w1 v,hg3,fun _ q=>q,(c.kind:Int),fun _ v hv=>cAt hv rfl,fun v=>ab_ w1 v,hg3,fun _ q=>q,(c.kind:Int),fun _ v hv=>cAt hv rfl,?_⟩
 by_cases hin:c.kind≠13∧c.kind≠6∧n<c.lba+c.blocks
 ·rw[if_pos hin] at hR
  refine al_ (by rw[Bool.and_eq_true,Bool.and_eq_true,Bool.not_eq_true',decide_eq_false_iff_not,bne_iff_ne,bne_iff_ne];omega) ⟨(c.lba:Int),cAt hg3 rfl,ge_ (key:=5) fun w4 hg4=>fin (X:=snX (atS 5 0x2100 c.lba)) rfl hR (hg3.trans hg4)⟩
 rw[if_neg hin] at hR
 refine ai_ (by rw[Bool.and_eq_false_iff,Bool.and_eq_false_iff,Bool.not_eq_false',decide_eq_true_eq,bne_eq_false_iff_eq,bne_eq_false_iff_eq];omega) ⟨(c.kind:Int),cAt hg3 rfl,?_⟩
 generalize w1.drew.drew=w3 at *
 have hb3:Blk w3 ab z10 aa_:=hg3.heap hb1 (fun q=>q)
 have hc3:Blk w3 cb (cmv c).toArray az_:=hg3.heap hc1 (fun q=>q)
 have cl:(loadVar az_ ⟨cb,0,none⟩).run Tryz.prog w3=.ok (.agg (cmv c).toArray) w3:=jO_ (ar_ hc3)
 have hgw3:=hgw1.trans hg3
 have h3:=h.grow hgw3
 have p3:=hp.grow hgw3
 have s3:=hgw3.size
 have hand:∀{X:RsX×Wst},cJ_ w dv ps pw file kind n cache D m F X R→cJ_ w3 dv ps pw file kind n cache D m F X (cu_ ab R):=fun hR=>hR.hand hgw3 lD hab' hb3
 have after:∀{y:World} {X:RsX} {x2:Wst} {D2:Nat→Prop} {B2:List Bk} {m2:Nat},X.d = []→cJ_ w3 dv ps pw file kind n cache D m F (X,x2) (cu_ ab R)→ac_ D w3 y→Dvq y dv ps pw file kind n cache D2 x2 B2 m2 F→m2≤m+9000→(∀k,D2 k→D k∨w3.heap.size≤k)→∀rb z,Blk z rb (rsv X.st X.sn au_).toArray aa_→ab_ y z→
   ∃g10:A_,(loadVar aa_ ⟨rb,0,none⟩).run Tryz.prog z=.ok (.agg g10) z∧cu_ ab R g10 z:=fun {y X x2 D2 B2 m2} e hR hky hdy hm2 hD2 rb z hbz hyz=>⟨_,i0_ (ar_ hbz),hR.plain e (hky.grow hyz) (hdy.grow hyz) hm2 hD2⟩
 refine bR_ (fun v=>v=w3∧c.kind≠7∧c.kind≠8∧c.kind≠9∧c.kind≠10∧c.kind≠11∧c.kind≠12∧c.kind≠13∧c.kind≠14∧c.kind≠6) ?_ (fun J=>?_)
 ·rintro v ⟨rfl,a1,a2,a3,a4,a5,a6,a7,a8,a9⟩
  rw[if_neg a1,if_neg o_,if_neg a4,if_neg a5,if_neg a6,if_neg a7,if_neg a8,if_neg a9] at hR
  exact hn_ (s:=yy_) fun w4 hg4=>fin (X:=snX yy_) rfl hR (hg3.trans hg4)
 refine ay_ (fun k7=>⟨_,cl,?_⟩) (fun k7=>?_)
 ·have k7:c.kind=7:=o_
  have hlb7:c.lba+c.blocks≤n:=o_
  rw[if_pos k7] at hR
  refine hN.read k7 h3 o_ hlb7 ?_
  generalize h8_ F kind c.prot c.lba c.blocks st.ops ((bs.drop c.lba).take c.blocks)=Y at hR ⊢
  obtain⟨Y,k⟩:=Y
  cases Y with
  | ok L'=>
   rintro hL' rfl xs w4 hk4 hr4 hown4
   dsimp only at hR
   have hd4:=h3.reads hk4 hr4
   refine ag_ fun rb w5 hrb hb5 hg5 hsz5=>bF_ hb5 rfl fun w6 hb6 hk6 hsz6=>ai_ rfl ?_
   have hg46:ab_ w4 w6:=hg5.keep hk6 fun i hi q=>o_
   have hc6:Blk w6 cb (cmv c).toArray az_:=hg46.heap (hk4.heap hc3 ncb) (fun q=>q)
   refine⟨(c.prot:Int),by rw[ao_,hc6.cell];rfl,?_⟩
   have ew:((c.prot:Int) != 0)=decide (c.prot≠0):=by rw[Bool.eq_iff_iff,bne_iff_ne,decide_eq_true_eq];omega
   rw[ew]
   have hown6:=hown4.grow hg46
   have hLl:L'.length≤4096:=by rw[hL',List.length_take,List.length_drop];omega
   refine ow_ (hown6.rd (by have:=hown6.len;rw[bU_] at this;omega)) hLl fun d w7 hown7 hg7=>fB_ fun w8 hg8=>?_
   have s4:=hk4.size
   have s46:=hg46.size
   exact hand hR w8 D bs d (((hk4.grow hg46).grow hg7).grow hg8) ((((hd4.grow hg46).grow hg7).grow hg8).mono o_) (fun _ q=>.inl q) ((hown7.mono o_).grow hg8)
  | error s=>
   intro hkb w4 hk4 hr4
   dsimp only at hR
   have hd4:=h3.reads hk4 hr4
   refine ag_ fun rb w5 hrb hb5 hg5 hsz5=>bF_ hb5 rfl fun w6 hb6 hk6 hsz6=>al_ rfl ?_
   exact after (X:=snX s) rfl (hand hR) hk4 hd4 o_ (fun _ q=>.inl q) rb w6 hb6 (hg5.keep hk6 fun i hi q=>o_)
 rw[if_neg o_] at hR
 refine aX_ (fun(x:Bool) v=>v=w3∧(x=true↔(c.kind=8∨c.kind=9))) ?_ (fun J1=>ay_ (fun k8=>J1 _ _ ⟨rfl,by rw[beq_iff_eq];omega⟩) (fun k8=>J1 _ _ ⟨rfl,by rw[beq_iff_eq];omega⟩))
 rintro x v ⟨rfl,hx⟩
 by_cases k89:c.kind=8∨c.kind=9
 ·rw[if_pos k89] at hR
  refine al_ (hx.2 k89) ⟨_,cl,(c.blocks:Int),by rw[ao_,hc3.cell];rfl,?_⟩
  have hlb8:c.lba+c.blocks≤n:=o_
  refine lj_ (N:=c.blocks) h3.dev p3 hb o_ o_ ?_
  generalize kQ_ kind c l c.blocks=X at hR ⊢
  cases X with
  | error s=>
   intro y hy
   dsimp only at hR
   refine ag_ fun rb w5 hrb hb5 hg5 hsz5=>bF_ hb5 rfl fun w6 hb6 hk6 hsz6=>al_ rfl ?_
   exact after (X:=snX s) rfl (hand hR) (hy.mono fun _ _ q=>q.elim) (h3.grow hy) o_ (fun _ q=>.inl q) rb w6 hb6 (hg5.keep hk6 fun i hi q=>o_)
  | ok L=>
   intro hL xs y hy hown
   dsimp only at hR
   refine ag_ fun rb w5 hrb hb5 hg5 hsz5=>bF_ hb5 rfl fun w6 hb6 hk6 hsz6=>ai_ rfl ?_
   have hyz:ab_ y w6:=hg5.keep hk6 fun i hi q=>o_
   have hvz:=hy.trans hyz
   have hcz:Blk w6 cb (cmv c).toArray az_:=hvz.heap hc3 (fun q=>q)
   refine⟨(c.lba:Int),by rw[ao_,hcz.cell];rfl,c.fua,by rw[ao_,hcz.cell];rfl,(c.kind:Int),fun _=>by rw[ao_,hcz.cell];rfl,?_⟩
   have e9:((c.kind:Int)==9)=decide (c.kind=9):=by
    rw[Bool.eq_iff_iff,beq_iff_eq,decide_eq_true_eq];omega
   rw[e9]
   have hz:=h3.grow hvz
   have svz:=hvz.size
   have eD:(cA_ F file cache st c.lba L (c.fua||decide (c.kind=9))).1.d = []:=by unfold cA_ gY_;split<;>rfl
   refine hN.write k89 (L:=L) hz o_ o_ (fun z' hk'=>?_) fun z2 D2 B2 hk2 hd2 hD2=>?_
   ·have ho:Own z' v.heap.size av_ 19 xs (L.flatMap bc):=(hown.grow hyz).keep hk' fun b hbb q=>by
     have:=((hown.grow hyz).ge b hbb).1
     have:=lD _ q
     omega
    exact ho.rd (by have:=ho.len;rw[bU_] at this;omega)
   ·exact(hand hR).plain eD ((hvz.mono fun _ _ q=>q.elim).trans hk2 fun _ _ q=>q) hd2 o_ (nJ_ svz hD2)
 rw[if_neg k89] at hR
 refine ai_ (by cases hxx:x with|false=>rfl|true=>exact absurd (hx.1 hxx) k89) ?_
 have hpk3:∀z,ac_ D v z→Rd z 1 p (bv l):=fun z k=>hpk z ((hgw3.mono fun _ _ q=>q.elim).trans k fun _ _ q=>q)
 refine ay_ (fun k=>⟨_,cl,?_⟩) (fun k10=>ay_ (fun k=>?_) (fun k11=>ay_ (fun k=>⟨_,cl,?_⟩) (fun k12=>ay_ (fun k=>?_) (fun k13=>ay_ (fun k=>⟨_,cl,?_⟩) (fun k14=>ay_ (fun k=>⟨_,cl,?_⟩) (fun k6=>J v ⟨rfl,o_,o_,o_,o_,o_,o_,o_,o_,o_⟩))))))
 ·rw[if_pos o_] at hR
  exact hN.verify o_ h3 hm p3 hb hpk3 (fun _=>o_) (hand hR)
 ·rw[if_neg o_,if_pos o_] at hR
  refine⟨rfl,some ⟨ps,0,none⟩,nE_ h3.dev,?_⟩
  refine rn_ h3.isS h3.nps h3.isW h.ok o_ o_ (fun hfl y D2 hk2 hw2 hD2 hS2=>ai_ rfl (fB_ fun z hz=>?_)) (fun hfl y hk2 hw2 hS2=>al_ rfl (hn_ (s:=wfS) fun z hz=>?_))
  ·rw[if_neg (by rw[hfl];exact Bool.noConfusion)] at hR
   have hdy:Dvq y dv ps pw file kind n cache D2 (lh_ st) bs (m+1) F:=h3.step hk2 hw2 hD2 (fun c q=>by cases q) h.tells h.len ⟨by show st.ops+1≤_;omega,Nat.zero_le _⟩
   exact(hand hR).plain rfl (hk2.grow hz) (hdy.grow hz) o_ hD2
  ·rw[if_pos hfl] at hR
   have hdy:Dvq y dv ps pw file kind n cache D (more st 1) bs (m+1) F:=h3.step hk2 hw2 (fun _ q=>.inl q) h.ok h.tells h.len ⟨by show st.ops+1≤_;omega,by show st.waits.length≤_;omega⟩
   exact(hand hR).plain rfl (hk2.grow hz) (hdy.grow hz) o_ fun _ q=>.inl q
 ·rw[if_neg o_,if_neg o_,if_pos o_] at hR
  exact hN.same o_ h3 hm p3 hb hpk3 (fun _=>o_) (hand hR)
 ·rw[if_neg o_,if_neg o_,if_neg o_,if_pos o_] at hR
  exact hN.unmap o_ (c:=c) h3 hm p3 hb hpk3 (fun q=>by cases q) (hand hR)
 ·rw[if_neg o_,if_neg o_,if_neg o_,if_neg o_,if_pos o_] at hR
  exact hN.compare o_ h3 hm p3 hb hpk3 (fun _=>o_) (hand hR)
 ·rw[if_neg o_,if_neg o_,if_neg o_,if_neg o_,if_neg o_,if_pos o_] at hR
  exact hN.cap o_ (p:=p) (l:=l) h3 hm p3 hb hpk3 (fun q=>by cases q) (hand hR)
theorem u9_ {k:Nat} (h:k=7∨k=8∨k=9):pZ_ k:=
 ⟨fun _=>i4_,fun _=>h9_,fun q=>o_,fun q=>o_,fun q=>o_,fun q=>o_,fun q=>o_⟩
theorem yB_ (k:Nat):pZ_ k:=
 ⟨fun _=>i4_,fun _=>h9_,fun _=>fun h hm hp hb _ hc hK=>vV_ h o_ hp hb (hc rfl) hK,fun _=>fun h hm hp hb _ hc hK=>yA_ h o_ hp hb (hc rfl) hK,
  fun _=>fun h hm hp hb hpk _ hK=>xd_ h o_ hp hb hpk hK,fun _=>fun h hm hp hb _ hc hK=>ux_ h o_ hp hb (hc rfl) hK,
  fun _=>fun h hm _ _ _ _ hK=>tB_ h fun d y hy ho=>hK y _ _ d (hy.mono fun _ _ q=>q.elim) ((h.grow hy).mono o_) (fun _ q=>.inl q) ho⟩
end
open Go CF
def s4:L8:=[83,76,79,84]
def kR_ (g:Nat) (p:L8):L8:=s4++beN 8 g++beN 4 p.length++p
def km_ (g:Nat) (p:L8):L8:=kR_ g p++beN 4 (c32 (kR_ g p))
theorem rV_ (g:Nat) (p:L8):(kR_ g p).length=16+p.length:=by simp[kR_,s4,bx_];omega
theorem p0_ (g:Nat) (p:L8):(km_ g p).length=20+p.length:=by simp[km_,rV_,bx_];omega
theorem zU_ (c:Nat):beN 4 c = [UInt8.ofNat (c/2 ^ 24),UInt8.ofNat (c/2 ^ 16),UInt8.ofNat (c/2 ^ 8),UInt8.ofNat c]:=by
 simp[beN]
theorem Bj_ (g:Nat):lay (s4++List.replicate 12 0) 4 8 g=s4++beN 8 g++List.replicate 4 0:=rfl
theorem Bk_ (g n:Nat):lay (s4++beN 8 g++List.replicate 4 0) 12 4 n=s4++beN 8 g++beN 4 n:=by
 simp[lay,s4,beN]
theorem gD_ {w:World} {base:Nat} {e:TypeId} {s:Sl} {l:L8} (h:Own w base e 1 s (bv l)):s.n=l.length:=by have:=h.len;rw[ax_] at this;omega
theorem yC_ {w:World} {s:Sl} {l:L8} (h:Rd w 1 s (bv l)):l.length=s.n:=by have:=h.len;rw[ax_] at this;omega
theorem tC_ {w u u':World} {base:Nat} {e:TypeId} {z:Nat} {s:Sl} {vs:List Value} (hg:ab_ w u) (ho:Own u base e z s vs) (hb:w.heap.size≤base) (hk:ac_ (fun k=>some k=s.blk) u u'):ab_ w u':=
 hg.keep hk fun i hi q=>by have:=(ho.ge i q.symm).1;omega
theorem ph_ {p:Sl} {l:L8} {g:Nat} {w:World} {R:Sl→Int→W_} (hp:Rd w 1 p (bv l)) (hg:g<18446744073709551616)
  (h1:4096<l.length→R ⟨none,0,0⟩ 2 w) (h2:l.length≤4096→∀s w',Own w' w.heap.size ae_ 1 s (bv (km_ g l))→ab_ w w'→s.n=20+l.length→R s 0 w'):kg_ (g:Int) p w R:=by
 refine h5_.calls _ _ _ _ ?_
 have hln:=yC_ hp
 refine a8_ (fun q=>h1 o_) (fun q=>?_)
 have hle:l.length≤4096:=o_
 refine⟨⟨some ⟨w.heap.size,0,none⟩,4,4⟩,w.alloc (.cells (bv s4).toArray ae_),k_,⟨some ⟨w.heap.size,0,none⟩,4,4⟩,_,Go.Lib.run_convert_bytes_const w aB_ ae_ _ 4 4 aE_ hc_,?_⟩
 have hg0:ab_ w (w.alloc (.cells (bv s4).toArray ae_ ((bv s4).toArray.size,(bv s4).toArray.size+1))):=fG_ w _
 have hrd0:Rd (w.alloc (.cells (bv s4).toArray ae_ ((bv s4).toArray.size,(bv s4).toArray.size+1))) 1 ⟨some ⟨w.heap.size,0,none⟩,4,4⟩ (bv s4):=by
  refine⟨rfl,Nat.le_refl _,by show 4≤_;decide,fun _=>⟨_,rfl,fun j v hj=>?_⟩⟩
  rw[ao_,Nat.zero_add]
  unfold World.cell?
  simp only[World.alloc,Array.getElem?_push,if_true]
  simpa using hj
 generalize w.alloc (.cells (bv s4).toArray ae_ ((bv s4).toArray.size,(bv s4).toArray.size+1))=w0 at *
 refine pg_ (s:=⟨some ⟨w.heap.size,0,none⟩,4,4⟩) (k:=12) (base:=w.heap.size) aE_ lF_ a6_ rfl hrd0 (by show 4<4+12;decide) d_ (by show 4+12≤_;decide) hg0.size fun s1 w1 hn1 hown1 hg1 _=>?_
 have hrep:(List.replicate 12 (Value.int .u8 0))=bv (List.replicate 12 0):=by simp[bv]
 rw[hrep,←bg_] at hown1
 have hn1:s1.n=16:=hn1
 refine b7_ (at_:=4) (n:=8) (hown1.rd o_) o_ d_ d_ d_ hg fun s2 w2 hown2 hg2=>?_
 rw[Bj_] at hown2
 have hn2:s2.n=16:=gD_ hown2
 have e1:IntKind.wrap .u64 (p.n:Int)=((l.length:Nat):Int):=by rw[bZ_ o_ o_,hln]
 rw[e1]
 refine b7_ (at_:=12) (n:=4) (hown2.rd o_) o_ d_ d_ (by simp[s4,bx_]) o_ fun s3 w3 hown3 hg3=>?_
 rw[Bk_] at hown3
 have hn3:s3.n=16:=gD_ hown3
 have hgw3:ab_ w w3:=((hg0.trans hg1).trans hg2).trans hg3
 have hgw2:ab_ w w2:=(hg0.trans hg1).trans hg2
 have hown3:=Own.mono (base':=w.heap.size) hown3 hgw2.size
 refine aN_ aE_ a6_ rfl d_ d_ hown3 (hp.grow hgw3) (cg_ _) (by rw[hn3];omega) hgw3.size fun s5 w4 hn4 hown4 hk4 _=>?_
 have hgw4:=tC_ hgw3 hown3 (Nat.le_refl _) hk4
 rw[←bg_] at hown4
 have hown4:Own w4 w.heap.size ae_ 1 s5 (bv (kR_ g l)):=hown4
 have hn5:s5.n=16+l.length:=by rw[gD_ hown4,rV_]
 refine op_ (hown4.rd o_) ?_
 rw[shr .u32 _ 24 d_,shr .u32 _ 16 d_,shr .u32 _ 8 d_,aV_,aV_,aV_,aV_]
 refine aJ_ (cells:=(bv (beN 4 (c32 (kR_ g l)))).toArray) (e:=ae_) (z:=1) (base:=w.heap.size) (by rw[zU_];kernel_rfl) (by simp[ax_,bx_]) d_ hgw4.size fun w5 hlit5 hg5 _=>?_
 refine aN_ aE_ a6_ rfl d_ d_ (hown4.grow hg5) (hlit5.rd (by show 4≤_;decide)) (by simpa using cg_ (beN 4 (c32 (kR_ g l)))) (by rw[hn5];show(16+l.length+4)*1≤_;omega) (hgw4.trans hg5).size fun s6 w6 hn6 hown6 hk6 _=>?_
 have hgw6:=tC_ (hgw4.trans hg5) (hown4.grow hg5) (Nat.le_refl _) hk6
 have e2:(bv (beN 4 (c32 (kR_ g l)))).toArray.toList=bv (beN 4 (c32 (kR_ g l))):=rfl
 rw[e2,←bg_] at hown6
 exact h2 hle s6 w6 hown6 hgw6 (by rw[hn6,hn5];show 16+l.length+4=_;omega)
def eM_ (l:L8):Nat×L8×Nat:=
 if l.length<20∨l.take 4≠s4 then(0,[],3)
 else if 4096<num ((l.drop 12).take 4)∨l.length<20+num ((l.drop 12).take 4) then(0,[],3)
 else if num ((l.drop (16+num ((l.drop 12).take 4))).take 4)≠c32 (l.take (16+num ((l.drop 12).take 4))) then(0,[],5)
 else(num ((l.drop 4).take 8),(l.drop 16).take (num ((l.drop 12).take 4)),0)
theorem zV_ {l:L8} (h20:¬l.length<20) (hs:l.take 4=s4):eM_ l =
  if 4096<num ((l.drop 12).take 4)∨l.length<20+num ((l.drop 12).take 4) then(0,[],3)
  else if num ((l.drop (16+num ((l.drop 12).take 4))).take 4)≠c32 (l.take (16+num ((l.drop 12).take 4))) then(0,[],5)
  else(num ((l.drop 4).take 8),(l.drop 16).take (num ((l.drop 12).take 4)),0):=by
 unfold eM_
 rw[if_neg (fun q=>q.elim (fun q=>absurd q h20) (fun q=>q hs))]
theorem xe_:wU_=str s4:=d_
theorem ks_ {p:Sl} {l:L8} {w:World} {R:Int→Sl→Int→W_} (hp:Rd w 1 p (bv l))
  (h:∀s w',Own w' w.heap.size ae_ 1 s (bv (eM_ l).2.1)→ab_ w w'→R (((eM_ l).1:Nat):Int) s (((eM_ l).2.2:Nat):Int) w'):kf_ p w R:=by
 refine h3_.calls _ _ _ ?_
 have hln:=yC_ hp
 have hnb:=hp.nb
 have hcap:=hp.cap
 by_cases h20:l.length<20
 ·have hd:decide ((p.n:Int)<20)=true:=decide_eq_true o_
  have e:eM_ l=(0,[],3):=by unfold eM_;rw[if_pos (.inl h20)]
  rw[e] at h
  exact⟨fun q=>(by rw[hd] at q;cases q),⟨#[]⟩,fun q=>(by rw[hd] at q;cases q),al_ (by rw[hd];rfl) (h _ w (aG_ _ _ _ _) (ac_.refl _ _))⟩
 have hd:decide ((p.n:Int)<20)=false:=decide_eq_false o_
 have hx:Rd w 1 ⟨aI_ p.A p.c 0 1,4-0,p.c-0⟩ (bv (l.take 4)):=hp.cutB (l:=0) (k:=4) d_ o_
 refine⟨fun _=>⟨d_,d_,o_,hcap⟩,str (l.take 4),fun _=>gK_ (s:=⟨aI_ p.A p.c 0 1,4-0,p.c-0⟩) aE_ hc_ eJ_ hx,?_⟩
 rw[xe_,mG_,hd,Bool.false_or]
 by_cases hs:l.take 4=s4
 case neg=>
  have e:eM_ l=(0,[],3):=by unfold eM_;rw[if_pos (.inr hs)]
  rw[e] at h
  exact al_ (by rw[decide_eq_false hs];rfl) (h _ w (aG_ _ _ _ _) (ac_.refl _ _))
 refine ai_ (by rw[decide_eq_true hs];rfl) ?_
 refine bX_ (at_:=4) (n:=8) hp hnb d_ d_ o_ ?_
 refine bX_ (at_:=12) (n:=4) hp hnb d_ d_ o_ ?_
 have hn4:num ((l.drop 12).take 4)<4294967296:=vF_ _ (by simp;omega)
 have hN:=zV_ h20 hs
 generalize hn:num ((l.drop 12).take 4)=n at *
 have e1:IntKind.wrap .i64 ((n:Nat):Int)=(n:Int):=w64 o_ o_
 have e2:IntKind.wrap .i64 ((p.n:Int)-20)=(p.n:Int)-20:=w64 o_ o_
 rw[e1,e2]
 by_cases hlong:4096<n∨l.length<20+n
 ·rw[if_pos hlong] at hN
  rw[hN] at h
  exact al_ (by rw[Bool.or_eq_true,decide_eq_true_eq,decide_eq_true_eq];omega) (h _ w (aG_ _ _ _ _) (ac_.refl _ _))
 rw[if_neg hlong] at hN
 refine ai_ (by rw[Bool.or_eq_false_iff,decide_eq_false_iff_not,decide_eq_false_iff_not];omega) ?_
 have e3:IntKind.wrap .i64 (16+(n:Int))=((16+n:Nat):Int):=by rw[w64 o_ o_];omega
 have e4:IntKind.wrap .u64 (16+(n:Int))=((16+n:Nat):Int):=by rw[bZ_ o_ o_];omega
 rw[e3,e4]
 refine bX_ (at_:=16+n) (n:=4) hp hnb d_ d_ o_ ?_
 have hc4:num ((l.drop (16+n)).take 4)<4294967296:=vF_ _ (by simp;omega)
 simp only[Int.toNat_natCast,Nat.sub_zero]
 refine⟨⟨d_,o_,o_,hcap⟩,?_⟩
 have hy:=hp.cutB (l:=0) (k:=16+n) o_ o_
 simp only[List.drop_zero,Nat.sub_zero] at hy
 refine op_ hy ?_
 rw[k1_ (n:=((num ((l.drop (16+n)).take 4):Nat):Int)) o_ o_]
 by_cases hc:num ((l.drop (16+n)).take 4)=c32 (l.take (16+n))
 case neg=>
  rw[if_pos hc] at hN
  rw[hN] at h
  exact eR_ (fun _=>h _ w (aG_ _ _ _ _) (ac_.refl _ _)) (fun q=>absurd o_ hc)
 rw[if_neg (by simpa using hc)] at hN
 rw[hN] at h
 refine eR_ (fun q=>absurd (by rw[hc]) q) (fun _=>⟨⟨d_,o_,o_,hcap⟩,?_⟩)
 have hz:=hp.cutB (l:=16) (k:=16+n) o_ o_
 rw[show 16+n-16=n by omega] at hz ⊢
 refine aN_ (s:=⟨none,0,0⟩) (vs:=[]) (base:=w.heap.size) aE_ a6_ rfl d_ d_ (aG_ _ _ _ _) hz (cg_ _) (by show(0+n)*1≤_;omega) (Nat.le_refl _) fun s1 w1 hn1 hown1 hk1 _=>?_
 rw[List.nil_append] at hown1
 exact h s1 w1 hown1 (hk1.mono fun i hi q=>by cases q)
open Go CF
def zW_ (pw:Nat) (file:ByteArray) (sure:Bool) (at_:Int) (gen:Nat):A_:=#[.pointer (some ⟨pw,0,none⟩),.string file,.bool sure,.int .i64 at_,.int .u64 (gen:Int)]
abbrev cj_ (w:World) (ss pw:Nat) (file:ByteArray) (sure:Bool) (at_:Int) (gen:Nat):Prop:=Blk w ss (zW_ pw file sure at_ gen) f0_
theorem qy_ {w:World} {pw:Nat} {file:ByteArray} {R:O_→Int→W_} (hs:1≤file.size∧file.size≤30)
  (h:∀ss w',ss=w.heap.size→ab_ w w'→cj_ w' ss pw file false (-1) 0→R (some ⟨ss,0,none⟩) 0 w'):mj_ (some ⟨pw,0,none⟩) file w R:=by
 refine jB_.calls _ _ _ _ ?_
 refine ai_ (by rw[Bool.or_eq_false_iff,decide_eq_false_iff_not,decide_eq_false_iff_not];omega) (ai_ rfl ?_)
 exact ag_ fun ss w1 hss hb1 hg1 _=>h ss w1 hss hg1 hb1
def nmS (file:ByteArray) (i:Nat):ByteArray:=(file++oX_)++str [UInt8.ofNat (48+i)]
theorem p1_ (file:ByteArray) (i:Nat):(nmS file i).size=file.size+2:=by
 unfold nmS
 rw[ByteArray.size_append,ByteArray.size_append,nc_];rfl
theorem rW_ (a b:ByteArray):ls (a++b)=ls a++ls b:=by
 show(a++b).data.toList=_
 rw[ByteArray.data_append,Array.toList_append];rfl
theorem mr_ {w:World} {ss pw:Nat} {file:ByteArray} {sure:Bool} {at_:Int} {gen:Nat} {i:Nat} {R:ByteArray→W_} (hS:cj_ w ss pw file sure at_ gen) (hf:file.size≤30) (hi:i<10)
  (h:∀w',ab_ w w'→R (nmS file i) w'):eW_ (some ⟨ss,0,none⟩) (i:Int) w R:=by
 refine fb_.calls _ _ _ _ ?_
 rintro w0 rfl
 have hg0:ab_ w w.drew:=am_ w
 have e0:oX_.size=1:=d_
 refine⟨fun u=>cj_ u ss pw file sure at_ gen,hg0.heap hS (fun q=>q),rfl,file,fun u hu=>by rw[gA,ao_,Blk.cell hu];rfl,o_,?_⟩
 have e1:IntKind.wrap .u8 (IntKind.wrap .i64 (48+(i:Int)))=((UInt8.ofNat (48+i)).toNat:Int):=by
  rw[w64 o_ o_,show(48:Int)+(i:Int)=((48+i:Nat):Int) by omega,aV_]
 rw[e1]
 refine aJ_ (cells:=(bv [UInt8.ofNat (48+i)]).toArray) (e:=ae_) (z:=1) (base:=0) k_ rfl d_ (Nat.zero_le _) fun w1 hlit1 hg1 _=>⟨(hg0.trans hg1).heap hS (fun q=>q),?_⟩
 have hrd:Rd w1 1 ⟨some ⟨w.drew.heap.size,0,none⟩,1,1⟩ (bv [UInt8.ofNat (48+i)]):=hlit1.rd (by show 1≤_;decide)
 refine⟨fun u=>Rd u 1 ⟨some ⟨w.drew.heap.size,0,none⟩,1,1⟩ (bv [UInt8.ofNat (48+i)])∧cj_ u ss pw file sure at_ gen,⟨hrd,(hg0.trans hg1).heap hS (fun q=>q)⟩,fun u hu=>hu.2,str [UInt8.ofNat (48+i)],
  fun u hu=>gK_ (s:=⟨some ⟨w.drew.heap.size,0,none⟩,1,1⟩) aE_ hc_ eJ_ hu.1,?_,h w1 (hg0.trans hg1)⟩
 rw[ByteArray.size_append,nc_,e0]
 show file.size+1+1≤_
 omega
def fu_ (x:Int×Nat×L8) (i:Nat) (l:L8):Int×Nat×L8:=if (eM_ l).2.2=0∧(x.1<0∨x.2.1<(eM_ l).1) then((i:Int),(eM_ l).1,(eM_ l).2.1) else x
def ey_ (F:bD_) (file:ByteArray) (i:Nat):L8:=((F (nmS file i)).getD []).take 4116
def ldN (F:bD_) (file:ByteArray):Nat→Int×Nat×L8
 | 0=>(-1,0,[])
 | k+1=>fu_ (ldN F file k) k (ey_ F file k)
theorem p2_ {F:bD_} {file:ByteArray}:∀{k:Nat},(ldN F file k).1<0→ldN F file k=(-1,0,[])
 | 0,_=>rfl
 | k+1,h=>by
  simp only[ldN] at h ⊢
  unfold fu_ at h ⊢
  split
  ·rename_i q
   rw[if_pos q] at h
   simp only at h
   omega
  ·rename_i q
   rw[if_neg q] at h
   exact p2_ h
theorem qz_ {w:World} {ss pw:Nat} {D:Nat→Prop} {st:Wst} {cs:A_} {o:Nat} {v:Value} (hS:Blk w ss cs f0_) (hps:¬D ss) (hw:IsW w pw D st) (ho:o<cs.size) (hv:v.oneCell'=true) {K:W_}
  (h:∀u,Blk u ss (cs.setIfInBounds o v) f0_→IsW u pw D st→ac_ (fun k=>k=ss) w u→K u):Put ⟨ss,o,none⟩ v w K:=
 aU_ hS ho hv fun u hb hk _=>h u hb (hw.keep hk (fun k hk' q=>hps (q▸hk')) (fun g cur hg q=>by subst q;exact absurd (bj_ hS hg) d_)) hk
theorem qA_ {w:World} {ss pw:Nat} {D:Nat→Prop} {st:Wst} {file:ByteArray} {sure:Bool} {at_:Int} {gen:Nat} {R:Sl→Int→Int→W_} (hS:cj_ w ss pw file sure at_ gen) (hps:¬D ss) (hw:IsW w pw D st)
  (hf:1≤file.size∧file.size≤30) (ho:st.ops<100000000000)
  (h:∀best u,ac_ (fun k=>D k∨k=ss) w u→IsW u pw D {st with ops:=st.ops+2}→cj_ u ss pw file true (ldN st.seen file 2).1 (ldN st.seen file 2).2.1→Own u w.heap.size ae_ 1 best (bv (ldN st.seen file 2).2.2)→
   R best (((ldN st.seen file 2).2.1:Nat):Int) (if (ldN st.seen file 2).1<0 then 8 else 0) u):dz_ (some ⟨ss,0,none⟩) w R:=by
 refine dB_.calls _ _ _ ?_
 refine ai_ rfl ⟨rfl,?_⟩
 rw[gA,ao_]
 have lss:=aw_ hS
 refine qz_ hS hps hw (by show 2<5;decide) rfl fun w0 hS0 hw0 hk0=>?_
 have hS0:cj_ w0 ss pw file false at_ gen:=hS0
 refine⟨fun best a m x u=>∃j:Nat,x=j∧j≤2∧a=(ldN st.seen file j).1∧m=(((ldN st.seen file j).2.1:Nat):Int)∧ac_ (fun k=>D k∨k=ss) w u∧IsW u pw D {st with ops:=st.ops+j}∧cj_ u ss pw file false at_ gen∧
   Own u w.heap.size ae_ 1 best (bv (ldN st.seen file j).2.2),fun _ _ _ x _=>2-x.toNat,⟨0,rfl,d_,rfl,rfl,hk0.mono fun _ _ q=>.inr q,hw0,hS0,aG_ _ _ _ _⟩,?_⟩
 rintro best a m x w1 ⟨j,rfl,hj,rfl,rfl,hk1,hw1,hS1,hown1⟩
 have s1:=hk1.size
 refine a8_ (fun hlt=>?_) (fun hge=>?_)
 ·rintro w2 rfl
  have hg2:ab_ w1 w1.drew:=am_ w1
  refine⟨fun u=>cj_ u ss pw file false at_ gen,hg2.heap hS1 (fun q=>q),rfl,some ⟨pw,0,none⟩,fun u hu=>by rw[ao_,Blk.cell hu];rfl,?_⟩
  refine mr_ (hg2.heap hS1 (fun q=>q)) hf.2 o_ fun w3 hg3=>⟨(hg2.trans hg3).heap hS1 (fun q=>q),?_⟩
  have hg13:=hg2.trans hg3
  refine qm_ (off:=0) (n:=4116) (hw1.grow hg13) (by rw[p1_];omega) d_ d_ (by show st.ops+j<_;omega) fun s w4 hk4 hw4 hown4 hsn=>?_
  have hown4:Own w4 w3.heap.size ae_ 1 s (bv (ey_ st.seen file j)):=hown4
  refine ai_ (by
   show(_&&_)=false
   cases (st.seen (nmS file j)).isSome<;>rfl) ?_
  have nDown:∀b,best.blk=some b→¬D b:=fun b hb q=>by
   have h1:=(hown1.ge b hb).1
   have h2:=hw.lt q
   omega
  have hown1':Own w4 w.heap.size ae_ 1 best (bv (ldN st.seen file j).2.2):=(hown1.grow hg13).keep hk4 nDown
  have hS4:cj_ w4 ss pw file false at_ gen:=hk4.heap (hg13.heap hS1 (fun q=>q)) hps
  have hk14:ac_ (fun k=>D k∨k=ss) w w4:=(hk1.grow hg13).trans hk4 fun _ _ q=>.inl q
  refine ks_ (hown4.rd o_) fun s5 w5 hown5 hg5=>?_
  have fin:∀(b:Sl) (a:Int) (m:Int),a=(ldN st.seen file (j+1)).1→m=(((ldN st.seen file (j+1)).2.1:Nat):Int)→Own w5 w.heap.size ae_ 1 b (bv (ldN st.seen file (j+1)).2.2)→
    (∃j_1:Nat,IntKind.wrap .i64 ((j:Int)+1)=j_1∧j_1≤2∧a=(ldN st.seen file j_1).1∧m=(((ldN st.seen file j_1).2.1:Nat):Int)∧ac_ (fun k=>D k∨k=ss) w w5∧IsW w5 pw D {st with ops:=st.ops+j_1}∧cj_ w5 ss pw file false at_ gen∧
     Own w5 w.heap.size ae_ 1 b (bv (ldN st.seen file j_1).2.2))∧2-(IntKind.wrap .i64 ((j:Int)+1)).toNat<2-(j:Int).toNat:=fun b a m ha hm hb=>by
   rw[w64 o_ o_]
   exact⟨⟨j+1,o_,o_,ha,hm,hk14.grow hg5,hw4.grow hg5,hg5.heap hS4 (fun q=>q),hb⟩,o_⟩
  have hE:ldN st.seen file (j+1)=fu_ (ldN st.seen file j) j (ey_ st.seen file j):=rfl
  generalize ldN st.seen file (j+1)=L1 at *
  by_cases q:(eM_ (ey_ st.seen file j)).2.2=0∧((ldN st.seen file j).1<0∨(ldN st.seen file j).2.1<(eM_ (ey_ st.seen file j)).1)
  ·rw[fu_,if_pos q] at hE
   refine al_ ?_ (fin _ _ _ (by rw[hE]) (by rw[hE]) (by rw[hE];exact hown5.mono (by have:=hk14.size;omega)))
   rw[Bool.and_eq_true,Bool.or_eq_true,beq_iff_eq,decide_eq_true_eq,decide_eq_true_eq]
   omega
  ·rw[fu_,if_neg q] at hE
   refine ai_ ?_ (fin _ _ _ (by rw[hE]) (by rw[hE]) (by rw[hE];exact hown1'.grow hg5))
   rw[Bool.and_eq_false_iff,Bool.or_eq_false_iff,beq_eq_false_iff_ne,decide_eq_false_iff_not,decide_eq_false_iff_not]
   omega
 ·have hj2:j=2:=o_
  subst hj2
  refine⟨rfl,?_⟩
  rw[ao_]
  refine qz_ hS1 hps hw1 (by show 3<5;decide) rfl fun w2 hS2 hw2 hk2=>⟨rfl,?_⟩
  rw[ao_]
  refine qz_ hS2 hps hw2 (by show 4<5;decide) rfl fun w3 hS3 hw3 hk3=>⟨rfl,?_⟩
  refine qz_ hS3 hps hw3 (by show 2<5;decide) rfl fun w4 hS4 hw4 hk4=>?_
  have hS4:cj_ w4 ss pw file true (ldN st.seen file 2).1 (ldN st.seen file 2).2.1:=hS4
  have hkf:ac_ (fun k=>k=ss) w1 w4:=(hk2.trans hk3 fun _ _ q=>q).trans hk4 fun _ _ q=>q
  have hk14:ac_ (fun k=>D k∨k=ss) w w4:=hk1.trans hkf fun _ _ q=>.inr q
  have hown4:Own w4 w.heap.size ae_ 1 best (bv (ldN st.seen file 2).2.2):=hown1.keep hkf fun b hb q=>by
   have:=(hown1.ge b hb).1;omega
  have:=h best w4 hk14 hw4 hS4 hown4
  refine a8_ (fun q=>?_) (fun q=>?_)
  ·rw[if_pos q] at this
   have hn:=p2_ q
   have:=h ⟨none,0,0⟩ w4 hk14 hw4 hS4 (by rw[hn];exact aG_ _ _ _ _)
   rw[if_pos q,hn] at this
   exact this
  ·rw[if_neg q] at this
   exact this
open Go CF
def toS (at_:Int):Nat:=if at_=0 then 1 else 0
open Go CF
structure SlX where
 sure:Bool
 at_:Int
 gen:Nat
def aP_ (F:Int→Bool) (st:Wst) (file:ByteArray) (x:SlX):Nat×L8×Nat×SlX×Wst:=
 match gC_ F st.ops 2 with
 | some k=>(6,[],0,⟨false,x.at_,x.gen⟩,more st (k+1))
 | none=>(if (ldN st.seen file 2).1<0 then 8 else 0,(ldN st.seen file 2).2.2,(ldN st.seen file 2).2.1,⟨true,(ldN st.seen file 2).1,(ldN st.seen file 2).2.1⟩,more st 2)
def i5_ (g:Nat):Nat:=(g+1)%18446744073709551616
def eN_ (F:Int→Bool) (st:Wst) (file:ByteArray) (x:SlX) (l:L8):Nat×SlX×Wst:=
 if F (st.ops:Int)=true then(6,⟨false,x.at_,x.gen⟩,more st 1)
 else if F ((st.ops+1:Nat):Int)=true then(6,⟨false,x.at_,x.gen⟩,more (fi_ st (nmS file (toS x.at_)) 0 (km_ (i5_ x.gen) l)) 1)
 else(0,⟨true,(toS x.at_:Int),i5_ x.gen⟩,lh_ (fi_ st (nmS file (toS x.at_)) 0 (km_ (i5_ x.gen) l)))
def c4_ (F:Int→Bool) (st:Wst) (file:ByteArray) (x:SlX) (l:L8):Nat×SlX×Wst:=
 if x.sure=true then eN_ F st file x l
 else if (aP_ F st file x).1=6 then(6,(aP_ F st file x).2.2.2.1,(aP_ F st file x).2.2.2.2) else eN_ F (aP_ F st file x).2.2.2.2 file (aP_ F st file x).2.2.2.1 l
theorem iA_ {w:World} {ss pw:Nat} {D:Nat→Prop} {st:Wst} {F:Int→Bool} {cs:A_} {o:Nat} {v:Value} (hS:Blk w ss cs f0_) (hps:¬D ss) (hw:aZ_ w pw D st F) (ho:o<cs.size) (hv:v.oneCell'=true) {K:W_}
  (h:∀u,Blk u ss (cs.setIfInBounds o v) f0_→aZ_ u pw D st F→ac_ (fun k=>k=ss) w u→K u):Put ⟨ss,o,none⟩ v w K:=
 aU_ hS ho hv fun u hb hk _=>h u hb (hw.keep hk (fun k hk' q=>hps (q▸hk')) (fun g cur hg q=>by subst q;exact absurd (bj_ hS hg) d_)) hk
theorem mV_ {w:World} {ss pw:Nat} {D:Nat→Prop} {st:Wst} {F:Int→Bool} {file:ByteArray} {x:SlX} {R:Sl→Int→Int→W_} (hS:cj_ w ss pw file x.sure x.at_ x.gen) (hps:¬D ss) (hw:aZ_ w pw D st F)
  (hf:1≤file.size∧file.size≤30) (ho:st.ops<100000000000)
  (h:∀best u,ac_ (fun k=>D k∨k=ss) w u→aZ_ u pw D (aP_ F st file x).2.2.2.2 F→cj_ u ss pw file (aP_ F st file x).2.2.2.1.sure (aP_ F st file x).2.2.2.1.at_ (aP_ F st file x).2.2.2.1.gen→Own u w.heap.size ae_ 1 best (bv (aP_ F st file x).2.1)→
   R best (((aP_ F st file x).2.2.1:Nat):Int) (((aP_ F st file x).1:Nat):Int) u):dz_ (some ⟨ss,0,none⟩) w R:=by
 refine dB_.calls _ _ _ ?_
 refine ai_ rfl ⟨rfl,?_⟩
 rw[gA,ao_]
 have lss:=aw_ hS
 unfold aP_ at h
 refine iA_ hS hps hw (by show 2<5;decide) rfl fun w0 hS0 hw0 hk0=>?_
 have hS0:cj_ w0 ss pw file false x.at_ x.gen:=hS0
 refine⟨fun best a m y u=>∃j:Nat,y=j∧j≤2∧a=(ldN st.seen file j).1∧m=(((ldN st.seen file j).2.1:Nat):Int)∧ac_ (fun k=>D k∨k=ss) w u∧aZ_ u pw D {st with ops:=st.ops+j} F∧cj_ u ss pw file false x.at_ x.gen∧
   Own u w.heap.size ae_ 1 best (bv (ldN st.seen file j).2.2)∧∀i:Nat,i<j→F ((st.ops+i:Nat):Int)=false,fun _ _ _ y _=>2-y.toNat,⟨0,rfl,d_,rfl,rfl,hk0.mono fun _ _ q=>.inr q,hw0,hS0,aG_ _ _ _ _,fun _ q=>absurd q (Nat.not_lt_zero _)⟩,?_⟩
 rintro best a m y w1 ⟨j,rfl,hj,rfl,rfl,hk1,hw1,hS1,hown1,hfl⟩
 have s1:=hk1.size
 refine a8_ (fun hlt=>?_) (fun hge=>?_)
 ·rintro w2 rfl
  have hg2:ab_ w1 w1.drew:=am_ w1
  refine⟨fun u=>cj_ u ss pw file false x.at_ x.gen,hg2.heap hS1 (fun q=>q),rfl,some ⟨pw,0,none⟩,fun u hu=>by rw[ao_,Blk.cell hu];rfl,?_⟩
  refine mr_ (hg2.heap hS1 (fun q=>q)) hf.2 o_ fun w3 hg3=>⟨(hg2.trans hg3).heap hS1 (fun q=>q),?_⟩
  have hg13:=hg2.trans hg3
  refine iX_ (off:=0) (n:=4116) (hw1.grow hg13) (by rw[p1_];omega) d_ d_ (by show st.ops+j<_;omega) (fun hok s w4 hk4 hr4 hown4 hsn=>?_) (fun hbad w4 hk4 hr4=>?_)
  case refine_2=>
   have hff:gC_ F st.ops 2=some j:=i3_ o_ hfl hbad
   rw[hff] at h
   have hk14:ac_ (fun k=>D k∨k=ss) w w4:=(hk1.grow hg13).trans hk4 fun _ _ q=>.inl q
   refine al_ rfl (h au_ w4 hk14 ?_ (hk4.heap (hg13.heap hS1 (fun q=>q)) hps) (aG_ _ _ _ _))
   have:=hr4.isWq (hw1.grow hg13)
   exact this
  have hw4:=hr4.isWq (hw1.grow hg13)
  have hown4:Own w4 w3.heap.size ae_ 1 s (bv (ey_ st.seen file j)):=hown4
  refine ai_ (by
   show(_&&_)=false
   cases (st.seen (nmS file j)).isSome<;>rfl) ?_
  have nDown:∀b,best.blk=some b→¬D b:=fun b hb q=>by
   have h1:=(hown1.ge b hb).1
   have h2:=hw.lt q
   omega
  have hown1':Own w4 w.heap.size ae_ 1 best (bv (ldN st.seen file j).2.2):=(hown1.grow hg13).keep hk4 nDown
  have hS4:cj_ w4 ss pw file false x.at_ x.gen:=hk4.heap (hg13.heap hS1 (fun q=>q)) hps
  have hk14:ac_ (fun k=>D k∨k=ss) w w4:=(hk1.grow hg13).trans hk4 fun _ _ q=>.inl q
  refine ks_ (hown4.rd o_) fun s5 w5 hown5 hg5=>?_
  have fin:∀(b:Sl) (a:Int) (m:Int),a=(ldN st.seen file (j+1)).1→m=(((ldN st.seen file (j+1)).2.1:Nat):Int)→Own w5 w.heap.size ae_ 1 b (bv (ldN st.seen file (j+1)).2.2)→
    (∃j_1:Nat,IntKind.wrap .i64 ((j:Int)+1)=j_1∧j_1≤2∧a=(ldN st.seen file j_1).1∧m=(((ldN st.seen file j_1).2.1:Nat):Int)∧ac_ (fun k=>D k∨k=ss) w w5∧aZ_ w5 pw D {st with ops:=st.ops+j_1} F∧cj_ w5 ss pw file false x.at_ x.gen∧
     Own w5 w.heap.size ae_ 1 b (bv (ldN st.seen file j_1).2.2)∧∀i:Nat,i<j_1→F ((st.ops+i:Nat):Int)=false)∧2-(IntKind.wrap .i64 ((j:Int)+1)).toNat<2-(j:Int).toNat:=fun b a m ha hm hb=>by
   rw[w64 o_ o_]
   exact⟨⟨j+1,o_,o_,ha,hm,hk14.grow hg5,hw4.grow hg5,hg5.heap hS4 (fun q=>q),hb,fun i hi=>by
    by_cases e:i=j
    ·rw[e];exact hok
    ·exact hfl i o_⟩,o_⟩
  have hE:ldN st.seen file (j+1)=fu_ (ldN st.seen file j) j (ey_ st.seen file j):=rfl
  generalize ldN st.seen file (j+1)=L1 at *
  by_cases q:(eM_ (ey_ st.seen file j)).2.2=0∧((ldN st.seen file j).1<0∨(ldN st.seen file j).2.1<(eM_ (ey_ st.seen file j)).1)
  ·rw[fu_,if_pos q] at hE
   refine al_ ?_ (fin _ _ _ (by rw[hE]) (by rw[hE]) (by rw[hE];exact hown5.mono (by have:=hk14.size;omega)))
   rw[Bool.and_eq_true,Bool.or_eq_true,beq_iff_eq,decide_eq_true_eq,decide_eq_true_eq]
   omega
  ·rw[fu_,if_neg q] at hE
   refine ai_ ?_ (fin _ _ _ (by rw[hE]) (by rw[hE]) (by rw[hE];exact hown1'.grow hg5))
   rw[Bool.and_eq_false_iff,Bool.or_eq_false_iff,beq_eq_false_iff_ne,decide_eq_false_iff_not,decide_eq_false_iff_not]
   omega
 ·have hj2:j=2:=o_
  subst hj2
  rw[ho_ hfl] at h
  dsimp only at h
  refine⟨rfl,?_⟩
  rw[ao_]
  refine iA_ hS1 hps hw1 (by show 3<5;decide) rfl fun w2 hS2 hw2 hk2=>⟨rfl,?_⟩
  rw[ao_]
  refine iA_ hS2 hps hw2 (by show 4<5;decide) rfl fun w3 hS3 hw3 hk3=>⟨rfl,?_⟩
  refine iA_ hS3 hps hw3 (by show 2<5;decide) rfl fun w4 hS4 hw4 hk4=>?_
  have hS4:cj_ w4 ss pw file true (ldN st.seen file 2).1 (ldN st.seen file 2).2.1:=hS4
  have hkf:ac_ (fun k=>k=ss) w1 w4:=(hk2.trans hk3 fun _ _ q=>q).trans hk4 fun _ _ q=>q
  have hk14:ac_ (fun k=>D k∨k=ss) w w4:=hk1.trans hkf fun _ _ q=>.inr q
  have hown4:Own w4 w.heap.size ae_ 1 best (bv (ldN st.seen file 2).2.2):=hown1.keep hkf fun b hb q=>by
   have:=(hown1.ge b hb).1;omega
  have:=h best w4 hk14 hw4 hS4 hown4
  refine a8_ (fun q=>?_) (fun q=>?_)
  ·rw[if_pos q] at this
   have hn:=p2_ q
   have:=h ⟨none,0,0⟩ w4 hk14 hw4 hS4 (by rw[hn];exact aG_ _ _ _ _)
   rw[if_pos q,hn] at this
   exact this
  ·rw[if_neg q] at this
   exact this
theorem rX_ (g:Nat):IntKind.wrap .u64 ((g:Int)+1)=((i5_ g:Nat):Int):=by
 have e:IntKind.wrap .u64 ((g:Int)+1)=((g:Int)+1)%18446744073709551616:=by simp[IntKind.wrap,IntKind.signed,IntKind.bits]
 rw[e];unfold i5_;omega
theorem rr_ {w:World} {ss pw:Nat} {D:Nat→Prop} {st:Wst} {F:Int→Bool} {file:ByteArray} {x:SlX} {p:Sl} {l:L8} {R:Int→Int→W_} (hS:cj_ w ss pw file x.sure x.at_ x.gen) (hps:¬D ss) (hw:aZ_ w pw D st F)
  (hok:Wok st) (hf:1≤file.size∧file.size≤30) (ho:st.ops<10000000000) (hn:st.waits.length<800000000) (hl:l.length≤4096) (hp:∀u,ac_ (fun k=>D k∨k=ss) w u→Rd u 1 p (bv l))
  (h:∀u D' g,ac_ (fun k=>D k∨k=ss) w u→aZ_ u pw D' (c4_ F st file x l).2.2 F→(∀k,D' k→D k∨w.heap.size≤k)→
   cj_ u ss pw file (c4_ F st file x l).2.1.sure (c4_ F st file x l).2.1.at_ (c4_ F st file x l).2.1.gen→R g (((c4_ F st file x l).1:Nat):Int) u):cO_ (some ⟨ss,0,none⟩) p w R:=by
 refine dC_.calls _ _ _ _ ?_
 unfold dC_
 simp only[gA,ao_,Nat.zero_add]
 have hp0:=hp w (ac_.refl _ _)
 have hln:=yC_ hp0
 have lss:=aw_ hS
 refine a8_ (fun q=>absurd q o_) (fun _=>ai_ rfl ⟨rfl,x.sure,by rw[Blk.cell hS];rfl,?_⟩)
 unfold c4_ at h
 refine bR_ (fun u=>∃(st1:Wst) (x1:SlX),ac_ (fun k=>D k∨k=ss) w u∧aZ_ u pw D st1 F∧cj_ u ss pw file x1.sure x1.at_ x1.gen∧st1.seen=st.seen∧st1.dur=st.dur∧st1.waits=st.waits∧st1.ops≤st.ops+2∧
  (∀u D' g,ac_ (fun k=>D k∨k=ss) w u→aZ_ u pw D' (eN_ F st1 file x1 l).2.2 F→(∀k,D' k→D k∨w.heap.size≤k)→cj_ u ss pw file (eN_ F st1 file x1 l).2.1.sure (eN_ F st1 file x1 l).2.1.at_ (eN_ F st1 file x1 l).2.1.gen→R g (((eN_ F st1 file x1 l).1:Nat):Int) u)) ?_ (fun J=>?_)
 ·rintro w1 ⟨st1,x1,hk1,hw1,hS1,e1,e2,e3,ho1,hR⟩
  have wokA:∀to,Wok (fi_ st1 (nmS file to) 0 (km_ (i5_ x1.gen) l)):=fun to c hc=>by
   rcases List.mem_append.1 hc with q|q
   ·exact hok c (by rw[←e3];exact q)
   ·rw[List.mem_singleton.1 q];exact⟨rfl,by show 0+(km_ _ _).length≤_;rw[p0_];omega⟩
  unfold eN_ at hR
  refine⟨rfl,?_⟩
  refine iA_ hS1 hps hw1 (by show 2<5;decide) rfl fun w2 hS2 hw2 hk2=>⟨rfl,x1.at_,by rw[Blk.cell hS2];rfl,?_⟩
  have hS2:cj_ w2 ss pw file false x1.at_ x1.gen:=hS2
  refine aX_ (fun(to:Int) u=>u=w2∧to=(toS x1.at_:Int)) ?_ (fun J2=>?_)
  ·rintro to u ⟨rfl,rfl⟩
   refine⟨rfl,(x1.gen:Int),by rw[Blk.cell hS2];rfl,?_⟩
   rw[rX_]
   have hk12:ac_ (fun k=>D k∨k=ss) w u:=hk1.trans hk2 fun _ _ q=>.inr q
   have s2:=hk12.size
   have hg1:i5_ x1.gen<18446744073709551616:=Nat.mod_lt _ d_
   refine ph_ (hp u hk12) hg1 (fun q=>absurd q o_) fun _ r w3 hown3 hg3 hn3=>?_
   rintro w4 rfl
   have hg4:ab_ u w3.drew:=hg3.trans (am_ w3)
   refine⟨fun u=>cj_ u ss pw file false x1.at_ x1.gen,hg4.heap hS2 (fun q=>q),rfl,some ⟨pw,0,none⟩,fun u hu=>by rw[Blk.cell hu];rfl,?_⟩
   have hto:toS x1.at_<10:=by unfold toS;split<;>decide
   refine mr_ (hg4.heap hS2 (fun q=>q)) hf.2 hto fun w5 hg5=>⟨(hg4.trans hg5).heap hS2 (fun q=>q),?_⟩
   have hg25:=hg4.trans hg5
   have hown5:Own w5 u.heap.size ae_ 1 r (bv (km_ (i5_ x1.gen) l)):=(hown3.grow (am_ w3)).grow hg5
   have s5:=hg25.size
   refine lV_ (off:=0) (bs:=km_ (i5_ x1.gen) l) (hw2.grow hg25) (by rw[p1_];omega) (hown5.rd o_) (by rw[p0_];omega) o_ (by rw[e3];omega) (fun hf1 w6 D6 hk6 hw6 hD6=>?_) (fun hf1 w6 hk6 hw6=>?_)
   ·have hS6:cj_ w6 ss pw file false x1.at_ x1.gen:=hk6.heap (hg25.heap hS2 (fun q=>q)) hps
    have hk06:ac_ (fun k=>D k∨k=ss) w w6:=(hk12.grow hg25).trans hk6 fun _ _ q=>.inl q
    have nD6:¬D6 ss:=fun q=>by rcases hD6 _ q with r|r
                               ·exact hps r
                               ·omega
    have s6:=hk6.size
    have hw6:aZ_ w6 pw D6 (fi_ st1 (nmS file (toS x1.at_)) 0 (km_ (i5_ x1.gen) l)) F:=hw6
    have hDD:∀k,D6 k→D k∨w.heap.size≤k:=fun k q=>by
     rcases hD6 k q with r|r
     ·exact .inl r
     ·exact .inr o_
    rw[if_neg (by rw[hf1];exact Bool.noConfusion)] at hR
    refine aX_ (fun(e:Int) u=>(e=0∧F ((st1.ops+1:Nat):Int)=false∧∃D',ac_ (fun k=>D k∨k=ss) w u∧aZ_ u pw D' (lh_ (fi_ st1 (nmS file (toS x1.at_)) 0 (km_ (i5_ x1.gen) l))) F∧(∀k,D' k→D k∨w.heap.size≤k)∧cj_ u ss pw file false x1.at_ x1.gen)∨
     (e=6∧F ((st1.ops+1:Nat):Int)=true∧ac_ (fun k=>D k∨k=ss) w u∧aZ_ u pw D6 (more (fi_ st1 (nmS file (toS x1.at_)) 0 (km_ (i5_ x1.gen) l)) 1) F∧cj_ u ss pw file false x1.at_ x1.gen)) ?_ (fun J3=>?_)
    ·rintro e w7 (⟨rfl,hf2,D7,hk7,hw7,hD7,hS7⟩|⟨rfl,hf2,hk7,hw7,hS7⟩)
     ·rw[if_neg (by rw[hf2];exact Bool.noConfusion)] at hR
      have nD7:¬D7 ss:=fun q=>by rcases hD7 _ q with r|r
                                 ·exact hps r
                                 ·omega
      refine ai_ rfl ⟨rfl,(x1.gen:Int),by rw[Blk.cell hS7];rfl,rfl,?_⟩
      rw[rX_]
      refine iA_ hS7 nD7 hw7 (by show 3<5;decide) rfl fun w8 hS8 hw8 hk8=>⟨rfl,?_⟩
      refine iA_ hS8 nD7 hw8 (by show 4<5;decide) rfl fun w9 hS9 hw9 hk9=>⟨rfl,?_⟩
      refine iA_ hS9 nD7 hw9 (by show 2<5;decide) rfl fun w10 hS10 hw10 hk10=>?_
      refine⟨rfl,((i5_ x1.gen:Nat):Int),by rw[Blk.cell hS10];rfl,?_⟩
      have hkf:ac_ (fun k=>k=ss) w7 w10:=(hk8.trans hk9 fun _ _ q=>q).trans hk10 fun _ _ q=>q
      exact hR w10 D7 _ (hk7.trans hkf fun _ _ q=>.inr q) hw10 hD7 hS10
     ·rw[if_pos hf2] at hR
      exact al_ rfl (hR w7 D6 _ hk7 hw7 hDD hS7)
    ·refine al_ rfl ⟨rfl,some ⟨pw,0,none⟩,by rw[Blk.cell hS6];rfl,?_⟩
     refine nA_ hw6 (wokA _) (by show st1.ops+1<_;omega) (by show(st1.waits++[_]).length<_;rw[List.length_append,e3];show st.waits.length+1<_;omega) (fun hf2 w7 D7 hk7 hw7 hD7=>?_) (fun hf2 w7 hk7 hw7=>?_)
     ·refine J3 0 w7 (.inl ⟨rfl,hf2,D7,hk06.trans hk7 fun i hi q=>?_,hw7,fun k q=>?_,hk7.heap hS6 nD6⟩)
      ·rcases hD6 i q with r|r
       ·exact .inl r
       ·omega
      ·rcases hD7 k q with r|r
       ·exact hDD k r
       ·exact .inr o_
     ·refine J3 6 w7 (.inr ⟨rfl,hf2,hk06.trans hk7 fun i hi q=>?_,hw7,hk7.heap hS6 nD6⟩)
      rcases hD6 i q with r|r
      ·exact .inl r
      ·omega
   ·rw[if_pos hf1] at hR
    have hS6:cj_ w6 ss pw file false x1.at_ x1.gen:=hk6.heap (hg25.heap hS2 (fun q=>q)) hps
    have hk06:ac_ (fun k=>D k∨k=ss) w w6:=(hk12.grow hg25).trans hk6 fun _ _ q=>.inl q
    refine aX_ (fun(e:Int) u=>e=6∧u=w6) (fun e u q=>?_) (fun J3=>ai_ rfl (J3 6 w6 ⟨rfl,rfl⟩))
    obtain⟨rfl,rfl⟩:=q
    exact al_ rfl (hR u D _ hk06 hw6 (fun _ q=>.inl q) hS6)
  ·refine ay_ (fun q=>J2 1 w2 ⟨rfl,?_⟩) (fun q=>J2 0 w2 ⟨rfl,?_⟩)
   ·unfold toS;rw[if_pos q];rfl
   ·unfold toS;rw[if_neg q];rfl
 ·cases hsu:x.sure with
  | true=>
   rw[hsu,if_pos rfl] at h
   exact ai_ rfl (J w ⟨st,x,ac_.refl _ _,hw,hS,rfl,rfl,rfl,o_,h⟩)
  | false=>
   rw[hsu,if_neg Bool.noConfusion] at h
   refine al_ rfl (mV_ hS hps hw hf o_ fun best u hk hu hSu hb=>?_)
   by_cases q6:(aP_ F st file x).1=6
   ·rw[if_pos q6] at h
    rw[q6]
    exact al_ rfl (by have:=h u D 0 hk hu (fun _ q=>.inl q) hSu;exact this)
   ·rw[if_neg q6] at h
    have hst:(aP_ F st file x).2.2.2.2.seen=st.seen∧(aP_ F st file x).2.2.2.2.dur=st.dur∧(aP_ F st file x).2.2.2.2.waits=st.waits∧(aP_ F st file x).2.2.2.2.ops≤st.ops+2:=by
     unfold aP_
     split
     ·rename_i k hk'
      have:=List.mem_range.1 (List.mem_of_find?_eq_some hk')
      exact⟨rfl,rfl,rfl,by show st.ops+(k+1)≤_;omega⟩
     ·exact⟨rfl,rfl,rfl,Nat.le_refl _⟩
    have h08:(aP_ F st file x).1=0∨(aP_ F st file x).1=8:=by
     revert q6
     unfold aP_
     split
     ·exact fun q=>absurd rfl q
     ·intro _
      dsimp only
      split
      ·exact .inr rfl
      ·exact .inl rfl
    refine ai_ ?_ (J u ⟨_,_,hk,hu,hSu,hst.1,hst.2.1,hst.2.2.1,hst.2.2.2,h⟩)
    rcases h08 with e|e<;>rw[e]<;>rfl
open Go CF
structure Row (w0 u:World) (p:Sl) (l:L8):Prop where
 own:Own u w0.heap.size ae_ 1 p (bv l)
 grow:ab_ w0 u
section
variable {w0 u u':World} {p:Sl} {os:L8}
theorem Row.n (h:Row w0 u p os):p.n=os.length:=cY_ h.own
theorem Row.nil (h:ab_ w0 u):Row w0 u au_ []:=⟨aG_ _ _ _ _,h⟩
theorem Row.step {p':Sl} {os':L8} (h:Row w0 u p os) (hown:Own u' w0.heap.size ae_ 1 p' (bv os')) (hk:ac_ (fun k=>some k=p.blk) u u'):Row w0 u' p' os':=⟨hown,cz_ h.grow h.own (Nat.le_refl _) hk⟩
theorem Row.go (h:Row w0 u p os) (g:ab_ u u'):Row w0 u' p os:=⟨h.own.grow g,h.grow.trans g⟩
theorem Row.keep {S:Nat→Prop} (h:Row w0 u p os) (k:ac_ S u u') (hs:∀b,p.blk=some b→¬S b) (hg:∀i,i<w0.heap.size→¬S i):Row w0 u' p os:=⟨h.own.keep k hs,h.grow.keep k hg⟩
theorem Row.ne (h:Row w0 u p os) {b:Nat} {cs:A_} {t:TypeId} (hb:Blk u b cs t) (ht:t≠ae_):some b≠p.blk:=fun q=>by
 obtain⟨cur,hc⟩:=aS_ h.own q.symm
 exact ht (bj_ hb hc)
theorem Row.blk (h:Row w0 u p os) (hk:ac_ (fun k=>some k=p.blk) u u') {b:Nat} {cs:A_} {t:TypeId} (hb:Blk u b cs t) (ht:t≠ae_):Blk u' b cs t:=hk.heap hb (h.ne hb ht)
theorem Row.rd (h:Row w0 u p os) (hl:os.length≤140737488355328):Rd u 1 p (bv os):=h.own.rd (by have:=h.n;omega)
theorem Row.app (h:Row w0 u p os) {x:Sl} {l:L8} (hx:Rd u 1 x (bv l)) (hb:os.length+l.length≤140737488355328) {ty:TypeId} {K:Sl→W_} (hK:∀p' u',Row w0 u' p' (os++l)→ac_ (fun k=>some k=p.blk) u u'→K p' u') :
  an_ Tryz.prog .sl (Builtin.append_ #[aB_,aB_] ty #[.slice p.A p.n p.c,.slice x.A x.n x.c]) u K:=by
 have hxn:=b4_ hx
 have hpn:=h.n
 refine aN_ aE_ a6_ rfl d_ d_ h.own hx (cg_ _) o_ h.grow.size fun s' w' hn hown hk _=>hK s' w' (h.step ?_ hk) hk
 rw[bg_];exact hown
theorem Row.lit (h:Row w0 u p os) {n:Nat} {parts:Array (Nat×Value)} {l:L8} {t ty:TypeId} (hr:(Instr.buildSlice t n parts).run Tryz.prog u=.ok (.slice (some ⟨u.heap.size,0,none⟩) n n) (u.alloc (.cells (bv l).toArray ae_))) (hn:n=l.length)
  (hb:os.length+l.length≤140737488355328) {K:Sl→W_} (hK:∀p' u',Row w0 u' p' (os++l)→ac_ (fun k=>some k=p.blk) u u'→K p' u') :
  an_ Tryz.prog .sl (Instr.buildSlice t n parts) u fun xs u1=>an_ Tryz.prog .sl (Builtin.append_ #[aB_,aB_] ty #[.slice p.A p.n p.c,.slice xs.A xs.n xs.c]) u1 K:=by
 refine aJ_ (cells:=(bv l).toArray) (e:=ae_) (z:=1) (base:=0) hr (by simp[bv,hn]) o_ (Nat.zero_le _) fun u1 hown1 hg1 _=>?_
 have hx:Rd u1 1 ⟨some ⟨u.heap.size,0,none⟩,n,n⟩ (bv l):=hown1.rd (by show n≤_;omega)
 refine(h.go hg1).app hx hb fun p' u' hr' hk=>hK p' u' hr' ⟨hk.os.trans hg1.os,hk.tape.trans hg1.tape,hk.output.trans hg1.output,Nat.le_trans hg1.size hk.size,fun k hlt hne=>(hk.block k (by have:=hg1.size;omega) hne).trans (hg1.block k hlt (fun q=>q))⟩
theorem Row.start {n:Nat} {parts:Array (Nat×Value)} {l:L8} {t:TypeId} (hr:(Instr.buildSlice t n parts).run Tryz.prog u=.ok (.slice (some ⟨u.heap.size,0,none⟩) n n) (u.alloc (.cells (bv l).toArray ae_))) (hn:n=l.length) (hb:l.length≤140737488355328)
  {K:Sl→W_} (hK:∀p' u',Row u u' p' l→K p' u'):an_ Tryz.prog .sl (Instr.buildSlice t n parts) u K:=
 aJ_ (cells:=(bv l).toArray) (e:=ae_) (z:=1) (base:=u.heap.size) hr (by simp[bv,hn]) o_ (Nat.le_refl _) fun u1 hown1 hg1 _=>hK _ u1 ⟨hown1,hg1⟩
theorem lZ_ {S:Nat→Prop} {a b c:World} (g:ab_ a b) (k:ac_ S b c):ac_ S a c:=ac_.trans (g.mono fun _ _ q=>q.elim) k fun _ _ q=>q
theorem ka_ {w:World} {s:Sl} {vs:List Value} (h:Rd w 1 s vs) {i:Nat} (hi:i<vs.length):s.A.isSome=true∧w.cell? ((gA s.A).add (i*1))=some vs[i]:=by
 have hne:vs≠[]:=fun q=>by rw[q] at hi;simp at hi
 obtain⟨a,ha,hc⟩:=h.at_ hne
 rw[ha]
 exact⟨rfl,by rw[Nat.mul_one];exact hc i _ (List.getElem?_eq_getElem hi)⟩
theorem qB_ {α:Type} {f:α→List Value} {z:Nat} {w:World} {s:Sl} {xs:List α} (hf:∀a,(f a).length=z) (hz:0<z) (h:Rd w z s (xs.flatMap f)) {i:Nat} (hi:i<xs.length):s.A.isSome=true∧bQ_ w ((gA s.A).add (i*z)) (f xs[i]):=by
 have hn:s.n=xs.length:=by have:=h.len;rw[bv_ hf] at this;exact(Nat.eq_of_mul_eq_mul_right hz this).symm
 obtain⟨a,ha,hc⟩:=h.elem (i:=i) o_ hz
 rw[gJ_ hf hi] at hc
 rw[ha]
 exact⟨rfl,hc⟩
theorem zu_ {α:Type} {f:α→List Value} {z:Nat} {w:World} {s:Sl} {xs:List α} (hf:∀a,(f a).length=z) (hz:0<z) (h:Rd w z s (xs.flatMap f)):xs.length=s.n:=by
 have:=h.len;rw[bv_ hf] at this;exact Nat.eq_of_mul_eq_mul_right hz this
end
open Go CF
def l0_ (n:Nat):Nat:=if n/256=41 then 0 else if n=12032 then 1 else if n/256=42∧n≠10753 then 2 else 3
def kS_ (l:List Nat) (c:Nat):List Nat:=if c=10496 then [] else l
def bG_ (l:List Nat) (c:Nat):List Nat:=if c∈kS_ l c then l else if (kS_ l c).length<8 then kS_ l c++[c] else l
def dn_ (l:List Nat):Nat→Option Nat
 | 0=>none
 | k+1=>match dn_ l k with
  | none=>some k
  | some b=>if l0_ (l.getD k 0)<l0_ (l.getD b 0) then some k else some b
def i6_ (l:List Nat):Option Nat:=(dn_ l l.length).map fun i=>l.getD i 0
def jQ_ (l:List Nat):List Nat:=match dn_ l l.length with
 | none=>l
 | some i=>l.take i++l.drop (i+1)
theorem nK_ (l:List Nat):∀k b,dn_ l k=some b→b<k
 | 0,b,h=>by cases h
 | k+1,b,h=>by
  unfold dn_ at h
  split at h
  ·injection h with h;omega
  ·rename_i b' hb
   have:=nK_ l k b' hb
   split at h<;>(injection h with h;omega)
theorem zX_ {l:List Nat} {c:Nat} (hl:l.length≤8) (hc:c<65536) (h:∀x∈l,x<65536):(bG_ l c).length≤8∧∀x∈bG_ l c,x<65536:=by
 unfold bG_
 split
 ·exact⟨hl,h⟩
 split
 ·rename_i hb
  refine⟨by rw[List.length_append];simp only[List.length_singleton];omega,fun x hx=>?_⟩
  rcases List.mem_append.1 hx with q|q
  ·unfold kS_ at q
   split at q
   ·cases q
   ·exact h x q
  ·rw[List.mem_singleton.1 q];exact hc
 ·exact⟨hl,h⟩
theorem yD_ {l:List Nat} (hl:l.length≤8) (h:∀x∈l,x<65536):(jQ_ l).length≤8∧∀x∈jQ_ l,x<65536:=by
 unfold jQ_
 split
 ·exact⟨hl,h⟩
 ·refine⟨by rw[List.length_append,List.length_take,List.length_drop];omega,fun x hx=>?_⟩
  rcases List.mem_append.1 hx with q|q
  ·exact h x (List.mem_of_mem_take q)
  ·exact h x (List.mem_of_mem_drop q)
def dZ_ (l:List Nat):List Value:=l.map fun n:Nat=>.int .u16 (n:Int)
theorem d0_ (l:List Nat):(dZ_ l).length=l.length:=List.length_map ..
theorem nL_ (l:List Nat):∀v∈dZ_ l,v.oneCell'=true:=fun v hv=>by
 obtain⟨n,_,rfl⟩:=List.mem_map.1 hv;rfl
theorem ms_ (a b:List Nat):dZ_ (a++b)=dZ_ a++dZ_ b:=List.map_append ..
def slv (s:Sl):Value:=.slice s.A s.n s.c
def mt_ (t:TypeId):Prop:=t=c1_∨t=aF_∨t=aM_
def a9_ (w:World) (N S:Nat→Prop):Prop:=∀b,b<w.heap.size→S b→N b∨∃cs t,Blk w b cs t∧¬mt_ t
theorem a9_.sub {w:World} {N S:Nat→Prop} (h:∀b,b<w.heap.size→S b→N b):a9_ w N S:=fun b hb q=>.inl (h b hb q)
theorem a9_.none (w:World) (N:Nat→Prop):a9_ w N fun _=>False:=fun _ _ q=>q.elim
structure RdN (w:World) (N:Nat→Prop) (e:TypeId) (z:Nat) (s:Sl) (vs:List Value):Prop where
 own:CF.Own w 0 e z s vs
 small:s.n≤140737488355328
 out:∀b,s.blk=some b→¬N b
theorem RdN.rd {w:World} {N:Nat→Prop} {e:TypeId} {z:Nat} {s:Sl} {vs:List Value} (h:RdN w N e z s vs):Rd w z s vs:=h.own.rd (by have:=h.small;omega)
theorem RdN.nil (w:World) (N:Nat→Prop) (e:TypeId) (z:Nat):RdN w N e z au_ []:=⟨aG_ _ _ _ _,d_,fun b h=>by simp[Sl.blk] at h⟩
theorem RdN.step {S N N':Nat→Prop} {w u:World} {e:TypeId} {z:Nat} {s:Sl} {vs:List Value} (h:RdN w N e z s vs) (he:mt_ e) (k:ac_ S w u) (hS:a9_ w N S) (hN:∀b,N' b→N b∨w.heap.size≤b):RdN u N' e z s vs:=by
 have hlt:∀b,s.blk=some b→b<w.heap.size:=fun b hb=>by obtain⟨cur,hc⟩:=aS_ h.own hb;exact aw_ hc
 refine⟨h.own.keep k fun b hb q=>?_,h.small,fun b hb q=>?_⟩
 ·rcases hS b (hlt b hb) q with r|⟨cs,t,hb2,ht⟩
  ·exact h.out b hb r
  ·obtain⟨cur,hc⟩:=aS_ h.own hb
   exact ht (by rw[bj_ hb2 hc];exact he)
 ·rcases hN _ q with r|r
  ·exact h.out b hb r
  ·have:=hlt b hb;omega
theorem RdN.grow {N:Nat→Prop} {w u:World} {e:TypeId} {z:Nat} {s:Sl} {vs:List Value} (h:RdN w N e z s vs) (k:ab_ w u):RdN u N e z s vs:=⟨h.own.grow k,h.small,h.out⟩
theorem CF.Own.rdN {w v:World} {N:Nat→Prop} {e:TypeId} {z:Nat} {s:Sl} {vs:List Value} (h:CF.Own v w.heap.size e z s vs) (hn:s.n≤140737488355328) (hN:∀b,N b→b<w.heap.size):RdN v N e z s vs:=
 ⟨h.mono (Nat.zero_le _),hn,fun b hb q=>by
  have:=h.ge b hb
  have:=hN _ q;omega⟩
structure IsQ (w:World) (N:Nat→Prop) (qb:Nat) (q:Nat→List Nat):Prop where
 rep:∃ss:List Sl,ss.length=8∧Blk w qb (ss.map slv).toArray hT_∧∀i (h:i<ss.length),RdN w N c1_ 1 ss[i] (dZ_ (q i))
 few:∀i,i<8→(q i).length≤8∧∀c∈q i,c<65536
section
variable {w u:World} {N N' S:Nat→Prop} {qb i:Nat} {q:Nat→List Nat}
theorem IsQ.step (h:IsQ w N qb q) (k:ac_ S w u) (hS:a9_ w N S) (hq:¬S qb) (hN:∀b,N' b→N b∨w.heap.size≤b):IsQ u N' qb q:=by
 obtain⟨⟨ss,h1,h2,h3⟩,h4⟩:=h
 exact⟨⟨ss,h1,k.heap h2 hq,fun i hi=>(h3 i hi).step (.inl rfl) k hS hN⟩,h4⟩
theorem IsQ.grow (h:IsQ w N qb q) (k:ab_ w u):IsQ u N qb q:=h.step k (a9_.none _ _) (fun q=>q) fun _ q=>.inl q
theorem Bv_ {n:Nat}:bu_ .u16 (n:Int) 8=((n/256:Nat):Int):=shr .u16 n 8 d_
theorem rY_ {n:Nat} {R:Int→W_} (h:R (l0_ n:Int) w):kx_ (n:Int) w R:=by
 refine iO_.calls _ _ _ ?_
 unfold iO_
 rw[Bv_]
 unfold l0_ at h
 refine ay_ (fun e=>?_) (fun e=>ay_ (fun e1=>?_) (fun e1=>?_))
 ·rw[if_pos o_] at h;exact h
 ·rw[if_neg o_,if_pos o_] at h;exact h
 ·rw[if_neg o_,if_neg o_] at h
  by_cases q:n/256=42∧n≠10753
  ·rw[if_pos q] at h
   refine al_ ?_ h
   simp only[Bool.and_eq_true,beq_iff_eq,bne_iff_ne,ne_eq]
   omega
  ·rw[if_neg q] at h
   refine ai_ ?_ h
   rw[Bool.eq_false_iff]
   simp only[ne_eq,Bool.and_eq_true,beq_iff_eq,bne_iff_ne]
   omega
theorem tD_ {R:Bool→W_} (hi:i<8) (h:R true w):gm_ (some ⟨qb,0,none⟩) (i:Int) w R:=by
 refine ep_.calls _ _ _ _ ?_
 unfold ep_
 have e:(((!(some (⟨qb,0,none⟩:Addr)).isNone)&&(decide ((i:Int)≥0)))&&(decide ((i:Int)<8)))=true:=by simp;omega
 rw[e];exact h
theorem oz_ (ss:List Sl) (hb:Blk w qb (ss.map slv).toArray hT_) (hi:i<ss.length):w.cell? (((gA (some (⟨qb,0,none⟩:Addr))).add 0).add ((i:Int).toNat*1))=some (.slice ss[i].A ss[i].n ss[i].c):=by
 rw[gA,ao_,ao_,hb.cell,Int.toNat_natCast]
 simp[hi,slv]
theorem qC_ {R:Int→W_} (h:IsQ w N qb q) (hi:i<8) (hR:∀w',ab_ w w'→R (match dn_ (q i) (q i).length with|none=>-1|some b=>(b:Int)) w'):ec_ (some ⟨qb,0,none⟩) (i:Int) w R:=by
 refine eo_.calls _ _ _ _ (tD_ hi (ai_ rfl ?_))
 obtain⟨⟨ss,h1,h2,h3⟩,h4⟩:=h
 have hi':i<ss.length:=o_
 have hr:=h3 i hi'
 have hlen:(q i).length=ss[i].n:=by have:=hr.rd.len;rw[d0_] at this;omega
 have hsm:=(h4 i hi).1
 refine⟨rfl,⟨o_,o_⟩,ss[i],oz_ ss h2 hi',?_⟩
 refine⟨fun b x v=>∃j:Nat,x=j∧j≤(q i).length∧ab_ w v∧b=(match dn_ (q i) j with|none=>-1|some b=>(b:Int)),fun _ x _=>ss[i].n-x.toNat,⟨0,rfl,Nat.zero_le _,ac_.refl _ _,rfl⟩,?_⟩
 rintro b x v ⟨j,rfl,hj,hg,rfl⟩
 refine ba_ (fun hlt=>?_) (fun hge=>?_)
 ·have hjl:j<(q i).length:=o_
  have hrv:=hr.rd.grow hg
  obtain⟨ha,hc⟩:=ka_ hrv (i:=j) (by rw[d0_];exact hjl)
  have hev:∀{t:Nat} (ht:t<(q i).length),(dZ_ (q i))[t]'(by rw[d0_];exact ht)=.int .u16 (((q i).getD t 0:Nat):Int):=fun ht=>by
   unfold dZ_;rw[List.getElem_map,List.getD_eq_getElem?_getD,List.getElem?_eq_getElem ht];rfl
  rw[hev hjl] at hc
  have step:∀{b1:Int} {v':World},ab_ v v'→b1=(match dn_ (q i) (j+1) with|none=>-1|some b=>(b:Int))→
    (fun(b:Int) (x:Int) (v:World)=>∃j:Nat,x=j∧j≤(q i).length∧ab_ w v∧b=(match dn_ (q i) j with|none=>-1|some b=>(b:Int))) b1 (IntKind.wrap .i64 ((j:Int)+1)) v'∧ss[i].n-(IntKind.wrap .i64 ((j:Int)+1)).toNat<ss[i].n-(j:Int).toNat:=fun g e=>by
   rw[w64 o_ o_]
   exact⟨⟨j+1,o_,o_,hg.trans g,e⟩,o_⟩
  refine aX_ (fun b1 v'=>ab_ v v'∧b1=(match dn_ (q i) (j+1) with|none=>-1|some b=>(b:Int))) (fun b1 v' hb=>step hb.1 hb.2) (fun J=>?_)
  refine⟨⟨o_,o_,ha⟩,_,by rw[Int.toNat_natCast];exact hc,?_⟩
  rintro v1 rfl
  have hgd:=am_ v
  have hg1:=hg.trans hgd
  have hb2:Blk v.drew qb (ss.map slv).toArray hT_:=hg1.heap h2 (fun q=>q)
  have hrd:=hr.rd.grow hg1
  generalize v.drew=v1 at *
  cases hb:dn_ (q i) j with
  | none=>
   dsimp only
   have e:dn_ (q i) (j+1)=some j:=by unfold dn_;rw[hb]
   have nb:∀{P:Prop},(!(decide ((-1:Int)<0)))=true→P:=fun q=>by simp at q
   refine⟨fun o=>o=v1,rfl,nb,nb,au_,nb,nb,0,nb,?_⟩
   refine cI_ (fun _ o=>o=v1) ?_ (fun J2=>⟨nb,fun _=>J2 _ _ rfl⟩)
   rintro _ o rfl
   refine⟨rfl,?_⟩
   refine cI_ (fun _ o'=>o'=o) ?_ (fun J2=>⟨nb,fun _=>J2 _ _ rfl⟩)
   rintro _ o' rfl
   exact al_ rfl (J _ _ ⟨hgd,by rw[e]⟩)
  | some b=>
   dsimp only
   have hbj:=nK_ _ _ _ hb
   obtain⟨_,hcb⟩:=ka_ hrd (i:=b) (by rw[d0_];omega)
   rw[hev o_] at hcb
   have nb:(!(decide (((b:Nat):Int)<0)))=true:=by rw[Bool.not_eq_true',decide_eq_false_iff_not];omega
   have nb':∀{P:Prop},(!(decide (((b:Nat):Int)<0)))=false→P:=fun q=>by rw[nb] at q;cases q
   refine⟨fun o=>o=v1,rfl,fun _=>rfl,fun _=>⟨o_,o_⟩,ss[i],fun _ o e=>by rw[e];exact oz_ ss hb2 hi',fun _=>⟨o_,o_,ha⟩,_,fun _ o e=>by rw[e,Int.toNat_natCast];exact hcb,?_⟩
   refine cI_ (fun n o=>o=v1∧n=(l0_ ((q i).getD j 0):Int)) ?_ (fun J2=>⟨fun _=>rY_ (J2 _ _ ⟨rfl,rfl⟩),nb'⟩)
   rintro n2 o ⟨rfl,rfl⟩
   refine⟨rfl,?_⟩
   refine cI_ (fun n o'=>o'=o∧n=(l0_ ((q i).getD b 0):Int)) ?_ (fun J2=>⟨fun _=>rY_ (J2 _ _ ⟨rfl,rfl⟩),nb'⟩)
   rintro n3 o' ⟨rfl,rfl⟩
   by_cases hlt2:l0_ ((q i).getD j 0)<l0_ ((q i).getD b 0)
   ·refine al_ (by rw[Bool.or_eq_true];right;rw[decide_eq_true_eq];omega) (J _ _ ⟨hgd,?_⟩)
    have e:dn_ (q i) (j+1)=some j:=by unfold dn_;rw[hb];exact if_pos hlt2
    rw[e]
   ·refine ai_ (by rw[Bool.or_eq_false_iff];exact⟨by rw[decide_eq_false_iff_not];omega,by rw[decide_eq_false_iff_not];omega⟩) (J _ _ ⟨hgd,?_⟩)
    have e:dn_ (q i) (j+1)=some b:=by unfold dn_;rw[hb];exact if_neg hlt2
    rw[e]
 ·have:j=(q i).length:=o_
  subst this
  exact hR v hg
theorem yE_ {l:List Nat} {s:Sl} (h:Rd w 1 s (dZ_ l)) {b:Nat} (hb:b<l.length):s.A.isSome=true∧w.cell? ((gA s.A).add (b*1))=some (.int .u16 ((l.getD b 0:Nat):Int)):=by
 obtain⟨h1,h2⟩:=ka_ h (i:=b) (by rw[d0_];exact hb)
 refine⟨h1,h2.trans ?_⟩
 unfold dZ_;rw[List.getElem_map,List.getD_eq_getElem?_getD,List.getElem?_eq_getElem hb];rfl
theorem rZ_ {R:Int→Bool→W_} (h:IsQ w N qb q) (hi:i<8) (hR:∀w',ab_ w w'→match i6_ (q i) with|none=>R 0 false w'|some c=>R (c:Int) true w'):hv_ (some ⟨qb,0,none⟩) (i:Int) w R:=by
 refine e4_.calls _ _ _ _ (qC_ h hi fun w' g=>?_)
 have hR:=hR w' g
 unfold i6_ at hR
 have h:=h.grow g
 cases hb:dn_ (q i) (q i).length with
 | none=>rw[hb] at hR;exact al_ rfl hR
 | some b=>
  rw[hb] at hR
  have hbl:=nK_ _ _ _ hb
  refine ai_ (by simp) ?_
  dsimp only
  obtain⟨⟨ss,h1,h2,h3⟩,h4⟩:=h
  have hi':i<ss.length:=o_
  have hr:=h3 i hi'
  have hlen:(q i).length=ss[i].n:=by have:=hr.rd.len;rw[d0_] at this;omega
  obtain⟨ha,hc⟩:=yE_ hr.rd hbl
  exact⟨rfl,⟨o_,o_⟩,ss[i],oz_ ss h2 hi',⟨o_,o_,ha⟩,_,by rw[Int.toNat_natCast];exact hc,hR⟩
theorem IsQ.put (h:IsQ w N qb q) (hi:i<8) (hN:N qb) {s:Sl} {l:List Nat} (hs:RdN w N c1_ 1 s (dZ_ l)) (hl:l.length≤8∧∀c∈l,c<65536) {K:W_}
  (hK:∀w',ac_ (fun k=>k=qb) w w'→w'.heap.size=w.heap.size→IsQ w' N qb (fun j=>if j=i then l else q j)→K w'):Put (((gA (some (⟨qb,0,none⟩:Addr))).add 0).add ((i:Int).toNat*1)) (.slice s.A s.n s.c) w K:=by
 obtain⟨⟨ss,h1,h2,h3⟩,h4⟩:=h
 rw[gA,ao_,ao_,Int.toNat_natCast]
 refine aU_ h2 (by simp;omega) rfl fun w1 hb1 hk1 hs1=>hK w1 hk1 hs1 ⟨⟨ss.set i s,by rw[List.length_set];exact h1,?_,fun j hj=>?_⟩,fun j hj=>?_⟩
 ·rw[List.map_set]
  have:(ss.map slv).toArray.setIfInBounds (0+0+i*1) (.slice s.A s.n s.c)=((ss.map slv).set i (slv s)).toArray:=by rw[List.setIfInBounds_toArray];simp[slv]
  rw[←this];exact hb1
 ·have st:∀{s:Sl} {vs:List Value},RdN w N c1_ 1 s vs→RdN w1 N c1_ 1 s vs:=fun r=>r.step (.inl rfl) hk1 (a9_.sub fun b _ q=>by rw[q];exact hN) fun _ q=>.inl q
  by_cases e:j=i
  ·subst e
   rw[List.getElem_set_self,if_pos rfl]
   exact st hs
  ·rw[List.getElem_set_ne (fun q=>e q.symm),if_neg e]
   exact st (h3 j _)
 ·by_cases e:j=i
  ·subst e;rw[if_pos rfl];exact hl
  ·rw[if_neg e];exact h4 j hj
theorem va_ (w:World) (n:Int):(Instr.buildSlice uh_ 1 #[(0,.int .u16 n)]).run Tryz.prog w=.ok (.slice (some ⟨w.heap.size,0,none⟩) 1 1) (w.alloc (.cells #[.int .u16 n] c1_)):=k_
theorem nM_ {c:Nat} {R:W_} (h:IsQ w N qb q) (hi:i<8) (hc:c<65536) (hN:N qb) (hNl:∀b,N b→b<w.heap.size)
  (hR:∀w',ac_ (fun k=>k=qb) w w'→IsQ w' N qb (fun j=>if j=i then bG_ (q i) c else q j)→R w'):dU_ (some ⟨qb,0,none⟩) (i:Int) (c:Int) w R:=by
 refine fP_.calls _ _ _ _ _ (tD_ hi (ai_ rfl ?_))
 have hq:=h
 have hok:=zX_ (l:=q i) (c:=c) (h.few i hi).1 hc (h.few i hi).2
 obtain⟨⟨ss,h1,h2,h3⟩,h4⟩:=h
 have hi':i<ss.length:=o_
 have hr:=h3 i hi'
 have hlen:(q i).length=ss[i].n:=by have:=hr.rd.len;rw[d0_] at this;omega
 have hsm:=(h4 i hi).1
 refine⟨rfl,⟨o_,o_⟩,ss[i],oz_ ss h2 hi',?_⟩
 have same:bG_ (q i) c=q i→R w:=fun e=>hR w (ac_.refl _ _) (by
  have:(fun j=>if j=i then bG_ (q i) c else q j)=q:=by
   funext j
   by_cases e':j=i
   ·subst e';rw[if_pos rfl,e]
   ·rw[if_neg e']
  rw[this];exact hq)
 refine aX_ (fun(l:Sl) v=>v=w∧RdN w N c1_ 1 l (dZ_ (kS_ (q i) c))) ?_ (fun J=>?_)
 ·rintro l v ⟨rfl,hl⟩
  generalize hB:kS_ (q i) c=B at *
  have hBn:B.length=l.n:=by have:=hl.rd.len;rw[d0_] at this;omega
  have hB8:B.length≤8:=by rw[←hB];unfold kS_;split;exact Nat.zero_le _;exact hsm
  have hA:bG_ (q i) c=if c∈B then q i else if B.length<8 then B++[c] else q i:=by unfold bG_;rw[hB]
  refine⟨fun x u=>∃j:Nat,x=j∧j≤B.length∧u=v∧∀t,t<j→B.getD t 0≠c,fun x _=>l.n-x.toNat,⟨0,rfl,Nat.zero_le _,rfl,fun t ht=>o_⟩,?_⟩
  rintro x u ⟨j,rfl,hj,rfl,hno⟩
  refine ba_ (fun hlt=>?_) (fun hge=>?_)
  ·have hjl:j<B.length:=o_
   obtain⟨ha,hcl⟩:=yE_ hl.rd hjl
   refine⟨⟨o_,o_,ha⟩,_,by rw[Int.toNat_natCast];exact hcl,?_⟩
   refine ay_ (fun e=>?_) (fun e=>?_)
   ·refine same ?_
    rw[hA,if_pos]
    have:B.getD j 0=c:=o_
    rw[←this,List.getD_eq_getElem?_getD,List.getElem?_eq_getElem hjl]
    exact List.getElem_mem hjl
   ·rw[w64 o_ o_]
    refine⟨⟨j+1,o_,o_,rfl,fun t ht=>?_⟩,by dsimp only;omega⟩
    by_cases q:t=j
    ·subst q;omega
    ·exact hno t o_
  ·have hnm:¬c∈B:=fun hm=>by
    obtain⟨t,ht,e⟩:=List.getElem_of_mem hm
    refine hno t o_ ?_
    rw[List.getD_eq_getElem?_getD,List.getElem?_eq_getElem ht];exact e
   rw[if_neg hnm] at hA
   have d8:(decide ((l.n:Int)<8))=decide (B.length<8):=by rw[hBn,decide_eq_decide];omega
   rw[d8]
   refine a8_ (fun h8=>?_) (fun h8=>same (by rw[hA,if_neg h8]))
   rw[if_pos h8] at hA
   rintro u1 rfl
   have hgd:=am_ u
   have hNd:∀b,N b→b<u.drew.heap.size:=fun b hb=>by have:=hNl b hb;have:=hgd.size;omega
   have hqd:=hq.grow hgd
   have hld:RdN u.drew N c1_ 1 l (dZ_ B):=hl.grow hgd
   generalize u.drew=u1 at *
   rw[hA] at hR hok
   have fin:∀{u3:World} {x3:Sl},ab_ u1 u3→CF.Own u3 u1.heap.size c1_ 1 x3 (dZ_ (B++[c]))→(0≤(i:Int)∧(i:Int)<(8:Int))∧Put (((gA (some (⟨qb,0,none⟩:Addr))).add 0).add ((i:Int).toNat*1)) (.slice x3.A x3.n x3.c) u3 fun w08=>R w08:=fun {u3 x3} g o=>by
    have hx:x3.n=(B++[c]).length:=by have:=o.len;rw[d0_] at this;omega
    refine⟨⟨o_,o_⟩,(hqd.grow g).put hi hN (o.rdN (by rw[hx];simp;omega) hNd) hok fun w' hk hs hq'=>hR w' (lZ_ (hgd.trans g) hk) hq'⟩
   refine⟨rfl,?_,?_⟩
   ·refine aN_ (base:=u1.heap.size) ga_ jl_ rfl d_ d_ (aG_ _ _ _ _) hld.rd (nL_ _) (by show(0+l.n)*2≤_;omega) (Nat.le_refl _) fun x1 v1 hn1 ho1 hk1 _=>?_
    have g1:ab_ u1 v1:=hk1.mono fun i hi q=>by simp[Sl.blk] at q
    refine aJ_ (cells:=#[.int .u16 (c:Int)]) (e:=c1_) (z:=1) (base:=v1.heap.size) (va_ _ _) rfl d_ (Nat.le_refl _) fun v2 ho2 hg2 _=>?_
    refine aN_ ga_ jl_ rfl d_ d_ (ho1.grow hg2) (ho2.rd (by show 1≤_;decide)) (by simp[Value.oneCell']) (by rw[hn1];show(0+l.n+1)*2≤_;omega) (by have:=g1.size;have:=hg2.size;omega) fun x3 v3 hn3 ho3 hk3 _=>?_
    exact fin (cz_ (g1.trans hg2) (ho1.grow hg2) (Nat.le_refl _) hk3) (by rw[ms_];exact ho3)
   ·refine aJ_ (cells:=#[.int .u16 (c:Int)]) (e:=c1_) (z:=1) (base:=u1.heap.size) (va_ _ _) rfl d_ (Nat.le_refl _) fun v1 ho1 hg1 _=>?_
    have hl1:Rd v1 1 l (dZ_ B):=hld.rd.grow hg1
    refine aN_ (base:=u1.heap.size) ga_ jl_ rfl d_ d_ (aG_ _ _ _ _) hl1 (nL_ _) (by show(0+l.n)*2≤_;omega) hg1.size fun x2 v2 hn2 ho2 hk2 _=>?_
    have g2:ab_ v1 v2:=hk2.mono fun i hi q=>by simp[Sl.blk] at q
    refine aN_ ga_ jl_ rfl d_ d_ ho2 ((ho1.grow g2).rd (by show 1≤_;decide)) (by simp[Value.oneCell']) (by rw[hn2];show(0+l.n+1)*2≤_;omega) (by have:=g2.size;have:=hg1.size;omega) fun x3 v3 hn3 ho3 hk3 _=>?_
    exact fin (cz_ (hg1.trans g2) ho2 (Nat.le_refl _) hk3) (by rw[ms_];exact ho3)
 ·have ec:((c:Int)==10496)=decide (c=10496):=by rw[Bool.eq_iff_iff,beq_iff_eq,decide_eq_true_eq];omega
  rw[ec]
  refine a8_ (fun e=>J _ _ ⟨rfl,by unfold kS_;rw[if_pos e];exact RdN.nil _ _ _ _⟩) (fun e=>J _ _ ⟨rfl,by unfold kS_;rw[if_neg e];exact hr⟩)
end
open Go CF
section
variable {w u:World} {N N' S:Nat→Prop} {qb i:Nat} {q:Nat→List Nat}
theorem yF_ {α:Type} (q:Nat→α) (i:Nat) {v:α} (e:v=q i):(fun j=>if j=i then v else q j)=q:=by
 funext j
 by_cases e':j=i
 ·subst e';rw[if_pos rfl,e]
 ·rw[if_neg e']
theorem r0_ (l:List Nat) (k:Nat):(dZ_ l).take k=dZ_ (l.take k):=List.map_take.symm
theorem xf_ (l:List Nat) (k:Nat):(dZ_ l).drop k=dZ_ (l.drop k):=List.map_drop.symm
theorem oA_ {R:Int→Bool→W_} (h:IsQ w N qb q) (hi:i<8) (hN:N qb) (hNl:∀b,N b→b<w.heap.size)
  (hR:∀w',ac_ (fun k=>k=qb) w w'→IsQ w' N qb (fun j=>if j=i then jQ_ (q i) else q j)→match i6_ (q i) with|none=>R 0 false w'|some c=>R (c:Int) true w'):eT_ (some ⟨qb,0,none⟩) (i:Int) w R:=by
 refine e5_.calls _ _ _ _ (qC_ h hi fun w' g=>?_)
 have hq:=h.grow g
 have hokn:=yD_ (h.few i hi).1 (h.few i hi).2
 unfold i6_ at hR
 cases hb:dn_ (q i) (q i).length with
 | none=>
  rw[hb] at hR
  have e:jQ_ (q i)=q i:=by unfold jQ_;rw[hb]
  refine al_ rfl (hR w' (g.mono fun _ _ q=>q.elim) ?_)
  rw[yF_ q i e];exact hq
 | some b=>
  rw[hb] at hR
  have e:jQ_ (q i)=(q i).take b++(q i).drop (b+1):=by unfold jQ_;rw[hb]
  rw[e] at hR hokn
  have hbl:=nK_ _ _ _ hb
  refine ai_ (by simp) ?_
  dsimp only
  have hsm:=(h.few i hi).1
  obtain⟨⟨ss,h1,h2,h3⟩,h4⟩:=hq
  have hi':i<ss.length:=o_
  have hr:=h3 i hi'
  have hlen:(q i).length=ss[i].n:=by have:=hr.rd.len;rw[d0_] at this;omega
  have hcap:=hr.rd.cap
  obtain⟨ha,hc⟩:=yE_ hr.rd hbl
  refine⟨rfl,⟨o_,o_⟩,ss[i],oz_ ss h2 hi',⟨o_,o_,ha⟩,_,by rw[Int.toNat_natCast];exact hc,?_⟩
  rintro u1 rfl
  have hgd:=am_ w'
  have hNd:∀b,N b→b<w'.drew.heap.size:=fun b hb=>by have:=hNl b hb;have:=hgd.size;have:=g.size;omega
  have hqd:=(h.grow g).grow hgd
  have hld:Rd w'.drew 1 ss[i] (dZ_ (q i)):=hr.rd.grow hgd
  generalize w'.drew=u1 at *
  have ew:IntKind.wrap .i64 ((b:Int)+1)=((b+1:Nat):Int):=by rw[w64 o_ o_];omega
  rw[ew,Int.toNat_natCast,Int.toNat_natCast,Int.toNat_natCast]
  have c1:Rd u1 1 ⟨aI_ ss[i].A ss[i].c 0 1,b-0,ss[i].c-0⟩ (dZ_ ((q i).take b)):=by
   have:=hld.cut (l:=0) (k:=b) (Nat.zero_le _) o_
   simpa [r0_] using this
  have c2:Rd u1 1 ⟨aI_ ss[i].A ss[i].c (b+1) 1,ss[i].n-(b+1),ss[i].c-(b+1)⟩ (dZ_ ((q i).drop (b+1))):=by
   have:=hld.cut (l:=b+1) (k:=ss[i].n) o_ (Nat.le_refl _)
   rw[Nat.mul_one,Nat.mul_one,xf_,r0_] at this
   rwa [List.take_of_length_le (by rw[List.length_drop];omega)] at this
  refine⟨⟨o_,o_,o_,hcap⟩,⟨o_,o_,o_,hcap⟩,rfl,?_⟩
  refine aN_ (base:=u1.heap.size) ga_ jl_ rfl d_ d_ (aG_ _ _ _ _) c1 (nL_ _) (by show(0+(b-0))*2≤_;omega) (Nat.le_refl _) fun x1 v1 hn1 ho1 hk1 _=>?_
  have g1:ab_ u1 v1:=hk1.mono fun i hi q=>by simp[Sl.blk] at q
  refine aN_ ga_ jl_ rfl d_ d_ ho1 (c2.grow g1) (nL_ _) (by rw[hn1];show(0+(b-0)+(ss[i].n-(b+1)))*2≤_;omega) g1.size fun x3 v3 hn3 ho3 hk3 _=>?_
  have g3:=cz_ g1 ho1 (Nat.le_refl _) hk3
  have ho3:CF.Own v3 u1.heap.size c1_ 1 x3 (dZ_ ((q i).take b++(q i).drop (b+1))):=by rw[ms_];exact ho3
  have hx:x3.n≤8:=by have:=ho3.len;rw[d0_] at this;omega
  refine⟨⟨o_,o_⟩,(hqd.grow g3).put hi hN (ho3.rdN o_ hNd) hokn fun w'' hk hs hq'=>hR w'' (lZ_ ((g.trans hgd).trans g3) hk) hq'⟩
theorem uy_ {but:Int} {c:Nat} {R:W_} (h:IsQ w N qb q) (hc:c<65536) (hN:N qb) (hNl:∀b,N b→b<w.heap.size)
  (hR:∀w',ac_ (fun k=>k=qb) w w'→IsQ w' N qb (fun j=>if (j:Int)≠but∧j<8 then bG_ (q j) c else q j)→R w'):cX_ (some ⟨qb,0,none⟩) but (c:Int) w R:=by
 refine d1_.calls _ _ _ _ _ ?_
 refine⟨fun x v=>∃j:Nat,x=j∧j≤8∧ac_ (fun k=>k=qb) w v∧IsQ v N qb (fun t:Nat=>if (t:Int)≠but∧t<j then bG_ (q t) c else q t),fun x _=>8-x.toNat,⟨0,rfl,d_,ac_.refl _ _,?_⟩,?_⟩
 ·have:(fun t:Nat=>if (t:Int)≠but∧t<0 then bG_ (q t) c else q t)=q:=by funext t;rw[if_neg o_]
  rw[this];exact h
 rintro x v ⟨j,rfl,hj,hk,hq⟩
 refine ba_ (y:=8) (fun hlt=>?_) (fun hge=>?_)
 ·refine bR_ (fun v'=>ac_ (fun k=>k=qb) w v'∧IsQ v' N qb (fun t=>if (t:Int)≠but∧t<j+1 then bG_ (q t) c else q t)) (fun v' hv=>?_) (fun J=>?_)
  ·rw[w64 o_ o_]
   exact⟨⟨j+1,o_,o_,hv.1,hv.2⟩,by dsimp only;omega⟩
  ·refine eR_ (fun hne=>?_) (fun he=>?_)
   ·refine nM_ hq hlt hc hN (fun b hb=>by have:=hNl b hb;have:=hk.size;omega) fun v' hk' hq'=>J _ ⟨hk.trans hk' fun _ _ q=>q,?_⟩
    have:(fun t:Nat=>if t=j then bG_ (if (j:Int)≠but∧j<j then bG_ (q j) c else q j) c else if (t:Int)≠but∧t<j then bG_ (q t) c else q t)=(fun t:Nat=>if (t:Int)≠but∧t<j+1 then bG_ (q t) c else q t):=by
     funext t
     by_cases e:t=j
     ·subst e;rw[if_pos rfl,if_neg o_,if_pos ⟨hne,o_⟩]
     ·rw[if_neg e]
      by_cases e2:(t:Int)≠but∧t<j
      ·rw[if_pos e2,if_pos ⟨e2.1,o_⟩]
      ·rw[if_neg e2,if_neg o_]
    rw[←this];exact hq'
   ·refine J _ ⟨hk,?_⟩
    have:(fun t:Nat=>if (t:Int)≠but∧t<j then bG_ (q t) c else q t)=(fun t:Nat=>if (t:Int)≠but∧t<j+1 then bG_ (q t) c else q t):=by
     funext t
     by_cases e2:(t:Int)≠but∧t<j
     ·rw[if_pos e2,if_pos ⟨e2.1,o_⟩]
     ·rw[if_neg e2,if_neg o_]
    rw[←this];exact hq
 ·have:j=8:=o_
  subst this
  exact hR v hk hq
end
end Go.Proofs.YtpmebahhjgkflaaGreatDoor
