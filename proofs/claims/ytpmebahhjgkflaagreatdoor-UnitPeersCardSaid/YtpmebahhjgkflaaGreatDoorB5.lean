import Derived.Lib.ConvBytes
import Derived.Test.YtpmebahhjgkflaaGreatDoorB4
set_option maxHeartbeats 20000000
namespace Go.Proofs.YtpmebahhjgkflaaGreatDoor
open Go CF
set_option maxRecDepth 100000
def cN_:Bk:=⟨[0,0,0,0,0,0,0,0,0,0,0,0,0,0,0,0],0,0,0,rfl,d_,d_,d_⟩
theorem oF_ {w:World} {base:Nat} {e:TypeId} {s:Sl} {l:L8} (h:Own w base e 1 s (bv l)):s.n=l.length:=by have:=h.len;rw[az_] at this;omega
theorem dj_ {w:World} {s:Sl} {l:L8} (h:Rd w 1 s (bv l)):l.length=s.n:=by have:=h.len;rw[az_] at this;omega
theorem dn_ {w u u':World} {base:Nat} {e:TypeId} {z:Nat} {s:Sl} {vs:List Value} (hg:ac_ w u) (ho:Own u base e z s vs) (hb:w.heap.size≤base) (hk:ab_ (fun k=>some k=s.blk) u u'):ac_ w u':=
 hg.keep hk fun i hi q=>by have:=(ho.ge i q.symm).1;omega
theorem sz_ {w:World} {pb:Nat} {p:Sl} {l:L8} (hb:Blk w pb (bc cN_).toArray av_) (hp:Rd w 1 p (bv l)) (h16:16≤l.length) {K:Int→W_}
  (h:∀w',Blk w' pb (bv (l.take 16)++tc 0 0 0).toArray av_→ab_ (fun k=>k=pb) w w'→w'.heap.size=w.heap.size→K 16 w') :
  ai_ Tryz.prog (.i .i64) (Builtin.copy_ #[aE_,aE_] qH_ #[.slice (some ⟨pb,0,none⟩) 16 16,.slice p.A p.n p.c]) w K:=by
 have hln:=dj_ hp
 have hdl:(l.take 16).length=16:=by rw[List.length_take];omega
 have hne:bv l≠[]:=fun e=>by have:=congrArg List.length e;rw[az_,List.length_nil] at this;omega
 obtain⟨a2,ha2,hc2⟩:=hp.at_ hne
 have hsrc:∀j v,(bv (l.take 16))[j]?=some v→w.cell? (a2.add j)=some v:=fun j v hj=>hc2 j v (by
  rw[←jg_,List.getElem?_take] at hj
  split at hj
  ·exact hj
  ·cases hj)
 have hcp:=run_copy_row (P:=Tryz.prog) w aE_ aE_ qH_ ae_ pb 0 16 16 a2 p.n p.c _ av_ (bv (l.take 16)) aN_ k_ hb (by rw[az_,hdl];exact(Nat.min_eq_right o_).symm) hsrc (by rw[az_,hdl];decide) (cr_ _)
 have hset:=setRow_heap w pb _ ((bc cN_).toArray.toList.take 0++bv (l.take 16)++(bc cN_).toArray.toList.drop (0+16)).toArray av_ (0,0) hb
 have hoth:=fun k (hn:¬k=pb)=>setRow_other w pb k ((bc cN_).toArray.toList.take 0++bv (l.take 16)++(bc cN_).toArray.toList.drop (0+16)).toArray hn
 have hos:∀x,(w.setRow pb x).os=w.os∧(w.setRow pb x).tape=w.tape∧(w.setRow pb x).output=w.output∧(w.setRow pb x).heap.size=w.heap.size:=fun x=>⟨rfl,rfl,rfl,by simp⟩
 have hos:=hos ((bc cN_).toArray.toList.take 0++bv (l.take 16)++(bc cN_).toArray.toList.drop (0+16)).toArray
 rw[ha2]
 refine⟨16,_,hcp.trans (by rw[az_,hdl];rfl),?_⟩
 generalize w.setRow pb ((bc cN_).toArray.toList.take 0++bv (l.take 16)++(bc cN_).toArray.toList.drop (0+16)).toArray=w5 at *
 refine h w5 ?_ ⟨hos.1,hos.2.1,hos.2.2.1,o_,fun k _ hn=>hoth k hn⟩ hos.2.2.2
 exact hset
theorem tU_ (b:Bk):bv (ii_ false b)=bv b.d:=by simp[ii_]
theorem tV_ (wt:Bool) {bs:List Bk} {j:Nat} (h:j<bs.length):cT_ wt (bs.take (j+1))=cT_ wt (bs.take j)++ii_ wt bs[j]:=by
 unfold cT_
 rw[List.take_succ_eq_append_getElem h,List.flatMap_append]
 simp
theorem vg_ {ls:Sl} {wt:Bool} {bs:List Bk} {w:World} {R:Sl→W_} (hl:Rd w 19 ls (bs.flatMap bc)) (hn:bs.length≤4096)
  (h:∀s w',Own w' w.heap.size ae_ 1 s (bv (cT_ wt bs))→ac_ w w'→R s w'):nV_ ls wt w R:=by
 refine lE_.calls _ _ _ _ ?_
 have hbn:=qK_ hl
 refine⟨fun p x u=>∃j:Nat,x=j∧j≤bs.length∧ac_ w u∧Own u w.heap.size ae_ 1 p (bv (cT_ wt (bs.take j))),fun _ x _=>bs.length-x.toNat,⟨0,rfl,Nat.zero_le _,ab_.refl _ _,aK_ _ _ _ _⟩,?_⟩
 rintro p x u ⟨j,rfl,hj,hgu,hown⟩
 refine bh_ (fun hlt=>?_) (fun hge=>?_)
 ·have hjb:j<bs.length:=o_
  have hpn:=oF_ hown
  rw[p2_,List.length_take,Nat.min_eq_left hj] at hpn
  have hsz:szB wt≤24:=by unfold szB;split<;>decide
  have hjs:j*szB wt≤4096*24:=Nat.mul_le_mul o_ hsz
  refine bw_ (fun q v=>ac_ w v∧Own v w.heap.size ae_ 1 q (bv (cT_ wt (bs.take (j+1))))) (fun q v ⟨h1,h2⟩=>by
   rw[w64 o_ o_]
   exact⟨⟨j+1,o_,o_,h1,h2⟩,by dsimp only;omega⟩) (fun J=>?_)
  obtain⟨a0,ha0,hc0⟩:=jA_ (hl.grow hgu) hjb
  refine⟨⟨o_,o_,by rw[ha0];rfl⟩,(bc bs[j]).toArray,by rw[ha0,Int.toNat_natCast];exact oE_ hc0,?_⟩
  rw[tV_ wt hjb] at J
  generalize bs[j]=b at *
  refine ah_ fun pb w1 hpb hb1 hg1 hsz1=>?_
  refine ar_ (cells:=(bc b).toArray) hb1 bA_ (by simp[ck_]) (by simp[ck_]) (k9_ _) fun w2 hb2 hk2 hsz2=>⟨d_,?_⟩
  have hg2:ac_ u w2:=hg1.keep hk2 fun i hi q=>o_
  have hgw2:=hgu.trans hg2
  refine aS_ (x:=⟨some ⟨pb,0,none⟩,16,16⟩) aN_ bG_ rfl d_ d_ (hown.grow hg2) (dRd hb2) (cr_ _) (by show(p.n+16)*1≤_;omega) hgw2.size fun q w3 hn3 hown3 hk3 hat3=>?_
  rw[←bN_] at hown3
  have hgw3:=dn_ hgw2 (hown.grow hg2) (Nat.le_refl _) hk3
  have hpq:pb≠q.n∨True:=.inr trivial
  have hb3:Blk w3 pb (bc b).toArray av_:=hk3.heap hb2 fun e=>by have:=(hown.ge pb e.symm).2;omega
  cases wt with
  | false=>
   refine al_ rfl (J q w3 ⟨hgw3,?_⟩)
   rw[bN_,tU_,←bN_]
   exact hown3
  | true=>
   refine ao_ rfl ⟨_,qM_ (oD_ (ax_ hb3)),?_⟩
   refine ah_ fun tb w4 htb hb4 hg4 hsz4=>?_
   refine ar_ (cells:=(tc b.g b.a b.r).toArray) hb4 ec_ rfl rfl (by simp[tc,Value.oneCell']) fun w5 hb5 hk5 hsz5=>?_
   have hg35:ac_ w3 w5:=hg4.keep hk5 fun i hi q=>o_
   have cg:w5.cell? ((⟨tb,0,none⟩:Addr).add 0)=some (.int .u16 (b.g:Int)):=by rw[am_,hb5.cell];rfl
   have ca:w5.cell? ((⟨tb,0,none⟩:Addr).add 1)=some (.int .u16 (b.a:Int)):=by rw[am_,hb5.cell];rfl
   have cr:w5.cell? ((⟨tb,0,none⟩:Addr).add 2)=some (.int .u32 (b.r:Int)):=by rw[am_,hb5.cell];rfl
   refine⟨_,cg,_,cg,_,ca,_,ca,_,cr,_,cr,_,cr,_,cr,?_⟩
   rw[shr .u16 b.g 8 d_,shr .u16 b.a 8 d_,shr .u32 b.r 24 d_,shr .u32 b.r 16 d_,shr .u32 b.r 8 d_,be_,be_,be_,be_,be_,be_,be_,be_]
   refine aH_ (cells:=(bv (tS_ b)).toArray) (e:=ae_) (z:=1) (base:=w.heap.size) k_ rfl d_ (hgw3.trans hg35).size fun w6 hlit6 hg6 _=>?_
   have hn3:q.n=p.n+16:=hn3
   refine aS_ aN_ bG_ rfl d_ d_ ((hown3.grow hg35).grow hg6) (hlit6.rd (by show 8≤_;decide)) (cr_ _) (by rw[hn3];show(p.n+16+8)*1≤_;omega) ((hgw3.trans hg35).trans hg6).size fun q2 w7 hn7 hown7 hk7 _=>?_
   refine J q2 w7 ⟨dn_ ((hgw3.trans hg35).trans hg6) ((hown3.grow hg35).grow hg6) (Nat.le_refl _) hk7,?_⟩
   have e:bv (cT_ true (bs.take j)++ii_ true b)=bv (cT_ true (bs.take j)++b.d)++bv (tS_ b):=by
    rw[←bN_];simp[ii_]
   rw[e]
   exact hown7
 ·have:j=bs.length:=o_
  subst this
  rw[List.take_length] at hown
  exact h p u hown hgu
theorem yT_ {a b:Nat} (ha:a<256) (hb:b<256):bOr .u16 (cu_ .u16 (IntKind.wrap .u16 (a:Int)) 8) (IntKind.wrap .u16 (b:Int))=((a*256+b:Nat):Int):=by
 rw[ml_ (n:=(a:Int)) o_ o_,ml_ (n:=(b:Int)) o_ o_,s5_ ha]
 unfold bOr
 show IntKind.wrap .u16 (((BitVec.ofInt 16 ((a*256:Nat):Int) ||| BitVec.ofInt 16 (b:Int)).toNat:Nat):Int)=_
 rw[BitVec.ofInt_natCast,BitVec.ofInt_natCast,BitVec.toNat_or,BitVec.toNat_ofNat,BitVec.toNat_ofNat,Nat.mod_eq_of_lt o_,Nat.mod_eq_of_lt o_]
 have e:a*256 ||| b=a*256+b:=by
  have:=Nat.shiftLeft_add_eq_or_of_lt (i:=8) (b:=b) o_ a
  rw[Nat.shiftLeft_eq] at this
  exact this.symm
 rw[e]
 exact ml_ o_ o_
theorem wv_ {x y m:Nat} (hm:∃k,m=2 ^ k) (hx:∃a,x=a*m) (hy:y<m) (hs:x+y<4294967296):bOr .u32 (x:Int) (y:Int)=((x+y:Nat):Int):=by
 obtain⟨k,rfl⟩:=hm
 obtain⟨a,rfl⟩:=hx
 unfold bOr
 show IntKind.wrap .u32 (((BitVec.ofInt 32 ((a*2 ^ k:Nat):Int) ||| BitVec.ofInt 32 (y:Int)).toNat:Nat):Int)=_
 rw[BitVec.ofInt_natCast,BitVec.ofInt_natCast,BitVec.toNat_or,BitVec.toNat_ofNat,BitVec.toNat_ofNat,Nat.mod_eq_of_lt o_,Nat.mod_eq_of_lt o_]
 have e:a*2 ^ k ||| y=a*2 ^ k+y:=by
  have:=Nat.shiftLeft_add_eq_or_of_lt (i:=k) (b:=y) hy a
  rw[Nat.shiftLeft_eq] at this
  exact this.symm
 rw[e]
 exact jl_ o_ o_
theorem tW_ {a k m:Nat} (hm:m=2 ^ k) (hk:k≤32) (h:a*m<4294967296):cu_ .u32 (a:Int) k=((a*m:Nat):Int):=by
 subst hm
 unfold cu_
 have e:(min k (IntKind.bits .u32))=k:=Nat.min_eq_left hk
 have e2:(a:Int)*2 ^ k=((a*2 ^ k:Nat):Int):=by norm_cast
 rw[e,e2]
 exact jl_ o_ o_
theorem zO_ {a b c d:Nat} (ha:a<256) (hb:b<256) (hc:c<256) (hd:d<256) :
  bOr .u32 (bOr .u32 (bOr .u32 (cu_ .u32 (IntKind.wrap .u32 (a:Int)) 24) (cu_ .u32 (IntKind.wrap .u32 (b:Int)) 16)) (cu_ .u32 (IntKind.wrap .u32 (c:Int)) 8)) (IntKind.wrap .u32 (d:Int))=((a*16777216+b*65536+c*256+d:Nat):Int):=by
 rw[jl_ (n:=(a:Int)) o_ o_,jl_ (n:=(b:Int)) o_ o_,jl_ (n:=(c:Int)) o_ o_,jl_ (n:=(d:Int)) o_ o_]
 rw[tW_ (a:=a) (k:=24) (m:=16777216) rfl d_ o_,tW_ (a:=b) (k:=16) (m:=65536) rfl d_ o_,tW_ (a:=c) (k:=8) (m:=256) rfl d_ o_]
 rw[wv_ (m:=16777216) ⟨24,rfl⟩ ⟨a,rfl⟩ o_ o_,wv_ (m:=65536) ⟨16,rfl⟩ ⟨a*256+b,o_⟩ o_ o_,wv_ (m:=256) ⟨8,rfl⟩ ⟨a*65536+b*256+c,o_⟩ o_ o_]
theorem zq_ {a b c d:UInt8}:num [a,b,c,d]=a.toNat*16777216+b.toNat*65536+c.toNat*256+d.toNat:=by simp[num];omega
theorem vh_ (l:L8) (h:16≤l.length):bc (unB false l)=bv (l.take 16)++tc 0 0 0:=by
 have e:dz_ l=l.take 16:=by unfold dz_;rw[List.take_append_of_le_length h]
 show bv (dz_ l)++tc 0 0 0=_
 rw[e]
theorem ww_ (l:L8) (h:16≤l.length):bc (unB true l)=bv (l.take 16)++tc (num ((l.drop 16).take 2)) (num ((l.drop 18).take 2)) (num ((l.drop 20).take 4)):=by
 have e:dz_ l=l.take 16:=by unfold dz_;rw[List.take_append_of_le_length h]
 show bv (dz_ l)++tc (num ((l.drop 16).take 2)) (num ((l.drop 18).take 2)) (num ((l.drop 20).take 4))=_
 rw[e]
theorem wx_ {wt:Bool} {l:L8}:unB wt (l.take (szB wt))=unB wt l:=by
 cases wt with
 | false=>
  unfold unB szB
  have e:dz_ (l.take 16)=dz_ l:=by
   unfold dz_
   rcases Nat.le_total 16 l.length with q|q
   ·rw[List.take_append_of_le_length (by rw[List.length_take];omega),List.take_take,List.take_append_of_le_length q];rfl
   ·rw[List.take_of_length_le q]
  simp only[Bool.false_eq_true,if_false,e]
 | true=>
  unfold unB szB
  have e:dz_ (l.take 24)=dz_ l:=by
   unfold dz_
   rcases Nat.le_total 24 l.length with q|q
   ·rw[List.take_append_of_le_length (by rw[List.length_take];omega),List.take_take,List.take_append_of_le_length o_];rfl
   ·rw[List.take_of_length_le q]
  have f:∀d n,d+n≤24→((l.take 24).drop d).take n=(l.drop d).take n:=fun d n h=>by
   rw[List.drop_take,List.take_take,Nat.min_eq_left o_]
  simp only[if_true,e,f 16 2 d_,f 18 2 d_,f 20 4 d_]
open Go CF
theorem xy_ {X:L8} {d:Nat} (h:d+2≤X.length):(X.drop d).take 2 = [X[d],X[d+1]]:=by
 rw[List.drop_eq_getElem_cons (show d<X.length by omega),List.take_succ_cons,List.drop_eq_getElem_cons (show d+1<X.length by omega),List.take_succ_cons,List.take_zero]
theorem zr_ {X:L8} {d:Nat} (h:d+4≤X.length):(X.drop d).take 4 = [X[d],X[d+1],X[d+2],X[d+3]]:=by
 rw[List.drop_eq_getElem_cons (show d<X.length by omega),List.take_succ_cons,List.drop_eq_getElem_cons (show d+1<X.length by omega),List.take_succ_cons,List.drop_eq_getElem_cons (show d+2<X.length by omega),List.take_succ_cons,
  List.drop_eq_getElem_cons (show d+3<X.length by omega),List.take_succ_cons,List.take_zero]
theorem nA_ {p:Sl} {l:L8} {wt:Bool} {w:World} {R:Sl→Bool→W_} (hp:Rd w 1 p (bv l)) (hb:p.n≤140737488351232)
  (h1:l.length%szB wt≠0→R ap_ false w) (h2:l.length%szB wt=0→∀out u,ac_ w u→Own u w.heap.size av_ 19 out ((cd_ wt l).flatMap bc)→R out true u):hg_ p wt w R:=by
 refine i4_.calls _ _ _ _ ?_
 have hln:=dj_ hp
 have hs16:16≤szB wt∧szB wt≤24:=by unfold szB;split<;>decide
 refine vf_ ⟨o_,?_⟩
 have em:((p.n:Int).tmod ((szB wt:Nat):Int))=((l.length%szB wt:Nat):Int):=by rw[hln];rfl
 rw[em]
 refine gv_ (fun q=>h1 o_) (fun q=>?_)
 have hm:l.length%szB wt=0:=o_
 have hN:l.length=l.length/szB wt*szB wt:=by have:=Nat.div_add_mod l.length (szB wt);rw[hm,Nat.mul_comm] at this;omega
 have h2:=h2 hm
 generalize hNN:l.length/szB wt=N at *
 have hN16:N*16≤l.length:=by rw[hN];exact Nat.mul_le_mul_left _ hs16.1
 have hul:(cd_ wt l).length=N:=by rw[jD_,hNN]
 refine⟨fun p1 out u=>∃j:Nat,j≤N∧ac_ w u∧(∀v,ac_ w v→Rd v 1 p1 (bv (l.drop (j*szB wt))))∧Own u w.heap.size av_ 19 out (((cd_ wt l).take j).flatMap bc),fun p1 _ _=>p1.n,
  ⟨0,Nat.zero_le _,ab_.refl _ _,fun v hv=>by rw[Nat.zero_mul,List.drop_zero];exact hp.grow hv,aK_ _ _ _ _⟩,?_⟩
 rintro p1 out u ⟨j,hj,hgu,hp1,hown⟩
 have hpu:=hp1 u hgu
 have hpn:=dj_ hpu
 rw[List.length_drop] at hpn
 have hjs:j*szB wt≤N*szB wt:=Nat.mul_le_mul_right _ hj
 by_cases hjN:j=N
 ·subst hjN
  refine al_ (by rw[decide_eq_false_iff_not];omega) ?_
  rw[List.take_of_length_le o_] at hown
  exact h2 out u hgu hown
 have hjs1:j*szB wt+szB wt≤N*szB wt:=by rw[←Nat.succ_mul];exact Nat.mul_le_mul_right _ o_
 have hcap:=hpu.cap
 refine ao_ (by rw[decide_eq_true_eq];omega) ?_
 have hXl:(l.drop (j*szB wt)).length=p1.n:=by rw[List.length_drop];exact hpn
 have hun:(cd_ wt l)[j]' o_=unB wt (l.drop (j*szB wt)):=by rw[x1_,wx_]
 have hou:=qK_ (hown.rd (by
  have:=hown.len
  rw[bx_ ck_,List.length_take] at this
  omega))
 rw[List.length_take,hul,Nat.min_eq_left hj] at hou
 refine bw_ (fun out1 v=>ac_ w v∧Own v w.heap.size av_ 19 out1 (((cd_ wt l).take (j+1)).flatMap bc)) ?_ (fun J=>?_)
 ·rintro out1 v ⟨h3,h5⟩
  refine⟨⟨o_,o_,o_,hcap⟩,⟨j+1,o_,h3,fun x hx=>?_,h5⟩,?_⟩
  ·have:=(hp1 x hx).cutB (l:=szB wt) (k:=p1.n) o_ (Nat.le_refl _)
   rw[List.take_of_length_le (by rw[List.length_drop];omega),List.drop_drop] at this
   rw[Nat.succ_mul]
   exact this
  ·show((p1.n:Int)).toNat-((szB wt:Nat):Int).toNat<p1.n
   rw[Int.toNat_natCast,Int.toNat_natCast];omega
 have hflat:((cd_ wt l).take (j+1)).flatMap bc=((cd_ wt l).take j).flatMap bc++bc (unB wt (l.drop (j*szB wt))):=by
  rw[List.take_succ_eq_append_getElem o_,List.flatMap_append,hun];simp
 rw[hflat] at J
 generalize hX:l.drop (j*szB wt)=X at *
 refine ah_ fun pb w1 hpb hb1 hg1 hsz1=>⟨d_,?_⟩
 have hb1:Blk w1 pb (bc cN_).toArray av_:=hb1
 refine sz_ hb1 (hp1 w1 (hgu.trans hg1)) o_ fun w2 hb2 hk2 hsz2=>?_
 have hg2:ac_ u w2:=hg1.keep hk2 fun i hi q=>o_
 refine dy_ (fun v=>ac_ u v∧Blk v pb (bc (unB wt X)).toArray av_) ?_ (fun J1=>?_)
 ·rintro v ⟨hgv,hbv⟩
  refine⟨_,oE_ (ax_ hbv),?_⟩
  refine aH_ (cells:=(bc (unB wt X)).toArray) (e:=av_) (z:=19) (base:=0) (pY_ _ _) (by simp[ck_]) d_ (Nat.zero_le _) fun w3 hlit3 hg3 _=>?_
  refine n3_ k3_ bA_ rfl d_ d_ ((hown.grow hgv).grow hg3) (hlit3.rd (by show 1≤_;decide)) (fun x hx=>pt_ _ x (by simpa using hx)) (by show out.n+1≤_;omega) (by show(out.n+1+(out.n+1)/4+192)*24≤_;omega) ((hgu.trans hgv).trans hg3).size fun s' w4 hn4 hown4 hk4=>?_
  exact J s' w4 ⟨dn_ ((hgu.trans hgv).trans hg3) ((hown.grow hgv).grow hg3) (Nat.le_refl _) hk4,by simpa using hown4⟩
 ·have hgw2:=hgu.trans hg2
  cases wt with
  | false=>
   refine al_ rfl (J1 w2 ⟨hg2,?_⟩)
   rw[vh_ X o_]
   exact hb2
  | true=>
   have h24:24≤X.length:=by have:szB true=24:=rfl;omega
   refine ao_ rfl ⟨⟨d_,o_,o_,hcap⟩,?_⟩
   rintro w3 rfl
   have hg3:ac_ w2 w2.drew:=aq_ w2
   have hcut:∀v,ac_ w v→Rd v 1 ⟨aP_ p1.A p1.c 16 1,p1.n-16,p1.c-16⟩ (bv (X.drop 16)):=fun v hv=>by
    have:=(hp1 v hv).cutB (l:=16) (k:=p1.n) o_ (Nat.le_refl _)
    rwa [List.take_of_length_le (by rw[List.length_drop];omega)] at this
   have rd:∀i (hi:16+i<X.length) v,ac_ w v→v.cell? ((gA (aP_ p1.A p1.c 16 1)).add (i*1))=some (.int .u8 (X[16+i].toNat:Int)):=fun i hi v hv=>by
    obtain⟨a,ha,hc⟩:=(hcut v hv).byte (i:=i) (by show i<p1.n-16;omega)
    have ha:aP_ p1.A p1.c 16 1=some a:=ha
    rw[ha,gA]
    simpa using hc
   have hA:(aP_ p1.A p1.c 16 1).isSome=true:=by
    obtain⟨a,ha,_⟩:=(hcut w2 hgw2).byte (i:=0) (by show 0<p1.n-16;omega)
    have ha:aP_ p1.A p1.c 16 1=some a:=ha
    rw[ha];rfl
   have bd:∀i:Nat,i<8→(0:Int)≤(i:Int)∧(i:Int)<(((((p1.n:Int)).toNat-16):Nat):Int)∧(aP_ p1.A p1.c 16 1).isSome=true:=fun i hi=>⟨o_,by rw[Int.toNat_natCast];omega,hA⟩
   refine⟨fun v=>ac_ w v,hgw2.trans hg3,bd 0 d_,_,rd 0 o_,bd 1 d_,_,rd 1 o_,bd 2 d_,_,rd 2 o_,bd 3 d_,_,rd 3 o_,
    bd 4 d_,_,rd 4 o_,bd 5 d_,_,rd 5 o_,bd 6 d_,_,rd 6 o_,bd 7 d_,_,rd 7 o_,?_⟩
   rw[yT_ (UInt8.toNat_lt _) (UInt8.toNat_lt _),yT_ (UInt8.toNat_lt _) (UInt8.toNat_lt _),zO_ (UInt8.toNat_lt _) (UInt8.toNat_lt _) (UInt8.toNat_lt _) (UInt8.toNat_lt _)]
   have hb3:Blk w2.drew pb _ av_:=hg3.heap hb2 (fun q=>q)
   rw[am_]
   refine hz_ (o:=0+16) (cells:=(tc (X[16+0].toNat*256+X[16+1].toNat) (X[16+2].toNat*256+X[16+3].toNat) (X[16+4].toNat*16777216+X[16+5].toNat*65536+X[16+6].toNat*256+X[16+7].toNat)).toArray) hb3 ec_ rfl
    (by have:(bv (X.take 16)).length=16:=by rw[az_,List.length_take];omega
        simp[this,tc]) (by intro v hv;simp[tc] at hv;rcases hv with rfl|rfl|rfl<;>rfl) fun w4 hb4 hk4 hsz4=>?_
   refine J1 w4 ⟨(hg2.trans hg3).keep hk4 fun i hi q=>o_,?_⟩
   have e:(unB true X)=unB true X:=rfl
   rw[ww_ X o_,xy_ o_,xy_ o_,zr_ o_,pw_,pw_,zq_]
   have hl16:(bv (X.take 16)).length=16:=by rw[az_,List.length_take];omega
   have e2:((bv (X.take 16)++tc 0 0 0).take (0+16))=bv (X.take 16):=by rw[List.take_append_of_le_length o_,List.take_of_length_le o_]
   have e3:((bv (X.take 16)++tc 0 0 0).drop (0+16+3)) = []:=List.drop_of_length_le (by rw[List.length_append,hl16];decide)
   have hb4:Blk w4 pb ((bv (X.take 16)++tc 0 0 0).take (0+16)++tc (X[16+0].toNat*256+X[16+1].toNat) (X[16+2].toNat*256+X[16+3].toNat) (X[16+4].toNat*16777216+X[16+5].toNat*65536+X[16+6].toNat*256+X[16+7].toNat)++(bv (X.take 16)++tc 0 0 0).drop (0+16+3)).toArray av_:=hb4
   rw[e2,e3,List.append_nil] at hb4
   exact hb4
open Go CF
structure Cm where
 kind:Nat
 long:Bool
 lba:Nat
 blocks:Nat
 alloc:Int
 fua:Bool
 prot:Nat
 unmap:Bool
 evpd:Bool
 page:Nat
 control:Nat
 save:Bool
 service:Nat
 type:Nat
 bytes:Bool
def cmv (c:Cm):List Value:=[.int .u8 (c.kind:Int),.bool c.long,.int .u64 (c.lba:Int),.int .u64 (c.blocks:Int),.int .i64 c.alloc,.bool c.fua,.int .u8 (c.prot:Int),.bool c.unmap,.bool c.evpd,.int .u8 (c.page:Int),.int .u8 (c.control:Int),
 .bool c.save,.int .u8 (c.service:Int),.int .u8 (c.type:Int),.bool c.bytes]
theorem oG_ {w:World} {a:Addr} {c:Cm} (h:bS_ w a (cmv c)):(loadVar aD_ a).run Tryz.prog w=.ok (.agg (cmv c).toArray) w:=aC_ pV_ g9_ rfl h
def cU_ (ps kind:Nat):A_:=#[.pointer (some ⟨ps,0,none⟩),.int .u8 (kind:Int)]
structure Dvq (w:World) (dv ps pw:Nat) (file:ByteArray) (kind n:Nat) (cache:Bool) (D:Nat→Prop) (st:Wst) (bs:List Bk) (m:Nat) (F:Int→Bool):Prop where
 dev:Blk w dv (cU_ ps kind) bO_
 isS:IsS w ps pw file n cache
 isW:a3_ w pw D st F
 nps:¬D ps
 ndv:¬D dv
 ok:Wok st
 tells:i8_ st file bs
 len:bs.length=n
 size:1≤n∧n≤4096
 nm:1≤file.size∧file.size≤32
 kd:kind≤3
 few:st.ops≤m∧st.waits.length≤m
section
variable {w u:World} {dv ps pw:Nat} {file:ByteArray} {kind n:Nat} {cache:Bool} {D D':Nat→Prop} {st st':Wst} {bs bs':List Bk} {m m':Nat} {F:Int→Bool}
theorem Dvq.step (h:Dvq w dv ps pw file kind n cache D st bs m F) (k:ab_ D w u) (hw:a3_ u pw D' st' F) (hD:∀k,D' k→D k∨w.heap.size≤k) (hok:Wok st') (ht:i8_ st' file bs') (hl:bs'.length=n) (hf:st'.ops≤m'∧st'.waits.length≤m') :
  Dvq u dv ps pw file kind n cache D' st' bs' m' F:=by
 have l1:=au_ h.dev
 have l2:=au_ h.isS
 refine⟨k.heap h.dev h.ndv,k.heap h.isS h.nps,hw,fun q=>?_,fun q=>?_,hok,ht,hl,h.size,h.nm,h.kd,hf⟩
 ·rcases hD _ q with r|r
  ·exact h.nps r
  ·omega
 ·rcases hD _ q with r|r
  ·exact h.ndv r
  ·omega
theorem Dvq.grow (h:Dvq w dv ps pw file kind n cache D st bs m F) (g:ac_ w u):Dvq u dv ps pw file kind n cache D st bs m F:=
 ⟨g.heap h.dev (fun q=>q),g.heap h.isS (fun q=>q),h.isW.grow g,h.nps,h.ndv,h.ok,h.tells,h.len,h.size,h.nm,h.kd,h.few⟩
theorem Dvq.mono (h:Dvq w dv ps pw file kind n cache D st bs m F) (hm:m≤m'):Dvq w dv ps pw file kind n cache D st bs m' F:=
 ⟨h.dev,h.isS,h.isW,h.nps,h.ndv,h.ok,h.tells,h.len,h.size,h.nm,h.kd,by have:=h.few;omega⟩
theorem px_ (h:Blk w dv (cU_ ps kind) bO_):w.cell? ((gA (some ⟨dv,0,none⟩)).add 0)=some (.pointer (some ⟨ps,0,none⟩)):=by rw[gA,am_,h.cell];rfl
theorem tX_ (h:Blk w dv (cU_ ps kind) bO_):w.cell? ((gA (some ⟨dv,0,none⟩)).add 1)=some (.int .u8 (kind:Int)):=by rw[gA,am_,h.cell];rfl
theorem tY_ (ht:i8_ st file bs) {lba k:Nat} (h:lba+k≤bs.length):cv_ st file lba k=(bs.drop lba).take k:=by
 apply List.ext_getElem?
 intro i
 unfold cv_
 rw[List.getElem?_map,List.getElem?_take,List.getElem?_drop]
 by_cases q:i<k
 ·rw[List.getElem?_range q,if_pos q,Option.map_some]
  exact ht.2 (lba+i) o_
 ·rw[if_neg q,List.getElem?_eq_none (by simp;omega)];rfl
theorem sA_ {R:Int→W_} (h:Dvq w dv ps pw file kind n cache D st bs m F) (hR:R (n:Int) w):hf_ (some ⟨dv,0,none⟩) w R:=by
 refine fA_.calls _ _ _ ⟨rfl,some ⟨ps,0,none⟩,px_ h.dev,?_⟩
 refine dx_.calls _ _ _ (al_ rfl ⟨rfl,(n:Int),by rw[gA,am_,Blk.cell h.isS];rfl,?_⟩)
 have:=h.size
 dsimp only
 rw[ea_ o_ o_]
 exact hR
end
open Go CF
theorem eN_ {w y z:World} {D:Nat→Prop} {ab:Nat} (hk:ab_ D w y) (ha:w.heap.size≤ab) (hz:ab_ (fun k=>k=ab) y z):ab_ D w z:=
 ⟨hz.os.trans hk.os,hz.tape.trans hk.tape,hz.output.trans hk.output,Nat.le_trans hk.size hz.size,fun k hk' hn=>by rw[hz.block k (by have:=hk.size;omega) o_,hk.block k hk' hn]⟩
theorem lP_ {y z:World} {pw:Nat} {D:Nat→Prop} {st:Wst} {F:Int→Bool} {ab:Nat} {cs:A_} {t:TypeId} (hw:a3_ y pw D st F) (hb:Blk y ab cs t) (ht:t≠ae_) (hn:¬D ab) (hz:ab_ (fun k=>k=ab) y z):a3_ z pw D st F:=
 hw.keep hz (fun k hk q=>hn (q▸hk)) (fun g cur hg q=>by subst q;exact ht (bs_ hb hg))
theorem lQ_:aa_≠ae_:=d_
section
variable {w u:World} {dv ps pw:Nat} {file:ByteArray} {kind n:Nat} {cache:Bool} {D D':Nat→Prop} {st st':Wst} {bs bs':List Bk} {m m':Nat}
theorem qA_ {F:Int→Bool} {lba:Nat} {ls:Sl} {L:List Bk} {fua:Bool} {R:A_→W_} (h:Dvq w dv ps pw file kind n cache D st bs m F) (hm:m≤600000000) (hc:lba+L.length≤n) (hL:∀v,ab_ D w v→Rd v 19 ls (L.flatMap bc))
  (hR:(∀i:Nat,i<L.length+(if fE_ L.length fua cache then 1 else 0)→F ((st.ops+i:Nat):Int)=false)→∀u D',ab_ D w u→Dvq u dv ps pw file kind n cache D' (fT_ (fE_ L.length fua cache) (cD_ st file lba (di_ L) L.length)) (hB_ bs lba L L.length) (m+L.length+1) F→(∀k,D' k→D k∨w.heap.size≤k)→R (rsv 0 sn0 ap_).toArray u)
  (hbad:∀k:Nat,k<L.length+(if fE_ L.length fua cache then 1 else 0)→(∀i:Nat,i<k→F ((st.ops+i:Nat):Int)=false)→F ((st.ops+k:Nat):Int)=true→∀u D',ab_ D w u→Dvq u dv ps pw file kind n cache D' {cD_ st file lba (di_ L) k with ops:=st.ops+k+1} (hB_ bs lba L k) (m+L.length+1) F→(∀k,D' k→D k∨w.heap.size≤k)→R (rsv 2 (atS 3 0x0c00 (lba+k)) ap_).toArray u) :
  eG_ (some ⟨dv,0,none⟩) (lba:Int) ls fua w R:=by
 refine f5_.calls _ _ _ _ _ _ ?_
 have hsz:=h.size
 have hlen:=h.len
 have hfew:=h.few
 refine ah_ fun ab w1 hab hb1 hg1 hsz1=>⟨rfl,some ⟨ps,0,none⟩,px_ (h.grow hg1).dev,?_⟩
 have h1:=h.grow hg1
 rw[w64 (n:=(lba:Int)) o_ o_]
 have nab:¬D ab:=fun q=>by have:=h.isW.lt q;omega
 refine n6_ h1.isS h1.nps h1.isW h1.ok h.nm hsz.2 hc (fun v hk=>hL v ((hg1.mono fun _ _ q=>q.elim).trans hk fun _ _ q=>q)) o_ o_ (fun hfl w2 D2 hk2 hw2 hD2 hS2=>al_ rfl ?_) (fun k hk0 hfl hf w2 D2 hk2 hw2 hD2 hS2=>ao_ rfl ?_)
 case refine_2=>
  have hkl:k≤L.length:=by split at hk0<;>omega
  rw[ea_ (n:=(k:Int)) o_ o_,ea_ o_ o_,show((lba:Int)+(k:Int))=((lba+k:Nat):Int) by omega]
  refine la_ (key:=3) fun w3 hg3=>?_
  have s1:=hg1.size
  have s2:=hk2.size
  have nab2:¬D2 ab:=fun q=>by
   rcases hD2 _ q with r|r
   ·exact nab r
   ·omega
  have hb3:Blk w3 ab _ aa_:=hg3.heap (hk2.heap hb1 nab) (fun q=>q)
  refine bm_ hb3 rfl fun w4 hk4=>?_
  have hkD:ab_ D w w4:=eN_ (((hg1.mono fun _ _ q=>q.elim).trans hk2 fun _ _ q=>q).grow hg3) o_ hk4
  have hDD:∀k,D2 k→D k∨w.heap.size≤k:=fun k q=>by
   rcases hD2 k q with r|r
   ·exact .inl r
   ·exact .inr o_
  obtain⟨lo,lw⟩:=jz_ st file lba (di_ L) k
  exact hbad k hk0 hfl hf w4 D2 hkD (h.step hkD (lP_ (hw2.grow hg3) hb3 lQ_ nab2 hk4) hDD (na_ h.ok (lL_ L) k o_) (qz_ h.tells o_ hkl) (by rw[f8_];exact hlen) ⟨by show st.ops+k+1≤_;omega,by show(cD_ st file lba (di_ L) k).waits.length≤_;omega⟩) hDD
 refine mE_ fun w3 hg3=>?_
 have s1:=hg1.size
 have s2:=hk2.size
 have nab2:¬D2 ab:=fun q=>by
  rcases hD2 _ q with r|r
  ·exact nab r
  ·omega
 have hb3:Blk w3 ab _ aa_:=hg3.heap (hk2.heap hb1 nab) (fun q=>q)
 refine bm_ (st:=0) (s:=sn0) (d:=ap_) hb3 rfl fun w4 hk4=>?_
 have hkD:ab_ D w w4:=eN_ (((hg1.mono fun _ _ q=>q.elim).trans hk2 fun _ _ q=>q).grow hg3) o_ hk4
 have hDD:∀k,D2 k→D k∨w.heap.size≤k:=fun k q=>by
  rcases hD2 k q with r|r
  ·exact .inl r
  ·exact .inr o_
 obtain⟨lo,lw⟩:=jz_ st file lba (di_ L) L.length
 have so:=tQ_ (fE_ L.length fua cache) (cD_ st file lba (di_ L) L.length)
 have sw:(fT_ (fE_ L.length fua cache) (cD_ st file lba (di_ L) L.length)).waits.length≤st.waits.length+L.length:=by
  rw[rB_]
  split
  ·exact Nat.zero_le _
  ·omega
 refine hR hfl w4 D2 hkD (h.step hkD (lP_ (hw2.grow hg3) hb3 lQ_ nab2 hk4) hDD (vb_ (na_ h.ok (lL_ L) L.length o_)) (sx_ h.tells o_) (by rw[f8_];exact hlen) o_) hDD
end
theorem sB_ {P:Program} {w:World} {base:Nat} {e ty:TypeId} {z o:Nat} {zv:Option Value} {q bytes:Nat} {s:Sl} {vs:List Value} {cells:A_} (hs:Own w base e z s vs) (hinfo:(P.info? ty).map (fun i=>(i.zero,i.size,i.bytes))=some (zv,q,bytes)) (hq:q=cells.size)
  (ho:o+cells.size≤vs.length) (hpos:0<cells.size) (h1:∀v∈cells.toList,v.oneCell'=true) {K:W_}
  (h:∀w1,Own w1 base e z s (vs.take o++cells.toList++vs.drop (o+cells.size))→ab_ (fun k=>some k=s.blk) w w1→w1.heap.size=w.heap.size→K w1):ag_ P (storeVar ty ((gA s.A).add o) (.agg cells)) w K:=by
 obtain⟨hlen,hown⟩:=hs
 rcases hown with⟨h2,hn0⟩|⟨g,cap,cur,hv',hbg,hg,hnc,hcm,hcs,htake⟩
 ·rw[hn0,Nat.zero_mul] at hlen;omega
 ·injection hv' with hA hN hC
  have hle:s.n*z≤cur.size:=by rw[hcs];exact Nat.mul_le_mul_right _ hnc
  rw[hA,gA,am_,Nat.zero_add]
  refine hz_ hg hinfo hq o_ h1 fun w1 hb1 hk1 hsz1=>?_
  refine h w1 ⟨by simp only[List.length_append,List.length_take,List.length_drop,Array.length_toList];omega,.inr ⟨g,cap,_,by rw[hA,hC],hbg,hb1,hnc,hcm,?_,?_⟩⟩ (hk1.mono fun k _ q=>by simp[Sl.blk,hA,q]) hsz1
  ·simp only[List.size_toArray,List.length_append,List.length_take,List.length_drop,Array.length_toList];omega
  ·have hF:cur.toList.take (s.n*z)=vs:=htake
   have hl:vs.length=s.n*z:=hlen
   rw[←hF]
   apply List.ext_getElem?
   intro j
   simp only[List.getElem?_take,List.getElem?_append,List.length_append,List.length_take,Array.length_toList,List.getElem?_drop]
   have e1:min o cur.size=o:=o_
   have e2:min o (min (s.n*z) cur.size)=o:=o_
   simp only[e1,e2]
   by_cases q1:j<o
   ·have q2:j<o+cells.size:=o_
    have q3:j<s.n*z:=o_
    simp only[if_pos q1,if_pos q2,if_pos q3]
   ·by_cases q2:j<o+cells.size
    ·have q3:j<s.n*z:=o_
     simp only[if_neg q1,if_pos q2,if_pos q3]
    ·by_cases q3:j<s.n*z
     ·have q4:o+cells.size+(j-(o+cells.size))<s.n*z:=o_
      simp only[if_neg q2,if_pos q3,if_pos q4]
     ·have q4:¬o+cells.size+(j-(o+cells.size))<s.n*z:=o_
      simp only[if_neg q2,if_neg q3,if_neg q4]
theorem fk_ (l:List Bk):(l.flatMap bc).length=l.length*19:=bx_ ck_ l
theorem wy_ {l:List Bk} {j:Nat} {b:Bk} (hj:j<l.length) (hd:b.d=l[j].d):(l.flatMap bc).take (j*19+16)++tc b.g b.a b.r++(l.flatMap bc).drop (j*19+16+3)=(l.set j b).flatMap bc:=by
 have e:l=l.take j++l[j]::l.drop (j+1):=by rw[List.getElem_cons_drop,List.take_append_drop]
 have hA:((l.take j).flatMap bc).length=j*19:=by rw[fk_,List.length_take,Nat.min_eq_left o_]
 have hl:l.flatMap bc=(l.take j).flatMap bc++(bc l[j]++(l.drop (j+1)).flatMap bc):=by
  conv=>lhs;rw[e]
  rw[List.flatMap_append,List.flatMap_cons]
 have hs:(l.set j b).flatMap bc=(l.take j).flatMap bc++(bc b++(l.drop (j+1)).flatMap bc):=by
  rw[List.set_eq_take_append_cons_drop,if_pos hj,List.flatMap_append,List.flatMap_cons]
 have hb:bc b=bv l[j].d++tc b.g b.a b.r:=by unfold bc tc;rw[hd]
 have t1:((l.take j).flatMap bc++(bc l[j]++(l.drop (j+1)).flatMap bc)).take (j*19+16)=(l.take j).flatMap bc++bv l[j].d:=by
  rw[←hA,List.take_length_add_append,List.take_append_of_le_length (by rw[ck_];omega),s7_]
 have t2:((l.take j).flatMap bc++(bc l[j]++(l.drop (j+1)).flatMap bc)).drop (j*19+16+3)=(l.drop (j+1)).flatMap bc:=by
  rw[Nat.add_assoc,←hA,List.drop_length_add_append]
  have:16+3=(bc l[j]).length:=by rw[ck_]
  rw[this,List.drop_left]
 rw[hl,hs,t1,t2,hb]
 simp
open Go CF
def mk1 (kind lba:Nat) (b:Bk):Bk:=mkB kind lba b.d b.hd
def dA_ (kind lba:Nat) (U:List Bk):Nat→List Bk
 | 0=>U
 | j+1=>(dA_ kind lba U j).set j (mk1 kind (lba+j) (U.getD j cN_))
theorem ki_ (kind lba:Nat) (U:List Bk):∀j,(dA_ kind lba U j).length=U.length
 | 0=>rfl
 | j+1=>by simp[dA_,ki_ kind lba U j]
theorem rF_ (kind lba:Nat) (U:List Bk):∀(j i:Nat) (hi:i<U.length),(dA_ kind lba U j)[i]'(by rw[ki_];exact hi)=if i<j then mk1 kind (lba+i) U[i] else U[i]
 | 0,i,hi=>by rw[if_neg o_];rfl
 | j+1,i,hi=>by
  have ih:=rF_ kind lba U j i hi
  simp only[dA_,List.getElem_set]
  by_cases e:j=i
  ·subst e
   rw[if_pos rfl,if_pos o_,List.getD_eq_getElem?_getD,List.getElem?_eq_getElem hi];rfl
  ·rw[if_neg e,ih]
   by_cases q:i<j
   ·rw[if_pos q,if_pos o_]
   ·rw[if_neg q,if_neg o_]
theorem vi_ (kind lba:Nat) (b:Bk):tc (mk1 kind lba b).g (mk1 kind lba b).a (mk1 kind lba b).r=tc (c16 b.d) 0 (mkR kind lba):=rfl
theorem qB_ {w:World} {dv ps kind:Nat} {c:Cm} {p:Sl} {l:L8} {N:Nat} {R:Sl→A_→Bool→W_} (hd:Blk w dv (cU_ ps kind) bO_) (hp:Rd w 1 p (bv l)) (hb:p.n≤140737488351232) (hlba:c.lba≤4096) (hN:N≤4096)
  (h1:(l.length%szB (decide (c.prot≠0))≠0∨l.length/szB (decide (c.prot≠0))≠N)→∀u,ac_ w u→R ap_ (rsv 2 (cE_ 0x1a00) ap_).toArray false u)
  (h2:l.length%16=0→l.length/16=N→c.prot=0→∀xs u,ac_ w u→Own u w.heap.size av_ 19 xs ((dA_ kind c.lba (cd_ false l) N).flatMap bc)→R xs (rsv 0 sn0 ap_).toArray true u)
  (h3:l.length%24=0→l.length/24=N→c.prot≠0→(∀i (hi:i<(cd_ true l).length),c3_ kind c.prot (c.lba+i) (cd_ true l)[i]=0)→∀xs u,ac_ w u→Own u w.heap.size av_ 19 xs ((cd_ true l).flatMap bc)→R xs (rsv 0 sn0 ap_).toArray true u)
  (h4:l.length%24=0→l.length/24=N→c.prot≠0→∀i (hi:i<(cd_ true l).length),c3_ kind c.prot (c.lba+i) (cd_ true l)[i]≠0→(∀j (hj:j<i),c3_ kind c.prot (c.lba+j) ((cd_ true l)[j]' o_)=0)→∀u,ac_ w u→
   R ap_ (rsv 2 (atS 11 (c3_ kind c.prot (c.lba+i) (cd_ true l)[i]) (c.lba+i)) ap_).toArray false u) :
  gy_ (some ⟨dv,0,none⟩) (cmv c).toArray p (N:Int) w R:=by
 refine gE_.calls _ _ _ _ _ _ ?_
 refine ah_ fun cb w0 hcb hb0 hg0 hsz0=>?_
 have hb0:Blk w0 cb (cmv c).toArray aD_:=hb0
 refine ah_ fun ab w1 hab hb1 hg1 hsz1=>?_
 have hgw1:=hg0.trans hg1
 have hc1:Blk w1 cb (cmv c).toArray aD_:=hg1.heap hb0 (fun q=>q)
 refine⟨(c.prot:Int),by rw[am_,hc1.cell];rfl,?_⟩
 have ew:((c.prot:Int) != 0)=decide (c.prot≠0):=by rw[Bool.eq_iff_iff,bne_iff_ne,decide_eq_true_eq];omega
 rw[ew]
 generalize hwt:decide (c.prot≠0)=wt at *
 have hd1:=hgw1.heap hd (fun q=>q)
 have hln:=dj_ hp
 refine nA_ (hp.grow hgw1) hb (fun q=>ao_ rfl (nz_ fun w2 hg2=>bm_ (hg2.heap hb1 (fun q=>q)) rfl fun w3 hk3=>h1 (.inl q) w3 (cF_ (hgw1.trans hg2) o_ hk3))) fun hm xs w2 hg2 hown2=>?_
 have hgw2:=hgw1.trans hg2
 have hUl:(cd_ wt l).length=l.length/szB wt:=jD_ wt l
 have hs16:16≤szB wt:=by unfold szB;split<;>decide
 have hdiv:l.length/szB wt≤l.length:=Nat.div_le_self _ _
 have hown2:Own w2 w.heap.size av_ 19 xs ((cd_ wt l).flatMap bc):=hown2.mono hgw1.size
 have hxn:xs.n=(cd_ wt l).length:=by have:=hown2.len;rw[fk_] at this;omega
 rw[ea_ (n:=(xs.n:Int)) o_ o_]
 have hb2:Blk w2 ab _ aa_:=hg2.heap hb1 (fun q=>q)
 by_cases hN':l.length/szB wt=N
 case neg=>
  refine ao_ (by rw[Bool.or_eq_true,bne_iff_ne];right;omega) (nz_ fun w3 hg3=>bm_ (hg3.heap hb2 (fun q=>q)) rfl fun w4 hk4=>h1 (.inr hN') w4 (cF_ (hgw2.trans hg3) o_ hk4))
 refine al_ (by rw[Bool.or_eq_false_iff,bne_eq_false_iff_eq];exact⟨rfl,o_⟩) ?_
 generalize hU:cd_ wt l=U at *
 have hc2:Blk w2 cb (cmv c).toArray aD_:=hg2.heap hc1 (fun q=>q)
 have hd2:Blk w2 dv (cU_ ps kind) bO_:=hg2.heap hd1 (fun q=>q)
 have c2:∀{v:World},Blk v cb (cmv c).toArray aD_→v.cell? ((⟨cb,0,none⟩:Addr).add 2)=some (.int .u64 (c.lba:Int)):=fun q=>by rw[am_,q.cell];rfl
 have c6:∀{v:World},Blk v cb (cmv c).toArray aD_→v.cell? ((⟨cb,0,none⟩:Addr).add 6)=some (.int .u8 (c.prot:Int)):=fun q=>by rw[am_,q.cell];rfl
 have xblk:∀{v:World} {L:List Bk},Own v w.heap.size av_ 19 xs (L.flatMap bc)→∀{b:Nat} {cs:A_} {t:TypeId},Blk v b cs t→t≠av_→xs.blk≠some b:=fun ho b cs t hbb ht=>bd_ ho hbb ht
 refine⟨fun x v=>∃j:Nat,x=j∧j≤U.length∧ac_ w v∧Blk v cb (cmv c).toArray aD_∧Blk v dv (cU_ ps kind) bO_∧Blk v ab _ aa_∧
   ((wt=false∧Own v w.heap.size av_ 19 xs ((dA_ kind c.lba U j).flatMap bc))∨(wt=true∧Own v w.heap.size av_ 19 xs (U.flatMap bc)∧∀i (hi:i<U.length),i<j→c3_ kind c.prot (c.lba+i) U[i]=0)),fun x _=>U.length-x.toNat,
  ⟨0,rfl,Nat.zero_le _,hgw2,hc2,hd2,hb2,by cases wt with
   | false=>exact .inl ⟨rfl,hown2⟩
   | true=>exact .inr ⟨rfl,hown2,fun _ _ q=>absurd q (Nat.not_lt_zero _)⟩⟩,?_⟩
 rintro x v ⟨j,rfl,hj,hgv,hcv,hdv,hav,hcase⟩
 refine bh_ (fun hlt=>?_) (fun hge=>?_)
 ·have hjU:j<U.length:=o_
  have e1:IntKind.wrap .u64 ((c.lba:Int)+IntKind.wrap .u64 (j:Int))=((c.lba+j:Nat):Int):=by
   rw[ea_ (n:=(j:Int)) o_ o_,ea_ o_ o_];omega
  rw[w64 (n:=(j:Int)+1) o_ o_]
  refine dy_ (fun y=>ac_ w y∧Blk y cb (cmv c).toArray aD_∧Blk y dv (cU_ ps kind) bO_∧Blk y ab _ aa_∧
   ((wt=false∧Own y w.heap.size av_ 19 xs ((dA_ kind c.lba U (j+1)).flatMap bc))∨(wt=true∧Own y w.heap.size av_ 19 xs (U.flatMap bc)∧∀i (hi:i<U.length),i<j+1→c3_ kind c.prot (c.lba+i) U[i]=0)))
   (fun y hy=>⟨⟨j+1,o_,o_,hy⟩,by dsimp only;omega⟩) (fun J=>⟨(c.lba:Int),c2 hcv,?_⟩)
  rw[e1]
  rcases hcase with⟨hwf,hown⟩|⟨hwt',hown,hall⟩
  ·refine ao_ (by rw[hwf];rfl) ?_
   rintro w3 rfl
   have hg3:ac_ v v.drew:=aq_ v
   have hVl:(dA_ kind c.lba U j).length=U.length:=ki_ _ _ _ _
   have hVj:(dA_ kind c.lba U j)[j]' o_=U[j]:=by rw[rF_ _ _ _ _ _ hjU,if_neg o_]
   obtain⟨a0,ha0,hc0⟩:=jA_ (hown.rd o_) (i:=j) o_
   rw[hVj] at hc0
   have bnd:(0:Int)≤(j:Int)∧(j:Int)<(xs.n:Int)∧xs.A.isSome=true:=⟨o_,o_,by rw[ha0];rfl⟩
   refine⟨fun y=>ac_ v y,hg3,rfl,(kind:Int),fun y hy=>tX_ (hy.heap hdv (fun q=>q)),bnd,(bv U[j].d).toArray,fun y hy=>?_,?_⟩
   ·rw[ha0,Int.toNat_natCast]
    exact zp_ U[j].hd (tT_ (fun i x hx=>hy.cell (hc0 i x hx) (fun q=>q)))
   refine ve_ (app:=0) U[j].hd fun w4 hg4=>⟨bnd,?_⟩
   have hg14:=hg3.trans hg4
   have hown4:=hown.grow hg14
   rw[Int.toNat_natCast,fJ_]
   refine sB_ (o:=j*19+16) (cells:=(tc (c16 U[j].d) 0 (mkR kind (c.lba+j))).toArray) hown4 ec_ rfl (by rw[fk_,hVl];show j*19+16+3≤_;omega) (by show 0<3;decide) (by intro q hq;simp[tc] at hq;rcases hq with rfl|rfl|rfl<;>rfl) fun w5 hown5 hk5 _=>?_
   have hfs:=wy_ (l:=dA_ kind c.lba U j) (j:=j) (b:=mk1 kind (c.lba+j) U[j]) o_ (by rw[hVj];rfl)
   rw[vi_] at hfs
   have hown5:Own w5 w.heap.size av_ 19 xs (((dA_ kind c.lba U j).flatMap bc).take (j*19+16)++tc (c16 U[j].d) 0 (mkR kind (c.lba+j))++((dA_ kind c.lba U j).flatMap bc).drop (j*19+16+3)):=hown5
   rw[hfs] at hown5
   have hnb:∀{b:Nat} {cs:A_} {t:TypeId},Blk w4 b cs t→t≠av_→Blk w5 b cs t:=fun hbb ht=>hk5.heap hbb fun q=>bd_ hown4 hbb ht q.symm
   refine J w5 ⟨dn_ (hgv.trans hg14) hown4 (Nat.le_refl _) hk5,hnb (hg14.heap hcv (fun q=>q)) d_,hnb (hg14.heap hdv (fun q=>q)) d_,hnb (hg14.heap hav (fun q=>q)) d_,.inl ⟨hwf,?_⟩⟩
   have e2:dA_ kind c.lba U (j+1)=(dA_ kind c.lba U j).set j (mk1 kind (c.lba+j) U[j]):=by
    simp only[dA_];rw[List.getD_eq_getElem?_getD,List.getElem?_eq_getElem hjU];rfl
   rw[e2];exact hown5
  ·refine al_ (by rw[hwt'];rfl) ?_
   rintro w3 rfl
   have hg3:ac_ v v.drew:=aq_ v
   obtain⟨a0,ha0,hc0⟩:=jA_ (hown.rd o_) hjU
   have bnd:(0:Int)≤(j:Int)∧(j:Int)<(xs.n:Int)∧xs.A.isSome=true:=⟨o_,o_,by rw[ha0];rfl⟩
   refine⟨fun y=>ac_ v y,hg3,rfl,(kind:Int),fun y hy=>tX_ (hy.heap hdv (fun q=>q)),(c.prot:Int),fun y hy=>c6 (hy.heap hcv (fun q=>q)),bnd,(bc U[j]).toArray,fun y hy=>?_,?_⟩
   ·rw[ha0,Int.toNat_natCast]
    exact oE_ (fun i x hx=>hy.cell (hc0 i x hx) (fun q=>q))
   refine mD_ fun w4 hg4=>?_
   have hg14:=hg3.trans hg4
   subst hwt'
   have hp0:c.prot≠0:=by simpa using hwt
   by_cases hz:c3_ kind c.prot (c.lba+j) U[j]=0
   ·refine al_ (by rw[hz];rfl) (J w4 ⟨hgv.trans hg14,hg14.heap hcv (fun q=>q),hg14.heap hdv (fun q=>q),hg14.heap hav (fun q=>q),.inr ⟨rfl,hown.grow hg14,fun i hi q=>?_⟩⟩)
    by_cases e:i=j
    ·subst e;exact hz
    ·exact hall i hi o_
   ·refine ao_ (by rw[bne_iff_ne];omega) (la_ (key:=11) fun w5 hg5=>?_)
    refine bm_ ((hg14.trans hg5).heap hav (fun q=>q)) rfl fun w6 hk6=>?_
    subst hU
    exact h4 hm hN' hp0 j hjU hz (fun i hi=>hall i o_ hi) w6 (cF_ ((hgv.trans hg14).trans hg5) o_ hk6)
 ·have hjn:j=U.length:=o_
  refine bm_ (st:=0) (s:=sn0) (d:=ap_) hav rfl fun w3 hk3=>?_
  have hg3:=cF_ hgv o_ hk3
  have ok:∀{L:List Bk},Own v w.heap.size av_ 19 xs (L.flatMap bc)→Own w3 w.heap.size av_ 19 xs (L.flatMap bc):=fun ho=>ho.keep hk3 fun b hb q=>bd_ ho hav d_ (by rw[hb,q])
  rcases hcase with⟨hwf,hown⟩|⟨hwt',hown,hall⟩
  ·subst hwf
   have hp0:c.prot=0:=by simpa using hwt
   subst hU
   rw[hjn,hUl,hN'] at hown
   exact h2 hm hN' hp0 xs w3 hg3 (ok hown)
  ·subst hwt'
   have hp0:c.prot≠0:=by simpa using hwt
   subst hU
   exact h3 hm hN' hp0 (fun i hi=>hall i hi o_) xs w3 hg3 (ok hown)
open Go CF
def z10:A_:=#[.int .u8 0,.int .u8 0,.int .u16 0,.int .u64 0,.bool false,.int .i64 0,.int .i64 0,.bool false,.bool false,.slice none 0 0]
def wz_:Sn:=⟨5,0x2400,0,false,1,7,true,true⟩
def wA_:Sn:=⟨5,0x2000,0,false,0,7,true,true⟩
section
variable {w u:World} {dv ps pw:Nat} {file:ByteArray} {kind n:Nat} {cache:Bool} {D D':Nat→Prop} {st st':Wst} {bs bs':List Bk} {m m':Nat}
theorem Dvq.put {F:Int→Bool} (h:Dvq w dv ps pw file kind n cache D st bs m F) {ab:Nat} {cs:A_} {t:TypeId} (hb:Blk w ab cs t) (h1:t≠ae_) (h2:t≠bO_) (h3:t≠iK_) (hn:¬D ab) (hk:ab_ (fun k=>k=ab) w u) :
  Dvq u dv ps pw file kind n cache D st bs m F:=by
 refine⟨hk.heap h.dev fun q=>?_,hk.heap h.isS fun q=>?_,lP_ h.isW hb h1 hn hk,h.nps,h.ndv,h.ok,h.tells,h.len,h.size,h.nm,h.kd,h.few⟩
 ·have hd:=h.dev
  rw[q] at hd
  exact h2 (bs_ hb hd)
 ·have hd:=h.isS
  rw[q] at hd
  exact h3 (bs_ hb hd)
def wfS:Sn:=⟨3,0x0c00,0,false,0,0,false,false⟩
theorem tZ_ {kind prot:Nat} {w:World} {R:Bool→W_} (h:R (mC_ kind prot) w):mr_ (kind:Int) (prot:Int) w R:=by
 refine iy_.calls _ _ _ _ ?_
 have e:(decide ((kind:Int)≤3)&&(((prot:Int)==0)||(decide ((kind:Int)>0)&&decide ((prot:Int)≤4))))=mC_ kind prot:=by
  unfold mC_
  rw[Bool.eq_iff_iff]
  simp only[Bool.and_eq_true,Bool.or_eq_true,decide_eq_true_eq,beq_iff_eq]
  omega
 unfold iy_
 rw[e]
 exact h
end
open Go CF
def s8_ (X Y:L8):Option Nat:=(List.range X.length).find? fun i=>decide (X.getD i 0≠Y.getD i 0)
theorem fF_ {w:World} {s:Sl} {l:L8} (h:Rd w 1 s (bv l)) {i:Nat} (hi:i<l.length):s.A.isSome=true∧w.cell? ((gA s.A).add (i*1))=some (.int .u8 ((l.getD i 0).toNat:Int)):=by
 obtain⟨a,ha,hc⟩:=h.byte (i:=i) (by rw[←dj_ h];exact hi)
 rw[ha]
 refine⟨rfl,?_⟩
 rw[List.getD_eq_getElem?_getD,List.getElem?_eq_getElem hi]
 exact hc
section
variable {w u:World} {dv ps pw:Nat} {file:ByteArray} {kind n:Nat} {cache:Bool} {D D':Nat→Prop} {st st':Wst} {bs bs':List Bk} {m m':Nat}
end
open Go CF
section
variable {w u v:World} {dv ps pw:Nat} {file:ByteArray} {kind n:Nat} {cache:Bool} {D D':Nat→Prop} {st st':Wst} {bs bs':List Bk} {m m':Nat} {ls:List (Nat×List Value×TypeId)} {rows:List (Sl×L8)}
end
open Go CF
def py_ (l:L8) (j:Nat):Nat:=num ((l.drop (8+16*j)).take 8)
def rG_ (l:L8) (j:Nat):Nat:=num ((l.drop (8+16*j+8)).take 4)
def yU_ (l:L8):Nat→Nat
 | 0=>0
 | j+1=>yU_ l j+rG_ l j
section
variable {w u:World} {dv ps pw:Nat} {file:ByteArray} {kind n:Nat} {cache:Bool} {D D':Nat→Prop} {st st':Wst} {bs bs':List Bk} {m m':Nat}
end
open Go CF
def z16:L8:=[0,0,0,0,0,0,0,0,0,0,0,0,0,0,0,0]
def zs_ (b:Bk) (r:Nat):Bk:=⟨b.d,b.g,b.a,r%4294967296,b.hd,b.hg,b.ha,o_⟩
def zt_ (kind:Nat) (c:Cm) (b0:Bk) (i:Nat):Bk:=if c.prot=0 then mk1 kind (c.lba+i) b0 else if kind=1∨kind=2 then zs_ b0 (c.lba+i) else b0
def yV_ (kind:Nat) (c:Cm) (b0:Bk) (N:Nat):List Bk:=(List.range N).map (zt_ kind c b0)
def xz_ (n:Nat) (c:Cm):Nat:=if c.blocks=0 then n-c.lba else c.blocks
section
variable {w u:World} {dv ps pw:Nat} {file:ByteArray} {kind n:Nat} {cache:Bool} {D D':Nat→Prop} {st st':Wst} {bs bs':List Bk} {m m':Nat}
end
open Go CF
theorem hV_ (w:World):Rd w 1 ap_ (bv []):=uS_ w 1
theorem sC_ {key code:Nat} {w:World} {R:A_→W_} (h:∀w',ac_ w w'→R (rsv 2 ⟨key,code,0,false,0,0,false,false⟩ ap_).toArray w'):bk_ (key:Int) (code:Int) w R:=by
 refine eo_.calls _ _ _ _ ?_
 refine ah_ fun ab w1 hab hb1 hg1 hsz1=>⟨(rsv 2 ⟨key,code,0,false,0,0,false,false⟩ ap_).toArray,k_,?_⟩
 exact bm_ hb1 rfl fun w2 hk2=>h w2 (cF_ hg1 o_ hk2)
def kSn:List Kd:=[.i .u8,.i .u16,.i .u64,.b,.i .i64,.i .i64,.b,.b]
theorem pz_:hd_ Tryz.prog 8 aL_=some kSn:=k_
theorem rH_:kd Tryz.prog aL_=.ag:=k_
theorem rI_:Tryz.prog.eqGuardType Tryz.prog.depth aL_=false:=k_
theorem s9_ (s:Sn):bq_ kSn (snv s):=⟨rfl,rfl,rfl,rfl,rfl,rfl,rfl,rfl,trivial⟩
theorem p4_ {w:World} {b:Nat} {s:Nat} {sn:Sn} {d:Sl} (h:Blk w b (rsv s sn d).toArray aa_):bS_ w ((⟨b,0,none⟩:Addr).add 1) (snv sn):=fun j v hj=>by
 rw[fJ_]
 refine ax_ h (1+j) v ?_
 have:j<8:=(List.getElem?_eq_some_iff.1 hj).1
 unfold rsv
 rw[List.append_assoc,List.getElem?_append_right (by simp),show 1+j - [Value.int .u8 (s:Int)].length=j by simp,List.getElem?_append_left (by exact this)]
 exact hj
theorem nB_ {s:Nat} {sn:Sn} {d1 d2:Sl} {l:L8} {w:World} {R:Bool→W_} (h1:Rd w 1 d1 (bv l)) (h2:Rd w 1 d2 (bv l)) (h:∀w',ac_ w w'→R true w'):aO_ (rsv s sn d1).toArray (rsv s sn d2).toArray w R:=by
 refine en_.calls _ _ _ _ ?_
 refine ah_ fun ab w1 hab hb1 hg1 hsz1=>?_
 refine ah_ fun bb w2 hbb hb2 hg2 hsz2=>?_
 have hb1:Blk w2 ab (rsv s sn d1).toArray aa_:=hg2.heap hb1 (fun q=>q)
 have hb2:Blk w2 bb (rsv s sn d2).toArray aa_:=hb2
 obtain⟨r,hr,hrun⟩:=wd_ (x:=.tmp 12) (y:=.tmp 14) pz_ rH_ rI_ (s9_ sn) (s9_ sn)
 have hr1:r=true:=hr.2 rfl
 subst hr1
 have g:=hg1.trans hg2
 refine⟨(s:Int),by rw[am_,hb1.cell];rfl,(s:Int),by rw[am_,hb2.cell];rfl,(snv sn).toArray,fun _=>hC_ (p4_ hb1),(snv sn).toArray,fun _=>hC_ (p4_ hb2),true,fun _=>hrun w2,d1,fun _=>by rw[am_,hb1.cell];rfl,str l,
  fun _=>cj_ aN_ eH_ dq_ (h1.grow g),d2,fun _=>by rw[am_,hb2.cell];rfl,str l,fun _=>cj_ aN_ eH_ dq_ (h2.grow g),?_⟩
 have:=h w2 g
 simpa [kV_] using this
open Go CF
section
variable {w u u' v v':World} {dv ps pw:Nat} {file:ByteArray} {kind n:Nat} {cache:Bool} {D D':Nat→Prop} {st st':Wst} {bs bs':List Bk} {m m':Nat} {ls:List (Nat×List Value×TypeId)} {rows:List (Sl×L8)}
end
open Go CF
section
variable {w u u' v v':World} {dv ps pw:Nat} {file:ByteArray} {kind n:Nat} {cache:Bool} {D D':Nat→Prop} {st st':Wst} {bs bs':List Bk} {m m':Nat} {ls:List (Nat×List Value×TypeId)} {rows:List (Sl×L8)}
end
open Go CF
theorem kj_ {n:Nat} {p:Nat→Bool} (h:∀i,i<n→p i=false):(List.range n).find? p=none:=by
 rw[List.find?_eq_none]
 intro i hi
 rw[h i (List.mem_range.1 hi)];simp
theorem kk_ {n i:Nat} {p:Nat→Bool} (hi:i<n) (h:∀j,j<i→p j=false) (hp:p i=true):(List.range n).find? p=some i:=by
 rw[List.find?_eq_some_iff_append]
 refine⟨hp,List.range i,(List.range (n-i-1)).map (fun k=>i+1+k),?_,fun j hj=>?_⟩
 ·have e:n=i+(1+(n-i-1)):=o_
  conv=>lhs;rw[e,List.range_add,List.range_add]
  simp[List.map_map,Nat.add_assoc,Function.comp_def]
 ·rw[h j (List.mem_range.1 hj)];rfl
def ij_ (F:Int→Bool) (o n:Nat):Option Nat:=(List.range n).find? fun k=>F ((o+k:Nat):Int)
theorem i9_ {F:Int→Bool} {o n:Nat} (h:∀i:Nat,i<n→F ((o+i:Nat):Int)=false):ij_ F o n=none:=kj_ h
theorem lR_ {F:Int→Bool} {o n k:Nat} (hk:k<n) (h:∀i:Nat,i<k→F ((o+i:Nat):Int)=false) (hf:F ((o+k:Nat):Int)=true):ij_ F o n=some k:=kk_ hk h hf
theorem kI_ (o n:Nat):ij_ aF_ o n=none:=i9_ fun _ _=>rfl
structure RsX where
 st:Nat
 sn:Sn
 d:L8
def okX (d:L8):RsX:=⟨0,sn0,d⟩
def snX (s:Sn):RsX:=⟨2,s,[]⟩
def oH_ (kind prot lba:Nat) (L:List Bk):Option Nat:=(List.range L.length).find? fun i=>decide (c3_ kind prot (lba+i) (L.getD i cN_)≠0)
def qN_ (kind prot lba:Nat) (L:List Bk) (i:Nat):Sn:=atS 11 (c3_ kind prot (lba+i) (L.getD i cN_)) (lba+i)
theorem lb_ {L:List Bk} {i:Nat} (hi:i<L.length):L.getD i cN_=L[i]:=by rw[List.getD_eq_getElem?_getD,List.getElem?_eq_getElem hi];rfl
theorem lS_ {kind prot lba:Nat} {L:List Bk} (h:∀i (hi:i<L.length),c3_ kind prot (lba+i) L[i]=0):oH_ kind prot lba L=none:=
 kj_ fun i hi=>by rw[lb_ hi,h i hi];rfl
theorem oI_ {kind prot lba i:Nat} {L:List Bk} (hi:i<L.length) (hz:c3_ kind prot (lba+i) L[i]≠0) (h:∀j (hj:j<i),c3_ kind prot (lba+j) (L[j]' o_)=0):oH_ kind prot lba L=some i:=
 kk_ hi (fun j hj=>by rw[lb_ o_,h j hj];rfl) (by rw[lb_ hi,decide_eq_true_eq];exact hz)
def hE_ (F:Int→Bool) (kind prot lba n o:Nat) (L:List Bk):Except Sn (List Bk)×Nat:=
 match ij_ F o n with
 | some k=>(.error (atS 3 0x1100 (lba+k)),k+1)
 | none=>match oH_ kind prot lba L with
  | some i=>(.error (qN_ kind prot lba L i),n)
  | none=>(.ok L,n)
def kl_ (kind:Nat) (c:Cm) (l:L8) (N:Nat):Except Sn (List Bk):=
 if l.length%szB (decide (c.prot≠0))≠0∨l.length/szB (decide (c.prot≠0))≠N then .error (cE_ 0x1a00)
 else if c.prot=0 then .ok (dA_ kind c.lba (cd_ false l) N)
 else match oH_ kind c.prot c.lba (cd_ true l) with
  | some i=>.error (qN_ kind c.prot c.lba (cd_ true l) i)
  | none=>.ok (cd_ true l)
def mF_ (F:Int→Bool) (file:ByteArray) (cache:Bool) (st:Wst) (lba n:Nat) (rs:Nat→L8) (fua:Bool):Option Nat×Wst:=
 match ij_ F st.ops (n+(if fE_ n fua cache then 1 else 0)) with
 | some k=>(some k,{cD_ st file lba rs k with ops:=st.ops+k+1})
 | none=>(none,fT_ (fE_ n fua cache) (cD_ st file lba rs n))
def iC_ (lba:Nat) (x:Option Nat×Wst):RsX×Wst:=match x.1 with
 | some k=>(snX (atS 3 0x0c00 (lba+k)),x.2)
 | none=>(okX [],x.2)
def db_ (F:Int→Bool) (file:ByteArray) (cache:Bool) (st:Wst) (lba:Nat) (L:List Bk) (fua:Bool):RsX×Wst:=iC_ lba (mF_ F file cache st lba L.length (di_ L) fua)
def wB_ (F:Int→Bool) (file:ByteArray) (cache:Bool) (st:Wst) (lba n:Nat):Option Nat×Wst:=mF_ F file cache st lba n (fun _=>[0]) false
def more (st:Wst) (k:Nat):Wst:={st with ops:=st.ops+k}
def pA_ (F:Int→Bool) (kind:Nat) (st:Wst) (bs:List Bk) (c:Cm) (l:L8):RsX×Wst:=
 if c.bytes=true∧(l.length%szB (decide (c.prot≠0))≠0∨l.length/szB (decide (c.prot≠0))≠c.blocks) then(snX (cE_ 0x1a00),st)
 else match hE_ F kind c.prot c.lba c.blocks st.ops ((bs.drop c.lba).take c.blocks) with
  | (.error s,k)=>(snX s,more st k)
  | (.ok L,k)=>if c.bytes=true then(match s8_ (cT_ false L) (cT_ false (cd_ (decide (c.prot≠0)) l)) with
    | some i=>(snX (atS 14 0x1d00 i),more st k)
    | none=>(okX [],more st k)) else(okX [],more st k)
def t0_ (F:Int→Bool) (kind n:Nat) (cache:Bool) (file:ByteArray) (st:Wst) (c:Cm) (l:L8):RsX×Wst:=
 match kl_ kind c l 1 with
 | .error s=>(snX s,st)
 | .ok L=>if c.unmap=true∧(L.getD 0 cN_).d=z16 then iC_ c.lba (wB_ F file cache st c.lba (xz_ n c)) else db_ F file cache st c.lba (yV_ kind c (L.getD 0 cN_) (xz_ n c)) false
def zP_ (n:Nat) (l:L8) (j:Nat):Option Sn:=
 if n<py_ l j+rG_ l j then some (atS 5 0x2100 (py_ l j)) else if 256<yU_ l (j+1) then some ⟨5,0x2600,0,false,((8+16*j+8:Nat):Int),-1,true,false⟩ else none
def zu_ (n:Nat) (l:L8) (N:Nat):Option Sn:=(List.range N).findSome? (zP_ n l)
def rJ_ (F:Int→Bool) (file:ByteArray) (cache:Bool) (st:Wst) (l:L8):Nat→Option Sn×Wst
 | 0=>(none,st)
 | k+1=>match rJ_ F file cache st l k with
  | (some s,x)=>(some s,x)
  | (none,x)=>match wB_ F file cache x (py_ l k) (rG_ l k) with
   | (some j,y)=>(some (atS 3 0x0c00 (py_ l k+j)),y)
   | (none,y)=>(none,y)
def wC_ (l:L8):Prop:=8≤l.length∧num ((l.drop 0).take 2)=l.length-2∧num ((l.drop 2).take 2)=l.length-8∧(l.length-8)%16=0
instance (l:L8):Decidable (wC_ l):=by unfold wC_;infer_instance
def rK_ (F:Int→Bool) (n:Nat) (cache:Bool) (file:ByteArray) (st:Wst) (l:L8):RsX×Wst:=
 if l.length=0 then(okX [],st)
 else if ¬wC_ l then(snX (cE_ 0x1a00),st)
 else match zu_ n l ((l.length-8)/16) with
  | some s=>(snX s,st)
  | none=>match rJ_ F file cache st l ((l.length-8)/16) with
   | (some s,x)=>(snX s,x)
   | (none,x)=>(okX [],x)
def n8_ (F:Int→Bool) (kind:Nat) (cache:Bool) (file:ByteArray) (st:Wst) (bs:List Bk) (c:Cm) (l:L8):RsX×Wst:=
 if l.length≠2*(szB (decide (c.prot≠0))*c.blocks) then(snX (cE_ 0x1a00),st)
 else match kl_ kind c (l.drop (szB (decide (c.prot≠0))*c.blocks)) c.blocks with
  | .error s=>(snX s,st)
  | .ok fresh=>match hE_ F kind c.prot c.lba c.blocks st.ops ((bs.drop c.lba).take c.blocks) with
   | (.error s,k)=>(snX s,more st k)
   | (.ok L,k)=>match s8_ (cT_ false L) (cT_ false (cd_ (decide (c.prot≠0)) (l.take (szB (decide (c.prot≠0))*c.blocks)))) with
    | some i=>(snX (atS 14 0x1d00 i),more st k)
    | none=>db_ F file cache (more st k) c.lba fresh c.fua
def yW_ (kind n:Nat) (c:Cm):L8:=
 if c.long=false then lay (lay (List.replicate 8 0) 0 4 (n-1)) 4 4 16
 else((if 0<kind then(lay (lay (List.replicate 32 0) 0 8 (n-1)) 8 4 16).set 12 (UInt8.ofNat ((kind-1)*2+1)) else lay (lay (List.replicate 32 0) 0 8 (n-1)) 8 4 16).set 14 128).take (min (max c.alloc 0) 32).toNat
def doX (F:Int→Bool) (kind n:Nat) (cache:Bool) (file:ByteArray) (st:Wst) (c:Cm) (l:L8):RsX×Wst:=
 if mC_ kind c.prot=false then(snX wz_,st)
 else if c.kind≠13∧c.kind≠6∧n<c.lba+c.blocks then(snX (atS 5 0x2100 c.lba),st)
 else if c.kind=7 then(match hE_ F kind c.prot c.lba c.blocks st.ops (((cv_ st file 0 n).drop c.lba).take c.blocks) with
  | (.error s,k)=>(snX s,more st k)
  | (.ok L,k)=>(okX (cT_ (decide (c.prot≠0)) L),more st k))
 else if c.kind=8∨c.kind=9 then(match kl_ kind c l c.blocks with
  | .error s=>(snX s,st)
  | .ok L=>db_ F file cache st c.lba L (c.fua||decide (c.kind=9)))
 else if c.kind=10 then pA_ F kind st (cv_ st file 0 n) c l
 else if c.kind=11 then(if F (st.ops:Int)=true then(snX wfS,more st 1) else(okX [],jC_ st))
 else if c.kind=12 then t0_ F kind n cache file st c l
 else if c.kind=13 then rK_ F n cache file st l
 else if c.kind=14 then n8_ F kind cache file st (cv_ st file 0 n) c l
 else if c.kind=6 then(okX (yW_ kind n c),st)
 else(snX wA_,st)
section
variable {w u:World} {dv ps pw:Nat} {file:ByteArray} {kind n:Nat} {cache:Bool} {D D':Nat→Prop} {st st':Wst} {bs bs':List Bk} {m m':Nat} {F:Int→Bool}
def fU_ (w:World) (dv ps pw:Nat) (file:ByteArray) (kind n:Nat) (cache:Bool) (D:Nat→Prop) (m:Nat) (F:Int→Bool) (X:RsX×Wst) (R:A_→W_):Prop:=
 ∀u D' bs' d,ab_ D w u→Dvq u dv ps pw file kind n cache D' X.2 bs' (m+9000) F→(∀k,D' k→D k∨w.heap.size≤k)→Own u w.heap.size ae_ 1 d (bv X.1.d)→R (rsv X.1.st X.1.sn d).toArray u
theorem fU_.plain {X:RsX×Wst} {R:A_→W_} (h:fU_ w dv ps pw file kind n cache D m F X R) (hd:X.1.d = []) {D':Nat→Prop} {bs':List Bk} (k:ab_ D w u) (hv:Dvq u dv ps pw file kind n cache D' X.2 bs' m' F) (hm:m'≤m+9000) (hD:∀k,D' k→D k∨w.heap.size≤k):R (rsv X.1.st X.1.sn ap_).toArray u:=
 h u D' bs' ap_ k (hv.mono hm) hD (by rw[hd];exact aK_ _ _ _ _)
theorem wD_ (h:Dvq w dv ps pw file kind n cache D st bs m F):cv_ st file 0 n=bs:=by
 have:=tR_ h.tells
 rw[h.len] at this;exact this
theorem Dvq.reads (h:Dvq w dv ps pw file kind n cache D st bs m F) (k:ab_ D w u) {j:Nat} (hr:RdW w u pw D st j):Dvq u dv ps pw file kind n cache D (more st j) bs (m+j) F:=
 h.step k (hr.isWq h.isW) (fun _ q=>.inl q) h.ok h.tells h.len ⟨by show st.ops+j≤_;have:=h.few;omega,by show st.waits.length≤_;have:=h.few;omega⟩
end
open Go CF
section
variable {w u:World} {dv ps pw:Nat} {file:ByteArray} {kind n:Nat} {cache:Bool} {D D':Nat→Prop} {st st':Wst} {bs bs':List Bk} {m m':Nat} {F:Int→Bool}
theorem rL_ {c:Cm} {R:Sl→A_→Bool→W_} (h:Dvq w dv ps pw file kind n cache D st bs m F) (hm:m≤600000000) (hc:c.lba+c.blocks≤n)
  (hR:match hE_ F kind c.prot c.lba c.blocks st.ops ((bs.drop c.lba).take c.blocks) with
   | (.ok L,k)=>L=(bs.drop c.lba).take c.blocks→k=c.blocks→∀xs u,ab_ D w u→RdW w u pw D st k→Own u w.heap.size av_ 19 xs (L.flatMap bc)→R xs (rsv 0 sn0 ap_).toArray true u
   | (.error s,k)=>k≤c.blocks→∀u,ab_ D w u→RdW w u pw D st k→R ap_ (rsv 2 s ap_).toArray false u) :
  gx_ (some ⟨dv,0,none⟩) (cmv c).toArray w R:=by
 refine gD_.calls _ _ _ _ ?_
 have hlen:=h.len
 have hsz:=h.size
 refine ah_ fun cb w0 hcb hb0 hg0 hsz0=>?_
 have hb0:Blk w0 cb (cmv c).toArray aD_:=hb0
 refine ah_ fun ab w1 hab hb1 hg1 hsz1=>?_
 rintro w2 rfl
 have hg2:ac_ w1 w1.drew:=aq_ w1
 have hgw2:=(hg0.trans hg1).trans hg2
 have hw2:=h.grow hgw2
 have hc2:Blk w1.drew cb (cmv c).toArray aD_:=(hg1.trans hg2).heap hb0 (fun q=>q)
 have c2:∀{v:World},Blk v cb (cmv c).toArray aD_→v.cell? ((⟨cb,0,none⟩:Addr).add 2)=some (.int .u64 (c.lba:Int)):=fun q=>by rw[am_,q.cell];rfl
 have c3:∀{v:World},Blk v cb (cmv c).toArray aD_→v.cell? ((⟨cb,0,none⟩:Addr).add 3)=some (.int .u64 (c.blocks:Int)):=fun q=>by rw[am_,q.cell];rfl
 have c6:∀{v:World},Blk v cb (cmv c).toArray aD_→v.cell? ((⟨cb,0,none⟩:Addr).add 6)=some (.int .u8 (c.prot:Int)):=fun q=>by rw[am_,q.cell];rfl
 refine⟨fun v=>Blk v dv (cU_ ps kind) bO_∧Blk v cb (cmv c).toArray aD_,⟨hw2.dev,hc2⟩,rfl,some ⟨ps,0,none⟩,fun v hv=>px_ hv.1,(c.lba:Int),fun v hv=>c2 hv.2,(c.blocks:Int),fun v hv=>c3 hv.2,?_⟩
 rw[w64 (n:=(c.lba:Int)) o_ o_,w64 (n:=(c.blocks:Int)) o_ o_]
 have hfew:=h.few
 refine oB_ hw2.isS hw2.nps hw2.isW h.nm hsz.2 hc o_ (fun hfl xs w3 hk3 hw3 hown3 hn3=>al_ rfl ?_) (fun k hkl hfl hf w3 hk3 hw3=>ao_ rfl ?_)
 case refine_2=>
  have lt0:=fun k (q:D k)=>h.isW.lt q
  have hc3:Blk w3 cb (cmv c).toArray aD_:=hk3.heap hc2 fun q=>by have:=lt0 _ q;omega
  refine⟨(c.lba:Int),c2 hc3,?_⟩
  rw[ea_ (n:=(k:Int)) o_ o_,ea_ o_ o_,show((c.lba:Int)+(k:Int))=((c.lba+k:Nat):Int) by omega]
  refine la_ (key:=3) fun w4 hg4=>?_
  have ha4:Blk w4 ab _ aa_:=hg4.heap (hk3.heap (hg2.heap hb1 (fun q=>q)) (fun q=>by have:=lt0 _ q;omega)) (fun q=>q)
  refine bm_ ha4 rfl fun w5 hk5=>?_
  have hkw:ab_ D w w4:=((hgw2.mono fun _ _ q=>q.elim).trans hk3 fun _ _ q=>q).grow hg4
  have hab2:w.heap.size≤ab:=by have:=hg0.size;omega
  unfold hE_ at hR
  rw[lR_ hkl hfl hf] at hR
  exact hR o_ w5 (hkw.trans hk5 fun i hi q=>o_) (((hw3.pre hgw2).grow hg4).keep hk5 (fun k hk q=>by have:=lt0 _ hk;omega) (fun g cur hg q=>by subst q;exact absurd (bs_ ha4 hg) d_))
 rw[tY_ h.tells o_] at hown3
 have hLl:((bs.drop c.lba).take c.blocks).length=c.blocks:=by rw[List.length_take,List.length_drop];omega
 unfold hE_ at hR
 rw[i9_ hfl] at hR
 generalize (bs.drop c.lba).take c.blocks=L at *
 have lt0:=fun k (q:D k)=>h.isW.lt q
 have hkw3:ab_ D w w3:=(hgw2.mono fun _ _ q=>q.elim).trans hk3 fun _ _ q=>q
 have hc3:Blk w3 cb (cmv c).toArray aD_:=hk3.heap hc2 fun q=>by have:=lt0 _ q;omega
 have hd3:Blk w3 dv (cU_ ps kind) bO_:=hk3.heap hw2.dev h.ndv
 have ha3:∀{cs},Blk w1 ab cs aa_→Blk w3 ab cs aa_:=fun q=>hk3.heap (hg2.heap q (fun q=>q)) fun q=>by have:=lt0 _ q;omega
 have hown3:Own w3 w.heap.size av_ 19 xs (L.flatMap bc):=hown3.mono hgw2.size
 have hxr:=hown3.rd o_
 have s2:=hgw2.size
 have s3:=hkw3.size
 refine⟨fun x v=>∃j:Nat,x=j∧j≤L.length∧ac_ w3 v∧∀i (hi:i<L.length),i<j→c3_ kind c.prot (c.lba+i) L[i]=0,fun x _=>L.length-x.toNat,⟨0,rfl,Nat.zero_le _,ab_.refl _ _,fun _ _ q=>absurd q (Nat.not_lt_zero _)⟩,?_⟩
 rintro x v ⟨j,rfl,hj,hgv,hall⟩
 have hav:Blk v ab _ aa_:=hgv.heap (ha3 hb1) (fun q=>q)
 have fin:∀{y:World},ac_ w3 y→∀{z:World},ab_ (fun k=>k=ab) y z→ab_ D w z∧RdW w z pw D st c.blocks:=fun {y} hy {z} hz=>by
  have hgz:ac_ w3 y:=hy
  have hzD:ab_ (fun k=>k=ab) w3 z:=(hgz.mono fun _ _ q=>q.elim).trans hz fun _ _ q=>q
  refine⟨⟨hzD.os.trans hkw3.os,hzD.tape.trans hkw3.tape,hzD.output.trans hkw3.output,Nat.le_trans hkw3.size hzD.size,fun k hk hn=>?_⟩,?_⟩
  ·rw[hzD.block k o_ o_,hkw3.block k hk hn]
  ·refine((hw3.pre hgw2).grow hgz).keep hz (fun k hk q=>?_) (fun g cur hg q=>?_)
   ·have:=lt0 _ hk;omega
   ·subst q
    have:=hgz.heap (ha3 hb1) (fun q=>q)
    exact absurd (bs_ this hg) d_
 refine bh_ (fun hlt=>?_) (fun hge=>?_)
 ·have hjL:j<L.length:=o_
  obtain⟨a0,ha0,hc0⟩:=jA_ (hxr.grow hgv) hjL
  refine⟨⟨o_,o_,by rw[ha0];rfl⟩,(bc L[j]).toArray,by rw[ha0,Int.toNat_natCast];exact oE_ hc0,?_⟩
  refine ah_ fun bb w4 hbb hb4 hg4 hsz4=>?_
  refine ar_ (cells:=(bc L[j]).toArray) hb4 bA_ (by simp[ck_]) (by simp[ck_]) (k9_ _) fun w5 hb5 hk5 hsz5=>?_
  have hg5:ac_ v w5:=hg4.keep hk5 fun i hi q=>o_
  have hg35:=hgv.trans hg5
  have hc5:=hg35.heap hc3 (fun q=>q)
  refine⟨(c.lba:Int),c2 hc5,?_⟩
  rintro w6 rfl
  have hg6:ac_ w5 w5.drew:=aq_ w5
  have hg36:=hg35.trans hg6
  refine⟨fun y=>Blk y dv (cU_ ps kind) bO_∧Blk y cb (cmv c).toArray aD_∧Blk y bb (bc L[j]).toArray av_,⟨hg36.heap hd3 (fun q=>q),hg36.heap hc3 (fun q=>q),hg6.heap hb5 (fun q=>q)⟩,rfl,(kind:Int),fun y hy=>tX_ hy.1,(c.prot:Int),fun y hy=>c6 hy.2.1,
   (bc L[j]).toArray,fun y hy=>oE_ (ax_ hy.2.2),?_⟩
  have e1:IntKind.wrap .u64 ((c.lba:Int)+IntKind.wrap .u64 (j:Int))=((c.lba+j:Nat):Int):=by
   rw[ea_ (n:=(j:Int)) o_ o_,ea_ o_ o_];omega
  rw[e1]
  refine mD_ fun w7 hg7=>?_
  have hg37:=hg36.trans hg7
  by_cases hz:c3_ kind c.prot (c.lba+j) L[j]=0
  ·refine al_ (by rw[hz];rfl) ?_
   rw[w64 o_ o_]
   refine⟨⟨j+1,o_,o_,hg37,fun i hi q=>?_⟩,by dsimp only;omega⟩
   by_cases e:i=j
   ·subst e;exact hz
   ·exact hall i hi o_
  ·refine ao_ (by rw[bne_iff_ne];omega) ?_
   refine la_ (key:=11) fun w8 hg8=>?_
   have hg38:=hg37.trans hg8
   refine bm_ (hg38.heap (ha3 hb1) (fun q=>q)) rfl fun w9 hk9=>?_
   obtain⟨f1,f2⟩:=fin hg38 hk9
   rw[oI_ hjL hz fun j' hj'=>hall j' o_ hj'] at hR
   have:=hR (Nat.le_refl _) w9 f1 f2
   unfold qN_ at this
   rw[lb_ hjL] at this
   exact this
 ·refine bm_ (st:=0) (s:=sn0) (d:=ap_) hav rfl fun w4 hk4=>?_
  obtain⟨f1,f2⟩:=fin hgv hk4
  rw[lS_ fun i hi=>hall i hi o_] at hR
  refine hR rfl rfl xs w4 f1 f2 ((hown3.grow hgv).keep hk4 fun b hb q=>?_)
  obtain⟨cur,hcur⟩:=aU_ (hown3.grow hgv) hb
  subst q
  exact absurd (bs_ hav hcur) d_
theorem qC_ {lba:Nat} {ls:Sl} {L:List Bk} {fua:Bool} {R:A_→W_} (h:Dvq w dv ps pw file kind n cache D st bs m F) (hm:m≤600000000) (hc:lba+L.length≤n) (hL:∀v,ab_ D w v→Rd v 19 ls (L.flatMap bc))
  (hR:∀u D' bs',ab_ D w u→Dvq u dv ps pw file kind n cache D' (db_ F file cache st lba L fua).2 bs' (m+4097) F→(∀k,D' k→D k∨w.heap.size≤k)→R (rsv (db_ F file cache st lba L fua).1.st (db_ F file cache st lba L fua).1.sn ap_).toArray u):eG_ (some ⟨dv,0,none⟩) (lba:Int) ls fua w R:=by
 have hsz:=h.size
 refine qA_ h hm hc hL (fun hfl u D' hk hd hD=>?_) (fun k hk0 hfl hf u D' hk hd hD=>?_)
 ·unfold db_ iC_ mF_ at hR
  rw[i9_ hfl] at hR
  exact hR u D' _ hk (hd.mono o_) hD
 ·unfold db_ iC_ mF_ at hR
  rw[lR_ hk0 hfl hf] at hR
  exact hR u D' _ hk (hd.mono o_) hD
theorem rM_ {c:Cm} {p:Sl} {l:L8} {N:Nat} {R:Sl→A_→Bool→W_} (hd:Blk w dv (cU_ ps kind) bO_) (hp:Rd w 1 p (bv l)) (hb:p.n≤140737488351232) (hlba:c.lba≤4096) (hN:N≤4096)
  (hR:match kl_ kind c l N with
   | .ok L=>L.length=N→∀xs u,ac_ w u→Own u w.heap.size av_ 19 xs (L.flatMap bc)→R xs (rsv 0 sn0 ap_).toArray true u
   | .error s=>∀u,ac_ w u→R ap_ (rsv 2 s ap_).toArray false u):gy_ (some ⟨dv,0,none⟩) (cmv c).toArray p (N:Int) w R:=by
 unfold kl_ at hR
 refine qB_ hd hp hb hlba hN (fun q u g=>?_) (fun h1 h2 h3 xs u g ho=>?_) (fun h1 h2 h3 h4 xs u g ho=>?_) (fun h1 h2 h3 i hi hz hall u g=>?_)
 ·rw[if_pos q] at hR;exact hR u g
 ·have e:szB (decide (c.prot≠0))=16:=by rw[decide_eq_false (by simpa using h3)];rfl
  rw[e,if_neg o_,if_pos h3] at hR
  exact hR (by rw[ki_,jD_];exact h2) xs u g ho
 ·have e:szB (decide (c.prot≠0))=24:=by rw[decide_eq_true h3];rfl
  rw[e,if_neg o_,if_neg h3,lS_ h4] at hR
  exact hR (by rw[jD_];exact h2) xs u g ho
 ·have e:szB (decide (c.prot≠0))=24:=by rw[decide_eq_true h3];rfl
  rw[e,if_neg o_,if_neg h3,oI_ hi hz hall] at hR
  have:=hR u g
  unfold qN_ at this
  rw[lb_ hi] at this
  exact this
end
open Go CF
section
variable {w u:World} {dv ps pw:Nat} {file:ByteArray} {kind n:Nat} {cache:Bool} {D D':Nat→Prop} {st st':Wst} {bs bs':List Bk} {m m':Nat} {F:Int→Bool}
theorem Dvq.put' (h:Dvq w dv ps pw file kind n cache D st bs m F) {ab:Nat} {cs:A_} (hb:Blk w ab cs aa_) (hn:¬D ab) (hk:ab_ (fun k=>k=ab) w u):Dvq u dv ps pw file kind n cache D st bs m F:=
 h.put hb lQ_ d_ d_ hn hk
theorem rN_ {D D2:Nat→Prop} {w y:World} (hs:w.heap.size≤y.heap.size) (h:∀k,D2 k→D k∨y.heap.size≤k):∀k,D2 k→D k∨w.heap.size≤k:=fun k q=>by
 rcases h k q with r|r
 ·exact .inl r
 ·exact .inr o_
end
open Go CF
section
variable {w u:World} {dv ps pw:Nat} {file:ByteArray} {kind n:Nat} {cache:Bool} {D D':Nat→Prop} {st st':Wst} {bs bs':List Bk} {m m':Nat} {F:Int→Bool}
end
open Go CF
section
variable {w u:World} {dv ps pw:Nat} {file:ByteArray} {kind n:Nat} {cache:Bool} {D D':Nat→Prop} {st st':Wst} {bs bs':List Bk} {m m':Nat}
end
open Go CF
section
variable {w u:World} {dv ps pw:Nat} {file:ByteArray} {kind n:Nat} {cache:Bool} {D D':Nat→Prop} {st st':Wst} {bs bs':List Bk} {m m':Nat} {F:Int→Bool}
end
open Go CF
section
variable {w u:World} {dv ps pw:Nat} {file:ByteArray} {kind n:Nat} {cache:Bool} {D D':Nat→Prop} {st st':Wst} {bs bs':List Bk} {m m':Nat} {F:Int→Bool}
def cG_ (ab:Nat) (R:A_→W_) (g:A_) (v:World):Prop:=ag_ Tryz.prog (storeVar aa_ ⟨ab,0,none⟩ (.agg g)) v fun w'=>∃res:A_,(loadVar aa_ ⟨ab,0,none⟩).run Tryz.prog w'=.ok (.agg res) w'∧R res w'
theorem fU_.hand {X:RsX×Wst} {R:A_→W_} {w3:World} {ab:Nat} (hR:fU_ w dv ps pw file kind n cache D m F X R) (g:ac_ w w3) (lD:∀k,D k→k<w.heap.size) (hab:w.heap.size≤ab) (hb:Blk w3 ab z10 aa_):fU_ w3 dv ps pw file kind n cache D m F X (cG_ ab R):=by
 intro u D' bs' d k hv hD ho
 have nab:¬D ab:=fun q=>by have:=lD _ q;omega
 have hbu:=k.heap hb nab
 have lab:=au_ hb
 have nab2:¬D' ab:=fun q=>by
  rcases hD _ q with r|r
  ·exact nab r
  ·omega
 refine bm_ hbu rfl fun v' hk=>?_
 exact hR v' D' bs' d (eN_ ((g.mono fun _ _ q=>q.elim).trans k fun _ _ q=>q) hab hk) (hv.put' hbu nab2 hk) (rN_ g.size hD) ((ho.mono g.size).keep hk fun b hbb q=>bd_ ho hbu d_ (by rw[hbb,q]))
def oJ_ (b:Bool) (C:O_→A_→Sl→World→(A_→W_)→Prop) (X:(Int→Bool)→Nat→Nat→Bool→ByteArray→Wst→List Bk→Cm→L8→RsX×Wst):Prop:=
 ∀{w:World} {dv ps pw:Nat} {file:ByteArray} {kind n:Nat} {cache:Bool} {D:Nat→Prop} {st:Wst} {bs:List Bk} {m:Nat} {F:Int→Bool} {c:Cm} {p:Sl} {l:L8} {K:A_→W_},Dvq w dv ps pw file kind n cache D st bs m F→m≤400000000→Rd w 1 p (bv l)→p.n≤140737488351232→(∀v,ab_ D w v→Rd v 1 p (bv l))→(b=true→c.lba+c.blocks≤n)→
  fU_ w dv ps pw file kind n cache D m F (X F kind n cache file st bs c l) K→C (some ⟨dv,0,none⟩) (cmv c).toArray p w K
structure pB_ (k:Nat):Prop where
 read:k=7→∀{w:World} {dv ps pw:Nat} {file:ByteArray} {kind n:Nat} {cache:Bool} {D:Nat→Prop} {st:Wst} {bs:List Bk} {m:Nat} {F:Int→Bool} {c:Cm} {R:Sl→A_→Bool→W_},Dvq w dv ps pw file kind n cache D st bs m F→m≤600000000→c.lba+c.blocks≤n→
  (match hE_ F kind c.prot c.lba c.blocks st.ops ((bs.drop c.lba).take c.blocks) with
   | (.ok L,k)=>L=(bs.drop c.lba).take c.blocks→k=c.blocks→∀xs u,ab_ D w u→RdW w u pw D st k→Own u w.heap.size av_ 19 xs (L.flatMap bc)→R xs (rsv 0 sn0 ap_).toArray true u
   | (.error s,k)=>k≤c.blocks→∀u,ab_ D w u→RdW w u pw D st k→R ap_ (rsv 2 s ap_).toArray false u)→gx_ (some ⟨dv,0,none⟩) (cmv c).toArray w R
 write:k=8∨k=9→∀{w:World} {dv ps pw:Nat} {file:ByteArray} {kind n:Nat} {cache:Bool} {D:Nat→Prop} {st:Wst} {bs:List Bk} {m:Nat} {F:Int→Bool} {lba:Nat} {ls:Sl} {L:List Bk} {fua:Bool} {R:A_→W_},Dvq w dv ps pw file kind n cache D st bs m F→m≤600000000→lba+L.length≤n→(∀v,ab_ D w v→Rd v 19 ls (L.flatMap bc))→
  (∀u D' bs',ab_ D w u→Dvq u dv ps pw file kind n cache D' (db_ F file cache st lba L fua).2 bs' (m+4097) F→(∀k,D' k→D k∨w.heap.size≤k)→R (rsv (db_ F file cache st lba L fua).1.st (db_ F file cache st lba L fua).1.sn ap_).toArray u)→eG_ (some ⟨dv,0,none⟩) (lba:Int) ls fua w R
 verify:k=10→oJ_ true j1_ fun F kind _ _ _ st bs c l=>pA_ F kind st bs c l
 same:k=12→oJ_ true ma_ fun F kind n cache file st _ c l=>t0_ F kind n cache file st c l
 unmap:k=13→oJ_ false (fun d _ p w K=>kX_ d p w K) fun F _ n cache file st _ _ l=>rK_ F n cache file st l
 compare:k=14→oJ_ true jq_ fun F kind _ cache file st bs c l=>n8_ F kind cache file st bs c l
 cap:k=6→oJ_ false (fun d c _ w K=>iP_ d c w K) fun _ kind n _ _ st _ c _=>(okX (yW_ kind n c),st)
theorem p5_ {c:Cm} {p:Sl} {l:L8} {R:A_→W_} (hN:pB_ c.kind) (h:Dvq w dv ps pw file kind n cache D st bs m F) (hm:m≤400000000) (hp:Rd w 1 p (bv l)) (hb:p.n≤140737488351232) (hpk:∀v,ab_ D w v→Rd v 1 p (bv l)) (hlb:c.lba<18446744073709551616) (hbl:c.blocks<18446744073709551616)
  (hR:fU_ w dv ps pw file kind n cache D m F (doX F kind n cache file st c l) R):bW_ (some ⟨dv,0,none⟩) (cmv c).toArray p w R:=by
 refine h8_.calls _ _ _ _ _ ?_
 have hsz:=h.size
 have hlen:=h.len
 have hfew:=h.few
 unfold doX at hR
 rw[wD_ h] at hR
 refine ah_ fun cb w0 hcb hb0 hg0 hsz0=>?_
 have hb0:Blk w0 cb (cmv c).toArray aD_:=hb0
 refine ah_ fun ab w1 hab hb1 hg1 hsz1=>?_
 have hb1:Blk w1 ab z10 aa_:=hb1
 have hgw1:=hg0.trans hg1
 have hc1:Blk w1 cb (cmv c).toArray aD_:=hg1.heap hb0 (fun q=>q)
 have hD1:=h.grow hgw1
 have cAt:∀{v:World} {i:Nat} {x:Value},ac_ w1 v→(cmv c).toArray[i]?=some x→v.cell? ((⟨cb,0,none⟩:Addr).add i)=some x:=fun g e=>by rw[am_,Blk.cell (g.heap hc1 (fun q=>q)),Nat.zero_add];exact e
 have lD:=fun k (q:D k)=>h.isW.lt q
 have nab:¬D ab:=fun q=>by have:=lD _ q;omega
 have ncb:¬D cb:=fun q=>by have:=lD _ q;omega
 have sw:=hg0.size
 have hab':w.heap.size≤ab:=o_
 have fin:∀{X:RsX} {v:World},X.d = []→fU_ w dv ps pw file kind n cache D m F (X,st) R→ac_ w1 v→cG_ ab R (rsv X.st X.sn ap_).toArray v:=fun {X v} e hR g=>bm_ (g.heap hb1 (fun q=>q)) rfl fun v' hk=>by
  have g2:=cF_ (hgw1.trans g) hab' hk
  exact hR.plain e (g2.mono fun _ _ q=>q.elim) (h.grow g2) o_ fun _ q=>.inl q
 refine⟨fun _=>rfl,some ⟨ps,0,none⟩,fun _=>px_ hD1.dev,al_ rfl ?_⟩
 rintro w2 rfl
 have hg2:ac_ w1 w1.drew:=aq_ w1
 refine⟨fun v=>ac_ w1 v,hg2,rfl,(kind:Int),fun v hv=>tX_ (hD1.grow hv).dev,(c.prot:Int),fun v hv=>cAt hv rfl,tZ_ ?_⟩
 by_cases hkn:mC_ kind c.prot=false
 ·rw[if_pos hkn] at hR
  exact ao_ (by rw[hkn];rfl) (hD_ (s:=wz_) fun w3 hg3=>fin (X:=snX wz_) rfl hR (hg2.trans hg3))
 rw[if_neg hkn] at hR
 refine al_ (by simp only[Bool.not_eq_false] at hkn;rw[hkn];rfl) ?_
 rintro w3 rfl
 have hg3:ac_ w1 w1.drew.drew:=hg2.trans (aq_ _)
 refine⟨fun v=>ac_ w1 v,hg3,(c.lba:Int),fun v hv=>cAt hv rfl,(c.blocks:Int),fun v hv=>cAt hv rfl,sA_ (hD1.grow hg3) ⟨hg3,?_⟩⟩
 refine sy_ hlb hbl o_ ⟨hg3,fun v=>ac_ w1 v,hg3,fun _ q=>q,(c.kind:Int),fun _ v hv=>cAt hv rfl,fun v=>ac_ w1 v,hg3,fun _ q=>q,(c.kind:Int),fun _ v hv=>cAt hv rfl,?_⟩
 by_cases hin:c.kind≠13∧c.kind≠6∧n<c.lba+c.blocks
 ·rw[if_pos hin] at hR
  refine ao_ (by rw[Bool.and_eq_true,Bool.and_eq_true,Bool.not_eq_true',decide_eq_false_iff_not,bne_iff_ne,bne_iff_ne];omega) ⟨(c.lba:Int),cAt hg3 rfl,la_ (key:=5) fun w4 hg4=>fin (X:=snX (atS 5 0x2100 c.lba)) rfl hR (hg3.trans hg4)⟩
 rw[if_neg hin] at hR
 refine al_ (by rw[Bool.and_eq_false_iff,Bool.and_eq_false_iff,Bool.not_eq_false',decide_eq_true_eq,bne_eq_false_iff_eq,bne_eq_false_iff_eq];omega) ⟨(c.kind:Int),cAt hg3 rfl,?_⟩
 generalize w1.drew.drew=w3 at *
 have hb3:Blk w3 ab z10 aa_:=hg3.heap hb1 (fun q=>q)
 have hc3:Blk w3 cb (cmv c).toArray aD_:=hg3.heap hc1 (fun q=>q)
 have cl:(loadVar aD_ ⟨cb,0,none⟩).run Tryz.prog w3=.ok (.agg (cmv c).toArray) w3:=oG_ (ax_ hc3)
 have hgw3:=hgw1.trans hg3
 have h3:=h.grow hgw3
 have p3:=hp.grow hgw3
 have s3:=hgw3.size
 have hand:∀{X:RsX×Wst},fU_ w dv ps pw file kind n cache D m F X R→fU_ w3 dv ps pw file kind n cache D m F X (cG_ ab R):=fun hR=>hR.hand hgw3 lD hab' hb3
 have after:∀{y:World} {X:RsX} {x2:Wst} {D2:Nat→Prop} {B2:List Bk} {m2:Nat},X.d = []→fU_ w3 dv ps pw file kind n cache D m F (X,x2) (cG_ ab R)→ab_ D w3 y→Dvq y dv ps pw file kind n cache D2 x2 B2 m2 F→m2≤m+9000→(∀k,D2 k→D k∨w3.heap.size≤k)→∀rb z,Blk z rb (rsv X.st X.sn ap_).toArray aa_→ac_ y z→
   ∃g10:A_,(loadVar aa_ ⟨rb,0,none⟩).run Tryz.prog z=.ok (.agg g10) z∧cG_ ab R g10 z:=fun {y X x2 D2 B2 m2} e hR hky hdy hm2 hD2 rb z hbz hyz=>⟨_,kh_ (ax_ hbz),hR.plain e (hky.grow hyz) (hdy.grow hyz) hm2 hD2⟩
 refine dy_ (fun v=>v=w3∧c.kind≠7∧c.kind≠8∧c.kind≠9∧c.kind≠10∧c.kind≠11∧c.kind≠12∧c.kind≠13∧c.kind≠14∧c.kind≠6) ?_ (fun J=>?_)
 ·rintro v ⟨rfl,a1,a2,a3,a4,a5,a6,a7,a8,a9⟩
  rw[if_neg a1,if_neg o_,if_neg a4,if_neg a5,if_neg a6,if_neg a7,if_neg a8,if_neg a9] at hR
  exact hD_ (s:=wA_) fun w4 hg4=>fin (X:=snX wA_) rfl hR (hg3.trans hg4)
 refine aw_ (fun k7=>⟨_,cl,?_⟩) (fun k7=>?_)
 ·have k7:c.kind=7:=o_
  have hlb7:c.lba+c.blocks≤n:=o_
  rw[if_pos k7] at hR
  refine hN.read k7 h3 o_ hlb7 ?_
  generalize hE_ F kind c.prot c.lba c.blocks st.ops ((bs.drop c.lba).take c.blocks)=Y at hR ⊢
  obtain⟨Y,k⟩:=Y
  cases Y with
  | ok L'=>
   rintro hL' rfl xs w4 hk4 hr4 hown4
   dsimp only at hR
   have hd4:=h3.reads hk4 hr4
   refine ah_ fun rb w5 hrb hb5 hg5 hsz5=>c5_ hb5 rfl fun w6 hb6 hk6 hsz6=>al_ rfl ?_
   have hg46:ac_ w4 w6:=hg5.keep hk6 fun i hi q=>o_
   have hc6:Blk w6 cb (cmv c).toArray aD_:=hg46.heap (hk4.heap hc3 ncb) (fun q=>q)
   refine⟨(c.prot:Int),by rw[am_,hc6.cell];rfl,?_⟩
   have ew:((c.prot:Int) != 0)=decide (c.prot≠0):=by rw[Bool.eq_iff_iff,bne_iff_ne,decide_eq_true_eq];omega
   rw[ew]
   have hown6:=hown4.grow hg46
   have hLl:L'.length≤4096:=by rw[hL',List.length_take,List.length_drop];omega
   refine vg_ (hown6.rd (by have:=hown6.len;rw[fk_] at this;omega)) hLl fun d w7 hown7 hg7=>mE_ fun w8 hg8=>?_
   have s4:=hk4.size
   have s46:=hg46.size
   exact hand hR w8 D bs d (((hk4.grow hg46).grow hg7).grow hg8) ((((hd4.grow hg46).grow hg7).grow hg8).mono o_) (fun _ q=>.inl q) ((hown7.mono o_).grow hg8)
  | error s=>
   intro hkb w4 hk4 hr4
   dsimp only at hR
   have hd4:=h3.reads hk4 hr4
   refine ah_ fun rb w5 hrb hb5 hg5 hsz5=>c5_ hb5 rfl fun w6 hb6 hk6 hsz6=>ao_ rfl ?_
   exact after (X:=snX s) rfl (hand hR) hk4 hd4 o_ (fun _ q=>.inl q) rb w6 hb6 (hg5.keep hk6 fun i hi q=>o_)
 rw[if_neg o_] at hR
 refine bw_ (fun(x:Bool) v=>v=w3∧(x=true↔(c.kind=8∨c.kind=9))) ?_ (fun J1=>aw_ (fun k8=>J1 _ _ ⟨rfl,by rw[beq_iff_eq];omega⟩) (fun k8=>J1 _ _ ⟨rfl,by rw[beq_iff_eq];omega⟩))
 rintro x v ⟨rfl,hx⟩
 by_cases k89:c.kind=8∨c.kind=9
 ·rw[if_pos k89] at hR
  refine ao_ (hx.2 k89) ⟨_,cl,(c.blocks:Int),by rw[am_,hc3.cell];rfl,?_⟩
  have hlb8:c.lba+c.blocks≤n:=o_
  refine rM_ (N:=c.blocks) h3.dev p3 hb o_ o_ ?_
  generalize kl_ kind c l c.blocks=X at hR ⊢
  cases X with
  | error s=>
   intro y hy
   dsimp only at hR
   refine ah_ fun rb w5 hrb hb5 hg5 hsz5=>c5_ hb5 rfl fun w6 hb6 hk6 hsz6=>ao_ rfl ?_
   exact after (X:=snX s) rfl (hand hR) (hy.mono fun _ _ q=>q.elim) (h3.grow hy) o_ (fun _ q=>.inl q) rb w6 hb6 (hg5.keep hk6 fun i hi q=>o_)
  | ok L=>
   intro hL xs y hy hown
   dsimp only at hR
   refine ah_ fun rb w5 hrb hb5 hg5 hsz5=>c5_ hb5 rfl fun w6 hb6 hk6 hsz6=>al_ rfl ?_
   have hyz:ac_ y w6:=hg5.keep hk6 fun i hi q=>o_
   have hvz:=hy.trans hyz
   have hcz:Blk w6 cb (cmv c).toArray aD_:=hvz.heap hc3 (fun q=>q)
   refine⟨(c.lba:Int),by rw[am_,hcz.cell];rfl,c.fua,by rw[am_,hcz.cell];rfl,(c.kind:Int),fun _=>by rw[am_,hcz.cell];rfl,?_⟩
   have e9:((c.kind:Int)==9)=decide (c.kind=9):=by
    rw[Bool.eq_iff_iff,beq_iff_eq,decide_eq_true_eq];omega
   rw[e9]
   have hz:=h3.grow hvz
   have svz:=hvz.size
   have eD:(db_ F file cache st c.lba L (c.fua||decide (c.kind=9))).1.d = []:=by unfold db_ iC_;split<;>rfl
   refine hN.write k89 (L:=L) hz o_ o_ (fun z' hk'=>?_) fun z2 D2 B2 hk2 hd2 hD2=>?_
   ·have ho:Own z' v.heap.size av_ 19 xs (L.flatMap bc):=(hown.grow hyz).keep hk' fun b hbb q=>by
     have:=((hown.grow hyz).ge b hbb).1
     have:=lD _ q
     omega
    exact ho.rd (by have:=ho.len;rw[fk_] at this;omega)
   ·exact(hand hR).plain eD ((hvz.mono fun _ _ q=>q.elim).trans hk2 fun _ _ q=>q) hd2 o_ (rN_ svz hD2)
 rw[if_neg k89] at hR
 refine al_ (by cases hxx:x with|false=>rfl|true=>exact absurd (hx.1 hxx) k89) ?_
 have hpk3:∀z,ab_ D v z→Rd z 1 p (bv l):=fun z k=>hpk z ((hgw3.mono fun _ _ q=>q.elim).trans k fun _ _ q=>q)
 refine aw_ (fun k=>⟨_,cl,?_⟩) (fun k10=>aw_ (fun k=>?_) (fun k11=>aw_ (fun k=>⟨_,cl,?_⟩) (fun k12=>aw_ (fun k=>?_) (fun k13=>aw_ (fun k=>⟨_,cl,?_⟩) (fun k14=>aw_ (fun k=>⟨_,cl,?_⟩) (fun k6=>J v ⟨rfl,o_,o_,o_,o_,o_,o_,o_,o_,o_⟩))))))
 ·rw[if_pos o_] at hR
  exact hN.verify o_ h3 hm p3 hb hpk3 (fun _=>o_) (hand hR)
 ·rw[if_neg o_,if_pos o_] at hR
  refine⟨rfl,some ⟨ps,0,none⟩,px_ h3.dev,?_⟩
  refine pv_ h3.isS h3.nps h3.isW h.ok o_ o_ (fun hfl y D2 hk2 hw2 hD2 hS2=>al_ rfl (mE_ fun z hz=>?_)) (fun hfl y hk2 hw2 hS2=>ao_ rfl (hD_ (s:=wfS) fun z hz=>?_))
  ·rw[if_neg (by rw[hfl];exact Bool.noConfusion)] at hR
   have hdy:Dvq y dv ps pw file kind n cache D2 (jC_ st) bs (m+1) F:=h3.step hk2 hw2 hD2 (fun c q=>by cases q) h.tells h.len ⟨by show st.ops+1≤_;omega,Nat.zero_le _⟩
   exact(hand hR).plain rfl (hk2.grow hz) (hdy.grow hz) o_ hD2
  ·rw[if_pos hfl] at hR
   have hdy:Dvq y dv ps pw file kind n cache D (more st 1) bs (m+1) F:=h3.step hk2 hw2 (fun _ q=>.inl q) h.ok h.tells h.len ⟨by show st.ops+1≤_;omega,by show st.waits.length≤_;omega⟩
   exact(hand hR).plain rfl (hk2.grow hz) (hdy.grow hz) o_ fun _ q=>.inl q
 ·rw[if_neg o_,if_neg o_,if_pos o_] at hR
  exact hN.same o_ h3 hm p3 hb hpk3 (fun _=>o_) (hand hR)
 ·rw[if_neg o_,if_neg o_,if_neg o_,if_pos o_] at hR
  exact hN.unmap o_ (c:=c) h3 hm p3 hb hpk3 (fun q=>by cases q) (hand hR)
 ·rw[if_neg o_,if_neg o_,if_neg o_,if_neg o_,if_pos o_] at hR
  exact hN.compare o_ h3 hm p3 hb hpk3 (fun _=>o_) (hand hR)
 ·rw[if_neg o_,if_neg o_,if_neg o_,if_neg o_,if_neg o_,if_pos o_] at hR
  exact hN.cap o_ (p:=p) (l:=l) h3 hm p3 hb hpk3 (fun q=>by cases q) (hand hR)
theorem nb_ {k:Nat} (h:k=7∨k=8∨k=9):pB_ k:=
 ⟨fun _=>rL_,fun _=>qC_,fun q=>o_,fun q=>o_,fun q=>o_,fun q=>o_,fun q=>o_⟩
end
open Go CF
def s4:L8:=[83,76,79,84]
def ja_ (g:Nat) (p:L8):L8:=s4++beN 8 g++beN 4 p.length++p
def iN_ (g:Nat) (p:L8):L8:=ja_ g p++beN 4 (c32 (ja_ g p))
theorem p6_ (g:Nat) (p:L8):(ja_ g p).length=16+p.length:=by simp[ja_,s4,bH_];omega
theorem n9_ (g:Nat) (p:L8):(iN_ g p).length=20+p.length:=by simp[iN_,p6_,bH_];omega
theorem x3_ (c:Nat):beN 4 c = [UInt8.ofNat (c/2 ^ 24),UInt8.ofNat (c/2 ^ 16),UInt8.ofNat (c/2 ^ 8),UInt8.ofNat c]:=by
 simp[beN]
theorem zv_ (g:Nat):lay (s4++List.replicate 12 0) 4 8 g=s4++beN 8 g++List.replicate 4 0:=rfl
theorem zw_ (g n:Nat):lay (s4++beN 8 g++List.replicate 4 0) 12 4 n=s4++beN 8 g++beN 4 n:=by
 simp[lay,s4,beN]
theorem gK_ {w:World} {base:Nat} {e:TypeId} {s:Sl} {l:L8} (h:Own w base e 1 s (bv l)):s.n=l.length:=by have:=h.len;rw[az_] at this;omega
theorem wE_ {w:World} {s:Sl} {l:L8} (h:Rd w 1 s (bv l)):l.length=s.n:=by have:=h.len;rw[az_] at this;omega
theorem rO_ {w u u':World} {base:Nat} {e:TypeId} {z:Nat} {s:Sl} {vs:List Value} (hg:ac_ w u) (ho:Own u base e z s vs) (hb:w.heap.size≤base) (hk:ab_ (fun k=>some k=s.blk) u u'):ac_ w u':=
 hg.keep hk fun i hi q=>by have:=(ho.ge i q.symm).1;omega
theorem nq_ {p:Sl} {l:L8} {g:Nat} {w:World} {R:Sl→Int→W_} (hp:Rd w 1 p (bv l)) (hg:g<18446744073709551616)
  (h1:4096<l.length→R ⟨none,0,0⟩ 2 w) (h2:l.length≤4096→∀s w',Own w' w.heap.size ae_ 1 s (bv (iN_ g l))→ac_ w w'→s.n=20+l.length→R s 0 w'):iI_ (g:Int) p w R:=by
 refine gH_.calls _ _ _ _ ?_
 have hln:=wE_ hp
 refine a6_ (fun q=>h1 o_) (fun q=>?_)
 have hle:l.length≤4096:=o_
 refine⟨⟨some ⟨w.heap.size,0,none⟩,4,4⟩,w.alloc (.cells (bv s4).toArray ae_),k_,⟨some ⟨w.heap.size,0,none⟩,4,4⟩,_,Go.Lib.run_convert_bytes_const w aE_ ae_ _ 4 4 aN_ eH_,?_⟩
 have hg0:ac_ w (w.alloc (.cells (bv s4).toArray ae_ ((bv s4).toArray.size,(bv s4).toArray.size+1))):=eS_ w _
 have hrd0:Rd (w.alloc (.cells (bv s4).toArray ae_ ((bv s4).toArray.size,(bv s4).toArray.size+1))) 1 ⟨some ⟨w.heap.size,0,none⟩,4,4⟩ (bv s4):=by
  refine⟨rfl,Nat.le_refl _,by show 4≤_;decide,fun _=>⟨_,rfl,fun j v hj=>?_⟩⟩
  rw[am_,Nat.zero_add]
  unfold World.cell?
  simp only[World.alloc,Array.getElem?_push,if_true]
  simpa using hj
 generalize w.alloc (.cells (bv s4).toArray ae_ ((bv s4).toArray.size,(bv s4).toArray.size+1))=w0 at *
 refine np_ (s:=⟨some ⟨w.heap.size,0,none⟩,4,4⟩) (k:=12) (base:=w.heap.size) aN_ qI_ bG_ rfl hrd0 (by show 4<4+12;decide) d_ (by show 4+12≤_;decide) hg0.size fun s1 w1 hn1 hown1 hg1 _=>?_
 have hrep:(List.replicate 12 (Value.int .u8 0))=bv (List.replicate 12 0):=by simp[bv]
 rw[hrep,←bN_] at hown1
 have hn1:s1.n=16:=hn1
 refine n4_ (at_:=4) (n:=8) (hown1.rd o_) o_ d_ d_ d_ hg fun s2 w2 hown2 hg2=>?_
 rw[zv_] at hown2
 have hn2:s2.n=16:=gK_ hown2
 have e1:IntKind.wrap .u64 (p.n:Int)=((l.length:Nat):Int):=by rw[ea_ o_ o_,hln]
 rw[e1]
 refine n4_ (at_:=12) (n:=4) (hown2.rd o_) o_ d_ d_ (by simp[s4,bH_]) o_ fun s3 w3 hown3 hg3=>?_
 rw[zw_] at hown3
 have hn3:s3.n=16:=gK_ hown3
 have hgw3:ac_ w w3:=((hg0.trans hg1).trans hg2).trans hg3
 have hgw2:ac_ w w2:=(hg0.trans hg1).trans hg2
 have hown3:=Own.mono (base':=w.heap.size) hown3 hgw2.size
 refine aS_ aN_ bG_ rfl d_ d_ hown3 (hp.grow hgw3) (cr_ _) (by rw[hn3];omega) hgw3.size fun s5 w4 hn4 hown4 hk4 _=>?_
 have hgw4:=rO_ hgw3 hown3 (Nat.le_refl _) hk4
 rw[←bN_] at hown4
 have hown4:Own w4 w.heap.size ae_ 1 s5 (bv (ja_ g l)):=hown4
 have hn5:s5.n=16+l.length:=by rw[gK_ hown4,p6_]
 refine mz_ (hown4.rd o_) ?_
 rw[shr .u32 _ 24 d_,shr .u32 _ 16 d_,shr .u32 _ 8 d_,be_,be_,be_,be_]
 refine aH_ (cells:=(bv (beN 4 (c32 (ja_ g l)))).toArray) (e:=ae_) (z:=1) (base:=w.heap.size) (by rw[x3_];kernel_rfl) (by simp[az_,bH_]) d_ hgw4.size fun w5 hlit5 hg5 _=>?_
 refine aS_ aN_ bG_ rfl d_ d_ (hown4.grow hg5) (hlit5.rd (by show 4≤_;decide)) (by simpa using cr_ (beN 4 (c32 (ja_ g l)))) (by rw[hn5];show(16+l.length+4)*1≤_;omega) (hgw4.trans hg5).size fun s6 w6 hn6 hown6 hk6 _=>?_
 have hgw6:=rO_ (hgw4.trans hg5) (hown4.grow hg5) (Nat.le_refl _) hk6
 have e2:(bv (beN 4 (c32 (ja_ g l)))).toArray.toList=bv (beN 4 (c32 (ja_ g l))):=rfl
 rw[e2,←bN_] at hown6
 exact h2 hle s6 w6 hown6 hgw6 (by rw[hn6,hn5];show 16+l.length+4=_;omega)
def ee_ (l:L8):Nat×L8×Nat:=
 if l.length<20∨l.take 4≠s4 then(0,[],3)
 else if 4096<num ((l.drop 12).take 4)∨l.length<20+num ((l.drop 12).take 4) then(0,[],3)
 else if num ((l.drop (16+num ((l.drop 12).take 4))).take 4)≠c32 (l.take (16+num ((l.drop 12).take 4))) then(0,[],5)
 else(num ((l.drop 4).take 8),(l.drop 16).take (num ((l.drop 12).take 4)),0)
theorem x4_ {l:L8} (h20:¬l.length<20) (hs:l.take 4=s4):ee_ l =
  if 4096<num ((l.drop 12).take 4)∨l.length<20+num ((l.drop 12).take 4) then(0,[],3)
  else if num ((l.drop (16+num ((l.drop 12).take 4))).take 4)≠c32 (l.take (16+num ((l.drop 12).take 4))) then(0,[],5)
  else(num ((l.drop 4).take 8),(l.drop 16).take (num ((l.drop 12).take 4)),0):=by
 unfold ee_
 rw[if_neg (fun q=>q.elim (fun q=>absurd q h20) (fun q=>q hs))]
theorem vj_:uW_=str s4:=d_
theorem iQ_ {p:Sl} {l:L8} {w:World} {R:Int→Sl→Int→W_} (hp:Rd w 1 p (bv l))
  (h:∀s w',Own w' w.heap.size ae_ 1 s (bv (ee_ l).2.1)→ac_ w w'→R (((ee_ l).1:Nat):Int) s (((ee_ l).2.2:Nat):Int) w'):iH_ p w R:=by
 refine gF_.calls _ _ _ ?_
 have hln:=wE_ hp
 have hnb:=hp.nb
 have hcap:=hp.cap
 by_cases h20:l.length<20
 ·have hd:decide ((p.n:Int)<20)=true:=decide_eq_true o_
  have e:ee_ l=(0,[],3):=by unfold ee_;rw[if_pos (.inl h20)]
  rw[e] at h
  exact⟨fun q=>(by rw[hd] at q;cases q),⟨#[]⟩,fun q=>(by rw[hd] at q;cases q),ao_ (by rw[hd];rfl) (h _ w (aK_ _ _ _ _) (ab_.refl _ _))⟩
 have hd:decide ((p.n:Int)<20)=false:=decide_eq_false o_
 have hx:Rd w 1 ⟨aP_ p.A p.c 0 1,4-0,p.c-0⟩ (bv (l.take 4)):=hp.cutB (l:=0) (k:=4) d_ o_
 refine⟨fun _=>⟨d_,d_,o_,hcap⟩,str (l.take 4),fun _=>cj_ (s:=⟨aP_ p.A p.c 0 1,4-0,p.c-0⟩) aN_ eH_ dq_ hx,?_⟩
 rw[vj_,kV_,hd,Bool.false_or]
 by_cases hs:l.take 4=s4
 case neg=>
  have e:ee_ l=(0,[],3):=by unfold ee_;rw[if_pos (.inr hs)]
  rw[e] at h
  exact ao_ (by rw[decide_eq_false hs];rfl) (h _ w (aK_ _ _ _ _) (ab_.refl _ _))
 refine al_ (by rw[decide_eq_true hs];rfl) ?_
 refine cC_ (at_:=4) (n:=8) hp hnb d_ d_ o_ ?_
 refine cC_ (at_:=12) (n:=4) hp hnb d_ d_ o_ ?_
 have hn4:num ((l.drop 12).take 4)<4294967296:=tK_ _ (by simp;omega)
 have hN:=x4_ h20 hs
 generalize hn:num ((l.drop 12).take 4)=n at *
 have e1:IntKind.wrap .i64 ((n:Nat):Int)=(n:Int):=w64 o_ o_
 have e2:IntKind.wrap .i64 ((p.n:Int)-20)=(p.n:Int)-20:=w64 o_ o_
 rw[e1,e2]
 by_cases hlong:4096<n∨l.length<20+n
 ·rw[if_pos hlong] at hN
  rw[hN] at h
  exact ao_ (by rw[Bool.or_eq_true,decide_eq_true_eq,decide_eq_true_eq];omega) (h _ w (aK_ _ _ _ _) (ab_.refl _ _))
 rw[if_neg hlong] at hN
 refine al_ (by rw[Bool.or_eq_false_iff,decide_eq_false_iff_not,decide_eq_false_iff_not];omega) ?_
 have e3:IntKind.wrap .i64 (16+(n:Int))=((16+n:Nat):Int):=by rw[w64 o_ o_];omega
 have e4:IntKind.wrap .u64 (16+(n:Int))=((16+n:Nat):Int):=by rw[ea_ o_ o_];omega
 rw[e3,e4]
 refine cC_ (at_:=16+n) (n:=4) hp hnb d_ d_ o_ ?_
 have hc4:num ((l.drop (16+n)).take 4)<4294967296:=tK_ _ (by simp;omega)
 simp only[Int.toNat_natCast,Nat.sub_zero]
 refine⟨⟨d_,o_,o_,hcap⟩,?_⟩
 have hy:=hp.cutB (l:=0) (k:=16+n) o_ o_
 simp only[List.drop_zero,Nat.sub_zero] at hy
 refine mz_ hy ?_
 rw[jl_ (n:=((num ((l.drop (16+n)).take 4):Nat):Int)) o_ o_]
 by_cases hc:num ((l.drop (16+n)).take 4)=c32 (l.take (16+n))
 case neg=>
  rw[if_pos hc] at hN
  rw[hN] at h
  exact gv_ (fun _=>h _ w (aK_ _ _ _ _) (ab_.refl _ _)) (fun q=>absurd o_ hc)
 rw[if_neg (by simpa using hc)] at hN
 rw[hN] at h
 refine gv_ (fun q=>absurd (by rw[hc]) q) (fun _=>⟨⟨d_,o_,o_,hcap⟩,?_⟩)
 have hz:=hp.cutB (l:=16) (k:=16+n) o_ o_
 rw[show 16+n-16=n by omega] at hz ⊢
 refine aS_ (s:=⟨none,0,0⟩) (vs:=[]) (base:=w.heap.size) aN_ bG_ rfl d_ d_ (aK_ _ _ _ _) hz (cr_ _) (by show(0+n)*1≤_;omega) (Nat.le_refl _) fun s1 w1 hn1 hown1 hk1 _=>?_
 rw[List.nil_append] at hown1
 exact h s1 w1 hown1 (hk1.mono fun i hi q=>by cases q)
open Go CF
def x5_ (pw:Nat) (file:ByteArray) (sure:Bool) (at_:Int) (gen:Nat):A_:=#[.pointer (some ⟨pw,0,none⟩),.string file,.bool sure,.int .i64 at_,.int .u64 (gen:Int)]
abbrev b1_ (w:World) (ss pw:Nat) (file:ByteArray) (sure:Bool) (at_:Int) (gen:Nat):Prop:=Blk w ss (x5_ pw file sure at_ gen) fa_
theorem oK_ {w:World} {pw:Nat} {file:ByteArray} {R:O_→Int→W_} (hs:1≤file.size∧file.size≤30)
  (h:∀ss w',ss=w.heap.size→ac_ w w'→b1_ w' ss pw file false (-1) 0→R (some ⟨ss,0,none⟩) 0 w'):kC_ (some ⟨pw,0,none⟩) file w R:=by
 refine h7_.calls _ _ _ _ ?_
 refine al_ (by rw[Bool.or_eq_false_iff,decide_eq_false_iff_not,decide_eq_false_iff_not];omega) (al_ rfl ?_)
 exact ah_ fun ss w1 hss hb1 hg1 _=>h ss w1 hss hg1 hb1
def nmS (file:ByteArray) (i:Nat):ByteArray:=(file++m3_)++str [UInt8.ofNat (48+i)]
theorem oa_ (file:ByteArray) (i:Nat):(nmS file i).size=file.size+2:=by
 unfold nmS
 rw[ByteArray.size_append,ByteArray.size_append,rn_];rfl
theorem p7_ (a b:ByteArray):ls (a++b)=ls a++ls b:=by
 show(a++b).data.toList=_
 rw[ByteArray.data_append,Array.toList_append];rfl
theorem kJ_ {w:World} {ss pw:Nat} {file:ByteArray} {sure:Bool} {at_:Int} {gen:Nat} {i:Nat} {R:ByteArray→W_} (hS:b1_ w ss pw file sure at_ gen) (hf:file.size≤30) (hi:i<10)
  (h:∀w',ac_ w w'→R (nmS file i) w'):ei_ (some ⟨ss,0,none⟩) (i:Int) w R:=by
 refine ev_.calls _ _ _ _ ?_
 rintro w0 rfl
 have hg0:ac_ w w.drew:=aq_ w
 have e0:m3_.size=1:=d_
 refine⟨fun u=>b1_ u ss pw file sure at_ gen,hg0.heap hS (fun q=>q),rfl,file,fun u hu=>by rw[gA,am_,Blk.cell hu];rfl,o_,?_⟩
 have e1:IntKind.wrap .u8 (IntKind.wrap .i64 (48+(i:Int)))=((UInt8.ofNat (48+i)).toNat:Int):=by
  rw[w64 o_ o_,show(48:Int)+(i:Int)=((48+i:Nat):Int) by omega,be_]
 rw[e1]
 refine aH_ (cells:=(bv [UInt8.ofNat (48+i)]).toArray) (e:=ae_) (z:=1) (base:=0) k_ rfl d_ (Nat.zero_le _) fun w1 hlit1 hg1 _=>⟨(hg0.trans hg1).heap hS (fun q=>q),?_⟩
 have hrd:Rd w1 1 ⟨some ⟨w.drew.heap.size,0,none⟩,1,1⟩ (bv [UInt8.ofNat (48+i)]):=hlit1.rd (by show 1≤_;decide)
 refine⟨fun u=>Rd u 1 ⟨some ⟨w.drew.heap.size,0,none⟩,1,1⟩ (bv [UInt8.ofNat (48+i)])∧b1_ u ss pw file sure at_ gen,⟨hrd,(hg0.trans hg1).heap hS (fun q=>q)⟩,fun u hu=>hu.2,str [UInt8.ofNat (48+i)],
  fun u hu=>cj_ (s:=⟨some ⟨w.drew.heap.size,0,none⟩,1,1⟩) aN_ eH_ dq_ hu.1,?_,h w1 (hg0.trans hg1)⟩
 rw[ByteArray.size_append,rn_,e0]
 show file.size+1+1≤_
 omega
def eL_ (x:Int×Nat×L8) (i:Nat) (l:L8):Int×Nat×L8:=if (ee_ l).2.2=0∧(x.1<0∨x.2.1<(ee_ l).1) then((i:Int),(ee_ l).1,(ee_ l).2.1) else x
def ds_ (F:bD_) (file:ByteArray) (i:Nat):L8:=((F (nmS file i)).getD []).take 4116
def ldN (F:bD_) (file:ByteArray):Nat→Int×Nat×L8
 | 0=>(-1,0,[])
 | k+1=>eL_ (ldN F file k) k (ds_ F file k)
theorem ob_ {F:bD_} {file:ByteArray}:∀{k:Nat},(ldN F file k).1<0→ldN F file k=(-1,0,[])
 | 0,_=>rfl
 | k+1,h=>by
  simp only[ldN] at h ⊢
  unfold eL_ at h ⊢
  split
  ·rename_i q
   rw[if_pos q] at h
   simp only at h
   omega
  ·rename_i q
   rw[if_neg q] at h
   exact ob_ h
theorem oL_ {w:World} {ss pw:Nat} {D:Nat→Prop} {st:Wst} {cs:A_} {o:Nat} {v:Value} (hS:Blk w ss cs fa_) (hps:¬D ss) (hw:IsW w pw D st) (ho:o<cs.size) (hv:v.oneCell'=true) {K:W_}
  (h:∀u,Blk u ss (cs.setIfInBounds o v) fa_→IsW u pw D st→ab_ (fun k=>k=ss) w u→K u):Put ⟨ss,o,none⟩ v w K:=
 a2_ hS ho hv fun u hb hk _=>h u hb (hw.keep hk (fun k hk' q=>hps (q▸hk')) (fun g cur hg q=>by subst q;exact absurd (bs_ hS hg) d_)) hk
theorem oM_ {w:World} {ss pw:Nat} {D:Nat→Prop} {st:Wst} {file:ByteArray} {sure:Bool} {at_:Int} {gen:Nat} {R:Sl→Int→Int→W_} (hS:b1_ w ss pw file sure at_ gen) (hps:¬D ss) (hw:IsW w pw D st)
  (hf:1≤file.size∧file.size≤30) (ho:st.ops<100000000000)
  (h:∀best u,ab_ (fun k=>D k∨k=ss) w u→IsW u pw D {st with ops:=st.ops+2}→b1_ u ss pw file true (ldN st.seen file 2).1 (ldN st.seen file 2).2.1→Own u w.heap.size ae_ 1 best (bv (ldN st.seen file 2).2.2)→
   R best (((ldN st.seen file 2).2.1:Nat):Int) (if (ldN st.seen file 2).1<0 then 8 else 0) u):c6_ (some ⟨ss,0,none⟩) w R:=by
 refine c8_.calls _ _ _ ?_
 refine al_ rfl ⟨rfl,?_⟩
 rw[gA,am_]
 have lss:=au_ hS
 refine oL_ hS hps hw (by show 2<5;decide) rfl fun w0 hS0 hw0 hk0=>?_
 have hS0:b1_ w0 ss pw file false at_ gen:=hS0
 refine⟨fun best a m x u=>∃j:Nat,x=j∧j≤2∧a=(ldN st.seen file j).1∧m=(((ldN st.seen file j).2.1:Nat):Int)∧ab_ (fun k=>D k∨k=ss) w u∧IsW u pw D {st with ops:=st.ops+j}∧b1_ u ss pw file false at_ gen∧
   Own u w.heap.size ae_ 1 best (bv (ldN st.seen file j).2.2),fun _ _ _ x _=>2-x.toNat,⟨0,rfl,d_,rfl,rfl,hk0.mono fun _ _ q=>.inr q,hw0,hS0,aK_ _ _ _ _⟩,?_⟩
 rintro best a m x w1 ⟨j,rfl,hj,rfl,rfl,hk1,hw1,hS1,hown1⟩
 have s1:=hk1.size
 refine a6_ (fun hlt=>?_) (fun hge=>?_)
 ·rintro w2 rfl
  have hg2:ac_ w1 w1.drew:=aq_ w1
  refine⟨fun u=>b1_ u ss pw file false at_ gen,hg2.heap hS1 (fun q=>q),rfl,some ⟨pw,0,none⟩,fun u hu=>by rw[am_,Blk.cell hu];rfl,?_⟩
  refine kJ_ (hg2.heap hS1 (fun q=>q)) hf.2 o_ fun w3 hg3=>⟨(hg2.trans hg3).heap hS1 (fun q=>q),?_⟩
  have hg13:=hg2.trans hg3
  refine ow_ (off:=0) (n:=4116) (hw1.grow hg13) (by rw[oa_];omega) d_ d_ (by show st.ops+j<_;omega) fun s w4 hk4 hw4 hown4 hsn=>?_
  have hown4:Own w4 w3.heap.size ae_ 1 s (bv (ds_ st.seen file j)):=hown4
  refine al_ (by
   show(_&&_)=false
   cases (st.seen (nmS file j)).isSome<;>rfl) ?_
  have nDown:∀b,best.blk=some b→¬D b:=fun b hb q=>by
   have h1:=(hown1.ge b hb).1
   have h2:=hw.lt q
   omega
  have hown1':Own w4 w.heap.size ae_ 1 best (bv (ldN st.seen file j).2.2):=(hown1.grow hg13).keep hk4 nDown
  have hS4:b1_ w4 ss pw file false at_ gen:=hk4.heap (hg13.heap hS1 (fun q=>q)) hps
  have hk14:ab_ (fun k=>D k∨k=ss) w w4:=(hk1.grow hg13).trans hk4 fun _ _ q=>.inl q
  refine iQ_ (hown4.rd o_) fun s5 w5 hown5 hg5=>?_
  have fin:∀(b:Sl) (a:Int) (m:Int),a=(ldN st.seen file (j+1)).1→m=(((ldN st.seen file (j+1)).2.1:Nat):Int)→Own w5 w.heap.size ae_ 1 b (bv (ldN st.seen file (j+1)).2.2)→
    (∃j_1:Nat,IntKind.wrap .i64 ((j:Int)+1)=j_1∧j_1≤2∧a=(ldN st.seen file j_1).1∧m=(((ldN st.seen file j_1).2.1:Nat):Int)∧ab_ (fun k=>D k∨k=ss) w w5∧IsW w5 pw D {st with ops:=st.ops+j_1}∧b1_ w5 ss pw file false at_ gen∧
     Own w5 w.heap.size ae_ 1 b (bv (ldN st.seen file j_1).2.2))∧2-(IntKind.wrap .i64 ((j:Int)+1)).toNat<2-(j:Int).toNat:=fun b a m ha hm hb=>by
   rw[w64 o_ o_]
   exact⟨⟨j+1,o_,o_,ha,hm,hk14.grow hg5,hw4.grow hg5,hg5.heap hS4 (fun q=>q),hb⟩,o_⟩
  have hE:ldN st.seen file (j+1)=eL_ (ldN st.seen file j) j (ds_ st.seen file j):=rfl
  generalize ldN st.seen file (j+1)=L1 at *
  by_cases q:(ee_ (ds_ st.seen file j)).2.2=0∧((ldN st.seen file j).1<0∨(ldN st.seen file j).2.1<(ee_ (ds_ st.seen file j)).1)
  ·rw[eL_,if_pos q] at hE
   refine ao_ ?_ (fin _ _ _ (by rw[hE]) (by rw[hE]) (by rw[hE];exact hown5.mono (by have:=hk14.size;omega)))
   rw[Bool.and_eq_true,Bool.or_eq_true,beq_iff_eq,decide_eq_true_eq,decide_eq_true_eq]
   omega
  ·rw[eL_,if_neg q] at hE
   refine al_ ?_ (fin _ _ _ (by rw[hE]) (by rw[hE]) (by rw[hE];exact hown1'.grow hg5))
   rw[Bool.and_eq_false_iff,Bool.or_eq_false_iff,beq_eq_false_iff_ne,decide_eq_false_iff_not,decide_eq_false_iff_not]
   omega
 ·have hj2:j=2:=o_
  subst hj2
  refine⟨rfl,?_⟩
  rw[am_]
  refine oL_ hS1 hps hw1 (by show 3<5;decide) rfl fun w2 hS2 hw2 hk2=>⟨rfl,?_⟩
  rw[am_]
  refine oL_ hS2 hps hw2 (by show 4<5;decide) rfl fun w3 hS3 hw3 hk3=>⟨rfl,?_⟩
  refine oL_ hS3 hps hw3 (by show 2<5;decide) rfl fun w4 hS4 hw4 hk4=>?_
  have hS4:b1_ w4 ss pw file true (ldN st.seen file 2).1 (ldN st.seen file 2).2.1:=hS4
  have hkf:ab_ (fun k=>k=ss) w1 w4:=(hk2.trans hk3 fun _ _ q=>q).trans hk4 fun _ _ q=>q
  have hk14:ab_ (fun k=>D k∨k=ss) w w4:=hk1.trans hkf fun _ _ q=>.inr q
  have hown4:Own w4 w.heap.size ae_ 1 best (bv (ldN st.seen file 2).2.2):=hown1.keep hkf fun b hb q=>by
   have:=(hown1.ge b hb).1;omega
  have:=h best w4 hk14 hw4 hS4 hown4
  refine a6_ (fun q=>?_) (fun q=>?_)
  ·rw[if_pos q] at this
   have hn:=ob_ q
   have:=h ⟨none,0,0⟩ w4 hk14 hw4 hS4 (by rw[hn];exact aK_ _ _ _ _)
   rw[if_pos q,hn] at this
   exact this
  ·rw[if_neg q] at this
   exact this
open Go CF
def toS (at_:Int):Nat:=if at_=0 then 1 else 0
open Go CF
structure SlX where
 sure:Bool
 at_:Int
 gen:Nat
def aQ_ (F:Int→Bool) (st:Wst) (file:ByteArray) (x:SlX):Nat×L8×Nat×SlX×Wst:=
 match ij_ F st.ops 2 with
 | some k=>(6,[],0,⟨false,x.at_,x.gen⟩,more st (k+1))
 | none=>(if (ldN st.seen file 2).1<0 then 8 else 0,(ldN st.seen file 2).2.2,(ldN st.seen file 2).2.1,⟨true,(ldN st.seen file 2).1,(ldN st.seen file 2).2.1⟩,more st 2)
def hF_ (g:Nat):Nat:=(g+1)%18446744073709551616
def ef_ (F:Int→Bool) (st:Wst) (file:ByteArray) (x:SlX) (l:L8):Nat×SlX×Wst:=
 if F (st.ops:Int)=true then(6,⟨false,x.at_,x.gen⟩,more st 1)
 else if F ((st.ops+1:Nat):Int)=true then(6,⟨false,x.at_,x.gen⟩,more (b0_ st (nmS file (toS x.at_)) 0 (iN_ (hF_ x.gen) l)) 1)
 else(0,⟨true,(toS x.at_:Int),hF_ x.gen⟩,jC_ (b0_ st (nmS file (toS x.at_)) 0 (iN_ (hF_ x.gen) l)))
def cH_ (F:Int→Bool) (st:Wst) (file:ByteArray) (x:SlX) (l:L8):Nat×SlX×Wst:=
 if x.sure=true then ef_ F st file x l
 else if (aQ_ F st file x).1=6 then(6,(aQ_ F st file x).2.2.2.1,(aQ_ F st file x).2.2.2.2) else ef_ F (aQ_ F st file x).2.2.2.2 file (aQ_ F st file x).2.2.2.1 l
theorem ha_ {w:World} {ss pw:Nat} {D:Nat→Prop} {st:Wst} {F:Int→Bool} {cs:A_} {o:Nat} {v:Value} (hS:Blk w ss cs fa_) (hps:¬D ss) (hw:a3_ w pw D st F) (ho:o<cs.size) (hv:v.oneCell'=true) {K:W_}
  (h:∀u,Blk u ss (cs.setIfInBounds o v) fa_→a3_ u pw D st F→ab_ (fun k=>k=ss) w u→K u):Put ⟨ss,o,none⟩ v w K:=
 a2_ hS ho hv fun u hb hk _=>h u hb (hw.keep hk (fun k hk' q=>hps (q▸hk')) (fun g cur hg q=>by subst q;exact absurd (bs_ hS hg) d_)) hk
theorem lc_ {w:World} {ss pw:Nat} {D:Nat→Prop} {st:Wst} {F:Int→Bool} {file:ByteArray} {x:SlX} {R:Sl→Int→Int→W_} (hS:b1_ w ss pw file x.sure x.at_ x.gen) (hps:¬D ss) (hw:a3_ w pw D st F)
  (hf:1≤file.size∧file.size≤30) (ho:st.ops<100000000000)
  (h:∀best u,ab_ (fun k=>D k∨k=ss) w u→a3_ u pw D (aQ_ F st file x).2.2.2.2 F→b1_ u ss pw file (aQ_ F st file x).2.2.2.1.sure (aQ_ F st file x).2.2.2.1.at_ (aQ_ F st file x).2.2.2.1.gen→Own u w.heap.size ae_ 1 best (bv (aQ_ F st file x).2.1)→
   R best (((aQ_ F st file x).2.2.1:Nat):Int) (((aQ_ F st file x).1:Nat):Int) u):c6_ (some ⟨ss,0,none⟩) w R:=by
 refine c8_.calls _ _ _ ?_
 refine al_ rfl ⟨rfl,?_⟩
 rw[gA,am_]
 have lss:=au_ hS
 unfold aQ_ at h
 refine ha_ hS hps hw (by show 2<5;decide) rfl fun w0 hS0 hw0 hk0=>?_
 have hS0:b1_ w0 ss pw file false x.at_ x.gen:=hS0
 refine⟨fun best a m y u=>∃j:Nat,y=j∧j≤2∧a=(ldN st.seen file j).1∧m=(((ldN st.seen file j).2.1:Nat):Int)∧ab_ (fun k=>D k∨k=ss) w u∧a3_ u pw D {st with ops:=st.ops+j} F∧b1_ u ss pw file false x.at_ x.gen∧
   Own u w.heap.size ae_ 1 best (bv (ldN st.seen file j).2.2)∧∀i:Nat,i<j→F ((st.ops+i:Nat):Int)=false,fun _ _ _ y _=>2-y.toNat,⟨0,rfl,d_,rfl,rfl,hk0.mono fun _ _ q=>.inr q,hw0,hS0,aK_ _ _ _ _,fun _ q=>absurd q (Nat.not_lt_zero _)⟩,?_⟩
 rintro best a m y w1 ⟨j,rfl,hj,rfl,rfl,hk1,hw1,hS1,hown1,hfl⟩
 have s1:=hk1.size
 refine a6_ (fun hlt=>?_) (fun hge=>?_)
 ·rintro w2 rfl
  have hg2:ac_ w1 w1.drew:=aq_ w1
  refine⟨fun u=>b1_ u ss pw file false x.at_ x.gen,hg2.heap hS1 (fun q=>q),rfl,some ⟨pw,0,none⟩,fun u hu=>by rw[am_,Blk.cell hu];rfl,?_⟩
  refine kJ_ (hg2.heap hS1 (fun q=>q)) hf.2 o_ fun w3 hg3=>⟨(hg2.trans hg3).heap hS1 (fun q=>q),?_⟩
  have hg13:=hg2.trans hg3
  refine hx_ (off:=0) (n:=4116) (hw1.grow hg13) (by rw[oa_];omega) d_ d_ (by show st.ops+j<_;omega) (fun hok s w4 hk4 hr4 hown4 hsn=>?_) (fun hbad w4 hk4 hr4=>?_)
  case refine_2=>
   have hff:ij_ F st.ops 2=some j:=lR_ o_ hfl hbad
   rw[hff] at h
   have hk14:ab_ (fun k=>D k∨k=ss) w w4:=(hk1.grow hg13).trans hk4 fun _ _ q=>.inl q
   refine ao_ rfl (h ap_ w4 hk14 ?_ (hk4.heap (hg13.heap hS1 (fun q=>q)) hps) (aK_ _ _ _ _))
   have:=hr4.isWq (hw1.grow hg13)
   exact this
  have hw4:=hr4.isWq (hw1.grow hg13)
  have hown4:Own w4 w3.heap.size ae_ 1 s (bv (ds_ st.seen file j)):=hown4
  refine al_ (by
   show(_&&_)=false
   cases (st.seen (nmS file j)).isSome<;>rfl) ?_
  have nDown:∀b,best.blk=some b→¬D b:=fun b hb q=>by
   have h1:=(hown1.ge b hb).1
   have h2:=hw.lt q
   omega
  have hown1':Own w4 w.heap.size ae_ 1 best (bv (ldN st.seen file j).2.2):=(hown1.grow hg13).keep hk4 nDown
  have hS4:b1_ w4 ss pw file false x.at_ x.gen:=hk4.heap (hg13.heap hS1 (fun q=>q)) hps
  have hk14:ab_ (fun k=>D k∨k=ss) w w4:=(hk1.grow hg13).trans hk4 fun _ _ q=>.inl q
  refine iQ_ (hown4.rd o_) fun s5 w5 hown5 hg5=>?_
  have fin:∀(b:Sl) (a:Int) (m:Int),a=(ldN st.seen file (j+1)).1→m=(((ldN st.seen file (j+1)).2.1:Nat):Int)→Own w5 w.heap.size ae_ 1 b (bv (ldN st.seen file (j+1)).2.2)→
    (∃j_1:Nat,IntKind.wrap .i64 ((j:Int)+1)=j_1∧j_1≤2∧a=(ldN st.seen file j_1).1∧m=(((ldN st.seen file j_1).2.1:Nat):Int)∧ab_ (fun k=>D k∨k=ss) w w5∧a3_ w5 pw D {st with ops:=st.ops+j_1} F∧b1_ w5 ss pw file false x.at_ x.gen∧
     Own w5 w.heap.size ae_ 1 b (bv (ldN st.seen file j_1).2.2)∧∀i:Nat,i<j_1→F ((st.ops+i:Nat):Int)=false)∧2-(IntKind.wrap .i64 ((j:Int)+1)).toNat<2-(j:Int).toNat:=fun b a m ha hm hb=>by
   rw[w64 o_ o_]
   exact⟨⟨j+1,o_,o_,ha,hm,hk14.grow hg5,hw4.grow hg5,hg5.heap hS4 (fun q=>q),hb,fun i hi=>by
    by_cases e:i=j
    ·rw[e];exact hok
    ·exact hfl i o_⟩,o_⟩
  have hE:ldN st.seen file (j+1)=eL_ (ldN st.seen file j) j (ds_ st.seen file j):=rfl
  generalize ldN st.seen file (j+1)=L1 at *
  by_cases q:(ee_ (ds_ st.seen file j)).2.2=0∧((ldN st.seen file j).1<0∨(ldN st.seen file j).2.1<(ee_ (ds_ st.seen file j)).1)
  ·rw[eL_,if_pos q] at hE
   refine ao_ ?_ (fin _ _ _ (by rw[hE]) (by rw[hE]) (by rw[hE];exact hown5.mono (by have:=hk14.size;omega)))
   rw[Bool.and_eq_true,Bool.or_eq_true,beq_iff_eq,decide_eq_true_eq,decide_eq_true_eq]
   omega
  ·rw[eL_,if_neg q] at hE
   refine al_ ?_ (fin _ _ _ (by rw[hE]) (by rw[hE]) (by rw[hE];exact hown1'.grow hg5))
   rw[Bool.and_eq_false_iff,Bool.or_eq_false_iff,beq_eq_false_iff_ne,decide_eq_false_iff_not,decide_eq_false_iff_not]
   omega
 ·have hj2:j=2:=o_
  subst hj2
  rw[i9_ hfl] at h
  dsimp only at h
  refine⟨rfl,?_⟩
  rw[am_]
  refine ha_ hS1 hps hw1 (by show 3<5;decide) rfl fun w2 hS2 hw2 hk2=>⟨rfl,?_⟩
  rw[am_]
  refine ha_ hS2 hps hw2 (by show 4<5;decide) rfl fun w3 hS3 hw3 hk3=>⟨rfl,?_⟩
  refine ha_ hS3 hps hw3 (by show 2<5;decide) rfl fun w4 hS4 hw4 hk4=>?_
  have hS4:b1_ w4 ss pw file true (ldN st.seen file 2).1 (ldN st.seen file 2).2.1:=hS4
  have hkf:ab_ (fun k=>k=ss) w1 w4:=(hk2.trans hk3 fun _ _ q=>q).trans hk4 fun _ _ q=>q
  have hk14:ab_ (fun k=>D k∨k=ss) w w4:=hk1.trans hkf fun _ _ q=>.inr q
  have hown4:Own w4 w.heap.size ae_ 1 best (bv (ldN st.seen file 2).2.2):=hown1.keep hkf fun b hb q=>by
   have:=(hown1.ge b hb).1;omega
  have:=h best w4 hk14 hw4 hS4 hown4
  refine a6_ (fun q=>?_) (fun q=>?_)
  ·rw[if_pos q] at this
   have hn:=ob_ q
   have:=h ⟨none,0,0⟩ w4 hk14 hw4 hS4 (by rw[hn];exact aK_ _ _ _ _)
   rw[if_pos q,hn] at this
   exact this
  ·rw[if_neg q] at this
   exact this
theorem p8_ (g:Nat):IntKind.wrap .u64 ((g:Int)+1)=((hF_ g:Nat):Int):=by
 have e:IntKind.wrap .u64 ((g:Int)+1)=((g:Int)+1)%18446744073709551616:=by simp[IntKind.wrap,IntKind.signed,IntKind.bits]
 rw[e];unfold hF_;omega
theorem pC_ {w:World} {ss pw:Nat} {D:Nat→Prop} {st:Wst} {F:Int→Bool} {file:ByteArray} {x:SlX} {p:Sl} {l:L8} {R:Int→Int→W_} (hS:b1_ w ss pw file x.sure x.at_ x.gen) (hps:¬D ss) (hw:a3_ w pw D st F)
  (hok:Wok st) (hf:1≤file.size∧file.size≤30) (ho:st.ops<10000000000) (hn:st.waits.length<800000000) (hl:l.length≤4096) (hp:∀u,ab_ (fun k=>D k∨k=ss) w u→Rd u 1 p (bv l))
  (h:∀u D' g,ab_ (fun k=>D k∨k=ss) w u→a3_ u pw D' (cH_ F st file x l).2.2 F→(∀k,D' k→D k∨w.heap.size≤k)→
   b1_ u ss pw file (cH_ F st file x l).2.1.sure (cH_ F st file x l).2.1.at_ (cH_ F st file x l).2.1.gen→R g (((cH_ F st file x l).1:Nat):Int) u):cp_ (some ⟨ss,0,none⟩) p w R:=by
 refine c9_.calls _ _ _ _ ?_
 unfold c9_
 simp only[gA,am_,Nat.zero_add]
 have hp0:=hp w (ab_.refl _ _)
 have hln:=wE_ hp0
 have lss:=au_ hS
 refine a6_ (fun q=>absurd q o_) (fun _=>al_ rfl ⟨rfl,x.sure,by rw[Blk.cell hS];rfl,?_⟩)
 unfold cH_ at h
 refine dy_ (fun u=>∃(st1:Wst) (x1:SlX),ab_ (fun k=>D k∨k=ss) w u∧a3_ u pw D st1 F∧b1_ u ss pw file x1.sure x1.at_ x1.gen∧st1.seen=st.seen∧st1.dur=st.dur∧st1.waits=st.waits∧st1.ops≤st.ops+2∧
  (∀u D' g,ab_ (fun k=>D k∨k=ss) w u→a3_ u pw D' (ef_ F st1 file x1 l).2.2 F→(∀k,D' k→D k∨w.heap.size≤k)→b1_ u ss pw file (ef_ F st1 file x1 l).2.1.sure (ef_ F st1 file x1 l).2.1.at_ (ef_ F st1 file x1 l).2.1.gen→R g (((ef_ F st1 file x1 l).1:Nat):Int) u)) ?_ (fun J=>?_)
 ·rintro w1 ⟨st1,x1,hk1,hw1,hS1,e1,e2,e3,ho1,hR⟩
  have wokA:∀to,Wok (b0_ st1 (nmS file to) 0 (iN_ (hF_ x1.gen) l)):=fun to c hc=>by
   rcases List.mem_append.1 hc with q|q
   ·exact hok c (by rw[←e3];exact q)
   ·rw[List.mem_singleton.1 q];exact⟨rfl,by show 0+(iN_ _ _).length≤_;rw[n9_];omega⟩
  unfold ef_ at hR
  refine⟨rfl,?_⟩
  refine ha_ hS1 hps hw1 (by show 2<5;decide) rfl fun w2 hS2 hw2 hk2=>⟨rfl,x1.at_,by rw[Blk.cell hS2];rfl,?_⟩
  have hS2:b1_ w2 ss pw file false x1.at_ x1.gen:=hS2
  refine bw_ (fun(to:Int) u=>u=w2∧to=(toS x1.at_:Int)) ?_ (fun J2=>?_)
  ·rintro to u ⟨rfl,rfl⟩
   refine⟨rfl,(x1.gen:Int),by rw[Blk.cell hS2];rfl,?_⟩
   rw[p8_]
   have hk12:ab_ (fun k=>D k∨k=ss) w u:=hk1.trans hk2 fun _ _ q=>.inr q
   have s2:=hk12.size
   have hg1:hF_ x1.gen<18446744073709551616:=Nat.mod_lt _ d_
   refine nq_ (hp u hk12) hg1 (fun q=>absurd q o_) fun _ r w3 hown3 hg3 hn3=>?_
   rintro w4 rfl
   have hg4:ac_ u w3.drew:=hg3.trans (aq_ w3)
   refine⟨fun u=>b1_ u ss pw file false x1.at_ x1.gen,hg4.heap hS2 (fun q=>q),rfl,some ⟨pw,0,none⟩,fun u hu=>by rw[Blk.cell hu];rfl,?_⟩
   have hto:toS x1.at_<10:=by unfold toS;split<;>decide
   refine kJ_ (hg4.heap hS2 (fun q=>q)) hf.2 hto fun w5 hg5=>⟨(hg4.trans hg5).heap hS2 (fun q=>q),?_⟩
   have hg25:=hg4.trans hg5
   have hown5:Own w5 u.heap.size ae_ 1 r (bv (iN_ (hF_ x1.gen) l)):=(hown3.grow (aq_ w3)).grow hg5
   have s5:=hg25.size
   refine ke_ (off:=0) (bs:=iN_ (hF_ x1.gen) l) (hw2.grow hg25) (by rw[oa_];omega) (hown5.rd o_) (by rw[n9_];omega) o_ (by rw[e3];omega) (fun hf1 w6 D6 hk6 hw6 hD6=>?_) (fun hf1 w6 hk6 hw6=>?_)
   ·have hS6:b1_ w6 ss pw file false x1.at_ x1.gen:=hk6.heap (hg25.heap hS2 (fun q=>q)) hps
    have hk06:ab_ (fun k=>D k∨k=ss) w w6:=(hk12.grow hg25).trans hk6 fun _ _ q=>.inl q
    have nD6:¬D6 ss:=fun q=>by rcases hD6 _ q with r|r
                               ·exact hps r
                               ·omega
    have s6:=hk6.size
    have hw6:a3_ w6 pw D6 (b0_ st1 (nmS file (toS x1.at_)) 0 (iN_ (hF_ x1.gen) l)) F:=hw6
    have hDD:∀k,D6 k→D k∨w.heap.size≤k:=fun k q=>by
     rcases hD6 k q with r|r
     ·exact .inl r
     ·exact .inr o_
    rw[if_neg (by rw[hf1];exact Bool.noConfusion)] at hR
    refine bw_ (fun(e:Int) u=>(e=0∧F ((st1.ops+1:Nat):Int)=false∧∃D',ab_ (fun k=>D k∨k=ss) w u∧a3_ u pw D' (jC_ (b0_ st1 (nmS file (toS x1.at_)) 0 (iN_ (hF_ x1.gen) l))) F∧(∀k,D' k→D k∨w.heap.size≤k)∧b1_ u ss pw file false x1.at_ x1.gen)∨
     (e=6∧F ((st1.ops+1:Nat):Int)=true∧ab_ (fun k=>D k∨k=ss) w u∧a3_ u pw D6 (more (b0_ st1 (nmS file (toS x1.at_)) 0 (iN_ (hF_ x1.gen) l)) 1) F∧b1_ u ss pw file false x1.at_ x1.gen)) ?_ (fun J3=>?_)
    ·rintro e w7 (⟨rfl,hf2,D7,hk7,hw7,hD7,hS7⟩|⟨rfl,hf2,hk7,hw7,hS7⟩)
     ·rw[if_neg (by rw[hf2];exact Bool.noConfusion)] at hR
      have nD7:¬D7 ss:=fun q=>by rcases hD7 _ q with r|r
                                 ·exact hps r
                                 ·omega
      refine al_ rfl ⟨rfl,(x1.gen:Int),by rw[Blk.cell hS7];rfl,rfl,?_⟩
      rw[p8_]
      refine ha_ hS7 nD7 hw7 (by show 3<5;decide) rfl fun w8 hS8 hw8 hk8=>⟨rfl,?_⟩
      refine ha_ hS8 nD7 hw8 (by show 4<5;decide) rfl fun w9 hS9 hw9 hk9=>⟨rfl,?_⟩
      refine ha_ hS9 nD7 hw9 (by show 2<5;decide) rfl fun w10 hS10 hw10 hk10=>?_
      refine⟨rfl,((hF_ x1.gen:Nat):Int),by rw[Blk.cell hS10];rfl,?_⟩
      have hkf:ab_ (fun k=>k=ss) w7 w10:=(hk8.trans hk9 fun _ _ q=>q).trans hk10 fun _ _ q=>q
      exact hR w10 D7 _ (hk7.trans hkf fun _ _ q=>.inr q) hw10 hD7 hS10
     ·rw[if_pos hf2] at hR
      exact ao_ rfl (hR w7 D6 _ hk7 hw7 hDD hS7)
    ·refine ao_ rfl ⟨rfl,some ⟨pw,0,none⟩,by rw[Blk.cell hS6];rfl,?_⟩
     refine n5_ hw6 (wokA _) (by show st1.ops+1<_;omega) (by show(st1.waits++[_]).length<_;rw[List.length_append,e3];show st.waits.length+1<_;omega) (fun hf2 w7 D7 hk7 hw7 hD7=>?_) (fun hf2 w7 hk7 hw7=>?_)
     ·refine J3 0 w7 (.inl ⟨rfl,hf2,D7,hk06.trans hk7 fun i hi q=>?_,hw7,fun k q=>?_,hk7.heap hS6 nD6⟩)
      ·rcases hD6 i q with r|r
       ·exact .inl r
       ·omega
      ·rcases hD7 k q with r|r
       ·exact hDD k r
       ·exact .inr o_
     ·refine J3 6 w7 (.inr ⟨rfl,hf2,hk06.trans hk7 fun i hi q=>?_,hw7,hk7.heap hS6 nD6⟩)
      rcases hD6 i q with r|r
      ·exact .inl r
      ·omega
   ·rw[if_pos hf1] at hR
    have hS6:b1_ w6 ss pw file false x1.at_ x1.gen:=hk6.heap (hg25.heap hS2 (fun q=>q)) hps
    have hk06:ab_ (fun k=>D k∨k=ss) w w6:=(hk12.grow hg25).trans hk6 fun _ _ q=>.inl q
    refine bw_ (fun(e:Int) u=>e=6∧u=w6) (fun e u q=>?_) (fun J3=>al_ rfl (J3 6 w6 ⟨rfl,rfl⟩))
    obtain⟨rfl,rfl⟩:=q
    exact ao_ rfl (hR u D _ hk06 hw6 (fun _ q=>.inl q) hS6)
  ·refine aw_ (fun q=>J2 1 w2 ⟨rfl,?_⟩) (fun q=>J2 0 w2 ⟨rfl,?_⟩)
   ·unfold toS;rw[if_pos q];rfl
   ·unfold toS;rw[if_neg q];rfl
 ·cases hsu:x.sure with
  | true=>
   rw[hsu,if_pos rfl] at h
   exact al_ rfl (J w ⟨st,x,ab_.refl _ _,hw,hS,rfl,rfl,rfl,o_,h⟩)
  | false=>
   rw[hsu,if_neg Bool.noConfusion] at h
   refine ao_ rfl (lc_ hS hps hw hf o_ fun best u hk hu hSu hb=>?_)
   by_cases q6:(aQ_ F st file x).1=6
   ·rw[if_pos q6] at h
    rw[q6]
    exact ao_ rfl (by have:=h u D 0 hk hu (fun _ q=>.inl q) hSu;exact this)
   ·rw[if_neg q6] at h
    have hst:(aQ_ F st file x).2.2.2.2.seen=st.seen∧(aQ_ F st file x).2.2.2.2.dur=st.dur∧(aQ_ F st file x).2.2.2.2.waits=st.waits∧(aQ_ F st file x).2.2.2.2.ops≤st.ops+2:=by
     unfold aQ_
     split
     ·rename_i k hk'
      have:=List.mem_range.1 (List.mem_of_find?_eq_some hk')
      exact⟨rfl,rfl,rfl,by show st.ops+(k+1)≤_;omega⟩
     ·exact⟨rfl,rfl,rfl,Nat.le_refl _⟩
    have h08:(aQ_ F st file x).1=0∨(aQ_ F st file x).1=8:=by
     revert q6
     unfold aQ_
     split
     ·exact fun q=>absurd rfl q
     ·intro _
      dsimp only
      split
      ·exact .inr rfl
      ·exact .inl rfl
    refine al_ ?_ (J u ⟨_,_,hk,hu,hSu,hst.1,hst.2.1,hst.2.2.1,hst.2.2.2,h⟩)
    rcases h08 with e|e<;>rw[e]<;>rfl
open Go CF
structure Row (w0 u:World) (p:Sl) (l:L8):Prop where
 own:Own u w0.heap.size ae_ 1 p (bv l)
 grow:ac_ w0 u
section
variable {w0 u u':World} {p:Sl} {os:L8}
theorem Row.n (h:Row w0 u p os):p.n=os.length:=oF_ h.own
theorem Row.step {p':Sl} {os':L8} (h:Row w0 u p os) (hown:Own u' w0.heap.size ae_ 1 p' (bv os')) (hk:ab_ (fun k=>some k=p.blk) u u'):Row w0 u' p' os':=⟨hown,dn_ h.grow h.own (Nat.le_refl _) hk⟩
theorem Row.go (h:Row w0 u p os) (g:ac_ u u'):Row w0 u' p os:=⟨h.own.grow g,h.grow.trans g⟩
theorem Row.keep {S:Nat→Prop} (h:Row w0 u p os) (k:ab_ S u u') (hs:∀b,p.blk=some b→¬S b) (hg:∀i,i<w0.heap.size→¬S i):Row w0 u' p os:=⟨h.own.keep k hs,h.grow.keep k hg⟩
theorem Row.rd (h:Row w0 u p os) (hl:os.length≤140737488355328):Rd u 1 p (bv os):=h.own.rd (by have:=h.n;omega)
theorem Row.app (h:Row w0 u p os) {x:Sl} {l:L8} (hx:Rd u 1 x (bv l)) (hb:os.length+l.length≤140737488355328) {ty:TypeId} {K:Sl→W_} (hK:∀p' u',Row w0 u' p' (os++l)→ab_ (fun k=>some k=p.blk) u u'→K p' u') :
  ai_ Tryz.prog .sl (Builtin.append_ #[aE_,aE_] ty #[.slice p.A p.n p.c,.slice x.A x.n x.c]) u K:=by
 have hxn:=dj_ hx
 have hpn:=h.n
 refine aS_ aN_ bG_ rfl d_ d_ h.own hx (cr_ _) o_ h.grow.size fun s' w' hn hown hk _=>hK s' w' (h.step ?_ hk) hk
 rw[bN_];exact hown
theorem Row.lit (h:Row w0 u p os) {n:Nat} {parts:Array (Nat×Value)} {l:L8} {t ty:TypeId} (hr:(Instr.buildSlice t n parts).run Tryz.prog u=.ok (.slice (some ⟨u.heap.size,0,none⟩) n n) (u.alloc (.cells (bv l).toArray ae_))) (hn:n=l.length)
  (hb:os.length+l.length≤140737488355328) {K:Sl→W_} (hK:∀p' u',Row w0 u' p' (os++l)→ab_ (fun k=>some k=p.blk) u u'→K p' u') :
  ai_ Tryz.prog .sl (Instr.buildSlice t n parts) u fun xs u1=>ai_ Tryz.prog .sl (Builtin.append_ #[aE_,aE_] ty #[.slice p.A p.n p.c,.slice xs.A xs.n xs.c]) u1 K:=by
 refine aH_ (cells:=(bv l).toArray) (e:=ae_) (z:=1) (base:=0) hr (by simp[bv,hn]) o_ (Nat.zero_le _) fun u1 hown1 hg1 _=>?_
 have hx:Rd u1 1 ⟨some ⟨u.heap.size,0,none⟩,n,n⟩ (bv l):=hown1.rd (by show n≤_;omega)
 refine(h.go hg1).app hx hb fun p' u' hr' hk=>hK p' u' hr' ⟨hk.os.trans hg1.os,hk.tape.trans hg1.tape,hk.output.trans hg1.output,Nat.le_trans hg1.size hk.size,fun k hlt hne=>(hk.block k (by have:=hg1.size;omega) hne).trans (hg1.block k hlt (fun q=>q))⟩
theorem Row.start {n:Nat} {parts:Array (Nat×Value)} {l:L8} {t:TypeId} (hr:(Instr.buildSlice t n parts).run Tryz.prog u=.ok (.slice (some ⟨u.heap.size,0,none⟩) n n) (u.alloc (.cells (bv l).toArray ae_))) (hn:n=l.length) (hb:l.length≤140737488355328)
  {K:Sl→W_} (hK:∀p' u',Row u u' p' l→K p' u'):ai_ Tryz.prog .sl (Instr.buildSlice t n parts) u K:=
 aH_ (cells:=(bv l).toArray) (e:=ae_) (z:=1) (base:=u.heap.size) hr (by simp[bv,hn]) o_ (Nat.le_refl _) fun u1 hown1 hg1 _=>hK _ u1 ⟨hown1,hg1⟩
theorem hG_ {S:Nat→Prop} {a b c:World} (g:ac_ a b) (k:ab_ S b c):ab_ S a c:=ab_.trans (g.mono fun _ _ q=>q.elim) k fun _ _ q=>q
theorem Row.big (h:Row w0 u p os) {v n:Nat} (hn:1≤n) (hn8:n≤8) (hb:os.length+n≤140737488355328) {ty:TypeId} {K:Sl→W_} (hK:∀p' u',Row w0 u' p' (os++beN n v)→ab_ (fun k=>some k=p.blk) u u'→K p' u') :
  dp_ (v:Int) (n:Int) u fun xs u1=>ai_ Tryz.prog .sl (Builtin.append_ #[aE_,aE_] ty #[.slice p.A p.n p.c,.slice xs.A xs.n xs.c]) u1 K:=by
 refine rA_ hn hn8 fun s u1 hown1 hg1 hs=>?_
 exact(h.go hg1).app (hown1.rd o_) (by rw[bH_];exact hb) fun p' u' hr' hk=>hK p' u' hr' (hG_ hg1 hk)
theorem iD_ {w:World} {s:Sl} {vs:List Value} (h:Rd w 1 s vs) {i:Nat} (hi:i<vs.length):s.A.isSome=true∧w.cell? ((gA s.A).add (i*1))=some vs[i]:=by
 have hne:vs≠[]:=fun q=>by rw[q] at hi;simp at hi
 obtain⟨a,ha,hc⟩:=h.at_ hne
 rw[ha]
 exact⟨rfl,by rw[Nat.mul_one];exact hc i _ (List.getElem?_eq_getElem hi)⟩
theorem oN_ {α:Type} {f:α→List Value} {z:Nat} {w:World} {s:Sl} {xs:List α} (hf:∀a,(f a).length=z) (hz:0<z) (h:Rd w z s (xs.flatMap f)) {i:Nat} (hi:i<xs.length):s.A.isSome=true∧bS_ w ((gA s.A).add (i*z)) (f xs[i]):=by
 have hn:s.n=xs.length:=by have:=h.len;rw[bx_ hf] at this;exact(Nat.eq_of_mul_eq_mul_right hz this).symm
 obtain⟨a,ha,hc⟩:=h.elem (i:=i) o_ hz
 rw[g4_ hf hi] at hc
 rw[ha]
 exact⟨rfl,hc⟩
theorem xA_ {α:Type} {f:α→List Value} {z:Nat} {w:World} {s:Sl} {xs:List α} (hf:∀a,(f a).length=z) (hz:0<z) (h:Rd w z s (xs.flatMap f)):xs.length=s.n:=by
 have:=h.len;rw[bx_ hf] at this;exact Nat.eq_of_mul_eq_mul_right hz this
end
open Go CF
def km_ (n:Nat):Nat:=if n/256=41 then 0 else if n=12032 then 1 else if n/256=42∧n≠10753 then 2 else 3
def jb_ (l:List Nat) (c:Nat):List Nat:=if c=10496 then [] else l
def bM_ (l:List Nat) (c:Nat):List Nat:=if c∈jb_ l c then l else if (jb_ l c).length<8 then jb_ l c++[c] else l
def cV_ (l:List Nat):Nat→Option Nat
 | 0=>none
 | k+1=>match cV_ l k with
  | none=>some k
  | some b=>if km_ (l.getD k 0)<km_ (l.getD b 0) then some k else some b
def cW_ (l:List Nat):Option Nat:=(cV_ l l.length).map fun i=>l.getD i 0
def hH_ (l:List Nat):List Nat:=match cV_ l l.length with
 | none=>l
 | some i=>l.take i++l.drop (i+1)
theorem lT_ (l:List Nat):∀k b,cV_ l k=some b→b<k
 | 0,b,h=>by cases h
 | k+1,b,h=>by
  unfold cV_ at h
  split at h
  ·injection h with h;omega
  ·rename_i b' hb
   have:=lT_ l k b' hb
   split at h<;>(injection h with h;omega)
theorem x6_ {l:List Nat} {c:Nat} (hl:l.length≤8) (hc:c<65536) (h:∀x∈l,x<65536):(bM_ l c).length≤8∧∀x∈bM_ l c,x<65536:=by
 unfold bM_
 split
 ·exact⟨hl,h⟩
 split
 ·rename_i hb
  refine⟨by rw[List.length_append];simp only[List.length_singleton];omega,fun x hx=>?_⟩
  rcases List.mem_append.1 hx with q|q
  ·unfold jb_ at q
   split at q
   ·cases q
   ·exact h x q
  ·rw[List.mem_singleton.1 q];exact hc
 ·exact⟨hl,h⟩
theorem wF_ {l:List Nat} (hl:l.length≤8) (h:∀x∈l,x<65536):(hH_ l).length≤8∧∀x∈hH_ l,x<65536:=by
 unfold hH_
 split
 ·exact⟨hl,h⟩
 ·refine⟨by rw[List.length_append,List.length_take,List.length_drop];omega,fun x hx=>?_⟩
  rcases List.mem_append.1 hx with q|q
  ·exact h x (List.mem_of_mem_take q)
  ·exact h x (List.mem_of_mem_drop q)
def dt_ (l:List Nat):List Value:=l.map fun n:Nat=>.int .u16 (n:Int)
theorem du_ (l:List Nat):(dt_ l).length=l.length:=List.length_map ..
theorem lU_ (l:List Nat):∀v∈dt_ l,v.oneCell'=true:=fun v hv=>by
 obtain⟨n,_,rfl⟩:=List.mem_map.1 hv;rfl
theorem kK_ (a b:List Nat):dt_ (a++b)=dt_ a++dt_ b:=List.map_append ..
def slv (s:Sl):Value:=.slice s.A s.n s.c
def kL_ (t:TypeId):Prop:=t=cz_∨t=aJ_∨t=aI_
def bg_ (w:World) (N S:Nat→Prop):Prop:=∀b,b<w.heap.size→S b→N b∨∃cs t,Blk w b cs t∧¬kL_ t
theorem bg_.sub {w:World} {N S:Nat→Prop} (h:∀b,b<w.heap.size→S b→N b):bg_ w N S:=fun b hb q=>.inl (h b hb q)
theorem bg_.none (w:World) (N:Nat→Prop):bg_ w N fun _=>False:=fun _ _ q=>q.elim
structure RdN (w:World) (N:Nat→Prop) (e:TypeId) (z:Nat) (s:Sl) (vs:List Value):Prop where
 own:CF.Own w 0 e z s vs
 small:s.n≤140737488355328
 out:∀b,s.blk=some b→¬N b
theorem RdN.rd {w:World} {N:Nat→Prop} {e:TypeId} {z:Nat} {s:Sl} {vs:List Value} (h:RdN w N e z s vs):Rd w z s vs:=h.own.rd (by have:=h.small;omega)
theorem RdN.nil (w:World) (N:Nat→Prop) (e:TypeId) (z:Nat):RdN w N e z ap_ []:=⟨aK_ _ _ _ _,d_,fun b h=>by simp[Sl.blk] at h⟩
theorem RdN.step {S N N':Nat→Prop} {w u:World} {e:TypeId} {z:Nat} {s:Sl} {vs:List Value} (h:RdN w N e z s vs) (he:kL_ e) (k:ab_ S w u) (hS:bg_ w N S) (hN:∀b,N' b→N b∨w.heap.size≤b):RdN u N' e z s vs:=by
 have hlt:∀b,s.blk=some b→b<w.heap.size:=fun b hb=>by obtain⟨cur,hc⟩:=aU_ h.own hb;exact au_ hc
 refine⟨h.own.keep k fun b hb q=>?_,h.small,fun b hb q=>?_⟩
 ·rcases hS b (hlt b hb) q with r|⟨cs,t,hb2,ht⟩
  ·exact h.out b hb r
  ·obtain⟨cur,hc⟩:=aU_ h.own hb
   exact ht (by rw[bs_ hb2 hc];exact he)
 ·rcases hN _ q with r|r
  ·exact h.out b hb r
  ·have:=hlt b hb;omega
theorem RdN.grow {N:Nat→Prop} {w u:World} {e:TypeId} {z:Nat} {s:Sl} {vs:List Value} (h:RdN w N e z s vs) (k:ac_ w u):RdN u N e z s vs:=⟨h.own.grow k,h.small,h.out⟩
theorem CF.Own.rdN {w v:World} {N:Nat→Prop} {e:TypeId} {z:Nat} {s:Sl} {vs:List Value} (h:CF.Own v w.heap.size e z s vs) (hn:s.n≤140737488355328) (hN:∀b,N b→b<w.heap.size):RdN v N e z s vs:=
 ⟨h.mono (Nat.zero_le _),hn,fun b hb q=>by
  have:=h.ge b hb
  have:=hN _ q;omega⟩
structure IsQ (w:World) (N:Nat→Prop) (qb:Nat) (q:Nat→List Nat):Prop where
 rep:∃ss:List Sl,ss.length=8∧Blk w qb (ss.map slv).toArray gB_∧∀i (h:i<ss.length),RdN w N cz_ 1 ss[i] (dt_ (q i))
 few:∀i,i<8→(q i).length≤8∧∀c∈q i,c<65536
section
variable {w u:World} {N N' S:Nat→Prop} {qb i:Nat} {q:Nat→List Nat}
theorem IsQ.step (h:IsQ w N qb q) (k:ab_ S w u) (hS:bg_ w N S) (hq:¬S qb) (hN:∀b,N' b→N b∨w.heap.size≤b):IsQ u N' qb q:=by
 obtain⟨⟨ss,h1,h2,h3⟩,h4⟩:=h
 exact⟨⟨ss,h1,k.heap h2 hq,fun i hi=>(h3 i hi).step (.inl rfl) k hS hN⟩,h4⟩
theorem IsQ.grow (h:IsQ w N qb q) (k:ac_ w u):IsQ u N qb q:=h.step k (bg_.none _ _) (fun q=>q) fun _ q=>.inl q
theorem zQ_ {n:Nat}:bJ_ .u16 (n:Int) 8=((n/256:Nat):Int):=shr .u16 n 8 d_
theorem p9_ {n:Nat} {R:Int→W_} (h:R (km_ n:Int) w):iV_ (n:Int) w R:=by
 refine hn_.calls _ _ _ ?_
 unfold hn_
 rw[zQ_]
 unfold km_ at h
 refine aw_ (fun e=>?_) (fun e=>aw_ (fun e1=>?_) (fun e1=>?_))
 ·rw[if_pos o_] at h;exact h
 ·rw[if_neg o_,if_pos o_] at h;exact h
 ·rw[if_neg o_,if_neg o_] at h
  by_cases q:n/256=42∧n≠10753
  ·rw[if_pos q] at h
   refine ao_ ?_ h
   simp only[Bool.and_eq_true,beq_iff_eq,bne_iff_ne,ne_eq]
   omega
  ·rw[if_neg q] at h
   refine al_ ?_ h
   rw[Bool.eq_false_iff]
   simp only[ne_eq,Bool.and_eq_true,beq_iff_eq,bne_iff_ne]
   omega
theorem rP_ {R:Bool→W_} (hi:i<8) (h:R true w):fr_ (some ⟨qb,0,none⟩) (i:Int) w R:=by
 refine dY_.calls _ _ _ _ ?_
 unfold dY_
 have e:(((!(some (⟨qb,0,none⟩:Addr)).isNone)&&(decide ((i:Int)≥0)))&&(decide ((i:Int)<8)))=true:=by simp;omega
 rw[e];exact h
theorem mG_ (ss:List Sl) (hb:Blk w qb (ss.map slv).toArray gB_) (hi:i<ss.length):w.cell? (((gA (some (⟨qb,0,none⟩:Addr))).add 0).add ((i:Int).toNat*1))=some (.slice ss[i].A ss[i].n ss[i].c):=by
 rw[gA,am_,am_,hb.cell,Int.toNat_natCast]
 simp[hi,slv]
theorem oO_ {R:Int→W_} (h:IsQ w N qb q) (hi:i<8) (hR:∀w',ac_ w w'→R (match cV_ (q i) (q i).length with|none=>-1|some b=>(b:Int)) w'):dJ_ (some ⟨qb,0,none⟩) (i:Int) w R:=by
 refine dX_.calls _ _ _ _ (rP_ hi (al_ rfl ?_))
 obtain⟨⟨ss,h1,h2,h3⟩,h4⟩:=h
 have hi':i<ss.length:=o_
 have hr:=h3 i hi'
 have hlen:(q i).length=ss[i].n:=by have:=hr.rd.len;rw[du_] at this;omega
 have hsm:=(h4 i hi).1
 refine⟨rfl,⟨o_,o_⟩,ss[i],mG_ ss h2 hi',?_⟩
 refine⟨fun b x v=>∃j:Nat,x=j∧j≤(q i).length∧ac_ w v∧b=(match cV_ (q i) j with|none=>-1|some b=>(b:Int)),fun _ x _=>ss[i].n-x.toNat,⟨0,rfl,Nat.zero_le _,ab_.refl _ _,rfl⟩,?_⟩
 rintro b x v ⟨j,rfl,hj,hg,rfl⟩
 refine bh_ (fun hlt=>?_) (fun hge=>?_)
 ·have hjl:j<(q i).length:=o_
  have hrv:=hr.rd.grow hg
  obtain⟨ha,hc⟩:=iD_ hrv (i:=j) (by rw[du_];exact hjl)
  have hev:∀{t:Nat} (ht:t<(q i).length),(dt_ (q i))[t]'(by rw[du_];exact ht)=.int .u16 (((q i).getD t 0:Nat):Int):=fun ht=>by
   unfold dt_;rw[List.getElem_map,List.getD_eq_getElem?_getD,List.getElem?_eq_getElem ht];rfl
  rw[hev hjl] at hc
  have step:∀{b1:Int} {v':World},ac_ v v'→b1=(match cV_ (q i) (j+1) with|none=>-1|some b=>(b:Int))→
    (fun(b:Int) (x:Int) (v:World)=>∃j:Nat,x=j∧j≤(q i).length∧ac_ w v∧b=(match cV_ (q i) j with|none=>-1|some b=>(b:Int))) b1 (IntKind.wrap .i64 ((j:Int)+1)) v'∧ss[i].n-(IntKind.wrap .i64 ((j:Int)+1)).toNat<ss[i].n-(j:Int).toNat:=fun g e=>by
   rw[w64 o_ o_]
   exact⟨⟨j+1,o_,o_,hg.trans g,e⟩,o_⟩
  refine bw_ (fun b1 v'=>ac_ v v'∧b1=(match cV_ (q i) (j+1) with|none=>-1|some b=>(b:Int))) (fun b1 v' hb=>step hb.1 hb.2) (fun J=>?_)
  refine⟨⟨o_,o_,ha⟩,_,by rw[Int.toNat_natCast];exact hc,?_⟩
  rintro v1 rfl
  have hgd:=aq_ v
  have hg1:=hg.trans hgd
  have hb2:Blk v.drew qb (ss.map slv).toArray gB_:=hg1.heap h2 (fun q=>q)
  have hrd:=hr.rd.grow hg1
  generalize v.drew=v1 at *
  cases hb:cV_ (q i) j with
  | none=>
   dsimp only
   have e:cV_ (q i) (j+1)=some j:=by unfold cV_;rw[hb]
   have nb:∀{P:Prop},(!(decide ((-1:Int)<0)))=true→P:=fun q=>by simp at q
   refine⟨fun o=>o=v1,rfl,nb,nb,ap_,nb,nb,0,nb,?_⟩
   refine ci_ (fun _ o=>o=v1) ?_ (fun J2=>⟨nb,fun _=>J2 _ _ rfl⟩)
   rintro _ o rfl
   refine⟨rfl,?_⟩
   refine ci_ (fun _ o'=>o'=o) ?_ (fun J2=>⟨nb,fun _=>J2 _ _ rfl⟩)
   rintro _ o' rfl
   exact ao_ rfl (J _ _ ⟨hgd,by rw[e]⟩)
  | some b=>
   dsimp only
   have hbj:=lT_ _ _ _ hb
   obtain⟨_,hcb⟩:=iD_ hrd (i:=b) (by rw[du_];omega)
   rw[hev o_] at hcb
   have nb:(!(decide (((b:Nat):Int)<0)))=true:=by rw[Bool.not_eq_true',decide_eq_false_iff_not];omega
   have nb':∀{P:Prop},(!(decide (((b:Nat):Int)<0)))=false→P:=fun q=>by rw[nb] at q;cases q
   refine⟨fun o=>o=v1,rfl,fun _=>rfl,fun _=>⟨o_,o_⟩,ss[i],fun _ o e=>by rw[e];exact mG_ ss hb2 hi',fun _=>⟨o_,o_,ha⟩,_,fun _ o e=>by rw[e,Int.toNat_natCast];exact hcb,?_⟩
   refine ci_ (fun n o=>o=v1∧n=(km_ ((q i).getD j 0):Int)) ?_ (fun J2=>⟨fun _=>p9_ (J2 _ _ ⟨rfl,rfl⟩),nb'⟩)
   rintro n2 o ⟨rfl,rfl⟩
   refine⟨rfl,?_⟩
   refine ci_ (fun n o'=>o'=o∧n=(km_ ((q i).getD b 0):Int)) ?_ (fun J2=>⟨fun _=>p9_ (J2 _ _ ⟨rfl,rfl⟩),nb'⟩)
   rintro n3 o' ⟨rfl,rfl⟩
   by_cases hlt2:km_ ((q i).getD j 0)<km_ ((q i).getD b 0)
   ·refine ao_ (by rw[Bool.or_eq_true];right;rw[decide_eq_true_eq];omega) (J _ _ ⟨hgd,?_⟩)
    have e:cV_ (q i) (j+1)=some j:=by unfold cV_;rw[hb];exact if_pos hlt2
    rw[e]
   ·refine al_ (by rw[Bool.or_eq_false_iff];exact⟨by rw[decide_eq_false_iff_not];omega,by rw[decide_eq_false_iff_not];omega⟩) (J _ _ ⟨hgd,?_⟩)
    have e:cV_ (q i) (j+1)=some b:=by unfold cV_;rw[hb];exact if_neg hlt2
    rw[e]
 ·have:j=(q i).length:=o_
  subst this
  exact hR v hg
theorem wG_ {l:List Nat} {s:Sl} (h:Rd w 1 s (dt_ l)) {b:Nat} (hb:b<l.length):s.A.isSome=true∧w.cell? ((gA s.A).add (b*1))=some (.int .u16 ((l.getD b 0:Nat):Int)):=by
 obtain⟨h1,h2⟩:=iD_ h (i:=b) (by rw[du_];exact hb)
 refine⟨h1,h2.trans ?_⟩
 unfold dt_;rw[List.getElem_map,List.getD_eq_getElem?_getD,List.getElem?_eq_getElem hb];rfl
theorem qa_ {R:Int→Bool→W_} (h:IsQ w N qb q) (hi:i<8) (hR:∀w',ac_ w w'→match cW_ (q i) with|none=>R 0 false w'|some c=>R (c:Int) true w'):gd_ (some ⟨qb,0,none⟩) (i:Int) w R:=by
 refine eq_.calls _ _ _ _ (oO_ h hi fun w' g=>?_)
 have hR:=hR w' g
 unfold cW_ at hR
 have h:=h.grow g
 cases hb:cV_ (q i) (q i).length with
 | none=>rw[hb] at hR;exact ao_ rfl hR
 | some b=>
  rw[hb] at hR
  have hbl:=lT_ _ _ _ hb
  refine al_ (by simp) ?_
  dsimp only
  obtain⟨⟨ss,h1,h2,h3⟩,h4⟩:=h
  have hi':i<ss.length:=o_
  have hr:=h3 i hi'
  have hlen:(q i).length=ss[i].n:=by have:=hr.rd.len;rw[du_] at this;omega
  obtain⟨ha,hc⟩:=wG_ hr.rd hbl
  exact⟨rfl,⟨o_,o_⟩,ss[i],mG_ ss h2 hi',⟨o_,o_,ha⟩,_,by rw[Int.toNat_natCast];exact hc,hR⟩
theorem IsQ.put (h:IsQ w N qb q) (hi:i<8) (hN:N qb) {s:Sl} {l:List Nat} (hs:RdN w N cz_ 1 s (dt_ l)) (hl:l.length≤8∧∀c∈l,c<65536) {K:W_}
  (hK:∀w',ab_ (fun k=>k=qb) w w'→w'.heap.size=w.heap.size→IsQ w' N qb (fun j=>if j=i then l else q j)→K w'):Put (((gA (some (⟨qb,0,none⟩:Addr))).add 0).add ((i:Int).toNat*1)) (.slice s.A s.n s.c) w K:=by
 obtain⟨⟨ss,h1,h2,h3⟩,h4⟩:=h
 rw[gA,am_,am_,Int.toNat_natCast]
 refine a2_ h2 (by simp;omega) rfl fun w1 hb1 hk1 hs1=>hK w1 hk1 hs1 ⟨⟨ss.set i s,by rw[List.length_set];exact h1,?_,fun j hj=>?_⟩,fun j hj=>?_⟩
 ·rw[List.map_set]
  have:(ss.map slv).toArray.setIfInBounds (0+0+i*1) (.slice s.A s.n s.c)=((ss.map slv).set i (slv s)).toArray:=by rw[List.setIfInBounds_toArray];simp[slv]
  rw[←this];exact hb1
 ·have st:∀{s:Sl} {vs:List Value},RdN w N cz_ 1 s vs→RdN w1 N cz_ 1 s vs:=fun r=>r.step (.inl rfl) hk1 (bg_.sub fun b _ q=>by rw[q];exact hN) fun _ q=>.inl q
  by_cases e:j=i
  ·subst e
   rw[List.getElem_set_self,if_pos rfl]
   exact st hs
  ·rw[List.getElem_set_ne (fun q=>e q.symm),if_neg e]
   exact st (h3 j _)
 ·by_cases e:j=i
  ·subst e;rw[if_pos rfl];exact hl
  ·rw[if_neg e];exact h4 j hj
theorem ta_ (w:World) (n:Int):(Instr.buildSlice sq_ 1 #[(0,.int .u16 n)]).run Tryz.prog w=.ok (.slice (some ⟨w.heap.size,0,none⟩) 1 1) (w.alloc (.cells #[.int .u16 n] cz_)):=k_
theorem oc_ {c:Nat} {R:W_} (h:IsQ w N qb q) (hi:i<8) (hc:c<65536) (hN:N qb) (hNl:∀b,N b→b<w.heap.size)
  (hR:∀w',ab_ (fun k=>k=qb) w w'→IsQ w' N qb (fun j=>if j=i then bM_ (q i) c else q j)→R w'):eT_ (some ⟨qb,0,none⟩) (i:Int) (c:Int) w R:=by
 refine eW_.calls _ _ _ _ _ (rP_ hi (al_ rfl ?_))
 have hq:=h
 have hok:=x6_ (l:=q i) (c:=c) (h.few i hi).1 hc (h.few i hi).2
 obtain⟨⟨ss,h1,h2,h3⟩,h4⟩:=h
 have hi':i<ss.length:=o_
 have hr:=h3 i hi'
 have hlen:(q i).length=ss[i].n:=by have:=hr.rd.len;rw[du_] at this;omega
 have hsm:=(h4 i hi).1
 refine⟨rfl,⟨o_,o_⟩,ss[i],mG_ ss h2 hi',?_⟩
 have same:bM_ (q i) c=q i→R w:=fun e=>hR w (ab_.refl _ _) (by
  have:(fun j=>if j=i then bM_ (q i) c else q j)=q:=by
   funext j
   by_cases e':j=i
   ·subst e';rw[if_pos rfl,e]
   ·rw[if_neg e']
  rw[this];exact hq)
 refine bw_ (fun(l:Sl) v=>v=w∧RdN w N cz_ 1 l (dt_ (jb_ (q i) c))) ?_ (fun J=>?_)
 ·rintro l v ⟨rfl,hl⟩
  generalize hB:jb_ (q i) c=B at *
  have hBn:B.length=l.n:=by have:=hl.rd.len;rw[du_] at this;omega
  have hB8:B.length≤8:=by rw[←hB];unfold jb_;split;exact Nat.zero_le _;exact hsm
  have hA:bM_ (q i) c=if c∈B then q i else if B.length<8 then B++[c] else q i:=by unfold bM_;rw[hB]
  refine⟨fun x u=>∃j:Nat,x=j∧j≤B.length∧u=v∧∀t,t<j→B.getD t 0≠c,fun x _=>l.n-x.toNat,⟨0,rfl,Nat.zero_le _,rfl,fun t ht=>o_⟩,?_⟩
  rintro x u ⟨j,rfl,hj,rfl,hno⟩
  refine bh_ (fun hlt=>?_) (fun hge=>?_)
  ·have hjl:j<B.length:=o_
   obtain⟨ha,hcl⟩:=wG_ hl.rd hjl
   refine⟨⟨o_,o_,ha⟩,_,by rw[Int.toNat_natCast];exact hcl,?_⟩
   refine aw_ (fun e=>?_) (fun e=>?_)
   ·refine same ?_
    rw[hA,if_pos]
    have:B.getD j 0=c:=o_
    rw[←this,List.getD_eq_getElem?_getD,List.getElem?_eq_getElem hjl]
    exact List.getElem_mem hjl
   ·rw[w64 o_ o_]
    refine⟨⟨j+1,o_,o_,rfl,fun t ht=>?_⟩,by dsimp only;omega⟩
    by_cases q:t=j
    ·subst q;omega
    ·exact hno t o_
  ·have hnm:¬c∈B:=fun hm=>by
    obtain⟨t,ht,e⟩:=List.getElem_of_mem hm
    refine hno t o_ ?_
    rw[List.getD_eq_getElem?_getD,List.getElem?_eq_getElem ht];exact e
   rw[if_neg hnm] at hA
   have d8:(decide ((l.n:Int)<8))=decide (B.length<8):=by rw[hBn,decide_eq_decide];omega
   rw[d8]
   refine a6_ (fun h8=>?_) (fun h8=>same (by rw[hA,if_neg h8]))
   rw[if_pos h8] at hA
   rintro u1 rfl
   have hgd:=aq_ u
   have hNd:∀b,N b→b<u.drew.heap.size:=fun b hb=>by have:=hNl b hb;have:=hgd.size;omega
   have hqd:=hq.grow hgd
   have hld:RdN u.drew N cz_ 1 l (dt_ B):=hl.grow hgd
   generalize u.drew=u1 at *
   rw[hA] at hR hok
   have fin:∀{u3:World} {x3:Sl},ac_ u1 u3→CF.Own u3 u1.heap.size cz_ 1 x3 (dt_ (B++[c]))→(0≤(i:Int)∧(i:Int)<(8:Int))∧Put (((gA (some (⟨qb,0,none⟩:Addr))).add 0).add ((i:Int).toNat*1)) (.slice x3.A x3.n x3.c) u3 fun w08=>R w08:=fun {u3 x3} g o=>by
    have hx:x3.n=(B++[c]).length:=by have:=o.len;rw[du_] at this;omega
    refine⟨⟨o_,o_⟩,(hqd.grow g).put hi hN (o.rdN (by rw[hx];simp;omega) hNd) hok fun w' hk hs hq'=>hR w' (hG_ (hgd.trans g) hk) hq'⟩
   refine⟨rfl,?_,?_⟩
   ·refine aS_ (base:=u1.heap.size) fi_ hT_ rfl d_ d_ (aK_ _ _ _ _) hld.rd (lU_ _) (by show(0+l.n)*2≤_;omega) (Nat.le_refl _) fun x1 v1 hn1 ho1 hk1 _=>?_
    have g1:ac_ u1 v1:=hk1.mono fun i hi q=>by simp[Sl.blk] at q
    refine aH_ (cells:=#[.int .u16 (c:Int)]) (e:=cz_) (z:=1) (base:=v1.heap.size) (ta_ _ _) rfl d_ (Nat.le_refl _) fun v2 ho2 hg2 _=>?_
    refine aS_ fi_ hT_ rfl d_ d_ (ho1.grow hg2) (ho2.rd (by show 1≤_;decide)) (by simp[Value.oneCell']) (by rw[hn1];show(0+l.n+1)*2≤_;omega) (by have:=g1.size;have:=hg2.size;omega) fun x3 v3 hn3 ho3 hk3 _=>?_
    exact fin (dn_ (g1.trans hg2) (ho1.grow hg2) (Nat.le_refl _) hk3) (by rw[kK_];exact ho3)
   ·refine aH_ (cells:=#[.int .u16 (c:Int)]) (e:=cz_) (z:=1) (base:=u1.heap.size) (ta_ _ _) rfl d_ (Nat.le_refl _) fun v1 ho1 hg1 _=>?_
    have hl1:Rd v1 1 l (dt_ B):=hld.rd.grow hg1
    refine aS_ (base:=u1.heap.size) fi_ hT_ rfl d_ d_ (aK_ _ _ _ _) hl1 (lU_ _) (by show(0+l.n)*2≤_;omega) hg1.size fun x2 v2 hn2 ho2 hk2 _=>?_
    have g2:ac_ v1 v2:=hk2.mono fun i hi q=>by simp[Sl.blk] at q
    refine aS_ fi_ hT_ rfl d_ d_ ho2 ((ho1.grow g2).rd (by show 1≤_;decide)) (by simp[Value.oneCell']) (by rw[hn2];show(0+l.n+1)*2≤_;omega) (by have:=g2.size;have:=hg1.size;omega) fun x3 v3 hn3 ho3 hk3 _=>?_
    exact fin (dn_ (hg1.trans g2) ho2 (Nat.le_refl _) hk3) (by rw[kK_];exact ho3)
 ·have ec:((c:Int)==10496)=decide (c=10496):=by rw[Bool.eq_iff_iff,beq_iff_eq,decide_eq_true_eq];omega
  rw[ec]
  refine a6_ (fun e=>J _ _ ⟨rfl,by unfold jb_;rw[if_pos e];exact RdN.nil _ _ _ _⟩) (fun e=>J _ _ ⟨rfl,by unfold jb_;rw[if_neg e];exact hr⟩)
end
open Go CF
section
variable {w u:World} {N N' S:Nat→Prop} {qb i:Nat} {q:Nat→List Nat}
theorem wH_ {α:Type} (q:Nat→α) (i:Nat) {v:α} (e:v=q i):(fun j=>if j=i then v else q j)=q:=by
 funext j
 by_cases e':j=i
 ·subst e';rw[if_pos rfl,e]
 ·rw[if_neg e']
theorem qb_ (l:List Nat) (k:Nat):(dt_ l).take k=dt_ (l.take k):=List.map_take.symm
theorem vk_ (l:List Nat) (k:Nat):(dt_ l).drop k=dt_ (l.drop k):=List.map_drop.symm
theorem mH_ {R:Int→Bool→W_} (h:IsQ w N qb q) (hi:i<8) (hN:N qb) (hNl:∀b,N b→b<w.heap.size)
  (hR:∀w',ab_ (fun k=>k=qb) w w'→IsQ w' N qb (fun j=>if j=i then hH_ (q i) else q j)→match cW_ (q i) with|none=>R 0 false w'|some c=>R (c:Int) true w'):eh_ (some ⟨qb,0,none⟩) (i:Int) w R:=by
 refine er_.calls _ _ _ _ (oO_ h hi fun w' g=>?_)
 have hq:=h.grow g
 have hokn:=wF_ (h.few i hi).1 (h.few i hi).2
 unfold cW_ at hR
 cases hb:cV_ (q i) (q i).length with
 | none=>
  rw[hb] at hR
  have e:hH_ (q i)=q i:=by unfold hH_;rw[hb]
  refine ao_ rfl (hR w' (g.mono fun _ _ q=>q.elim) ?_)
  rw[wH_ q i e];exact hq
 | some b=>
  rw[hb] at hR
  have e:hH_ (q i)=(q i).take b++(q i).drop (b+1):=by unfold hH_;rw[hb]
  rw[e] at hR hokn
  have hbl:=lT_ _ _ _ hb
  refine al_ (by simp) ?_
  dsimp only
  have hsm:=(h.few i hi).1
  obtain⟨⟨ss,h1,h2,h3⟩,h4⟩:=hq
  have hi':i<ss.length:=o_
  have hr:=h3 i hi'
  have hlen:(q i).length=ss[i].n:=by have:=hr.rd.len;rw[du_] at this;omega
  have hcap:=hr.rd.cap
  obtain⟨ha,hc⟩:=wG_ hr.rd hbl
  refine⟨rfl,⟨o_,o_⟩,ss[i],mG_ ss h2 hi',⟨o_,o_,ha⟩,_,by rw[Int.toNat_natCast];exact hc,?_⟩
  rintro u1 rfl
  have hgd:=aq_ w'
  have hNd:∀b,N b→b<w'.drew.heap.size:=fun b hb=>by have:=hNl b hb;have:=hgd.size;have:=g.size;omega
  have hqd:=(h.grow g).grow hgd
  have hld:Rd w'.drew 1 ss[i] (dt_ (q i)):=hr.rd.grow hgd
  generalize w'.drew=u1 at *
  have ew:IntKind.wrap .i64 ((b:Int)+1)=((b+1:Nat):Int):=by rw[w64 o_ o_];omega
  rw[ew,Int.toNat_natCast,Int.toNat_natCast,Int.toNat_natCast]
  have c1:Rd u1 1 ⟨aP_ ss[i].A ss[i].c 0 1,b-0,ss[i].c-0⟩ (dt_ ((q i).take b)):=by
   have:=hld.cut (l:=0) (k:=b) (Nat.zero_le _) o_
   simpa [qb_] using this
  have c2:Rd u1 1 ⟨aP_ ss[i].A ss[i].c (b+1) 1,ss[i].n-(b+1),ss[i].c-(b+1)⟩ (dt_ ((q i).drop (b+1))):=by
   have:=hld.cut (l:=b+1) (k:=ss[i].n) o_ (Nat.le_refl _)
   rw[Nat.mul_one,Nat.mul_one,vk_,qb_] at this
   rwa [List.take_of_length_le (by rw[List.length_drop];omega)] at this
  refine⟨⟨o_,o_,o_,hcap⟩,⟨o_,o_,o_,hcap⟩,rfl,?_⟩
  refine aS_ (base:=u1.heap.size) fi_ hT_ rfl d_ d_ (aK_ _ _ _ _) c1 (lU_ _) (by show(0+(b-0))*2≤_;omega) (Nat.le_refl _) fun x1 v1 hn1 ho1 hk1 _=>?_
  have g1:ac_ u1 v1:=hk1.mono fun i hi q=>by simp[Sl.blk] at q
  refine aS_ fi_ hT_ rfl d_ d_ ho1 (c2.grow g1) (lU_ _) (by rw[hn1];show(0+(b-0)+(ss[i].n-(b+1)))*2≤_;omega) g1.size fun x3 v3 hn3 ho3 hk3 _=>?_
  have g3:=dn_ g1 ho1 (Nat.le_refl _) hk3
  have ho3:CF.Own v3 u1.heap.size cz_ 1 x3 (dt_ ((q i).take b++(q i).drop (b+1))):=by rw[kK_];exact ho3
  have hx:x3.n≤8:=by have:=ho3.len;rw[du_] at this;omega
  refine⟨⟨o_,o_⟩,(hqd.grow g3).put hi hN (ho3.rdN o_ hNd) hokn fun w'' hk hs hq'=>hR w'' (hG_ ((g.trans hgd).trans g3) hk) hq'⟩
end
end Go.Proofs.YtpmebahhjgkflaaGreatDoor
