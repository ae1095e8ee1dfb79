import Derived.Laws.MakeOwn
import Derived.Lib.AppendZerosOnto
import Derived.Deep.DeepAppendWide
import Derived.Test.YtpmebahhjgkflaaGreatDoorB4
set_option maxHeartbeats 20000000
namespace Go.Proofs.YtpmebahhjgkflaaGreatDoor
open Go CF
set_option maxRecDepth 100000
theorem dW_ {P:Program} {w:World} {b o:Nat} {t ty:TypeId} {zv:Option Value} {z bytes:Nat} {old cells:A_} (hb:Blk w b old t) (hinfo:(P.info? ty).map (fun i=>(i.zero,i.size,i.bytes))=some (zv,z,bytes)) (hz:z=cells.size) (ho:o+cells.size≤old.size)
  (h1:∀v∈cells.toList,v.oneCell'=true) {K:W_} (h:∀w1,Blk w1 b (old.toList.take o++cells.toList++old.toList.drop (o+cells.size)).toArray t→ac_ (fun k=>k=b) w w1→w1.heap.size=w.heap.size→K w1):af_ P (storeVar ty ⟨b,o,none⟩ (.agg cells)) w K:=by
 obtain⟨i,hi,hzz⟩:=Option.map_eq_some_iff.1 hinfo
 simp only[Prod.mk.injEq] at hzz
 have hst:=run_storeCells_at P b o t cells.toList 0 old w hb (by simpa using ho) h1
 have hs:cells.size=i.size:=o_
 refine⟨_,?_,h (w.setRow b (old.toList.take o++cells.toList++old.toList.drop (o+cells.size)).toArray) (setRow_heap w b old _ t (0,0) hb) ⟨rfl,rfl,rfl,by simp,fun k _ hn=>setRow_other w b k _ hn⟩ (by simp)⟩
 simp only[Nat.add_zero,Array.length_toList] at hst
 simp[storeVar,sizeOf,typeInfo,hi,Value.cells,hs]
 rw[hs,List.append_assoc] at hst
 exact hst
theorem zq_ (b:Bk):(bc b).toArray[16]?=some (.int .u16 (b.g:Int))∧(bc b).toArray[17]?=some (.int .u16 (b.a:Int))∧(bc b).toArray[18]?=some (.int .u32 (b.r:Int)):=by
 have hl:(bv b.d).length=16:=by rw[ax_,b.hd]
 refine⟨?_,?_,?_⟩<;>·simp only[bc,List.getElem?_toArray];rw[List.getElem?_append_right o_,hl];rfl
theorem o2_ (b:Bk):∀v∈bc b,v.oneCell'=true:=by
 intro v hv
 rcases List.mem_append.1 hv with q|q
 ·exact cg_ _ v q
 ·simp only[List.mem_cons,List.not_mem_nil,or_false] at q
  rcases q with rfl|rfl|rfl<;>rfl
theorem le_ (b:Bk):((bc b).toArray.all (·.oneCell'))=true:=by
 rw[Array.all_eq_true_iff_forall_mem];intro v hv;exact o2_ b v (by simpa using hv)
theorem um_ {b:Bk} {w:World} {R:Sl→W_} (h:∀s w',ab_ w w'→Own w' w.heap.size ae_ 1 s (bv (cE_ b))→R s w'):kh_ (bc b).toArray w R:=by
 refine h7_.calls _ _ _ ?_
 refine ag_ fun pb w0 hpb hb0 hg0 hsz0=>?_
 have hb0:Blk w0 pb (bc b).toArray av_:=hb0
 have hl:(bv b.d).length=16:=by rw[ax_,b.hd]
 refine aJ_ (cells:=#[.int .u8 1]) (e:=ae_) (z:=1) (base:=w0.heap.size) k_ rfl d_ (Nat.le_refl _) fun w1 hlit1 hg1 _=>⟨d_,?_⟩
 have hb1:=hg1.heap hb0 (fun q=>q)
 have hd1:Rd w1 1 ⟨some ⟨pb,0,none⟩,16,16⟩ (bv b.d):=⟨hl,Nat.le_refl _,by show 16≤_;decide,fun _=>⟨_,rfl,fun j v hj=>ar_ hb1 j v (by rw[bc,List.getElem?_append_left (by have:=(List.getElem?_eq_some_iff.1 hj).1;exact this)];exact hj)⟩⟩
 refine aN_ (x:=⟨some ⟨pb,0,none⟩,16,16⟩) aE_ a6_ rfl d_ d_ hlit1 hd1 (cg_ _) (by show(1+16)*1≤_;decide) hg1.size fun s2 w2 hn2 hown2 hk2 _=>?_
 have up:∀{u u':World} {s:Sl} {vs:List Value},ab_ w0 u→Own u w0.heap.size ae_ 1 s vs→ac_ (fun k=>some k=s.blk) u u'→ab_ w0 u':=fun hg ho hk=>hg.keep hk fun i hi q=>by have:=(ho.ge i q.symm).1;omega
 have hg2:=up hg1 hlit1 hk2
 have hb2:=hg2.heap hb0 (fun q=>q)
 obtain⟨e16,e17,e18⟩:=zq_ b
 have cg:∀{u:World},Blk u pb (bc b).toArray av_→u.cell? (((⟨pb,0,none⟩:Addr).add 16).add 0)=some (.int .u16 (b.g:Int)):=fun q=>by rw[ao_,ao_,q.cell];exact e16
 have ca:∀{u:World},Blk u pb (bc b).toArray av_→u.cell? (((⟨pb,0,none⟩:Addr).add 16).add 1)=some (.int .u16 (b.a:Int)):=fun q=>by rw[ao_,ao_,q.cell];exact e17
 have cr:∀{u:World},Blk u pb (bc b).toArray av_→u.cell? (((⟨pb,0,none⟩:Addr).add 16).add 2)=some (.int .u32 (b.r:Int)):=fun q=>by rw[ao_,ao_,q.cell];exact e18
 refine⟨_,cg hb2,_,cg hb2,_,ca hb2,_,ca hb2,?_⟩
 rw[shr .u16 b.g 8 d_,shr .u16 b.a 8 d_,aV_,aV_,aV_,aV_]
 refine aJ_ (cells:=(bv (be2 b.g++be2 b.a)).toArray) (e:=ae_) (z:=1) (base:=w0.heap.size) k_ rfl d_ hg2.size fun w3 hlit3 hg3 _=>?_
 have n2:s2.n=17:=hn2
 refine aN_ aE_ a6_ rfl d_ d_ (hown2.grow hg3) (hlit3.rd (by show 4≤_;decide)) (cg_ _) (by rw[n2];show(17+4)*1≤_;decide) (hg2.trans hg3).size fun s4 w4 hn4 hown4 hk4 _=>?_
 have hg4:=up (hg2.trans hg3) (hown2.grow hg3) hk4
 have hb4:=hg4.heap hb0 (fun q=>q)
 refine⟨_,cr hb4,_,cr hb4,_,cr hb4,_,cr hb4,?_⟩
 rw[shr .u32 b.r 24 d_,shr .u32 b.r 16 d_,shr .u32 b.r 8 d_,aV_,aV_,aV_,aV_]
 refine aJ_ (cells:=(bv (be4 b.r)).toArray) (e:=ae_) (z:=1) (base:=w0.heap.size) k_ rfl d_ hg4.size fun w5 hlit5 hg5 _=>?_
 have n4:s4.n=21:=hn4.trans (by rw[n2];rfl)
 refine aN_ aE_ a6_ rfl d_ d_ (hown4.grow hg5) (hlit5.rd (by show 4≤_;decide)) (cg_ _) (by rw[n4];show(21+4)*1≤_;decide) (hg4.trans hg5).size fun s6 w6 hn6 hown6 hk6 _=>?_
 have hg6:=up (hg4.trans hg5) (hown4.grow hg5) hk6
 refine h s6 w6 (hg0.trans hg6) (Own.mono (base:=w0.heap.size) ?_ o_)
 have e:bv (cE_ b) = [.int .u8 1]++bv b.d++bv (be2 b.g++be2 b.a)++bv (be4 b.r):=by
  unfold cE_;rw[bg_,bg_,bg_];rfl
 rw[e]
 exact hown6
theorem qn_ {w:World} {R:A_→W_} (h:∀w',ab_ w w'→R (bc dc_).toArray w'):k7_ w R:=by
 refine iV_.calls _ _ ?_
 refine ag_ fun pb w0 hpb hb0 hg0 hsz0=>?_
 refine⟨(bc dc_).toArray,k_,?_⟩
 refine ap_ (cells:=(bc dc_).toArray) hb0 bq_ rfl rfl (le_ _) fun w1 hb1 hk1 _=>?_
 have hg1:ab_ w w1:=hg0.keep hk1 fun i hi q=>o_
 refine⟨(bc dc_).toArray,aD_ eK_ bq_ rfl (ar_ hb1),h w1 hg1⟩
theorem vE_ (l:L8) (h:l.length=2):num l<65536:=by have:=iY_ l;rw[h] at this;exact this
theorem vF_ (l:L8) (h:l.length=4):num l<4294967296:=by have:=iY_ l;rw[h] at this;exact this
def gB_ (l:L8):Bk:=
 if h:25≤l.length∧l[0]?=some 1 then
  ⟨(l.drop 1).take 16,num ((l.drop 17).take 2),num ((l.drop 19).take 2),num ((l.drop 21).take 4),by simp;omega,vE_ _ (by simp;omega),vE_ _ (by simp;omega),vF_ _ (by simp;omega)⟩
 else dc_
theorem vG_ {p:Sl} {l:L8} {w:World} {R:A_→W_} (hp:Rd w 1 p (bv l)) (hb:p.n≤1000000000) (h:∀w',ab_ w w'→R (bc (gB_ l)).toArray w'):k6_ p w R:=by
 refine iU_.calls _ _ _ ?_
 have hln:l.length=p.n:=by have:=hp.len;rw[ax_] at this;omega
 have hcap:=hp.cap
 refine ag_ fun pa w0 hpa hb0 hg0 hsz0=>?_
 by_cases h25:25≤l.length
 case neg=>
  have hd:decide ((p.n:Int)<25)=true:=decide_eq_true o_
  refine⟨fun q=>(by rw[hd] at q;cases q),0,fun q=>(by rw[hd] at q;cases q),al_ (by rw[hd];rfl) ?_⟩
  refine qn_ fun w1 hg1=>?_
  refine ap_ (cells:=(bc dc_).toArray) (hg1.heap hb0 (fun q=>q)) bq_ rfl rfl (le_ _) fun w2 hb2 hk2 _=>?_
  refine⟨(bc dc_).toArray,aD_ eK_ bq_ rfl (ar_ hb2),?_⟩
  have:=h w2 ((hg0.trans hg1).keep hk2 fun i hi q=>o_)
  rwa [show gB_ l=dc_ from dif_neg fun q=>h25 q.1] at this
 have hd:decide ((p.n:Int)<25)=false:=decide_eq_false o_
 obtain⟨a,ha,hc⟩:=(hp.grow hg0).byte (i:=0) o_
 have h0l:0<l.length:=o_
 refine⟨fun _=>⟨o_,o_,by rw[ha];rfl⟩,(l[0].toNat:Int),fun _=>(by rw[ha];exact hc),?_⟩
 by_cases h1:l[0]=1
 case neg=>
  refine al_ (by rw[hd,Bool.false_or,bne_iff_ne];exact fun q=>h1 (UInt8.toNat_inj.1 (by show l[0].toNat=1;omega))) ?_
  refine qn_ fun w1 hg1=>?_
  refine ap_ (cells:=(bc dc_).toArray) (hg1.heap hb0 (fun q=>q)) bq_ rfl rfl (le_ _) fun w2 hb2 hk2 _=>?_
  refine⟨(bc dc_).toArray,aD_ eK_ bq_ rfl (ar_ hb2),?_⟩
  have:=h w2 ((hg0.trans hg1).keep hk2 fun i hi q=>o_)
  rwa [show gB_ l=dc_ from dif_neg fun q=>h1 (by have:=q.2;rw[List.getElem?_eq_getElem h0l] at this;exact Option.some.inj this)] at this
 refine ai_ (by rw[hd,h1];rfl) ?_
 refine ag_ fun pb w3 hpb hb3 hg3 hsz3=>?_
 rintro w4 rfl
 have hg4:ab_ w3 w3.drew:=am_ w3
 refine⟨d_,⟨o_,o_,o_,hcap⟩,?_⟩
 have hgw4:=(hg0.trans hg3).trans hg4
 have hx:=(hp.grow hgw4).cutB (l:=1) (k:=p.n) o_ (Nat.le_refl _)
 simp only[Int.toNat_natCast]
 have hdl:((l.drop 1).take 16).length=16:=by simp;omega
 have hne:bv ((l.drop 1).take (p.n-1))≠[]:=fun e=>by
  have:=congrArg List.length e
  simp[ax_] at this
  omega
 obtain⟨a2,ha2,hc2⟩:=hx.at_ hne
 have ha2:aI_ p.A p.c 1 1=some a2:=ha2
 have hsrc:∀j v,(bv ((l.drop 1).take 16))[j]?=some v→w3.drew.cell? (a2.add j)=some v:=fun j v hj=>hc2 j v (by
  have hj16:j<16:=by have:=(List.getElem?_eq_some_iff.1 hj).1;rw[ax_,hdl] at this;exact this
  rw[←hj,←jj_,←jj_,List.getElem?_take,List.getElem?_take,if_pos o_,if_pos hj16])
 have hb4:Blk w3.drew pb _ av_:=hg4.heap hb3 (fun q=>q)
 have hcp:=run_copy_row (P:=Tryz.prog) w3.drew aB_ aB_ hb_ ae_ pb 0 16 16 a2 (p.n-1) (p.c-1) _ av_ (bv ((l.drop 1).take 16)) aE_ k_ hb4 (by rw[ax_,hdl];exact(Nat.min_eq_right o_).symm) hsrc (by rw[ax_,hdl];decide) (cg_ _)
 rw[ha2]
 refine⟨16,_,hcp.trans (by rw[ax_,hdl];rfl),?_⟩
 generalize hw5:w3.drew.setRow pb _=w5
 have hb5:Blk w5 pb (bv ((l.drop 1).take 16)++[Value.int .u16 0,Value.int .u16 0,Value.int .u32 0]).toArray av_:=by
  rw[←hw5]
  have:=setRow_heap w3.drew pb _ ((#[.int .u8 0,.int .u8 0,.int .u8 0,.int .u8 0,.int .u8 0,.int .u8 0,.int .u8 0,.int .u8 0,.int .u8 0,.int .u8 0,.int .u8 0,.int .u8 0,.int .u8 0,.int .u8 0,.int .u8 0,.int .u8 0,.int .u16 0,.int .u16 0,.int .u32 0]:A_).toList.take 0++bv ((l.drop 1).take 16)++(#[.int .u8 0,.int .u8 0,.int .u8 0,.int .u8 0,.int .u8 0,.int .u8 0,.int .u8 0,.int .u8 0,.int .u8 0,.int .u8 0,.int .u8 0,.int .u8 0,.int .u8 0,.int .u8 0,.int .u8 0,.int .u8 0,.int .u16 0,.int .u16 0,.int .u32 0]:A_).toList.drop (0+(bv ((l.drop 1).take 16)).length)).toArray av_ (0,0) hb4
  rw[ax_,hdl] at this
  exact this
 have hk5:ac_ (fun k=>k=pb) w3.drew w5:=by
  rw[←hw5];exact⟨rfl,rfl,rfl,by simp,fun k _ hn=>setRow_other w3.drew pb k _ hn⟩
 have hg5:ab_ w w5:=hgw4.keep hk5 fun i hi q=>by have:=hg0.size;omega
 have hp5:=hp.grow hg5
 refine bX_ (at_:=17) (n:=2) hp5 (Nat.le_trans hb d_) d_ d_ o_ ?_
 refine bX_ (at_:=19) (n:=2) hp5 (Nat.le_trans hb d_) d_ d_ o_ ?_
 refine bX_ (at_:=21) (n:=4) hp5 (Nat.le_trans hb d_) d_ d_ o_ ?_
 have g2:=vE_ ((l.drop 17).take 2) (by simp;omega)
 have a2':=vE_ ((l.drop 19).take 2) (by simp;omega)
 have r4:=vF_ ((l.drop 21).take 4) (by simp;omega)
 rw[oa_ o_ o_,oa_ o_ o_,k1_ o_ o_,ao_]
 have hbl:gB_ l=⟨(l.drop 1).take 16,num ((l.drop 17).take 2),num ((l.drop 19).take 2),num ((l.drop 21).take 4),hdl,g2,a2',r4⟩:=dif_pos ⟨h25,by rw[List.getElem?_eq_getElem h0l,h1]⟩
 refine dW_ (o:=0+16) hb5 dQ_ rfl (by simp[ax_];omega) (by simp[Value.oneCell']) fun w6 hb6 hk6 _=>?_
 have e6:((bv ((l.drop 1).take 16)++[Value.int .u16 0,.int .u16 0,.int .u32 0]).toArray.toList.take (0+16)++(#[Value.int .u16 ((num ((l.drop 17).take 2):Nat):Int),.int .u16 ((num ((l.drop 19).take 2):Nat):Int),.int .u32 ((num ((l.drop 21).take 4):Nat):Int)]:A_).toList++(bv ((l.drop 1).take 16)++[Value.int .u16 0,.int .u16 0,.int .u32 0]).toArray.toList.drop (0+16+3))=bc (gB_ l):=by
  rw[hbl]
  have hl16:(bv ((l.drop 1).take 16)).length=16:=by rw[ax_,hdl]
  unfold bc
  dsimp only
  generalize bv ((l.drop 1).take 16)=B at hl16 ⊢
  generalize num ((l.drop 17).take 2)=x1
  generalize num ((l.drop 19).take 2)=x2
  generalize num ((l.drop 21).take 4)=x3
  simp only[Nat.zero_add]
  rw[List.take_append_of_le_length o_,List.take_of_length_le o_,List.drop_append,List.drop_of_length_le o_,hl16]
  simp
 have hb6:Blk w6 pb (bc (gB_ l)).toArray av_:=by rw[←e6];exact hb6
 refine⟨(bc (gB_ l)).toArray,aD_ eK_ bq_ (by rw[bN_]) (ar_ hb6),?_⟩
 have hpne:pa≠pb:=o_
 have hba:Blk w6 pa _ av_:=hk6.heap (hk5.heap (hg4.heap (hg3.heap hb0 (fun q=>q)) (fun q=>q)) hpne) hpne
 refine ap_ (cells:=(bc (gB_ l)).toArray) hba bq_ (by simp[bN_]) (by simp[bN_]) (le_ _) fun w7 hb7 hk7 _=>?_
 refine⟨(bc (gB_ l)).toArray,aD_ eK_ bq_ (by rw[bN_]) (ar_ hb7),h w7 ?_⟩
 exact(hg5.keep hk6 fun i hi q=>by have:=hg0.size;omega).keep hk7 fun i hi q=>o_
open Go CF
theorem o3_ (f:L8) (o:Nat) (p:L8) (k:Nat):(wr f o p).getD k 0=if o≤k∧k<o+p.length then p.getD (k-o) 0 else f.getD k 0:=by
 unfold wr
 simp only[List.getD_eq_getElem?_getD]
 generalize hg:f++List.replicate (o+p.length-f.length) 0=g
 have hgl:g.length=max f.length (o+p.length):=by rw[←hg];simp;omega
 have hgk:∀k:Nat,(g[k]?).getD 0=(f[k]?).getD 0:=fun k=>by
  rw[←hg]
  rcases Nat.lt_or_ge k f.length with q|q
  ·rw[List.getElem?_append_left q]
  ·rw[List.getElem?_append_right q,List.getElem?_eq_none q,List.getElem?_replicate]
   split<;>rfl
 have htl:(g.take o).length=o:=by rw[List.length_take];omega
 rcases Nat.lt_or_ge k o with q|q
 ·rw[if_neg o_,List.append_assoc,List.getElem?_append_left o_,List.getElem?_take,if_pos q,hgk]
 ·rcases Nat.lt_or_ge k (o+p.length) with q2|q2
  ·rw[if_pos ⟨q,q2⟩,List.append_assoc,List.getElem?_append_right o_,htl,List.getElem?_append_left o_]
  ·rw[if_neg o_,List.getElem?_append_right (by rw[List.length_append,htl];omega),List.length_append,htl,List.getElem?_drop,show o+p.length+(k-(o+p.length))=k by omega,hgk]
def Good (f:L8):Prop:=∀j:Nat,f.getD (25*j) 0=1→25*j+25≤f.length
def dK_ (f:L8) (j:Nat):Bk:=gB_ ((f.drop (25*j)).take 25)
def mp_ (f:L8) (j:Nat):L8:=(List.range 25).map fun t=>f.getD (25*j+t) 0
theorem on_ {l:L8} (h:¬(25≤l.length∧l[0]?=some 1)):gB_ l=dc_:=dif_neg h
theorem kN_ {f:L8} (h:Good f) (j:Nat):dK_ f j=gB_ (mp_ f j):=by
 unfold dK_
 by_cases h1:f.getD (25*j) 0=1
 ·have hl:=h j h1
  have e:(f.drop (25*j)).take 25=mp_ f j:=by
   unfold mp_
   apply List.ext_getElem?
   intro t
   simp only[List.getElem?_take,List.getElem?_drop,List.getElem?_map,List.getElem?_range]
   by_cases q:t<25
   ·rw[if_pos q,List.getElem?_eq_getElem (show 25*j+t<f.length by omega)]
    simp[q,List.getD_eq_getElem?_getD,List.getElem?_eq_getElem (show 25*j+t<f.length by omega)]
   ·simp[q]
  rw[e]
 ·rw[on_,on_]
  ·intro q
   have:=q.2
   simp[mp_] at this
   exact h1 (by simpa using this)
  ·intro q
   have hq:=q.2
   have hlen:=q.1
   rw[List.length_take,List.length_drop] at hlen
   rw[List.getElem?_take,if_pos d_,List.getElem?_drop,Nat.add_zero] at hq
   exact h1 (by rw[List.getD_eq_getElem?_getD,hq];rfl)
theorem yq_:Good []:=fun j h=>by simp at h
theorem pR_ {f p:L8} {i j t:Nat} (hp:p.length≤25) (hij:j≠i) (ht:t<25):(wr f (25*i) p).getD (25*j+t) 0=f.getD (25*j+t) 0:=by
 rw[o3_,if_neg o_]
theorem u1_ {n:Nat} (h:n<65536):num (be2 n)=n:=by
 simp only[num,be2,List.foldl_cons,List.foldl_nil,UInt8.toNat_ofNat']
 omega
theorem zK_ {n:Nat} (h:n<4294967296):num (be4 n)=n:=by
 simp only[num,be4,List.foldl_cons,List.foldl_nil,UInt8.toNat_ofNat']
 omega
theorem AK_ {a b:Bk} (h1:a.d=b.d) (h2:a.g=b.g) (h3:a.a=b.a) (h4:a.r=b.r):a=b:=by
 cases a;cases b;simp only at h1 h2 h3 h4;subst h1;subst h2;subst h3;subst h4;rfl
theorem w1_ (b:Bk):gB_ (cE_ b)=b:=by
 have h:25≤(cE_ b).length∧(cE_ b)[0]?=some 1:=⟨by rw[gW_];decide,rfl⟩
 have hd:=b.hd
 have e:cE_ b=1::(b.d++(be2 b.g++(be2 b.a++be4 b.r))):=by simp[cE_]
 have d1:(cE_ b).drop 1=b.d++(be2 b.g++(be2 b.a++be4 b.r)):=by rw[e];rfl
 have d17:(cE_ b).drop 17=be2 b.g++(be2 b.a++be4 b.r):=by
  rw[e,List.drop_succ_cons,List.drop_append,List.drop_of_length_le o_,hd];rfl
 have d19:(cE_ b).drop 19=be2 b.a++be4 b.r:=by
  have:(cE_ b).drop 19=((cE_ b).drop 17).drop 2:=by rw[List.drop_drop]
  rw[this,d17];rfl
 have d21:(cE_ b).drop 21=be4 b.r:=by
  have:(cE_ b).drop 21=((cE_ b).drop 19).drop 2:=by rw[List.drop_drop]
  rw[this,d19];rfl
 unfold gB_
 rw[dif_pos h]
 apply AK_
 ·show((cE_ b).drop 1).take 16=b.d
  rw[d1,List.take_append_of_le_length o_,List.take_of_length_le o_]
 ·show num (((cE_ b).drop 17).take 2)=b.g
  rw[d17];exact u1_ b.hg
 ·show num (((cE_ b).drop 19).take 2)=b.a
  rw[d19];exact u1_ b.ha
 ·show num (((cE_ b).drop 21).take 4)=b.r
  rw[d21];exact zK_ b.hr
theorem tn_ {f:L8} (h:Good f) (i:Nat) (b:Bk):Good (wr f (25*i) (cE_ b)):=by
 intro j hj
 rw[ti_,gW_]
 by_cases e:j=i
 ·subst e;omega
 ·have:=pR_ (f:=f) (p:=cE_ b) (t:=0) (by rw[gW_];decide) e d_
  rw[Nat.add_zero] at this
  rw[this] at hj
  have:=h j hj
  omega
theorem rN_ {f:L8} (h:Good f) (i:Nat):Good (wr f (25*i) [0]):=by
 intro j hj
 rw[ti_]
 by_cases e:j=i
 ·subst e
  rw[o3_,if_pos ⟨Nat.le_refl _,by simp⟩,Nat.sub_self] at hj
  cases hj
 ·have:=pR_ (f:=f) (p:=[0]) (t:=0) d_ e d_
  rw[Nat.add_zero] at this
  rw[this] at hj
  have:=h j hj
  omega
theorem tp_ {f p:L8} {i j:Nat} (hp:p.length≤25) (hij:j≠i):mp_ (wr f (25*i) p) j=mp_ f j:=by
 unfold mp_
 apply List.map_congr_left
 intro t ht
 exact pR_ hp hij (List.mem_range.1 ht)
theorem w2_ {f:L8} (h:Good f) (i:Nat) (b:Bk) (j:Nat):dK_ (wr f (25*i) (cE_ b)) j=if j=i then b else dK_ f j:=by
 rw[kN_ (tn_ h i b)]
 by_cases e:j=i
 ·subst e
  rw[if_pos rfl]
  have e2:mp_ (wr f (25*j) (cE_ b)) j=cE_ b:=by
   unfold mp_
   apply List.ext_getElem?
   intro t
   rw[List.getElem?_map]
   by_cases q:t<25
   ·rw[List.getElem?_range q,Option.map_some,o3_,if_pos ⟨o_,by rw[gW_];omega⟩,show 25*j+t-25*j=t by omega,List.getD_eq_getElem?_getD,List.getElem?_eq_getElem (by rw[gW_];exact q)]
    rfl
   ·rw[List.getElem?_eq_none (l:=List.range 25) (by simp;omega),List.getElem?_eq_none (l:=cE_ b) (by rw[gW_];omega)];rfl
  rw[e2,w1_]
 ·rw[if_neg e,tp_ (by rw[gW_];decide) e,kN_ h]
theorem vH_ {f:L8} (h:Good f) (i j:Nat):dK_ (wr f (25*i) [0]) j=if j=i then dc_ else dK_ f j:=by
 rw[kN_ (rN_ h i)]
 by_cases e:j=i
 ·subst e
  rw[if_pos rfl,on_]
  intro q
  have:=q.2
  rw[mp_,List.getElem?_map,List.getElem?_range d_,Option.map_some,Nat.add_zero,o3_,if_pos ⟨Nat.le_refl _,by simp⟩,Nat.sub_self] at this
  cases this
 ·rw[if_neg e,tp_ d_ e,kN_ h]
open Go CF
def AL_ (pw:Nat) (file:ByteArray) (blocks:Nat) (cache:Bool):A_:=#[.pointer (some ⟨pw,0,none⟩),.string file,.int .i64 (blocks:Int),.bool cache]
abbrev IsS (w:World) (ps pw:Nat) (file:ByteArray) (blocks:Nat) (cache:Bool):Prop:=Blk w ps (AL_ pw file blocks cache) ki_
theorem w3_ {w:World} {pw:Nat} {file:ByteArray} {blocks:Nat} {cache:Bool} {R:O_→Int→W_} (hs:1≤file.size∧file.size≤32) (hb:1≤blocks∧blocks≤4096)
  (h:∀ps w',ps=w.heap.size→ab_ w w'→IsS w' ps pw file blocks cache→R (some ⟨ps,0,none⟩) 0 w'):mi_ (some ⟨pw,0,none⟩) file (blocks:Int) cache w R:=by
 refine jA_.calls _ _ _ _ _ _ ?_
 refine ai_ (by rw[Bool.or_eq_false_iff,Bool.or_eq_false_iff,Bool.or_eq_false_iff,decide_eq_false_iff_not,decide_eq_false_iff_not,decide_eq_false_iff_not,decide_eq_false_iff_not];omega) (ai_ rfl ?_)
 exact ag_ fun ps w1 hps hb1 hg1 _=>h ps w1 hps hg1 hb1
theorem nx_ {w:World} {ps pw:Nat} {file:ByteArray} {blocks:Nat} {cache:Bool} {lba n:Nat} {R:Int→W_} (hs:IsS w ps pw file blocks cache) (hb:blocks≤4096) (hl:lba≤1000000000)
  (h:R (if lba+n≤blocks then 0 else 4) w):da_ (some ⟨ps,0,none⟩) (lba:Int) (n:Int) w R:=by
 refine ew_.calls _ _ _ _ _ ?_
 have c2:w.cell? ((gA (some ⟨ps,0,none⟩)).add 2)=some (.int .i64 (blocks:Int)):=by rw[gA,ao_,hs.cell];rfl
 refine ai_ rfl ⟨fun _=>rfl,(blocks:Int),fun _=>c2,fun _=>rfl,(blocks:Int),fun _=>c2,?_⟩
 have e:IntKind.wrap .i64 ((blocks:Int)-(lba:Int))=(blocks:Int)-(lba:Int):=w64 o_ o_
 by_cases q:lba+n≤blocks
 ·rw[if_pos q] at h
  refine ai_ ?_ h
  rw[Bool.or_eq_false_iff,Bool.or_eq_false_iff,Bool.or_eq_false_iff,decide_eq_false_iff_not,decide_eq_false_iff_not,decide_eq_false_iff_not,decide_eq_false_iff_not,e]
  omega
 ·rw[if_neg q] at h
  refine al_ ?_ h
  rw[Bool.or_eq_true,Bool.or_eq_true,Bool.or_eq_true,decide_eq_true_eq,decide_eq_true_eq,decide_eq_true_eq,decide_eq_true_eq,e]
  omega
def fi_ (st:Wst) (file:ByteArray) (o:Nat) (r:L8):Wst:=⟨fs_ st.seen file o r,st.dur,st.waits++[⟨119,file,⟨#[]⟩,o,r⟩],st.ops+1⟩
def bO_ (st:Wst) (file:ByteArray) (lba:Nat) (rs:Nat→L8):Nat→Wst
 | 0=>st
 | k+1=>fi_ (bO_ st file lba rs k) file (25*(lba+k)) (rs k)
theorem ij_ (st:Wst) (file:ByteArray) (lba:Nat) (rs:Nat→L8):∀k,(bO_ st file lba rs k).ops=st.ops+k∧(bO_ st file lba rs k).waits.length=st.waits.length+k
 | 0=>⟨rfl,rfl⟩
 | k+1=>by
  obtain⟨h1,h2⟩:=ij_ st file lba rs k
  simp only[bO_,fi_,List.length_append,List.length_singleton,h1,h2]
  omega
theorem u2_ {w:World} {ps pw:Nat} {D:Nat→Prop} {st:Wst} {F:Int→Bool} {file:ByteArray} {blocks:Nat} {cache fua:Bool} {lba n:Nat} {one:Value} {rs:Nat→L8} {R:Int→Int→W_}
  (hS:IsS w ps pw file blocks cache) (hps:¬D ps) (hw:aZ_ w pw D st F) (hs:1≤file.size∧file.size≤32) (hb:lba+n≤4096) (hlen:∀i,(rs i).length≤25) (ho:st.ops<100000000000) (hn:st.waits.length<900000000)
  (hone:∀(x:Nat) (u:World) (K:Sl→W_),x<n→ac_ D w u→(∀s u',ab_ u u'→Own u' 0 ae_ 1 s (bv (rs x))→K s u')→lz_ Tryz.prog cs one #[.int .i64 (x:Int)] u [.sl] K)
  (h:(∀i:Nat,i<n→F ((st.ops+i:Nat):Int)=false)→∀u D',ac_ D w u→aZ_ u pw D' (bO_ st file lba rs n) F→(∀k,D' k→D k∨w.heap.size≤k)→IsS u ps pw file blocks cache→
   if 0<n∧(fua=true∨cache=false) then cn_ (some ⟨pw,0,none⟩) u (fun e v=>R (n:Int) e v) else R (n:Int) 0 u)
  (hbad:∀k:Nat,k<n→(∀i:Nat,i<k→F ((st.ops+i:Nat):Int)=false)→F ((st.ops+k:Nat):Int)=true→∀u D',ac_ D w u→aZ_ u pw D' {bO_ st file lba rs k with ops:=st.ops+k+1} F→(∀k,D' k→D k∨w.heap.size≤k)→IsS u ps pw file blocks cache→R (k:Int) 6 u) :
  fK_ (some ⟨ps,0,none⟩) (lba:Int) (n:Int) one fua w R:=by
 refine fR_.calls _ _ _ _ _ _ _ ?_
 have hS':∀{u:World},ac_ D w u→IsS u ps pw file blocks cache:=fun k=>k.heap hS hps
 refine⟨fun x w'=>∃k:Nat,x=k∧k≤n∧(∀i:Nat,i<k→F ((st.ops+i:Nat):Int)=false)∧∃Dk,ac_ D w w'∧aZ_ w' pw Dk (bO_ st file lba rs k) F∧∀j,Dk j→D j∨w.heap.size≤j,fun x _=>n-x.toNat,
  ⟨0,rfl,Nat.zero_le _,(fun i hi=>absurd hi (Nat.not_lt_zero _)),D,ac_.mono (ac_.refl (fun _=>False) w) (fun _ _ q=>q.elim),hw,fun _ q=>.inl q⟩,?_⟩
 rintro x w0 ⟨k,rfl,hk,hfl,Dk,hk0,hw0,hD0⟩
 refine ba_ (fun hlt=>?_) (fun hge=>?_)
 ·rintro w1 rfl
  have hg1:ab_ w0 w0.drew:=am_ w0
  have hk1:ac_ D w w0.drew:=hk0.grow hg1
  refine⟨fun u=>IsS u ps pw file blocks cache,hS' hk1,rfl,some ⟨pw,0,none⟩,fun u hu=>by rw[gA,ao_,Blk.cell hu];rfl,rfl,file,fun u hu=>by rw[gA,ao_,Blk.cell hu];rfl,?_⟩
  refine hone k w0.drew _ hlt hk1 fun s w2 hg2 hown2=>⟨hS' (hk1.grow hg2),?_⟩
  have e:IntKind.wrap .i64 ((IntKind.wrap .i64 ((lba:Int)+(k:Int)))*25)=((25*(lba+k):Nat):Int):=by
   rw[w64 (n:=(lba:Int)+(k:Int)) o_ o_,w64 o_ o_];omega
  rw[e]
  obtain⟨lo,lw⟩:=ij_ st file lba rs k
  have hl25:=hlen k
  have hsn:s.n=(rs k).length:=by have:=hown2.len;rw[ax_] at this;omega
  have hDk:∀i,i<w.heap.size→Dk i→D i:=fun i hi q=>(hD0 i q).elim id (fun r=>o_)
  refine lV_ (bs:=rs k) ((hw0.grow hg1).grow hg2) hs (hown2.rd o_) o_ o_ o_ (fun hf w3 D' hk3 hw3 hD3=>ai_ rfl ?_) (fun hf w3 hk3 hw3=>al_ rfl (hbad k hlt hfl (by rw[←lo];exact hf) w3 Dk ((hk1.grow hg2).trans hk3 hDk) (by rw[←lo];exact hw3) hD0 (hS' ((hk1.grow hg2).trans hk3 hDk))))
  rw[w64 o_ o_]
  have hsz1:=hg1.size
  have hsz2:=hg2.size
  have hsz0:=hk0.size
  refine⟨⟨k+1,o_,o_,fun i hi=>?_,D',(hk1.grow hg2).trans hk3 fun i hi q=>?_,hw3,fun j hj=>?_⟩,by dsimp only;omega⟩
  ·by_cases q:i=k
   ·subst q;rw[←lo];exact hf
   ·exact hfl i o_
  ·rcases hD0 i q with r|r
   ·exact r
   ·omega
  ·rcases hD3 j hj with q|q
   ·exact hD0 j q
   ·exact .inr o_
 ·have hkn:k=n:=o_
  subst hkn
  have:=h hfl w0 Dk hk0 hw0 hD0 (hS' hk0)
  have hc:w0.cell? ((gA (some ⟨ps,0,none⟩)).add 3)=some (.bool cache):=by rw[gA,ao_,Blk.cell (hS' hk0)];rfl
  refine⟨fun _=>rfl,cache,fun _=>hc,?_⟩
  by_cases q:0<k∧(fua=true∨cache=false)
  ·rw[if_pos q] at this
   refine al_ ?_ ⟨rfl,some ⟨pw,0,none⟩,by rw[gA,ao_,Blk.cell (hS' hk0)];rfl,this⟩
   rw[Bool.and_eq_true,decide_eq_true_eq,Bool.or_eq_true,Bool.not_eq_true']
   exact⟨o_,q.2⟩
  ·rw[if_neg q] at this
   refine ai_ ?_ this
   rw[Bool.and_eq_false_iff,decide_eq_false_iff_not,Bool.or_eq_false_iff,Bool.not_eq_false']
   by_cases q1:0<k
   ·right
    cases fua<;>cases cache<;>simp_all
   ·left;omega
open Go CF
theorem aZ_.lt {w:World} {pw:Nat} {D:Nat→Prop} {st:Wst} {F:Int→Bool} (h:aZ_ w pw D st F) {k:Nat} (hk:D k):k<w.heap.size:=by
 obtain⟨_,_,mb,md,ws,cs,h⟩:=h
 exact h.lt k hk
def dL_ (bs:List Bk) (i:Nat):L8:=match bs[i]? with|some b=>cE_ b|none=>[]
theorem ny_ (bs:List Bk) (i:Nat):(dL_ bs i).length≤25:=by
 unfold dL_;split
 ·rw[gW_];exact Nat.le_refl _
 ·decide
theorem sw_ {w:World} {s:Sl} {bs:List Bk} (h:Rd w 19 s (bs.flatMap bc)):bs.length=s.n:=by
 have:=h.len;rw[bv_ bN_] at this;omega
theorem jo_ {w:World} {s:Sl} {bs:List Bk} (h:Rd w 19 s (bs.flatMap bc)) {i:Nat} (hi:i<bs.length):∃a,s.A=some a∧bQ_ w (a.add (i*19)) (bc bs[i]):=by
 obtain⟨a,ha,hc⟩:=h.elem (i:=i) (by rw[←sw_ h];exact hi) d_
 exact⟨a,ha,by rw[gJ_ bN_ hi] at hc;exact hc⟩
theorem qo_ {w:World} {ps pw:Nat} {D:Nat→Prop} {st:Wst} {F:Int→Bool} {file:ByteArray} {blocks:Nat} {cache fua:Bool} {lba:Nat} {L:Sl} {bs:List Bk} {R:Int→Int→W_}
  (hS:IsS w ps pw file blocks cache) (hps:¬D ps) (hw:aZ_ w pw D st F) (hs:1≤file.size∧file.size≤32) (hbk:blocks≤4096) (hl:lba≤1000000000) (hL:∀u,ac_ D w u→Rd u 19 L (bs.flatMap bc))
  (ho:st.ops<100000000000) (hn:st.waits.length<900000000)
  (h1:blocks<lba+bs.length→∀u,ab_ w u→R 0 4 u)
  (h2:lba+bs.length≤blocks→(∀i:Nat,i<bs.length→F ((st.ops+i:Nat):Int)=false)→∀u D',ac_ D w u→aZ_ u pw D' (bO_ st file lba (dL_ bs) bs.length) F→(∀k,D' k→D k∨w.heap.size≤k)→IsS u ps pw file blocks cache→
   if 0<bs.length∧(fua=true∨cache=false) then cn_ (some ⟨pw,0,none⟩) u (fun e v=>R (bs.length:Int) e v) else R (bs.length:Int) 0 u)
  (hbad:lba+bs.length≤blocks→∀k:Nat,k<bs.length→(∀i:Nat,i<k→F ((st.ops+i:Nat):Int)=false)→F ((st.ops+k:Nat):Int)=true→∀u D',ac_ D w u→aZ_ u pw D' {bO_ st file lba (dL_ bs) k with ops:=st.ops+k+1} F→(∀k,D' k→D k∨w.heap.size≤k)→IsS u ps pw file blocks cache→R (k:Int) 6 u) :
  eg_ (some ⟨ps,0,none⟩) (lba:Int) L fua w R:=by
 refine es_.calls _ _ _ _ _ _ ?_
 have hbn:=sw_ (hL w (ac_.mono (ac_.refl (fun _=>False) w) fun _ _ q=>q.elim))
 refine ag_ fun lb w0 hlb hb0 hg0 hsz0=>?_
 have hsz:w.heap.size≤w0.heap.size:=hg0.size
 have hc0:w0.cell? ⟨lb,0,none⟩=some (.slice L.A L.n L.c):=by rw[Blk.cell hb0];rfl
 have hS0:IsS w0 ps pw file blocks cache:=hg0.heap hS (fun q=>q)
 refine⟨L,hc0,nx_ hS0 hbk hl ?_⟩
 by_cases q:lba+bs.length≤blocks
 case neg=>rw[if_neg o_];exact al_ rfl (h1 o_ w0 hg0)
 rw[if_pos o_]
 refine ai_ rfl ⟨L,hc0,?_⟩
 rw[←hbn]
 have hlD:¬D lb:=fun e=>by have:=hw.lt e;omega
 refine u2_ (n:=bs.length) (rs:=dL_ bs) hS0 hps (hw.grow hg0) hs o_ (ny_ bs) ho hn (fun x u K hx hk hK=>?_) (fun hfl u D' hk hw' hD' hS'=>?_) (fun k hkl hfl hf u D' hk hw' hD' hS'=>hbad q k hkl hfl hf u D' ((hg0.mono (fun _ _ e=>e.elim)).trans hk fun _ _ e=>e) hw' (fun j hj=>?_) hS')
 ·refine⟨rfl,?_⟩
  show iF_ (x:Int) ⟨lb,0,none⟩ u K
  refine dI_.calls _ _ _ _ ?_
  have hLu:Rd u 19 L (bs.flatMap bc):=hL u ((hg0.mono (fun _ _ e=>e.elim)).trans hk fun _ _ e=>e)
  obtain⟨a,ha,hc⟩:=jo_ hLu hx
  refine⟨L,hk.cell hc0 hlD,⟨o_,o_,by rw[ha];rfl⟩,(bc bs[x]).toArray,?_,?_⟩
  ·rw[ha];exact aD_ eK_ bq_ (by rw[bN_]) hc
  ·refine um_ fun s u' hg hown=>hK s u' hg (Own.mono ?_ (Nat.zero_le u.heap.size))
   unfold dL_
   rw[List.getElem?_eq_getElem hx]
   exact hown
 ·refine h2 q hfl u D' ((hg0.mono (fun _ _ e=>e.elim)).trans hk fun _ _ e=>e) hw' (fun k hk'=>?_) hS'
  rcases hD' k hk' with e|e
  ·exact .inl e
  ·exact .inr o_
 ·rcases hD' j hj with e|e
  ·exact .inl e
  ·exact .inr o_
def dd_ (st:Wst) (file:ByteArray) (lba n:Nat):List Bk:=(List.range n).map fun i=>dK_ ((st.seen file).getD []) (lba+i)
theorem oo_ (w:World) (b:Bk):(Instr.buildSlice mL_ 1 #[(0,.agg (bc b).toArray)]).run Tryz.prog w=.ok (.slice (some ⟨w.heap.size,0,none⟩) 1 1) (w.alloc (.cells (bc b).toArray av_)):=by
 obtain⟨d,g,a,r,hd,hg,ha,hr⟩:=b
 match d,hd with
 | [x0,x1,x2,x3,x4,x5,x6,x7,x8,x9,x10,x11,x12,x13,x14,x15],_=>
  show(Instr.buildSlice mL_ 1 #[(0,.agg #[.int .u8 (x0.toNat:Int),.int .u8 (x1.toNat:Int),.int .u8 (x2.toNat:Int),.int .u8 (x3.toNat:Int),.int .u8 (x4.toNat:Int),.int .u8 (x5.toNat:Int),.int .u8 (x6.toNat:Int),.int .u8 (x7.toNat:Int),.int .u8 (x8.toNat:Int),.int .u8 (x9.toNat:Int),.int .u8 (x10.toNat:Int),.int .u8 (x11.toNat:Int),.int .u8 (x12.toNat:Int),.int .u8 (x13.toNat:Int),.int .u8 (x14.toNat:Int),.int .u8 (x15.toNat:Int),.int .u16 (g:Int),.int .u16 (a:Int),.int .u32 (r:Int)])]).run Tryz.prog w=_
  kernel_rfl
theorem qp_ {w:World} {ps pw:Nat} {D:Nat→Prop} {st:Wst} {F:Int→Bool} {file:ByteArray} {blocks:Nat} {cache:Bool} {lba n:Nat} {R:Sl→Int→Int→W_}
  (hS:IsS w ps pw file blocks cache) (hps:¬D ps) (hw:aZ_ w pw D st F) (hs:1≤file.size∧file.size≤32) (hbk:blocks≤4096) (hl:lba+n≤blocks) (ho:st.ops<100000000000)
  (h:(∀i:Nat,i<n→F ((st.ops+i:Nat):Int)=false)→∀out u,ac_ D w u→RdW w u pw D st n→Own u w.heap.size av_ 19 out ((dd_ st file lba n).flatMap bc)→out.n=n→R out (n:Int) 0 u)
  (hbad:∀k:Nat,k<n→(∀i:Nat,i<k→F ((st.ops+i:Nat):Int)=false)→F ((st.ops+k:Nat):Int)=true→∀u,ac_ D w u→RdW w u pw D st (k+1)→R ⟨none,0,0⟩ (k:Int) 6 u) :
  hx_ (some ⟨ps,0,none⟩) (lba:Int) (n:Int) w R:=by
 refine ff_.calls _ _ _ _ _ ?_
 refine nx_ hS hbk o_ ?_
 rw[if_pos hl]
 refine ai_ rfl ?_
 refine⟨fun out x u=>∃k:Nat,x=k∧k≤n∧(∀i:Nat,i<k→F ((st.ops+i:Nat):Int)=false)∧ac_ D w u∧RdW w u pw D st k∧Own u w.heap.size av_ 19 out ((dd_ st file lba k).flatMap bc),fun _ x _=>n-x.toNat,
  ⟨0,rfl,Nat.zero_le _,(fun i hi=>absurd hi (Nat.not_lt_zero _)),ac_.mono (ac_.refl (fun _=>False) w) (fun _ _ q=>q.elim),RdW.refl _ _ _ _,aG_ _ _ _ _⟩,?_⟩
 rintro out x w0 ⟨k,rfl,hk,hfl,hk0,hr0,hown⟩
 have hw0:=hr0.isWq hw
 have hol:out.n=k:=by have:=hown.len;rw[bv_ bN_] at this;simp[dd_] at this;omega
 refine ba_ (fun hlt=>?_) (fun hge=>?_)
 ·rintro w1 rfl
  have hg1:ab_ w0 w0.drew:=am_ w0
  have hk1:ac_ D w w0.drew:=hk0.grow hg1
  have hS1:IsS w0.drew ps pw file blocks cache:=hk1.heap hS hps
  refine⟨fun u=>IsS u ps pw file blocks cache,hS1,rfl,some ⟨pw,0,none⟩,fun u hu=>by rw[gA,ao_,Blk.cell hu];rfl,rfl,file,fun u hu=>by rw[gA,ao_,Blk.cell hu];rfl,?_⟩
  have e:IntKind.wrap .i64 ((IntKind.wrap .i64 ((lba:Int)+(k:Int)))*25)=((25*(lba+k):Nat):Int):=by
   rw[w64 (n:=(lba:Int)+(k:Int)) o_ o_,w64 o_ o_];omega
  rw[e]
  refine iX_ (n:=25) (hw0.grow hg1) hs o_ d_ (by show st.ops+k<_;omega) (fun hf s w2 hk2 hr2 hown2 hsn=>?_) (fun hf w2 hk2 hr2=>al_ rfl (hbad k hlt hfl hf w2 (hk1.trans hk2 fun _ _ q=>q) ((hr0.grow hg1).trans hr2)))
  refine ai_ (by
   show((_:Int) != 0&&_)=false
   cases (st.seen file).isSome<;>rfl) ?_
  have hown2:Own w2 w0.drew.heap.size ae_ 1 s (bv ((((st.seen file).getD []).drop (25*(lba+k))).take 25)):=hown2
  refine vG_ (hown2.rd o_) o_ fun w3 hg3=>?_
  refine aJ_ (cells:=(bc (dK_ ((st.seen file).getD []) (lba+k))).toArray) (e:=av_) (z:=19) (base:=0) ?_ (by simp[bN_]) d_ (Nat.zero_le _) fun w4 hlit4 hg4 _=>?_
  ·exact oo_ _ _
  have outD:∀b,out.blk=some b→¬D b:=fun b hb q=>by
   have h1:=(hown.ge b hb).1
   have h2:=hw.lt q
   omega
  have hown4:Own w4 w.heap.size av_ 19 out ((dd_ st file lba k).flatMap bc):=(((hown.grow hg1).keep hk2 outD).grow hg3).grow hg4
  have hk4:ac_ D w w4:=((hk1.trans hk2 fun _ _ q=>q).grow hg3).grow hg4
  refine aN_ jn_ bq_ rfl d_ d_ hown4 (hlit4.rd (by show 1≤_;decide)) (fun v hv=>o2_ _ v (by simpa using hv)) (by show(out.n+1)*24≤_;omega) hk4.size fun s' w5 hn5 hown5 hk5 _=>?_
  have hk5':ac_ D w w5:=hk4.trans (S':=fun k=>some k=out.blk) hk5 fun i hi q=>by
   have:=(hown4.ge i q.symm).1;omega
  rw[w64 o_ o_]
  refine⟨⟨k+1,o_,o_,fun i hi=>?_,hk5',?_,?_⟩,by dsimp only;omega⟩
  ·by_cases e:i=k
   ·subst e;exact hf
   ·exact hfl i o_
  ·have:=(((hr0.grow hg1).trans hr2).grow hg3 |>.grow hg4).keep hk5 (fun k hk q=>outD k q.symm hk) (fun g cur hg q=>?_)
   ·exact this
   ·obtain⟨cur',hc'⟩:=aS_ hown4 q.symm
    rw[hc'] at hg
    injection hg with hg
    injection hg with _ ht
    exact absurd ht d_
  ·have er:(dd_ st file lba (k+1)).flatMap bc=(dd_ st file lba k).flatMap bc++bc (dK_ ((st.seen file).getD []) (lba+k)):=by
    unfold dd_
    rw[List.range_succ,List.map_append,List.flatMap_append]
    simp
   rw[er]
   simpa using hown5
 ·have hkn:k=n:=o_
  subst hkn
  exact h hfl out w0 hk0 hr0 hown hol
open Go CF
def AM_:Nat:=0x82f63b78
def pS_ (s:Nat):Nat:=if s%2=1 then(s/2) ^^^ AM_ else s/2
def sx_:Nat→Nat→Nat
 | 0,s=>s
 | k+1,s=>pS_ (sx_ k s)
def vI_ (s:Nat) (b:UInt8):Nat:=sx_ 8 (s ^^^ b.toNat)
def kl_ (s:Nat) (l:L8):Nat:=l.foldl vI_ s
def c32 (l:L8):Nat:=kl_ 0xffffffff l ^^^ 0xffffffff
theorem lf_ {a b:Nat} (ha:a<4294967296) (hb:b<4294967296):a ^^^ b<4294967296:=Nat.xor_lt_two_pow (n:=32) ha hb
theorem zL_ {s:Nat} (h:s<4294967296):pS_ s<4294967296:=by
 unfold pS_
 split
 ·exact lf_ o_ d_
 ·omega
theorem nz_ {s:Nat} (h:s<4294967296):∀k,sx_ k s<4294967296
 | 0=>h
 | k+1=>zL_ (nz_ h k)
theorem zM_ {s:Nat} (h:s<4294967296) (b:UInt8):vI_ s b<4294967296:=nz_ (lf_ h (by have:=b.toNat_lt;omega)) 8
theorem zN_ {l:L8}:∀{s:Nat},s<4294967296→kl_ s l<4294967296:=by
 induction l with
 | nil=>intro s h;exact h
 | cons b r ih=>intro s h;exact ih (zM_ h b)
theorem un_ (s:Nat) (a b:L8):kl_ s (a++b)=kl_ (kl_ s a) b:=by simp[kl_,List.foldl_append]
theorem w4_ (s:Nat) (a:L8) (b:UInt8):kl_ s (a++[b])=vI_ (kl_ s a) b:=by rw[un_];rfl
theorem vJ_ {a b:Nat} (ha:a<4294967296) (hb:b<4294967296):ji_ .u32 (a:Int) (b:Int)=((a ^^^ b:Nat):Int):=by
 unfold ji_
 show IntKind.wrap .u32 (((BitVec.ofInt 32 (a:Int) ^^^ BitVec.ofInt 32 (b:Int)).toNat:Nat):Int)=_
 rw[BitVec.ofInt_natCast,BitVec.ofInt_natCast,BitVec.toNat_xor,BitVec.toNat_ofNat,BitVec.toNat_ofNat,Nat.mod_eq_of_lt o_,Nat.mod_eq_of_lt o_]
 have:=lf_ ha hb
 exact k1_ o_ o_
theorem zO_ {a:Nat} (ha:a<4294967296):bm_ .u32 (a:Int) 1=((a%2:Nat):Int):=by
 unfold bm_
 show IntKind.wrap .u32 (((BitVec.ofInt 32 (a:Int) &&& BitVec.ofInt 32 ((1:Nat):Int)).toNat:Nat):Int)=_
 rw[BitVec.ofInt_natCast,BitVec.ofInt_natCast,BitVec.toNat_and,BitVec.toNat_ofNat,BitVec.toNat_ofNat,Nat.mod_eq_of_lt o_,Nat.mod_eq_of_lt o_]
 rw[Nat.and_one_is_mod]
 exact k1_ o_ o_
theorem zr_ {a:Nat} (ha:a<4294967296):rf_ .u32 (a:Int)=((a ^^^ 4294967295:Nat):Int):=by
 unfold rf_
 have e:(if IntKind.signed .u32=true then(-1:Int) else IntKind.max .u32)=((4294967295:Nat):Int):=d_
 rw[e,vJ_ d_ ha,Nat.xor_comm]
open Go CF
theorem AN_ {s:Nat} (hs:s<4294967296) {X Y:Prop} (h1:s%2=1→X) (h0:s%2=0→Y):Br ((bm_ .u32 (s:Int) 1)==1) X Y:=by
 rw[zO_ hs]
 exact ay_ (fun q=>h1 o_) (fun q=>h0 o_)
theorem AO_ {s:Nat} (hs:s<4294967296) (h:s%2=1):ji_ .u32 (bu_ .u32 (s:Int) 1) 2197175160=((pS_ s:Nat):Int):=by
 rw[shr .u32 s 1 d_]
 have:=vJ_ (a:=s/2) (b:=AM_) o_ d_
 unfold pS_
 rw[if_pos h]
 exact this
theorem AP_ {s:Nat} (h:s%2=0):bu_ .u32 (s:Int) 1=((pS_ s:Nat):Int):=by
 rw[shr .u32 s 1 d_]
 unfold pS_
 rw[if_neg o_]
theorem rm_ {p:Sl} {l:L8} {s:Nat} {w:World} {R:Int→W_} (hp:Rd w 1 p (bv l)) (hs:s<4294967296)
  (h:R ((kl_ (s ^^^ 4294967295) l ^^^ 4294967295:Nat):Int) w):nm_ (s:Int) p w R:=by
 refine kJ_.calls _ _ _ _ ?_
 have hln:l.length=p.n:=by have:=hp.len;rw[ax_] at this;omega
 have hnb:=hp.nb
 have hs':s ^^^ 4294967295<4294967296:=lf_ hs d_
 refine⟨fun v x w'=>w'=w∧∃j:Nat,x=j∧j≤p.n∧v=((kl_ (s ^^^ 4294967295) (l.take j):Nat):Int),fun _ x _=>p.n-x.toNat,⟨rfl,0,rfl,Nat.zero_le _,zr_ hs⟩,?_⟩
 rintro v x w0 ⟨rfl,j,rfl,hj,rfl⟩
 have hcs:kl_ (s ^^^ 4294967295) (l.take j)<4294967296:=zN_ hs'
 refine ba_ (fun hlt=>?_) (fun hge=>?_)
 ·obtain⟨a,ha,hc⟩:=hp.byte (i:=j) hlt
  have hjs:j<l.length:=o_
  have hb8:=l[j].toNat_lt
  refine⟨⟨o_,o_,by rw[ha];rfl⟩,(l[j].toNat:Int),by rw[ha];exact hc,?_⟩
  rw[k1_ (n:=(l[j].toNat:Int)) o_ o_,vJ_ hcs o_]
  generalize hT:kl_ (s ^^^ 4294967295) (l.take j) ^^^ l[j].toNat=T
  have hTl:T<4294967296:=by rw[←hT];exact lf_ hcs o_
  refine⟨fun v x w'=>w'=w0∧∃k:Nat,x=k∧k≤8∧v=((sx_ k T:Nat):Int),fun _ x _=>8-x.toNat,⟨rfl,0,rfl,d_,rfl⟩,?_⟩
  rintro v x w1 ⟨rfl,k,rfl,hk,rfl⟩
  refine a8_ (fun hlt8=>?_) (fun hge8=>?_)
  ·refine AN_ (nz_ hTl k) (fun q=>?_) (fun q=>?_)
   ·rw[AO_ (nz_ hTl k) q,w64 o_ o_]
    exact⟨⟨rfl,k+1,o_,o_,rfl⟩,by dsimp only;omega⟩
   ·rw[AP_ q,w64 o_ o_]
    exact⟨⟨rfl,k+1,o_,o_,rfl⟩,by dsimp only;omega⟩
  ·have:k=8:=o_
   subst this
   rw[w64 o_ o_]
   refine⟨⟨rfl,j+1,o_,o_,?_⟩,by dsimp only;omega⟩
   rw[List.take_succ_eq_append_getElem hjs,w4_]
   unfold vI_
   rw[hT]
 ·have:j=p.n:=o_
  subst this
  rw[List.take_of_length_le o_] at hcs ⊢
  rw[zr_ hcs]
  exact h
theorem op_ {p:Sl} {l:L8} {w:World} {R:Int→W_} (hp:Rd w 1 p (bv l)) (h:R ((c32 l:Nat):Int) w):nk_ p w R:=by
 refine nu_.calls _ _ _ ?_
 refine rm_ (s:=0) hp d_ ?_
 rw[Nat.zero_xor]
 exact h
end Go.Proofs.YtpmebahhjgkflaaGreatDoor
namespace Go.Proofs.YtpmebahhjgkflaaGreatDoor.CF
open Go Go.RowKit
set_option maxRecDepth 100000
theorem bT_ {w:World} {base:Nat} {e:TypeId} {s:Sl} {vs:List Value} (hs:Own w base e 1 s vs) {i:Nat} (hi:i<s.n) {v:Value} (hv:v.oneCell'=true)
  {K:W_} (h:∀w1,Own w1 base e 1 s (vs.set i v)→ac_ (fun k=>some k=s.blk) w w1→w1.heap.size=w.heap.size→K w1):Put ((gA s.A).add (i*1)) v w K:=by
 obtain⟨hlen,hown⟩:=hs
 rcases hown with⟨_,hn0⟩|⟨g,cap,cur,hv',hbg,hg,hnc,hcm,hcs,htake⟩
 ·omega
 ·injection hv' with hA hN hC
  have hcs':cur.size=cap:=by simpa using hcs
  rw[Nat.mul_one,hA,gA,ao_,Nat.zero_add]
  refine aU_ hg o_ hv fun w1 hb1 hk1 hsz1=>?_
  refine h w1 ⟨by rw[List.length_set];exact hlen,.inr ⟨g,cap,_,by rw[hA,hC],hbg,hb1,hnc,hcm,by simpa using hcs,?_⟩⟩ (hk1.mono fun k _ q=>by simp[Sl.blk,hA,q]) hsz1
  have hF:cur.toList.take (s.n*1)=vs:=htake
  rw[←hF,Array.toList_setIfInBounds,List.take_set]
theorem cy_ {P:Program} {w:World} {t e:TypeId} {zv:Value} {bytes n base:Nat} (ht:P.underlying t=some (.slice e)) (hinfo:(P.info? e).map (fun i=>(i.zero,i.size,i.bytes))=some (some zv,1,bytes)) (hzc:zv.cells=#[zv])
  (hb:bytes*n≤281474976710656) (hn:n≤140737488355328) (hbase:base≤w.heap.size)
  {K:Sl→W_} (h:∀w1,Own w1 base e 1 ⟨some ⟨w.heap.size,0,none⟩,n,n⟩ (List.replicate n zv)→ab_ w w1→w1.heap.size=w.heap.size+1→K ⟨some ⟨w.heap.size,0,none⟩,n,n⟩ w1) :
  an_ P .sl (Instr.makeSlice t (.int .i64 (n:Int)) (.int .i64 (n:Int))) w K:=by
 obtain⟨i,hi,hzz⟩:=Option.map_eq_some_iff.1 hinfo
 simp only[Prod.mk.injEq] at hzz
 obtain⟨hz,hsz,hby⟩:=hzz
 have hb':(i.bytes:Int)*(n:Int)≤281474976710656:=by
  rw[hby,←Int.natCast_mul];omega
 have hr:=run_make (P:=P) w t e i zv ht hi hz .i64 .i64 (n:Int) (n:Int) o_ (Int.le_refl _) hb' o_
 simp only[Int.toNat_natCast] at hr
 refine⟨⟨some ⟨w.heap.size,0,none⟩,n,n⟩,_,hr,h _ ?_ (fG_ w _) (by simp)⟩
 have hm:madeCells zv.cells (n*i.size)=(List.replicate n zv).toArray:=by
  rw[hzc,hsz,Nat.mul_one]
  apply Array.ext
  ·simp[madeCells]
  ·intro k h1 h2
   simp[madeCells,Nat.mod_one]
 rw[hm]
 have:=World.ownsRow_lit (e:=e) (size:=1) (base:=base) w (List.replicate n zv).toArray n hbase (by unfold maxLen;omega) (by simp)
 exact this
theorem pg_ {P:Program} {w:World} {t tn ty e:TypeId} {zv:Value} {base k:Nat} (ht:P.underlying t=some (.slice e)) (htn:P.underlying tn=some (.int .i64)) (hinfo:(P.info? e).map (fun i=>(i.zero,i.size,i.bytes))=some (some zv,1,1)) (hzc:zv.cells=#[zv])
  {s:Sl} {vs:List Value} (hs:Rd w 1 s vs) (hc:s.c<s.n+k) (hk:0<k) (hbd:s.n+k≤1000000000) (hbase:base≤w.heap.size)
  {K:Sl→W_} (h:∀s' w',s'.n=s.n+k→Own w' base e 1 s' (vs++List.replicate k zv)→ab_ w w'→s'.blk=some w.heap.size→K s' w') :
  an_ P .sl (Builtin.append_ #[t,tn] ty #[.slice s.A s.n s.c,.int .i64 (k:Int)]) w K:=by
 obtain⟨i,hi,hzz⟩:=Option.map_eq_some_iff.1 hinfo
 simp only[Prod.mk.injEq] at hzz
 obtain⟨hz,hsz,hby⟩:=hzz
 have hvl:vs.length=s.n:=by have:=hs.len;omega
 have hold:(Builtin.firstCells i.size s.n (.slice s.A s.n s.c)).run P w.drew=.ok vs.toArray w.drew:=by
  rw[hsz]
  by_cases hne:vs = []
  ·subst hne
   simp only[List.length_nil] at hvl
   rw[←hvl]
   cases hA:s.A with
   | none=>exact run_firstCells_none (P:=P) (w:=w.drew) 1 0 0 _
   | some a=>exact run_firstCells_some (P:=P) (w:=w.drew) 1 0 a 0 s.c [] rfl (fun j v hj=>by simp at hj)
  ·obtain⟨a,ha,hc⟩:=(hs.grow (am_ w)).at_ hne
   rw[ha]
   exact run_firstCells_some (P:=P) (w:=w.drew) 1 s.n a s.n s.c vs o_ hc
 have hr:=Go.Lib.run_append_grow_zeros (P:=P) w t tn ty e i zv .i64 .i64 ht htn hi hz s.A s.n s.c vs hold k hk o_ hc o_ (by rw[hby];omega) (by rw[hby];exact growslice_fits o_ o_)
 refine⟨⟨some ⟨w.heap.size,0,none⟩,s.n+k,grownCap w (s.n+k) s.c e⟩,_,hr,h _ _ rfl ?_ ⟨rfl,rfl,rfl,by simp,fun k hk _=>hL_ w.drew _ k hk⟩ rfl⟩
 have hge:=grownCap_ge w (s.n+k) s.c e
 have hcm:grownCap w (s.n+k) s.c e≤maxLen:=grownCap_le_maxLen w (s.n+k) s.c e (by unfold maxLen;omega)
 have hzk:∀m,(Builtin.zeroCells zv.cells m).size=m:=fun m=>by rw[size_zeroCells,hzc];simp
 have hzr:(Builtin.zeroCells zv.cells k).toList=List.replicate k zv:=by
  rw[hzc]
  apply List.ext_getElem
  ·rw[Array.length_toList,←hzc,hzk];simp
  ·intro j h1 h2
   simp[Builtin.zeroCells,Nat.mod_one]
 refine⟨by simp;omega,.inr ⟨w.heap.size,grownCap w (s.n+k) s.c e,_,rfl,hbase,heap_alloc_new w.drew _,hge,hcm,?_,?_⟩⟩
 ·simp only[Array.size_append,List.size_toArray,hzk,hvl]
  omega
 ·simp only[Array.toList_append,hzr]
  have:(vs++List.replicate k zv).length=(s.n+k)*1:=by simp;omega
  rw[←this]
  exact List.take_left
theorem pT_ {P:Program} {w:World} {base:Nat} {t ty e:TypeId} {zv:Value} {z bytes:Nat} (ht:P.underlying t=some (.slice e)) (hinfo:(P.info? e).map (fun i=>(i.zero,i.size,i.bytes))=some (some zv,z,bytes))
  (hzc:zv.cells.size=z) (hz0:0<z) (hb0:0<bytes) {s x:Sl} {vs xs:List Value} (hs:Own w base e z s vs) (hx:Rd w z x xs) (h1:∀u∈xs,u.oneCell'=true)
  (hm:s.n+x.n≤140737489403904) (hbd:((s.n+x.n)+(s.n+x.n)/4+192)*bytes≤281474976710656) (hbase:base≤w.heap.size) {K:Sl→W_}
  (h:∀s' w',s'.n=s.n+x.n→Own w' base e z s' (vs++xs)→ac_ (fun k=>some k=s.blk) w w'→K s' w') :
  an_ P .sl (Builtin.append_ #[t,t] ty #[.slice s.A s.n s.c,.slice x.A x.n x.c]) w K:=by
 obtain⟨i,hi,hzz⟩:=Option.map_eq_some_iff.1 hinfo
 simp only[Prod.mk.injEq] at hzz
 obtain⟨hz,hsz,hby⟩:=hzz
 have blk:(Value.slice s.A s.n s.c).ownBlock=s.blk:=by unfold Sl.blk;cases s.A<;>rfl
 have hxl:xs.length=x.n*z:=hx.len
 by_cases hne:xs = []
 ·have hn0:x.n=0:=by
   rw[hne,List.length_nil] at hxl
   rcases Nat.mul_eq_zero.1 hxl.symm with q|q<;>omega
  have hsl:=hs.len
  have hc:s.n+x.n≤s.c:=by
   rcases hs.2 with⟨h2,q⟩|⟨g,cap,cur,hv,_,_,h4,_⟩
   ·injection h2 with _ e1 e2;omega
   ·injection hv with _ _ e2;omega
  have hfc:(Builtin.firstCells i.size x.n (.slice x.A x.n x.c)).run P w=.ok #[] w:=by
   rw[hn0]
   cases hA:x.A with
   | none=>exact run_firstCells_none (P:=P) (w:=w) i.size 0 0 _
   | some a=>exact run_firstCells_some (P:=P) (w:=w) i.size 0 a 0 x.c [] (by simp) (fun j v hj=>by simp at hj)
  refine⟨s,w,?_,h s w o_ (by rw[hne,List.append_nil];exact hs) (ac_.refl _ _)⟩
  show _=Result.ok (Value.slice s.A s.n s.c) w
  rw[hn0] at hc hfc ⊢
  obtain⟨A,n,c⟩:=s
  simp only[Nat.add_zero] at hc ⊢
  cases A<;>simp[Builtin.append_,run_underlying ht,sizeOf,typeInfo,hi,Builtin.lenOf,hfc,hc,storeCells]
 ·obtain⟨a,ha,hcells⟩:=hx.at_ hne
  obtain⟨v',w',hr,hown,hg,_⟩:=run_append_own_wide (P:=P) w base t ty e i zv z bytes ht hi hz hsz hby hzc hz0 _ s.n vs hs a x.n x.c xs hx.len hcells h1 (by unfold maxLen;omega) hbd hbase
  have hv':∃s':Sl,v'=.slice s'.A s'.n s'.c∧s'.n=s.n+x.n:=by
   rcases hown.2 with⟨rfl,hn⟩|⟨g,cap,cur,rfl,_⟩
   ·exact⟨⟨none,0,0⟩,rfl,hn.symm⟩
   ·exact⟨⟨some ⟨g,0,none⟩,_,cap⟩,rfl,rfl⟩
  obtain⟨s',rfl,hn'⟩:=hv'
  rw[ha]
  exact⟨s',w',hr,h s' w' hn' (by have q:=hown;rw[←hn'] at q;exact q) (blk▸ob_ hg)⟩
theorem bR_ {j:W_} {body:(W_)→Prop} (I:W_) (h1:∀u,I u→j u) (h2:(∀u,I u→j u)→body j):aK_ j body:=h2 h1
theorem aX_ {α:Type} {j:α→W_} {body:(α→W_)→Prop} (I:α→W_) (h1:∀x u,I x u→j x u) (h2:(∀x u,I x u→j x u)→body j):aK_ j body:=h2 h1
theorem sy_ {α β:Type} {j:α→β→W_} {body:(α→β→W_)→Prop} (I:α→β→W_) (h1:∀x y u,I x y u→j x y u) (h2:(∀x y u,I x y u→j x y u)→body j):aK_ j body:=h2 h1
theorem cI_ {α:Type} {j:α→W_} {body:(α→W_)→Prop} (I:α→W_) (h1:∀x u,I x u→j x u) (h2:(∀x u,I x u→j x u)→body j):bL_ j body:=h2 h1
end Go.Proofs.YtpmebahhjgkflaaGreatDoor.CF
namespace Go.Proofs.YtpmebahhjgkflaaGreatDoor
open Go CF
set_option maxRecDepth 100000
def beN:Nat→Nat→L8
 | 0,_=>[]
 | j+1,v=>UInt8.ofNat (v/256 ^ j)::beN j v
theorem bx_:∀(n v:Nat),(beN n v).length=n
 | 0,_=>rfl
 | n+1,v=>by simp[beN,bx_ n v]
theorem qq_ (l:L8) (i:Nat) (b:UInt8):(bv l).set i (.int .u8 (b.toNat:Int))=bv (l.set i b):=by
 simp[bv,List.map_set]
def lg_ (l:L8) (at_ n j v:Nat):L8:=l.take (at_+(n-j))++beN j v++l.drop (at_+n)
theorem w5_ (l:L8) (at_ n v:Nat):lg_ l at_ n 0 v=l:=by simp[lg_,beN]
theorem pU_ {l:L8} {at_ n j:Nat} (v:Nat) (h:at_+n≤l.length) (hj:j≤n):(lg_ l at_ n j v).length=l.length:=by
 simp[lg_,bx_];omega
theorem w6_ {l:L8} {at_ n j:Nat} (v:Nat) (h:at_+n≤l.length) (hj:j<n) :
  (lg_ l at_ n j v).set (at_+(n-1-j)) (UInt8.ofNat (v/256 ^ j))=lg_ l at_ n (j+1) v:=by
 unfold lg_
 have e1:at_+(n-j)=at_+(n-(j+1))+1:=o_
 have e2:at_+(n-1-j)=at_+(n-(j+1)):=o_
 have hl:at_+(n-(j+1))<l.length:=o_
 rw[e1,e2,List.take_succ_eq_append_getElem hl]
 generalize hm:at_+(n-(j+1))=m at *
 have ht:(l.take m).length=m:=by rw[List.length_take];omega
 simp only[List.append_assoc]
 rw[List.set_append_right _ _ o_,ht,Nat.sub_self]
 rfl
def lay (l:L8) (at_ n v:Nat):L8:=l.take at_++beN n v++l.drop (at_+n)
theorem pV_ (l:L8) (at_ n v:Nat):lg_ l at_ n n v=lay l at_ n v:=by simp[lg_,lay]
theorem yr_ (v j:Nat):v/256 ^ j/256=v/256 ^ (j+1):=by rw[Nat.pow_succ,Nat.div_div_eq_div_mul]
theorem vK_ {p:Sl} {at_ n:Nat} {w:World} {R:Int→W_} (hb:p.n≤140737489403904) (hn:1≤n) (hn8:n≤8) (hat:at_+n≤p.n) (h:R 0 w):lD_ p (at_:Int) (n:Int) w R:=by
 refine iy_.calls _ _ _ _ _ ?_
 have e1:IntKind.wrap .i64 ((p.n:Int)-(n:Int))=(p.n:Int)-(n:Int):=w64 o_ o_
 exact ai_ (by rw[Bool.or_eq_false_iff,decide_eq_false_iff_not,decide_eq_false_iff_not];omega) (ai_ (by rw[Bool.or_eq_false_iff,decide_eq_false_iff_not,decide_eq_false_iff_not,e1];omega) h)
theorem b7_ {p:Sl} {l:L8} {at_ n v:Nat} {w:World} {R:Sl→Int→W_} (hp:Rd w 1 p (bv l)) (hb:p.n≤1000000000) (hn:1≤n) (hn8:n≤8) (hat:at_+n≤l.length) (hv:v<256 ^ n)
  (h:∀s w',Own w' w.heap.size ae_ 1 s (bv (lay l at_ n v))→ab_ w w'→R s 0 w'):bt_ p (at_:Int) (n:Int) (v:Int) w R:=by
 refine o0_.calls _ _ _ _ _ _ ?_
 have hln:l.length=p.n:=by have:=hp.len;rw[ax_] at this;omega
 refine vK_ o_ hn hn8 o_ ?_
 have e8:IntKind.wrap .i64 (8*(n:Int))=((8*n:Nat):Int):=by rw[w64 o_ o_];omega
 rw[e8,Int.toNat_natCast,shr .u64 v (8*n) (by show 8*n≤64;omega)]
 have hz:v/2 ^ (8*n)=0:=by
  refine Nat.div_eq_of_lt ?_
  rw[Nat.pow_mul]
  exact hv
 rw[hz]
 refine⟨fun _=>o_,ai_ (by simp) (ai_ rfl ?_)⟩
 refine aN_ (s:=⟨none,0,0⟩) (vs:=[]) (base:=w.heap.size) aE_ a6_ rfl d_ d_ (aG_ _ _ _ _) hp (cg_ _) (by show(0+p.n)*1≤_;omega) (Nat.le_refl _) fun s1 w1 hn1 hown1 hk1 _=>?_
 have hg1:ab_ w w1:=hk1.mono fun i hi q=>by cases q
 rw[List.nil_append] at hown1
 have hn1:s1.n=p.n:=by rw[hn1];exact Nat.zero_add _
 refine⟨fun x i u=>∃j:Nat,j≤n∧i=((n:Int)-1-(j:Int))∧x=((v/256 ^ j:Nat):Int)∧ab_ w u∧Own u w.heap.size ae_ 1 s1 (bv (lg_ l at_ n j v)),fun _ i _=>(i+1).toNat,
  ⟨0,Nat.zero_le _,by rw[w64 o_ o_];omega,by simp,hg1,by rw[w5_];exact hown1⟩,?_⟩
 rintro x i w2 ⟨j,hj,rfl,rfl,hg2,hown2⟩
 refine a8_ (fun hlt=>?_) (fun hge=>?_)
 ·have e1:IntKind.wrap .i64 ((at_:Int)+((n:Int)-1-(j:Int)))=((at_+(n-1-j):Nat):Int):=by rw[w64 o_ o_];omega
  rw[e1,Int.toNat_natCast,aV_]
  have hs1A:s1.A.isSome=true:=by
   have hne:bv (lg_ l at_ n j v)≠[]:=fun q=>by have:=congrArg List.length q;rw[ax_,pU_ v hat o_,List.length_nil] at this;omega
   obtain⟨a,ha,_⟩:=(hown2.rd o_).at_ hne
   rw[ha];rfl
  refine⟨⟨o_,o_,hs1A⟩,?_⟩
  refine bT_ (i:=at_+(n-1-j)) hown2 o_ rfl fun w3 hown3 hk3 _=>?_
  rw[qq_,w6_ v hat o_] at hown3
  rw[shr .u64 _ 8 d_,w64 o_ o_]
  refine⟨⟨j+1,o_,o_,?_,hg2.keep hk3 fun i hi q=>by have:=(hown2.ge i q.symm).1;omega,hown3⟩,by dsimp only;omega⟩
  rw[←yr_]
 ·have:j=n:=o_
  subst this
  rw[pV_] at hown2
  exact h s1 w2 hown2 hg2
theorem w7_ {l:L8} {j:Nat} (h:l.length=j) (hj:j≤7):num l<72057594037927936:=by
 refine Nat.lt_of_lt_of_le (iY_ l) ?_
 rw[h]
 calc 256 ^ j≤256 ^ 7:=Nat.pow_le_pow_right d_ hj
  _=72057594037927936:=d_
open Go CF
def ch_ (st:Wst) (file:ByteArray):L8:=(st.seen file).getD []
theorem lW_ (st:Wst) (file:ByteArray) (o:Nat) (r:L8):ch_ (fi_ st file o r) file=wr (ch_ st file) o r:=by
 simp[ch_,fi_,fs_,rl_]
theorem oq_ {st:Wst} {file:ByteArray} {lba:Nat} {bs:List Bk} (hg:Good (ch_ st file)):∀k,k≤bs.length→Good (ch_ (bO_ st file lba (dL_ bs) k) file)∧
  ∀j,dK_ (ch_ (bO_ st file lba (dL_ bs) k) file) j=if lba≤j∧j<lba+k then(bs[j-lba]?).getD dc_ else dK_ (ch_ st file) j
 | 0,_=>⟨hg,fun j=>by rw[if_neg o_];rfl⟩
 | k+1,hk=>by
  obtain⟨h1,h2⟩:=oq_ (lba:=lba) (bs:=bs) hg k o_
  have hr:dL_ bs k=cE_ (bs[k]' o_):=by unfold dL_;rw[List.getElem?_eq_getElem o_]
  refine⟨?_,fun j=>?_⟩
  ·show Good (ch_ (fi_ _ file _ _) file)
   rw[lW_,hr];exact tn_ h1 _ _
  ·show dK_ (ch_ (fi_ _ file _ _) file) j=_
   rw[lW_,hr,w2_ h1,h2]
   by_cases e:j=lba+k
   ·subst e
    rw[if_pos rfl,if_pos o_,Nat.add_sub_cancel_left,List.getElem?_eq_getElem o_]
    rfl
   ·rw[if_neg e]
    by_cases q:lba≤j∧j<lba+k
    ·rw[if_pos q,if_pos o_]
    ·rw[if_neg q,if_neg o_]
open Go CF
section
variable {H:Type} {enc:TypeId×Value→H} {w:World} {base:Nat} {spare:Nat→Bool} {held:Bool}
end
theorem w8_ {st:Wst} {file:ByteArray} {a n:Nat} {l:List Bk} (hn:l.length=n) (h:∀i (hi:i<l.length),dK_ (ch_ st file) (a+i)=l[i]):dd_ st file a n=l:=by
 unfold dd_
 apply List.ext_getElem
 ·simp[hn]
 ·intro i h1 h2
  rw[List.getElem_map,List.getElem_range]
  exact h i h2
open Go CF
def apC (F:bD_) (c:Cg):bD_:=fs_ F c.name c.off c.p
def o4_ (F:bD_) (l:List Cg):bD_:=l.foldl apC F
theorem vL_ (F:bD_) (l:List Cg) (c:Cg):o4_ F (l++[c])=apC (o4_ F l) c:=by simp[o4_]
def Wok (st:Wst):Prop:=∀c∈st.waits,c.kind=119∧c.off+c.p.length≤1048576
theorem nA_ {w:World} {pw:Nat} {D:Nat→Prop} {st:Wst} {F:Int→Bool} {R:Int→W_} (hw:aZ_ w pw D st F) (hk:Wok st) (ho:st.ops<1000000000000) (hn:st.waits.length<1000000000)
  (h:F (st.ops:Int)=false→∀w' D',ac_ D w w'→aZ_ w' pw D' ⟨st.seen,o4_ st.dur st.waits,[],st.ops+1⟩ F→(∀k,D' k→D k∨w.heap.size≤k)→R 0 w')
  (hbad:F (st.ops:Int)=true→∀w',ac_ D w w'→aZ_ w' pw D {st with ops:=st.ops+1} F→R 6 w'):cn_ (some ⟨pw,0,none⟩) w R:=by
 obtain⟨pl,hF,mb,md,ws,cs,hw⟩:=hw
 subst hF
 refine fg_.calls _ _ _ ?_
 refine ai_ rfl ?_
 refine pP_ hw ho fun w1 hk1 hw1=>?_
 have hk1D:ac_ D w w1:=hk1.mono fun _ _ q=>by subst q;exact hw.dw
 cases hfl:pl.F (st.ops:Int) with
 | true=>exact al_ rfl (hbad hfl w1 hk1D ⟨pl,rfl,mb,md,ws,cs,hw1⟩)
 | false=>
 have h:=h hfl
 refine ai_ rfl ⟨rfl,ws,by rw[gA,ao_,hw1.blk.cell];rfl,?_⟩
 have hlen:cs.length=st.waits.length:=by rw[←hw.waits,List.length_map]
 have hwn:ws.n=cs.length:=by have:=hw.own.len;rw[tl_] at this;omega
 refine⟨fun x u=>∃j:Nat,x=j∧j≤cs.length∧ac_ D w u∧du_ u pw D ⟨st.seen,o4_ st.dur (st.waits.take j),st.waits,st.ops+1⟩ pl mb md ws cs,fun x _=>cs.length-x.toNat,
  ⟨0,rfl,Nat.zero_le _,hk1D,hw1⟩,?_⟩
 rintro x w2 ⟨j,rfl,hj,hk2,hw2⟩
 refine ba_ (fun hlt=>?_) (fun hge=>?_)
 ·have hjc:j<cs.length:=o_
  have hjw:j<st.waits.length:=o_
  have hcj:cs[j].1=st.waits[j]:=by
   have:=hw.waits
   simp only[←this,List.getElem_map]
  obtain⟨hkind,hbnd⟩:=hk _ (List.getElem_mem hjw)
  obtain⟨a,ha,hc⟩:=(hw2.own.rd o_).elem (i:=j) o_ d_
  rw[gJ_ u0_ hjc] at hc
  have lv:∀{u:World} {b:Addr},bQ_ u b (cgv cs[j])→(loadVar aY_ b).run Tryz.prog u=.ok (.agg (cgv cs[j]).toArray) u:=fun q=>aD_ mK_ hd_ rfl q
  refine⟨⟨o_,o_,by rw[ha];rfl⟩,(cgv cs[j]).toArray,by rw[ha];exact lv hc,?_⟩
  refine ag_ fun cb w3 hcb hb3 hg3 hsz3=>?_
  have hw3:=hw2.keep hg3 (fun _ _ q=>q) (b6_ w2)
  refine ap_ (cells:=(cgv cs[j]).toArray) hb3 hd_ rfl rfl (by simp[cgv,Value.oneCell']) fun w4 hb4 hk4 hsz4=>?_
  have hg4:ab_ w2 w4:=hg3.keep hk4 fun i hi q=>o_
  have hw4:=hw2.keep hg4 (fun _ _ q=>q) (b6_ w2)
  rintro w5 rfl
  have hg5:ab_ w4 w4.drew:=am_ w4
  have hw5:=hw4.keep hg5 (fun _ _ q=>q) (b6_ w4)
  have hb5:Blk w4.drew cb (cgv cs[j]).toArray aY_:=hg5.heap hb4 (fun q=>q)
  refine⟨fun u=>Blk u pw (gV_ pl.mf mb md ws (st.ops+1)) cb_∧Blk u cb (cgv cs[j]).toArray aY_,⟨hw5.blk,hb5⟩,rfl,some md,fun u hu=>by rw[gA,ao_,hu.1.cell];rfl,(cgv cs[j]).toArray,fun u hu=>lv (ar_ hu.2),cs[j].2,fun u hu=>by rw[ao_,hu.2.cell];rfl,?_⟩
  have hrow:=hw5.rows _ (List.getElem_mem hjc)
  have hpl:cs[j].1.p.length=cs[j].2.n:=by have:=hrow.len;rw[ax_] at this;omega
  have e:(cgv cs[j]).toArray=#[.int .u8 119,.string cs[j].1.name,.string cs[j].1.to,.int .i64 (cs[j].1.off:Int),.slice cs[j].2.A cs[j].2.n cs[j].2.c]:=by
   unfold cgv;rw[hcj,hkind]
  rw[e]
  refine ok_ hw5.dur (hrow.rd (by rw[hcj] at hpl;omega)) (by rw[hcj];exact hbnd) fun w6 hk6 hF6=>?_
  have hw6:=hw5.setDur hk6 hF6
  rw[show(cs[j].1.p).take cs[j].2.n=cs[j].1.p from List.take_of_length_le o_] at hw6
  have hk6D:ac_ D w w6:=(((hk2.grow hg4).grow hg5)).trans hk6 fun _ _ q=>by subst q;exact hw.dd
  rw[w64 o_ o_]
  refine⟨⟨j+1,o_,o_,hk6D,?_⟩,by dsimp only;omega⟩
  rw[List.take_succ_eq_append_getElem hjw,vL_,←hcj]
  exact hw6
 ·have hjn:j=st.waits.length:=o_
  rw[hjn,List.take_length] at hw2
  refine⟨rfl,?_⟩
  rw[gA,ao_]
  refine aU_ hw2.blk (by show 2<7;decide) rfl fun w3 hb3 hk3 hsz3=>?_
  have hfin:=hw2.setWaits (w1:=w2) (w2:=w3) (ws':=⟨none,0,0⟩) (cs':=[]) (ac_.mono (ac_.refl (fun _=>False) w2) fun _ _ q=>q.elim) (aG_ _ _ _ _) (.inr (.inr rfl)) (fun c hc=>by cases hc) hb3 hk3
  have s2:=hk2.size
  refine h w3 (fun k=>((k=pw∨k=mb∨k=md)∨some k=(⟨none,0,0⟩:Sl).blk)∨pl.mf=some k) (hk2.trans hfin.2.1 fun _ _ q=>q) ⟨pl,rfl,mb,md,⟨none,0,0⟩,[],hfin.1⟩ fun k hk=>?_
  rcases hfin.2.2 k hk with q|q
  ·exact .inl q
  ·exact .inr o_
open Go CF
def lh_ (s:Wst):Wst:=⟨s.seen,o4_ s.dur s.waits,[],s.ops+1⟩
def dX_ (y:Bool) (s:Wst):Wst:=if y then lh_ s else s
theorem pr_ (y:Bool) (s:Wst):(dX_ y s).seen=s.seen:=by cases y<;>rfl
theorem qr_ (y:Bool) (s:Wst):(dX_ y s).ops≤s.ops+1:=by
 cases y
 ·exact Nat.le_succ _
 ·exact Nat.le_refl _
theorem or_ (y:Bool) (s:Wst):(dX_ y s).waits=if y then [] else s.waits:=by cases y<;>rfl
theorem rO_ {y:Bool} {s:Wst} (h:Wok s):Wok (dX_ y s):=by
 cases y
 ·exact h
 ·exact fun c hc=>by cases hc
theorem jp_ {st:Wst} {file:ByteArray} {lba:Nat} {rs:Nat→L8} (h:Wok st) (hlen:∀i,(rs i).length≤25):∀k,lba+k≤4096→Wok (bO_ st file lba rs k)
 | 0,_=>h
 | k+1,hb=>by
  intro c hc
  have ih:=jp_ (lba:=lba) (file:=file) h hlen k o_
  rcases List.mem_append.1 hc with q|q
  ·exact ih c q
  ·rw[List.mem_singleton.1 q]
   refine⟨rfl,?_⟩
   have:=hlen k
   show 25*(lba+k)+(rs k).length≤_
   omega
def cr_ (n:Nat) (fua cache:Bool):Bool:=decide (0<n)&&(fua || !cache)
theorem pW_ {w:World} {ps pw:Nat} {D:Nat→Prop} {st:Wst} {F:Int→Bool} {file:ByteArray} {blocks:Nat} {cache fua:Bool} {lba:Nat} {L:Sl} {bs:List Bk} {R:Int→Int→W_}
  (hS:IsS w ps pw file blocks cache) (hps:¬D ps) (hw:aZ_ w pw D st F) (hok:Wok st) (hs:1≤file.size∧file.size≤32) (hbk:blocks≤4096) (hl:lba+bs.length≤blocks) (hL:∀u,ac_ D w u→Rd u 19 L (bs.flatMap bc))
  (ho:st.ops<10000000000) (hn:st.waits.length<800000000)
  (h:(∀i:Nat,i<bs.length+(if cr_ bs.length fua cache then 1 else 0)→F ((st.ops+i:Nat):Int)=false)→∀u D',ac_ D w u→aZ_ u pw D' (dX_ (cr_ bs.length fua cache) (bO_ st file lba (dL_ bs) bs.length)) F→(∀k,D' k→D k∨w.heap.size≤k)→IsS u ps pw file blocks cache→R (bs.length:Int) 0 u)
  (hbad:∀k:Nat,k<bs.length+(if cr_ bs.length fua cache then 1 else 0)→(∀i:Nat,i<k→F ((st.ops+i:Nat):Int)=false)→F ((st.ops+k:Nat):Int)=true→∀u D',ac_ D w u→aZ_ u pw D' {bO_ st file lba (dL_ bs) k with ops:=st.ops+k+1} F→(∀k,D' k→D k∨w.heap.size≤k)→IsS u ps pw file blocks cache→R (k:Int) 6 u) :
  eg_ (some ⟨ps,0,none⟩) (lba:Int) L fua w R:=by
 refine qo_ hS hps hw hs hbk o_ hL o_ o_ (fun q=>absurd q o_) (fun _ hfl u D' hk hw' hD' hS'=>?_) (fun _ k hk0 hfl hf u D' hk hw' hD' hS'=>hbad k o_ hfl hf u D' hk hw' hD' hS')
 obtain⟨lo,lw⟩:=ij_ st file lba (dL_ bs) bs.length
 by_cases q:0<bs.length∧(fua=true∨cache=false)
 ·rw[if_pos q]
  have hy:cr_ bs.length fua cache=true:=by
   unfold cr_
   rw[Bool.and_eq_true,decide_eq_true_eq,Bool.or_eq_true,Bool.not_eq_true']
   exact q
  have s1:=hk.size
  have lt:=aw_ hS
  have hS2:∀{u2:World},ac_ D' u u2→IsS u2 ps pw file blocks cache:=fun hk2=>hk2.heap hS' fun e=>by
   rcases hD' _ e with r|r
   ·exact hps r
   ·omega
  have hkk:∀{u2:World},ac_ D' u u2→ac_ D w u2:=fun hk2=>hk.trans hk2 fun i hi e=>by
   rcases hD' i e with r|r
   ·exact r
   ·omega
  refine nA_ hw' (jp_ hok (ny_ bs) _ o_) o_ o_ (fun hf u2 D2 hk2 hw2 hD2=>?_) (fun hf u2 hk2 hw2=>hbad bs.length (by rw[hy];simp) hfl (by rw[←lo];exact hf) u2 D' (hkk hk2) (by rw[←lo];exact hw2) hD' (hS2 hk2))
  refine h (fun i hi=>?_) u2 D2 (hk.trans hk2 fun i hi e=>?_) (by rw[hy];exact hw2) (fun k hk'=>?_) (hk2.heap hS' fun e=>?_)
  ·rw[hy] at hi
   by_cases e:i=bs.length
   ·subst e;rw[←lo];exact hf
   ·exact hfl i (by simp at hi;omega)
  ·rcases hD' i e with r|r
   ·exact r
   ·omega
  ·rcases hD2 k hk' with r|r
   ·exact hD' k r
   ·exact .inr o_
  ·rcases hD' _ e with r|r
   ·exact hps r
   ·omega
 ·rw[if_neg q]
  have hy:cr_ bs.length fua cache=false:=by
   unfold cr_
   by_cases q1:0<bs.length
   ·rw[decide_eq_true q1,Bool.true_and]
    cases fua<;>cases cache<;>simp_all
   ·rw[decide_eq_false q1,Bool.false_and]
  exact h (fun i hi=>hfl i (by rw[hy] at hi;simpa using hi)) u D' hk (by rw[hy];exact hw') hD' hS'
theorem rn_ {w:World} {ps pw:Nat} {D:Nat→Prop} {st:Wst} {F:Int→Bool} {file:ByteArray} {blocks:Nat} {cache:Bool} {R:Int→W_} (hS:IsS w ps pw file blocks cache) (hps:¬D ps) (hw:aZ_ w pw D st F) (hok:Wok st)
  (ho:st.ops<10000000000) (hn:st.waits.length<800000000)
  (h:F (st.ops:Int)=false→∀u D',ac_ D w u→aZ_ u pw D' (lh_ st) F→(∀k,D' k→D k∨w.heap.size≤k)→IsS u ps pw file blocks cache→R 0 u)
  (hbad:F (st.ops:Int)=true→∀u,ac_ D w u→aZ_ u pw D {st with ops:=st.ops+1} F→IsS u ps pw file blocks cache→R 6 u):hw_ (some ⟨ps,0,none⟩) w R:=by
 refine e8_.calls _ _ _ (ai_ rfl ⟨rfl,some ⟨pw,0,none⟩,by rw[gA,ao_,Blk.cell hS];rfl,?_⟩)
 exact nA_ hw hok o_ o_ (fun hf u D' hk hw' hD'=>h hf u D' hk hw' hD' (hk.heap hS hps)) (fun hf u hk hw'=>hbad hf u hk hw' (hk.heap hS hps))
open Go CF
theorem os_ {st:Wst} {file:ByteArray} {lba:Nat} (hg:Good (ch_ st file)):∀k,Good (ch_ (bO_ st file lba (fun _=>[0]) k) file)∧
  ∀j,dK_ (ch_ (bO_ st file lba (fun _=>[0]) k) file) j=if lba≤j∧j<lba+k then dc_ else dK_ (ch_ st file) j
 | 0=>⟨hg,fun j=>by rw[if_neg o_];rfl⟩
 | k+1=>by
  obtain⟨h1,h2⟩:=os_ (lba:=lba) hg k
  refine⟨?_,fun j=>?_⟩
  ·show Good (ch_ (fi_ _ file _ _) file)
   rw[lW_];exact rN_ h1 _
  ·show dK_ (ch_ (fi_ _ file _ _) file) j=_
   rw[lW_,vH_ h1,h2]
   by_cases e:j=lba+k
   ·subst e
    rw[if_pos rfl,if_pos o_]
   ·rw[if_neg e]
    by_cases q:lba≤j∧j<lba+k
    ·rw[if_pos q,if_pos o_]
    ·rw[if_neg q,if_neg o_]
open Go CF
def ft_ (bs:List Bk) (F:Nat) (xs:List Bk):Nat→List Bk
 | 0=>bs
 | k+1=>(ft_ bs F xs k).set (F+k) ((xs[k]?).getD dc_)
theorem c6_ (bs:List Bk) (F:Nat) (xs:List Bk):∀k,(ft_ bs F xs k).length=bs.length
 | 0=>rfl
 | k+1=>by simp[ft_,c6_ bs F xs k]
theorem iZ_ (bs:List Bk) (F:Nat) (xs:List Bk):∀k,F+k≤bs.length→∀j,j<bs.length→(ft_ bs F xs k)[j]?=if F≤j∧j<F+k then some ((xs[j-F]?).getD dc_) else bs[j]?
 | 0,_,j,_=>by rw[if_neg o_];rfl
 | k+1,hk,j,hj=>by
  have ih:=iZ_ bs F xs k o_ j hj
  simp only[ft_]
  rw[List.getElem?_set,c6_]
  by_cases e:F+k=j
  ·subst e
   rw[if_pos rfl,if_pos o_,if_pos o_,Nat.add_sub_cancel_left]
  ·rw[if_neg e,ih]
   by_cases q:F≤j∧j<F+k
   ·rw[if_pos q,if_pos o_]
   ·rw[if_neg q,if_neg o_]
def hm_ (st:Wst) (file:ByteArray) (bs:List Bk):Prop:=Good (ch_ st file)∧∀j,j<bs.length→some (dK_ (ch_ st file) j)=bs[j]?
theorem jM_ (y:Bool) (s:Wst) (file:ByteArray):ch_ (dX_ y s) file=ch_ s file:=by
 unfold ch_;rw[pr_]
theorem uo_ {st:Wst} {file:ByteArray} {bs xs:List Bk} {F:Nat} {y:Bool} (h:hm_ st file bs) (hF:F+xs.length≤bs.length) :
  hm_ (dX_ y (bO_ st file F (dL_ xs) xs.length)) file (ft_ bs F xs xs.length):=by
 obtain⟨h1,h2⟩:=oq_ (lba:=F) (bs:=xs) h.1 xs.length (Nat.le_refl _)
 refine⟨by rw[jM_];exact h1,fun j hj=>?_⟩
 rw[c6_] at hj
 rw[jM_,h2,iZ_ _ _ _ _ hF _ hj]
 split
 ·rfl
 ·exact h.2 j hj
theorem sn_ {st:Wst} {file:ByteArray} {bs xs:List Bk} {F k o:Nat} (h:hm_ st file bs) (hF:F+xs.length≤bs.length) (hk:k≤xs.length) :
  hm_ {bO_ st file F (dL_ xs) k with ops:=o} file (ft_ bs F xs k):=by
 obtain⟨h1,h2⟩:=oq_ (lba:=F) (bs:=xs) h.1 k hk
 refine⟨h1,fun j hj=>?_⟩
 rw[c6_] at hj
 show some (dK_ (ch_ (bO_ st file F (dL_ xs) k) file) j)=_
 rw[h2,iZ_ _ _ _ _ o_ _ hj]
 split
 ·rfl
 ·exact h.2 j hj
theorem up_ {st:Wst} {file:ByteArray} {bs:List Bk} {F n:Nat} {y:Bool} (h:hm_ st file bs) (hF:F+n≤bs.length) :
  hm_ (dX_ y (bO_ st file F (fun _=>[0]) n)) file (ft_ bs F [] n):=by
 obtain⟨h1,h2⟩:=os_ (lba:=F) h.1 n
 refine⟨by rw[jM_];exact h1,fun j hj=>?_⟩
 rw[c6_] at hj
 rw[jM_,h2,iZ_ _ _ _ _ hF _ hj]
 split
 ·simp
 ·exact h.2 j hj
theorem vM_ {st:Wst} {file:ByteArray} {bs:List Bk} (h:hm_ st file bs):dd_ st file 0 bs.length=bs:=
 w8_ rfl fun i hi=>by
  have:=h.2 i hi
  rw[List.getElem?_eq_getElem hi] at this
  rw[Nat.zero_add]
  exact Option.some.inj this
open Go CF
def gG (s:Nat):Nat:=if s/32768=1 then(2*s%65536) ^^^ 0x8bb7 else 2*s%65536
def gGs:Nat→Nat→Nat
 | 0,s=>s
 | k+1,s=>gG (gGs k s)
def gB (s:Nat) (b:UInt8):Nat:=gGs 8 (s ^^^ b.toNat*256)
def c16 (l:L8):Nat:=l.foldl gB 0
theorem nB_ {a b:Nat} (ha:a<65536) (hb:b<65536):a ^^^ b<65536:=Nat.xor_lt_two_pow (n:=16) ha hb
theorem Bd_ {s:Nat} (h:s<65536):gG s<65536:=by
 unfold gG
 split
 ·exact nB_ (Nat.mod_lt _ d_) d_
 ·exact Nat.mod_lt _ d_
theorem tq_ {s:Nat} (h:s<65536):∀k,gGs k s<65536
 | 0=>h
 | k+1=>Bd_ (tq_ h k)
theorem Be_ {s:Nat} (h:s<65536) (b:UInt8):gB s b<65536:=tq_ (nB_ h (by have:=b.toNat_lt;omega)) 8
theorem zP_ {l:L8}:∀{s:Nat},s<65536→l.foldl gB s<65536:=by
 induction l with
 | nil=>intro s h;exact h
 | cons b r ih=>intro s h;exact ih (Be_ h b)
theorem w9_ (l:L8):c16 l<65536:=zP_ d_
theorem ys_ (l:L8) (b:UInt8):c16 (l++[b])=gB (c16 l) b:=by simp[c16,List.foldl_append]
theorem Bf_ (n:Nat):IntKind.wrap .u16 (n:Int)=((n%65536:Nat):Int):=by
 have e:IntKind.wrap .u16 (n:Int)=(n:Int)%65536:=by simp[IntKind.wrap,IntKind.signed,IntKind.bits]
 rw[e];omega
theorem zs_ {a b:Nat} (ha:a<65536) (hb:b<65536):ji_ .u16 (a:Int) (b:Int)=((a ^^^ b:Nat):Int):=by
 unfold ji_
 show IntKind.wrap .u16 (((BitVec.ofInt 16 (a:Int) ^^^ BitVec.ofInt 16 (b:Int)).toNat:Nat):Int)=_
 rw[BitVec.ofInt_natCast,BitVec.ofInt_natCast,BitVec.toNat_xor,BitVec.toNat_ofNat,BitVec.toNat_ofNat,Nat.mod_eq_of_lt o_,Nat.mod_eq_of_lt o_]
 have:=nB_ ha hb
 exact oa_ o_ o_
theorem u3_ {b:Nat} (h:b<256):cD_ .u16 (b:Int) 8=((b*256:Nat):Int):=by
 unfold cD_
 have e:(min 8 (IntKind.bits .u16))=8:=d_
 rw[e,show(b:Int)*2 ^ 8=((b*256:Nat):Int) by omega]
 exact oa_ o_ o_
theorem u4_ {s:Nat}:cD_ .u16 (s:Int) 1=((2*s%65536:Nat):Int):=by
 unfold cD_
 have e:(min 1 (IntKind.bits .u16))=1:=d_
 rw[e,show(s:Int)*2 ^ 1=((2*s:Nat):Int) by omega,Bf_]
def mkR (kind lba:Nat):Nat:=if kind=1∨kind=2 then lba%4294967296 else 0
theorem AQ_ (kind lba:Nat):mkR kind lba<4294967296:=by unfold mkR;split<;>omega
def mkB (kind lba:Nat) (d:L8) (h:d.length=16):Bk:=⟨d,c16 d,0,mkR kind lba,h,w9_ d,d_,AQ_ kind lba⟩
def ot_ (kind:Nat) (b:Bk):Bool:=decide (b.a=65535)&&(decide (kind≠3)||decide (b.r=4294967295))
def dY_ (kind prot lba:Nat) (b:Bk):Nat:=
 if kind=0∨3<kind∨prot=3∨4<prot∨ot_ kind b=true then 0
 else if prot≠2∧b.g≠c16 b.d then 0x1001
 else if prot≠4∧kind≠3∧b.r≠lba%4294967296 then 0x1003 else 0
def ou_ (kind prot:Nat):Bool:=decide (kind≤3)&&(decide (prot=0)||(decide (0<kind)&&decide (prot≤4)))
def vN_ (b:Bk):L8:=be2 b.g++be2 b.a++be4 b.r
def kO_ (wt:Bool) (b:Bk):L8:=b.d++if wt then vN_ b else []
def b3_ (wt:Bool) (l:List Bk):L8:=l.flatMap (kO_ wt)
def szB (wt:Bool):Nat:=if wt then 24 else 16
theorem xa_ (wt:Bool) (b:Bk):(kO_ wt b).length=szB wt:=by
 cases wt
 ·simp[kO_,szB,b.hd]
 ·simp[kO_,szB,vN_,be2,be4,b.hd]
theorem iz_ (wt:Bool) (l:List Bk):(b3_ wt l).length=l.length*szB wt:=by
 unfold b3_
 induction l with
 | nil=>simp
 | cons a r ih=>rw[List.flatMap_cons,List.length_append,ih,xa_,List.length_cons,Nat.succ_mul,Nat.add_comm]
def fj_ (l:L8):L8:=(l++List.replicate 16 0).take 16
theorem rP_ (l:L8):(fj_ l).length=16:=by simp[fj_]
theorem eL_ (l:L8) (k:Nat):num (l.take k)<256 ^ k:=
 Nat.lt_of_lt_of_le (iY_ _) (Nat.pow_le_pow_right d_ (by rw[List.length_take];omega))
def unB (wt:Bool) (l:L8):Bk:=
 if wt then⟨fj_ l,num ((l.drop 16).take 2),num ((l.drop 18).take 2),num ((l.drop 20).take 4),rP_ l,eL_ _ 2,eL_ _ 2,eL_ _ 4⟩
 else⟨fj_ l,0,0,0,rP_ l,d_,d_,d_⟩
def bE_ (wt:Bool) (l:L8):List Bk:=(List.range (l.length/szB wt)).map fun i=>unB wt ((l.drop (i*szB wt)).take (szB wt))
theorem gX_ (wt:Bool) (l:L8):(bE_ wt l).length=l.length/szB wt:=by simp[bE_]
theorem zQ_ {wt:Bool} {l:L8} {i:Nat} (h:i<(bE_ wt l).length):(bE_ wt l)[i]=unB wt ((l.drop (i*szB wt)).take (szB wt)):=by simp[bE_]
theorem ro_ {a b:UInt8}:num [a,b]=a.toNat*256+b.toNat:=by simp[num]
open Go CF
theorem AR_ {s:Nat} (hs:s<65536) {X Y:Prop} (h1:s/32768=1→X) (h0:¬s/32768=1→Y):Br ((bu_ .u16 (s:Int) 15)==1) X Y:=by
 rw[shr .u16 s 15 d_]
 exact ay_ (fun q=>h1 (by have:(2:Nat) ^ 15=32768:=rfl;omega)) (fun q=>h0 (by have:(2:Nat) ^ 15=32768:=rfl;omega))
theorem tr_ {p:Sl} {l:L8} {w:World} {R:Int→W_} (hp:Rd w 1 p (bv l)) (h:R ((c16 l:Nat):Int) w):nl_ p w R:=by
 refine nv_.calls _ _ _ ?_
 refine kK_.calls _ _ _ _ ?_
 have hln:l.length=p.n:=by have:=hp.len;rw[ax_] at this;omega
 have hnb:=hp.nb
 refine⟨fun v x w'=>w'=w∧∃j:Nat,x=j∧j≤p.n∧v=((c16 (l.take j):Nat):Int),fun _ x _=>p.n-x.toNat,⟨rfl,0,rfl,Nat.zero_le _,rfl⟩,?_⟩
 rintro v x w0 ⟨rfl,j,rfl,hj,rfl⟩
 have hcs:=w9_ (l.take j)
 refine ba_ (fun hlt=>?_) (fun hge=>?_)
 ·obtain⟨a,ha,hc⟩:=hp.byte (i:=j) hlt
  have hjs:j<l.length:=o_
  have hb8:=l[j].toNat_lt
  refine⟨⟨o_,o_,by rw[ha];rfl⟩,(l[j].toNat:Int),by rw[ha];exact hc,?_⟩
  rw[oa_ (n:=(l[j].toNat:Int)) o_ o_,u3_ hb8,zs_ hcs o_]
  generalize hT:c16 (l.take j) ^^^ l[j].toNat*256=T
  have hTl:T<65536:=by rw[←hT];exact nB_ hcs o_
  refine⟨fun v x w'=>w'=w0∧∃k:Nat,x=k∧k≤8∧v=((gGs k T:Nat):Int),fun _ x _=>8-x.toNat,⟨rfl,0,rfl,d_,rfl⟩,?_⟩
  rintro v x w1 ⟨rfl,k,rfl,hk,rfl⟩
  have hgl:=tq_ hTl k
  refine a8_ (fun hlt8=>?_) (fun hge8=>?_)
  ·refine AR_ hgl (fun q=>?_) (fun q=>?_)
   ·rw[u4_,show ji_ .u16 ((2*gGs k T%65536:Nat):Int) 35767=((2*gGs k T%65536 ^^^ 35767:Nat):Int) from zs_ o_ d_,w64 o_ o_]
    refine⟨⟨rfl,k+1,o_,o_,?_⟩,by dsimp only;omega⟩
    simp only[gGs];unfold gG;rw[if_pos q]
   ·rw[u4_,w64 o_ o_]
    refine⟨⟨rfl,k+1,o_,o_,?_⟩,by dsimp only;omega⟩
    simp only[gGs];unfold gG;rw[if_neg q]
  ·have:k=8:=o_
   subst this
   rw[w64 o_ o_]
   refine⟨⟨rfl,j+1,o_,o_,?_⟩,by dsimp only;omega⟩
   rw[List.take_succ_eq_append_getElem hjs,ys_]
   unfold gB
   rw[hT]
 ·have:j=p.n:=o_
  subst this
  rw[List.take_of_length_le o_]
  exact h
def tc (g a r:Nat):List Value:=[.int .u16 (g:Int),.int .u16 (a:Int),.int .u32 (r:Int)]
theorem dRd {w:World} {pb:Nat} {b:Bk} (h:Blk w pb (bc b).toArray av_):Rd w 1 ⟨some ⟨pb,0,none⟩,16,16⟩ (bv b.d):=
 ⟨by rw[ax_,b.hd];rfl,Nat.le_refl _,by show 16≤_;decide,fun _=>⟨_,rfl,fun j v hj=>ar_ h j v (by rw[bc,List.getElem?_append_left (List.getElem?_eq_some_iff.1 hj).1];exact hj)⟩⟩
theorem zR_ (b:Bk):(bc b).drop 16=tc b.g b.a b.r:=by
 unfold bc
 rw[List.drop_append,List.drop_of_length_le (by rw[ax_,b.hd];omega),ax_,b.hd];rfl
theorem rp_ (b:Bk):(bc b).take 16=bv b.d:=by
 unfold bc
 rw[List.take_append_of_le_length (by rw[ax_,b.hd];omega),List.take_of_length_le (by rw[ax_,b.hd];omega)]
theorem qs_ {w:World} {a:Addr} {b:Bk} (h:bQ_ w a (bc b)):bQ_ w (a.add 16) (tc b.g b.a b.r):=fun j v hj=>by
 rw[gI_]
 refine h (16+j) v ?_
 rw[←zR_,List.getElem?_drop] at hj
 exact hj
theorem nC_ {w:World} {a:Addr} {b:Bk} (h:bQ_ w a (bc b)):bQ_ w (a.add 0) (bv b.d):=fun j v hj=>by
 rw[oc_]
 refine h j v ?_
 rw[←rp_,List.getElem?_take] at hj
 split at hj
 ·exact hj
 ·cases hj
theorem sz_ {w:World} {a:Addr} {g n r:Nat} (h:bQ_ w a (tc g n r)):(loadVar gb_ a).run Tryz.prog w=.ok (.agg (tc g n r).toArray) w:=
 aD_ uj_ dQ_ rfl h
theorem vO_ {w:World} {a:Addr} {d:L8} (hd:d.length=16) (h:bQ_ w a (bv d)):(loadVar fL_ a).run Tryz.prog w=.ok (.agg (bv d).toArray) w:=
 aD_ vA_ vz_ (by rw[ax_,hd]) h
theorem nD_ {w:World} {a:Addr} {b:Bk} (h:bQ_ w a (bc b)):(loadVar av_ a).run Tryz.prog w=.ok (.agg (bc b).toArray) w:=
 aD_ eK_ bq_ (by rw[bN_]) h
theorem rQ_ {kind lba app:Nat} {d:L8} {w:World} {R:A_→W_} (hd:d.length=16) (h:∀w',ab_ w w'→R (tc (c16 d) app (mkR kind lba)).toArray w'):ni_ (kind:Int) (lba:Int) (bv d).toArray (app:Int) w R:=by
 refine ns_.calls _ _ _ _ _ _ ?_
 refine ag_ fun db w0 hdb hb0 hg0 hsz0=>?_
 have hb0:Blk w0 db (bv d).toArray fL_:=hb0
 refine ag_ fun ab w1 hab hb1 hg1 hsz1=>⟨d_,?_⟩
 have hb0':=hg1.heap hb0 (fun q=>q)
 have hrd:Rd w1 1 ⟨some ⟨db,0,none⟩,16,16⟩ (bv d):=⟨by rw[ax_,hd];rfl,Nat.le_refl _,by show 16≤_;decide,fun _=>⟨_,rfl,fun j v hj=>ar_ hb0' j v hj⟩⟩
 refine tr_ (p:=⟨some ⟨db,0,none⟩,16,16⟩) hrd ?_
 refine ag_ fun tb w2 htb hb2 hg2 hsz2=>?_
 refine ap_ (cells:=(tc (c16 d) app 0).toArray) hb2 dQ_ rfl rfl (by simp[tc,Value.oneCell']) fun w3 hb3 hk3 hsz3=>?_
 have hb1':Blk w2 ab _ gb_:=hg2.heap hb1 (fun q=>q)
 have hb13:Blk w3 ab _ gb_:=hk3.heap hb1' o_
 have hg03:ab_ w w3:=((hg0.trans hg1).trans hg2).keep hk3 fun i hi q=>o_
 refine bR_ (fun u=>ab_ w u∧Blk u tb (tc (c16 d) app (mkR kind lba)).toArray gb_∧Blk u ab #[.int .u16 0,.int .u16 0,.int .u32 0] gb_) ?_ (fun J=>?_)
 ·rintro u ⟨hgu,hbt,hba⟩
  refine⟨_,sz_ (ar_ hbt),?_⟩
  refine ap_ (cells:=(tc (c16 d) app (mkR kind lba)).toArray) hba dQ_ rfl rfl (by simp[tc,Value.oneCell']) fun u2 hb2' hk2' _=>?_
  exact⟨_,sz_ (ar_ hb2'),h u2 (hgu.keep hk2' fun i hi q=>by have:=hg0.size;omega)⟩
 ·by_cases q:kind=1∨kind=2
  ·refine al_ (by rw[Bool.or_eq_true,beq_iff_eq,beq_iff_eq];omega) ?_
   rw[ao_]
   refine aU_ hb3 (by show 2<3;decide) rfl fun w4 hb4 hk4 _=>J w4 ⟨hg03.keep hk4 fun i hi q=>by have:=hg0.size;omega,?_,hk4.heap hb13 o_⟩
   have e:IntKind.wrap .u32 (lba:Int)=((mkR kind lba:Nat):Int):=by
    unfold mkR;rw[if_pos q]
    have e:IntKind.wrap .u32 (lba:Int)=(lba:Int)%4294967296:=by simp[IntKind.wrap,IntKind.signed,IntKind.bits]
    rw[e];omega
   rw[e] at hb4
   exact hb4
  ·refine ai_ (by rw[Bool.or_eq_false_iff,beq_eq_false_iff_ne,beq_eq_false_iff_ne];omega) (J w3 ⟨hg03,?_,hb13⟩)
   unfold mkR;rw[if_neg q];exact hb3
theorem ts_ {kind:Nat} {b:Bk} {w:World} {R:Bool→W_} (h:∀w',ab_ w w'→R (ot_ kind b) w'):mn_ (kind:Int) (tc b.g b.a b.r).toArray w R:=by
 refine jK_.calls _ _ _ _ ?_
 refine ag_ fun tb w0 htb hb0 hg0 hsz0=>?_
 have hb0:Blk w0 tb (tc b.g b.a b.r).toArray gb_:=hb0
 refine⟨(b.a:Int),by rw[ao_,hb0.cell];rfl,?_⟩
 have:=h w0 hg0
 unfold ot_ at this
 refine eR_ (fun q=>?_) (fun q=>⟨(b.r:Int),fun _=>by rw[ao_,hb0.cell];rfl,?_⟩)
 ·rw[decide_eq_false o_] at this;exact this
 ·have e:((kind:Int) != 3||(b.r:Int)==4294967295)=(decide (b.a=65535)&&(decide (kind≠3)||decide (b.r=4294967295))):=by
   rw[decide_eq_true (by omega:b.a=65535),Bool.true_and,Bool.eq_iff_iff,Bool.or_eq_true,Bool.or_eq_true,bne_iff_ne,beq_iff_eq,decide_eq_true_eq,decide_eq_true_eq]
   omega
  rw[e];exact this
theorem ov_ {kind prot lba:Nat} {b:Bk} {w:World} {R:Int→W_} (h:∀w',ab_ w w'→R ((dY_ kind prot lba b:Nat):Int) w'):lE_ (kind:Int) (prot:Int) (lba:Int) (bc b).toArray w R:=by
 refine lU_.calls _ _ _ _ _ _ ?_
 refine ag_ fun bb w0 hbb hb0 hg0 hsz0=>?_
 have hb0:Blk w0 bb (bc b).toArray av_:=hb0
 have ht0:bQ_ w0 (⟨bb,0,none⟩:Addr) (bc b):=ar_ hb0
 refine⟨_,fun _=>sz_ (qs_ ht0),?_⟩
 generalize hG:(((((kind:Int)==0)||decide ((kind:Int)>3))||((prot:Int)==3))||decide ((prot:Int)>4))=G
 have hGiff:G=true↔(kind=0∨3<kind∨prot=3∨4<prot):=by
  rw[←hG,Bool.or_eq_true,Bool.or_eq_true,Bool.or_eq_true,beq_iff_eq,beq_iff_eq,decide_eq_true_eq,decide_eq_true_eq]
  omega
 refine cI_ (fun x u=>ab_ w0 u∧(G=false→x=ot_ kind b)) ?_ (fun J=>⟨fun q=>ts_ fun u hu=>J _ _ ⟨hu,fun _=>rfl⟩,fun q=>J _ _ ⟨ac_.refl _ _,fun e=>by rw[e] at q;cases q⟩⟩)
 rintro x u ⟨hgu,hx⟩
 by_cases hz:G=true∨ot_ kind b=true
 ·have hc:dY_ kind prot lba b=0:=by
   unfold dY_
   refine if_pos ?_
   rcases hz with q|q
   ·have:=hGiff.1 q;omega
   ·simp[q]
  have:=h u (hg0.trans hgu)
  rw[hc] at this
  refine al_ ?_ this
  rw[Bool.or_eq_true]
  cases hg:G with
  | true=>exact .inl rfl
  | false=>right;rw[hx hg];exact hz.resolve_left (by rw[hg];decide)
 have hGf:G=false:=by cases hg:G with|false=>rfl|true=>exact absurd (.inl hg) hz
 have hE:ot_ kind b=false:=by cases hg:ot_ kind b with|false=>rfl|true=>exact absurd (.inr hg) hz
 have hn:¬(kind=0∨3<kind∨prot=3∨4<prot∨ot_ kind b=true):=by
  have hx:¬(kind=0∨3<kind∨prot=3∨4<prot):=fun q=>hz (.inl (hGiff.2 q))
  rintro(q|q|q|q|q)
  ·exact hx (.inl q)
  ·exact hx (.inr (.inl q))
  ·exact hx (.inr (.inr (.inl q)))
  ·exact hx (.inr (.inr (.inr q)))
  ·rw[hE] at q;cases q
 refine ai_ (by rw[hGf,hx hGf,hE];rfl) ?_
 rintro w2 rfl
 have hg2:ab_ w0 u.drew:=hgu.trans (am_ u)
 have hbu:∀{v:World},ab_ w0 v→Blk v bb (bc b).toArray av_:=fun g=>g.heap hb0 (fun q=>q)
 obtain⟨e16,e17,e18⟩:=zq_ b
 refine⟨fun v=>ab_ w0 v,hg2,(b.g:Int),fun _ v hv=>by rw[ao_,ao_,(hbu hv).cell];exact e16,fun _=>d_,?_⟩
 have hd:∀{v:World},ab_ w0 v→Rd v 1 ⟨some ⟨bb,0,none⟩,16,16⟩ (bv b.d):=fun g=>dRd (hbu g)
 refine cI_ (fun x v=>ab_ w0 v∧((prot:Int)≠2→x=((c16 b.d:Nat):Int))) ?_ (fun J=>⟨fun q=>tr_ (p:=⟨some ⟨bb,0,none⟩,16,16⟩) (hd hg2) (J _ _ ⟨hg2,fun _=>rfl⟩),fun q=>J _ _ ⟨hg2,fun e=>absurd (by simpa using q) e⟩⟩)
 rintro x v ⟨hgv,hxv⟩
 refine⟨hgv,?_⟩
 have hfin:=h v (hg0.trans hgv)
 by_cases q1:prot≠2∧b.g≠c16 b.d
 ·have hc:dY_ kind prot lba b=4097:=by unfold dY_;rw[if_neg hn,if_pos q1]
  rw[hc] at hfin
  refine al_ ?_ hfin
  rw[hxv o_,Bool.and_eq_true,bne_iff_ne,bne_iff_ne]
  omega
 refine ai_ ?_ ⟨(b.r:Int),fun _=>by rw[ao_,ao_,(hbu hgv).cell];exact e18,?_⟩
 ·rw[Bool.and_eq_false_iff,bne_eq_false_iff_eq,bne_eq_false_iff_eq]
  by_cases e:prot=2
  ·left;omega
  ·right;rw[hxv o_];omega
 have e32:IntKind.wrap .u32 (lba:Int)=((lba%4294967296:Nat):Int):=by
  have e:IntKind.wrap .u32 (lba:Int)=(lba:Int)%4294967296:=by simp[IntKind.wrap,IntKind.signed,IntKind.bits]
  rw[e];omega
 rw[e32]
 by_cases q2:prot≠4∧kind≠3∧b.r≠lba%4294967296
 ·have hc:dY_ kind prot lba b=4099:=by unfold dY_;rw[if_neg hn,if_neg q1,if_pos q2]
  rw[hc] at hfin
  refine al_ ?_ hfin
  rw[Bool.and_eq_true,Bool.and_eq_true,bne_iff_ne,bne_iff_ne,bne_iff_ne]
  omega
 ·have hc:dY_ kind prot lba b=0:=by unfold dY_;rw[if_neg hn,if_neg q1,if_neg q2]
  rw[hc] at hfin
  refine ai_ ?_ hfin
  rw[Bool.and_eq_false_iff,Bool.and_eq_false_iff,bne_eq_false_iff_eq,bne_eq_false_iff_eq,bne_eq_false_iff_eq]
  omega
theorem rR_ {wt:Bool} {w:World} {R:Int→W_} (h:R ((szB wt:Nat):Int) w):nj_ wt w R:=by
 refine nt_.calls _ _ _ ?_
 cases wt
 ·exact ai_ rfl h
 ·exact al_ rfl h
open Go CF
structure Sn where
 key:Nat
 code:Nat
 info:Nat
 hi:Bool
 field:Int
 bit:Int
 hf:Bool
 ic:Bool
def sn0:Sn:=⟨0,0,0,false,0,0,false,false⟩
def snv (s:Sn):List Value:=[.int .u8 (s.key:Int),.int .u16 (s.code:Int),.int .u64 (s.info:Int),.bool s.hi,.int .i64 s.field,.int .i64 s.bit,.bool s.hf,.bool s.ic]
def ci_ (code:Nat):Sn:=⟨5,code,0,false,0,0,false,false⟩
def dv_ (field:Nat):Sn:=⟨5,0x2600,0,false,(field:Int),-1,true,false⟩
def atS (key code info:Nat):Sn:=⟨key,code,info,true,0,0,false,false⟩
def rsv (st:Nat) (s:Sn) (d:Sl):List Value:=[.int .u8 (st:Int)]++snv s++[.slice d.A d.n d.c]
abbrev au_:Sl:=⟨none,0,0⟩
theorem pX_ (st:Nat) (s:Sn) (d:Sl):(rsv st s d).toArray.all (·.oneCell')=true:=by simp[rsv,snv,Value.oneCell']
theorem i0_ {w:World} {a:Addr} {st:Nat} {s:Sn} {d:Sl} (h:bQ_ w a (rsv st s d)):(loadVar aa_ a).run Tryz.prog w=.ok (.agg (rsv st s d).toArray) w:=aD_ tf_ iI_ rfl h
theorem dM_ {w:World} {a:Addr} {s:Sn} (h:bQ_ w a (snv s)):(loadVar ak_ a).run Tryz.prog w=.ok (.agg (snv s).toArray) w:=aD_ f9_ aR_ rfl h
theorem aW_ {w:World} {a:Nat} {old:A_} {st:Nat} {s:Sn} {d:Sl} {K:A_→W_} (hb:Blk w a old aa_) (ho:old.size=10)
  (h:∀w',ac_ (fun k=>k=a) w w'→K (rsv st s d).toArray w') :
  af_ Tryz.prog (storeVar aa_ ⟨a,0,none⟩ (.agg (rsv st s d).toArray)) w fun w'=>∃res:A_,(loadVar aa_ ⟨a,0,none⟩).run Tryz.prog w'=.ok (.agg res) w'∧K res w':=
 ap_ (cells:=(rsv st s d).toArray) hb iI_ rfl ho (pX_ _ _ _) fun w1 hb1 hk1 _=>⟨_,i0_ (ar_ hb1),h w1 hk1⟩
theorem bF_ {w:World} {a:Nat} {old:A_} {st:Nat} {s:Sn} {d:Sl} {K:W_} (hb:Blk w a old aa_) (ho:old.size=10)
  (h:∀w',Blk w' a (rsv st s d).toArray aa_→ac_ (fun k=>k=a) w w'→w'.heap.size=w.heap.size→K w'):af_ Tryz.prog (storeVar aa_ ⟨a,0,none⟩ (.agg (rsv st s d).toArray)) w K:=
 ap_ (cells:=(rsv st s d).toArray) hb iI_ rfl ho (pX_ _ _ _) h
theorem bY_ {w u v:World} {a:Nat} (hg:ab_ w u) (ha:w.heap.size≤a) (hk:ac_ (fun k=>k=a) u v):ab_ w v:=hg.keep hk fun i hi q=>o_
theorem hn_ {s:Sn} {w:World} {R:A_→W_} (h:∀w',ab_ w w'→R (rsv 2 s au_).toArray w'):dH_ (snv s).toArray w R:=by
 refine kG_.calls _ _ _ ?_
 refine ag_ fun sb w0 hsb hb0 hg0 hsz0=>?_
 have hb0:Blk w0 sb (snv s).toArray ak_:=hb0
 refine ag_ fun ab w1 hab hb1 hg1 hsz1=>⟨_,dM_ (ar_ (hg1.heap hb0 (fun q=>q))),(rsv 2 s au_).toArray,k_,?_⟩
 exact aW_ hb1 rfl fun w2 hk2=>h w2 (bY_ (hg0.trans hg1) (by have:=hg0.size;omega) hk2)
theorem ge_ {key code info:Nat} {w:World} {R:A_→W_} (h:∀w',ab_ w w'→R (rsv 2 (atS key code info) au_).toArray w'):c0_ (key:Int) (code:Int) (info:Int) w R:=by
 refine o1_.calls _ _ _ _ _ ?_
 refine ag_ fun ab w0 hab hb0 hg0 hsz0=>?_
 refine hn_ (s:=atS key code info) fun w1 hg1=>?_
 exact aW_ (hg1.heap hb0 (fun q=>q)) rfl fun w2 hk2=>h w2 (bY_ (hg0.trans hg1) o_ hk2)
theorem fB_ {d:Sl} {w:World} {R:A_→W_} (h:∀w',ab_ w w'→R (rsv 0 sn0 d).toArray w'):cS_ d w R:=by
 refine lT_.calls _ _ _ ?_
 refine ag_ fun ab w0 hab hb0 hg0 hsz0=>?_
 exact aW_ (st:=0) (s:=sn0) (d:=d) hb0 rfl fun w2 hk2=>h w2 (bY_ hg0 o_ hk2)
theorem hF_ {w:World} {R:A_→W_} (h:∀w',ab_ w w'→R (rsv 2 (ci_ 0x1a00) au_).toArray w'):eH_ w R:=by
 refine jI_.calls _ _ ?_
 refine ag_ fun ab w0 hab hb0 hg0 hsz0=>?_
 refine hn_ (s:=ci_ 0x1a00) fun w1 hg1=>?_
 exact aW_ (hg1.heap hb0 (fun q=>q)) rfl fun w2 hk2=>h w2 (bY_ (hg0.trans hg1) o_ hk2)
theorem ps_ {a b c:Nat} {w:World} {R:Bool→W_} (ha:a<18446744073709551616) (hb:b<18446744073709551616) (hc:c<18446744073709551616) (h:R (decide (a+b≤c)) w):iE_ (a:Int) (b:Int) (c:Int) w R:=by
 refine iR_.calls _ _ _ _ _ ?_
 unfold iR_
 have e:(decide ((a:Int)≤(c:Int))&&decide ((b:Int)≤IntKind.wrap .u64 ((c:Int)-(a:Int))))=decide (a+b≤c):=by
  rw[Bool.eq_iff_iff,Bool.and_eq_true,decide_eq_true_eq,decide_eq_true_eq,decide_eq_true_eq]
  by_cases q:a≤c
  ·rw[bZ_ o_ o_];omega
  ·omega
 first
  | (rw[e];exact h)
  | exact e▸h
open Go CF
def dD_:Bk:=⟨[0,0,0,0,0,0,0,0,0,0,0,0,0,0,0,0],0,0,0,rfl,d_,d_,d_⟩
theorem cY_ {w:World} {base:Nat} {e:TypeId} {s:Sl} {l:L8} (h:Own w base e 1 s (bv l)):s.n=l.length:=by have:=h.len;rw[ax_] at this;omega
theorem b4_ {w:World} {s:Sl} {l:L8} (h:Rd w 1 s (bv l)):l.length=s.n:=by have:=h.len;rw[ax_] at this;omega
theorem cz_ {w u u':World} {base:Nat} {e:TypeId} {z:Nat} {s:Sl} {vs:List Value} (hg:ab_ w u) (ho:Own u base e z s vs) (hb:w.heap.size≤base) (hk:ac_ (fun k=>some k=s.blk) u u'):ab_ w u':=
 hg.keep hk fun i hi q=>by have:=(ho.ge i q.symm).1;omega
theorem uq_ {w:World} {pb:Nat} {p:Sl} {l:L8} (hb:Blk w pb (bc dD_).toArray av_) (hp:Rd w 1 p (bv l)) (h16:16≤l.length) {K:Int→W_}
  (h:∀w',Blk w' pb (bv (l.take 16)++tc 0 0 0).toArray av_→ac_ (fun k=>k=pb) w w'→w'.heap.size=w.heap.size→K 16 w') :
  an_ Tryz.prog (.i .i64) (Builtin.copy_ #[aB_,aB_] hb_ #[.slice (some ⟨pb,0,none⟩) 16 16,.slice p.A p.n p.c]) w K:=by
 have hln:=b4_ hp
 have hdl:(l.take 16).length=16:=by rw[List.length_take];omega
 have hne:bv l≠[]:=fun e=>by have:=congrArg List.length e;rw[ax_,List.length_nil] at this;omega
 obtain⟨a2,ha2,hc2⟩:=hp.at_ hne
 have hsrc:∀j v,(bv (l.take 16))[j]?=some v→w.cell? (a2.add j)=some v:=fun j v hj=>hc2 j v (by
  rw[←jj_,List.getElem?_take] at hj
  split at hj
  ·exact hj
  ·cases hj)
 have hcp:=run_copy_row (P:=Tryz.prog) w aB_ aB_ hb_ ae_ pb 0 16 16 a2 p.n p.c _ av_ (bv (l.take 16)) aE_ k_ hb (by rw[ax_,hdl];exact(Nat.min_eq_right o_).symm) hsrc (by rw[ax_,hdl];decide) (cg_ _)
 have hset:=setRow_heap w pb _ ((bc dD_).toArray.toList.take 0++bv (l.take 16)++(bc dD_).toArray.toList.drop (0+16)).toArray av_ (0,0) hb
 have hoth:=fun k (hn:¬k=pb)=>setRow_other w pb k ((bc dD_).toArray.toList.take 0++bv (l.take 16)++(bc dD_).toArray.toList.drop (0+16)).toArray hn
 have hos:∀x,(w.setRow pb x).os=w.os∧(w.setRow pb x).tape=w.tape∧(w.setRow pb x).output=w.output∧(w.setRow pb x).heap.size=w.heap.size:=fun x=>⟨rfl,rfl,rfl,by simp⟩
 have hos:=hos ((bc dD_).toArray.toList.take 0++bv (l.take 16)++(bc dD_).toArray.toList.drop (0+16)).toArray
 rw[ha2]
 refine⟨16,_,hcp.trans (by rw[ax_,hdl];rfl),?_⟩
 generalize w.setRow pb ((bc dD_).toArray.toList.take 0++bv (l.take 16)++(bc dD_).toArray.toList.drop (0+16)).toArray=w5 at *
 refine h w5 ?_ ⟨hos.1,hos.2.1,hos.2.2.1,o_,fun k _ hn=>hoth k hn⟩ hos.2.2.2
 exact hset
theorem vP_ (b:Bk):bv (kO_ false b)=bv b.d:=by simp[kO_]
theorem vQ_ (wt:Bool) {bs:List Bk} {j:Nat} (h:j<bs.length):b3_ wt (bs.take (j+1))=b3_ wt (bs.take j)++kO_ wt bs[j]:=by
 unfold b3_
 rw[List.take_succ_eq_append_getElem h,List.flatMap_append]
 simp
theorem ow_ {ls:Sl} {wt:Bool} {bs:List Bk} {w:World} {R:Sl→W_} (hl:Rd w 19 ls (bs.flatMap bc)) (hn:bs.length≤4096)
  (h:∀s w',Own w' w.heap.size ae_ 1 s (bv (b3_ wt bs))→ab_ w w'→R s w'):k5_ ls wt w R:=by
 refine nr_.calls _ _ _ _ ?_
 have hbn:=sw_ hl
 refine⟨fun p x u=>∃j:Nat,x=j∧j≤bs.length∧ab_ w u∧Own u w.heap.size ae_ 1 p (bv (b3_ wt (bs.take j))),fun _ x _=>bs.length-x.toNat,⟨0,rfl,Nat.zero_le _,ac_.refl _ _,aG_ _ _ _ _⟩,?_⟩
 rintro p x u ⟨j,rfl,hj,hgu,hown⟩
 refine ba_ (fun hlt=>?_) (fun hge=>?_)
 ·have hjb:j<bs.length:=o_
  have hpn:=cY_ hown
  rw[iz_,List.length_take,Nat.min_eq_left hj] at hpn
  have hsz:szB wt≤24:=by unfold szB;split<;>decide
  have hjs:j*szB wt≤4096*24:=Nat.mul_le_mul o_ hsz
  refine aX_ (fun q v=>ab_ w v∧Own v w.heap.size ae_ 1 q (bv (b3_ wt (bs.take (j+1))))) (fun q v ⟨h1,h2⟩=>by
   rw[w64 o_ o_]
   exact⟨⟨j+1,o_,o_,h1,h2⟩,by dsimp only;omega⟩) (fun J=>?_)
  obtain⟨a0,ha0,hc0⟩:=jo_ (hl.grow hgu) hjb
  refine⟨⟨o_,o_,by rw[ha0];rfl⟩,(bc bs[j]).toArray,by rw[ha0,Int.toNat_natCast];exact nD_ hc0,?_⟩
  rw[vQ_ wt hjb] at J
  generalize bs[j]=b at *
  refine ag_ fun pb w1 hpb hb1 hg1 hsz1=>?_
  refine ap_ (cells:=(bc b).toArray) hb1 bq_ (by simp[bN_]) (by simp[bN_]) (le_ _) fun w2 hb2 hk2 hsz2=>⟨d_,?_⟩
  have hg2:ab_ u w2:=hg1.keep hk2 fun i hi q=>o_
  have hgw2:=hgu.trans hg2
  refine aN_ (x:=⟨some ⟨pb,0,none⟩,16,16⟩) aE_ a6_ rfl d_ d_ (hown.grow hg2) (dRd hb2) (cg_ _) (by show(p.n+16)*1≤_;omega) hgw2.size fun q w3 hn3 hown3 hk3 hat3=>?_
  rw[←bg_] at hown3
  have hgw3:=cz_ hgw2 (hown.grow hg2) (Nat.le_refl _) hk3
  have hpq:pb≠q.n∨True:=.inr trivial
  have hb3:Blk w3 pb (bc b).toArray av_:=hk3.heap hb2 fun e=>by have:=(hown.ge pb e.symm).2;omega
  cases wt with
  | false=>
   refine ai_ rfl (J q w3 ⟨hgw3,?_⟩)
   rw[bg_,vP_,←bg_]
   exact hown3
  | true=>
   refine al_ rfl ⟨_,sz_ (qs_ (ar_ hb3)),?_⟩
   refine ag_ fun tb w4 htb hb4 hg4 hsz4=>?_
   refine ap_ (cells:=(tc b.g b.a b.r).toArray) hb4 dQ_ rfl rfl (by simp[tc,Value.oneCell']) fun w5 hb5 hk5 hsz5=>?_
   have hg35:ab_ w3 w5:=hg4.keep hk5 fun i hi q=>o_
   have cg:w5.cell? ((⟨tb,0,none⟩:Addr).add 0)=some (.int .u16 (b.g:Int)):=by rw[ao_,hb5.cell];rfl
   have ca:w5.cell? ((⟨tb,0,none⟩:Addr).add 1)=some (.int .u16 (b.a:Int)):=by rw[ao_,hb5.cell];rfl
   have cr:w5.cell? ((⟨tb,0,none⟩:Addr).add 2)=some (.int .u32 (b.r:Int)):=by rw[ao_,hb5.cell];rfl
   refine⟨_,cg,_,cg,_,ca,_,ca,_,cr,_,cr,_,cr,_,cr,?_⟩
   rw[shr .u16 b.g 8 d_,shr .u16 b.a 8 d_,shr .u32 b.r 24 d_,shr .u32 b.r 16 d_,shr .u32 b.r 8 d_,aV_,aV_,aV_,aV_,aV_,aV_,aV_,aV_]
   refine aJ_ (cells:=(bv (vN_ b)).toArray) (e:=ae_) (z:=1) (base:=w.heap.size) k_ rfl d_ (hgw3.trans hg35).size fun w6 hlit6 hg6 _=>?_
   have hn3:q.n=p.n+16:=hn3
   refine aN_ aE_ a6_ rfl d_ d_ ((hown3.grow hg35).grow hg6) (hlit6.rd (by show 8≤_;decide)) (cg_ _) (by rw[hn3];show(p.n+16+8)*1≤_;omega) ((hgw3.trans hg35).trans hg6).size fun q2 w7 hn7 hown7 hk7 _=>?_
   refine J q2 w7 ⟨cz_ ((hgw3.trans hg35).trans hg6) ((hown3.grow hg35).grow hg6) (Nat.le_refl _) hk7,?_⟩
   have e:bv (b3_ true (bs.take j)++kO_ true b)=bv (b3_ true (bs.take j)++b.d)++bv (vN_ b):=by
    rw[←bg_];simp[kO_]
   rw[e]
   exact hown7
 ·have:j=bs.length:=o_
  subst this
  rw[List.take_length] at hown
  exact h p u hown hgu
theorem AS_ {a b:Nat} (ha:a<256) (hb:b<256):bOr .u16 (cD_ .u16 (IntKind.wrap .u16 (a:Int)) 8) (IntKind.wrap .u16 (b:Int))=((a*256+b:Nat):Int):=by
 rw[oa_ (n:=(a:Int)) o_ o_,oa_ (n:=(b:Int)) o_ o_,u3_ ha]
 unfold bOr
 show IntKind.wrap .u16 (((BitVec.ofInt 16 ((a*256:Nat):Int) ||| BitVec.ofInt 16 (b:Int)).toNat:Nat):Int)=_
 rw[BitVec.ofInt_natCast,BitVec.ofInt_natCast,BitVec.toNat_or,BitVec.toNat_ofNat,BitVec.toNat_ofNat,Nat.mod_eq_of_lt o_,Nat.mod_eq_of_lt o_]
 have e:a*256 ||| b=a*256+b:=by
  have:=Nat.shiftLeft_add_eq_or_of_lt (i:=8) (b:=b) o_ a
  rw[Nat.shiftLeft_eq] at this
  exact this.symm
 rw[e]
 exact oa_ o_ o_
theorem yt_ {x y m:Nat} (hm:∃k,m=2 ^ k) (hx:∃a,x=a*m) (hy:y<m) (hs:x+y<4294967296):bOr .u32 (x:Int) (y:Int)=((x+y:Nat):Int):=by
 obtain⟨k,rfl⟩:=hm
 obtain⟨a,rfl⟩:=hx
 unfold bOr
 show IntKind.wrap .u32 (((BitVec.ofInt 32 ((a*2 ^ k:Nat):Int) ||| BitVec.ofInt 32 (y:Int)).toNat:Nat):Int)=_
 rw[BitVec.ofInt_natCast,BitVec.ofInt_natCast,BitVec.toNat_or,BitVec.toNat_ofNat,BitVec.toNat_ofNat,Nat.mod_eq_of_lt o_,Nat.mod_eq_of_lt o_]
 have e:a*2 ^ k ||| y=a*2 ^ k+y:=by
  have:=Nat.shiftLeft_add_eq_or_of_lt (i:=k) (b:=y) hy a
  rw[Nat.shiftLeft_eq] at this
  exact this.symm
 rw[e]
 exact k1_ o_ o_
theorem vR_ {a k m:Nat} (hm:m=2 ^ k) (hk:k≤32) (h:a*m<4294967296):cD_ .u32 (a:Int) k=((a*m:Nat):Int):=by
 subst hm
 unfold cD_
 have e:(min k (IntKind.bits .u32))=k:=Nat.min_eq_left hk
 have e2:(a:Int)*2 ^ k=((a*2 ^ k:Nat):Int):=by norm_cast
 rw[e,e2]
 exact k1_ o_ o_
theorem Bt_ {a b c d:Nat} (ha:a<256) (hb:b<256) (hc:c<256) (hd:d<256) :
  bOr .u32 (bOr .u32 (bOr .u32 (cD_ .u32 (IntKind.wrap .u32 (a:Int)) 24) (cD_ .u32 (IntKind.wrap .u32 (b:Int)) 16)) (cD_ .u32 (IntKind.wrap .u32 (c:Int)) 8)) (IntKind.wrap .u32 (d:Int))=((a*16777216+b*65536+c*256+d:Nat):Int):=by
 rw[k1_ (n:=(a:Int)) o_ o_,k1_ (n:=(b:Int)) o_ o_,k1_ (n:=(c:Int)) o_ o_,k1_ (n:=(d:Int)) o_ o_]
 rw[vR_ (a:=a) (k:=24) (m:=16777216) rfl d_ o_,vR_ (a:=b) (k:=16) (m:=65536) rfl d_ o_,vR_ (a:=c) (k:=8) (m:=256) rfl d_ o_]
 rw[yt_ (m:=16777216) ⟨24,rfl⟩ ⟨a,rfl⟩ o_ o_,yt_ (m:=65536) ⟨16,rfl⟩ ⟨a*256+b,o_⟩ o_ o_,yt_ (m:=256) ⟨8,rfl⟩ ⟨a*65536+b*256+c,o_⟩ o_ o_]
theorem Bg_ {a b c d:UInt8}:num [a,b,c,d]=a.toNat*16777216+b.toNat*65536+c.toNat*256+d.toNat:=by simp[num];omega
theorem xb_ (l:L8) (h:16≤l.length):bc (unB false l)=bv (l.take 16)++tc 0 0 0:=by
 have e:fj_ l=l.take 16:=by unfold fj_;rw[List.take_append_of_le_length h]
 show bv (fj_ l)++tc 0 0 0=_
 rw[e]
theorem yu_ (l:L8) (h:16≤l.length):bc (unB true l)=bv (l.take 16)++tc (num ((l.drop 16).take 2)) (num ((l.drop 18).take 2)) (num ((l.drop 20).take 4)):=by
 have e:fj_ l=l.take 16:=by unfold fj_;rw[List.take_append_of_le_length h]
 show bv (fj_ l)++tc (num ((l.drop 16).take 2)) (num ((l.drop 18).take 2)) (num ((l.drop 20).take 4))=_
 rw[e]
theorem yv_ {wt:Bool} {l:L8}:unB wt (l.take (szB wt))=unB wt l:=by
 cases wt with
 | false=>
  unfold unB szB
  have e:fj_ (l.take 16)=fj_ l:=by
   unfold fj_
   rcases Nat.le_total 16 l.length with q|q
   ·rw[List.take_append_of_le_length (by rw[List.length_take];omega),List.take_take,List.take_append_of_le_length q];rfl
   ·rw[List.take_of_length_le q]
  simp only[Bool.false_eq_true,if_false,e]
 | true=>
  unfold unB szB
  have e:fj_ (l.take 24)=fj_ l:=by
   unfold fj_
   rcases Nat.le_total 24 l.length with q|q
   ·rw[List.take_append_of_le_length (by rw[List.length_take];omega),List.take_take,List.take_append_of_le_length o_];rfl
   ·rw[List.take_of_length_le q]
  have f:∀d n,d+n≤24→((l.take 24).drop d).take n=(l.drop d).take n:=fun d n h=>by
   rw[List.drop_take,List.take_take,Nat.min_eq_left o_]
  simp only[if_true,e,f 16 2 d_,f 18 2 d_,f 20 4 d_]
open Go CF
theorem zt_ {X:L8} {d:Nat} (h:d+2≤X.length):(X.drop d).take 2 = [X[d],X[d+1]]:=by
 rw[List.drop_eq_getElem_cons (show d<X.length by omega),List.take_succ_cons,List.drop_eq_getElem_cons (show d+1<X.length by omega),List.take_succ_cons,List.take_zero]
theorem Bh_ {X:L8} {d:Nat} (h:d+4≤X.length):(X.drop d).take 4 = [X[d],X[d+1],X[d+2],X[d+3]]:=by
 rw[List.drop_eq_getElem_cons (show d<X.length by omega),List.take_succ_cons,List.drop_eq_getElem_cons (show d+1<X.length by omega),List.take_succ_cons,List.drop_eq_getElem_cons (show d+2<X.length by omega),List.take_succ_cons,
  List.drop_eq_getElem_cons (show d+3<X.length by omega),List.take_succ_cons,List.take_zero]
theorem jN_ {p:Sl} {l:L8} {wt:Bool} {w:World} {R:Sl→Bool→W_} (hp:Rd w 1 p (bv l)) (hb:p.n≤140737488351232)
  (h1:l.length%szB wt≠0→R au_ false w) (h2:l.length%szB wt=0→∀out u,ab_ w u→Own u w.heap.size av_ 19 out ((bE_ wt l).flatMap bc)→R out true u):fJ_ p wt w R:=by
 refine kI_.calls _ _ _ _ ?_
 have hln:=b4_ hp
 have hs16:16≤szB wt∧szB wt≤24:=by unfold szB;split<;>decide
 refine rR_ ⟨o_,?_⟩
 have em:((p.n:Int).tmod ((szB wt:Nat):Int))=((l.length%szB wt:Nat):Int):=by rw[hln];rfl
 rw[em]
 refine eR_ (fun q=>h1 o_) (fun q=>?_)
 have hm:l.length%szB wt=0:=o_
 have hN:l.length=l.length/szB wt*szB wt:=by have:=Nat.div_add_mod l.length (szB wt);rw[hm,Nat.mul_comm] at this;omega
 have h2:=h2 hm
 generalize hNN:l.length/szB wt=N at *
 have hN16:N*16≤l.length:=by rw[hN];exact Nat.mul_le_mul_left _ hs16.1
 have hul:(bE_ wt l).length=N:=by rw[gX_,hNN]
 refine⟨fun p1 out u=>∃j:Nat,j≤N∧ab_ w u∧(∀v,ab_ w v→Rd v 1 p1 (bv (l.drop (j*szB wt))))∧Own u w.heap.size av_ 19 out (((bE_ wt l).take j).flatMap bc),fun p1 _ _=>p1.n,
  ⟨0,Nat.zero_le _,ac_.refl _ _,fun v hv=>by rw[Nat.zero_mul,List.drop_zero];exact hp.grow hv,aG_ _ _ _ _⟩,?_⟩
 rintro p1 out u ⟨j,hj,hgu,hp1,hown⟩
 have hpu:=hp1 u hgu
 have hpn:=b4_ hpu
 rw[List.length_drop] at hpn
 have hjs:j*szB wt≤N*szB wt:=Nat.mul_le_mul_right _ hj
 by_cases hjN:j=N
 ·subst hjN
  refine ai_ (by rw[decide_eq_false_iff_not];omega) ?_
  rw[List.take_of_length_le o_] at hown
  exact h2 out u hgu hown
 have hjs1:j*szB wt+szB wt≤N*szB wt:=by rw[←Nat.succ_mul];exact Nat.mul_le_mul_right _ o_
 have hcap:=hpu.cap
 refine al_ (by rw[decide_eq_true_eq];omega) ?_
 have hXl:(l.drop (j*szB wt)).length=p1.n:=by rw[List.length_drop];exact hpn
 have hun:(bE_ wt l)[j]' o_=unB wt (l.drop (j*szB wt)):=by rw[zQ_,yv_]
 have hou:=sw_ (hown.rd (by
  have:=hown.len
  rw[bv_ bN_,List.length_take] at this
  omega))
 rw[List.length_take,hul,Nat.min_eq_left hj] at hou
 refine aX_ (fun out1 v=>ab_ w v∧Own v w.heap.size av_ 19 out1 (((bE_ wt l).take (j+1)).flatMap bc)) ?_ (fun J=>?_)
 ·rintro out1 v ⟨h3,h5⟩
  refine⟨⟨o_,o_,o_,hcap⟩,⟨j+1,o_,h3,fun x hx=>?_,h5⟩,?_⟩
  ·have:=(hp1 x hx).cutB (l:=szB wt) (k:=p1.n) o_ (Nat.le_refl _)
   rw[List.take_of_length_le (by rw[List.length_drop];omega),List.drop_drop] at this
   rw[Nat.succ_mul]
   exact this
  ·show((p1.n:Int)).toNat-((szB wt:Nat):Int).toNat<p1.n
   rw[Int.toNat_natCast,Int.toNat_natCast];omega
 have hflat:((bE_ wt l).take (j+1)).flatMap bc=((bE_ wt l).take j).flatMap bc++bc (unB wt (l.drop (j*szB wt))):=by
  rw[List.take_succ_eq_append_getElem o_,List.flatMap_append,hun];simp
 rw[hflat] at J
 generalize hX:l.drop (j*szB wt)=X at *
 refine ag_ fun pb w1 hpb hb1 hg1 hsz1=>⟨d_,?_⟩
 have hb1:Blk w1 pb (bc dD_).toArray av_:=hb1
 refine uq_ hb1 (hp1 w1 (hgu.trans hg1)) o_ fun w2 hb2 hk2 hsz2=>?_
 have hg2:ab_ u w2:=hg1.keep hk2 fun i hi q=>o_
 refine bR_ (fun v=>ab_ u v∧Blk v pb (bc (unB wt X)).toArray av_) ?_ (fun J1=>?_)
 ·rintro v ⟨hgv,hbv⟩
  refine⟨_,nD_ (ar_ hbv),?_⟩
  refine aJ_ (cells:=(bc (unB wt X)).toArray) (e:=av_) (z:=19) (base:=0) (oo_ _ _) (by simp[bN_]) d_ (Nat.zero_le _) fun w3 hlit3 hg3 _=>?_
  refine pT_ jn_ bq_ rfl d_ d_ ((hown.grow hgv).grow hg3) (hlit3.rd (by show 1≤_;decide)) (fun x hx=>o2_ _ x (by simpa using hx)) (by show out.n+1≤_;omega) (by show(out.n+1+(out.n+1)/4+192)*24≤_;omega) ((hgu.trans hgv).trans hg3).size fun s' w4 hn4 hown4 hk4=>?_
  exact J s' w4 ⟨cz_ ((hgu.trans hgv).trans hg3) ((hown.grow hgv).grow hg3) (Nat.le_refl _) hk4,by simpa using hown4⟩
 ·have hgw2:=hgu.trans hg2
  cases wt with
  | false=>
   refine ai_ rfl (J1 w2 ⟨hg2,?_⟩)
   rw[xb_ X o_]
   exact hb2
  | true=>
   have h24:24≤X.length:=by have:szB true=24:=rfl;omega
   refine al_ rfl ⟨⟨d_,o_,o_,hcap⟩,?_⟩
   rintro w3 rfl
   have hg3:ab_ w2 w2.drew:=am_ w2
   have hcut:∀v,ab_ w v→Rd v 1 ⟨aI_ p1.A p1.c 16 1,p1.n-16,p1.c-16⟩ (bv (X.drop 16)):=fun v hv=>by
    have:=(hp1 v hv).cutB (l:=16) (k:=p1.n) o_ (Nat.le_refl _)
    rwa [List.take_of_length_le (by rw[List.length_drop];omega)] at this
   have rd:∀i (hi:16+i<X.length) v,ab_ w v→v.cell? ((gA (aI_ p1.A p1.c 16 1)).add (i*1))=some (.int .u8 (X[16+i].toNat:Int)):=fun i hi v hv=>by
    obtain⟨a,ha,hc⟩:=(hcut v hv).byte (i:=i) (by show i<p1.n-16;omega)
    have ha:aI_ p1.A p1.c 16 1=some a:=ha
    rw[ha,gA]
    simpa using hc
   have hA:(aI_ p1.A p1.c 16 1).isSome=true:=by
    obtain⟨a,ha,_⟩:=(hcut w2 hgw2).byte (i:=0) (by show 0<p1.n-16;omega)
    have ha:aI_ p1.A p1.c 16 1=some a:=ha
    rw[ha];rfl
   have bd:∀i:Nat,i<8→(0:Int)≤(i:Int)∧(i:Int)<(((((p1.n:Int)).toNat-16):Nat):Int)∧(aI_ p1.A p1.c 16 1).isSome=true:=fun i hi=>⟨o_,by rw[Int.toNat_natCast];omega,hA⟩
   refine⟨fun v=>ab_ w v,hgw2.trans hg3,bd 0 d_,_,rd 0 o_,bd 1 d_,_,rd 1 o_,bd 2 d_,_,rd 2 o_,bd 3 d_,_,rd 3 o_,
    bd 4 d_,_,rd 4 o_,bd 5 d_,_,rd 5 o_,bd 6 d_,_,rd 6 o_,bd 7 d_,_,rd 7 o_,?_⟩
   rw[AS_ (UInt8.toNat_lt _) (UInt8.toNat_lt _),AS_ (UInt8.toNat_lt _) (UInt8.toNat_lt _),Bt_ (UInt8.toNat_lt _) (UInt8.toNat_lt _) (UInt8.toNat_lt _) (UInt8.toNat_lt _)]
   have hb3:Blk w2.drew pb _ av_:=hg3.heap hb2 (fun q=>q)
   rw[ao_]
   refine dW_ (o:=0+16) (cells:=(tc (X[16+0].toNat*256+X[16+1].toNat) (X[16+2].toNat*256+X[16+3].toNat) (X[16+4].toNat*16777216+X[16+5].toNat*65536+X[16+6].toNat*256+X[16+7].toNat)).toArray) hb3 dQ_ rfl
    (by have:(bv (X.take 16)).length=16:=by rw[ax_,List.length_take];omega
        simp[this,tc]) (by intro v hv;simp[tc] at hv;rcases hv with rfl|rfl|rfl<;>rfl) fun w4 hb4 hk4 hsz4=>?_
   refine J1 w4 ⟨(hg2.trans hg3).keep hk4 fun i hi q=>o_,?_⟩
   have e:(unB true X)=unB true X:=rfl
   rw[yu_ X o_,zt_ o_,zt_ o_,Bh_ o_,ro_,ro_,Bg_]
   have hl16:(bv (X.take 16)).length=16:=by rw[ax_,List.length_take];omega
   have e2:((bv (X.take 16)++tc 0 0 0).take (0+16))=bv (X.take 16):=by rw[List.take_append_of_le_length o_,List.take_of_length_le o_]
   have e3:((bv (X.take 16)++tc 0 0 0).drop (0+16+3)) = []:=List.drop_of_length_le (by rw[List.length_append,hl16];decide)
   have hb4:Blk w4 pb ((bv (X.take 16)++tc 0 0 0).take (0+16)++tc (X[16+0].toNat*256+X[16+1].toNat) (X[16+2].toNat*256+X[16+3].toNat) (X[16+4].toNat*16777216+X[16+5].toNat*65536+X[16+6].toNat*256+X[16+7].toNat)++(bv (X.take 16)++tc 0 0 0).drop (0+16+3)).toArray av_:=hb4
   rw[e2,e3,List.append_nil] at hb4
   exact hb4
open Go CF
structure Cm where
 kind:Nat
 long:Bool
 lba:Nat
 blocks:Nat
 alloc:Int
 fua:Bool
 prot:Nat
 unmap:Bool
 evpd:Bool
 page:Nat
 control:Nat
 save:Bool
 service:Nat
 type:Nat
 bytes:Bool
def cmv (c:Cm):List Value:=[.int .u8 (c.kind:Int),.bool c.long,.int .u64 (c.lba:Int),.int .u64 (c.blocks:Int),.int .i64 c.alloc,.bool c.fua,.int .u8 (c.prot:Int),.bool c.unmap,.bool c.evpd,.int .u8 (c.page:Int),.int .u8 (c.control:Int),
 .bool c.save,.int .u8 (c.service:Int),.int .u8 (c.type:Int),.bool c.bytes]
theorem jO_ {w:World} {a:Addr} {c:Cm} (h:bQ_ w a (cmv c)):(loadVar az_ a).run Tryz.prog w=.ok (.agg (cmv c).toArray) w:=aD_ rK_ ix_ rfl h
def dm_ (ps kind:Nat):A_:=#[.pointer (some ⟨ps,0,none⟩),.int .u8 (kind:Int)]
structure Dvq (w:World) (dv ps pw:Nat) (file:ByteArray) (kind n:Nat) (cache:Bool) (D:Nat→Prop) (st:Wst) (bs:List Bk) (m:Nat) (F:Int→Bool):Prop where
 dev:Blk w dv (dm_ ps kind) bV_
 isS:IsS w ps pw file n cache
 isW:aZ_ w pw D st F
 nps:¬D ps
 ndv:¬D dv
 ok:Wok st
 tells:hm_ st file bs
 len:bs.length=n
 size:1≤n∧n≤4096
 nm:1≤file.size∧file.size≤32
 kd:kind≤3
 few:st.ops≤m∧st.waits.length≤m
section
variable {w u:World} {dv ps pw:Nat} {file:ByteArray} {kind n:Nat} {cache:Bool} {D D':Nat→Prop} {st st':Wst} {bs bs':List Bk} {m m':Nat} {F:Int→Bool}
theorem Dvq.step (h:Dvq w dv ps pw file kind n cache D st bs m F) (k:ac_ D w u) (hw:aZ_ u pw D' st' F) (hD:∀k,D' k→D k∨w.heap.size≤k) (hok:Wok st') (ht:hm_ st' file bs') (hl:bs'.length=n) (hf:st'.ops≤m'∧st'.waits.length≤m') :
  Dvq u dv ps pw file kind n cache D' st' bs' m' F:=by
 have l1:=aw_ h.dev
 have l2:=aw_ h.isS
 refine⟨k.heap h.dev h.ndv,k.heap h.isS h.nps,hw,fun q=>?_,fun q=>?_,hok,ht,hl,h.size,h.nm,h.kd,hf⟩
 ·rcases hD _ q with r|r
  ·exact h.nps r
  ·omega
 ·rcases hD _ q with r|r
  ·exact h.ndv r
  ·omega
theorem Dvq.grow (h:Dvq w dv ps pw file kind n cache D st bs m F) (g:ab_ w u):Dvq u dv ps pw file kind n cache D st bs m F:=
 ⟨g.heap h.dev (fun q=>q),g.heap h.isS (fun q=>q),h.isW.grow g,h.nps,h.ndv,h.ok,h.tells,h.len,h.size,h.nm,h.kd,h.few⟩
theorem Dvq.mono (h:Dvq w dv ps pw file kind n cache D st bs m F) (hm:m≤m'):Dvq w dv ps pw file kind n cache D st bs m' F:=
 ⟨h.dev,h.isS,h.isW,h.nps,h.ndv,h.ok,h.tells,h.len,h.size,h.nm,h.kd,by have:=h.few;omega⟩
theorem nE_ (h:Blk w dv (dm_ ps kind) bV_):w.cell? ((gA (some ⟨dv,0,none⟩)).add 0)=some (.pointer (some ⟨ps,0,none⟩)):=by rw[gA,ao_,h.cell];rfl
theorem nF_ (h:Blk w dv (dm_ ps kind) bV_):w.cell? ((gA (some ⟨dv,0,none⟩)).add 1)=some (.int .u8 (kind:Int)):=by rw[gA,ao_,h.cell];rfl
theorem vS_ (ht:hm_ st file bs) {lba k:Nat} (h:lba+k≤bs.length):dd_ st file lba k=(bs.drop lba).take k:=by
 apply List.ext_getElem?
 intro i
 unfold dd_
 rw[List.getElem?_map,List.getElem?_take,List.getElem?_drop]
 by_cases q:i<k
 ·rw[List.getElem?_range q,if_pos q,Option.map_some]
  exact ht.2 (lba+i) o_
 ·rw[if_neg q,List.getElem?_eq_none (by simp;omega)];rfl
theorem jP_ {R:Int→W_} (h:Dvq w dv ps pw file kind n cache D st bs m F) (hR:R (n:Int) w):cF_ (some ⟨dv,0,none⟩) w R:=by
 refine gw_.calls _ _ _ ⟨rfl,some ⟨ps,0,none⟩,nE_ h.dev,?_⟩
 refine d2_.calls _ _ _ (ai_ rfl ⟨rfl,(n:Int),by rw[gA,ao_,Blk.cell h.isS];rfl,?_⟩)
 have:=h.size
 dsimp only
 rw[bZ_ o_ o_]
 exact hR
end
open Go CF
theorem bI_ {w y z:World} {D:Nat→Prop} {ab:Nat} (hk:ac_ D w y) (ha:w.heap.size≤ab) (hz:ac_ (fun k=>k=ab) y z):ac_ D w z:=
 ⟨hz.os.trans hk.os,hz.tape.trans hk.tape,hz.output.trans hk.output,Nat.le_trans hk.size hz.size,fun k hk' hn=>by rw[hz.block k (by have:=hk.size;omega) o_,hk.block k hk' hn]⟩
theorem nG_ {y z:World} {pw:Nat} {D:Nat→Prop} {st:Wst} {F:Int→Bool} {ab:Nat} {cs:A_} {t:TypeId} (hw:aZ_ y pw D st F) (hb:Blk y ab cs t) (ht:t≠ae_) (hn:¬D ab) (hz:ac_ (fun k=>k=ab) y z):aZ_ z pw D st F:=
 hw.keep hz (fun k hk q=>hn (q▸hk)) (fun g cur hg q=>by subst q;exact ht (bj_ hb hg))
theorem nH_:aa_≠ae_:=d_
section
variable {w u:World} {dv ps pw:Nat} {file:ByteArray} {kind n:Nat} {cache:Bool} {D D':Nat→Prop} {st st':Wst} {bs bs':List Bk} {m m':Nat}
theorem so_ {F:Int→Bool} {lba:Nat} {ls:Sl} {L:List Bk} {fua:Bool} {R:A_→W_} (h:Dvq w dv ps pw file kind n cache D st bs m F) (hm:m≤600000000) (hc:lba+L.length≤n) (hL:∀v,ac_ D w v→Rd v 19 ls (L.flatMap bc))
  (hR:(∀i:Nat,i<L.length+(if cr_ L.length fua cache then 1 else 0)→F ((st.ops+i:Nat):Int)=false)→∀u D',ac_ D w u→Dvq u dv ps pw file kind n cache D' (dX_ (cr_ L.length fua cache) (bO_ st file lba (dL_ L) L.length)) (ft_ bs lba L L.length) (m+L.length+1) F→(∀k,D' k→D k∨w.heap.size≤k)→R (rsv 0 sn0 au_).toArray u)
  (hbad:∀k:Nat,k<L.length+(if cr_ L.length fua cache then 1 else 0)→(∀i:Nat,i<k→F ((st.ops+i:Nat):Int)=false)→F ((st.ops+k:Nat):Int)=true→∀u D',ac_ D w u→Dvq u dv ps pw file kind n cache D' {bO_ st file lba (dL_ L) k with ops:=st.ops+k+1} (ft_ bs lba L k) (m+L.length+1) F→(∀k,D' k→D k∨w.heap.size≤k)→R (rsv 2 (atS 3 0x0c00 (lba+k)) au_).toArray u) :
  cd_ (some ⟨dv,0,none⟩) (lba:Int) ls fua w R:=by
 refine hh_.calls _ _ _ _ _ _ ?_
 have hsz:=h.size
 have hlen:=h.len
 have hfew:=h.few
 refine ag_ fun ab w1 hab hb1 hg1 hsz1=>⟨rfl,some ⟨ps,0,none⟩,nE_ (h.grow hg1).dev,?_⟩
 have h1:=h.grow hg1
 rw[w64 (n:=(lba:Int)) o_ o_]
 have nab:¬D ab:=fun q=>by have:=h.isW.lt q;omega
 refine pW_ h1.isS h1.nps h1.isW h1.ok h.nm hsz.2 hc (fun v hk=>hL v ((hg1.mono fun _ _ q=>q.elim).trans hk fun _ _ q=>q)) o_ o_ (fun hfl w2 D2 hk2 hw2 hD2 hS2=>ai_ rfl ?_) (fun k hk0 hfl hf w2 D2 hk2 hw2 hD2 hS2=>al_ rfl ?_)
 case refine_2=>
  have hkl:k≤L.length:=by split at hk0<;>omega
  rw[bZ_ (n:=(k:Int)) o_ o_,bZ_ o_ o_,show((lba:Int)+(k:Int))=((lba+k:Nat):Int) by omega]
  refine ge_ (key:=3) fun w3 hg3=>?_
  have s1:=hg1.size
  have s2:=hk2.size
  have nab2:¬D2 ab:=fun q=>by
   rcases hD2 _ q with r|r
   ·exact nab r
   ·omega
  have hb3:Blk w3 ab _ aa_:=hg3.heap (hk2.heap hb1 nab) (fun q=>q)
  refine aW_ hb3 rfl fun w4 hk4=>?_
  have hkD:ac_ D w w4:=bI_ (((hg1.mono fun _ _ q=>q.elim).trans hk2 fun _ _ q=>q).grow hg3) o_ hk4
  have hDD:∀k,D2 k→D k∨w.heap.size≤k:=fun k q=>by
   rcases hD2 k q with r|r
   ·exact .inl r
   ·exact .inr o_
  obtain⟨lo,lw⟩:=ij_ st file lba (dL_ L) k
  exact hbad k hk0 hfl hf w4 D2 hkD (h.step hkD (nG_ (hw2.grow hg3) hb3 nH_ nab2 hk4) hDD (jp_ h.ok (ny_ L) k o_) (sn_ h.tells o_ hkl) (by rw[c6_];exact hlen) ⟨by show st.ops+k+1≤_;omega,by show(bO_ st file lba (dL_ L) k).waits.length≤_;omega⟩) hDD
 refine fB_ fun w3 hg3=>?_
 have s1:=hg1.size
 have s2:=hk2.size
 have nab2:¬D2 ab:=fun q=>by
  rcases hD2 _ q with r|r
  ·exact nab r
  ·omega
 have hb3:Blk w3 ab _ aa_:=hg3.heap (hk2.heap hb1 nab) (fun q=>q)
 refine aW_ (st:=0) (s:=sn0) (d:=au_) hb3 rfl fun w4 hk4=>?_
 have hkD:ac_ D w w4:=bI_ (((hg1.mono fun _ _ q=>q.elim).trans hk2 fun _ _ q=>q).grow hg3) o_ hk4
 have hDD:∀k,D2 k→D k∨w.heap.size≤k:=fun k q=>by
  rcases hD2 k q with r|r
  ·exact .inl r
  ·exact .inr o_
 obtain⟨lo,lw⟩:=ij_ st file lba (dL_ L) L.length
 have so:=qr_ (cr_ L.length fua cache) (bO_ st file lba (dL_ L) L.length)
 have sw:(dX_ (cr_ L.length fua cache) (bO_ st file lba (dL_ L) L.length)).waits.length≤st.waits.length+L.length:=by
  rw[or_]
  split
  ·exact Nat.zero_le _
  ·omega
 refine hR hfl w4 D2 hkD (h.step hkD (nG_ (hw2.grow hg3) hb3 nH_ nab2 hk4) hDD (rO_ (jp_ h.ok (ny_ L) L.length o_)) (uo_ h.tells o_) (by rw[c6_];exact hlen) o_) hDD
end
theorem ur_ {P:Program} {w:World} {base:Nat} {e ty:TypeId} {z o:Nat} {zv:Option Value} {q bytes:Nat} {s:Sl} {vs:List Value} {cells:A_} (hs:Own w base e z s vs) (hinfo:(P.info? ty).map (fun i=>(i.zero,i.size,i.bytes))=some (zv,q,bytes)) (hq:q=cells.size)
  (ho:o+cells.size≤vs.length) (hpos:0<cells.size) (h1:∀v∈cells.toList,v.oneCell'=true) {K:W_}
  (h:∀w1,Own w1 base e z s (vs.take o++cells.toList++vs.drop (o+cells.size))→ac_ (fun k=>some k=s.blk) w w1→w1.heap.size=w.heap.size→K w1):af_ P (storeVar ty ((gA s.A).add o) (.agg cells)) w K:=by
 obtain⟨hlen,hown⟩:=hs
 rcases hown with⟨h2,hn0⟩|⟨g,cap,cur,hv',hbg,hg,hnc,hcm,hcs,htake⟩
 ·rw[hn0,Nat.zero_mul] at hlen;omega
 ·injection hv' with hA hN hC
  have hle:s.n*z≤cur.size:=by rw[hcs];exact Nat.mul_le_mul_right _ hnc
  rw[hA,gA,ao_,Nat.zero_add]
  refine dW_ hg hinfo hq o_ h1 fun w1 hb1 hk1 hsz1=>?_
  refine h w1 ⟨by simp only[List.length_append,List.length_take,List.length_drop,Array.length_toList];omega,.inr ⟨g,cap,_,by rw[hA,hC],hbg,hb1,hnc,hcm,?_,?_⟩⟩ (hk1.mono fun k _ q=>by simp[Sl.blk,hA,q]) hsz1
  ·simp only[List.size_toArray,List.length_append,List.length_take,List.length_drop,Array.length_toList];omega
  ·have hF:cur.toList.take (s.n*z)=vs:=htake
   have hl:vs.length=s.n*z:=hlen
   rw[←hF]
   apply List.ext_getElem?
   intro j
   simp only[List.getElem?_take,List.getElem?_append,List.length_append,List.length_take,Array.length_toList,List.getElem?_drop]
   have e1:min o cur.size=o:=o_
   have e2:min o (min (s.n*z) cur.size)=o:=o_
   simp only[e1,e2]
   by_cases q1:j<o
   ·have q2:j<o+cells.size:=o_
    have q3:j<s.n*z:=o_
    simp only[if_pos q1,if_pos q2,if_pos q3]
   ·by_cases q2:j<o+cells.size
    ·have q3:j<s.n*z:=o_
     simp only[if_neg q1,if_pos q2,if_pos q3]
    ·by_cases q3:j<s.n*z
     ·have q4:o+cells.size+(j-(o+cells.size))<s.n*z:=o_
      simp only[if_neg q2,if_pos q3,if_pos q4]
     ·have q4:¬o+cells.size+(j-(o+cells.size))<s.n*z:=o_
      simp only[if_neg q2,if_neg q3,if_neg q4]
theorem bU_ (l:List Bk):(l.flatMap bc).length=l.length*19:=bv_ bN_ l
theorem yw_ {l:List Bk} {j:Nat} {b:Bk} (hj:j<l.length) (hd:b.d=l[j].d):(l.flatMap bc).take (j*19+16)++tc b.g b.a b.r++(l.flatMap bc).drop (j*19+16+3)=(l.set j b).flatMap bc:=by
 have e:l=l.take j++l[j]::l.drop (j+1):=by rw[List.getElem_cons_drop,List.take_append_drop]
 have hA:((l.take j).flatMap bc).length=j*19:=by rw[bU_,List.length_take,Nat.min_eq_left o_]
 have hl:l.flatMap bc=(l.take j).flatMap bc++(bc l[j]++(l.drop (j+1)).flatMap bc):=by
  conv=>lhs;rw[e]
  rw[List.flatMap_append,List.flatMap_cons]
 have hs:(l.set j b).flatMap bc=(l.take j).flatMap bc++(bc b++(l.drop (j+1)).flatMap bc):=by
  rw[List.set_eq_take_append_cons_drop,if_pos hj,List.flatMap_append,List.flatMap_cons]
 have hb:bc b=bv l[j].d++tc b.g b.a b.r:=by unfold bc tc;rw[hd]
 have t1:((l.take j).flatMap bc++(bc l[j]++(l.drop (j+1)).flatMap bc)).take (j*19+16)=(l.take j).flatMap bc++bv l[j].d:=by
  rw[←hA,List.take_length_add_append,List.take_append_of_le_length (by rw[bN_];omega),rp_]
 have t2:((l.take j).flatMap bc++(bc l[j]++(l.drop (j+1)).flatMap bc)).drop (j*19+16+3)=(l.drop (j+1)).flatMap bc:=by
  rw[Nat.add_assoc,←hA,List.drop_length_add_append]
  have:16+3=(bc l[j]).length:=by rw[bN_]
  rw[this,List.drop_left]
 rw[hl,hs,t1,t2,hb]
 simp
open Go CF
def mk1 (kind lba:Nat) (b:Bk):Bk:=mkB kind lba b.d b.hd
def ex_ (kind lba:Nat) (U:List Bk):Nat→List Bk
 | 0=>U
 | j+1=>(ex_ kind lba U j).set j (mk1 kind (lba+j) (U.getD j dD_))
theorem lX_ (kind lba:Nat) (U:List Bk):∀j,(ex_ kind lba U j).length=U.length
 | 0=>rfl
 | j+1=>by simp[ex_,lX_ kind lba U j]
theorem tt_ (kind lba:Nat) (U:List Bk):∀(j i:Nat) (hi:i<U.length),(ex_ kind lba U j)[i]'(by rw[lX_];exact hi)=if i<j then mk1 kind (lba+i) U[i] else U[i]
 | 0,i,hi=>by rw[if_neg o_];rfl
 | j+1,i,hi=>by
  have ih:=tt_ kind lba U j i hi
  simp only[ex_,List.getElem_set]
  by_cases e:j=i
  ·subst e
   rw[if_pos rfl,if_pos o_,List.getD_eq_getElem?_getD,List.getElem?_eq_getElem hi];rfl
  ·rw[if_neg e,ih]
   by_cases q:i<j
   ·rw[if_pos q,if_pos o_]
   ·rw[if_neg q,if_neg o_]
theorem xc_ (kind lba:Nat) (b:Bk):tc (mk1 kind lba b).g (mk1 kind lba b).a (mk1 kind lba b).r=tc (c16 b.d) 0 (mkR kind lba):=rfl
theorem sp_ {w:World} {dv ps kind:Nat} {c:Cm} {p:Sl} {l:L8} {N:Nat} {R:Sl→A_→Bool→W_} (hd:Blk w dv (dm_ ps kind) bV_) (hp:Rd w 1 p (bv l)) (hb:p.n≤140737488351232) (hlba:c.lba≤4096) (hN:N≤4096)
  (h1:(l.length%szB (decide (c.prot≠0))≠0∨l.length/szB (decide (c.prot≠0))≠N)→∀u,ab_ w u→R au_ (rsv 2 (ci_ 0x1a00) au_).toArray false u)
  (h2:l.length%16=0→l.length/16=N→c.prot=0→∀xs u,ab_ w u→Own u w.heap.size av_ 19 xs ((ex_ kind c.lba (bE_ false l) N).flatMap bc)→R xs (rsv 0 sn0 au_).toArray true u)
  (h3:l.length%24=0→l.length/24=N→c.prot≠0→(∀i (hi:i<(bE_ true l).length),dY_ kind c.prot (c.lba+i) (bE_ true l)[i]=0)→∀xs u,ab_ w u→Own u w.heap.size av_ 19 xs ((bE_ true l).flatMap bc)→R xs (rsv 0 sn0 au_).toArray true u)
  (h4:l.length%24=0→l.length/24=N→c.prot≠0→∀i (hi:i<(bE_ true l).length),dY_ kind c.prot (c.lba+i) (bE_ true l)[i]≠0→(∀j (hj:j<i),dY_ kind c.prot (c.lba+j) ((bE_ true l)[j]' o_)=0)→∀u,ab_ w u→
   R au_ (rsv 2 (atS 11 (dY_ kind c.prot (c.lba+i) (bE_ true l)[i]) (c.lba+i)) au_).toArray false u) :
  cT_ (some ⟨dv,0,none⟩) (cmv c).toArray p (N:Int) w R:=by
 refine h1_.calls _ _ _ _ _ _ ?_
 refine ag_ fun cb w0 hcb hb0 hg0 hsz0=>?_
 have hb0:Blk w0 cb (cmv c).toArray az_:=hb0
 refine ag_ fun ab w1 hab hb1 hg1 hsz1=>?_
 have hgw1:=hg0.trans hg1
 have hc1:Blk w1 cb (cmv c).toArray az_:=hg1.heap hb0 (fun q=>q)
 refine⟨(c.prot:Int),by rw[ao_,hc1.cell];rfl,?_⟩
 have ew:((c.prot:Int) != 0)=decide (c.prot≠0):=by rw[Bool.eq_iff_iff,bne_iff_ne,decide_eq_true_eq];omega
 rw[ew]
 generalize hwt:decide (c.prot≠0)=wt at *
 have hd1:=hgw1.heap hd (fun q=>q)
 have hln:=b4_ hp
 refine jN_ (hp.grow hgw1) hb (fun q=>al_ rfl (hF_ fun w2 hg2=>aW_ (hg2.heap hb1 (fun q=>q)) rfl fun w3 hk3=>h1 (.inl q) w3 (bY_ (hgw1.trans hg2) o_ hk3))) fun hm xs w2 hg2 hown2=>?_
 have hgw2:=hgw1.trans hg2
 have hUl:(bE_ wt l).length=l.length/szB wt:=gX_ wt l
 have hs16:16≤szB wt:=by unfold szB;split<;>decide
 have hdiv:l.length/szB wt≤l.length:=Nat.div_le_self _ _
 have hown2:Own w2 w.heap.size av_ 19 xs ((bE_ wt l).flatMap bc):=hown2.mono hgw1.size
 have hxn:xs.n=(bE_ wt l).length:=by have:=hown2.len;rw[bU_] at this;omega
 rw[bZ_ (n:=(xs.n:Int)) o_ o_]
 have hb2:Blk w2 ab _ aa_:=hg2.heap hb1 (fun q=>q)
 by_cases hN':l.length/szB wt=N
 case neg=>
  refine al_ (by rw[Bool.or_eq_true,bne_iff_ne];right;omega) (hF_ fun w3 hg3=>aW_ (hg3.heap hb2 (fun q=>q)) rfl fun w4 hk4=>h1 (.inr hN') w4 (bY_ (hgw2.trans hg3) o_ hk4))
 refine ai_ (by rw[Bool.or_eq_false_iff,bne_eq_false_iff_eq];exact⟨rfl,o_⟩) ?_
 generalize hU:bE_ wt l=U at *
 have hc2:Blk w2 cb (cmv c).toArray az_:=hg2.heap hc1 (fun q=>q)
 have hd2:Blk w2 dv (dm_ ps kind) bV_:=hg2.heap hd1 (fun q=>q)
 have c2:∀{v:World},Blk v cb (cmv c).toArray az_→v.cell? ((⟨cb,0,none⟩:Addr).add 2)=some (.int .u64 (c.lba:Int)):=fun q=>by rw[ao_,q.cell];rfl
 have c6:∀{v:World},Blk v cb (cmv c).toArray az_→v.cell? ((⟨cb,0,none⟩:Addr).add 6)=some (.int .u8 (c.prot:Int)):=fun q=>by rw[ao_,q.cell];rfl
 have xblk:∀{v:World} {L:List Bk},Own v w.heap.size av_ 19 xs (L.flatMap bc)→∀{b:Nat} {cs:A_} {t:TypeId},Blk v b cs t→t≠av_→xs.blk≠some b:=fun ho b cs t hbb ht=>bd_ ho hbb ht
 refine⟨fun x v=>∃j:Nat,x=j∧j≤U.length∧ab_ w v∧Blk v cb (cmv c).toArray az_∧Blk v dv (dm_ ps kind) bV_∧Blk v ab _ aa_∧
   ((wt=false∧Own v w.heap.size av_ 19 xs ((ex_ kind c.lba U j).flatMap bc))∨(wt=true∧Own v w.heap.size av_ 19 xs (U.flatMap bc)∧∀i (hi:i<U.length),i<j→dY_ kind c.prot (c.lba+i) U[i]=0)),fun x _=>U.length-x.toNat,
  ⟨0,rfl,Nat.zero_le _,hgw2,hc2,hd2,hb2,by cases wt with
   | false=>exact .inl ⟨rfl,hown2⟩
   | true=>exact .inr ⟨rfl,hown2,fun _ _ q=>absurd q (Nat.not_lt_zero _)⟩⟩,?_⟩
 rintro x v ⟨j,rfl,hj,hgv,hcv,hdv,hav,hcase⟩
 refine ba_ (fun hlt=>?_) (fun hge=>?_)
 ·have hjU:j<U.length:=o_
  have e1:IntKind.wrap .u64 ((c.lba:Int)+IntKind.wrap .u64 (j:Int))=((c.lba+j:Nat):Int):=by
   rw[bZ_ (n:=(j:Int)) o_ o_,bZ_ o_ o_];omega
  rw[w64 (n:=(j:Int)+1) o_ o_]
  refine bR_ (fun y=>ab_ w y∧Blk y cb (cmv c).toArray az_∧Blk y dv (dm_ ps kind) bV_∧Blk y ab _ aa_∧
   ((wt=false∧Own y w.heap.size av_ 19 xs ((ex_ kind c.lba U (j+1)).flatMap bc))∨(wt=true∧Own y w.heap.size av_ 19 xs (U.flatMap bc)∧∀i (hi:i<U.length),i<j+1→dY_ kind c.prot (c.lba+i) U[i]=0)))
   (fun y hy=>⟨⟨j+1,o_,o_,hy⟩,by dsimp only;omega⟩) (fun J=>⟨(c.lba:Int),c2 hcv,?_⟩)
  rw[e1]
  rcases hcase with⟨hwf,hown⟩|⟨hwt',hown,hall⟩
  ·refine al_ (by rw[hwf];rfl) ?_
   rintro w3 rfl
   have hg3:ab_ v v.drew:=am_ v
   have hVl:(ex_ kind c.lba U j).length=U.length:=lX_ _ _ _ _
   have hVj:(ex_ kind c.lba U j)[j]' o_=U[j]:=by rw[tt_ _ _ _ _ _ hjU,if_neg o_]
   obtain⟨a0,ha0,hc0⟩:=jo_ (hown.rd o_) (i:=j) o_
   rw[hVj] at hc0
   have bnd:(0:Int)≤(j:Int)∧(j:Int)<(xs.n:Int)∧xs.A.isSome=true:=⟨o_,o_,by rw[ha0];rfl⟩
   refine⟨fun y=>ab_ v y,hg3,rfl,(kind:Int),fun y hy=>nF_ (hy.heap hdv (fun q=>q)),bnd,(bv U[j].d).toArray,fun y hy=>?_,?_⟩
   ·rw[ha0,Int.toNat_natCast]
    exact vO_ U[j].hd (nC_ (fun i x hx=>hy.cell (hc0 i x hx) (fun q=>q)))
   refine rQ_ (app:=0) U[j].hd fun w4 hg4=>⟨bnd,?_⟩
   have hg14:=hg3.trans hg4
   have hown4:=hown.grow hg14
   rw[Int.toNat_natCast,gI_]
   refine ur_ (o:=j*19+16) (cells:=(tc (c16 U[j].d) 0 (mkR kind (c.lba+j))).toArray) hown4 dQ_ rfl (by rw[bU_,hVl];show j*19+16+3≤_;omega) (by show 0<3;decide) (by intro q hq;simp[tc] at hq;rcases hq with rfl|rfl|rfl<;>rfl) fun w5 hown5 hk5 _=>?_
   have hfs:=yw_ (l:=ex_ kind c.lba U j) (j:=j) (b:=mk1 kind (c.lba+j) U[j]) o_ (by rw[hVj];rfl)
   rw[xc_] at hfs
   have hown5:Own w5 w.heap.size av_ 19 xs (((ex_ kind c.lba U j).flatMap bc).take (j*19+16)++tc (c16 U[j].d) 0 (mkR kind (c.lba+j))++((ex_ kind c.lba U j).flatMap bc).drop (j*19+16+3)):=hown5
   rw[hfs] at hown5
   have hnb:∀{b:Nat} {cs:A_} {t:TypeId},Blk w4 b cs t→t≠av_→Blk w5 b cs t:=fun hbb ht=>hk5.heap hbb fun q=>bd_ hown4 hbb ht q.symm
   refine J w5 ⟨cz_ (hgv.trans hg14) hown4 (Nat.le_refl _) hk5,hnb (hg14.heap hcv (fun q=>q)) d_,hnb (hg14.heap hdv (fun q=>q)) d_,hnb (hg14.heap hav (fun q=>q)) d_,.inl ⟨hwf,?_⟩⟩
   have e2:ex_ kind c.lba U (j+1)=(ex_ kind c.lba U j).set j (mk1 kind (c.lba+j) U[j]):=by
    simp only[ex_];rw[List.getD_eq_getElem?_getD,List.getElem?_eq_getElem hjU];rfl
   rw[e2];exact hown5
  ·refine ai_ (by rw[hwt'];rfl) ?_
   rintro w3 rfl
   have hg3:ab_ v v.drew:=am_ v
   obtain⟨a0,ha0,hc0⟩:=jo_ (hown.rd o_) hjU
   have bnd:(0:Int)≤(j:Int)∧(j:Int)<(xs.n:Int)∧xs.A.isSome=true:=⟨o_,o_,by rw[ha0];rfl⟩
   refine⟨fun y=>ab_ v y,hg3,rfl,(kind:Int),fun y hy=>nF_ (hy.heap hdv (fun q=>q)),(c.prot:Int),fun y hy=>c6 (hy.heap hcv (fun q=>q)),bnd,(bc U[j]).toArray,fun y hy=>?_,?_⟩
   ·rw[ha0,Int.toNat_natCast]
    exact nD_ (fun i x hx=>hy.cell (hc0 i x hx) (fun q=>q))
   refine ov_ fun w4 hg4=>?_
   have hg14:=hg3.trans hg4
   subst hwt'
   have hp0:c.prot≠0:=by simpa using hwt
   by_cases hz:dY_ kind c.prot (c.lba+j) U[j]=0
   ·refine ai_ (by rw[hz];rfl) (J w4 ⟨hgv.trans hg14,hg14.heap hcv (fun q=>q),hg14.heap hdv (fun q=>q),hg14.heap hav (fun q=>q),.inr ⟨rfl,hown.grow hg14,fun i hi q=>?_⟩⟩)
    by_cases e:i=j
    ·subst e;exact hz
    ·exact hall i hi o_
   ·refine al_ (by rw[bne_iff_ne];omega) (ge_ (key:=11) fun w5 hg5=>?_)
    refine aW_ ((hg14.trans hg5).heap hav (fun q=>q)) rfl fun w6 hk6=>?_
    subst hU
    exact h4 hm hN' hp0 j hjU hz (fun i hi=>hall i o_ hi) w6 (bY_ ((hgv.trans hg14).trans hg5) o_ hk6)
 ·have hjn:j=U.length:=o_
  refine aW_ (st:=0) (s:=sn0) (d:=au_) hav rfl fun w3 hk3=>?_
  have hg3:=bY_ hgv o_ hk3
  have ok:∀{L:List Bk},Own v w.heap.size av_ 19 xs (L.flatMap bc)→Own w3 w.heap.size av_ 19 xs (L.flatMap bc):=fun ho=>ho.keep hk3 fun b hb q=>bd_ ho hav d_ (by rw[hb,q])
  rcases hcase with⟨hwf,hown⟩|⟨hwt',hown,hall⟩
  ·subst hwf
   have hp0:c.prot=0:=by simpa using hwt
   subst hU
   rw[hjn,hUl,hN'] at hown
   exact h2 hm hN' hp0 xs w3 hg3 (ok hown)
  ·subst hwt'
   have hp0:c.prot≠0:=by simpa using hwt
   subst hU
   exact h3 hm hN' hp0 (fun i hi=>hall i hi o_) xs w3 hg3 (ok hown)
open Go CF
def z10:A_:=#[.int .u8 0,.int .u8 0,.int .u16 0,.int .u64 0,.bool false,.int .i64 0,.int .i64 0,.bool false,.bool false,.slice none 0 0]
def yx_:Sn:=⟨5,0x2400,0,false,1,7,true,true⟩
def yy_:Sn:=⟨5,0x2000,0,false,0,7,true,true⟩
section
variable {w u:World} {dv ps pw:Nat} {file:ByteArray} {kind n:Nat} {cache:Bool} {D D':Nat→Prop} {st st':Wst} {bs bs':List Bk} {m m':Nat}
theorem Dvq.put {F:Int→Bool} (h:Dvq w dv ps pw file kind n cache D st bs m F) {ab:Nat} {cs:A_} {t:TypeId} (hb:Blk w ab cs t) (h1:t≠ae_) (h2:t≠bV_) (h3:t≠ki_) (hn:¬D ab) (hk:ac_ (fun k=>k=ab) w u) :
  Dvq u dv ps pw file kind n cache D st bs m F:=by
 refine⟨hk.heap h.dev fun q=>?_,hk.heap h.isS fun q=>?_,nG_ h.isW hb h1 hn hk,h.nps,h.ndv,h.ok,h.tells,h.len,h.size,h.nm,h.kd,h.few⟩
 ·have hd:=h.dev
  rw[q] at hd
  exact h2 (bj_ hb hd)
 ·have hd:=h.isS
  rw[q] at hd
  exact h3 (bj_ hb hd)
def wfS:Sn:=⟨3,0x0c00,0,false,0,0,false,false⟩
theorem vT_ {kind prot:Nat} {w:World} {R:Bool→W_} (h:R (ou_ kind prot) w):og_ (kind:Int) (prot:Int) w R:=by
 refine j5_.calls _ _ _ _ ?_
 have e:(decide ((kind:Int)≤3)&&(((prot:Int)==0)||(decide ((kind:Int)>0)&&decide ((prot:Int)≤4))))=ou_ kind prot:=by
  unfold ou_
  rw[Bool.eq_iff_iff]
  simp only[Bool.and_eq_true,Bool.or_eq_true,decide_eq_true_eq,beq_iff_eq]
  omega
 unfold j5_
 rw[e]
 exact h
end
open Go CF
def d9_ (X Y:L8):Option Nat:=(List.range X.length).find? fun i=>decide (X.getD i 0≠Y.getD i 0)
def dif (X Y:L8):Int:=match d9_ X Y with|some i=>(i:Int)|none=>-1
theorem tu_ {X Y:L8} (h:∀i,i<X.length→X.getD i 0=Y.getD i 0):d9_ X Y=none:=by
 unfold d9_
 rw[List.find?_eq_none]
 intro i hi
 rw[h i (List.mem_range.1 hi)];simp
theorem tv_ {X Y:L8} {i:Nat} (hi:i<X.length) (h:∀j,j<i→X.getD j 0=Y.getD j 0) (hne:X.getD i 0≠Y.getD i 0):d9_ X Y=some i:=by
 unfold d9_
 rw[List.find?_eq_some_iff_append]
 refine⟨by simpa using hne,List.range i,(List.range (X.length-i-1)).map (fun k=>i+1+k),?_,fun j hj=>?_⟩
 ·have e:X.length=i+(1+(X.length-i-1)):=o_
  conv=>lhs;rw[e,List.range_add,List.range_add]
  simp[List.map_map,Nat.add_assoc,Function.comp_def]
 ·have:=h j (List.mem_range.1 hj)
  rw[decide_eq_false (by simpa using this)];rfl
theorem tw_ {X Y:L8} (h:d9_ X Y=none):dif X Y = -1:=by unfold dif;rw[h]
theorem tx_ {X Y:L8} {i:Nat} (h:d9_ X Y=some i):dif X Y=(i:Int):=by unfold dif;rw[h]
theorem bS_ {w:World} {s:Sl} {l:L8} (h:Rd w 1 s (bv l)) {i:Nat} (hi:i<l.length):s.A.isSome=true∧w.cell? ((gA s.A).add (i*1))=some (.int .u8 ((l.getD i 0).toNat:Int)):=by
 obtain⟨a,ha,hc⟩:=h.byte (i:=i) (by rw[←b4_ h];exact hi)
 rw[ha]
 refine⟨rfl,?_⟩
 rw[List.getD_eq_getElem?_getD,List.getElem?_eq_getElem hi]
 exact hc
theorem pt_ {a b:Sl} {A B:List Bk} {w:World} {R:Int→W_} (ha:Rd w 19 a (A.flatMap bc)) (hb:Rd w 19 b (B.flatMap bc)) (hA:A.length≤4096) (hB:B.length≤4096) (hl:A.length≤B.length)
  (h:∀u,ab_ w u→R (dif (b3_ false A) (b3_ false B)) u):f8_ a b w R:=by
 refine jJ_.calls _ _ _ _ ?_
 refine ow_ ha hA fun s1 w1 hown1 hg1=>?_
 refine ow_ (hb.grow hg1) hB fun s2 w2 hown2 hg2=>?_
 have hXl:=iz_ false A
 have hYl:=iz_ false B
 have e16:szB false=16:=rfl
 rw[e16] at hXl hYl
 generalize b3_ false A=X at *
 generalize b3_ false B=Y at *
 have hr1:∀v,ab_ w2 v→Rd v 1 s1 (bv X):=fun v hv=>((hown1.grow hg2).grow hv).rd (by rw[cY_ hown1];omega)
 have hr2:∀v,ab_ w2 v→Rd v 1 s2 (bv Y):=fun v hv=>(hown2.grow hv).rd (by rw[cY_ hown2];omega)
 have hn1:=cY_ hown1
 have hn2:=cY_ hown2
 refine⟨fun x v=>∃j:Nat,x=j∧j≤X.length∧ab_ w2 v∧∀i,i<j→X.getD i 0=Y.getD i 0,fun x _=>X.length-x.toNat,⟨0,rfl,Nat.zero_le _,ac_.refl _ _,fun _ q=>absurd q (Nat.not_lt_zero _)⟩,?_⟩
 rintro x v ⟨j,rfl,hj,hgv,hall⟩
 refine ba_ (fun hlt=>?_) (fun hge=>?_)
 ·have hjX:j<X.length:=o_
  have hjY:j<Y.length:=o_
  rintro w3 rfl
  have hg3:ab_ w2 v.drew:=hgv.trans (am_ v)
  refine⟨fun y=>ab_ w2 y,hg3,⟨o_,o_,(bS_ (hr1 v hgv) hjX).1⟩,_,fun y hy=>by rw[Int.toNat_natCast];exact(bS_ (hr1 y hy) hjX).2,⟨o_,o_,(bS_ (hr2 v hgv) hjY).1⟩,_,fun y hy=>by rw[Int.toNat_natCast];exact(bS_ (hr2 y hy) hjY).2,?_⟩
  refine eR_ (fun q=>?_) (fun q=>?_)
  ·have:=h v.drew ((hg1.trans hg2).trans hg3)
   unfold dif at this
   rw[tv_ hjX hall (fun e=>q (by rw[e]))] at this
   exact this
  ·rw[w64 o_ o_]
   refine⟨⟨j+1,o_,o_,hg3,fun i hi=>?_⟩,by dsimp only;omega⟩
   by_cases e:i=j
   ·subst e;exact UInt8.toNat_inj.1 o_
   ·exact hall i o_
 ·have:=h v ((hg1.trans hg2).trans hgv)
  unfold dif at this
  rw[tu_ (fun i hi=>hall i o_)] at this
  exact this
section
variable {w u:World} {dv ps pw:Nat} {file:ByteArray} {kind n:Nat} {cache:Bool} {D D':Nat→Prop} {st st':Wst} {bs bs':List Bk} {m m':Nat}
end
open Go CF
section
variable {w u v:World} {dv ps pw:Nat} {file:ByteArray} {kind n:Nat} {cache:Bool} {D D':Nat→Prop} {st st':Wst} {bs bs':List Bk} {m m':Nat} {ls:List (Nat×List Value×TypeId)} {rows:List (Sl×L8)}
end
open Go CF
theorem u5_ {p:Sl} {l:L8} {at_ n:Nat} {w:World} {R:Int→Int→W_} (hp:Rd w 1 p (bv l)) (hb:p.n≤140737489403904) (hn:1≤n) (hn8:n≤8) (ha:at_≤140737489403904)
  (h:R ((if at_+n≤l.length then num ((l.drop at_).take n) else 0:Nat):Int) (if at_+n≤l.length then 0 else 4) w):bJ_ p (at_:Int) (n:Int) w R:=by
 by_cases q:at_+n≤l.length
 ·rw[if_pos q,if_pos q] at h
  exact bX_ hp hb hn hn8 q h
 ·rw[if_neg q,if_neg q] at h
  have hln:=b4_ hp
  refine mN_.calls _ _ _ _ _ (iy_.calls _ _ _ _ _ ?_)
  have e1:IntKind.wrap .i64 ((p.n:Int)-(n:Int))=(p.n:Int)-(n:Int):=w64 o_ o_
  refine ai_ (by rw[Bool.or_eq_false_iff,decide_eq_false_iff_not,decide_eq_false_iff_not];omega) (al_ (by rw[Bool.or_eq_true,decide_eq_true_eq,decide_eq_true_eq,e1];omega) (al_ rfl h))
def d5_ (l:L8) (j:Nat):Nat:=num ((l.drop (8+16*j)).take 8)
def fS_ (l:L8) (j:Nat):Nat:=num ((l.drop (8+16*j+8)).take 4)
def gg_ (l:L8):Nat→Nat
 | 0=>0
 | j+1=>gg_ l j+fS_ l j
theorem rS_ (l:L8) {i j:Nat} (h:i≤j):gg_ l i≤gg_ l j:=by
 induction j with
 | zero=>rw[Nat.le_zero.1 h];exact Nat.le_refl _
 | succ j ih=>
  rcases Nat.lt_or_ge i (j+1) with q|q
  ·have:=ih o_;simp only[gg_];omega
  ·have:i=j+1:=o_
   rw[this];exact Nat.le_refl _
theorem zS_ (l:L8) (j:Nat):fS_ l j<4294967296:=eL_ _ 4
theorem zT_ (l:L8) (j:Nat):d5_ l j<18446744073709551616:=eL_ _ 8
section
variable {w u:World} {dv ps pw:Nat} {file:ByteArray} {kind n:Nat} {cache:Bool} {D D':Nat→Prop} {st st':Wst} {bs bs':List Bk} {m m':Nat}
end
open Go CF
def z16:L8:=[0,0,0,0,0,0,0,0,0,0,0,0,0,0,0,0]
def Bi_ (b:Bk) (r:Nat):Bk:=⟨b.d,b.g,b.a,r%4294967296,b.hd,b.hg,b.ha,o_⟩
def kP_ (kind:Nat) (c:Cm) (b0:Bk) (i:Nat):Bk:=if c.prot=0 then mk1 kind (c.lba+i) b0 else if kind=1∨kind=2 then Bi_ b0 (c.lba+i) else b0
def f3_ (kind:Nat) (c:Cm) (b0:Bk) (N:Nat):List Bk:=(List.range N).map (kP_ kind c b0)
theorem nI_ (kind:Nat) (c:Cm) (b0:Bk) (N:Nat):(f3_ kind c b0 N).length=N:=by simp[f3_]
theorem us_ (kind:Nat) (c:Cm) (b0:Bk) (N:Nat):f3_ kind c b0 (N+1)=f3_ kind c b0 N++[kP_ kind c b0 N]:=by simp[f3_,List.range_succ]
theorem sq_:gl_ Tryz.prog 8 fL_=some (List.replicate 16 (.i .u8)):=k_
theorem ut_:kd Tryz.prog fL_=.ag:=k_
theorem uu_:Tryz.prog.eqGuardType Tryz.prog.depth fL_=false:=k_
theorem Bu_ {x y:Operand} (a b:L8) (ha:a.length=16) (hb:b.length=16):∃r:Bool,(r=true↔a=b)∧∀w,(do eqGuard .eql fL_ x y (.agg (bv a).toArray) (.agg (bv b).toArray);binOp .eql fL_ (.agg (bv a).toArray) (.agg (bv b).toArray):Sem Value).run Tryz.prog w=.ok (.bool r) w:=by
 obtain⟨r,h1,h2⟩:=td_ (x:=x) (y:=y) sq_ ut_ uu_ (om_ a 16 ha) (om_ b 16 hb)
 exact⟨r,h1.trans ⟨AJ_,fun h=>by rw[h]⟩,h2⟩
def lY_ (n:Nat) (c:Cm):Nat:=if c.blocks=0 then n-c.lba else c.blocks
section
variable {w u:World} {dv ps pw:Nat} {file:ByteArray} {kind n:Nat} {cache:Bool} {D D':Nat→Prop} {st st':Wst} {bs bs':List Bk} {m m':Nat}
end
open Go CF
theorem kY_ (w:World):Rd w 1 au_ (bv []):=wQ_ w 1
theorem uv_ {key code:Nat} {w:World} {R:A_→W_} (h:∀w',ab_ w w'→R (rsv 2 ⟨key,code,0,false,0,0,false,false⟩ au_).toArray w'):bl_ (key:Int) (code:Int) w R:=by
 refine e1_.calls _ _ _ _ ?_
 refine ag_ fun ab w1 hab hb1 hg1 hsz1=>⟨(rsv 2 ⟨key,code,0,false,0,0,false,false⟩ au_).toArray,k_,?_⟩
 exact aW_ hb1 rfl fun w2 hk2=>h w2 (bY_ hg1 o_ hk2)
def kSn:List Kd:=[.i .u8,.i .u16,.i .u64,.b,.i .i64,.i .i64,.b,.b]
theorem rq_:gl_ Tryz.prog 8 ak_=some kSn:=k_
theorem ty_:kd Tryz.prog ak_=.ag:=k_
theorem tz_:Tryz.prog.eqGuardType Tryz.prog.depth ak_=false:=k_
theorem u6_ (s:Sn):bk_ kSn (snv s):=⟨rfl,rfl,rfl,rfl,rfl,rfl,rfl,rfl,trivial⟩
theorem rT_ {w:World} {b:Nat} {s:Nat} {sn:Sn} {d:Sl} (h:Blk w b (rsv s sn d).toArray aa_):bQ_ w ((⟨b,0,none⟩:Addr).add 1) (snv sn):=fun j v hj=>by
 rw[gI_]
 refine ar_ h (1+j) v ?_
 have:j<8:=(List.getElem?_eq_some_iff.1 hj).1
 unfold rsv
 rw[List.append_assoc,List.getElem?_append_right (by simp),show 1+j - [Value.int .u8 (s:Int)].length=j by simp,List.getElem?_append_left (by exact this)]
 exact hj
theorem pu_ {s:Nat} {sn:Sn} {d1 d2:Sl} {l:L8} {w:World} {R:Bool→W_} (h1:Rd w 1 d1 (bv l)) (h2:Rd w 1 d2 (bv l)) (h:∀w',ab_ w w'→R true w'):aQ_ (rsv s sn d1).toArray (rsv s sn d2).toArray w R:=by
 refine e0_.calls _ _ _ _ ?_
 refine ag_ fun ab w1 hab hb1 hg1 hsz1=>?_
 refine ag_ fun bb w2 hbb hb2 hg2 hsz2=>?_
 have hb1:Blk w2 ab (rsv s sn d1).toArray aa_:=hg2.heap hb1 (fun q=>q)
 have hb2:Blk w2 bb (rsv s sn d2).toArray aa_:=hb2
 obtain⟨r,hr,hrun⟩:=td_ (x:=.tmp 12) (y:=.tmp 14) rq_ ty_ tz_ (u6_ sn) (u6_ sn)
 have hr1:r=true:=hr.2 rfl
 subst hr1
 have g:=hg1.trans hg2
 refine⟨(s:Int),by rw[ao_,hb1.cell];rfl,(s:Int),by rw[ao_,hb2.cell];rfl,(snv sn).toArray,fun _=>dM_ (rT_ hb1),(snv sn).toArray,fun _=>dM_ (rT_ hb2),true,fun _=>hrun w2,d1,fun _=>by rw[ao_,hb1.cell];rfl,str l,
  fun _=>gK_ aE_ hc_ eJ_ (h1.grow g),d2,fun _=>by rw[ao_,hb2.cell];rfl,str l,fun _=>gK_ aE_ hc_ eJ_ (h2.grow g),?_⟩
 have:=h w2 g
 simpa [mG_] using this
open Go CF
section
variable {w u u' v v':World} {dv ps pw:Nat} {file:ByteArray} {kind n:Nat} {cache:Bool} {D D':Nat→Prop} {st st':Wst} {bs bs':List Bk} {m m':Nat} {ls:List (Nat×List Value×TypeId)} {rows:List (Sl×L8)}
end
open Go CF
section
variable {w u u' v v':World} {dv ps pw:Nat} {file:ByteArray} {kind n:Nat} {cache:Bool} {D D':Nat→Prop} {st st':Wst} {bs bs':List Bk} {m m':Nat} {ls:List (Nat×List Value×TypeId)} {rows:List (Sl×L8)}
end
open Go CF
theorem i1_ {n:Nat} {p:Nat→Bool} (h:∀i,i<n→p i=false):(List.range n).find? p=none:=by
 rw[List.find?_eq_none]
 intro i hi
 rw[h i (List.mem_range.1 hi)];simp
theorem i2_ {n i:Nat} {p:Nat→Bool} (hi:i<n) (h:∀j,j<i→p j=false) (hp:p i=true):(List.range n).find? p=some i:=by
 rw[List.find?_eq_some_iff_append]
 refine⟨hp,List.range i,(List.range (n-i-1)).map (fun k=>i+1+k),?_,fun j hj=>?_⟩
 ·have e:n=i+(1+(n-i-1)):=o_
  conv=>lhs;rw[e,List.range_add,List.range_add]
  simp[List.map_map,Nat.add_assoc,Function.comp_def]
 ·rw[h j (List.mem_range.1 hj)];rfl
def gC_ (F:Int→Bool) (o n:Nat):Option Nat:=(List.range n).find? fun k=>F ((o+k:Nat):Int)
theorem ho_ {F:Int→Bool} {o n:Nat} (h:∀i:Nat,i<n→F ((o+i:Nat):Int)=false):gC_ F o n=none:=i1_ h
theorem i3_ {F:Int→Bool} {o n k:Nat} (hk:k<n) (h:∀i:Nat,i<k→F ((o+i:Nat):Int)=false) (hf:F ((o+k:Nat):Int)=true):gC_ F o n=some k:=i2_ hk h hf
theorem uw_ (o n:Nat):gC_ dl_ o n=none:=ho_ fun _ _=>rfl
structure RsX where
 st:Nat
 sn:Sn
 d:L8
def okX (d:L8):RsX:=⟨0,sn0,d⟩
def snX (s:Sn):RsX:=⟨2,s,[]⟩
def sA_ (kind prot lba:Nat) (L:List Bk):Option Nat:=(List.range L.length).find? fun i=>decide (dY_ kind prot (lba+i) (L.getD i dD_)≠0)
def sB_ (kind prot lba:Nat) (L:List Bk) (i:Nat):Sn:=atS 11 (dY_ kind prot (lba+i) (L.getD i dD_)) (lba+i)
theorem mS_ {L:List Bk} {i:Nat} (hi:i<L.length):L.getD i dD_=L[i]:=by rw[List.getD_eq_getElem?_getD,List.getElem?_eq_getElem hi];rfl
theorem qt_ {kind prot lba:Nat} {L:List Bk} (h:∀i (hi:i<L.length),dY_ kind prot (lba+i) L[i]=0):sA_ kind prot lba L=none:=
 i1_ fun i hi=>by rw[mS_ hi,h i hi];rfl
theorem qu_ {kind prot lba i:Nat} {L:List Bk} (hi:i<L.length) (hz:dY_ kind prot (lba+i) L[i]≠0) (h:∀j (hj:j<i),dY_ kind prot (lba+j) (L[j]' o_)=0):sA_ kind prot lba L=some i:=
 i2_ hi (fun j hj=>by rw[mS_ o_,h j hj];rfl) (by rw[mS_ hi,decide_eq_true_eq];exact hz)
def h8_ (F:Int→Bool) (kind prot lba n o:Nat) (L:List Bk):Except Sn (List Bk)×Nat:=
 match gC_ F o n with
 | some k=>(.error (atS 3 0x1100 (lba+k)),k+1)
 | none=>match sA_ kind prot lba L with
  | some i=>(.error (sB_ kind prot lba L i),n)
  | none=>(.ok L,n)
def kQ_ (kind:Nat) (c:Cm) (l:L8) (N:Nat):Except Sn (List Bk):=
 if l.length%szB (decide (c.prot≠0))≠0∨l.length/szB (decide (c.prot≠0))≠N then .error (ci_ 0x1a00)
 else if c.prot=0 then .ok (ex_ kind c.lba (bE_ false l) N)
 else match sA_ kind c.prot c.lba (bE_ true l) with
  | some i=>.error (sB_ kind c.prot c.lba (bE_ true l) i)
  | none=>.ok (bE_ true l)
def mq_ (F:Int→Bool) (file:ByteArray) (cache:Bool) (st:Wst) (lba n:Nat) (rs:Nat→L8) (fua:Bool):Option Nat×Wst:=
 match gC_ F st.ops (n+(if cr_ n fua cache then 1 else 0)) with
 | some k=>(some k,{bO_ st file lba rs k with ops:=st.ops+k+1})
 | none=>(none,dX_ (cr_ n fua cache) (bO_ st file lba rs n))
def gY_ (lba:Nat) (x:Option Nat×Wst):RsX×Wst:=match x.1 with
 | some k=>(snX (atS 3 0x0c00 (lba+k)),x.2)
 | none=>(okX [],x.2)
def cA_ (F:Int→Bool) (file:ByteArray) (cache:Bool) (st:Wst) (lba:Nat) (L:List Bk) (fua:Bool):RsX×Wst:=gY_ lba (mq_ F file cache st lba L.length (dL_ L) fua)
def jq_ (F:Int→Bool) (file:ByteArray) (cache:Bool) (st:Wst) (lba n:Nat):Option Nat×Wst:=mq_ F file cache st lba n (fun _=>[0]) false
def more (st:Wst) (k:Nat):Wst:={st with ops:=st.ops+k}
def mT_ (F:Int→Bool) (kind:Nat) (st:Wst) (bs:List Bk) (c:Cm) (l:L8):RsX×Wst:=
 if c.bytes=true∧(l.length%szB (decide (c.prot≠0))≠0∨l.length/szB (decide (c.prot≠0))≠c.blocks) then(snX (ci_ 0x1a00),st)
 else match h8_ F kind c.prot c.lba c.blocks st.ops ((bs.drop c.lba).take c.blocks) with
  | (.error s,k)=>(snX s,more st k)
  | (.ok L,k)=>if c.bytes=true then(match d9_ (b3_ false L) (b3_ false (bE_ (decide (c.prot≠0)) l)) with
    | some i=>(snX (atS 14 0x1d00 i),more st k)
    | none=>(okX [],more st k)) else(okX [],more st k)
def qv_ (F:Int→Bool) (kind n:Nat) (cache:Bool) (file:ByteArray) (st:Wst) (c:Cm) (l:L8):RsX×Wst:=
 match kQ_ kind c l 1 with
 | .error s=>(snX s,st)
 | .ok L=>if c.unmap=true∧(L.getD 0 dD_).d=z16 then gY_ c.lba (jq_ F file cache st c.lba (lY_ n c)) else cA_ F file cache st c.lba (f3_ kind c (L.getD 0 dD_) (lY_ n c)) false
def ox_ (n:Nat) (l:L8) (j:Nat):Option Sn:=
 if n<d5_ l j+fS_ l j then some (atS 5 0x2100 (d5_ l j)) else if 256<gg_ l (j+1) then some ⟨5,0x2600,0,false,((8+16*j+8:Nat):Int),-1,true,false⟩ else none
def vU_ (n:Nat) (l:L8) (N:Nat):Option Sn:=(List.range N).findSome? (ox_ n l)
theorem mU_ {α:Type} {f:Nat→Option α} {a:α}:∀{N i:Nat},i<N→(∀j,j<i→f j=none)→f i=some a→(List.range N).findSome? f=some a:=by
 intro N i hi h ha
 have e:N=i+(1+(N-i-1)):=o_
 have h0:(List.range i).findSome? f=none:=by
  rw[List.findSome?_eq_none_iff]
  exact fun x hx=>h x (List.mem_range.1 hx)
 rw[e,List.range_add,List.range_add,List.findSome?_append,h0]
 simp[ha]
theorem jh_ {α:Type} {f:Nat→Option α} {N:Nat} (h:∀j,j<N→f j=none):(List.range N).findSome? f=none:=by
 rw[List.findSome?_eq_none_iff]
 exact fun x hx=>h x (List.mem_range.1 hx)
def jr_ (F:Int→Bool) (file:ByteArray) (cache:Bool) (st:Wst) (l:L8):Nat→Option Sn×Wst
 | 0=>(none,st)
 | k+1=>match jr_ F file cache st l k with
  | (some s,x)=>(some s,x)
  | (none,x)=>match jq_ F file cache x (d5_ l k) (fS_ l k) with
   | (some j,y)=>(some (atS 3 0x0c00 (d5_ l k+j)),y)
   | (none,y)=>(none,y)
theorem qw_ {F:Int→Bool} {file:ByteArray} {cache:Bool} {st x:Wst} {l:L8} {s:Sn} {k:Nat} (h:jr_ F file cache st l k=(some s,x)):∀j,jr_ F file cache st l (k+j)=(some s,x)
 | 0=>h
 | j+1=>by
  show jr_ F file cache st l ((k+j)+1)=_
  unfold jr_
  rw[qw_ h j]
def tA_ (l:L8):Prop:=8≤l.length∧num ((l.drop 0).take 2)=l.length-2∧num ((l.drop 2).take 2)=l.length-8∧(l.length-8)%16=0
instance (l:L8):Decidable (tA_ l):=by unfold tA_;infer_instance
def oy_ (F:Int→Bool) (n:Nat) (cache:Bool) (file:ByteArray) (st:Wst) (l:L8):RsX×Wst:=
 if l.length=0 then(okX [],st)
 else if ¬tA_ l then(snX (ci_ 0x1a00),st)
 else match vU_ n l ((l.length-8)/16) with
  | some s=>(snX s,st)
  | none=>match jr_ F file cache st l ((l.length-8)/16) with
   | (some s,x)=>(snX s,x)
   | (none,x)=>(okX [],x)
def li_ (F:Int→Bool) (kind:Nat) (cache:Bool) (file:ByteArray) (st:Wst) (bs:List Bk) (c:Cm) (l:L8):RsX×Wst:=
 if l.length≠2*(szB (decide (c.prot≠0))*c.blocks) then(snX (ci_ 0x1a00),st)
 else match kQ_ kind c (l.drop (szB (decide (c.prot≠0))*c.blocks)) c.blocks with
  | .error s=>(snX s,st)
  | .ok fresh=>match h8_ F kind c.prot c.lba c.blocks st.ops ((bs.drop c.lba).take c.blocks) with
   | (.error s,k)=>(snX s,more st k)
   | (.ok L,k)=>match d9_ (b3_ false L) (b3_ false (bE_ (decide (c.prot≠0)) (l.take (szB (decide (c.prot≠0))*c.blocks)))) with
    | some i=>(snX (atS 14 0x1d00 i),more st k)
    | none=>cA_ F file cache (more st k) c.lba fresh c.fua
def pY_ (kind n:Nat) (c:Cm):L8:=
 if c.long=false then lay (lay (List.replicate 8 0) 0 4 (n-1)) 4 4 16
 else((if 0<kind then(lay (lay (List.replicate 32 0) 0 8 (n-1)) 8 4 16).set 12 (UInt8.ofNat ((kind-1)*2+1)) else lay (lay (List.replicate 32 0) 0 8 (n-1)) 8 4 16).set 14 128).take (min (max c.alloc 0) 32).toNat
def doX (F:Int→Bool) (kind n:Nat) (cache:Bool) (file:ByteArray) (st:Wst) (c:Cm) (l:L8):RsX×Wst:=
 if ou_ kind c.prot=false then(snX yx_,st)
 else if c.kind≠13∧c.kind≠6∧n<c.lba+c.blocks then(snX (atS 5 0x2100 c.lba),st)
 else if c.kind=7 then(match h8_ F kind c.prot c.lba c.blocks st.ops (((dd_ st file 0 n).drop c.lba).take c.blocks) with
  | (.error s,k)=>(snX s,more st k)
  | (.ok L,k)=>(okX (b3_ (decide (c.prot≠0)) L),more st k))
 else if c.kind=8∨c.kind=9 then(match kQ_ kind c l c.blocks with
  | .error s=>(snX s,st)
  | .ok L=>cA_ F file cache st c.lba L (c.fua||decide (c.kind=9)))
 else if c.kind=10 then mT_ F kind st (dd_ st file 0 n) c l
 else if c.kind=11 then(if F (st.ops:Int)=true then(snX wfS,more st 1) else(okX [],lh_ st))
 else if c.kind=12 then qv_ F kind n cache file st c l
 else if c.kind=13 then oy_ F n cache file st l
 else if c.kind=14 then li_ F kind cache file st (dd_ st file 0 n) c l
 else if c.kind=6 then(okX (pY_ kind n c),st)
 else(snX yy_,st)
section
variable {w u:World} {dv ps pw:Nat} {file:ByteArray} {kind n:Nat} {cache:Bool} {D D':Nat→Prop} {st st':Wst} {bs bs':List Bk} {m m':Nat} {F:Int→Bool}
def cJ_ (w:World) (dv ps pw:Nat) (file:ByteArray) (kind n:Nat) (cache:Bool) (D:Nat→Prop) (m:Nat) (F:Int→Bool) (X:RsX×Wst) (R:A_→W_):Prop:=
 ∀u D' bs' d,ac_ D w u→Dvq u dv ps pw file kind n cache D' X.2 bs' (m+9000) F→(∀k,D' k→D k∨w.heap.size≤k)→Own u w.heap.size ae_ 1 d (bv X.1.d)→R (rsv X.1.st X.1.sn d).toArray u
theorem cJ_.plain {X:RsX×Wst} {R:A_→W_} (h:cJ_ w dv ps pw file kind n cache D m F X R) (hd:X.1.d = []) {D':Nat→Prop} {bs':List Bk} (k:ac_ D w u) (hv:Dvq u dv ps pw file kind n cache D' X.2 bs' m' F) (hm:m'≤m+9000) (hD:∀k,D' k→D k∨w.heap.size≤k):R (rsv X.1.st X.1.sn au_).toArray u:=
 h u D' bs' au_ k (hv.mono hm) hD (by rw[hd];exact aG_ _ _ _ _)
theorem yz_ (h:Dvq w dv ps pw file kind n cache D st bs m F):dd_ st file 0 n=bs:=by
 have:=vM_ h.tells
 rw[h.len] at this;exact this
theorem Dvq.reads (h:Dvq w dv ps pw file kind n cache D st bs m F) (k:ac_ D w u) {j:Nat} (hr:RdW w u pw D st j):Dvq u dv ps pw file kind n cache D (more st j) bs (m+j) F:=
 h.step k (hr.isWq h.isW) (fun _ q=>.inl q) h.ok h.tells h.len ⟨by show st.ops+j≤_;have:=h.few;omega,by show st.waits.length≤_;have:=h.few;omega⟩
end
end Go.Proofs.YtpmebahhjgkflaaGreatDoor
