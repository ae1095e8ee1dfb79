import Derived.MapKept
import Derived.Laws.CopyRow
import Derived.Laws.IdiomCopy
import Derived.Test.YtpmebahhjgkflaaGreatDoorProg
import Derived.Test.YtpmebahhjgkflaaGreatDoorB1
set_option maxHeartbeats 20000000
namespace Go.Proofs.YtpmebahhjgkflaaGreatDoor.CF
open Go Go.RowKit
set_option maxRecDepth 100000
def iS_ (es:List MapEntry):Prop:=∀e∈es,∃s,e.key=.string s
def fK_:List MapEntry→ByteArray→Nat→Option (Nat×Value)
 | [],_,_=>none
 | e::r,s,i=>match e.key with
  | .string t=>if s=t then some (i,e.val) else fK_ r s (i+1)
  | _=>fK_ r s (i+1)
def iG_ (es:List MapEntry) (s:ByteArray):Option Value:=(fK_ es s 0).map (·.2)
theorem nu_ {s:ByteArray}:∀{es:List MapEntry} (i:Nat),iS_ es→Instr.findNow .string (.string s) es i=some (fK_ es s i)
 | [],_,_=>rfl
 | e::r,i,h=>by
  obtain⟨t,ht⟩:=h e (by simp)
  have ih:=nu_ (s:=s) (i+1) (fun x hx=>h x (by simp[hx]):iS_ r)
  unfold Instr.findNow fK_
  rw[ht]
  simp only[Instr.sameNow]
  by_cases e:s=t
  ·have:(s==t)=true:=(MapKept.bytes_beq s t).2 e
   rw[this]
   simp only[if_pos e]
  ·have:(s==t)=false:=Bool.eq_false_iff.2 fun q=>e ((MapKept.bytes_beq s t).1 q)
   rw[this]
   simp only[if_neg e]
   exact ih
theorem iT_ {s:ByteArray}:∀(es:List MapEntry) (i j:Nat),fK_ es s (i+j)=(fK_ es s i).map fun p=>(p.1+j,p.2)
 | [],_,_=>rfl
 | e::r,i,j=>by
  unfold fK_
  have:=iT_ (s:=s) r (i+1) j
  rw[show i+1+j=i+j+1 by omega] at this
  cases e.key with
  | string t=>by_cases q:s=t<;>simp[q,this]
  | _=>simpa using this
theorem eM_ {e:MapEntry} {r:List MapEntry} {t:ByteArray} (h:e.key=.string t) (s:ByteArray):iG_ (e::r) s=if s=t then some e.val else iG_ r s:=by
 unfold iG_
 conv=>lhs;unfold fK_
 rw[h]
 by_cases q:s=t
 ·simp[q]
 ·simp only[if_neg q]
  rw[iT_ r 0 1,Option.map_map]
  rfl
theorem uT_ {es:List MapEntry} {s:ByteArray} {e:MapEntry} (hk:iS_ es) (he:e.key=.string s) (hn:iG_ es s=none) (t:ByteArray) :
  iG_ (es++[e]) t=if t=s then some e.val else iG_ es t:=by
 induction es with
 | nil=>rw[List.nil_append,eM_ he]
 | cons x r ih=>
  obtain⟨u,hu⟩:=hk x (by simp)
  rw[eM_ hu] at hn
  rw[List.cons_append,eM_ hu,eM_ hu]
  by_cases q:s=u
  ·rw[if_pos q] at hn;cases hn
  ·rw[if_neg q] at hn
   rw[ih (fun x hx=>hk x (by simp[hx])) hn]
   by_cases q1:t=u
   ·by_cases q2:t=s
    ·exact absurd (q2.symm.trans q1) q
    ·rw[if_pos q1,if_neg q2,if_pos q1]
   ·simp only[if_neg q1]
theorem sn_ {es:List MapEntry} {s:ByteArray} {i:Nat} {v v':Value} (hk:iS_ es) (hn:fK_ es s 0=some (i,v)) (t:ByteArray) :
  iG_ (es.modify i fun e=>{e with key:=.string s,val:=v'}) t=if t=s then some v' else iG_ es t:=by
 induction es generalizing i with
 | nil=>cases hn
 | cons x r ih=>
  obtain⟨u,hu⟩:=hk x (by simp)
  unfold fK_ at hn
  rw[hu] at hn
  by_cases q:s=u
  ·simp only[if_pos q,Option.some.injEq,Prod.mk.injEq] at hn
   obtain⟨rfl,_⟩:=hn
   rw[List.modify_zero_cons,eM_ (t:=s) rfl,eM_ hu]
   by_cases q1:t=s
   ·simp[q1]
   ·have q2:t≠u:=fun e=>q1 (e.trans q.symm)
    simp[q1,q2]
  ·simp only[if_neg q] at hn
   rw[iT_ r 0 1] at hn
   obtain⟨p,hp,hpe⟩:=Option.map_eq_some_iff.1 hn
   simp only[Prod.mk.injEq] at hpe
   obtain⟨rfl,hp2⟩:=hpe
   rw[List.modify_succ_cons,eM_ hu,eM_ hu,ih (i:=p.1) (fun x hx=>hk x (by simp[hx])) (by rw[hp,←hp2])]
   by_cases q1:t=u
   ·have q2:t≠s:=fun e=>q (e.symm.trans q1)
    simp[q1,q2]
    exact fun e=>absurd e.symm q
   ·simp[q1]
theorem rp_ {es:List MapEntry} {s:ByteArray} {i:Nat} {v':Value} (hk:iS_ es):iS_ (es.modify i fun e=>{e with key:=.string s,val:=v'}):=by
 intro e he
 obtain⟨j,hj,rfl⟩:=List.getElem_of_mem he
 rw[List.getElem_modify]
 split
 ·exact⟨s,rfl⟩
 ·exact hk _ (List.getElem_mem _)
theorem xR_ {es:Array MapEntry} {s:ByteArray} {i j:Nat} {v:Value} (hs:iS_ es.toList) (h:fK_ es.toList s j=some (j+i,v)):∃e0,es[i]?=some e0∧e0.key=.string s:=by
 rw[←Array.getElem?_toList]
 generalize es.toList=l at *
 induction l generalizing i j with
 | nil=>cases h
 | cons x r ih=>
  obtain⟨u,hu⟩:=hs x (by simp)
  unfold fK_ at h
  rw[hu] at h
  by_cases q:s=u
  ·simp only[if_pos q,Option.some.injEq,Prod.mk.injEq] at h
   have:i=0:=o_
   subst this
   exact⟨x,rfl,by rw[hu,q]⟩
  ·simp only[if_neg q] at h
   have hi:0<i:=by
    rw[show j+1=0+(j+1) by omega,iT_] at h
    obtain⟨p,_,hp⟩:=Option.map_eq_some_iff.1 h
    simp only[Prod.mk.injEq] at hp
    omega
   obtain⟨i',rfl⟩:∃i',i=i'+1:=⟨i-1,o_⟩
   rw[List.getElem?_cons_succ]
   exact ih (j:=j+1) (fun y hy=>hs y (by simp[hy])) (by rw[h];congr 2;omega)
def lq_ (w:World) (b:Nat) (m:ByteArray→Option Value):Prop:=
 ∃es clock,w.heap[b]?=some (.map es clock)∧iS_ es.toList∧∀s,iG_ es.toList s=m s
def upd (m:ByteArray→Option Value) (s:ByteArray) (v:Value):ByteArray→Option Value:=fun t=>if t=s then some v else m t
theorem lq_.keep {S:Nat→Prop} {w w':World} {b:Nat} {m:ByteArray→Option Value} (h:lq_ w b m) (k:ab_ S w w') (hn:¬S b):lq_ w' b m:=by
 obtain⟨es,c,h1,h2⟩:=h
 exact⟨es,c,k.heap h1 hn,h2⟩
theorem we_ (w:World):lq_ (w.alloc (.map #[] 0)) w.heap.size fun _=>none:=
 ⟨#[],0,by show(w.heap.push _)[w.heap.size]?=_;simp,fun e he=>by simp at he,fun s=>rfl⟩
section
variable {P:Program} {w:World} {b:Nat} {m:ByteArray→Option Value} {t k e:TypeId}
theorem f0_ {es:Array MapEntry} {clock:Nat} (h:w.heap[b]?=some (.map es clock)):(getObj b).run P w=.ok (.map es clock) w:=by
 simp[getObj,Sem.run,h]
theorem eC_ (ek:Bool) (n:Nat) (hk:P.underlying k=some .string) (s:ByteArray):(Instr.checkKey ek (n+1) k (.string s)).run P w=.ok () w:=by
 unfold Instr.checkKey
 simp[run_underlying hk]
theorem ff_ {es:List MapEntry} (hk:P.underlying k=some .string) (hs:iS_ es) (s:ByteArray):(Instr.findKey k (.string s) es).run P w=.ok (fK_ es s 0) w:=by
 unfold Instr.findKey
 simp[run_underlying hk,nu_ 0 hs]
theorem uU_ (ht:P.underlying t=some (.map k e)) (hk:P.underlying k=some .string) {zv:Value} (hz:(zeroValue e).run P w=.ok zv w) (h:lq_ w b m) (s:ByteArray) :
  (Instr.lookup t (.map (some b)) (.string s) true).run P w=.ok (.tuple #[(m s).getD zv,.bool (m s).isSome]) w∧
  (Instr.lookup t (.map (some b)) (.string s) false).run P w=.ok ((m s).getD zv) w:=by
 obtain⟨es,c,hb,hs,hm⟩:=h
 have:=hm s
 unfold iG_ at this
 unfold Instr.lookup
 constructor
 ·cases hi:fK_ es.toList s 0 with
  | none=>
   rw[hi] at this
   simp only[Option.map_none] at this
   rw[←this]
   simp[run_underlying ht,f0_ hb,eC_ _ _ hk,ff_ hk hs,hi,hz]
  | some p=>
   rw[hi] at this
   simp only[Option.map_some] at this
   rw[←this]
   simp[run_underlying ht,f0_ hb,eC_ _ _ hk,ff_ hk hs,hi]
 ·cases hi:fK_ es.toList s 0 with
  | none=>
   rw[hi] at this
   simp only[Option.map_none] at this
   rw[←this]
   simp[run_underlying ht,f0_ hb,eC_ _ _ hk,ff_ hk hs,hi,hz]
  | some p=>
   rw[hi] at this
   simp only[Option.map_some] at this
   rw[←this]
   simp[run_underlying ht,f0_ hb,eC_ _ _ hk,ff_ hk hs,hi]
theorem os_ {o:Obj} {es:Array MapEntry} {c:Nat} (h:w.heap[b]?=some (.map es c)):(setObj b o).run P w=.ok () {w with heap:=w.heap.setIfInBounds b o}:=by
 simp[setObj,Sem.run,h]
theorem wf_ (ht:P.underlying t=some (.map k e)) (hk:P.underlying k=some .string) (h:lq_ w b m) (s:ByteArray) (v:Value)
  {K:W_} (hK:∀w1,lq_ w1 b (upd m s v)→ab_ (fun k=>k=b) w w1→w1.heap.size=w.heap.size→K w1):ag_ P (Instr.mapUpdate t (.map (some b)) (.string s) v) w K:=by
 obtain⟨es,c,hb,hs,hm⟩:=h
 have hlt:=au_ hb
 have hget:∀(o:Obj),({w with heap:=w.heap.setIfInBounds b o}:World).heap[b]?=some o:=fun o=>by
  simp[hlt]
 have hkeep:∀(o:Obj),ab_ (fun k=>k=b) w {w with heap:=w.heap.setIfInBounds b o}:=fun o=>
  ⟨rfl,rfl,rfl,by simp,fun k _ hn=>by simp[Array.getElem?_setIfInBounds,Ne.symm hn]⟩
 cases hi:fK_ es.toList s 0 with
 | none=>
  have hn:iG_ es.toList s=none:=by unfold iG_;rw[hi];rfl
  refine⟨_,?_,hK {w with heap:=w.heap.setIfInBounds b (.map (es.push {key:=.string s,val:=v,born:=c}) (c+1))} ⟨_,_,hget _,?_,fun t=>?_⟩ (hkeep _) (by simp)⟩
  ·unfold Instr.mapUpdate
   simp[run_underlying ht,f0_ hb,eC_ _ _ hk,ff_ hk hs,hi,os_ hb]
  ·intro e he
   rw[Array.toList_push,List.mem_append,List.mem_singleton] at he
   rcases he with he|rfl
   ·exact hs e he
   ·exact⟨s,rfl⟩
  ·rw[Array.toList_push,uT_ hs rfl hn]
   unfold upd
   rw[hm]
 | some p=>
  obtain⟨i,v0⟩:=p
  have hold:∃e0,es[i]?=some e0∧e0.key=.string s:=xR_ (j:=0) hs (by rw[hi,Nat.zero_add])
  obtain⟨e0,he0,hk0⟩:=hold
  refine⟨_,?_,hK {w with heap:=w.heap.setIfInBounds b (.map (es.modify i fun e=>{e with key:=.string s,val:=v}) c)} ⟨_,_,hget _,?_,fun t=>?_⟩ (hkeep _) (by simp)⟩
  ·unfold Instr.mapUpdate
   simp[run_underlying ht,f0_ hb,eC_ _ _ hk,ff_ hk hs,hi,os_ hb,he0,hk0,Instr.keyThatStays,Instr.sameBits,(MapKept.bytes_beq s s).2 rfl]
  ·rw[Array.toList_modify];exact rp_ hs
  ·rw[Array.toList_modify,sn_ hs hi]
   unfold upd
   rw[hm]
end
open Go Go.RowKit
set_option maxRecDepth 100000
theorem uV_ {P:Program} {w:World} {base:Nat} {t ty e:TypeId} {zv:Option Value} {bytes:Nat} (ht:P.underlying t=some (.slice e)) (hinfo:(P.info? e).map (fun i=>(i.zero,i.size,i.bytes))=some (zv,1,bytes))
  {f x:Sl} {F xs:List Value} {o:Nat} (hf:Own w base e 1 f F) (hx:Rd w 1 x xs) (h1:∀u∈xs,u.oneCell'=true) (ho:o+x.n≤f.n)
  {K:Int→W_} (h:∀w',Own w' base e 1 f (F.take o++xs++F.drop (o+x.n))→ab_ (fun k=>some k=f.blk) w w'→w'.heap.size=w.heap.size→K (x.n:Int) w') :
  ai_ P (.i .i64) (Builtin.copy_ #[t,t] ty #[.slice (aP_ f.A f.c o 1) (f.n-o) (f.c-o),.slice x.A x.n x.c]) w K:=by
 have hs:(P.info? e).map (·.size)=some 1:=by
  obtain⟨i,hi,hzz⟩:=Option.map_eq_some_iff.1 hinfo
  simp only[Prod.mk.injEq] at hzz
  rw[hi,Option.map_some,hzz.2.1]
 have hFl:F.length=f.n:=by have:=hf.len;omega
 have hxl:xs.length=x.n:=by have:=hx.len;omega
 rcases Nat.eq_zero_or_pos x.n with h0|hpos
 ·have hx0:xs = []:=List.eq_nil_of_length_eq_zero o_
  refine⟨(x.n:Int),w,?_,h w ?_ (ab_.refl _ _) rfl⟩
  ·rw[run_copy_none (P:=P) w t t ty e _ _ _ _ _ _ ht hs (by rw[h0];exact Nat.zero_min _),h0];rfl
  ·rw[hx0,h0,List.append_nil,Nat.add_zero,List.take_append_drop];exact hf
 ·obtain⟨hlen,hown⟩:=hf
  rcases hown with⟨h2,hn0⟩|⟨g,cap,cur,hv,hbg,hg,hnc,hcm,hcs,htake⟩
  ·omega
  ·injection hv with hA hN hC
   have hne:xs≠[]:=fun e=>by rw[e] at hxl;simp at hxl;omega
   obtain⟨a,ha,hc⟩:=hx.at_ hne
   have hcA:aP_ f.A f.c o 1=some ⟨g,o,none⟩:=by
    unfold aP_
    rw[if_neg o_,hA]
    simp[Addr.add]
    omega
   have hcs':cur.size=cap:=by simpa using hcs
   have hmin:xs.length=Nat.min x.n (f.n-o):=by
    have:Nat.min x.n (f.n-o)=x.n:=Nat.min_eq_left o_
    omega
   have hr:=run_copy_row (P:=P) w t t ty e g o (f.n-o) (f.c-o) a x.n x.c cur e xs ht hs hg hmin hc o_ h1
   rw[hcA,ha]
   refine⟨(x.n:Int),_,by rw[hr,hxl];rfl,h _ ⟨?_,.inr ⟨g,cap,_,by rw[hA,hC],hbg,setRow_heap w g cur _ e _ hg,hnc,hcm,?_,?_⟩⟩ ⟨rfl,rfl,rfl,by simp,fun k _ hk=>setRow_other w g k _ (fun e=>hk (by simp[Sl.blk,hA,e]))⟩ (by simp)⟩
   ·simp only[List.length_append,List.length_take,List.length_drop]
    omega
   ·simp only[List.size_toArray,List.length_append,List.length_take,List.length_drop,Array.length_toList]
    omega
   ·have hF:cur.toList.take (f.n*1)=F:=htake
    rw[Nat.mul_one] at hF ⊢
    rw[←hF]
    apply List.ext_getElem?
    intro j
    simp only[List.getElem?_take,List.getElem?_append,List.length_append,List.length_take,Array.length_toList,List.getElem?_drop,hxl]
    have e1:min o cur.size=o:=o_
    have e2:min o (min f.n cur.size)=o:=o_
    simp only[e1,e2]
    by_cases q1:j<o
    ·have q2:j<o+x.n:=o_
     have q3:j<f.n:=o_
     simp only[if_pos q1,if_pos q2,if_pos q3]
    ·by_cases q2:j<o+x.n
     ·have q3:j<f.n:=o_
      simp only[if_neg q1,if_pos q2,if_pos q3]
     ·by_cases q3:j<f.n
      ·have q4:o+x.n+(j-(o+x.n))<f.n:=o_
       simp only[if_neg q2,if_pos q3,if_pos q4]
      ·have q4:¬o+x.n+(j-(o+x.n))<f.n:=o_
       simp only[if_neg q2,if_neg q3,if_neg q4]
end Go.Proofs.YtpmebahhjgkflaaGreatDoor.CF
namespace Go.Proofs.YtpmebahhjgkflaaGreatDoor
open Go CF
def cs:List Nat:=[3,4,5,6,7,8,9,10,11,12,13,14,15,16,17,18,19,20,21,22,23,24,25,26,27,28,29,30,31,32,33,34,35,36,37,38,39,40,41,42,43,44,45,46,47,48,49,50,51,52,53,54,55,56,57,58,59,60,61,62,63,64,65,66,67,68,69,70,71,72,73,74,75,76,77,78,79,81,82,83,84,85,86,87,88,89,90,91,92,93,94,95,96,97,98,99,100,101,102,103,104,105,106,107,108,109,110,111,112,113,114,115,116,117,118,119,121,122,123,124,125,126,127,128,130,131,132,133,134,135,136,137,138,139,140,141,142,143,144,145,146,147,148,149,150,151,152,153,154,155,156,157,158,159,160,161,162,163,164,165,166,167,168,169,170,171,172,173,174,175,176,177,178,179,180,181,182,183,184,185,186,187,188,189,190,191,192,193,194,195,196,197,198,199,200,202,203,204,205,206,207,208,209,210,211,212,213,214,215,216,217,218,219,220,221,222,223,224,225,226,227,228,229,230,231,232,233,234,235,236,237,238,239,240,241,242,243,244,245,246,247,248,249,250,251,252,253,254,255,256,257,258,259,261,262,263,264,265,266,267,268,269,270,271,272,273,274,275,276,277,278,279,280,281,282,283,284,285,286,287,292,295,296,297,298,299,300,301,302,303,304,305,306,314,315,316,317,318,319,320,321,322,323,325]
def pp_ (P:Program):List Nat→Bool
 | []=>true
 | f::r=>(match P.funcs[f]? with|some fn=> !(fn.name=="runtime.NumGoroutine") && !fn.body.isNone|none=>false)&&pp_ P r
theorem ot_ {P:Program}:∀{l:List Nat},pp_ P l=true→jj_ P l
 | [],_,f,h=>by cases h
 | g::r,hok,f,h=>by
  simp only[pp_,Bool.and_eq_true] at hok
  simp only[cY_,Bool.or_eq_true] at h
  rcases h with h|h
  ·have e:g=f:=Nat.eq_of_beq_eq_true h
   subst e
   have h1:=hok.1
   split at h1
   ·rename_i fn hf
    simp only[Bool.and_eq_true,Bool.not_eq_true'] at h1
    exact⟨fn,hf,h1.1,h1.2⟩
   ·cases h1
  ·exact ot_ hok.2 f h
theorem af_:jj_ Tryz.prog cs:=ot_ k_
theorem aB_:Tryz.prog.follows .mixedOrders=true:=k_
noncomputable def G:Gen:=gen Tryz.prog cs
def s_a:ByteArray:=⟨#[97]⟩
def s_b:ByteArray:=⟨#[98]⟩
def dG_:ByteArray:=⟨#[46,100]⟩
def eD_:ByteArray:=⟨#[46,112]⟩
def tC_:ByteArray:=⟨#[83,48]⟩
def tD_:ByteArray:=⟨#[83,49]⟩
def s_V:ByteArray:=⟨#[86]⟩
def s_P:ByteArray:=⟨#[80]⟩
def s_1:ByteArray:=⟨#[49]⟩
def uW_:ByteArray:=⟨#[83,76,79,84]⟩
def m2_:ByteArray:=⟨#[32]⟩
def m3_:ByteArray:=⟨#[46]⟩
def gm_ (p0:Sl) (p1:Bool) (p2:Bool) (w:World) (R:Bool→W_):Prop:=an_ Tryz.prog 4 #[.slice p0.A p0.n p0.c,.bool p1,.bool p2] w [.b] R
def dH_ (w:World) (R:Bool→W_):Prop:=an_ Tryz.prog 10 #[] w [.b] R
def cL_ (p0:O_) (p1:Int) (w:World) (R:(A_)→W_):Prop:=an_ Tryz.prog 11 #[.pointer p0,.int .u8 p1] w [.ag] R
def iU_ (w:World) (R:(O_)→W_):Prop:=an_ Tryz.prog 12 #[] w [.p] R
def aV_ (p0:O_) (p1:Int) (p2:Sl) (p3:Sl) (w:World) (R:(A_)→W_):Prop:=an_ Tryz.prog 13 #[.pointer p0,.int .i64 p1,.slice p2.A p2.n p2.c,.slice p3.A p3.n p3.c] w [.ag] R
def a9_ (w:World) (R:Sl→W_):Prop:=an_ Tryz.prog 14 #[] w [.sl] R
def aM_ (p0:O_) (p1:Int) (p2:Sl) (p3:Sl) (w:World) (R:(A_)→W_):Prop:=an_ Tryz.prog 15 #[.pointer p0,.int .i64 p1,.slice p2.A p2.n p2.c,.slice p3.A p3.n p3.c] w [.ag] R
def aO_ (p0:A_) (p1:A_) (w:World) (R:Bool→W_):Prop:=an_ Tryz.prog 16 #[.agg p0,.agg p1] w [.b] R
def bk_ (p0:Int) (p1:Int) (w:World) (R:(A_)→W_):Prop:=an_ Tryz.prog 17 #[.int .u8 p0,.int .u16 p1] w [.ag] R
def cx_ (p0:O_) (p1:Sl) (w:World) (R:W_):Prop:=an_ Tryz.prog 18 #[.pointer p0,.slice p1.A p1.n p1.c] w [] R
def de_ (p0:Int) (p1:Int) (p2:Int) (p3:Int) (p4:Bool) (w:World) (R:Sl→Sl→W_):Prop:=an_ Tryz.prog 19 #[.int .u8 p0,.int .u8 p1,.int .u64 p2,.int .u64 p3,.bool p4] w [.sl,.sl] R
def bT_ (p0:O_) (w:World) (R:Int→W_):Prop:=an_ Tryz.prog 27 #[.pointer p0] w [.i .i64] R
def fL_ (p0:O_) (p1:ByteArray) (p2:A_) (w:World) (R:(O_)→Int→W_):Prop:=an_ Tryz.prog 28 #[.pointer p0,.string p1,.agg p2] w [.p,.i .i64] R
def gn_ (p0:Int) (w:World) (R:Int→W_):Prop:=an_ Tryz.prog 32 #[.int .u8 p0] w [.i .u8] R
def fM_ (p0:Int) (w:World) (R:Bool→W_):Prop:=an_ Tryz.prog 34 #[.int .u8 p0] w [.b] R
def cn_ (p0:Int) (p1:Int) (w:World) (R:(A_)→W_):Prop:=an_ Tryz.prog 40 #[.int .i64 p0,.int .u8 p1] w [.ag] R
def a8_ (p0:A_) (w:World) (R:(A_)→W_):Prop:=an_ Tryz.prog 41 #[.agg p0] w [.ag] R
def go_ (p0:O_) (p1:Int) (w:World) (R:Int→W_):Prop:=an_ Tryz.prog 42 #[.pointer p0,.int .i64 p1] w [.i .i64] R
def lr_ (p0:Sl) (w:World) (R:(A_)→(A_)→Bool→W_):Prop:=an_ Tryz.prog 43 #[.slice p0.A p0.n p0.c] w [.ag,.ag,.b] R
def gd_ (p0:O_) (p1:Int) (w:World) (R:Int→Bool→W_):Prop:=an_ Tryz.prog 44 #[.pointer p0,.int .i64 p1] w [.i .u16,.b] R
def eh_ (p0:O_) (p1:Int) (w:World) (R:Int→Bool→W_):Prop:=an_ Tryz.prog 45 #[.pointer p0,.int .i64 p1] w [.i .u16,.b] R
def bv_ (p0:O_) (p1:Int) (p2:Int) (w:World) (R:Bool→W_):Prop:=an_ Tryz.prog 46 #[.pointer p0,.int .i64 p1,.int .u8 p2] w [.b] R
def b4_ (p0:O_) (w:World) (R:(A_)→W_):Prop:=an_ Tryz.prog 47 #[.pointer p0] w [.ag] R
def bp_ (p0:O_) (p1:Int) (p2:A_) (p3:Sl) (w:World) (R:(A_)→W_):Prop:=an_ Tryz.prog 48 #[.pointer p0,.int .i64 p1,.agg p2,.slice p3.A p3.n p3.c] w [.ag] R
def dp_ (p0:Int) (p1:Int) (w:World) (R:Sl→W_):Prop:=an_ Tryz.prog 49 #[.int .u64 p0,.int .i64 p1] w [.sl] R
def fN_ (p0:O_) (w:World) (R:Int→Int→W_):Prop:=an_ Tryz.prog 57 #[.pointer p0] w [.i .u8,.i .i64] R
def gw_ (p0:O_) (p1:Value) (w:World) (R:W_):Prop:=an_ Tryz.prog 60 #[.pointer p0,p1] w [] R
def iv_ (p0:Addr) (w:World) (R:W_):Prop:=an_ Tryz.prog 61 #[.pointer (some p0)] w [] R
def dI_ (p0:O_) (w:World) (R:Int→W_):Prop:=an_ Tryz.prog 62 #[.pointer p0] w [.i .i64] R
def mo_ (p0:A_) (w:World) (R:Bool→W_):Prop:=an_ Tryz.prog 63 #[.agg p0] w [.b] R
def kB_ (p0:O_) (p1:ByteArray) (p2:Int) (p3:Bool) (w:World) (R:(O_)→Int→W_):Prop:=an_ Tryz.prog 64 #[.pointer p0,.string p1,.int .i64 p2,.bool p3] w [.p,.i .i64] R
def e8_ (w:World) (R:(A_)→W_):Prop:=an_ Tryz.prog 65 #[] w [.ag] R
def kC_ (p0:O_) (p1:ByteArray) (w:World) (R:(O_)→Int→W_):Prop:=an_ Tryz.prog 66 #[.pointer p0,.string p1] w [.p,.i .i64] R
def g5_ (p0:A_) (w:World) (R:(O_)→W_):Prop:=an_ Tryz.prog 67 #[.agg p0] w [.p] R
def hQ_ (w:World) (R:(O_)→W_):Prop:=an_ Tryz.prog 68 #[] w [.p] R
def fO_ (w:World) (R:(O_)→W_):Prop:=an_ Tryz.prog 69 #[] w [.p] R
def he_ (p0:Option Nat) (p1:A_) (p2:Int) (w:World) (R:W_):Prop:=an_ Tryz.prog 72 #[.map p0,.agg p1,.int .i64 p2] w [] R
def cy_ (p0:Sl) (p1:Int) (p2:Int) (w:World) (R:Int→Int→W_):Prop:=an_ Tryz.prog 76 #[.slice p0.A p0.n p0.c,.int .i64 p1,.int .i64 p2] w [.i .u64,.i .i64] R
def jm_ (p0:A_) (w:World) (R:Sl→Int→W_):Prop:=an_ Tryz.prog 78 #[.agg p0] w [.sl,.i .i64] R
def gV_ (p0:A_) (w:World) (R:Sl→Int→W_):Prop:=an_ Tryz.prog 79 #[.agg p0] w [.sl,.i .i64] R
def df_ (p0:Int) (p1:Int) (w:World) (R:(A_)→W_):Prop:=an_ Tryz.prog 81 #[.int .i64 p0,.int .i64 p1] w [.ag] R
def lt_ (p0:Int) (p1:Int) (w:World) (R:Sl→Bool→W_):Prop:=an_ Tryz.prog 82 #[.int .u8 p0,.int .u8 p1] w [.sl,.b] R
def m4_ (p0:Sl) (p1:Sl) (w:World) (R:Int→Int→W_):Prop:=an_ Tryz.prog 83 #[.slice p0.A p0.n p0.c,.slice p1.A p1.n p1.c] w [.i .i64,.i .i64] R
def mp_ (p0:Int) (w:World) (R:Int→W_):Prop:=an_ Tryz.prog 84 #[.int .u8 p0] w [.i .u8] R
def mq_ (p0:O_) (p1:Sl) (p2:Int) (w:World) (R:Int→Int→W_):Prop:=an_ Tryz.prog 85 #[.pointer p0,.slice p1.A p1.n p1.c,.int .u8 p2] w [.i .i64,.i .i64] R
def dJ_ (p0:O_) (p1:Int) (w:World) (R:Int→W_):Prop:=an_ Tryz.prog 86 #[.pointer p0,.int .i64 p1] w [.i .i64] R
def dK_ (p0:O_) (p1:Int) (w:World) (R:Bool→W_):Prop:=an_ Tryz.prog 87 #[.pointer p0,.int .i64 p1] w [.b] R
def cZ_ (p0:O_) (p1:Int) (w:World) (R:Int→Bool→W_):Prop:=an_ Tryz.prog 88 #[.pointer p0,.int .i64 p1] w [.i .u64,.b] R
def c0_ (p0:Sl) (p1:Int) (w:World) (R:Sl→W_):Prop:=an_ Tryz.prog 89 #[.slice p0.A p0.n p0.c,.int .i64 p1] w [.sl] R
def l8_ (p0:A_) (w:World) (R:Sl→W_):Prop:=an_ Tryz.prog 90 #[.agg p0] w [.sl] R
def pT_ (p0:A_) (p1:Int) (w:World) (R:Sl→Bool→W_):Prop:=an_ Tryz.prog 91 #[.agg p0,.int .u8 p1] w [.sl,.b] R
def pU_ (p0:Sl) (w:World) (R:Sl→W_):Prop:=an_ Tryz.prog 92 #[.slice p0.A p0.n p0.c] w [.sl] R
def ge_ (p0:O_) (p1:A_) (w:World) (R:Sl→(A_)→Bool→W_):Prop:=an_ Tryz.prog 93 #[.pointer p0,.agg p1] w [.sl,.ag,.b] R
def hR_ (p0:O_) (p1:Int) (p2:A_) (p3:Sl) (w:World) (R:(A_)→W_):Prop:=an_ Tryz.prog 94 #[.pointer p0,.int .i64 p1,.agg p2,.slice p3.A p3.n p3.c] w [.ag] R
def l9_ (p0:O_) (p1:Int) (w:World) (R:Sl→W_):Prop:=an_ Tryz.prog 95 #[.pointer p0,.int .u8 p1] w [.sl] R
def eE_ (p0:O_) (p1:Int) (p2:A_) (p3:Sl) (w:World) (R:(A_)→W_):Prop:=an_ Tryz.prog 96 #[.pointer p0,.int .i64 p1,.agg p2,.slice p3.A p3.n p3.c] w [.ag] R
def dL_ (p0:O_) (p1:Int) (p2:A_) (p3:Sl) (w:World) (R:(A_)→W_):Prop:=an_ Tryz.prog 97 #[.pointer p0,.int .i64 p1,.agg p2,.slice p3.A p3.n p3.c] w [.ag] R
def bW_ (p0:O_) (p1:A_) (p2:Sl) (w:World) (R:(A_)→W_):Prop:=an_ Tryz.prog 98 #[.pointer p0,.agg p1,.slice p2.A p2.n p2.c] w [.ag] R
def fg_ (p0:Int) (w:World) (R:Bool→W_):Prop:=an_ Tryz.prog 119 #[.int .u8 p0] w [.b] R
def gp_ (p0:O_) (w:World) (R:Bool→W_):Prop:=an_ Tryz.prog 121 #[.pointer p0] w [.b] R
def nn_ (p0:O_) (p1:Value) (w:World) (R:W_):Prop:=an_ Tryz.prog 122 #[.pointer p0,p1] w [] R
def eT_ (p0:O_) (p1:Int) (p2:Int) (w:World) (R:W_):Prop:=an_ Tryz.prog 123 #[.pointer p0,.int .i64 p1,.int .u16 p2] w [] R
def c6_ (p0:O_) (w:World) (R:Sl→Int→Int→W_):Prop:=an_ Tryz.prog 124 #[.pointer p0] w [.sl,.i .u64,.i .i64] R
def nU_ (p0:Sl) (w:World) (R:(O_)→Int→W_):Prop:=an_ Tryz.prog 125 #[.slice p0.A p0.n p0.c] w [.p,.i .i64] R
def jn_ (p0:Int) (w:World) (R:(A_)→W_):Prop:=an_ Tryz.prog 126 #[.int .u8 p0] w [.ag] R
def eF_ (p0:O_) (p1:Bool) (w:World) (R:W_):Prop:=an_ Tryz.prog 127 #[.pointer p0,.bool p1] w [] R
def g6_ (p0:ByteArray) (p1:Int) (p2:Int) (w:World) (R:Bool→W_):Prop:=an_ Tryz.prog 128 #[.string p0,.int .i64 p1,.int .i64 p2] w [.b] R
def j0_ (p0:Sl) (p1:Int) (p2:Int) (w:World) (R:Int→W_):Prop:=an_ Tryz.prog 130 #[.slice p0.A p0.n p0.c,.int .i64 p1,.int .i64 p2] w [.i .i64] R
def kW_ (p0:Sl) (p1:Int) (p2:Int) (p3:Int) (w:World) (R:Sl→Int→W_):Prop:=an_ Tryz.prog 132 #[.slice p0.A p0.n p0.c,.int .i64 p1,.int .i64 p2,.int .u64 p3] w [.sl,.i .i64] R
def bn_ (p0:Sl) (p1:Int) (p2:Int) (w:World) (R:Int→W_):Prop:=an_ Tryz.prog 134 #[.slice p0.A p0.n p0.c,.int .i64 p1,.int .i64 p2] w [.i .u64] R
def kD_ (p0:O_) (p1:Sl) (w:World) (R:Int→Int→W_):Prop:=an_ Tryz.prog 135 #[.pointer p0,.slice p1.A p1.n p1.c] w [.i .i64,.i .i64] R
def fr_ (p0:O_) (p1:Int) (w:World) (R:Bool→W_):Prop:=an_ Tryz.prog 136 #[.pointer p0,.int .i64 p1] w [.b] R
def iV_ (p0:Int) (w:World) (R:Int→W_):Prop:=an_ Tryz.prog 137 #[.int .u16 p0] w [.i .i64] R
def gf_ (p0:O_) (w:World) (R:(A_)→W_):Prop:=an_ Tryz.prog 139 #[.pointer p0] w [.ag] R
def fs_ (p0:O_) (w:World) (R:Bool→W_):Prop:=an_ Tryz.prog 144 #[.pointer p0] w [.b] R
def ft_ (p0:O_) (w:World) (R:Bool→W_):Prop:=an_ Tryz.prog 146 #[.pointer p0] w [.b] R
def jo_ (p0:O_) (p1:Int) (p2:A_) (w:World) (R:Int→Int→Sl→W_):Prop:=an_ Tryz.prog 147 #[.pointer p0,.int .i64 p1,.agg p2] w [.i .u8,.i .u16,.sl] R
def jp_ (p0:Sl) (w:World) (R:(A_)→(A_)→Bool→W_):Prop:=an_ Tryz.prog 148 #[.slice p0.A p0.n p0.c] w [.ag,.ag,.b] R
def lu_ (p0:A_) (p1:Sl) (w:World) (R:Int→(A_)→W_):Prop:=an_ Tryz.prog 149 #[.agg p0,.slice p1.A p1.n p1.c] w [.i .i64,.ag] R
def dM_ (p0:A_) (w:World) (R:(A_)→W_):Prop:=an_ Tryz.prog 150 #[.agg p0] w [.ag] R
def mr_ (p0:Int) (p1:Int) (w:World) (R:Bool→W_):Prop:=an_ Tryz.prog 151 #[.int .u8 p0,.int .u8 p1] w [.b] R
def lv_ (p0:Int) (p1:Int) (p2:Int) (w:World) (R:Bool→W_):Prop:=an_ Tryz.prog 152 #[.int .u64 p0,.int .u64 p1,.int .u64 p2] w [.b] R
def hf_ (p0:O_) (w:World) (R:Int→W_):Prop:=an_ Tryz.prog 153 #[.pointer p0] w [.i .u64] R
def hS_ (p0:Int) (p1:Int) (p2:Int) (w:World) (R:(A_)→W_):Prop:=an_ Tryz.prog 154 #[.int .u8 p0,.int .u16 p1,.int .u64 p2] w [.ag] R
def gx_ (p0:O_) (p1:A_) (w:World) (R:Sl→(A_)→Bool→W_):Prop:=an_ Tryz.prog 155 #[.pointer p0,.agg p1] w [.sl,.ag,.b] R
def iw_ (p0:Sl) (w:World) (R:(A_)→W_):Prop:=an_ Tryz.prog 156 #[.slice p0.A p0.n p0.c] w [.ag] R
def nV_ (p0:Sl) (p1:Bool) (w:World) (R:Sl→W_):Prop:=an_ Tryz.prog 157 #[.slice p0.A p0.n p0.c,.bool p1] w [.sl] R
def gy_ (p0:O_) (p1:A_) (p2:Sl) (p3:Int) (w:World) (R:Sl→(A_)→Bool→W_):Prop:=an_ Tryz.prog 158 #[.pointer p0,.agg p1,.slice p2.A p2.n p2.c,.int .u64 p3] w [.sl,.ag,.b] R
def eG_ (p0:O_) (p1:Int) (p2:Sl) (p3:Bool) (w:World) (R:(A_)→W_):Prop:=an_ Tryz.prog 159 #[.pointer p0,.int .u64 p1,.slice p2.A p2.n p2.c,.bool p3] w [.ag] R
def j1_ (p0:O_) (p1:A_) (p2:Sl) (w:World) (R:(A_)→W_):Prop:=an_ Tryz.prog 160 #[.pointer p0,.agg p1,.slice p2.A p2.n p2.c] w [.ag] R
def gg_ (p0:O_) (w:World) (R:Int→W_):Prop:=an_ Tryz.prog 161 #[.pointer p0] w [.i .i64] R
def ma_ (p0:O_) (p1:A_) (p2:Sl) (w:World) (R:(A_)→W_):Prop:=an_ Tryz.prog 162 #[.pointer p0,.agg p1,.slice p2.A p2.n p2.c] w [.ag] R
def kX_ (p0:O_) (p1:Sl) (w:World) (R:(A_)→W_):Prop:=an_ Tryz.prog 163 #[.pointer p0,.slice p1.A p1.n p1.c] w [.ag] R
def jq_ (p0:O_) (p1:A_) (p2:Sl) (w:World) (R:(A_)→W_):Prop:=an_ Tryz.prog 164 #[.pointer p0,.agg p1,.slice p2.A p2.n p2.c] w [.ag] R
def iP_ (p0:O_) (p1:A_) (w:World) (R:(A_)→W_):Prop:=an_ Tryz.prog 165 #[.pointer p0,.agg p1] w [.ag] R
def co_ (p0:O_) (p1:ByteArray) (p2:Int) (p3:Int) (w:World) (R:Sl→Int→W_):Prop:=an_ Tryz.prog 205 #[.pointer p0,.string p1,.int .i64 p2,.int .i64 p3] w [.sl,.i .i64] R
def ei_ (p0:O_) (p1:Int) (w:World) (R:ByteArray→W_):Prop:=an_ Tryz.prog 206 #[.pointer p0,.int .i64 p1] w [.s] R
def iH_ (p0:Sl) (w:World) (R:Int→Sl→Int→W_):Prop:=an_ Tryz.prog 207 #[.slice p0.A p0.n p0.c] w [.i .u64,.sl,.i .i64] R
def g7_ (p0:Int) (w:World) (R:Bool→W_):Prop:=an_ Tryz.prog 208 #[.int .u8 p0] w [.b] R
def ms_ (p0:O_) (p1:Sl) (w:World) (R:Int→W_):Prop:=an_ Tryz.prog 209 #[.pointer p0,.slice p1.A p1.n p1.c] w [.i .i64] R
def cp_ (p0:O_) (p1:Sl) (w:World) (R:Int→Int→W_):Prop:=an_ Tryz.prog 211 #[.pointer p0,.slice p1.A p1.n p1.c] w [.i .u64,.i .i64] R
def kE_ (p0:A_) (w:World) (R:Int→W_):Prop:=an_ Tryz.prog 212 #[.agg p0] w [.i .u8] R
def f1_ (p0:O_) (w:World) (R:Sl→W_):Prop:=an_ Tryz.prog 213 #[.pointer p0] w [.sl] R
def cg_ (p0:O_) (p1:Int) (p2:A_) (p3:Bool) (w:World) (R:Sl→W_):Prop:=an_ Tryz.prog 214 #[.pointer p0,.int .i64 p1,.agg p2,.bool p3] w [.sl] R
def ej_ (p0:O_) (p1:Int) (p2:A_) (w:World) (R:Int→Int→Sl→W_):Prop:=an_ Tryz.prog 215 #[.pointer p0,.int .i64 p1,.agg p2] w [.i .u8,.i .u16,.sl] R
def ek_ (p0:O_) (p1:Int) (p2:A_) (w:World) (R:Int→Int→Sl→W_):Prop:=an_ Tryz.prog 216 #[.pointer p0,.int .i64 p1,.agg p2] w [.i .u8,.i .u16,.sl] R
def fu_ (p0:O_) (p1:Int) (w:World) (R:Sl→W_):Prop:=an_ Tryz.prog 217 #[.pointer p0,.int .i64 p1] w [.sl] R
def el_ (p0:O_) (p1:Int) (p2:A_) (w:World) (R:Int→Int→Sl→W_):Prop:=an_ Tryz.prog 218 #[.pointer p0,.int .i64 p1,.agg p2] w [.i .u8,.i .u16,.sl] R
def bl_ (p0:Int) (p1:Int) (w:World) (R:(A_)→W_):Prop:=an_ Tryz.prog 219 #[.int .u16 p0,.int .i64 p1] w [.ag] R
def bu_ (p0:Sl) (p1:Int) (p2:Int) (w:World) (R:Int→W_):Prop:=an_ Tryz.prog 220 #[.slice p0.A p0.n p0.c,.int .i64 p1,.int .i64 p2] w [.i .i64] R
def kF_ (p0:Sl) (w:World) (R:ByteArray→Int→W_):Prop:=an_ Tryz.prog 221 #[.slice p0.A p0.n p0.c] w [.s,.i .i64] R
def fP_ (p0:Int) (p1:Addr) (p2:Addr) (w:World) (R:(O_)→W_):Prop:=an_ Tryz.prog 222 #[.int .i64 p0,.pointer (some p1),.pointer (some p2)] w [.p] R
def hg_ (p0:Sl) (p1:Bool) (w:World) (R:Sl→Bool→W_):Prop:=an_ Tryz.prog 223 #[.slice p0.A p0.n p0.c,.bool p1] w [.sl,.b] R
def hO_ (p0:O_) (w:World) (R:Int→W_):Prop:=an_ Tryz.prog 224 #[.pointer p0] w [.i .i64] R
def gh_ (p0:O_) (p1:Int) (p2:Int) (w:World) (R:Sl→Int→Int→W_):Prop:=an_ Tryz.prog 225 #[.pointer p0,.int .i64 p1,.int .i64 p2] w [.sl,.i .i64,.i .i64] R
def j2_ (p0:Int) (p1:Int) (p2:Int) (p3:A_) (w:World) (R:Int→W_):Prop:=an_ Tryz.prog 226 #[.int .u8 p0,.int .u8 p1,.int .u64 p2,.agg p3] w [.i .u16] R
def kG_ (w:World) (R:(A_)→W_):Prop:=an_ Tryz.prog 227 #[] w [.ag] R
def nW_ (p0:Int) (p1:Int) (p2:A_) (p3:Int) (w:World) (R:(A_)→W_):Prop:=an_ Tryz.prog 228 #[.int .u8 p0,.int .u64 p1,.agg p2,.int .u16 p3] w [.ag] R
def dN_ (p0:O_) (p1:Int) (p2:Sl) (p3:Bool) (w:World) (R:Int→Int→W_):Prop:=an_ Tryz.prog 229 #[.pointer p0,.int .i64 p1,.slice p2.A p2.n p2.c,.bool p3] w [.i .i64,.i .i64] R
def b3_ (p0:O_) (w:World) (R:Int→W_):Prop:=an_ Tryz.prog 231 #[.pointer p0] w [.i .i64] R
def nX_ (p0:Bool) (w:World) (R:Int→W_):Prop:=an_ Tryz.prog 233 #[.bool p0] w [.i .i64] R
def h3_ (p0:ByteArray) (w:World) (R:Bool→W_):Prop:=an_ Tryz.prog 262 #[.string p0] w [.b] R
def c7_ (p0:O_) (w:World) (R:Int→W_):Prop:=an_ Tryz.prog 263 #[.pointer p0] w [.i .i64] R
def lw_ (p0:Sl) (w:World) (R:Int→W_):Prop:=an_ Tryz.prog 264 #[.slice p0.A p0.n p0.c] w [.i .u32] R
def iI_ (p0:Int) (p1:Sl) (w:World) (R:Sl→Int→W_):Prop:=an_ Tryz.prog 265 #[.int .u64 p0,.slice p1.A p1.n p1.c] w [.sl,.i .i64] R
def dO_ (p0:O_) (p1:ByteArray) (p2:Int) (p3:Sl) (w:World) (R:Int→W_):Prop:=an_ Tryz.prog 266 #[.pointer p0,.string p1,.int .i64 p2,.slice p3.A p3.n p3.c] w [.i .i64] R
def gz_ (p0:O_) (p1:Int) (p2:Int) (w:World) (R:W_):Prop:=an_ Tryz.prog 267 #[.pointer p0,.int .i64 p1,.int .u64 p2] w [] R
def f2_ (p0:O_) (p1:Int) (w:World) (R:Sl→W_):Prop:=an_ Tryz.prog 268 #[.pointer p0,.int .i64 p1] w [.sl] R
def fQ_ (p0:ByteArray) (p1:ByteArray) (w:World) (R:ByteArray→W_):Prop:=an_ Tryz.prog 269 #[.string p0,.string p1] w [.s] R
def dP_ (p0:O_) (p1:Int) (p2:Int) (w:World) (R:Int→W_):Prop:=an_ Tryz.prog 270 #[.pointer p0,.int .i64 p1,.int .i64 p2] w [.i .i64] R
def jr_ (p0:Sl) (w:World) (R:(A_)→W_):Prop:=an_ Tryz.prog 271 #[.slice p0.A p0.n p0.c] w [.ag] R
def kH_ (p0:Int) (p1:A_) (w:World) (R:Bool→W_):Prop:=an_ Tryz.prog 272 #[.int .u8 p0,.agg p1] w [.b] R
def lx_ (p0:Sl) (w:World) (R:Int→W_):Prop:=an_ Tryz.prog 273 #[.slice p0.A p0.n p0.c] w [.i .u16] R
def gW_ (p0:O_) (p1:Int) (p2:Int) (p3:Value) (p4:Bool) (w:World) (R:Int→Int→W_):Prop:=an_ Tryz.prog 274 #[.pointer p0,.int .i64 p1,.int .i64 p2,p3,.bool p4] w [.i .i64,.i .i64] R
def hh_ (p0:Int) (p1:Addr) (w:World) (R:Sl→W_):Prop:=an_ Tryz.prog 275 #[.int .i64 p0,.pointer (some p1)] w [.sl] R
def iJ_ (p0:A_) (w:World) (R:Sl→W_):Prop:=an_ Tryz.prog 276 #[.agg p0] w [.sl] R
def ly_ (p0:Int) (p1:Sl) (w:World) (R:Int→W_):Prop:=an_ Tryz.prog 296 #[.int .u32 p0,.slice p1.A p1.n p1.c] w [.i .u32] R
def hi_ (p0:O_) (p1:A_) (w:World) (R:Int→W_):Prop:=an_ Tryz.prog 297 #[.pointer p0,.agg p1] w [.i .i64] R
def eb_ (p0:ByteArray) (p1:Int) (w:World) (R:ByteArray→W_):Prop:=an_ Tryz.prog 298 #[.string p0,.int .u8 p1] w [.s] R
def kY_ (p0:ByteArray) (w:World) (R:(A_)→Bool→W_):Prop:=an_ Tryz.prog 299 #[.string p0] w [.ag,.b] R
def jU_ (p0:ByteArray) (p1:O_) (w:World) (R:ByteArray→W_):Prop:=an_ Tryz.prog 300 #[.string p0,.pointer p1] w [.s] R
def iW_ (p0:ByteArray) (p1:ByteArray) (w:World) (R:ByteArray→W_):Prop:=an_ Tryz.prog 301 #[.string p0,.string p1] w [.s] R
def js_ (w:World) (R:(A_)→W_):Prop:=an_ Tryz.prog 302 #[] w [.ag] R
def ou_ (p0:Int) (p1:Sl) (w:World) (R:Int→W_):Prop:=an_ Tryz.prog 303 #[.int .u16 p0,.slice p1.A p1.n p1.c] w [.i .u16] R
abbrev qH_:TypeId:=3
theorem qI_:Tryz.prog.underlying 3=some (.int .i64):=k_
abbrev yH_:TypeId:=4
theorem uX_:(Tryz.prog.info? 4).map (fun i=>(i.zero,i.size,i.bytes))=some (some (.bool false),1,1):=k_
abbrev ae_:TypeId:=5
theorem eH_:Tryz.prog.underlying 5=some (.int .u8):=k_
theorem bG_:(Tryz.prog.info? 5).map (fun i=>(i.zero,i.size,i.bytes))=some (some (.int .u8 0),1,1):=k_
abbrev bQ_:TypeId:=9
theorem dq_:Tryz.prog.underlying 9=some .string:=k_
theorem wg_:(Tryz.prog.info? 9).map (fun i=>(i.zero,i.size,i.bytes))=some (some (.string ⟨#[]⟩),1,16):=k_
abbrev aI_:TypeId:=23
theorem mb_:(Tryz.prog.info? 23).map (fun i=>(i.zero,i.size,i.bytes))=some (some (.pointer none),1,8):=k_
abbrev bb_:TypeId:=24
theorem dQ_:(Tryz.prog.info? 24).map (fun i=>(i.zero,i.size,i.bytes))=some (some (.agg #[.pointer none,.pointer none]),2,16):=k_
theorem j3_:(Tryz.prog.underlying 24).map bL_=some .ag:=k_
abbrev cz_:TypeId:=29
theorem hT_:(Tryz.prog.info? 29).map (fun i=>(i.zero,i.size,i.bytes))=some (some (.int .u16 0),1,2):=k_
abbrev aL_:TypeId:=32
theorem ba_:(Tryz.prog.info? 32).map (fun i=>(i.zero,i.size,i.bytes))=some (some (.agg #[.int .u8 0,.int .u16 0,.int .u64 0,.bool false,.int .i64 0,.int .i64 0,.bool false,.bool false]),8,48):=k_
theorem fh_:(Tryz.prog.underlying 32).map bL_=some .ag:=k_
abbrev aE_:TypeId:=33
theorem aN_:Tryz.prog.underlying 33=some (.slice 5):=k_
theorem tE_:(Tryz.prog.info? 33).map (fun i=>(i.zero,i.size,i.bytes))=some (some (.slice none 0 0),1,24):=k_
abbrev aa_:TypeId:=35
theorem hj_:(Tryz.prog.info? 35).map (fun i=>(i.zero,i.size,i.bytes))=some (some (.agg #[.int .u8 0,.int .u8 0,.int .u16 0,.int .u64 0,.bool false,.int .i64 0,.int .i64 0,.bool false,.bool false,.slice none 0 0]),10,80):=k_
theorem rq_:(Tryz.prog.underlying 35).map bL_=some .ag:=k_
abbrev jt_:TypeId:=43
theorem ju_:Tryz.prog.underlying 43=some (.slice 23):=k_
abbrev dr_:TypeId:=67
theorem rr_:Tryz.prog.underlying 67=some (.slice 97):=k_
abbrev lz_:TypeId:=81
theorem iX_:(Tryz.prog.info? 81).map (fun i=>(i.zero,i.size,i.bytes))=some (some (.agg #[.string ⟨#[]⟩,.string ⟨#[]⟩,.string ⟨#[]⟩,.string ⟨#[]⟩,.int .u8 0]),5,72):=k_
theorem lA_:(Tryz.prog.underlying 81).map bL_=some .ag:=k_
abbrev a7_:TypeId:=85
abbrev aJ_:TypeId:=97
theorem fR_:(Tryz.prog.info? 97).map (fun i=>(i.zero,i.size,i.bytes))=some (some (.agg #[.int .i64 0,.int .u64 0]),2,16):=k_
theorem j4_:(Tryz.prog.underlying 97).map bL_=some .ag:=k_
abbrev gq_:TypeId:=104
theorem so_:Tryz.prog.underlying 104=some (.slice 9):=k_
abbrev eI_:TypeId:=106
theorem g8_:Tryz.prog.underlying 106=some (.map 9 33):=k_
theorem no_:Tryz.prog.underlying 107=some (.slice 173):=k_
abbrev kZ_:TypeId:=108
theorem k0_:Tryz.prog.underlying 108=some (.map 3 4):=k_
abbrev ct_:TypeId:=110
abbrev bo_:TypeId:=131
theorem sp_:(Tryz.prog.info? 131).map (fun i=>(i.zero,i.size,i.bytes))=some (some (.agg #[.string ⟨#[]⟩,.string ⟨#[]⟩,.string ⟨#[]⟩,.string ⟨#[]⟩,.int .u8 0,.pointer none,.pointer none,.pointer none,.pointer none,.pointer none,.slice none 0 0,.int .u32 0,.int .i32 0,.int .u32 0,.int .i64 0,.int .i64 0]),16,168):=k_
abbrev aD_:TypeId:=135
theorem g9_:(Tryz.prog.info? 135).map (fun i=>(i.zero,i.size,i.bytes))=some (some (.agg #[.int .u8 0,.bool false,.int .u64 0,.int .u64 0,.int .i64 0,.bool false,.int .u8 0,.bool false,.bool false,.int .u8 0,.int .u8 0,.bool false,.int .u8 0,.int .u8 0,.bool false]),15,48):=k_
theorem pV_:(Tryz.prog.underlying 135).map bL_=some .ag:=k_
abbrev gA_:TypeId:=142
theorem ca_:(Tryz.prog.info? 142).map (fun i=>(i.zero,i.size,i.bytes))=some (some (.agg #[.bool false,.bool false,.bool false]),3,3):=k_
theorem e9_:(Tryz.prog.underlying 142).map bL_=some .ag:=k_
abbrev bO_:TypeId:=166
abbrev aX_:TypeId:=173
theorem f3_:(Tryz.prog.info? 173).map (fun i=>(i.zero,i.size,i.bytes))=some (some (.agg #[.int .u8 0,.string ⟨#[]⟩,.string ⟨#[]⟩,.int .i64 0,.slice none 0 0]),5,72):=k_
theorem k1_:(Tryz.prog.underlying 173).map bL_=some .ag:=k_
abbrev sq_:TypeId:=196
theorem fi_:Tryz.prog.underlying 196=some (.slice 29):=k_
abbrev gB_:TypeId:=199
abbrev bY_:TypeId:=201
abbrev jv_:TypeId:=205
abbrev iK_:TypeId:=245
abbrev fa_:TypeId:=247
abbrev bz_:TypeId:=260
theorem rs_:(Tryz.prog.info? 260).map (fun i=>(i.zero,i.size,i.bytes))=some (some (.agg #[.int .u8 0,.int .u8 0,.int .u64 0,.int .u64 0,.bool false]),5,32):=k_
theorem wh_:(Tryz.prog.underlying 260).map bL_=some .ag:=k_
abbrev c1_:TypeId:=261
theorem qx_:Tryz.prog.underlying 261=some (.slice 265):=k_
abbrev a0_:TypeId:=265
theorem lB_:(Tryz.prog.info? 265).map (fun i=>(i.zero,i.size,i.bytes))=some (some (.agg #[.int .i64 0,.int .u16 0]),2,16):=k_
theorem tF_:(Tryz.prog.underlying 265).map bL_=some .ag:=k_
abbrev pq_:TypeId:=266
theorem pr_:Tryz.prog.underlying 266=some (.slice 337):=k_
abbrev aZ_:TypeId:=268
theorem jw_:(Tryz.prog.info? 268).map (fun i=>(i.zero,i.size,i.bytes))=some (some (.agg #[.slice none 0 0,.slice none 0 0]),2,48):=k_
theorem rt_:(Tryz.prog.underlying 268).map bL_=some .ag:=k_
abbrev cA_:TypeId:=271
theorem nY_:Tryz.prog.underlying 271=some (.slice 273):=k_
abbrev bj_:TypeId:=273
theorem iL_:(Tryz.prog.info? 273).map (fun i=>(i.zero,i.size,i.bytes))=some (some (.agg #[.string ⟨#[]⟩,.pointer none,.int .u8 0]),3,32):=k_
abbrev k2_:TypeId:=280
theorem k3_:Tryz.prog.underlying 280=some (.slice 348):=k_
abbrev b7_:TypeId:=337
theorem h4_:(Tryz.prog.info? 337).map (fun i=>(i.zero,i.size,i.bytes))=some (some (.agg #[.int .i64 0,.int .i64 0,.int .i64 0,.int .u64 0,.int .u64 0]),5,40):=k_
theorem sr_:(Tryz.prog.underlying 337).map bL_=some .ag:=k_
abbrev ov_:TypeId:=344
theorem tG_:(Tryz.prog.info? 344).map (fun i=>(i.zero,i.size,i.bytes))=some (some (.agg #[.int .u8 0,.int .u8 0,.int .u8 0,.int .u8 0,.int .u8 0,.int .u8 0,.int .u8 0,.int .u8 0,.int .u8 0,.int .u8 0,.int .u8 0,.int .u8 0,.int .u8 0,.int .u8 0,.int .u8 0,.int .u8 0]),16,16):=k_
theorem tH_:(Tryz.prog.underlying 344).map bL_=some .ag:=k_
abbrev fj_:TypeId:=346
theorem ec_:(Tryz.prog.info? 346).map (fun i=>(i.zero,i.size,i.bytes))=some (some (.agg #[.int .u16 0,.int .u16 0,.int .u32 0]),3,8):=k_
theorem ss_:(Tryz.prog.underlying 346).map bL_=some .ag:=k_
abbrev av_:TypeId:=348
theorem bA_:(Tryz.prog.info? 348).map (fun i=>(i.zero,i.size,i.bytes))=some (some (.agg #[.int .u8 0,.int .u8 0,.int .u8 0,.int .u8 0,.int .u8 0,.int .u8 0,.int .u8 0,.int .u8 0,.int .u8 0,.int .u8 0,.int .u8 0,.int .u8 0,.int .u8 0,.int .u8 0,.int .u8 0,.int .u8 0,.int .u16 0,.int .u16 0,.int .u32 0]),19,24):=k_
theorem ed_:(Tryz.prog.underlying 348).map bL_=some .ag:=k_
open Go CF
set_option linter.unusedVariables false
set_option maxRecDepth 100000
def cI_ (data:Sl) (peers:Bool) (reserved:Bool) (w:World) (R:Bool→W_):Prop:=
 dH_  w fun b w0=>Br ((!b)||(decide ((data.n:Int)<16))) (dH_  w0 fun b1 w01=>R b1 w01) (iU_  w0 fun p w02=>cL_ p 0 w02 fun g w03=>New (.cells #[.pointer none,.pointer none] 24) w03 fun u w04=>ag_ Tryz.prog (storeVar 24 u (.agg g)) w04 fun w05=>aY_ (fun(w06:World)=>aY_ (fun(w07:World)=>∀w08,w08=w07.drew→∃S:W_,S w08∧(0≤(0:Int)∧(0:Int)<(2:Int))∧∃p1:O_,(∀u1,S u1→u1.cell? (u.add ((0:Int).toNat*1))=some (.pointer p1))∧(0≤(0:Int)∧(0:Int)≤(16:Int)∧(16:Int)≤(data.c:Int)∧data.n≤data.c)∧(ai_ Tryz.prog .sl (Instr.buildSlice 33 10 #[(0,.int .u8 42),(1,.int .u8 0),(2,.int .u8 0),(3,.int .u8 0),(4,.int .u8 0),(5,.int .u8 1),(6,.int .u8 0),(7,.int .u8 0),(8,.int .u8 1),(9,.int .u8 0)]) w08 fun xs w09=>S w09∧(aV_ p1 0 xs ⟨(aP_ data.A data.c 0 1),(16-0),(data.c-0)⟩ w09 fun g1 w010=>New (.cells #[.int .u8 0,.int .u8 0,.int .u16 0,.int .u64 0,.bool false,.int .i64 0,.int .i64 0,.bool false,.bool false,.slice none 0 0] 35) w010 fun r w011=>S w011∧ag_ Tryz.prog (storeVar 35 r (.agg g1)) w011 fun w012=>∃n:Int,w012.cell? (r.add 0)=some (.int .u8 n)∧Br (n != 0) (R false w012) (ai_ Tryz.prog .sl (Instr.makeSlice 33 (.int .i64 16) (.int .i64 16)) w012 fun xs1 w013=>(0≤(3:Int)∧(3:Int)<(xs1.n:Int)∧xs1.A.isSome=true)∧Put ((gA xs1.A).add ((3:Int).toNat*1)) (.int .u8 64) w013 fun w014=>(0≤(11:Int)∧(11:Int)<(xs1.n:Int)∧xs1.A.isSome=true)∧Put ((gA xs1.A).add ((11:Int).toNat*1)) (.int .u8 28) w014 fun w015=>∃(I:Sl→Int→W_) (μ:Sl→Int→World→Nat),I xs1 0 w015∧∀(p2:Sl) (i:Int) (w016:World),I p2 i w016→Br (decide (i<2)) (ai_ Tryz.prog .sl (Instr.buildSlice 33 10 #[(0,.int .u8 228),(1,.int .u8 0),(2,.int .u8 0),(3,.int .u8 0),(4,.int .u8 2),(5,.int .u8 1),(6,.int .u8 0),(7,.int .u8 20),(8,.int .u8 83),(9,.int .u8 (IntKind.wrap .u8 (IntKind.wrap .i64 (48+i))))]) w016 fun xs2 w017=>ai_ Tryz.prog .sl (Builtin.append_ #[33,33] 33 #[.slice p2.A p2.n p2.c,.slice xs2.A xs2.n xs2.c]) w017 fun xs3 w018=>∃(I1:Sl→Int→W_) (μ1:Sl→Int→World→Nat),I1 xs3 0 w018∧∀(p3:Sl) (k:Int) (w019:World),I1 p3 k w019→Br (decide (k<18)) (ai_ Tryz.prog .sl (Instr.buildSlice 33 1 #[(0,.int .u8 32)]) w019 fun xs4 w020=>ai_ Tryz.prog .sl (Builtin.append_ #[33,33] 33 #[.slice p3.A p3.n p3.c,.slice xs4.A xs4.n xs4.c]) w020 fun xs5 w021=>I1 xs5 (IntKind.wrap .i64 (k+1)) w021∧μ1 xs5 (IntKind.wrap .i64 (k+1)) w021<μ1 p3 k w019) (ai_ Tryz.prog .sl (Instr.buildSlice 33 4 #[(0,.int .u8 0),(1,.int .u8 0),(2,.int .u8 0),(3,.int .u8 16)]) w019 fun xs6 w022=>ai_ Tryz.prog .sl (Builtin.append_ #[33,33] 33 #[.slice p3.A p3.n p3.c,.slice xs6.A xs6.n xs6.c]) w022 fun xs7 w023=>I xs7 (IntKind.wrap .i64 (i+1)) w023∧μ xs7 (IntKind.wrap .i64 (i+1)) w023<μ p2 i w016)) (ai_ Tryz.prog .sl (Instr.buildSlice 33 28 #[(0,.int .u8 2),(1,.int .u8 0),(2,.int .u8 0),(3,.int .u8 24),(4,.int .u8 0),(5,.int .u8 0),(6,.int .u8 0),(7,.int .u8 1),(8,.int .u8 0),(9,.int .u8 0),(10,.int .u8 0),(11,.int .u8 1),(12,.int .u8 0),(13,.int .u8 0),(14,.int .u8 0),(15,.int .u8 0),(16,.int .u8 0),(17,.int .u8 0),(18,.int .u8 0),(19,.int .u8 1),(20,.int .u8 0),(21,.int .u8 0),(22,.int .u8 0),(23,.int .u8 0),(24,.int .u8 0),(25,.int .u8 0),(26,.int .u8 0),(27,.int .u8 2)]) w016 fun xs8 w024=>ai_ Tryz.prog .sl (Builtin.append_ #[33,33] 33 #[.slice p2.A p2.n p2.c,.slice xs8.A xs8.n xs8.c]) w024 fun xs9 w025=>(0≤(0:Int)∧(0:Int)<(2:Int))∧∃p4:O_,w025.cell? (u.add ((0:Int).toNat*1))=some (.pointer p4)∧ai_ Tryz.prog .sl (Instr.buildSlice 33 16 #[(0,.int .u8 131),(1,.int .u8 0),(2,.int .u8 0),(3,.int .u8 0),(4,.int .u8 0),(5,.int .u8 0),(6,.int .u8 0),(7,.int .u8 0),(8,.int .u8 0),(9,.int .u8 0),(10,.int .u8 0),(11,.int .u8 0),(12,.int .u8 0),(13,.int .u8 (IntKind.wrap .u8 (xs9.n:Int))),(14,.int .u8 0),(15,.int .u8 0)]) w025 fun xs10 w026=>aV_ p4 0 xs10 xs9 w026 fun g2 w027=>New (.cells #[.int .u8 0,.int .u8 0,.int .u16 0,.int .u64 0,.bool false,.int .i64 0,.int .i64 0,.bool false,.bool false,.slice none 0 0] 35) w027 fun r1 w028=>ag_ Tryz.prog (storeVar 35 r1 (.agg g2)) w028 fun w029=>(0≤(1:Int)∧(1:Int)<(2:Int))∧∃p5:O_,w029.cell? (u.add ((1:Int).toNat*1))=some (.pointer p5)∧ai_ Tryz.prog .sl (Instr.buildSlice 33 10 #[(0,.int .u8 40),(1,.int .u8 0),(2,.int .u8 0),(3,.int .u8 0),(4,.int .u8 0),(5,.int .u8 2),(6,.int .u8 0),(7,.int .u8 0),(8,.int .u8 1),(9,.int .u8 0)]) w029 fun xs11 w030=>aV_ p5 3 xs11 ⟨none,0,0⟩ w030 fun g3 w031=>New (.cells #[.int .u8 0,.int .u8 0,.int .u16 0,.int .u64 0,.bool false,.int .i64 0,.int .i64 0,.bool false,.bool false,.slice none 0 0] 35) w031 fun got w032=>ag_ Tryz.prog (storeVar 35 got (.agg g3)) w032 fun w033=>∃n1:Int,w033.cell? (got.add 0)=some (.int .u8 n1)∧Br (n1 != 0) (R false w033) (Br (peers&&(!reserved)) (∀w034,w034=w033.drew→∃S1:W_,S1 w034∧∃n2:Int,(∀u2,S1 u2→u2.cell? (r1.add 0)=some (.int .u8 n2))∧∃xs12:Sl,((n2==0)=true→(∀u3,S1 u3→u3.cell? (got.add 9)=some (.slice xs12.A xs12.n xs12.c)))∧∃s:ByteArray,((n2==0)=true→(∀u4,S1 u4→(convert 33 9 (.slice xs12.A xs12.n xs12.c)).run Tryz.prog u4=.ok (.string s) u4))∧((n2==0)=true→(0≤(0:Int)∧(0:Int)≤(16:Int)∧(16:Int)≤(data.c:Int)∧data.n≤data.c))∧∃s1:ByteArray,((n2==0)=true→(∀u5,S1 u5→(convert 33 9 (.slice (aP_ data.A data.c 0 1) (16-0) (data.c-0))).run Tryz.prog u5=.ok (.string s1) u5))∧R ((n2==0)&&(sEq s s1)) w034) (∀w035,w035=w033.drew→∃S2:W_,S2 w035∧∃n3:Int,(∀u6,S2 u6→u6.cell? (r1.add 0)=some (.int .u8 n3))∧∃n4:Int,((n3==2)=true→(∀u7,S2 u7→u7.cell? ((r1.add 1).add 0)=some (.int .u8 n4)))∧∃n5:Int,(((n3==2)&&(n4==10))=true→(∀u8,S2 u8→u8.cell? ((r1.add 1).add 1)=some (.int .u16 n5)))∧∃xs13:Sl,((((n3==2)&&(n4==10))&&(n5==3330))=true→(∀u9,S2 u9→u9.cell? (got.add 9)=some (.slice xs13.A xs13.n xs13.c)))∧∃s2:ByteArray,((((n3==2)&&(n4==10))&&(n5==3330))=true→(∀u10,S2 u10→(convert 33 9 (.slice xs13.A xs13.n xs13.c)).run Tryz.prog u10=.ok (.string s2) u10))∧bI_ (fun(xs14:Sl) (w036:World)=>S2 w036∧∃S3:W_,S3 w036∧(∀u11,S3 u11→S2 u11)∧∃s3:ByteArray,((((n3==2)&&(n4==10))&&(n5==3330))=true→(∀u12,S3 u12→(convert 33 9 (.slice xs14.A xs14.n xs14.c)).run Tryz.prog u12=.ok (.string s3) u12))∧R ((((n3==2)&&(n4==10))&&(n5==3330))&&(sEq s2 s3)) w036) fun J_=>((((n3==2)&&(n4==10))&&(n5==3330))=true→ai_ Tryz.prog .sl (Instr.makeSlice 33 (.int .i64 16) (.int .i64 16)) w035 J_)∧((((n3==2)&&(n4==10))&&(n5==3330))=false→J_ (Kd.dflt .sl) w035))))))∧New (.cells #[.int .u8 0,.int .u8 0,.int .u16 0,.int .u64 0,.bool false,.int .i64 0,.int .i64 0,.bool false,.bool false,.slice none 0 0] 35) w09 fun r2 w037=>S w037∧aV_ p1 0 xs ⟨(aP_ data.A data.c 0 1),(16-0),(data.c-0)⟩ w037 fun g4 w038=>ag_ Tryz.prog (storeVar 35 r2 (.agg g4)) w038 fun w039=>∃n6:Int,w039.cell? (r2.add 0)=some (.int .u8 n6)∧Br (n6 != 0) (R false w039) (ai_ Tryz.prog .sl (Instr.makeSlice 33 (.int .i64 16) (.int .i64 16)) w039 fun xs15 w040=>(0≤(3:Int)∧(3:Int)<(xs15.n:Int)∧xs15.A.isSome=true)∧Put ((gA xs15.A).add ((3:Int).toNat*1)) (.int .u8 64) w040 fun w041=>(0≤(11:Int)∧(11:Int)<(xs15.n:Int)∧xs15.A.isSome=true)∧Put ((gA xs15.A).add ((11:Int).toNat*1)) (.int .u8 28) w041 fun w042=>∃(I2:Sl→Int→W_) (μ2:Sl→Int→World→Nat),I2 xs15 0 w042∧∀(p6:Sl) (i1:Int) (w043:World),I2 p6 i1 w043→Br (decide (i1<2)) (ai_ Tryz.prog .sl (Instr.buildSlice 33 10 #[(0,.int .u8 228),(1,.int .u8 0),(2,.int .u8 0),(3,.int .u8 0),(4,.int .u8 2),(5,.int .u8 1),(6,.int .u8 0),(7,.int .u8 20),(8,.int .u8 83),(9,.int .u8 (IntKind.wrap .u8 (IntKind.wrap .i64 (48+i1))))]) w043 fun xs16 w044=>ai_ Tryz.prog .sl (Builtin.append_ #[33,33] 33 #[.slice p6.A p6.n p6.c,.slice xs16.A xs16.n xs16.c]) w044 fun xs17 w045=>∃(I3:Sl→Int→W_) (μ3:Sl→Int→World→Nat),I3 xs17 0 w045∧∀(p7:Sl) (k1:Int) (w046:World),I3 p7 k1 w046→Br (decide (k1<18)) (ai_ Tryz.prog .sl (Instr.buildSlice 33 1 #[(0,.int .u8 32)]) w046 fun xs18 w047=>ai_ Tryz.prog .sl (Builtin.append_ #[33,33] 33 #[.slice p7.A p7.n p7.c,.slice xs18.A xs18.n xs18.c]) w047 fun xs19 w048=>I3 xs19 (IntKind.wrap .i64 (k1+1)) w048∧μ3 xs19 (IntKind.wrap .i64 (k1+1)) w048<μ3 p7 k1 w046) (ai_ Tryz.prog .sl (Instr.buildSlice 33 4 #[(0,.int .u8 0),(1,.int .u8 0),(2,.int .u8 0),(3,.int .u8 16)]) w046 fun xs20 w049=>ai_ Tryz.prog .sl (Builtin.append_ #[33,33] 33 #[.slice p7.A p7.n p7.c,.slice xs20.A xs20.n xs20.c]) w049 fun xs21 w050=>I2 xs21 (IntKind.wrap .i64 (i1+1)) w050∧μ2 xs21 (IntKind.wrap .i64 (i1+1)) w050<μ2 p6 i1 w043)) (ai_ Tryz.prog .sl (Instr.buildSlice 33 28 #[(0,.int .u8 2),(1,.int .u8 0),(2,.int .u8 0),(3,.int .u8 24),(4,.int .u8 0),(5,.int .u8 0),(6,.int .u8 0),(7,.int .u8 1),(8,.int .u8 0),(9,.int .u8 0),(10,.int .u8 0),(11,.int .u8 1),(12,.int .u8 0),(13,.int .u8 0),(14,.int .u8 0),(15,.int .u8 0),(16,.int .u8 0),(17,.int .u8 0),(18,.int .u8 0),(19,.int .u8 1),(20,.int .u8 0),(21,.int .u8 0),(22,.int .u8 0),(23,.int .u8 0),(24,.int .u8 0),(25,.int .u8 0),(26,.int .u8 0),(27,.int .u8 2)]) w043 fun xs22 w051=>ai_ Tryz.prog .sl (Builtin.append_ #[33,33] 33 #[.slice p6.A p6.n p6.c,.slice xs22.A xs22.n xs22.c]) w051 fun xs23 w052=>(0≤(0:Int)∧(0:Int)<(2:Int))∧∃p8:O_,w052.cell? (u.add ((0:Int).toNat*1))=some (.pointer p8)∧ai_ Tryz.prog .sl (Instr.buildSlice 33 16 #[(0,.int .u8 131),(1,.int .u8 0),(2,.int .u8 0),(3,.int .u8 0),(4,.int .u8 0),(5,.int .u8 0),(6,.int .u8 0),(7,.int .u8 0),(8,.int .u8 0),(9,.int .u8 0),(10,.int .u8 0),(11,.int .u8 0),(12,.int .u8 0),(13,.int .u8 (IntKind.wrap .u8 (xs23.n:Int))),(14,.int .u8 0),(15,.int .u8 0)]) w052 fun xs24 w053=>aV_ p8 0 xs24 xs23 w053 fun g5 w054=>New (.cells #[.int .u8 0,.int .u8 0,.int .u16 0,.int .u64 0,.bool false,.int .i64 0,.int .i64 0,.bool false,.bool false,.slice none 0 0] 35) w054 fun r3 w055=>ag_ Tryz.prog (storeVar 35 r3 (.agg g5)) w055 fun w056=>(0≤(1:Int)∧(1:Int)<(2:Int))∧∃p9:O_,w056.cell? (u.add ((1:Int).toNat*1))=some (.pointer p9)∧ai_ Tryz.prog .sl (Instr.buildSlice 33 10 #[(0,.int .u8 40),(1,.int .u8 0),(2,.int .u8 0),(3,.int .u8 0),(4,.int .u8 0),(5,.int .u8 2),(6,.int .u8 0),(7,.int .u8 0),(8,.int .u8 1),(9,.int .u8 0)]) w056 fun xs25 w057=>aV_ p9 3 xs25 ⟨none,0,0⟩ w057 fun g6 w058=>New (.cells #[.int .u8 0,.int .u8 0,.int .u16 0,.int .u64 0,.bool false,.int .i64 0,.int .i64 0,.bool false,.bool false,.slice none 0 0] 35) w058 fun got1 w059=>ag_ Tryz.prog (storeVar 35 got1 (.agg g6)) w059 fun w060=>∃n7:Int,w060.cell? (got1.add 0)=some (.int .u8 n7)∧Br (n7 != 0) (R false w060) (Br (peers&&(!reserved)) (∀w061,w061=w060.drew→∃S4:W_,S4 w061∧∃n8:Int,(∀u13,S4 u13→u13.cell? (r3.add 0)=some (.int .u8 n8))∧∃xs26:Sl,((n8==0)=true→(∀u14,S4 u14→u14.cell? (got1.add 9)=some (.slice xs26.A xs26.n xs26.c)))∧∃s4:ByteArray,((n8==0)=true→(∀u15,S4 u15→(convert 33 9 (.slice xs26.A xs26.n xs26.c)).run Tryz.prog u15=.ok (.string s4) u15))∧((n8==0)=true→(0≤(0:Int)∧(0:Int)≤(16:Int)∧(16:Int)≤(data.c:Int)∧data.n≤data.c))∧∃s5:ByteArray,((n8==0)=true→(∀u16,S4 u16→(convert 33 9 (.slice (aP_ data.A data.c 0 1) (16-0) (data.c-0))).run Tryz.prog u16=.ok (.string s5) u16))∧R ((n8==0)&&(sEq s4 s5)) w061) (∀w062,w062=w060.drew→∃S5:W_,S5 w062∧∃n9:Int,(∀u17,S5 u17→u17.cell? (r3.add 0)=some (.int .u8 n9))∧∃n10:Int,((n9==2)=true→(∀u18,S5 u18→u18.cell? ((r3.add 1).add 0)=some (.int .u8 n10)))∧∃n11:Int,(((n9==2)&&(n10==10))=true→(∀u19,S5 u19→u19.cell? ((r3.add 1).add 1)=some (.int .u16 n11)))∧∃xs27:Sl,((((n9==2)&&(n10==10))&&(n11==3330))=true→(∀u20,S5 u20→u20.cell? (got1.add 9)=some (.slice xs27.A xs27.n xs27.c)))∧∃s6:ByteArray,((((n9==2)&&(n10==10))&&(n11==3330))=true→(∀u21,S5 u21→(convert 33 9 (.slice xs27.A xs27.n xs27.c)).run Tryz.prog u21=.ok (.string s6) u21))∧bI_ (fun(xs28:Sl) (w063:World)=>S5 w063∧∃S6:W_,S6 w063∧(∀u22,S6 u22→S5 u22)∧∃s7:ByteArray,((((n9==2)&&(n10==10))&&(n11==3330))=true→(∀u23,S6 u23→(convert 33 9 (.slice xs28.A xs28.n xs28.c)).run Tryz.prog u23=.ok (.string s7) u23))∧R ((((n9==2)&&(n10==10))&&(n11==3330))&&(sEq s6 s7)) w063) fun J_1=>((((n9==2)&&(n10==10))&&(n11==3330))=true→ai_ Tryz.prog .sl (Instr.makeSlice 33 (.int .i64 16) (.int .i64 16)) w062 J_1)∧((((n9==2)&&(n10==10))&&(n11==3330))=false→J_1 (Kd.dflt .sl) w062))))))∧New (.cells #[.int .u8 0,.int .u8 0,.int .u16 0,.int .u64 0,.bool false,.int .i64 0,.int .i64 0,.bool false,.bool false,.slice none 0 0] 35) w08 fun r4 w064=>S w064∧ai_ Tryz.prog .sl (Instr.buildSlice 33 10 #[(0,.int .u8 42),(1,.int .u8 0),(2,.int .u8 0),(3,.int .u8 0),(4,.int .u8 0),(5,.int .u8 1),(6,.int .u8 0),(7,.int .u8 0),(8,.int .u8 1),(9,.int .u8 0)]) w064 fun xs29 w065=>S w065∧aV_ p1 0 xs29 ⟨(aP_ data.A data.c 0 1),(16-0),(data.c-0)⟩ w065 fun g7 w066=>ag_ Tryz.prog (storeVar 35 r4 (.agg g7)) w066 fun w067=>∃n12:Int,w067.cell? (r4.add 0)=some (.int .u8 n12)∧Br (n12 != 0) (R false w067) (ai_ Tryz.prog .sl (Instr.makeSlice 33 (.int .i64 16) (.int .i64 16)) w067 fun xs30 w068=>(0≤(3:Int)∧(3:Int)<(xs30.n:Int)∧xs30.A.isSome=true)∧Put ((gA xs30.A).add ((3:Int).toNat*1)) (.int .u8 64) w068 fun w069=>(0≤(11:Int)∧(11:Int)<(xs30.n:Int)∧xs30.A.isSome=true)∧Put ((gA xs30.A).add ((11:Int).toNat*1)) (.int .u8 28) w069 fun w070=>∃(I4:Sl→Int→W_) (μ4:Sl→Int→World→Nat),I4 xs30 0 w070∧∀(p10:Sl) (i2:Int) (w071:World),I4 p10 i2 w071→Br (decide (i2<2)) (ai_ Tryz.prog .sl (Instr.buildSlice 33 10 #[(0,.int .u8 228),(1,.int .u8 0),(2,.int .u8 0),(3,.int .u8 0),(4,.int .u8 2),(5,.int .u8 1),(6,.int .u8 0),(7,.int .u8 20),(8,.int .u8 83),(9,.int .u8 (IntKind.wrap .u8 (IntKind.wrap .i64 (48+i2))))]) w071 fun xs31 w072=>ai_ Tryz.prog .sl (Builtin.append_ #[33,33] 33 #[.slice p10.A p10.n p10.c,.slice xs31.A xs31.n xs31.c]) w072 fun xs32 w073=>∃(I5:Sl→Int→W_) (μ5:Sl→Int→World→Nat),I5 xs32 0 w073∧∀(p11:Sl) (k2:Int) (w074:World),I5 p11 k2 w074→Br (decide (k2<18)) (ai_ Tryz.prog .sl (Instr.buildSlice 33 1 #[(0,.int .u8 32)]) w074 fun xs33 w075=>ai_ Tryz.prog .sl (Builtin.append_ #[33,33] 33 #[.slice p11.A p11.n p11.c,.slice xs33.A xs33.n xs33.c]) w075 fun xs34 w076=>I5 xs34 (IntKind.wrap .i64 (k2+1)) w076∧μ5 xs34 (IntKind.wrap .i64 (k2+1)) w076<μ5 p11 k2 w074) (ai_ Tryz.prog .sl (Instr.buildSlice 33 4 #[(0,.int .u8 0),(1,.int .u8 0),(2,.int .u8 0),(3,.int .u8 16)]) w074 fun xs35 w077=>ai_ Tryz.prog .sl (Builtin.append_ #[33,33] 33 #[.slice p11.A p11.n p11.c,.slice xs35.A xs35.n xs35.c]) w077 fun xs36 w078=>I4 xs36 (IntKind.wrap .i64 (i2+1)) w078∧μ4 xs36 (IntKind.wrap .i64 (i2+1)) w078<μ4 p10 i2 w071)) (ai_ Tryz.prog .sl (Instr.buildSlice 33 28 #[(0,.int .u8 2),(1,.int .u8 0),(2,.int .u8 0),(3,.int .u8 24),(4,.int .u8 0),(5,.int .u8 0),(6,.int .u8 0),(7,.int .u8 1),(8,.int .u8 0),(9,.int .u8 0),(10,.int .u8 0),(11,.int .u8 1),(12,.int .u8 0),(13,.int .u8 0),(14,.int .u8 0),(15,.int .u8 0),(16,.int .u8 0),(17,.int .u8 0),(18,.int .u8 0),(19,.int .u8 1),(20,.int .u8 0),(21,.int .u8 0),(22,.int .u8 0),(23,.int .u8 0),(24,.int .u8 0),(25,.int .u8 0),(26,.int .u8 0),(27,.int .u8 2)]) w071 fun xs37 w079=>ai_ Tryz.prog .sl (Builtin.append_ #[33,33] 33 #[.slice p10.A p10.n p10.c,.slice xs37.A xs37.n xs37.c]) w079 fun xs38 w080=>(0≤(0:Int)∧(0:Int)<(2:Int))∧∃p12:O_,w080.cell? (u.add ((0:Int).toNat*1))=some (.pointer p12)∧ai_ Tryz.prog .sl (Instr.buildSlice 33 16 #[(0,.int .u8 131),(1,.int .u8 0),(2,.int .u8 0),(3,.int .u8 0),(4,.int .u8 0),(5,.int .u8 0),(6,.int .u8 0),(7,.int .u8 0),(8,.int .u8 0),(9,.int .u8 0),(10,.int .u8 0),(11,.int .u8 0),(12,.int .u8 0),(13,.int .u8 (IntKind.wrap .u8 (xs38.n:Int))),(14,.int .u8 0),(15,.int .u8 0)]) w080 fun xs39 w081=>aV_ p12 0 xs39 xs38 w081 fun g8 w082=>New (.cells #[.int .u8 0,.int .u8 0,.int .u16 0,.int .u64 0,.bool false,.int .i64 0,.int .i64 0,.bool false,.bool false,.slice none 0 0] 35) w082 fun r5 w083=>ag_ Tryz.prog (storeVar 35 r5 (.agg g8)) w083 fun w084=>(0≤(1:Int)∧(1:Int)<(2:Int))∧∃p13:O_,w084.cell? (u.add ((1:Int).toNat*1))=some (.pointer p13)∧ai_ Tryz.prog .sl (Instr.buildSlice 33 10 #[(0,.int .u8 40),(1,.int .u8 0),(2,.int .u8 0),(3,.int .u8 0),(4,.int .u8 0),(5,.int .u8 2),(6,.int .u8 0),(7,.int .u8 0),(8,.int .u8 1),(9,.int .u8 0)]) w084 fun xs40 w085=>aV_ p13 3 xs40 ⟨none,0,0⟩ w085 fun g9 w086=>New (.cells #[.int .u8 0,.int .u8 0,.int .u16 0,.int .u64 0,.bool false,.int .i64 0,.int .i64 0,.bool false,.bool false,.slice none 0 0] 35) w086 fun got2 w087=>ag_ Tryz.prog (storeVar 35 got2 (.agg g9)) w087 fun w088=>∃n13:Int,w088.cell? (got2.add 0)=some (.int .u8 n13)∧Br (n13 != 0) (R false w088) (Br (peers&&(!reserved)) (∀w089,w089=w088.drew→∃S7:W_,S7 w089∧∃n14:Int,(∀u24,S7 u24→u24.cell? (r5.add 0)=some (.int .u8 n14))∧∃xs41:Sl,((n14==0)=true→(∀u25,S7 u25→u25.cell? (got2.add 9)=some (.slice xs41.A xs41.n xs41.c)))∧∃s8:ByteArray,((n14==0)=true→(∀u26,S7 u26→(convert 33 9 (.slice xs41.A xs41.n xs41.c)).run Tryz.prog u26=.ok (.string s8) u26))∧((n14==0)=true→(0≤(0:Int)∧(0:Int)≤(16:Int)∧(16:Int)≤(data.c:Int)∧data.n≤data.c))∧∃s9:ByteArray,((n14==0)=true→(∀u27,S7 u27→(convert 33 9 (.slice (aP_ data.A data.c 0 1) (16-0) (data.c-0))).run Tryz.prog u27=.ok (.string s9) u27))∧R ((n14==0)&&(sEq s8 s9)) w089) (∀w090,w090=w088.drew→∃S8:W_,S8 w090∧∃n15:Int,(∀u28,S8 u28→u28.cell? (r5.add 0)=some (.int .u8 n15))∧∃n16:Int,((n15==2)=true→(∀u29,S8 u29→u29.cell? ((r5.add 1).add 0)=some (.int .u8 n16)))∧∃n17:Int,(((n15==2)&&(n16==10))=true→(∀u30,S8 u30→u30.cell? ((r5.add 1).add 1)=some (.int .u16 n17)))∧∃xs42:Sl,((((n15==2)&&(n16==10))&&(n17==3330))=true→(∀u31,S8 u31→u31.cell? (got2.add 9)=some (.slice xs42.A xs42.n xs42.c)))∧∃s10:ByteArray,((((n15==2)&&(n16==10))&&(n17==3330))=true→(∀u32,S8 u32→(convert 33 9 (.slice xs42.A xs42.n xs42.c)).run Tryz.prog u32=.ok (.string s10) u32))∧bI_ (fun(xs43:Sl) (w091:World)=>S8 w091∧∃S9:W_,S9 w091∧(∀u33,S9 u33→S8 u33)∧∃s11:ByteArray,((((n15==2)&&(n16==10))&&(n17==3330))=true→(∀u34,S9 u34→(convert 33 9 (.slice xs43.A xs43.n xs43.c)).run Tryz.prog u34=.ok (.string s11) u34))∧R ((((n15==2)&&(n16==10))&&(n17==3330))&&(sEq s10 s11)) w091) fun J_2=>((((n15==2)&&(n16==10))&&(n17==3330))=true→ai_ Tryz.prog .sl (Instr.makeSlice 33 (.int .i64 16) (.int .i64 16)) w090 J_2)∧((((n15==2)&&(n16==10))&&(n17==3330))=false→J_2 (Kd.dflt .sl) w090)))))) fun J_3=>Br reserved (de_ 6 0 0 5 false w06 fun xs44 xs45 w092=>(0≤(1:Int)∧(1:Int)<(2:Int))∧∃p14:O_,w092.cell? (u.add ((1:Int).toNat*1))=some (.pointer p14)∧aV_ p14 3 xs44 xs45 w092 fun g10 w093=>de_ 1 3 5 0 false w093 fun xs46 xs47 w094=>(0≤(1:Int)∧(1:Int)<(2:Int))∧∃p15:O_,w094.cell? (u.add ((1:Int).toNat*1))=some (.pointer p15)∧aV_ p15 3 xs46 xs47 w094 fun g11 w095=>New (.cells #[.int .u8 0,.int .u8 0,.int .u16 0,.int .u64 0,.bool false,.int .i64 0,.int .i64 0,.bool false,.bool false,.slice none 0 0] 35) w095 fun r6 w096=>ag_ Tryz.prog (storeVar 35 r6 (.agg g11)) w096 fun w097=>∃n18:Int,w097.cell? (r6.add 0)=some (.int .u8 n18)∧Br (n18 != 0) (R false w097) (J_3 w097)) (J_3 w06)) fun J_4=>Br (!peers) ((0≤(0:Int)∧(0:Int)<(2:Int))∧∃p16:O_,w05.cell? (u.add ((0:Int).toNat*1))=some (.pointer p16)∧(0≤(0:Int)∧(0:Int)<(2:Int))∧∃p17:O_,w05.cell? (u.add ((0:Int).toNat*1))=some (.pointer p17)∧ai_ Tryz.prog .sl (Instr.buildSlice 43 2 #[(0,.pointer none),(1,.pointer p17)]) w05 fun xs48 w098=>cx_ p16 xs48 w098 fun w099=>J_4 w099) (J_4 w05))
theorem cI_.calls (data:Sl) (peers:Bool) (reserved:Bool) (w:World) (R:Bool→W_) (h:cI_ data peers reserved w R):gm_ data peers reserved w R:=
 ad_ (aj_ af_) aB_ Tryz.func4 [(63,⟨[(13,.sl),(14,.i .i64)],[0,1,2,8]⟩),(75,⟨[(13,.sl),(15,.i .i64)],[0,1,2,8,14]⟩),(63,⟨[(13,.sl),(14,.i .i64)],[0,1,2,8]⟩),(75,⟨[(13,.sl),(15,.i .i64)],[0,1,2,8,14]⟩),(63,⟨[(13,.sl),(14,.i .i64)],[0,1,2,8]⟩),(75,⟨[(13,.sl),(15,.i .i64)],[0,1,2,8,14]⟩),(25,⟨[],[0,1,2,8]⟩),(19,⟨[],[0,1,2,8]⟩)] [.b] [.slice data.A data.n data.c,.bool peers,.bool reserved] w R (Eq.mp (show cI_ data peers reserved w R=vcF Tryz.prog G Tryz.f4 [(63,⟨[(13,.sl),(14,.i .i64)],[0,1,2,8]⟩),(75,⟨[(13,.sl),(15,.i .i64)],[0,1,2,8,14]⟩),(63,⟨[(13,.sl),(14,.i .i64)],[0,1,2,8]⟩),(75,⟨[(13,.sl),(15,.i .i64)],[0,1,2,8,14]⟩),(63,⟨[(13,.sl),(14,.i .i64)],[0,1,2,8]⟩),(75,⟨[(13,.sl),(15,.i .i64)],[0,1,2,8,14]⟩),(25,⟨[],[0,1,2,8]⟩),(19,⟨[],[0,1,2,8]⟩)] [.b] [.slice data.A data.n data.c,.bool peers,.bool reserved] w R by kernel_rfl) h)
open Go CF
set_option linter.unusedVariables false
set_option maxRecDepth 100000
def dR_ (w:World) (R:Bool→W_):Prop:=
 iU_  w fun p w0=>cL_ p 0 w0 fun g w01=>New (.cells #[.pointer none,.pointer none] 24) w01 fun u w02=>ag_ Tryz.prog (storeVar 24 u (.agg g)) w02 fun w03=>(0≤(0:Int)∧(0:Int)<(2:Int))∧∃p1:O_,w03.cell? (u.add ((0:Int).toNat*1))=some (.pointer p1)∧Br ((p1).isNone) (R false w03) (∀w04,w04=w03.drew→∃S:W_,S w04∧(0≤(0:Int)∧(0:Int)<(2:Int))∧∃p2:O_,(∀u1,S u1→u1.cell? (u.add ((0:Int).toNat*1))=some (.pointer p2))∧(a9_  w04 fun xs w05=>S w05∧(aM_ p2 0 xs ⟨none,0,0⟩ w05 fun g1 w06=>New (.cells #[.int .u8 0,.int .u8 0,.int .u16 0,.int .u64 0,.bool false,.int .i64 0,.int .i64 0,.bool false,.bool false,.slice none 0 0] 35) w06 fun a w07=>S w07∧ag_ Tryz.prog (storeVar 35 a (.agg g1)) w07 fun w08=>∀w09,w09=w08.drew→∃S1:W_,S1 w09∧(0≤(0:Int)∧(0:Int)<(2:Int))∧∃p3:O_,(∀u2,S1 u2→u2.cell? (u.add ((0:Int).toNat*1))=some (.pointer p3))∧(a9_  w09 fun xs1 w010=>S1 w010∧(aM_ p3 0 xs1 ⟨none,0,0⟩ w010 fun g2 w011=>New (.cells #[.int .u8 0,.int .u8 0,.int .u16 0,.int .u64 0,.bool false,.int .i64 0,.int .i64 0,.bool false,.bool false,.slice none 0 0] 35) w011 fun b w012=>S1 w012∧ag_ Tryz.prog (storeVar 35 b (.agg g2)) w012 fun w013=>∀w014,w014=w013.drew→∃S2:W_,S2 w014∧∃g3:A_,(∀u3,S2 u3→(loadVar 35 a).run Tryz.prog u3=.ok (.agg g3) u3)∧bk_ 6 10496 w014 fun g4 w015=>S2 w015∧aO_ g3 g4 w015 fun b1 w016=>S2 w016∧∃S3:W_,S3 w016∧(∀u4,S3 u4→S2 u4)∧∃g5:A_,(b1=true→(∀u5,S3 u5→(loadVar 35 b).run Tryz.prog u5=.ok (.agg g5) u5))∧∃S4:W_,S4 w016∧(∀u6,S4 u6→S3 u6)∧bI_ (fun(b2:Bool) (w017:World)=>R (b1&&b2) w017) fun J_=>(b1=true→aO_ g5 #[.int .u8 0,.int .u8 0,.int .u16 0,.int .u64 0,.bool false,.int .i64 0,.int .i64 0,.bool false,.bool false,.slice none 0 0] w016 J_)∧(b1=false→J_ (Kd.dflt .b) w016))∧New (.cells #[.int .u8 0,.int .u8 0,.int .u16 0,.int .u64 0,.bool false,.int .i64 0,.int .i64 0,.bool false,.bool false,.slice none 0 0] 35) w010 fun b3 w018=>S1 w018∧aM_ p3 0 xs1 ⟨none,0,0⟩ w018 fun g6 w019=>ag_ Tryz.prog (storeVar 35 b3 (.agg g6)) w019 fun w020=>∀w021,w021=w020.drew→∃S5:W_,S5 w021∧∃g7:A_,(∀u7,S5 u7→(loadVar 35 a).run Tryz.prog u7=.ok (.agg g7) u7)∧bk_ 6 10496 w021 fun g8 w022=>S5 w022∧aO_ g7 g8 w022 fun b4 w023=>S5 w023∧∃S6:W_,S6 w023∧(∀u8,S6 u8→S5 u8)∧∃g9:A_,(b4=true→(∀u9,S6 u9→(loadVar 35 b3).run Tryz.prog u9=.ok (.agg g9) u9))∧∃S7:W_,S7 w023∧(∀u10,S7 u10→S6 u10)∧bI_ (fun(b5:Bool) (w024:World)=>R (b4&&b5) w024) fun J_1=>(b4=true→aO_ g9 #[.int .u8 0,.int .u8 0,.int .u16 0,.int .u64 0,.bool false,.int .i64 0,.int .i64 0,.bool false,.bool false,.slice none 0 0] w023 J_1)∧(b4=false→J_1 (Kd.dflt .b) w023))∧New (.cells #[.int .u8 0,.int .u8 0,.int .u16 0,.int .u64 0,.bool false,.int .i64 0,.int .i64 0,.bool false,.bool false,.slice none 0 0] 35) w09 fun b6 w025=>S1 w025∧a9_  w025 fun xs2 w026=>S1 w026∧aM_ p3 0 xs2 ⟨none,0,0⟩ w026 fun g10 w027=>ag_ Tryz.prog (storeVar 35 b6 (.agg g10)) w027 fun w028=>∀w029,w029=w028.drew→∃S8:W_,S8 w029∧∃g11:A_,(∀u11,S8 u11→(loadVar 35 a).run Tryz.prog u11=.ok (.agg g11) u11)∧bk_ 6 10496 w029 fun g12 w030=>S8 w030∧aO_ g11 g12 w030 fun b7 w031=>S8 w031∧∃S9:W_,S9 w031∧(∀u12,S9 u12→S8 u12)∧∃g13:A_,(b7=true→(∀u13,S9 u13→(loadVar 35 b6).run Tryz.prog u13=.ok (.agg g13) u13))∧∃S10:W_,S10 w031∧(∀u14,S10 u14→S9 u14)∧bI_ (fun(b8:Bool) (w032:World)=>R (b7&&b8) w032) fun J_2=>(b7=true→aO_ g13 #[.int .u8 0,.int .u8 0,.int .u16 0,.int .u64 0,.bool false,.int .i64 0,.int .i64 0,.bool false,.bool false,.slice none 0 0] w031 J_2)∧(b7=false→J_2 (Kd.dflt .b) w031))∧New (.cells #[.int .u8 0,.int .u8 0,.int .u16 0,.int .u64 0,.bool false,.int .i64 0,.int .i64 0,.bool false,.bool false,.slice none 0 0] 35) w05 fun a1 w033=>S w033∧aM_ p2 0 xs ⟨none,0,0⟩ w033 fun g14 w034=>ag_ Tryz.prog (storeVar 35 a1 (.agg g14)) w034 fun w035=>∀w036,w036=w035.drew→∃S11:W_,S11 w036∧(0≤(0:Int)∧(0:Int)<(2:Int))∧∃p4:O_,(∀u15,S11 u15→u15.cell? (u.add ((0:Int).toNat*1))=some (.pointer p4))∧(a9_  w036 fun xs3 w037=>S11 w037∧(aM_ p4 0 xs3 ⟨none,0,0⟩ w037 fun g15 w038=>New (.cells #[.int .u8 0,.int .u8 0,.int .u16 0,.int .u64 0,.bool false,.int .i64 0,.int .i64 0,.bool false,.bool false,.slice none 0 0] 35) w038 fun b9 w039=>S11 w039∧ag_ Tryz.prog (storeVar 35 b9 (.agg g15)) w039 fun w040=>∀w041,w041=w040.drew→∃S12:W_,S12 w041∧∃g16:A_,(∀u16,S12 u16→(loadVar 35 a1).run Tryz.prog u16=.ok (.agg g16) u16)∧bk_ 6 10496 w041 fun g17 w042=>S12 w042∧aO_ g16 g17 w042 fun b10 w043=>S12 w043∧∃S13:W_,S13 w043∧(∀u17,S13 u17→S12 u17)∧∃g18:A_,(b10=true→(∀u18,S13 u18→(loadVar 35 b9).run Tryz.prog u18=.ok (.agg g18) u18))∧∃S14:W_,S14 w043∧(∀u19,S14 u19→S13 u19)∧bI_ (fun(b11:Bool) (w044:World)=>R (b10&&b11) w044) fun J_3=>(b10=true→aO_ g18 #[.int .u8 0,.int .u8 0,.int .u16 0,.int .u64 0,.bool false,.int .i64 0,.int .i64 0,.bool false,.bool false,.slice none 0 0] w043 J_3)∧(b10=false→J_3 (Kd.dflt .b) w043))∧New (.cells #[.int .u8 0,.int .u8 0,.int .u16 0,.int .u64 0,.bool false,.int .i64 0,.int .i64 0,.bool false,.bool false,.slice none 0 0] 35) w037 fun b12 w045=>S11 w045∧aM_ p4 0 xs3 ⟨none,0,0⟩ w045 fun g19 w046=>ag_ Tryz.prog (storeVar 35 b12 (.agg g19)) w046 fun w047=>∀w048,w048=w047.drew→∃S15:W_,S15 w048∧∃g20:A_,(∀u20,S15 u20→(loadVar 35 a1).run Tryz.prog u20=.ok (.agg g20) u20)∧bk_ 6 10496 w048 fun g21 w049=>S15 w049∧aO_ g20 g21 w049 fun b13 w050=>S15 w050∧∃S16:W_,S16 w050∧(∀u21,S16 u21→S15 u21)∧∃g22:A_,(b13=true→(∀u22,S16 u22→(loadVar 35 b12).run Tryz.prog u22=.ok (.agg g22) u22))∧∃S17:W_,S17 w050∧(∀u23,S17 u23→S16 u23)∧bI_ (fun(b14:Bool) (w051:World)=>R (b13&&b14) w051) fun J_4=>(b13=true→aO_ g22 #[.int .u8 0,.int .u8 0,.int .u16 0,.int .u64 0,.bool false,.int .i64 0,.int .i64 0,.bool false,.bool false,.slice none 0 0] w050 J_4)∧(b13=false→J_4 (Kd.dflt .b) w050))∧New (.cells #[.int .u8 0,.int .u8 0,.int .u16 0,.int .u64 0,.bool false,.int .i64 0,.int .i64 0,.bool false,.bool false,.slice none 0 0] 35) w036 fun b15 w052=>S11 w052∧a9_  w052 fun xs4 w053=>S11 w053∧aM_ p4 0 xs4 ⟨none,0,0⟩ w053 fun g23 w054=>ag_ Tryz.prog (storeVar 35 b15 (.agg g23)) w054 fun w055=>∀w056,w056=w055.drew→∃S18:W_,S18 w056∧∃g24:A_,(∀u24,S18 u24→(loadVar 35 a1).run Tryz.prog u24=.ok (.agg g24) u24)∧bk_ 6 10496 w056 fun g25 w057=>S18 w057∧aO_ g24 g25 w057 fun b16 w058=>S18 w058∧∃S19:W_,S19 w058∧(∀u25,S19 u25→S18 u25)∧∃g26:A_,(b16=true→(∀u26,S19 u26→(loadVar 35 b15).run Tryz.prog u26=.ok (.agg g26) u26))∧∃S20:W_,S20 w058∧(∀u27,S20 u27→S19 u27)∧bI_ (fun(b17:Bool) (w059:World)=>R (b16&&b17) w059) fun J_5=>(b16=true→aO_ g26 #[.int .u8 0,.int .u8 0,.int .u16 0,.int .u64 0,.bool false,.int .i64 0,.int .i64 0,.bool false,.bool false,.slice none 0 0] w058 J_5)∧(b16=false→J_5 (Kd.dflt .b) w058))∧New (.cells #[.int .u8 0,.int .u8 0,.int .u16 0,.int .u64 0,.bool false,.int .i64 0,.int .i64 0,.bool false,.bool false,.slice none 0 0] 35) w04 fun a2 w060=>S w060∧a9_  w060 fun xs5 w061=>S w061∧aM_ p2 0 xs5 ⟨none,0,0⟩ w061 fun g27 w062=>ag_ Tryz.prog (storeVar 35 a2 (.agg g27)) w062 fun w063=>∀w064,w064=w063.drew→∃S21:W_,S21 w064∧(0≤(0:Int)∧(0:Int)<(2:Int))∧∃p5:O_,(∀u28,S21 u28→u28.cell? (u.add ((0:Int).toNat*1))=some (.pointer p5))∧(a9_  w064 fun xs6 w065=>S21 w065∧(aM_ p5 0 xs6 ⟨none,0,0⟩ w065 fun g28 w066=>New (.cells #[.int .u8 0,.int .u8 0,.int .u16 0,.int .u64 0,.bool false,.int .i64 0,.int .i64 0,.bool false,.bool false,.slice none 0 0] 35) w066 fun b18 w067=>S21 w067∧ag_ Tryz.prog (storeVar 35 b18 (.agg g28)) w067 fun w068=>∀w069,w069=w068.drew→∃S22:W_,S22 w069∧∃g29:A_,(∀u29,S22 u29→(loadVar 35 a2).run Tryz.prog u29=.ok (.agg g29) u29)∧bk_ 6 10496 w069 fun g30 w070=>S22 w070∧aO_ g29 g30 w070 fun b19 w071=>S22 w071∧∃S23:W_,S23 w071∧(∀u30,S23 u30→S22 u30)∧∃g31:A_,(b19=true→(∀u31,S23 u31→(loadVar 35 b18).run Tryz.prog u31=.ok (.agg g31) u31))∧∃S24:W_,S24 w071∧(∀u32,S24 u32→S23 u32)∧bI_ (fun(b20:Bool) (w072:World)=>R (b19&&b20) w072) fun J_6=>(b19=true→aO_ g31 #[.int .u8 0,.int .u8 0,.int .u16 0,.int .u64 0,.bool false,.int .i64 0,.int .i64 0,.bool false,.bool false,.slice none 0 0] w071 J_6)∧(b19=false→J_6 (Kd.dflt .b) w071))∧New (.cells #[.int .u8 0,.int .u8 0,.int .u16 0,.int .u64 0,.bool false,.int .i64 0,.int .i64 0,.bool false,.bool false,.slice none 0 0] 35) w065 fun b21 w073=>S21 w073∧aM_ p5 0 xs6 ⟨none,0,0⟩ w073 fun g32 w074=>ag_ Tryz.prog (storeVar 35 b21 (.agg g32)) w074 fun w075=>∀w076,w076=w075.drew→∃S25:W_,S25 w076∧∃g33:A_,(∀u33,S25 u33→(loadVar 35 a2).run Tryz.prog u33=.ok (.agg g33) u33)∧bk_ 6 10496 w076 fun g34 w077=>S25 w077∧aO_ g33 g34 w077 fun b22 w078=>S25 w078∧∃S26:W_,S26 w078∧(∀u34,S26 u34→S25 u34)∧∃g35:A_,(b22=true→(∀u35,S26 u35→(loadVar 35 b21).run Tryz.prog u35=.ok (.agg g35) u35))∧∃S27:W_,S27 w078∧(∀u36,S27 u36→S26 u36)∧bI_ (fun(b23:Bool) (w079:World)=>R (b22&&b23) w079) fun J_7=>(b22=true→aO_ g35 #[.int .u8 0,.int .u8 0,.int .u16 0,.int .u64 0,.bool false,.int .i64 0,.int .i64 0,.bool false,.bool false,.slice none 0 0] w078 J_7)∧(b22=false→J_7 (Kd.dflt .b) w078))∧New (.cells #[.int .u8 0,.int .u8 0,.int .u16 0,.int .u64 0,.bool false,.int .i64 0,.int .i64 0,.bool false,.bool false,.slice none 0 0] 35) w064 fun b24 w080=>S21 w080∧a9_  w080 fun xs7 w081=>S21 w081∧aM_ p5 0 xs7 ⟨none,0,0⟩ w081 fun g36 w082=>ag_ Tryz.prog (storeVar 35 b24 (.agg g36)) w082 fun w083=>∀w084,w084=w083.drew→∃S28:W_,S28 w084∧∃g37:A_,(∀u37,S28 u37→(loadVar 35 a2).run Tryz.prog u37=.ok (.agg g37) u37)∧bk_ 6 10496 w084 fun g38 w085=>S28 w085∧aO_ g37 g38 w085 fun b25 w086=>S28 w086∧∃S29:W_,S29 w086∧(∀u38,S29 u38→S28 u38)∧∃g39:A_,(b25=true→(∀u39,S29 u39→(loadVar 35 b24).run Tryz.prog u39=.ok (.agg g39) u39))∧∃S30:W_,S30 w086∧(∀u40,S30 u40→S29 u40)∧bI_ (fun(b26:Bool) (w087:World)=>R (b25&&b26) w087) fun J_8=>(b25=true→aO_ g39 #[.int .u8 0,.int .u8 0,.int .u16 0,.int .u64 0,.bool false,.int .i64 0,.int .i64 0,.bool false,.bool false,.slice none 0 0] w086 J_8)∧(b25=false→J_8 (Kd.dflt .b) w086))
theorem dR_.calls (w:World) (R:Bool→W_) (h:dR_ w R):dH_ w R:=
 ad_ (aj_ af_) aB_ Tryz.func10 [] [.b] [] w R (Eq.mp (show dR_ w R=vcF Tryz.prog G Tryz.f10 [] [.b] [] w R by kernel_rfl) h)
def dS_ (w_:O_) (prot:Int) (w:World) (R:(A_)→W_):Prop:=
 New (.cells #[.pointer none,.pointer none] 24) w fun a w0=>New (.cells #[.pointer none,.pointer none] 24) w0 fun u w01=>∃(I:Int→W_) (μ:Int→World→Nat),I 0 w01∧∀(i:Int) (w02:World),I i w02→Br (decide (i<2)) (∀w03,w03=w02.drew→∃S:W_,S w03∧(ai_ Tryz.prog .sl (Instr.buildSlice 104 2 #[(0,.string s_a),(1,.string s_b)]) w03 fun xs w04=>S w04∧(0≤i∧i<(xs.n:Int)∧xs.A.isSome=true)∧∃S1:W_,S1 w04∧(∀u1,S1 u1→S u1)∧∃s:ByteArray,(∀u2,S1 u2→u2.cell? ((gA xs.A).add (i.toNat*1))=some (.string s))∧cn_ i prot w04 fun g w05=>S1 w05∧∃S2:W_,S2 w05∧(∀u3,S2 u3→S1 u3)∧∃g1:A_,(∀u4,S2 u4→(Instr.build 85 #[(0,.agg g),(1,.int .i64 24)]).run Tryz.prog u4=.ok (.agg g1) u4)∧fL_ w_ s g1 w05 fun p n w06=>(0≤i∧i<(2:Int))∧Put (u.add (i.toNat*1)) (.pointer p) w06 fun w07=>I (IntKind.wrap .i64 (i+1)) w07∧μ (IntKind.wrap .i64 (i+1)) w07<μ i w02)∧cn_ i prot w03 fun g2 w08=>S w08∧∃S3:W_,S3 w08∧(∀u5,S3 u5→S u5)∧∃g3:A_,(∀u6,S3 u6→(Instr.build 85 #[(0,.agg g2),(1,.int .i64 24)]).run Tryz.prog u6=.ok (.agg g3) u6)∧ai_ Tryz.prog .sl (Instr.buildSlice 104 2 #[(0,.string s_a),(1,.string s_b)]) w08 fun xs1 w09=>S3 w09∧(0≤i∧i<(xs1.n:Int)∧xs1.A.isSome=true)∧∃S4:W_,S4 w09∧(∀u7,S4 u7→S3 u7)∧∃s1:ByteArray,(∀u8,S4 u8→u8.cell? ((gA xs1.A).add (i.toNat*1))=some (.string s1))∧fL_ w_ s1 g3 w09 fun p1 n1 w010=>(0≤i∧i<(2:Int))∧Put (u.add (i.toNat*1)) (.pointer p1) w010 fun w011=>I (IntKind.wrap .i64 (i+1)) w011∧μ (IntKind.wrap .i64 (i+1)) w011<μ i w02) ((0≤(0:Int)∧(0:Int)<(2:Int))∧∃p2:O_,w02.cell? (u.add ((0:Int).toNat*1))=some (.pointer p2)∧(0≤(0:Int)∧(0:Int)<(2:Int))∧∃p3:O_,w02.cell? (u.add ((0:Int).toNat*1))=some (.pointer p3)∧(0≤(1:Int)∧(1:Int)<(2:Int))∧∃p4:O_,w02.cell? (u.add ((1:Int).toNat*1))=some (.pointer p4)∧ai_ Tryz.prog .sl (Instr.buildSlice 43 3 #[(0,.pointer p3),(1,.pointer none),(2,.pointer p4)]) w02 fun xs2 w012=>cx_ p2 xs2 w012 fun w013=>(0≤(1:Int)∧(1:Int)<(2:Int))∧∃p5:O_,w013.cell? (u.add ((1:Int).toNat*1))=some (.pointer p5)∧(0≤(0:Int)∧(0:Int)<(2:Int))∧∃p6:O_,w013.cell? (u.add ((0:Int).toNat*1))=some (.pointer p6)∧ai_ Tryz.prog .sl (Instr.buildSlice 43 1 #[(0,.pointer p6)]) w013 fun xs3 w014=>cx_ p5 xs3 w014 fun w015=>∃g4:A_,(loadVar 24 u).run Tryz.prog w015=.ok (.agg g4) w015∧ag_ Tryz.prog (storeVar 24 a (.agg g4)) w015 fun w016=>∃res:A_,(loadVar 24 a).run Tryz.prog w016=.ok (.agg res) w016∧R res w016)
theorem dS_.calls (w_:O_) (prot:Int) (w:World) (R:(A_)→W_) (h:dS_ w_ prot w R):cL_ w_ prot w R:=
 ad_ (aj_ af_) aB_ Tryz.func11 [(9,⟨[(6,.i .i64)],[0,1,4,5]⟩)] [.ag] [.pointer w_,.int .u8 prot] w R (Eq.mp (show dS_ w_ prot w R=vcF Tryz.prog G Tryz.f11 [(9,⟨[(6,.i .i64)],[0,1,4,5]⟩)] [.ag] [.pointer w_,.int .u8 prot] w R by kernel_rfl) h)
def iY_ (w:World) (R:(O_)→W_):Prop:=
 New (.map #[] 0) w fun m w0=>New (.map #[] 0) w0 fun m1 w01=>New (.cells #[.map (some m.block),.map (some m1.block),.slice none 0 0,.int .i64 0,.map none,.int .i64 (-1),.bool false] 110) w01 fun a w02=>R (some a) w02
theorem iY_.calls (w:World) (R:(O_)→W_) (h:iY_ w R):iU_ w R:=
 ad_ (aj_ af_) aB_ Tryz.func12 [] [.p] [] w R (Eq.mp (show iY_ w R=vcF Tryz.prog G Tryz.f12 [] [.p] [] w R by kernel_rfl) h)
def em_ (u:O_) (nexus:Int) (cdb:Sl) (out:Sl) (w:World) (R:(A_)→W_):Prop:=
 New (.cells #[.int .u8 0,.int .u8 0,.int .u16 0,.int .u64 0,.bool false,.int .i64 0,.int .i64 0,.bool false,.bool false,.slice none 0 0] 35) w fun a w0=>aM_ u nexus cdb out w0 fun g w01=>New (.cells #[.int .u8 0,.int .u8 0,.int .u16 0,.int .u64 0,.bool false,.int .i64 0,.int .i64 0,.bool false,.bool false,.slice none 0 0] 35) w01 fun r w02=>ag_ Tryz.prog (storeVar 35 r (.agg g)) w02 fun w03=>∃(I:Int→W_) (μ:Int→World→Nat),I 0 w03∧∀(k:Int) (w04:World),I k w04→∃n:Int,(decide (k<9)=true→w04.cell? ((r.add 1).add 0)=some (.int .u8 n))∧Br ((decide (k<9))&&(n==6)) (aM_ u nexus cdb out w04 fun g1 w05=>ag_ Tryz.prog (storeVar 35 r (.agg g1)) w05 fun w06=>I (IntKind.wrap .i64 (k+1)) w06∧μ (IntKind.wrap .i64 (k+1)) w06<μ k w04) (∃g2:A_,(loadVar 35 r).run Tryz.prog w04=.ok (.agg g2) w04∧ag_ Tryz.prog (storeVar 35 a (.agg g2)) w04 fun w07=>∃res:A_,(loadVar 35 a).run Tryz.prog w07=.ok (.agg res) w07∧R res w07)
theorem em_.calls (u:O_) (nexus:Int) (cdb:Sl) (out:Sl) (w:World) (R:(A_)→W_) (h:em_ u nexus cdb out w R):aV_ u nexus cdb out w R:=
 ad_ (aj_ af_) aB_ Tryz.func13 [(9,⟨[(10,.i .i64)],[0,1,2,3,8,9]⟩)] [.ag] [.pointer u,.int .i64 nexus,.slice cdb.A cdb.n cdb.c,.slice out.A out.n out.c] w R (Eq.mp (show em_ u nexus cdb out w R=vcF Tryz.prog G Tryz.f13 [(9,⟨[(10,.i .i64)],[0,1,2,3,8,9]⟩)] [.ag] [.pointer u,.int .i64 nexus,.slice cdb.A cdb.n cdb.c,.slice out.A out.n out.c] w R by kernel_rfl) h)
def dT_ (w:World) (R:Sl→W_):Prop:=
 ai_ Tryz.prog .sl (Instr.makeSlice 33 (.int .i64 6) (.int .i64 6)) w fun xs w0=>R xs w0
theorem dT_.calls (w:World) (R:Sl→W_) (h:dT_ w R):a9_ w R:=
 ad_ (aj_ af_) aB_ Tryz.func14 [] [.sl] [] w R (Eq.mp (show dT_ w R=vcF Tryz.prog G Tryz.f14 [] [.sl] [] w R by kernel_rfl) h)
def fb_ (u:O_) (nexus:Int) (command:Sl) (out:Sl) (w:World) (R:(A_)→W_):Prop:=
 New (.cells #[.int .u8 0,.int .u8 0,.int .u16 0,.int .u64 0,.bool false,.int .i64 0,.int .i64 0,.bool false,.bool false,.slice none 0 0] 35) w fun a w0=>((!((u).isNone))=true→u.isSome=true)∧∃p:O_,((!((u).isNone))=true→w0.cell? ((gA u).add 5)=some (.pointer p))∧Br (((((u).isNone)||((p).isNone))||(decide (nexus<0)))||(decide (nexus≥8))) (a8_ #[.int .u8 5,.int .u16 9472,.int .u64 0,.bool false,.int .i64 0,.int .i64 0,.bool false,.bool false] w0 fun g w01=>ag_ Tryz.prog (storeVar 35 a (.agg g)) w01 fun w02=>∃res:A_,(loadVar 35 a).run Tryz.prog w02=.ok (.agg res) w02∧R res w02) (u.isSome=true∧go_ (some ((gA u).add 15)) 1 w0 fun n w03=>bT_ u w03 fun n1 w04=>Br (n1 != 0) (a8_ #[.int .u8 2,.int .u16 0,.int .u64 0,.bool false,.int .i64 0,.int .i64 0,.bool false,.bool false] w04 fun g1 w05=>ag_ Tryz.prog (storeVar 35 a (.agg g1)) w05 fun w06=>∃res1:A_,(loadVar 35 a).run Tryz.prog w06=.ok (.agg res1) w06∧R res1 w06) (lr_ command w04 fun g2 g3 b w07=>New (.cells #[.int .u8 0,.bool false,.int .u64 0,.int .u64 0,.int .i64 0,.bool false,.int .u8 0,.bool false,.bool false,.int .u8 0,.int .u8 0,.bool false,.int .u8 0,.int .u8 0,.bool false] 135) w07 fun c w08=>New (.cells #[.int .u8 0,.int .u16 0,.int .u64 0,.bool false,.int .i64 0,.int .i64 0,.bool false,.bool false] 32) w08 fun s w09=>ag_ Tryz.prog (storeVar 135 c (.agg g2)) w09 fun w010=>ag_ Tryz.prog (storeVar 32 s (.agg g3)) w010 fun w011=>Br (!b) (∃g4:A_,(loadVar 32 s).run Tryz.prog w011=.ok (.agg g4) w011∧a8_ g4 w011 fun g5 w012=>ag_ Tryz.prog (storeVar 35 a (.agg g5)) w012 fun w013=>∃cf_:A_,(loadVar 35 a).run Tryz.prog w013=.ok (.agg cf_) w013∧R cf_ w013) (∃n2:Int,w011.cell? (c.add 0)=some (.int .u8 n2)∧∃n3:Int,((!(n2==3))=true→w011.cell? (c.add 0)=some (.int .u8 n3))∧∃n4:Int,((!((n2==3)||(n3==17)))=true→w011.cell? (c.add 0)=some (.int .u8 n4))∧u.isSome=true∧∃p1:O_,w011.cell? ((gA u).add 9)=some (.pointer p1)∧gd_ p1 nexus w011 fun n5 b1 w014=>Br (b1&&(!(((n2==3)||(n3==17))||(n4==2)))) (u.isSome=true∧∃p2:O_,w014.cell? ((gA u).add 9)=some (.pointer p2)∧eh_ p2 nexus w014 fun n6 b2 w015=>a8_ #[.int .u8 6,.int .u16 n5,.int .u64 0,.bool false,.int .i64 0,.int .i64 0,.bool false,.bool false] w015 fun g6 w016=>ag_ Tryz.prog (storeVar 35 a (.agg g6)) w016 fun w017=>∃res3:A_,(loadVar 35 a).run Tryz.prog w017=.ok (.agg res3) w017∧R res3 w017) (∀w018,w018=w014.drew→∃S:W_,S w018∧u.isSome=true∧∃p3:O_,(∀u1,S u1→u1.cell? ((gA u).add 8)=some (.pointer p3))∧∃n7:Int,(∀u2,S u2→u2.cell? (c.add 0)=some (.int .u8 n7))∧gn_ n7 w018 fun n8 w019=>S w019∧bv_ p3 nexus n8 w019 fun b3 w020=>Br b3 (ag_ Tryz.prog (storeVar 35 a (.agg #[.int .u8 24,.int .u8 0,.int .u16 0,.int .u64 0,.bool false,.int .i64 0,.int .i64 0,.bool false,.bool false,.slice none 0 0])) w020 fun w021=>∃res4:A_,(loadVar 35 a).run Tryz.prog w021=.ok (.agg res4) w021∧R res4 w021) (∃n9:Int,w020.cell? (c.add 0)=some (.int .u8 n9)∧fM_ n9 w020 fun b4 w022=>(b4=true→u.isSome=true)∧∃p4:O_,(b4=true→w022.cell? ((gA u).add 7)=some (.pointer p4))∧bI_ (fun(g7:A_) (w023:World)=>∃b5:Bool,(b4=true→g7[2]?=some (.bool b5))∧Br (b4&&b5) (a8_ #[.int .u8 7,.int .u16 9984,.int .u64 0,.bool false,.int .i64 0,.int .i64 0,.bool false,.bool false] w023 fun g8 w024=>ag_ Tryz.prog (storeVar 35 a (.agg g8)) w024 fun w025=>∃res5:A_,(loadVar 35 a).run Tryz.prog w025=.ok (.agg res5) w025∧R res5 w025) (∃g9:A_,(loadVar 135 c).run Tryz.prog w023=.ok (.agg g9) w023∧bp_ u nexus g9 out w023 fun g10 w026=>ag_ Tryz.prog (storeVar 35 a (.agg g10)) w026 fun w027=>∃res6:A_,(loadVar 35 a).run Tryz.prog w027=.ok (.agg res6) w027∧R res6 w027)) fun J_=>(b4=true→b4_ p4 w022 J_)∧(b4=false→J_ (Kd.dflt .ag) w022))))))
theorem fb_.calls (u:O_) (nexus:Int) (command:Sl) (out:Sl) (w:World) (R:(A_)→W_) (h:fb_ u nexus command out w R):aM_ u nexus command out w R:=
 ad_ (aj_ af_) aB_ Tryz.func15 [] [.ag] [.pointer u,.int .i64 nexus,.slice command.A command.n command.c,.slice out.A out.n out.c] w R (Eq.mp (show fb_ u nexus command out w R=vcF Tryz.prog G Tryz.f15 [] [.ag] [.pointer u,.int .i64 nexus,.slice command.A command.n command.c,.slice out.A out.n out.c] w R by kernel_rfl) h)
def en_ (a:A_) (b:A_) (w:World) (R:Bool→W_):Prop:=
 New (.cells a 35) w fun a1 w0=>New (.cells b 35) w0 fun b1 w01=>∃n:Int,w01.cell? (a1.add 0)=some (.int .u8 n)∧∃n1:Int,w01.cell? (b1.add 0)=some (.int .u8 n1)∧∃g:A_,((n==n1)=true→(loadVar 32 (a1.add 1)).run Tryz.prog w01=.ok (.agg g) w01)∧∃g1:A_,((n==n1)=true→(loadVar 32 (b1.add 1)).run Tryz.prog w01=.ok (.agg g1) w01)∧∃b2:Bool,((n==n1)=true→(do eqGuard .eql 32 (.tmp 12) (.tmp 14) (.agg g) (.agg g1);binOp .eql 32 (.agg g) (.agg g1):Sem Value).run Tryz.prog w01=.ok (.bool b2) w01)∧∃xs:Sl,(((n==n1)&&b2)=true→w01.cell? (a1.add 9)=some (.slice xs.A xs.n xs.c))∧∃s:ByteArray,(((n==n1)&&b2)=true→(convert 33 9 (.slice xs.A xs.n xs.c)).run Tryz.prog w01=.ok (.string s) w01)∧∃xs1:Sl,(((n==n1)&&b2)=true→w01.cell? (b1.add 9)=some (.slice xs1.A xs1.n xs1.c))∧∃s1:ByteArray,(((n==n1)&&b2)=true→(convert 33 9 (.slice xs1.A xs1.n xs1.c)).run Tryz.prog w01=.ok (.string s1) w01)∧R (((n==n1)&&b2)&&(sEq s s1)) w01
theorem en_.calls (a:A_) (b:A_) (w:World) (R:Bool→W_) (h:en_ a b w R):aO_ a b w R:=
 ad_ (aj_ af_) aB_ Tryz.func16 [] [.b] [.agg a,.agg b] w R (Eq.mp (show en_ a b w R=vcF Tryz.prog G Tryz.f16 [] [.b] [.agg a,.agg b] w R by kernel_rfl) h)
def eo_ (key:Int) (code:Int) (w:World) (R:(A_)→W_):Prop:=
 New (.cells #[.int .u8 0,.int .u8 0,.int .u16 0,.int .u64 0,.bool false,.int .i64 0,.int .i64 0,.bool false,.bool false,.slice none 0 0] 35) w fun a w0=>∃g:A_,(Instr.build 35 #[(0,.int .u8 2),(1,.agg #[.int .u8 key,.int .u16 code,.int .u64 0,.bool false,.int .i64 0,.int .i64 0,.bool false,.bool false])]).run Tryz.prog w0=.ok (.agg g) w0∧ag_ Tryz.prog (storeVar 35 a (.agg g)) w0 fun w01=>∃res:A_,(loadVar 35 a).run Tryz.prog w01=.ok (.agg res) w01∧R res w01
theorem eo_.calls (key:Int) (code:Int) (w:World) (R:(A_)→W_) (h:eo_ key code w R):bk_ key code w R:=
 ad_ (aj_ af_) aB_ Tryz.func17 [] [.ag] [.int .u8 key,.int .u16 code] w R (Eq.mp (show eo_ key code w R=vcF Tryz.prog G Tryz.f17 [] [.ag] [.int .u8 key,.int .u16 code] w R by kernel_rfl) h)
def eU_ (u:O_) (l:Sl) (w:World) (R:W_):Prop:=
 Br ((u).isNone) (R w) (u.isSome=true∧Put ((gA u).add 10) (.slice none 0 0) w fun w0=>∃(I:Int→W_) (μ:Int→World→Nat),I 0 w0∧∀(x:Int) (w01:World),I x w01→Br (decide (x<(l.n:Int))) (aY_ (fun(w02:World)=>I (IntKind.wrap .i64 (x+1)) w02∧μ (IntKind.wrap .i64 (x+1)) w02<μ x w01) fun J_=>(0≤x∧x<(l.n:Int)∧l.A.isSome=true)∧∃p:O_,w01.cell? ((gA l.A).add (x.toNat*1))=some (.pointer p)∧((!(p).isNone)=true→p.isSome=true)∧∃p1:O_,((!(p).isNone)=true→w01.cell? ((gA p).add 5)=some (.pointer p1))∧∃b:Bool,(((!(p).isNone)&&(!(p1).isNone))=true→(do eqGuard .neq 23 (.tmp 27) (.tmp 28) (.pointer p) (.pointer u);binOp .neq 23 (.pointer p) (.pointer u):Sem Value).run Tryz.prog w01=.ok (.bool b) w01)∧Br (((!(p).isNone)&&(!(p1).isNone))&&b) (u.isSome=true∧∃xs:Sl,w01.cell? ((gA u).add 10)=some (.slice xs.A xs.n xs.c)∧ai_ Tryz.prog .sl (Instr.buildSlice 43 1 #[(0,.pointer p)]) w01 fun xs1 w04=>ai_ Tryz.prog .sl (Builtin.append_ #[43,43] 43 #[.slice xs.A xs.n xs.c,.slice xs1.A xs1.n xs1.c]) w04 fun xs2 w05=>u.isSome=true∧Put ((gA u).add 10) (.slice xs2.A xs2.n xs2.c) w05 fun w06=>J_ w06) (J_ w01)) (R w01))
theorem eU_.calls (u:O_) (l:Sl) (w:World) (R:W_) (h:eU_ u l w R):cx_ u l w R:=
 ad_ (aj_ af_) aB_ Tryz.func18 [(9,⟨[(13,.i .i64)],[0,11,12]⟩),(5,⟨[],[0,11,12,13]⟩)] [] [.pointer u,.slice l.A l.n l.c] w R (Eq.mp (show eU_ u l w R=vcF Tryz.prog G Tryz.f18 [(9,⟨[(13,.i .i64)],[0,11,12]⟩),(5,⟨[],[0,11,12,13]⟩)] [] [.pointer u,.slice l.A l.n l.c] w R by kernel_rfl) h)
def dg_ (service:Int) (kind:Int) (key:Int) (action:Int) (lasts:Bool) (w:World) (R:Sl→Sl→W_):Prop:=
 ai_ Tryz.prog .sl (Instr.buildSlice 33 10 #[(0,.int .u8 95),(1,.int .u8 service),(2,.int .u8 kind),(3,.int .u8 0),(4,.int .u8 0),(5,.int .u8 0),(6,.int .u8 0),(7,.int .u8 0),(8,.int .u8 24),(9,.int .u8 0)]) w fun xs w0=>dp_ key 8 w0 fun xs1 w01=>dp_ action 8 w01 fun xs2 w02=>ai_ Tryz.prog .sl (Builtin.append_ #[33,33] 33 #[.slice xs1.A xs1.n xs1.c,.slice xs2.A xs2.n xs2.c]) w02 fun xs3 w03=>ai_ Tryz.prog .sl (Instr.buildSlice 33 8 #[(0,.int .u8 0),(1,.int .u8 0),(2,.int .u8 0),(3,.int .u8 0),(4,.int .u8 0),(5,.int .u8 0),(6,.int .u8 0),(7,.int .u8 0)]) w03 fun xs4 w04=>ai_ Tryz.prog .sl (Builtin.append_ #[33,33] 33 #[.slice xs3.A xs3.n xs3.c,.slice xs4.A xs4.n xs4.c]) w04 fun xs5 w05=>Br lasts ((0≤(20:Int)∧(20:Int)<(xs5.n:Int)∧xs5.A.isSome=true)∧Put ((gA xs5.A).add ((20:Int).toNat*1)) (.int .u8 1) w05 fun w07=>R xs xs5 w07) (R xs xs5 w05)
theorem dg_.calls (service:Int) (kind:Int) (key:Int) (action:Int) (lasts:Bool) (w:World) (R:Sl→Sl→W_) (h:dg_ service kind key action lasts w R):de_ service kind key action lasts w R:=
 ad_ (aj_ af_) aB_ Tryz.func19 [] [.sl,.sl] [.int .u8 service,.int .u8 kind,.int .u64 key,.int .u64 action,.bool lasts] w R (Eq.mp (show dg_ service kind key action lasts w R=vcF Tryz.prog G Tryz.f19 [] [.sl,.sl] [.int .u8 service,.int .u8 kind,.int .u64 key,.int .u64 action,.bool lasts] w R by kernel_rfl) h)
def cB_ (u:O_) (w:World) (R:Int→W_):Prop:=
 New (.cells #[.pointer u] 23) w fun u1 w0=>∃p:O_,w0.cell? u1=some (.pointer p)∧∃p1:O_,((!((p).isNone))=true→w0.cell? u1=some (.pointer p1))∧((!((p).isNone))=true→p1.isSome=true)∧∃p2:O_,((!((p).isNone))=true→w0.cell? ((gA p1).add 5)=some (.pointer p2))∧Br (((p).isNone)||((p2).isNone)) (R 8 w0) (∃p3:O_,w0.cell? u1=some (.pointer p3)∧p3.isSome=true∧gw_ (some ((gA p3).add 11)) (.func (.func 61) #[] #[.pointer (some u1)]) w0 fun w01=>∃p4:O_,w01.cell? u1=some (.pointer p4)∧p4.isSome=true∧∃n:Int,w01.cell? ((gA p4).add 14)=some (.int .i64 n)∧R n w01)
theorem cB_.calls (u:O_) (w:World) (R:Int→W_) (h:cB_ u w R):bT_ u w R:=
 ad_ (aj_ af_) aB_ Tryz.func27 [] [.i .i64] [.pointer u] w R (Eq.mp (show cB_ u w R=vcF Tryz.prog G Tryz.f27 [] [.i .i64] [.pointer u] w R by kernel_rfl) h)
def j5_ (w_:O_) (name:ByteArray) (c:A_) (w:World) (R:(O_)→Int→W_):Prop:=
 New (.cells c 85) w fun c1 w0=>∃n:Int,((!((decide ((name.size:Int)<1))||(decide ((name.size:Int)>28))))=true→w0.cell? (c1.add 5)=some (.int .i64 n))∧∃n1:Int,((!(((decide ((name.size:Int)<1))||(decide ((name.size:Int)>28)))||(decide (n<1))))=true→w0.cell? (c1.add 5)=some (.int .i64 n1))∧Br ((((decide ((name.size:Int)<1))||(decide ((name.size:Int)>28)))||(decide (n<1)))||(decide (n1>4096))) (R none 1 w0) (∃g:A_,(loadVar 81 (c1.add 0)).run Tryz.prog w0=.ok (.agg g) w0∧mo_ g w0 fun b w01=>Br (!b) (R none 3 w01) (Br ((w_).isNone) (R none 8 w01) (∀w02,w02=w01.drew→∃S:W_,S w02∧(name.size+dG_.size≤9223372036854775807)∧∃n2:Int,(∀u,S u→u.cell? (c1.add 5)=some (.int .i64 n2))∧e8_  w02 fun g1 w03=>S w03∧∃S1:W_,S1 w03∧(∀u1,S1 u1→S u1)∧∃b1:Bool,(∀u2,S1 u2→g1[0]?=some (.bool b1))∧kB_ w_ (name++dG_) n2 b1 w03 fun p n3 w04=>(name.size+eD_.size≤9223372036854775807)∧kC_ w_ (name++eD_) w04 fun p1 n4 w05=>∀w06,w06=w05.drew→∃S2:W_,S2 w06∧∃g2:A_,(∀u3,S2 u3→(loadVar 81 (c1.add 0)).run Tryz.prog u3=.ok (.agg g2) u3)∧∃n5:Int,(∀u4,S2 u4→u4.cell? ((c1.add 0).add 4)=some (.int .u8 n5))∧(New (.cells #[.pointer p,.int .u8 n5] 166) w06 fun a w07=>S2 w07∧e8_  w07 fun g3 w08=>S2 w08∧g5_ g3 w08 fun p2 w09=>S2 w09∧hQ_  w09 fun p3 w010=>S2 w010∧fO_  w010 fun p4 w011=>S2 w011∧∃S3:W_,S3 w011∧(∀u5,S3 u5→S2 u5)∧∃g4:A_,(∀u6,S3 u6→(Instr.build 131 #[(0,.agg g2),(1,.pointer (some a)),(2,.pointer p1),(3,.pointer p2),(4,.pointer p3),(5,.pointer p4)]).run Tryz.prog u6=.ok (.agg g4) u6)∧New (.cells g4 131) w011 fun a1 w012=>R (some a1) 0 w012)∧e8_  w06 fun g5 w013=>S2 w013∧(New (.cells #[.pointer p,.int .u8 n5] 166) w013 fun a2 w014=>S2 w014∧g5_ g5 w014 fun p5 w015=>S2 w015∧hQ_  w015 fun p6 w016=>S2 w016∧fO_  w016 fun p7 w017=>S2 w017∧∃S4:W_,S4 w017∧(∀u7,S4 u7→S2 u7)∧∃g6:A_,(∀u8,S4 u8→(Instr.build 131 #[(0,.agg g2),(1,.pointer (some a2)),(2,.pointer p1),(3,.pointer p5),(4,.pointer p6),(5,.pointer p7)]).run Tryz.prog u8=.ok (.agg g6) u8)∧New (.cells g6 131) w017 fun a3 w018=>R (some a3) 0 w018)∧g5_ g5 w013 fun p8 w019=>S2 w019∧(New (.cells #[.pointer p,.int .u8 n5] 166) w019 fun a4 w020=>S2 w020∧hQ_  w020 fun p9 w021=>S2 w021∧fO_  w021 fun p10 w022=>S2 w022∧∃S5:W_,S5 w022∧(∀u9,S5 u9→S2 u9)∧∃g7:A_,(∀u10,S5 u10→(Instr.build 131 #[(0,.agg g2),(1,.pointer (some a4)),(2,.pointer p1),(3,.pointer p8),(4,.pointer p9),(5,.pointer p10)]).run Tryz.prog u10=.ok (.agg g7) u10)∧New (.cells g7 131) w022 fun a5 w023=>R (some a5) 0 w023)∧hQ_  w019 fun p11 w024=>S2 w024∧(New (.cells #[.pointer p,.int .u8 n5] 166) w024 fun a6 w025=>S2 w025∧fO_  w025 fun p12 w026=>S2 w026∧∃S6:W_,S6 w026∧(∀u11,S6 u11→S2 u11)∧∃g8:A_,(∀u12,S6 u12→(Instr.build 131 #[(0,.agg g2),(1,.pointer (some a6)),(2,.pointer p1),(3,.pointer p8),(4,.pointer p11),(5,.pointer p12)]).run Tryz.prog u12=.ok (.agg g8) u12)∧New (.cells g8 131) w026 fun a7 w027=>R (some a7) 0 w027)∧fO_  w024 fun p13 w028=>S2 w028∧New (.cells #[.pointer p,.int .u8 n5] 166) w028 fun a8 w029=>S2 w029∧∃S7:W_,S7 w029∧(∀u13,S7 u13→S2 u13)∧∃g9:A_,(∀u14,S7 u14→(Instr.build 131 #[(0,.agg g2),(1,.pointer (some a8)),(2,.pointer p1),(3,.pointer p8),(4,.pointer p11),(5,.pointer p13)]).run Tryz.prog u14=.ok (.agg g9) u14)∧New (.cells g9 131) w029 fun a9 w030=>R (some a9) 0 w030)))
theorem j5_.calls (w_:O_) (name:ByteArray) (c:A_) (w:World) (R:(O_)→Int→W_) (h:j5_ w_ name c w R):fL_ w_ name c w R:=
 ad_ (aj_ af_) aB_ Tryz.func28 [] [.p,.i .i64] [.pointer w_,.string name,.agg c] w R (Eq.mp (show j5_ w_ name c w R=vcF Tryz.prog G Tryz.f28 [] [.p,.i .i64] [.pointer w_,.string name,.agg c] w R by kernel_rfl) h)
def gr_ (k:Int) (w:World) (R:Int→W_):Prop:=
 aY_ (fun(x:Bool) (w01:World)=>Br x (R 1 w01) (Br (k==8) (Br (k==8) (R 2 w01) (R 0 w01)) (Br (k==9) (Br (k==9) (R 2 w01) (R 0 w01)) (Br (k==12) (Br (k==12) (R 2 w01) (R 0 w01)) (Br (k==13) (Br (k==13) (R 2 w01) (R 0 w01)) (Br (k==14) (Br (k==14) (R 2 w01) (R 0 w01)) (Br (k==4) (Br (k==4) (R 2 w01) (R 0 w01)) (Br (k==11) (Br (k==11) (R 2 w01) (R 0 w01)) (Br (k==18) (R 2 w01) (R 0 w01)))))))))) fun J_=>Br (k==1) (J_ (k==1) w) (Br (k==7) (J_ (k==7) w) (Br (k==10) (J_ (k==10) w) (J_ (k==5) w)))
theorem gr_.calls (k:Int) (w:World) (R:Int→W_) (h:gr_ k w R):gn_ k w R:=
 ad_ (aj_ af_) aB_ Tryz.func32 [(10,⟨[(4,.b)],[3]⟩)] [.i .u8] [.int .u8 k] w R (Eq.mp (show gr_ k w R=vcF Tryz.prog G Tryz.f32 [(10,⟨[(4,.b)],[3]⟩)] [.i .u8] [.int .u8 k] w R by kernel_rfl) h)
def hk_ (k:Int) (w:World) (R:Bool→W_):Prop:=
 Br (k==8) (Br (k==8) (R true w) (R false w)) (Br (k==9) (Br (k==9) (R true w) (R false w)) (Br (k==12) (Br (k==12) (R true w) (R false w)) (Br (k==13) (Br (k==13) (R true w) (R false w)) (Br (k==14) (R true w) (R false w)))))
theorem hk_.calls (k:Int) (w:World) (R:Bool→W_) (h:hk_ k w R):fM_ k w R:=
 ad_ (aj_ af_) aB_ Tryz.func34 [] [.b] [.int .u8 k] w R (Eq.mp (show hk_ k w R=vcF Tryz.prog G Tryz.f34 [] [.b] [.int .u8 k] w R by kernel_rfl) h)
open Go CF
set_option linter.unusedVariables false
set_option maxRecDepth 100000
def ep_ (i:Int) (prot:Int) (w:World) (R:(A_)→W_):Prop:=
 New (.cells #[.string ⟨#[]⟩,.string ⟨#[]⟩,.string ⟨#[]⟩,.string ⟨#[]⟩,.int .u8 0] 81) w fun a w0=>ai_ Tryz.prog .sl (Instr.buildSlice 104 2 #[(0,.string tC_),(1,.string tD_)]) w0 fun xs w01=>(0≤i∧i<(xs.n:Int)∧xs.A.isSome=true)∧∃s:ByteArray,w01.cell? ((gA xs.A).add (i.toNat*1))=some (.string s)∧ag_ Tryz.prog (storeVar 81 a (.agg #[.string s_V,.string s_P,.string s_1,.string s,.int .u8 prot])) w01 fun w02=>∃res:A_,(loadVar 81 a).run Tryz.prog w02=.ok (.agg res) w02∧R res w02
theorem ep_.calls (i:Int) (prot:Int) (w:World) (R:(A_)→W_) (h:ep_ i prot w R):cn_ i prot w R:=
 ad_ (aj_ af_) aB_ Tryz.func40 [] [.ag] [.int .i64 i,.int .u8 prot] w R (Eq.mp (show ep_ i prot w R=vcF Tryz.prog G Tryz.f40 [] [.ag] [.int .i64 i,.int .u8 prot] w R by kernel_rfl) h)
def h5_ (s:A_) (w:World) (R:(A_)→W_):Prop:=
 New (.cells s 32) w fun s1 w0=>New (.cells #[.int .u8 0,.int .u8 0,.int .u16 0,.int .u64 0,.bool false,.int .i64 0,.int .i64 0,.bool false,.bool false,.slice none 0 0] 35) w0 fun a w01=>∃g:A_,(loadVar 32 s1).run Tryz.prog w01=.ok (.agg g) w01∧∃g1:A_,(Instr.build 35 #[(0,.int .u8 2),(1,.agg g)]).run Tryz.prog w01=.ok (.agg g1) w01∧ag_ Tryz.prog (storeVar 35 a (.agg g1)) w01 fun w02=>∃res:A_,(loadVar 35 a).run Tryz.prog w02=.ok (.agg res) w02∧R res w02
theorem h5_.calls (s:A_) (w:World) (R:(A_)→W_) (h:h5_ s w R):a8_ s w R:=
 ad_ (aj_ af_) aB_ Tryz.func41 [] [.ag] [.agg s] w R (Eq.mp (show h5_ s w R=vcF Tryz.prog G Tryz.f41 [] [.ag] [.agg s] w R by kernel_rfl) h)
def iZ_ (p:Sl) (w:World) (R:(A_)→(A_)→Bool→W_):Prop:=
 New (.cells #[.int .u8 0,.bool false,.int .u64 0,.int .u64 0,.int .i64 0,.bool false,.int .u8 0,.bool false,.bool false,.int .u8 0,.int .u8 0,.bool false,.int .u8 0,.int .u8 0,.bool false] 135) w fun a w0=>New (.cells #[.int .u8 0,.int .u16 0,.int .u64 0,.bool false,.int .i64 0,.int .i64 0,.bool false,.bool false] 32) w0 fun a1 w01=>Br ((p.n:Int)==0) (df_ 0 (-1) w01 fun g w02=>ag_ Tryz.prog (storeVar 135 a (.agg #[.int .u8 0,.bool false,.int .u64 0,.int .u64 0,.int .i64 0,.bool false,.int .u8 0,.bool false,.bool false,.int .u8 0,.int .u8 0,.bool false,.int .u8 0,.int .u8 0,.bool false])) w02 fun w03=>ag_ Tryz.prog (storeVar 32 a1 (.agg g)) w03 fun w04=>∃res:A_,(loadVar 135 a).run Tryz.prog w04=.ok (.agg res) w04∧∃res1:A_,(loadVar 32 a1).run Tryz.prog w04=.ok (.agg res1) w04∧R res res1 false w04) ((0≤(0:Int)∧(0:Int)<(p.n:Int)∧p.A.isSome=true)∧∃n:Int,w01.cell? ((gA p.A).add ((0:Int).toNat*1))=some (.int .u8 n)∧aY_ (fun(service:Int) (w05:World)=>lt_ n service w05 fun xs b w06=>Br xs.A.isNone (ag_ Tryz.prog (storeVar 135 a (.agg #[.int .u8 0,.bool false,.int .u64 0,.int .u64 0,.int .i64 0,.bool false,.int .u8 0,.bool false,.bool false,.int .u8 0,.int .u8 0,.bool false,.int .u8 0,.int .u8 0,.bool false])) w06 fun w07=>ag_ Tryz.prog (storeVar 32 a1 (.agg #[.int .u8 5,.int .u16 8192,.int .u64 0,.bool false,.int .i64 0,.int .i64 7,.bool true,.bool true])) w07 fun w08=>∃cf_:A_,(loadVar 135 a).run Tryz.prog w08=.ok (.agg cf_) w08∧∃res3:A_,(loadVar 32 a1).run Tryz.prog w08=.ok (.agg res3) w08∧R cf_ res3 false w08) (Br (decide ((p.n:Int)<(xs.n:Int))) (df_ (p.n:Int) (-1) w06 fun g1 w09=>ag_ Tryz.prog (storeVar 135 a (.agg #[.int .u8 0,.bool false,.int .u64 0,.int .u64 0,.int .i64 0,.bool false,.int .u8 0,.bool false,.bool false,.int .u8 0,.int .u8 0,.bool false,.int .u8 0,.int .u8 0,.bool false])) w09 fun w010=>ag_ Tryz.prog (storeVar 32 a1 (.agg g1)) w010 fun w011=>∃res4:A_,(loadVar 135 a).run Tryz.prog w011=.ok (.agg res4) w011∧∃res5:A_,(loadVar 32 a1).run Tryz.prog w011=.ok (.agg res5) w011∧R res4 res5 false w011) ((0≤(0:Int)∧(0:Int)≤(xs.n:Int)∧(xs.n:Int)≤(p.c:Int)∧p.n≤p.c)∧m4_ ⟨(aP_ p.A p.c 0 1),((xs.n:Int).toNat-0),(p.c-0)⟩ xs w06 fun n1 n2 w012=>Br (decide (n1≥0)) (df_ n1 n2 w012 fun g2 w013=>ag_ Tryz.prog (storeVar 135 a (.agg #[.int .u8 0,.bool false,.int .u64 0,.int .u64 0,.int .i64 0,.bool false,.int .u8 0,.bool false,.bool false,.int .u8 0,.int .u8 0,.bool false,.int .u8 0,.int .u8 0,.bool false])) w013 fun w014=>ag_ Tryz.prog (storeVar 32 a1 (.agg g2)) w014 fun w015=>∃res6:A_,(loadVar 135 a).run Tryz.prog w015=.ok (.agg res6) w015∧∃res7:A_,(loadVar 32 a1).run Tryz.prog w015=.ok (.agg res7) w015∧R res6 res7 false w015) (Br (!b) (df_ 1 4 w012 fun g3 w016=>ag_ Tryz.prog (storeVar 135 a (.agg #[.int .u8 0,.bool false,.int .u64 0,.int .u64 0,.int .i64 0,.bool false,.int .u8 0,.bool false,.bool false,.int .u8 0,.int .u8 0,.bool false,.int .u8 0,.int .u8 0,.bool false])) w016 fun w017=>ag_ Tryz.prog (storeVar 32 a1 (.agg g3)) w017 fun w018=>∃res8:A_,(loadVar 135 a).run Tryz.prog w018=.ok (.agg res8) w018∧∃res9:A_,(loadVar 32 a1).run Tryz.prog w018=.ok (.agg res9) w018∧R res8 res9 false w018) (mp_ n w012 fun n3 w019=>New (.cells #[.int .u8 0,.bool false,.int .u64 0,.int .u64 0,.int .i64 0,.bool false,.int .u8 0,.bool false,.bool false,.int .u8 0,.int .u8 0,.bool false,.int .u8 0,.int .u8 0,.bool false] 135) w019 fun c w020=>ag_ Tryz.prog (storeVar 135 c (.agg #[.int .u8 n3,.bool false,.int .u64 0,.int .u64 0,.int .i64 0,.bool false,.int .u8 0,.bool false,.bool false,.int .u8 0,.int .u8 0,.bool false,.int .u8 0,.int .u8 0,.bool false])) w020 fun w021=>mq_ (some c) ⟨(aP_ p.A p.c 0 1),((xs.n:Int).toNat-0),(p.c-0)⟩ service w021 fun n4 n5 w022=>Br (decide (n4≥0)) (df_ n4 n5 w022 fun g4 w023=>ag_ Tryz.prog (storeVar 135 a (.agg #[.int .u8 0,.bool false,.int .u64 0,.int .u64 0,.int .i64 0,.bool false,.int .u8 0,.bool false,.bool false,.int .u8 0,.int .u8 0,.bool false,.int .u8 0,.int .u8 0,.bool false])) w023 fun w024=>ag_ Tryz.prog (storeVar 32 a1 (.agg g4)) w024 fun w025=>∃res10:A_,(loadVar 135 a).run Tryz.prog w025=.ok (.agg res10) w025∧∃res11:A_,(loadVar 32 a1).run Tryz.prog w025=.ok (.agg res11) w025∧R res10 res11 false w025) (∃g5:A_,(loadVar 135 c).run Tryz.prog w022=.ok (.agg g5) w022∧ag_ Tryz.prog (storeVar 135 a (.agg g5)) w022 fun w026=>ag_ Tryz.prog (storeVar 32 a1 (.agg #[.int .u8 0,.int .u16 0,.int .u64 0,.bool false,.int .i64 0,.int .i64 0,.bool false,.bool false])) w026 fun w027=>∃res12:A_,(loadVar 135 a).run Tryz.prog w027=.ok (.agg res12) w027∧∃res13:A_,(loadVar 32 a1).run Tryz.prog w027=.ok (.agg res13) w027∧R res12 res13 true w027)))))) fun J_=>Br ((((n==94)||(n==95))||(n==131))||(n==158)) (Br (decide ((p.n:Int)<2)) (df_ 1 (-1) w01 fun g6 w028=>ag_ Tryz.prog (storeVar 135 a (.agg #[.int .u8 0,.bool false,.int .u64 0,.int .u64 0,.int .i64 0,.bool false,.int .u8 0,.bool false,.bool false,.int .u8 0,.int .u8 0,.bool false,.int .u8 0,.int .u8 0,.bool false])) w028 fun w029=>ag_ Tryz.prog (storeVar 32 a1 (.agg g6)) w029 fun w030=>∃res14:A_,(loadVar 135 a).run Tryz.prog w030=.ok (.agg res14) w030∧∃res15:A_,(loadVar 32 a1).run Tryz.prog w030=.ok (.agg res15) w030∧R res14 res15 false w030) ((0≤(1:Int)∧(1:Int)<(p.n:Int)∧p.A.isSome=true)∧∃n6:Int,w01.cell? ((gA p.A).add ((1:Int).toNat*1))=some (.int .u8 n6)∧J_ (br_ .u8 n6 31) w01)) (J_ 0 w01))
theorem iZ_.calls (p:Sl) (w:World) (R:(A_)→(A_)→Bool→W_) (h:iZ_ p w R):lr_ p w R:=
 ad_ (aj_ af_) aB_ Tryz.func43 [(16,⟨[(6,.i .u8)],[0,2,3,5]⟩)] [.ag,.ag,.b] [.slice p.A p.n p.c] w R (Eq.mp (show iZ_ p w R=vcF Tryz.prog G Tryz.f43 [(16,⟨[(6,.i .u8)],[0,2,3,5]⟩)] [.ag,.ag,.b] [.slice p.A p.n p.c] w R by kernel_rfl) h)
def eq_ (q:O_) (nexus:Int) (w:World) (R:Int→Bool→W_):Prop:=
 dJ_ q nexus w fun n w0=>Br (decide (n<0)) (R 0 false w0) (q.isSome=true∧(0≤nexus∧nexus<(8:Int))∧∃xs:Sl,w0.cell? (((gA q).add 0).add (nexus.toNat*1))=some (.slice xs.A xs.n xs.c)∧(0≤n∧n<(xs.n:Int)∧xs.A.isSome=true)∧∃n1:Int,w0.cell? ((gA xs.A).add (n.toNat*1))=some (.int .u16 n1)∧R n1 true w0)
theorem eq_.calls (q:O_) (nexus:Int) (w:World) (R:Int→Bool→W_) (h:eq_ q nexus w R):gd_ q nexus w R:=
 ad_ (aj_ af_) aB_ Tryz.func44 [] [.i .u16,.b] [.pointer q,.int .i64 nexus] w R (Eq.mp (show eq_ q nexus w R=vcF Tryz.prog G Tryz.f44 [] [.i .u16,.b] [.pointer q,.int .i64 nexus] w R by kernel_rfl) h)
def er_ (q:O_) (nexus:Int) (w:World) (R:Int→Bool→W_):Prop:=
 dJ_ q nexus w fun n w0=>Br (decide (n<0)) (R 0 false w0) (q.isSome=true∧(0≤nexus∧nexus<(8:Int))∧∃xs:Sl,w0.cell? (((gA q).add 0).add (nexus.toNat*1))=some (.slice xs.A xs.n xs.c)∧(0≤n∧n<(xs.n:Int)∧xs.A.isSome=true)∧∃n1:Int,w0.cell? ((gA xs.A).add (n.toNat*1))=some (.int .u16 n1)∧∀w01,w01=w0.drew→(0≤(0:Int)∧(0:Int)≤n∧n≤(xs.c:Int)∧xs.n≤xs.c)∧(0≤(IntKind.wrap .i64 (n+1))∧(IntKind.wrap .i64 (n+1))≤(xs.n:Int)∧(xs.n:Int)≤(xs.c:Int)∧xs.n≤xs.c)∧q.isSome=true∧ai_ Tryz.prog .sl (Builtin.append_ #[196,196] 196 #[.slice none 0 0,.slice (aP_ xs.A xs.c 0 1) (n.toNat-0) (xs.c-0)]) w01 fun xs1 w02=>ai_ Tryz.prog .sl (Builtin.append_ #[196,196] 196 #[.slice xs1.A xs1.n xs1.c,.slice (aP_ xs.A xs.c (IntKind.wrap .i64 (n+1)).toNat 1) (((xs.n:Int)).toNat-(IntKind.wrap .i64 (n+1)).toNat) (xs.c-(IntKind.wrap .i64 (n+1)).toNat)]) w02 fun xs2 w03=>(0≤nexus∧nexus<(8:Int))∧Put (((gA q).add 0).add (nexus.toNat*1)) (.slice xs2.A xs2.n xs2.c) w03 fun w04=>R n1 true w04)
theorem er_.calls (q:O_) (nexus:Int) (w:World) (R:Int→Bool→W_) (h:er_ q nexus w R):eh_ q nexus w R:=
 ad_ (aj_ af_) aB_ Tryz.func45 [] [.i .u16,.b] [.pointer q,.int .i64 nexus] w R (Eq.mp (show er_ q nexus w R=vcF Tryz.prog G Tryz.f45 [] [.i .u16,.b] [.pointer q,.int .i64 nexus] w R by kernel_rfl) h)
def dU_ (t:O_) (nexus:Int) (c:Int) (w:World) (R:Bool→W_):Prop:=
 ((!((t).isNone))=true→t.isSome=true)∧∃n:Int,((!((t).isNone))=true→w.cell? ((gA t).add 2)=some (.int .u8 n))∧bI_ (fun(b:Bool) (w0:World)=>Br (((((t).isNone)||(n==0))||(c==0))||b) (R false w0) (cZ_ t nexus w0 fun n1 b1 w01=>t.isSome=true∧∃n2:Int,w01.cell? ((gA t).add 2)=some (.int .u8 n2)∧Br (n2==1) (R (c != 1) w01) (Br (n2==3) (R true w01) (Br (n2==5) (Br (n2==5) (R ((c != 1)&&(!b1)) w01) (R (!b1) w01)) (Br (n2==7) (R ((c != 1)&&(!b1)) w01) (R (!b1) w01)))))) fun J_=>((!((((t).isNone)||(n==0))||(c==0)))=true→dK_ t nexus w J_)∧((!((((t).isNone)||(n==0))||(c==0)))=false→J_ (Kd.dflt .b) w)
theorem dU_.calls (t:O_) (nexus:Int) (c:Int) (w:World) (R:Bool→W_) (h:dU_ t nexus c w R):bv_ t nexus c w R:=
 ad_ (aj_ af_) aB_ Tryz.func46 [] [.b] [.pointer t,.int .i64 nexus,.int .u8 c] w R (Eq.mp (show dU_ t nexus c w R=vcF Tryz.prog G Tryz.f46 [] [.b] [.pointer t,.int .i64 nexus,.int .u8 c] w R by kernel_rfl) h)
def fv_ (m:O_) (w:World) (R:(A_)→W_):Prop:=
 New (.cells #[.bool false,.bool false,.bool false] 142) w fun a w0=>Br ((m).isNone) (ag_ Tryz.prog (storeVar 142 a (.agg #[.bool false,.bool false,.bool false])) w0 fun w01=>∃res:A_,(loadVar 142 a).run Tryz.prog w01=.ok (.agg res) w01∧R res w01) (m.isSome=true∧∃g:A_,(loadVar 142 ((gA m).add 0)).run Tryz.prog w0=.ok (.agg g) w0∧ag_ Tryz.prog (storeVar 142 a (.agg g)) w0 fun w02=>∃res1:A_,(loadVar 142 a).run Tryz.prog w02=.ok (.agg res1) w02∧R res1 w02)
theorem fv_.calls (m:O_) (w:World) (R:(A_)→W_) (h:fv_ m w R):b4_ m w R:=
 ad_ (aj_ af_) aB_ Tryz.func47 [] [.ag] [.pointer m] w R (Eq.mp (show fv_ m w R=vcF Tryz.prog G Tryz.f47 [] [.ag] [.pointer m] w R by kernel_rfl) h)
def eJ_ (u:O_) (nexus:Int) (c:A_) (out:Sl) (w:World) (R:(A_)→W_):Prop:=
 New (.cells c 135) w fun c1 w0=>New (.cells #[.int .u8 0,.int .u8 0,.int .u16 0,.int .u64 0,.bool false,.int .i64 0,.int .i64 0,.bool false,.bool false,.slice none 0 0] 35) w0 fun a w01=>∃n:Int,w01.cell? (c1.add 0)=some (.int .u8 n)∧Br (n==1) (ag_ Tryz.prog (storeVar 35 a (.agg #[.int .u8 0,.int .u8 0,.int .u16 0,.int .u64 0,.bool false,.int .i64 0,.int .i64 0,.bool false,.bool false,.slice none 0 0])) w01 fun w02=>∃res:A_,(loadVar 35 a).run Tryz.prog w02=.ok (.agg res) w02∧R res w02) (Br (n==2) (New (.cells #[.int .u8 0,.int .u16 0,.int .u64 0,.bool false,.int .i64 0,.int .i64 0,.bool false,.bool false] 32) w01 fun s w03=>ag_ Tryz.prog (storeVar 32 s (.agg #[.int .u8 0,.int .u16 0,.int .u64 0,.bool false,.int .i64 0,.int .i64 0,.bool false,.bool false])) w03 fun w04=>u.isSome=true∧∃p:O_,w04.cell? ((gA u).add 9)=some (.pointer p)∧eh_ p nexus w04 fun n1 b w05=>aY_ (fun(w06:World)=>∃g:A_,(loadVar 32 s).run Tryz.prog w06=.ok (.agg g) w06∧jm_ g w06 fun xs n2 w07=>∃b1:Bool,w07.cell? (c1.add 1)=some (.bool b1)∧aY_ (fun(p1:Sl) (w08:World)=>∃n3:Int,w08.cell? (c1.add 4)=some (.int .i64 n3)∧c0_ p1 n3 w08 fun xs1 w09=>ag_ Tryz.prog (storeVar 35 a (.agg #[.int .u8 0,.int .u8 0,.int .u16 0,.int .u64 0,.bool false,.int .i64 0,.int .i64 0,.bool false,.bool false,.slice xs1.A xs1.n xs1.c])) w09 fun w010=>∃res1:A_,(loadVar 35 a).run Tryz.prog w010=.ok (.agg res1) w010∧R res1 w010) fun J_=>Br b1 (∃g1:A_,(loadVar 32 s).run Tryz.prog w07=.ok (.agg g1) w07∧gV_ g1 w07 fun xs2 n4 w011=>J_ xs2 w011) (J_ xs w07)) fun J_1=>Br b (ag_ Tryz.prog (storeVar 32 s (.agg #[.int .u8 6,.int .u16 n1,.int .u64 0,.bool false,.int .i64 0,.int .i64 0,.bool false,.bool false])) w05 fun w012=>J_1 w012) (J_1 w05)) (Br (n==3) (u.isSome=true∧∃g2:A_,(loadVar 81 ((gA u).add 0)).run Tryz.prog w01=.ok (.agg g2) w01∧l8_ g2 w01 fun xs3 w013=>∃b2:Bool,w013.cell? (c1.add 8)=some (.bool b2)∧aY_ (fun(p2:Sl) (ok:Bool) (w014:World)=>Br (!ok) (df_ 2 7 w014 fun g3 w015=>a8_ g3 w015 fun g4 w016=>ag_ Tryz.prog (storeVar 35 a (.agg g4)) w016 fun w017=>∃cf_:A_,(loadVar 35 a).run Tryz.prog w017=.ok (.agg cf_) w017∧R cf_ w017) (∃n5:Int,w014.cell? (c1.add 4)=some (.int .i64 n5)∧c0_ p2 n5 w014 fun xs4 w018=>ag_ Tryz.prog (storeVar 35 a (.agg #[.int .u8 0,.int .u8 0,.int .u16 0,.int .u64 0,.bool false,.int .i64 0,.int .i64 0,.bool false,.bool false,.slice xs4.A xs4.n xs4.c])) w018 fun w019=>∃res3:A_,(loadVar 35 a).run Tryz.prog w019=.ok (.agg res3) w019∧R res3 w019)) fun J_2=>Br b2 (∀w020,w020=w013.drew→∃S:W_,S w020∧u.isSome=true∧∃g5:A_,(∀u1,S u1→(loadVar 81 ((gA u).add 0)).run Tryz.prog u1=.ok (.agg g5) u1)∧∃n6:Int,(∀u2,S u2→u2.cell? (c1.add 9)=some (.int .u8 n6))∧pT_ g5 n6 w020 fun xs5 b3 w021=>J_2 xs5 b3 w021) (J_2 xs3 true w013)) (Br (n==17) (∀w022,w022=w01.drew→∃S1:W_,S1 w022∧∃n7:Int,(∀u3,S1 u3→u3.cell? (c1.add 4)=some (.int .i64 n7))∧ai_ Tryz.prog .sl (Instr.buildSlice 73 1 #[(0,.int .i64 0)]) w022 fun xs6 w023=>S1 w023∧pU_ xs6 w023 fun xs7 w024=>S1 w024∧c0_ xs7 n7 w024 fun xs8 w025=>S1 w025∧∃S2:W_,S2 w025∧(∀u4,S2 u4→S1 u4)∧ag_ Tryz.prog (storeVar 35 a (.agg #[.int .u8 0,.int .u8 0,.int .u16 0,.int .u64 0,.bool false,.int .i64 0,.int .i64 0,.bool false,.bool false,.slice xs8.A xs8.n xs8.c])) w025 fun w026=>∃res4:A_,(loadVar 35 a).run Tryz.prog w026=.ok (.agg res4) w026∧R res4 w026) (Br (n==5) (∀w027,w027=w01.drew→∃S3:W_,S3 w027∧u.isSome=true∧∃p3:O_,(∀u5,S3 u5→u5.cell? ((gA u).add 7)=some (.pointer p3))∧∃g6:A_,(∀u6,S3 u6→(loadVar 135 c1).run Tryz.prog u6=.ok (.agg g6) u6)∧(ge_ p3 g6 w027 fun xs9 g7 b4 w028=>New (.cells #[.int .u8 0,.int .u16 0,.int .u64 0,.bool false,.int .i64 0,.int .i64 0,.bool false,.bool false] 32) w028 fun s1 w029=>S3 w029∧ag_ Tryz.prog (storeVar 32 s1 (.agg g7)) w029 fun w030=>Br (!b4) (∃g8:A_,(loadVar 32 s1).run Tryz.prog w030=.ok (.agg g8) w030∧a8_ g8 w030 fun g9 w031=>ag_ Tryz.prog (storeVar 35 a (.agg g9)) w031 fun w032=>∃res5:A_,(loadVar 35 a).run Tryz.prog w032=.ok (.agg res5) w032∧R res5 w032) (∃n8:Int,w030.cell? (c1.add 4)=some (.int .i64 n8)∧c0_ xs9 n8 w030 fun xs10 w033=>ag_ Tryz.prog (storeVar 35 a (.agg #[.int .u8 0,.int .u8 0,.int .u16 0,.int .u64 0,.bool false,.int .i64 0,.int .i64 0,.bool false,.bool false,.slice xs10.A xs10.n xs10.c])) w033 fun w034=>∃res6:A_,(loadVar 35 a).run Tryz.prog w034=.ok (.agg res6) w034∧R res6 w034))∧New (.cells #[.int .u8 0,.int .u16 0,.int .u64 0,.bool false,.int .i64 0,.int .i64 0,.bool false,.bool false] 32) w027 fun s2 w035=>S3 w035∧ge_ p3 g6 w035 fun xs11 g10 b5 w036=>ag_ Tryz.prog (storeVar 32 s2 (.agg g10)) w036 fun w037=>Br (!b5) (∃g11:A_,(loadVar 32 s2).run Tryz.prog w037=.ok (.agg g11) w037∧a8_ g11 w037 fun g12 w038=>ag_ Tryz.prog (storeVar 35 a (.agg g12)) w038 fun w039=>∃res7:A_,(loadVar 35 a).run Tryz.prog w039=.ok (.agg res7) w039∧R res7 w039) (∃n9:Int,w037.cell? (c1.add 4)=some (.int .i64 n9)∧c0_ xs11 n9 w037 fun xs12 w040=>ag_ Tryz.prog (storeVar 35 a (.agg #[.int .u8 0,.int .u8 0,.int .u16 0,.int .u64 0,.bool false,.int .i64 0,.int .i64 0,.bool false,.bool false,.slice xs12.A xs12.n xs12.c])) w040 fun w041=>∃res8:A_,(loadVar 35 a).run Tryz.prog w041=.ok (.agg res8) w041∧R res8 w041)) (Br (n==4) (∃g13:A_,(loadVar 135 c1).run Tryz.prog w01=.ok (.agg g13) w01∧hR_ u nexus g13 out w01 fun g14 w042=>ag_ Tryz.prog (storeVar 35 a (.agg g14)) w042 fun w043=>∃res9:A_,(loadVar 35 a).run Tryz.prog w043=.ok (.agg res9) w043∧R res9 w043) (Br (n==15) (∀w044,w044=w01.drew→∃S4:W_,S4 w044∧∃n10:Int,(∀u7,S4 u7→u7.cell? (c1.add 12)=some (.int .u8 n10))∧∃n11:Int,(∀u8,S4 u8→u8.cell? (c1.add 4)=some (.int .i64 n11))∧l9_ u n10 w044 fun xs13 w045=>S4 w045∧c0_ xs13 n11 w045 fun xs14 w046=>S4 w046∧∃S5:W_,S5 w046∧(∀u9,S5 u9→S4 u9)∧ag_ Tryz.prog (storeVar 35 a (.agg #[.int .u8 0,.int .u8 0,.int .u16 0,.int .u64 0,.bool false,.int .i64 0,.int .i64 0,.bool false,.bool false,.slice xs14.A xs14.n xs14.c])) w046 fun w047=>∃res10:A_,(loadVar 35 a).run Tryz.prog w047=.ok (.agg res10) w047∧R res10 w047) (Br (n==16) (∃g15:A_,(loadVar 135 c1).run Tryz.prog w01=.ok (.agg g15) w01∧eE_ u nexus g15 out w01 fun g16 w048=>ag_ Tryz.prog (storeVar 35 a (.agg g16)) w048 fun w049=>∃res11:A_,(loadVar 35 a).run Tryz.prog w049=.ok (.agg res11) w049∧R res11 w049) (Br (n==18) (∃g17:A_,(loadVar 135 c1).run Tryz.prog w01=.ok (.agg g17) w01∧dL_ u nexus g17 out w01 fun g18 w050=>ag_ Tryz.prog (storeVar 35 a (.agg g18)) w050 fun w051=>∃res12:A_,(loadVar 35 a).run Tryz.prog w051=.ok (.agg res12) w051∧R res12 w051) (∀w052,w052=w01.drew→∃S6:W_,S6 w052∧u.isSome=true∧∃p4:O_,(∀u10,S6 u10→u10.cell? ((gA u).add 5)=some (.pointer p4))∧∃g19:A_,(∀u11,S6 u11→(loadVar 135 c1).run Tryz.prog u11=.ok (.agg g19) u11)∧bW_ p4 g19 out w052 fun g20 w053=>ag_ Tryz.prog (storeVar 35 a (.agg g20)) w053 fun w054=>∃res13:A_,(loadVar 35 a).run Tryz.prog w054=.ok (.agg res13) w054∧R res13 w054)))))))))
theorem eJ_.calls (u:O_) (nexus:Int) (c:A_) (out:Sl) (w:World) (R:(A_)→W_) (h:eJ_ u nexus c out w R):bp_ u nexus c out w R:=
 ad_ (aj_ af_) aB_ Tryz.func48 [(34,⟨[(12,.sl)],[6,8]⟩),(25,⟨[],[6,8,9]⟩),(49,⟨[(14,.sl),(15,.b)],[6,8]⟩)] [.ag] [.pointer u,.int .i64 nexus,.agg c,.slice out.A out.n out.c] w R (Eq.mp (show eJ_ u nexus c out w R=vcF Tryz.prog G Tryz.f48 [(34,⟨[(12,.sl)],[6,8]⟩),(25,⟨[],[6,8,9]⟩),(49,⟨[(14,.sl),(15,.b)],[6,8]⟩)] [.ag] [.pointer u,.int .i64 nexus,.agg c,.slice out.A out.n out.c] w R by kernel_rfl) h)
def eV_ (v:Int) (n:Int) (w:World) (R:Sl→W_):Prop:=
 ai_ Tryz.prog .sl (Instr.makeSlice 33 (.int .i64 n) (.int .i64 n)) w fun xs w0=>∃(I:Int→Int→W_) (μ:Int→Int→World→Nat),I v (IntKind.wrap .i64 (n-1)) w0∧∀(v1:Int) (i:Int) (w01:World),I v1 i w01→Br (decide (i≥0)) ((0≤i∧i<(xs.n:Int)∧xs.A.isSome=true)∧Put ((gA xs.A).add (i.toNat*1)) (.int .u8 (IntKind.wrap .u8 v1)) w01 fun w02=>I (bJ_ .u64 v1 8) (IntKind.wrap .i64 (i-1)) w02∧μ (bJ_ .u64 v1 8) (IntKind.wrap .i64 (i-1)) w02<μ v1 i w01) (R xs w01)
theorem eV_.calls (v:Int) (n:Int) (w:World) (R:Sl→W_) (h:eV_ v n w R):dp_ v n w R:=
 ad_ (aj_ af_) aB_ Tryz.func49 [(9,⟨[(0,.i .u64),(6,.i .i64)],[5]⟩)] [.sl] [.int .u64 v,.int .i64 n] w R (Eq.mp (show eV_ v n w R=vcF Tryz.prog G Tryz.f49 [(9,⟨[(0,.i .u64),(6,.i .i64)],[5]⟩)] [.sl] [.int .u64 v,.int .i64 n] w R by kernel_rfl) h)
open Go CF
set_option linter.unusedVariables false
set_option maxRecDepth 100000
def dV_ (t:O_) (w:World) (R:Int→Int→W_):Prop:=
 ((!((t).isNone))=true→t.isSome=true)∧∃n:Int,((!((t).isNone))=true→w.cell? ((gA t).add 2)=some (.int .u8 n))∧Br (((t).isNone)||(n==0)) (R 0 (-1) w) (t.isSome=true∧∃n1:Int,w.cell? ((gA t).add 2)=some (.int .u8 n1)∧fg_ n1 w fun b w0=>Br b (t.isSome=true∧∃n2:Int,w0.cell? ((gA t).add 2)=some (.int .u8 n2)∧R n2 (-1) w0) (∀w01,w01=w0.drew→∃S:W_,S w01∧t.isSome=true∧∃n3:Int,(∀u,S u→u.cell? ((gA t).add 2)=some (.int .u8 n3))∧t.isSome=true∧∃n4:Int,(∀u1,S u1→u1.cell? ((gA t).add 3)=some (.int .i64 n4))∧R n3 n4 w01))
theorem dV_.calls (t:O_) (w:World) (R:Int→Int→W_) (h:dV_ t w R):fN_ t w R:=
 ad_ (aj_ af_) aB_ Tryz.func57 [] [.i .u8,.i .i64] [.pointer t] w R (Eq.mp (show dV_ t w R=vcF Tryz.prog G Tryz.f57 [] [.i .u8,.i .i64] [.pointer t] w R by kernel_rfl) h)
def fc_ (o:O_) (f:Value) (w:World) (R:W_):Prop:=
 o.isSome=true∧gp_ (some ((gA o).add 0)) w fun b w0=>Br (!b) (nn_ o f w0 fun w02=>R w02) (R w0)
theorem fc_.calls (o:O_) (f:Value) (w:World) (R:W_) (h:fc_ o f w R):gw_ o f w R:=
 ad_ (aj_ af_) aB_ Tryz.func60 [] [] [.pointer o,f] w R (Eq.mp (show fc_ o f w R=vcF Tryz.prog G Tryz.f60 [] [] [.pointer o,f] w R by kernel_rfl) h)
def cM_ (fv:Addr) (w:World) (R:W_):Prop:=
 ∀w0,w0=w.drew→∃S:W_,S w0∧∃p:O_,(∀u,S u→u.cell? fv=some (.pointer p))∧∃p1:O_,(∀u1,S u1→u1.cell? fv=some (.pointer p1))∧dI_ p1 w0 fun n w01=>S w01∧p.isSome=true∧Put ((gA p).add 14) (.int .i64 n) w01 fun w02=>R w02
theorem cM_.calls (fv:Addr) (w:World) (R:W_) (h:cM_ fv w R):iv_ fv w R:=
 ad_ (aj_ af_) aB_ Tryz.func61 [] [] [.pointer (some fv)] w R (Eq.mp (show cM_ fv w R=vcF Tryz.prog G Tryz.f61 [] [] [.pointer (some fv)] w R by kernel_rfl) h)
def dW_ (u:O_) (w:World) (R:Int→W_):Prop:=
 ∃(I:Int→W_) (μ:Int→World→Nat),I 0 w∧∀(x:Int) (w0:World),I x w0→Br (decide (x<8)) (u.isSome=true∧∃p:O_,w0.cell? ((gA u).add 9)=some (.pointer p)∧eT_ p x 10496 w0 fun w01=>I (IntKind.wrap .i64 (x+1)) w01∧μ (IntKind.wrap .i64 (x+1)) w01<μ x w0) (u.isSome=true∧∃p1:O_,w0.cell? ((gA u).add 6)=some (.pointer p1)∧c6_ p1 w0 fun xs n n1 w02=>Br (n1==8) (R 0 w02) (Br (n1 != 0) (R n1 w02) (((!((xs.n:Int)==0))=true→(0≤(0:Int)∧(0:Int)<(xs.n:Int)∧xs.A.isSome=true))∧∃n2:Int,((!((xs.n:Int)==0))=true→w02.cell? ((gA xs.A).add ((0:Int).toNat*1))=some (.int .u8 n2))∧Br (((xs.n:Int)==0)||(decide (n2>7))) (R 3 w02) ((0≤(1:Int)∧(1:Int)≤(xs.n:Int)∧(xs.n:Int)≤(xs.c:Int)∧xs.n≤xs.c)∧nU_ ⟨(aP_ xs.A xs.c 1 1),(((xs.n:Int)).toNat-1),(xs.c-1)⟩ w02 fun p2 n3 w03=>Br (n3 != 0) (R n3 w03) ((0≤(0:Int)∧(0:Int)<(xs.n:Int)∧xs.A.isSome=true)∧∃n4:Int,w03.cell? ((gA xs.A).add ((0:Int).toNat*1))=some (.int .u8 n4)∧jn_ n4 w03 fun g w04=>g5_ g w04 fun p3 w05=>u.isSome=true∧Put ((gA u).add 8) (.pointer p2) w05 fun w06=>u.isSome=true∧Put ((gA u).add 7) (.pointer p3) w06 fun w07=>∀w08,w08=w07.drew→∃S:W_,S w08∧u.isSome=true∧∃p4:O_,(∀u1,S u1→u1.cell? ((gA u).add 5)=some (.pointer p4))∧p4.isSome=true∧∃p5:O_,(∀u2,S u2→u2.cell? ((gA p4).add 0)=some (.pointer p5))∧u.isSome=true∧∃p6:O_,(∀u3,S u3→u3.cell? ((gA u).add 7)=some (.pointer p6))∧b4_ p6 w08 fun g1 w09=>S w09∧∃S1:W_,S1 w09∧(∀u4,S1 u4→S u4)∧∃b:Bool,(∀u5,S1 u5→g1[0]?=some (.bool b))∧eF_ p5 b w09 fun w010=>R 0 w010)))))
theorem dW_.calls (u:O_) (w:World) (R:Int→W_) (h:dW_ u w R):dI_ u w R:=
 ad_ (aj_ af_) aB_ Tryz.func62 [(6,⟨[(8,.i .i64)],[0]⟩)] [.i .i64] [.pointer u] w R (Eq.mp (show dW_ u w R=vcF Tryz.prog G Tryz.f62 [(6,⟨[(8,.i .i64)],[0]⟩)] [.i .i64] [.pointer u] w R by kernel_rfl) h)
def j6_ (i:A_) (w:World) (R:Bool→W_):Prop:=
 New (.cells i 81) w fun i1 w0=>∃s:ByteArray,w0.cell? (i1.add 0)=some (.string s)∧g6_ s 0 8 w0 fun b w01=>∃s1:ByteArray,(b=true→w01.cell? (i1.add 1)=some (.string s1))∧bI_ (fun(b1:Bool) (w02:World)=>∃s2:ByteArray,((b&&b1)=true→w02.cell? (i1.add 2)=some (.string s2))∧bI_ (fun(b2:Bool) (w03:World)=>∃s3:ByteArray,(((b&&b1)&&b2)=true→w03.cell? (i1.add 3)=some (.string s3))∧bI_ (fun(b3:Bool) (w04:World)=>∃n:Int,((((b&&b1)&&b2)&&b3)=true→w04.cell? (i1.add 4)=some (.int .u8 n))∧R ((((b&&b1)&&b2)&&b3)&&(decide (n≤3))) w04) fun J_=>(((b&&b1)&&b2)=true→g6_ s3 1 20 w03 J_)∧(((b&&b1)&&b2)=false→J_ (Kd.dflt .b) w03)) fun J_1=>((b&&b1)=true→g6_ s2 0 4 w02 J_1)∧((b&&b1)=false→J_1 (Kd.dflt .b) w02)) fun J_2=>(b=true→g6_ s1 0 16 w01 J_2)∧(b=false→J_2 (Kd.dflt .b) w01)
theorem j6_.calls (i:A_) (w:World) (R:Bool→W_) (h:j6_ i w R):mo_ i w R:=
 ad_ (aj_ af_) aB_ Tryz.func63 [] [.b] [.agg i] w R (Eq.mp (show j6_ i w R=vcF Tryz.prog G Tryz.f63 [] [.b] [.agg i] w R by kernel_rfl) h)
def h6_ (w_:O_) (file:ByteArray) (blocks:Int) (cache:Bool) (w:World) (R:(O_)→Int→W_):Prop:=
 Br ((((decide ((file.size:Int)<1))||(decide ((file.size:Int)>32)))||(decide (blocks<1)))||(decide (blocks>4096))) (R none 1 w) (Br ((w_).isNone) (R none 8 w) (New (.cells #[.pointer w_,.string file,.int .i64 blocks,.bool cache] 245) w fun a w0=>R (some a) 0 w0))
theorem h6_.calls (w_:O_) (file:ByteArray) (blocks:Int) (cache:Bool) (w:World) (R:(O_)→Int→W_) (h:h6_ w_ file blocks cache w R):kB_ w_ file blocks cache w R:=
 ad_ (aj_ af_) aB_ Tryz.func64 [] [.p,.i .i64] [.pointer w_,.string file,.int .i64 blocks,.bool cache] w R (Eq.mp (show h6_ w_ file blocks cache w R=vcF Tryz.prog G Tryz.f64 [] [.p,.i .i64] [.pointer w_,.string file,.int .i64 blocks,.bool cache] w R by kernel_rfl) h)
def gC_ (w:World) (R:(A_)→W_):Prop:=
 New (.cells #[.bool false,.bool false,.bool false] 142) w fun a w0=>ag_ Tryz.prog (storeVar 142 a (.agg #[.bool true,.bool false,.bool false])) w0 fun w01=>∃res:A_,(loadVar 142 a).run Tryz.prog w01=.ok (.agg res) w01∧R res w01
theorem gC_.calls (w:World) (R:(A_)→W_) (h:gC_ w R):e8_ w R:=
 ad_ (aj_ af_) aB_ Tryz.func65 [] [.ag] [] w R (Eq.mp (show gC_ w R=vcF Tryz.prog G Tryz.f65 [] [.ag] [] w R by kernel_rfl) h)
def h7_ (w_:O_) (file:ByteArray) (w:World) (R:(O_)→Int→W_):Prop:=
 Br ((decide ((file.size:Int)<1))||(decide ((file.size:Int)>30))) (R none 1 w) (Br ((w_).isNone) (R none 8 w) (New (.cells #[.pointer w_,.string file,.bool false,.int .i64 (-1),.int .u64 0] 247) w fun a w0=>R (some a) 0 w0))
theorem h7_.calls (w_:O_) (file:ByteArray) (w:World) (R:(O_)→Int→W_) (h:h7_ w_ file w R):kC_ w_ file w R:=
 ad_ (aj_ af_) aB_ Tryz.func66 [] [.p,.i .i64] [.pointer w_,.string file] w R (Eq.mp (show h7_ w_ file w R=vcF Tryz.prog G Tryz.f66 [] [.p,.i .i64] [.pointer w_,.string file] w R by kernel_rfl) h)
def j7_ (v:A_) (w:World) (R:(O_)→W_):Prop:=
 New (.cells v 142) w fun v1 w0=>∃g:A_,(loadVar 142 v1).run Tryz.prog w0=.ok (.agg g) w0∧∃g1:A_,(loadVar 142 v1).run Tryz.prog w0=.ok (.agg g1) w0∧∃g2:A_,(Instr.build 205 #[(0,.agg g),(1,.agg g1)]).run Tryz.prog w0=.ok (.agg g2) w0∧New (.cells g2 205) w0 fun a w01=>R (some a) w01
theorem j7_.calls (v:A_) (w:World) (R:(O_)→W_) (h:j7_ v w R):g5_ v w R:=
 ad_ (aj_ af_) aB_ Tryz.func67 [] [.p] [.agg v] w R (Eq.mp (show j7_ v w R=vcF Tryz.prog G Tryz.f67 [] [.p] [.agg v] w R by kernel_rfl) h)
def k4_ (w:World) (R:(O_)→W_):Prop:=
 New (.cells #[.slice none 0 0,.int .u32 0,.int .u8 0,.int .i64 (-1),.bool false] 201) w fun a w0=>R (some a) w0
theorem k4_.calls (w:World) (R:(O_)→W_) (h:k4_ w R):hQ_ w R:=
 ad_ (aj_ af_) aB_ Tryz.func68 [] [.p] [] w R (Eq.mp (show k4_ w R=vcF Tryz.prog G Tryz.f68 [] [.p] [] w R by kernel_rfl) h)
def j8_ (w:World) (R:(O_)→W_):Prop:=
 New (.cells #[.slice none 0 0,.slice none 0 0,.slice none 0 0,.slice none 0 0,.slice none 0 0,.slice none 0 0,.slice none 0 0,.slice none 0 0] 199) w fun a w0=>R (some a) w0
theorem j8_.calls (w:World) (R:(O_)→W_) (h:j8_ w R):fO_ w R:=
 ad_ (aj_ af_) aB_ Tryz.func69 [] [.p] [] w R (Eq.mp (show j8_ w R=vcF Tryz.prog G Tryz.f69 [] [.p] [] w R by kernel_rfl) h)
def hl_ (files:Option Nat) (c:A_) (most:Int) (w:World) (R:W_):Prop:=
 New (.cells c 173) w fun c1 w0=>∃n:Int,w0.cell? (c1.add 0)=some (.int .u8 n)∧Br (n==119) (∃xs:Sl,w0.cell? (c1.add 4)=some (.slice xs.A xs.n xs.c)∧∃xs1:Sl,w0.cell? (c1.add 4)=some (.slice xs1.A xs1.n xs1.c)∧(0≤(0:Int)∧(0:Int)≤(mn most (xs1.n:Int))∧(mn most (xs1.n:Int))≤(xs.c:Int)∧xs.n≤xs.c)∧∃s:ByteArray,w0.cell? (c1.add 1)=some (.string s)∧∃xs2:Sl,(Instr.lookup 106 (.map files) (.string s) false).run Tryz.prog w0=.ok (.slice xs2.A xs2.n xs2.c) w0∧ai_ Tryz.prog .sl (Builtin.append_ #[33,33] 33 #[.slice none 0 0,.slice xs2.A xs2.n xs2.c]) w0 fun xs3 w03=>∃(I:Sl→W_) (μ:Sl→World→Nat),I xs3 w03∧∀(f:Sl) (w04:World),I f w04→∃n1:Int,w04.cell? (c1.add 3)=some (.int .i64 n1)∧Br (decide ((f.n:Int)<(IntKind.wrap .i64 (n1+((((mn most (xs1.n:Int)).toNat-0):Nat):Int))))) (ai_ Tryz.prog .sl (Instr.buildSlice 33 1 #[(0,.int .u8 0)]) w04 fun xs4 w05=>ai_ Tryz.prog .sl (Builtin.append_ #[33,33] 33 #[.slice f.A f.n f.c,.slice xs4.A xs4.n xs4.c]) w05 fun xs5 w06=>I xs5 w06∧μ xs5 w06<μ f w04) (∃n2:Int,w04.cell? (c1.add 3)=some (.int .i64 n2)∧(0≤n2∧n2≤(f.n:Int)∧(f.n:Int)≤(f.c:Int)∧f.n≤f.c)∧ai_ Tryz.prog (.i .i64) (Builtin.copy_ #[33,33] 3 #[.slice (aP_ f.A f.c n2.toNat 1) (((f.n:Int)).toNat-n2.toNat) (f.c-n2.toNat),.slice (aP_ xs.A xs.c 0 1) ((mn most (xs1.n:Int)).toNat-0) (xs.c-0)]) w04 fun n3 w07=>∃s1:ByteArray,w07.cell? (c1.add 1)=some (.string s1)∧ag_ Tryz.prog (Instr.mapUpdate 106 (.map files) (.string s1) (.slice f.A f.n f.c)) w07 fun w08=>R w08)) (Br (n==110) (∃s2:ByteArray,w0.cell? (c1.add 1)=some (.string s2)∧∃r:Sl×Bool,(Instr.lookup 106 (.map files) (.string s2) true).run Tryz.prog w0=.ok (.tuple #[.slice r.1.A r.1.n r.1.c,.bool r.2]) w0∧∃s3:ByteArray,w0.cell? (c1.add 1)=some (.string s3)∧ai_ Tryz.prog .v (Builtin.delete_ #[106,9] 0 #[.map files,.string s3]) w0 fun v_ w010=>Br r.2 (∃s4:ByteArray,w010.cell? (c1.add 2)=some (.string s4)∧ag_ Tryz.prog (Instr.mapUpdate 106 (.map files) (.string s4) (.slice r.1.A r.1.n r.1.c)) w010 fun w012=>R w012) (R w010)) (Br (n==114) (∃s5:ByteArray,w0.cell? (c1.add 1)=some (.string s5)∧ai_ Tryz.prog .v (Builtin.delete_ #[106,9] 0 #[.map files,.string s5]) w0 fun v_1 w014=>R w014) (R w0)))
theorem hl_.calls (files:Option Nat) (c:A_) (most:Int) (w:World) (R:W_) (h:hl_ files c most w R):he_ files c most w R:=
 ad_ (aj_ af_) aB_ Tryz.func72 [(15,⟨[(7,.sl)],[0,4,6]⟩)] [] [.map files,.agg c,.int .i64 most] w R (Eq.mp (show hl_ files c most w R=vcF Tryz.prog G Tryz.f72 [(15,⟨[(7,.sl)],[0,4,6]⟩)] [] [.map files,.agg c,.int .i64 most] w R by kernel_rfl) h)
def m5_ (p:Sl) (at_:Int) (n:Int) (w:World) (R:Int→Int→W_):Prop:=
 j0_ p at_ n w fun n1 w0=>Br (n1 != 0) (R 0 n1 w0) ((0≤at_∧at_≤(IntKind.wrap .i64 (at_+n))∧(IntKind.wrap .i64 (at_+n))≤(p.c:Int)∧p.n≤p.c)∧∃(I:Int→Int→W_) (μ:Int→Int→World→Nat),I 0 0 w0∧∀(v:Int) (x:Int) (w01:World),I v x w01→Br (decide (x<((((IntKind.wrap .i64 (at_+n)).toNat-at_.toNat):Nat):Int))) ((0≤x∧x<((((IntKind.wrap .i64 (at_+n)).toNat-at_.toNat):Nat):Int)∧(aP_ p.A p.c at_.toNat 1).isSome=true)∧∃n2:Int,w01.cell? ((gA (aP_ p.A p.c at_.toNat 1)).add (x.toNat*1))=some (.int .u8 n2)∧I (bOr .u64 (cu_ .u64 v 8) (IntKind.wrap .u64 n2)) (IntKind.wrap .i64 (x+1)) w01∧μ (bOr .u64 (cu_ .u64 v 8) (IntKind.wrap .u64 n2)) (IntKind.wrap .i64 (x+1)) w01<μ v x w01) (R v 0 w01))
theorem m5_.calls (p:Sl) (at_:Int) (n:Int) (w:World) (R:Int→Int→W_) (h:m5_ p at_ n w R):cy_ p at_ n w R:=
 ad_ (aj_ af_) aB_ Tryz.func76 [(18,⟨[(9,.i .u64),(26,.i .i64)],[24,25]⟩)] [.i .u64,.i .i64] [.slice p.A p.n p.c,.int .i64 at_,.int .i64 n] w R (Eq.mp (show m5_ p at_ n w R=vcF Tryz.prog G Tryz.f76 [(18,⟨[(9,.i .u64),(26,.i .i64)],[24,25]⟩)] [.i .u64,.i .i64] [.slice p.A p.n p.c,.int .i64 at_,.int .i64 n] w R by kernel_rfl) h)
def i0_ (field:Int) (bit:Int) (w:World) (R:(A_)→W_):Prop:=
 New (.cells #[.int .u8 0,.int .u16 0,.int .u64 0,.bool false,.int .i64 0,.int .i64 0,.bool false,.bool false] 32) w fun a w0=>ag_ Tryz.prog (storeVar 32 a (.agg #[.int .u8 5,.int .u16 9216,.int .u64 0,.bool false,.int .i64 field,.int .i64 bit,.bool true,.bool true])) w0 fun w01=>∃res:A_,(loadVar 32 a).run Tryz.prog w01=.ok (.agg res) w01∧R res w01
theorem i0_.calls (field:Int) (bit:Int) (w:World) (R:(A_)→W_) (h:i0_ field bit w R):df_ field bit w R:=
 ad_ (aj_ af_) aB_ Tryz.func81 [] [.ag] [.int .i64 field,.int .i64 bit] w R (Eq.mp (show i0_ field bit w R=vcF Tryz.prog G Tryz.f81 [] [.ag] [.int .i64 field,.int .i64 bit] w R by kernel_rfl) h)
def i1_ (op:Int) (service:Int) (w:World) (R:Sl→Bool→W_):Prop:=
 ai_ Tryz.prog .sl (Instr.buildSlice 33 12 #[(0,.int .u8 255),(1,.int .u8 255),(2,.int .u8 255),(3,.int .u8 255),(4,.int .u8 255),(5,.int .u8 255),(6,.int .u8 255),(7,.int .u8 255),(8,.int .u8 255),(9,.int .u8 255),(10,.int .u8 255),(11,.int .u8 255)]) w fun xs w0=>Br (op==0) (ai_ Tryz.prog .sl (Instr.buildSlice 33 6 #[(0,.int .u8 op),(1,.int .u8 0),(2,.int .u8 0),(3,.int .u8 0),(4,.int .u8 0),(5,.int .u8 0)]) w0 fun xs1 w03=>R xs1 true w03) (Br (op==3) (ai_ Tryz.prog .sl (Instr.buildSlice 33 6 #[(0,.int .u8 op),(1,.int .u8 1),(2,.int .u8 0),(3,.int .u8 0),(4,.int .u8 255),(5,.int .u8 0)]) w0 fun xs2 w05=>R xs2 true w05) (aY_ (fun(x:Bool) (w06:World)=>Br x (ai_ Tryz.prog .sl (Instr.buildSlice 33 6 #[(0,.int .u8 op),(1,.int .u8 31),(2,.int .u8 255),(3,.int .u8 255),(4,.int .u8 255),(5,.int .u8 0)]) w06 fun xs3 w08=>R xs3 true w08) (Br (op==18) (ai_ Tryz.prog .sl (Instr.buildSlice 33 6 #[(0,.int .u8 op),(1,.int .u8 1),(2,.int .u8 255),(3,.int .u8 255),(4,.int .u8 255),(5,.int .u8 0)]) w06 fun xs4 w010=>R xs4 true w010) (Br (op==21) (ai_ Tryz.prog .sl (Instr.buildSlice 33 6 #[(0,.int .u8 op),(1,.int .u8 17),(2,.int .u8 0),(3,.int .u8 0),(4,.int .u8 255),(5,.int .u8 0)]) w06 fun xs5 w012=>R xs5 true w012) (Br (op==26) (ai_ Tryz.prog .sl (Instr.buildSlice 33 6 #[(0,.int .u8 op),(1,.int .u8 8),(2,.int .u8 255),(3,.int .u8 0),(4,.int .u8 255),(5,.int .u8 0)]) w06 fun xs6 w014=>R xs6 true w014) (Br (op==37) (ai_ Tryz.prog .sl (Instr.buildSlice 33 10 #[(0,.int .u8 op),(1,.int .u8 0),(2,.int .u8 0),(3,.int .u8 0),(4,.int .u8 0),(5,.int .u8 0),(6,.int .u8 0),(7,.int .u8 0),(8,.int .u8 0),(9,.int .u8 0)]) w06 fun xs7 w016=>R xs7 true w016) (aY_ (fun(x1:Bool) (w017:World)=>Br x1 (ai_ Tryz.prog .sl (Instr.buildSlice 33 10 #[(0,.int .u8 op),(1,.int .u8 248),(2,.int .u8 255),(3,.int .u8 255),(4,.int .u8 255),(5,.int .u8 255),(6,.int .u8 0),(7,.int .u8 255),(8,.int .u8 255),(9,.int .u8 0)]) w017 fun xs8 w019=>R xs8 true w019) (Br (op==46) (ai_ Tryz.prog .sl (Instr.buildSlice 33 10 #[(0,.int .u8 op),(1,.int .u8 240),(2,.int .u8 255),(3,.int .u8 255),(4,.int .u8 255),(5,.int .u8 255),(6,.int .u8 0),(7,.int .u8 255),(8,.int .u8 255),(9,.int .u8 0)]) w017 fun xs9 w021=>R xs9 true w021) (Br (op==47) (ai_ Tryz.prog .sl (Instr.buildSlice 33 10 #[(0,.int .u8 op),(1,.int .u8 242),(2,.int .u8 255),(3,.int .u8 255),(4,.int .u8 255),(5,.int .u8 255),(6,.int .u8 0),(7,.int .u8 255),(8,.int .u8 255),(9,.int .u8 0)]) w017 fun xs10 w023=>R xs10 true w023) (Br (op==53) (ai_ Tryz.prog .sl (Instr.buildSlice 33 10 #[(0,.int .u8 op),(1,.int .u8 0),(2,.int .u8 255),(3,.int .u8 255),(4,.int .u8 255),(5,.int .u8 255),(6,.int .u8 0),(7,.int .u8 255),(8,.int .u8 255),(9,.int .u8 0)]) w017 fun xs11 w025=>R xs11 true w025) (Br (op==65) (ai_ Tryz.prog .sl (Instr.buildSlice 33 10 #[(0,.int .u8 op),(1,.int .u8 232),(2,.int .u8 255),(3,.int .u8 255),(4,.int .u8 255),(5,.int .u8 255),(6,.int .u8 0),(7,.int .u8 255),(8,.int .u8 255),(9,.int .u8 0)]) w017 fun xs12 w027=>R xs12 true w027) (Br (op==66) (ai_ Tryz.prog .sl (Instr.buildSlice 33 10 #[(0,.int .u8 op),(1,.int .u8 0),(2,.int .u8 0),(3,.int .u8 0),(4,.int .u8 0),(5,.int .u8 0),(6,.int .u8 0),(7,.int .u8 255),(8,.int .u8 255),(9,.int .u8 0)]) w017 fun xs13 w029=>R xs13 true w029) (Br (op==85) (ai_ Tryz.prog .sl (Instr.buildSlice 33 10 #[(0,.int .u8 op),(1,.int .u8 17),(2,.int .u8 0),(3,.int .u8 0),(4,.int .u8 0),(5,.int .u8 0),(6,.int .u8 0),(7,.int .u8 255),(8,.int .u8 255),(9,.int .u8 0)]) w017 fun xs14 w031=>R xs14 true w031) (Br (op==90) (ai_ Tryz.prog .sl (Instr.buildSlice 33 10 #[(0,.int .u8 op),(1,.int .u8 8),(2,.int .u8 255),(3,.int .u8 0),(4,.int .u8 0),(5,.int .u8 0),(6,.int .u8 0),(7,.int .u8 255),(8,.int .u8 255),(9,.int .u8 0)]) w017 fun xs15 w033=>R xs15 true w033) (Br (op==94) (ai_ Tryz.prog .sl (Instr.buildSlice 33 10 #[(0,.int .u8 op),(1,.int .u8 31),(2,.int .u8 0),(3,.int .u8 0),(4,.int .u8 0),(5,.int .u8 0),(6,.int .u8 0),(7,.int .u8 255),(8,.int .u8 255),(9,.int .u8 0)]) w017 fun xs16 w035=>R xs16 (decide (service≤3)) w035) (Br (op==95) (ai_ Tryz.prog .sl (Instr.buildSlice 33 10 #[(0,.int .u8 op),(1,.int .u8 31),(2,.int .u8 15),(3,.int .u8 0),(4,.int .u8 0),(5,.int .u8 255),(6,.int .u8 255),(7,.int .u8 255),(8,.int .u8 255),(9,.int .u8 0)]) w017 fun xs17 w037=>R xs17 (decide (service≤6)) w037) (Br (op==131) (ai_ Tryz.prog .sl (Instr.buildSlice 33 10 #[(0,.int .u8 op),(1,.int .u8 31),(2,.int .u8 0),(3,.int .u8 0),(4,.int .u8 0),(5,.int .u8 0),(6,.int .u8 0),(7,.int .u8 0),(8,.int .u8 0),(9,.int .u8 0)]) w017 fun xs18 w039=>(0≤(0:Int)∧(0:Int)≤(4:Int)∧(4:Int)≤(xs.c:Int)∧xs.n≤xs.c)∧ai_ Tryz.prog .sl (Builtin.append_ #[33,33] 33 #[.slice xs18.A xs18.n xs18.c,.slice (aP_ xs.A xs.c 0 1) (4-0) (xs.c-0)]) w039 fun xs19 w040=>ai_ Tryz.prog .sl (Instr.buildSlice 33 2 #[(0,.int .u8 0),(1,.int .u8 0)]) w040 fun xs20 w041=>ai_ Tryz.prog .sl (Builtin.append_ #[33,33] 33 #[.slice xs19.A xs19.n xs19.c,.slice xs20.A xs20.n xs20.c]) w041 fun xs21 w042=>R xs21 (service==0) w042) (aY_ (fun(x2:Bool) (w043:World)=>Br x2 (ai_ Tryz.prog .sl (Instr.buildSlice 33 2 #[(0,.int .u8 op),(1,.int .u8 248)]) w043 fun xs22 w044=>ai_ Tryz.prog .sl (Builtin.append_ #[33,33] 33 #[.slice xs22.A xs22.n xs22.c,.slice xs.A xs.n xs.c]) w044 fun xs23 w045=>ai_ Tryz.prog .sl (Instr.buildSlice 33 2 #[(0,.int .u8 0),(1,.int .u8 0)]) w045 fun xs24 w046=>ai_ Tryz.prog .sl (Builtin.append_ #[33,33] 33 #[.slice xs23.A xs23.n xs23.c,.slice xs24.A xs24.n xs24.c]) w046 fun xs25 w047=>R xs25 true w047) (Br (op==137) (ai_ Tryz.prog .sl (Instr.buildSlice 33 2 #[(0,.int .u8 op),(1,.int .u8 248)]) w043 fun xs26 w048=>(0≤(0:Int)∧(0:Int)≤(8:Int)∧(8:Int)≤(xs.c:Int)∧xs.n≤xs.c)∧ai_ Tryz.prog .sl (Builtin.append_ #[33,33] 33 #[.slice xs26.A xs26.n xs26.c,.slice (aP_ xs.A xs.c 0 1) (8-0) (xs.c-0)]) w048 fun xs27 w049=>ai_ Tryz.prog .sl (Instr.buildSlice 33 6 #[(0,.int .u8 0),(1,.int .u8 0),(2,.int .u8 0),(3,.int .u8 255),(4,.int .u8 0),(5,.int .u8 0)]) w049 fun xs28 w050=>ai_ Tryz.prog .sl (Builtin.append_ #[33,33] 33 #[.slice xs27.A xs27.n xs27.c,.slice xs28.A xs28.n xs28.c]) w050 fun xs29 w051=>R xs29 true w051) (Br (op==145) (ai_ Tryz.prog .sl (Instr.buildSlice 33 2 #[(0,.int .u8 op),(1,.int .u8 0)]) w043 fun xs30 w052=>ai_ Tryz.prog .sl (Builtin.append_ #[33,33] 33 #[.slice xs30.A xs30.n xs30.c,.slice xs.A xs.n xs.c]) w052 fun xs31 w053=>ai_ Tryz.prog .sl (Instr.buildSlice 33 2 #[(0,.int .u8 0),(1,.int .u8 0)]) w053 fun xs32 w054=>ai_ Tryz.prog .sl (Builtin.append_ #[33,33] 33 #[.slice xs31.A xs31.n xs31.c,.slice xs32.A xs32.n xs32.c]) w054 fun xs33 w055=>R xs33 true w055) (Br (op==147) (ai_ Tryz.prog .sl (Instr.buildSlice 33 2 #[(0,.int .u8 op),(1,.int .u8 232)]) w043 fun xs34 w056=>ai_ Tryz.prog .sl (Builtin.append_ #[33,33] 33 #[.slice xs34.A xs34.n xs34.c,.slice xs.A xs.n xs.c]) w056 fun xs35 w057=>ai_ Tryz.prog .sl (Instr.buildSlice 33 2 #[(0,.int .u8 0),(1,.int .u8 0)]) w057 fun xs36 w058=>ai_ Tryz.prog .sl (Builtin.append_ #[33,33] 33 #[.slice xs35.A xs35.n xs35.c,.slice xs36.A xs36.n xs36.c]) w058 fun xs37 w059=>R xs37 true w059) (Br (op==158) (ai_ Tryz.prog .sl (Instr.buildSlice 33 10 #[(0,.int .u8 op),(1,.int .u8 31),(2,.int .u8 0),(3,.int .u8 0),(4,.int .u8 0),(5,.int .u8 0),(6,.int .u8 0),(7,.int .u8 0),(8,.int .u8 0),(9,.int .u8 0)]) w043 fun xs38 w060=>(0≤(0:Int)∧(0:Int)≤(4:Int)∧(4:Int)≤(xs.c:Int)∧xs.n≤xs.c)∧ai_ Tryz.prog .sl (Builtin.append_ #[33,33] 33 #[.slice xs38.A xs38.n xs38.c,.slice (aP_ xs.A xs.c 0 1) (4-0) (xs.c-0)]) w060 fun xs39 w061=>ai_ Tryz.prog .sl (Instr.buildSlice 33 2 #[(0,.int .u8 0),(1,.int .u8 0)]) w061 fun xs40 w062=>ai_ Tryz.prog .sl (Builtin.append_ #[33,33] 33 #[.slice xs39.A xs39.n xs39.c,.slice xs40.A xs40.n xs40.c]) w062 fun xs41 w063=>R xs41 (service==16) w063) (Br (op==160) (ai_ Tryz.prog .sl (Instr.buildSlice 33 12 #[(0,.int .u8 op),(1,.int .u8 0),(2,.int .u8 3),(3,.int .u8 0),(4,.int .u8 0),(5,.int .u8 0),(6,.int .u8 255),(7,.int .u8 255),(8,.int .u8 255),(9,.int .u8 255),(10,.int .u8 0),(11,.int .u8 0)]) w043 fun xs42 w064=>R xs42 true w064) (R (⟨none,0,0⟩:Sl) false w043))))))) fun J_=>Br (op==136) (J_ (op==136) w017) (J_ (op==138) w017))))))))))))) fun J_1=>Br (op==40) (J_1 (op==40) w06) (J_1 (op==42) w06))))))) fun J_2=>Br (op==8) (J_2 (op==8) w0) (J_2 (op==10) w0)))
theorem i1_.calls (op:Int) (service:Int) (w:World) (R:Sl→Bool→W_) (h:i1_ op service w R):lt_ op service w R:=
 ad_ (aj_ af_) aB_ Tryz.func82 [(127,⟨[(94,.b)],[0,1,6,8]⟩),(58,⟨[(38,.b)],[0,1,6,8]⟩),(25,⟨[(17,.b)],[0,1,6,8]⟩)] [.sl,.b] [.int .u8 op,.int .u8 service] w R (Eq.mp (show i1_ op service w R=vcF Tryz.prog G Tryz.f82 [(127,⟨[(94,.b)],[0,1,6,8]⟩),(58,⟨[(38,.b)],[0,1,6,8]⟩),(25,⟨[(17,.b)],[0,1,6,8]⟩)] [.sl,.b] [.int .u8 op,.int .u8 service] w R by kernel_rfl) h)
def m6_ (p:Sl) (mask:Sl) (w:World) (R:Int→Int→W_):Prop:=
 ∃(I:Int→W_) (μ:Int→World→Nat),I 0 w∧∀(x:Int) (w0:World),I x w0→Br (decide (x<(p.n:Int))) (aY_ (fun(w01:World)=>I (IntKind.wrap .i64 (x+1)) w01∧μ (IntKind.wrap .i64 (x+1)) w01<μ x w0) fun J_=>(0≤x∧x<(p.n:Int)∧p.A.isSome=true)∧∃n:Int,w0.cell? ((gA p.A).add (x.toNat*1))=some (.int .u8 n)∧aY_ (fun(b:Int) (w02:World)=>∃(I1:Int→W_) (μ1:Int→World→Nat),I1 7 w02∧∀(bit:Int) (w03:World),I1 bit w03→Br (decide (bit≥0)) ((0≤bit)∧Br ((br_ .u8 (bJ_ .u8 b bit.toNat) 1)==1) (R x bit w03) (I1 (IntKind.wrap .i64 (bit-1)) w03∧μ1 (IntKind.wrap .i64 (bit-1)) w03<μ1 bit w03)) (J_ w03)) fun J_1=>Br (decide (x<(mask.n:Int))) ((0≤x∧x<(mask.n:Int)∧mask.A.isSome=true)∧∃n1:Int,w0.cell? ((gA mask.A).add (x.toNat*1))=some (.int .u8 n1)∧J_1 (tz_ .u8 n n1) w0) (J_1 n w0)) (R (-1) (-1) w0)
theorem m6_.calls (p:Sl) (mask:Sl) (w:World) (R:Int→Int→W_) (h:m6_ p mask w R):m4_ p mask w R:=
 ad_ (aj_ af_) aB_ Tryz.func83 [(6,⟨[(11,.i .i64)],[1,9,10]⟩),(5,⟨[],[1,9,10,11]⟩),(21,⟨[(8,.i .i64)],[1,6,7,9,10,11]⟩),(16,⟨[(7,.i .u8)],[1,6,9,10,11]⟩)] [.i .i64,.i .i64] [.slice p.A p.n p.c,.slice mask.A mask.n mask.c] w R (Eq.mp (show m6_ p mask w R=vcF Tryz.prog G Tryz.f83 [(6,⟨[(11,.i .i64)],[1,9,10]⟩),(5,⟨[],[1,9,10,11]⟩),(21,⟨[(8,.i .i64)],[1,6,7,9,10,11]⟩),(16,⟨[(7,.i .u8)],[1,6,9,10,11]⟩)] [.i .i64,.i .i64] [.slice p.A p.n p.c,.slice mask.A mask.n mask.c] w R by kernel_rfl) h)
def j9_ (op:Int) (w:World) (R:Int→W_):Prop:=
 Br (op==0) (R 1 w) (Br (op==3) (R 2 w) (Br (op==18) (R 3 w) (aY_ (fun(x:Bool) (w04:World)=>Br x (R 4 w04) (aY_ (fun(x1:Bool) (w06:World)=>Br x1 (R 5 w06) (aY_ (fun(x2:Bool) (w08:World)=>Br x2 (R 6 w08) (aY_ (fun(x3:Bool) (w010:World)=>Br x3 (R 7 w010) (aY_ (fun(x4:Bool) (w012:World)=>Br x4 (R 8 w012) (Br (op==46) (R 9 w012) (Br (op==47) (R 10 w012) (aY_ (fun(x5:Bool) (w016:World)=>Br x5 (R 11 w016) (aY_ (fun(x6:Bool) (w018:World)=>Br x6 (R 12 w018) (Br (op==66) (R 13 w018) (Br (op==137) (R 14 w018) (Br (op==94) (R 15 w018) (Br (op==95) (R 16 w018) (Br (op==160) (R 17 w018) (Br (op==131) (R 18 w018) (R 0 w018)))))))) fun J_=>Br (op==65) (J_ (op==65) w016) (J_ (op==147) w016))) fun J_1=>Br (op==53) (J_1 (op==53) w012) (J_1 (op==145) w012))))) fun J_2=>Br (op==10) (J_2 (op==10) w010) (Br (op==42) (J_2 (op==42) w010) (J_2 (op==138) w010)))) fun J_3=>Br (op==8) (J_3 (op==8) w08) (Br (op==40) (J_3 (op==40) w08) (J_3 (op==136) w08)))) fun J_4=>Br (op==37) (J_4 (op==37) w06) (J_4 (op==158) w06))) fun J_5=>Br (op==26) (J_5 (op==26) w04) (J_5 (op==90) w04))) fun J_6=>Br (op==21) (J_6 (op==21) w) (J_6 (op==85) w))))
theorem j9_.calls (op:Int) (w:World) (R:Int→W_) (h:j9_ op w R):mp_ op w R:=
 ad_ (aj_ af_) aB_ Tryz.func84 [(100,⟨[(34,.b)],[3]⟩),(91,⟨[(31,.b)],[3]⟩),(67,⟨[(23,.b)],[3]⟩),(55,⟨[(19,.b)],[3]⟩),(46,⟨[(16,.b)],[3]⟩),(37,⟨[(13,.b)],[3]⟩),(28,⟨[(10,.b)],[3]⟩)] [.i .u8] [.int .u8 op] w R (Eq.mp (show j9_ op w R=vcF Tryz.prog G Tryz.f84 [(100,⟨[(34,.b)],[3]⟩),(91,⟨[(31,.b)],[3]⟩),(67,⟨[(23,.b)],[3]⟩),(55,⟨[(19,.b)],[3]⟩),(46,⟨[(16,.b)],[3]⟩),(37,⟨[(13,.b)],[3]⟩),(28,⟨[(10,.b)],[3]⟩)] [.i .u8] [.int .u8 op] w R by kernel_rfl) h)
end Go.Proofs.YtpmebahhjgkflaaGreatDoor
