import Derived.MapKept
import Derived.Laws.CopyRow
import Derived.Laws.IdiomCopy
import Derived.Test.YtpmebahhjgkflaaGreatDoorProg
import Derived.Test.YtpmebahhjgkflaaGreatDoorB1
set_option maxHeartbeats 20000000
namespace Go.Proofs.YtpmebahhjgkflaaGreatDoor.CF
open Go Go.RowKit
set_option maxRecDepth 100000
def ie_ (es:List MapEntry):Prop:=∀e∈es,∃s,e.key=.string s
def fi_:List MapEntry→ByteArray→Nat→Option (Nat×Value)
 | [],_,_=>none
 | e::r,s,i=>match e.key with
  | .string t=>if s=t then some (i,e.val) else fi_ r s (i+1)
  | _=>fi_ r s (i+1)
def h4_ (es:List MapEntry) (s:ByteArray):Option Value:=(fi_ es s 0).map (·.2)
theorem mf_ {s:ByteArray}:∀{es:List MapEntry} (i:Nat),ie_ es→Instr.findNow .string (.string s) es i=some (fi_ es s i)
 | [],_,_=>rfl
 | e::r,i,h=>by
  obtain⟨t,ht⟩:=h e (by simp)
  have ih:=mf_ (s:=s) (i+1) (fun x hx=>h x (by simp[hx]):ie_ r)
  unfold Instr.findNow fi_
  rw[ht]
  simp only[Instr.sameNow]
  by_cases e:s=t
  ·have:(s==t)=true:=(MapKept.bytes_beq s t).2 e
   rw[this]
   simp only[if_pos e]
  ·have:(s==t)=false:=Bool.eq_false_iff.2 fun q=>e ((MapKept.bytes_beq s t).1 q)
   rw[this]
   simp only[if_neg e]
   exact ih
theorem if_ {s:ByteArray}:∀(es:List MapEntry) (i j:Nat),fi_ es s (i+j)=(fi_ es s i).map fun p=>(p.1+j,p.2)
 | [],_,_=>rfl
 | e::r,i,j=>by
  unfold fi_
  have:=if_ (s:=s) r (i+1) j
  rw[show i+1+j=i+j+1 by omega] at this
  cases e.key with
  | string t=>by_cases q:s=t<;>simp[q,this]
  | _=>simpa using this
theorem es_ {e:MapEntry} {r:List MapEntry} {t:ByteArray} (h:e.key=.string t) (s:ByteArray):h4_ (e::r) s=if s=t then some e.val else h4_ r s:=by
 unfold h4_
 conv=>lhs;unfold fi_
 rw[h]
 by_cases q:s=t
 ·simp[q]
 ·simp only[if_neg q]
  rw[if_ r 0 1,Option.map_map]
  rfl
theorem tp_ {es:List MapEntry} {s:ByteArray} {e:MapEntry} (hk:ie_ es) (he:e.key=.string s) (hn:h4_ es s=none) (t:ByteArray) :
  h4_ (es++[e]) t=if t=s then some e.val else h4_ es t:=by
 induction es with
 | nil=>rw[List.nil_append,es_ he]
 | cons x r ih=>
  obtain⟨u,hu⟩:=hk x (by simp)
  rw[es_ hu] at hn
  rw[List.cons_append,es_ hu,es_ hu]
  by_cases q:s=u
  ·rw[if_pos q] at hn;cases hn
  ·rw[if_neg q] at hn
   rw[ih (fun x hx=>hk x (by simp[hx])) hn]
   by_cases q1:t=u
   ·by_cases q2:t=s
    ·exact absurd (q2.symm.trans q1) q
    ·rw[if_pos q1,if_neg q2,if_pos q1]
   ·simp only[if_neg q1]
theorem qO_ {es:List MapEntry} {s:ByteArray} {i:Nat} {v v':Value} (hk:ie_ es) (hn:fi_ es s 0=some (i,v)) (t:ByteArray) :
  h4_ (es.modify i fun e=>{e with key:=.string s,val:=v'}) t=if t=s then some v' else h4_ es t:=by
 induction es generalizing i with
 | nil=>cases hn
 | cons x r ih=>
  obtain⟨u,hu⟩:=hk x (by simp)
  unfold fi_ at hn
  rw[hu] at hn
  by_cases q:s=u
  ·simp only[if_pos q,Option.some.injEq,Prod.mk.injEq] at hn
   obtain⟨rfl,_⟩:=hn
   rw[List.modify_zero_cons,es_ (t:=s) rfl,es_ hu]
   by_cases q1:t=s
   ·simp[q1]
   ·have q2:t≠u:=fun e=>q1 (e.trans q.symm)
    simp[q1,q2]
  ·simp only[if_neg q] at hn
   rw[if_ r 0 1] at hn
   obtain⟨p,hp,hpe⟩:=Option.map_eq_some_iff.1 hn
   simp only[Prod.mk.injEq] at hpe
   obtain⟨rfl,hp2⟩:=hpe
   rw[List.modify_succ_cons,es_ hu,es_ hu,ih (i:=p.1) (fun x hx=>hk x (by simp[hx])) (by rw[hp,←hp2])]
   by_cases q1:t=u
   ·have q2:t≠s:=fun e=>q (e.symm.trans q1)
    simp[q1,q2]
    exact fun e=>absurd e.symm q
   ·simp[q1]
theorem pL_ {es:List MapEntry} {s:ByteArray} {i:Nat} {v':Value} (hk:ie_ es):ie_ (es.modify i fun e=>{e with key:=.string s,val:=v'}):=by
 intro e he
 obtain⟨j,hj,rfl⟩:=List.getElem_of_mem he
 rw[List.getElem_modify]
 split
 ·exact⟨s,rfl⟩
 ·exact hk _ (List.getElem_mem _)
theorem wc_ {es:Array MapEntry} {s:ByteArray} {i j:Nat} {v:Value} (hs:ie_ es.toList) (h:fi_ es.toList s j=some (j+i,v)):∃e0,es[i]?=some e0∧e0.key=.string s:=by
 rw[←Array.getElem?_toList]
 generalize es.toList=l at *
 induction l generalizing i j with
 | nil=>cases h
 | cons x r ih=>
  obtain⟨u,hu⟩:=hs x (by simp)
  unfold fi_ at h
  rw[hu] at h
  by_cases q:s=u
  ·simp only[if_pos q,Option.some.injEq,Prod.mk.injEq] at h
   have:i=0:=o_
   subst this
   exact⟨x,rfl,by rw[hu,q]⟩
  ·simp only[if_neg q] at h
   have hi:0<i:=by
    rw[show j+1=0+(j+1) by omega,if_] at h
    obtain⟨p,_,hp⟩:=Option.map_eq_some_iff.1 h
    simp only[Prod.mk.injEq] at hp
    omega
   obtain⟨i',rfl⟩:∃i',i=i'+1:=⟨i-1,o_⟩
   rw[List.getElem?_cons_succ]
   exact ih (j:=j+1) (fun y hy=>hs y (by simp[hy])) (by rw[h];congr 2;omega)
def kk_ (w:World) (b:Nat) (m:ByteArray→Option Value):Prop:=
 ∃es clock,w.heap[b]?=some (.map es clock)∧ie_ es.toList∧∀s,h4_ es.toList s=m s
def upd (m:ByteArray→Option Value) (s:ByteArray) (v:Value):ByteArray→Option Value:=fun t=>if t=s then some v else m t
theorem kk_.keep {S:Nat→Prop} {w w':World} {b:Nat} {m:ByteArray→Option Value} (h:kk_ w b m) (k:aa_ S w w') (hn:¬S b):kk_ w' b m:=by
 obtain⟨es,c,h1,h2⟩:=h
 exact⟨es,c,k.heap h1 hn,h2⟩
theorem uE_ (w:World):kk_ (w.alloc (.map #[] 0)) w.heap.size fun _=>none:=
 ⟨#[],0,by show(w.heap.push _)[w.heap.size]?=_;simp,fun e he=>by simp at he,fun s=>rfl⟩
section
variable {P:Program} {w:World} {b:Nat} {m:ByteArray→Option Value} {t k e:TypeId}
theorem fA_ {es:Array MapEntry} {clock:Nat} (h:w.heap[b]?=some (.map es clock)):(getObj b).run P w=.ok (.map es clock) w:=by
 simp[getObj,Sem.run,h]
theorem eh_ (ek:Bool) (n:Nat) (hk:P.underlying k=some .string) (s:ByteArray):(Instr.checkKey ek (n+1) k (.string s)).run P w=.ok () w:=by
 unfold Instr.checkKey
 simp[run_underlying hk]
theorem eS_ {es:List MapEntry} (hk:P.underlying k=some .string) (hs:ie_ es) (s:ByteArray):(Instr.findKey k (.string s) es).run P w=.ok (fi_ es s 0) w:=by
 unfold Instr.findKey
 simp[run_underlying hk,mf_ 0 hs]
theorem tq_ (ht:P.underlying t=some (.map k e)) (hk:P.underlying k=some .string) {zv:Value} (hz:(zeroValue e).run P w=.ok zv w) (h:kk_ w b m) (s:ByteArray) :
  (Instr.lookup t (.map (some b)) (.string s) true).run P w=.ok (.tuple #[(m s).getD zv,.bool (m s).isSome]) w∧
  (Instr.lookup t (.map (some b)) (.string s) false).run P w=.ok ((m s).getD zv) w:=by
 obtain⟨es,c,hb,hs,hm⟩:=h
 have:=hm s
 unfold h4_ at this
 unfold Instr.lookup
 constructor
 ·cases hi:fi_ es.toList s 0 with
  | none=>
   rw[hi] at this
   simp only[Option.map_none] at this
   rw[←this]
   simp[run_underlying ht,fA_ hb,eh_ _ _ hk,eS_ hk hs,hi,hz]
  | some p=>
   rw[hi] at this
   simp only[Option.map_some] at this
   rw[←this]
   simp[run_underlying ht,fA_ hb,eh_ _ _ hk,eS_ hk hs,hi]
 ·cases hi:fi_ es.toList s 0 with
  | none=>
   rw[hi] at this
   simp only[Option.map_none] at this
   rw[←this]
   simp[run_underlying ht,fA_ hb,eh_ _ _ hk,eS_ hk hs,hi,hz]
  | some p=>
   rw[hi] at this
   simp only[Option.map_some] at this
   rw[←this]
   simp[run_underlying ht,fA_ hb,eh_ _ _ hk,eS_ hk hs,hi]
theorem m7_ {o:Obj} {es:Array MapEntry} {c:Nat} (h:w.heap[b]?=some (.map es c)):(setObj b o).run P w=.ok () {w with heap:=w.heap.setIfInBounds b o}:=by
 simp[setObj,Sem.run,h]
theorem uF_ (ht:P.underlying t=some (.map k e)) (hk:P.underlying k=some .string) (h:kk_ w b m) (s:ByteArray) (v:Value)
  {K:W_} (hK:∀w1,kk_ w1 b (upd m s v)→aa_ (fun k=>k=b) w w1→w1.heap.size=w.heap.size→K w1):ah_ P (Instr.mapUpdate t (.map (some b)) (.string s) v) w K:=by
 obtain⟨es,c,hb,hs,hm⟩:=h
 have hlt:=aw_ hb
 have hget:∀(o:Obj),({w with heap:=w.heap.setIfInBounds b o}:World).heap[b]?=some o:=fun o=>by
  simp[hlt]
 have hkeep:∀(o:Obj),aa_ (fun k=>k=b) w {w with heap:=w.heap.setIfInBounds b o}:=fun o=>
  ⟨rfl,rfl,rfl,by simp,fun k _ hn=>by simp[Array.getElem?_setIfInBounds,Ne.symm hn]⟩
 cases hi:fi_ es.toList s 0 with
 | none=>
  have hn:h4_ es.toList s=none:=by unfold h4_;rw[hi];rfl
  refine⟨_,?_,hK {w with heap:=w.heap.setIfInBounds b (.map (es.push {key:=.string s,val:=v,born:=c}) (c+1))} ⟨_,_,hget _,?_,fun t=>?_⟩ (hkeep _) (by simp)⟩
  ·unfold Instr.mapUpdate
   simp[run_underlying ht,fA_ hb,eh_ _ _ hk,eS_ hk hs,hi,m7_ hb]
  ·intro e he
   rw[Array.toList_push,List.mem_append,List.mem_singleton] at he
   rcases he with he|rfl
   ·exact hs e he
   ·exact⟨s,rfl⟩
  ·rw[Array.toList_push,tp_ hs rfl hn]
   unfold upd
   rw[hm]
 | some p=>
  obtain⟨i,v0⟩:=p
  have hold:∃e0,es[i]?=some e0∧e0.key=.string s:=wc_ (j:=0) hs (by rw[hi,Nat.zero_add])
  obtain⟨e0,he0,hk0⟩:=hold
  refine⟨_,?_,hK {w with heap:=w.heap.setIfInBounds b (.map (es.modify i fun e=>{e with key:=.string s,val:=v}) c)} ⟨_,_,hget _,?_,fun t=>?_⟩ (hkeep _) (by simp)⟩
  ·unfold Instr.mapUpdate
   simp[run_underlying ht,fA_ hb,eh_ _ _ hk,eS_ hk hs,hi,m7_ hb,he0,hk0,Instr.keyThatStays,Instr.sameBits,(MapKept.bytes_beq s s).2 rfl]
  ·rw[Array.toList_modify];exact pL_ hs
  ·rw[Array.toList_modify,qO_ hs hi]
   unfold upd
   rw[hm]
end
open Go Go.RowKit
set_option maxRecDepth 100000
theorem tr_ {P:Program} {w:World} {base:Nat} {t ty e:TypeId} {zv:Option Value} {bytes:Nat} (ht:P.underlying t=some (.slice e)) (hinfo:(P.info? e).map (fun i=>(i.zero,i.size,i.bytes))=some (zv,1,bytes))
  {f x:Sl} {F xs:List Value} {o:Nat} (hf:Own w base e 1 f F) (hx:Rd w 1 x xs) (h1:∀u∈xs,u.oneCell'=true) (ho:o+x.n≤f.n)
  {K:Int→W_} (h:∀w',Own w' base e 1 f (F.take o++xs++F.drop (o+x.n))→aa_ (fun k=>some k=f.blk) w w'→w'.heap.size=w.heap.size→K (x.n:Int) w') :
  an_ P (.i .i64) (Builtin.copy_ #[t,t] ty #[.slice (aM_ f.A f.c o 1) (f.n-o) (f.c-o),.slice x.A x.n x.c]) w K:=by
 have hs:(P.info? e).map (·.size)=some 1:=by
  obtain⟨i,hi,hzz⟩:=Option.map_eq_some_iff.1 hinfo
  simp only[Prod.mk.injEq] at hzz
  rw[hi,Option.map_some,hzz.2.1]
 have hFl:F.length=f.n:=by have:=hf.len;omega
 have hxl:xs.length=x.n:=by have:=hx.len;omega
 rcases Nat.eq_zero_or_pos x.n with h0|hpos
 ·have hx0:xs = []:=List.eq_nil_of_length_eq_zero o_
  refine⟨(x.n:Int),w,?_,h w ?_ (aa_.refl _ _) rfl⟩
  ·rw[run_copy_none (P:=P) w t t ty e _ _ _ _ _ _ ht hs (by rw[h0];exact Nat.zero_min _),h0];rfl
  ·rw[hx0,h0,List.append_nil,Nat.add_zero,List.take_append_drop];exact hf
 ·obtain⟨hlen,hown⟩:=hf
  rcases hown with⟨h2,hn0⟩|⟨g,cap,cur,hv,hbg,hg,hnc,hcm,hcs,htake⟩
  ·omega
  ·injection hv with hA hN hC
   have hne:xs≠[]:=fun e=>by rw[e] at hxl;simp at hxl;omega
   obtain⟨a,ha,hc⟩:=hx.at_ hne
   have hcA:aM_ f.A f.c o 1=some ⟨g,o,none⟩:=by
    unfold aM_
    rw[if_neg o_,hA]
    simp[Addr.add]
    omega
   have hcs':cur.size=cap:=by simpa using hcs
   have hmin:xs.length=Nat.min x.n (f.n-o):=by
    have:Nat.min x.n (f.n-o)=x.n:=Nat.min_eq_left o_
    omega
   have hr:=run_copy_row (P:=P) w t t ty e g o (f.n-o) (f.c-o) a x.n x.c cur e xs ht hs hg hmin hc o_ h1
   rw[hcA,ha]
   refine⟨(x.n:Int),_,by rw[hr,hxl];rfl,h _ ⟨?_,.inr ⟨g,cap,_,by rw[hA,hC],hbg,setRow_heap w g cur _ e _ hg,hnc,hcm,?_,?_⟩⟩ ⟨rfl,rfl,rfl,by simp,fun k _ hk=>setRow_other w g k _ (fun e=>hk (by simp[Sl.blk,hA,e]))⟩ (by simp)⟩
   ·simp only[List.length_append,List.length_take,List.length_drop]
    omega
   ·simp only[List.size_toArray,List.length_append,List.length_take,List.length_drop,Array.length_toList]
    omega
   ·have hF:cur.toList.take (f.n*1)=F:=htake
    rw[Nat.mul_one] at hF ⊢
    rw[←hF]
    apply List.ext_getElem?
    intro j
    simp only[List.getElem?_take,List.getElem?_append,List.length_append,List.length_take,Array.length_toList,List.getElem?_drop,hxl]
    have e1:min o cur.size=o:=o_
    have e2:min o (min f.n cur.size)=o:=o_
    simp only[e1,e2]
    by_cases q1:j<o
    ·have q2:j<o+x.n:=o_
     have q3:j<f.n:=o_
     simp only[if_pos q1,if_pos q2,if_pos q3]
    ·by_cases q2:j<o+x.n
     ·have q3:j<f.n:=o_
      simp only[if_neg q1,if_pos q2,if_pos q3]
     ·by_cases q3:j<f.n
      ·have q4:o+x.n+(j-(o+x.n))<f.n:=o_
       simp only[if_neg q2,if_pos q3,if_pos q4]
      ·have q4:¬o+x.n+(j-(o+x.n))<f.n:=o_
       simp only[if_neg q2,if_neg q3,if_neg q4]
end Go.Proofs.YtpmebahhjgkflaaGreatDoor.CF
namespace Go.Proofs.YtpmebahhjgkflaaGreatDoor
open Go CF
def cs:List Nat:=[3,4,5,6,7,8,9,10,11,12,13,14,15,16,17,18,19,20,21,22,23,24,25,26,27,28,29,30,31,32,33,34,35,36,37,38,39,40,41,42,43,44,45,46,47,48,49,50,51,52,53,54,55,56,57,58,59,60,61,62,63,64,65,66,67,68,69,70,71,72,73,74,75,76,77,78,79,81,82,83,84,85,86,87,88,89,90,91,92,93,94,95,96,97,98,99,100,101,102,103,104,105,106,107,108,109,110,111,112,113,114,115,116,117,118,119,121,122,123,124,125,126,127,128,130,131,132,133,134,135,136,137,138,139,140,141,142,143,144,145,146,147,148,149,150,151,152,153,154,155,156,157,158,159,160,161,162,163,164,165,166,167,168,169,170,171,172,173,174,175,176,177,178,179,180,181,182,183,184,185,186,187,188,189,190,191,192,193,194,195,196,197,198,199,200,202,203,204,205,206,207,208,209,210,211,212,213,214,215,216,217,218,219,220,221,222,223,224,225,226,227,228,229,230,231,232,233,234,235,236,237,238,239,240,241,242,243,244,245,246,247,248,249,250,251,252,253,254,255,256,257,258,259,261,262,263,264,265,266,267,268,269,270,271,272,273,274,275,276,277,278,279,280,281,282,283,284,285,286,287,292,295,296,297,298,299,300,301,302,303,304,305,306,314,315,316,317,318,319,320,321,322,323,325]
def nW_ (P:Program):List Nat→Bool
 | []=>true
 | f::r=>(match P.funcs[f]? with|some fn=> !(fn.name=="runtime.NumGoroutine") && !fn.body.isNone|none=>false)&&nW_ P r
theorem m8_ {P:Program}:∀{l:List Nat},nW_ P l=true→iE_ P l
 | [],_,f,h=>by cases h
 | g::r,hok,f,h=>by
  simp only[nW_,Bool.and_eq_true] at hok
  simp only[cE_,Bool.or_eq_true] at h
  rcases h with h|h
  ·have e:g=f:=Nat.eq_of_beq_eq_true h
   subst e
   have h1:=hok.1
   split at h1
   ·rename_i fn hf
    simp only[Bool.and_eq_true,Bool.not_eq_true'] at h1
    exact⟨fn,hf,h1.1,h1.2⟩
   ·cases h1
  ·exact m8_ hok.2 f h
theorem af_:iE_ Tryz.prog cs:=m8_ k_
theorem ay_:Tryz.prog.follows .mixedOrders=true:=k_
noncomputable def G:Gen:=gen Tryz.prog cs
def s_a:ByteArray:=⟨#[97]⟩
def s_b:ByteArray:=⟨#[98]⟩
def c1_:ByteArray:=⟨#[46,100]⟩
def fj_:ByteArray:=⟨#[46,112]⟩
def uG_:ByteArray:=⟨#[83,48]⟩
def uH_:ByteArray:=⟨#[83,49]⟩
def s_V:ByteArray:=⟨#[86]⟩
def s_P:ByteArray:=⟨#[80]⟩
def s_1:ByteArray:=⟨#[49]⟩
def ts_:ByteArray:=⟨#[83,76,79,84]⟩
def lP_:ByteArray:=⟨#[46]⟩
def dL_ (p0:A_) (p1:Int) (p2:Bool) (p3:Int) (p4:Int) (p5:Int) (p6:Int) (w:World) (R:Bool→W_):Prop:=al_ Tryz.prog 8 #[.agg p0,.int .u8 p1,.bool p2,.int .u8 p3,.int .u8 p4,.int .u8 p5,.int .u8 p6] w [.b] R
def fk_ (w:World) (R:Bool→W_):Prop:=al_ Tryz.prog 10 #[] w [.b] R
def b4_ (p0:O_) (p1:Int) (w:World) (R:(A_)→W_):Prop:=al_ Tryz.prog 11 #[.pointer p0,.int .u8 p1] w [.ag] R
def ig_ (w:World) (R:(O_)→W_):Prop:=al_ Tryz.prog 12 #[] w [.p] R
def ce_ (p0:O_) (p1:Int) (p2:Sl) (p3:Sl) (w:World) (R:(A_)→W_):Prop:=al_ Tryz.prog 13 #[.pointer p0,.int .i64 p1,.slice p2.A p2.n p2.c,.slice p3.A p3.n p3.c] w [.ag] R
def a3_ (w:World) (R:Sl→W_):Prop:=al_ Tryz.prog 14 #[] w [.sl] R
def aF_ (p0:O_) (p1:Int) (p2:Sl) (p3:Sl) (w:World) (R:(A_)→W_):Prop:=al_ Tryz.prog 15 #[.pointer p0,.int .i64 p1,.slice p2.A p2.n p2.c,.slice p3.A p3.n p3.c] w [.ag] R
def aJ_ (p0:A_) (p1:A_) (w:World) (R:Bool→W_):Prop:=al_ Tryz.prog 16 #[.agg p0,.agg p1] w [.b] R
def a9_ (p0:Int) (p1:Int) (w:World) (R:(A_)→W_):Prop:=al_ Tryz.prog 17 #[.int .u8 p0,.int .u16 p1] w [.ag] R
def ey_ (p0:O_) (p1:Sl) (w:World) (R:W_):Prop:=al_ Tryz.prog 18 #[.pointer p0,.slice p1.A p1.n p1.c] w [] R
def cS_ (p0:Int) (p1:Int) (p2:Int) (p3:Int) (p4:Bool) (w:World) (R:Sl→Sl→W_):Prop:=al_ Tryz.prog 19 #[.int .u8 p0,.int .u8 p1,.int .u64 p2,.int .u64 p3,.bool p4] w [.sl,.sl] R
def ez_ (p0:O_) (w:World) (R:Sl→Int→Int→W_):Prop:=al_ Tryz.prog 24 #[.pointer p0] w [.sl,.i .u8,.i .i64] R
def bZ_ (p0:O_) (w:World) (R:Int→W_):Prop:=al_ Tryz.prog 27 #[.pointer p0] w [.i .i64] R
def fl_ (p0:O_) (p1:ByteArray) (p2:A_) (w:World) (R:(O_)→Int→W_):Prop:=al_ Tryz.prog 28 #[.pointer p0,.string p1,.agg p2] w [.p,.i .i64] R
def fU_ (p0:Int) (w:World) (R:Int→W_):Prop:=al_ Tryz.prog 32 #[.int .u8 p0] w [.i .u8] R
def fm_ (p0:Int) (w:World) (R:Bool→W_):Prop:=al_ Tryz.prog 34 #[.int .u8 p0] w [.b] R
def di_ (p0:O_) (p1:Int) (p2:Int) (w:World) (R:W_):Prop:=al_ Tryz.prog 36 #[.pointer p0,.int .i64 p1,.int .i64 p2] w [] R
def cf_ (p0:Int) (p1:Int) (w:World) (R:(A_)→W_):Prop:=al_ Tryz.prog 40 #[.int .i64 p0,.int .u8 p1] w [.ag] R
def aS_ (p0:A_) (w:World) (R:(A_)→W_):Prop:=al_ Tryz.prog 41 #[.agg p0] w [.ag] R
def fV_ (p0:O_) (p1:Int) (w:World) (R:Int→W_):Prop:=al_ Tryz.prog 42 #[.pointer p0,.int .i64 p1] w [.i .i64] R
def kl_ (p0:Sl) (w:World) (R:(A_)→(A_)→Bool→W_):Prop:=al_ Tryz.prog 43 #[.slice p0.A p0.n p0.c] w [.ag,.ag,.b] R
def fP_ (p0:O_) (p1:Int) (w:World) (R:Int→Bool→W_):Prop:=al_ Tryz.prog 44 #[.pointer p0,.int .i64 p1] w [.i .u16,.b] R
def dS_ (p0:O_) (p1:Int) (w:World) (R:Int→Bool→W_):Prop:=al_ Tryz.prog 45 #[.pointer p0,.int .i64 p1] w [.i .u16,.b] R
def cw_ (p0:O_) (p1:Int) (p2:Int) (w:World) (R:Bool→W_):Prop:=al_ Tryz.prog 46 #[.pointer p0,.int .i64 p1,.int .u8 p2] w [.b] R
def bm_ (p0:O_) (w:World) (R:(A_)→W_):Prop:=al_ Tryz.prog 47 #[.pointer p0] w [.ag] R
def bj_ (p0:O_) (p1:Int) (p2:A_) (p3:Sl) (w:World) (R:(A_)→W_):Prop:=al_ Tryz.prog 48 #[.pointer p0,.int .i64 p1,.agg p2,.slice p3.A p3.n p3.c] w [.ag] R
def c2_ (p0:Int) (p1:Int) (w:World) (R:Sl→W_):Prop:=al_ Tryz.prog 49 #[.int .u64 p0,.int .i64 p1] w [.sl] R
def dj_ (p0:O_) (w:World) (R:Int→Int→W_):Prop:=al_ Tryz.prog 57 #[.pointer p0] w [.i .u8,.i .i64] R
def ha_ (p0:O_) (w:World) (R:Sl→W_):Prop:=al_ Tryz.prog 58 #[.pointer p0] w [.sl] R
def f6_ (p0:O_) (p1:Value) (w:World) (R:W_):Prop:=al_ Tryz.prog 60 #[.pointer p0,p1] w [] R
def hU_ (p0:Addr) (w:World) (R:W_):Prop:=al_ Tryz.prog 61 #[.pointer (some p0)] w [] R
def dk_ (p0:O_) (w:World) (R:Int→W_):Prop:=al_ Tryz.prog 62 #[.pointer p0] w [.i .i64] R
def lh_ (p0:A_) (w:World) (R:Bool→W_):Prop:=al_ Tryz.prog 63 #[.agg p0] w [.b] R
def jA_ (p0:O_) (p1:ByteArray) (p2:Int) (p3:Bool) (w:World) (R:(O_)→Int→W_):Prop:=al_ Tryz.prog 64 #[.pointer p0,.string p1,.int .i64 p2,.bool p3] w [.p,.i .i64] R
def df_ (w:World) (R:(A_)→W_):Prop:=al_ Tryz.prog 65 #[] w [.ag] R
def jB_ (p0:O_) (p1:ByteArray) (w:World) (R:(O_)→Int→W_):Prop:=al_ Tryz.prog 66 #[.pointer p0,.string p1] w [.p,.i .i64] R
def gD_ (p0:A_) (w:World) (R:(O_)→W_):Prop:=al_ Tryz.prog 67 #[.agg p0] w [.p] R
def hb_ (w:World) (R:(O_)→W_):Prop:=al_ Tryz.prog 68 #[] w [.p] R
def fn_ (w:World) (R:(O_)→W_):Prop:=al_ Tryz.prog 69 #[] w [.p] R
def co_ (p0:O_) (p1:Int) (p2:Int) (w:World) (R:W_):Prop:=al_ Tryz.prog 71 #[.pointer p0,.int .i64 p1,.int .u16 p2] w [] R
def c3_ (p0:Option Nat) (p1:A_) (p2:Int) (w:World) (R:W_):Prop:=al_ Tryz.prog 72 #[.map p0,.agg p1,.int .i64 p2] w [] R
def cj_ (p0:Option Nat) (w:World) (R:(Option Nat)→W_):Prop:=al_ Tryz.prog 73 #[.map p0] w [.m] R
def fB_ (p0:Sl) (p1:Int) (p2:Int) (w:World) (R:Int→Int→W_):Prop:=al_ Tryz.prog 76 #[.slice p0.A p0.n p0.c,.int .i64 p1,.int .i64 p2] w [.i .u64,.i .i64] R
def iI_ (p0:A_) (w:World) (R:Sl→Int→W_):Prop:=al_ Tryz.prog 78 #[.agg p0] w [.sl,.i .i64] R
def gs_ (p0:A_) (w:World) (R:Sl→Int→W_):Prop:=al_ Tryz.prog 79 #[.agg p0] w [.sl,.i .i64] R
def cT_ (p0:Int) (p1:Int) (w:World) (R:(A_)→W_):Prop:=al_ Tryz.prog 81 #[.int .i64 p0,.int .i64 p1] w [.ag] R
def km_ (p0:Int) (p1:Int) (w:World) (R:Sl→Bool→W_):Prop:=al_ Tryz.prog 82 #[.int .u8 p0,.int .u8 p1] w [.sl,.b] R
def lQ_ (p0:Sl) (p1:Sl) (w:World) (R:Int→Int→W_):Prop:=al_ Tryz.prog 83 #[.slice p0.A p0.n p0.c,.slice p1.A p1.n p1.c] w [.i .i64,.i .i64] R
def li_ (p0:Int) (w:World) (R:Int→W_):Prop:=al_ Tryz.prog 84 #[.int .u8 p0] w [.i .u8] R
def lj_ (p0:O_) (p1:Sl) (p2:Int) (w:World) (R:Int→Int→W_):Prop:=al_ Tryz.prog 85 #[.pointer p0,.slice p1.A p1.n p1.c,.int .u8 p2] w [.i .i64,.i .i64] R
def dl_ (p0:O_) (p1:Int) (w:World) (R:Int→W_):Prop:=al_ Tryz.prog 86 #[.pointer p0,.int .i64 p1] w [.i .i64] R
def dm_ (p0:O_) (p1:Int) (w:World) (R:Bool→W_):Prop:=al_ Tryz.prog 87 #[.pointer p0,.int .i64 p1] w [.b] R
def cF_ (p0:O_) (p1:Int) (w:World) (R:Int→Bool→W_):Prop:=al_ Tryz.prog 88 #[.pointer p0,.int .i64 p1] w [.i .u64,.b] R
def cG_ (p0:Sl) (p1:Int) (w:World) (R:Sl→W_):Prop:=al_ Tryz.prog 89 #[.slice p0.A p0.n p0.c,.int .i64 p1] w [.sl] R
def k1_ (p0:A_) (w:World) (R:Sl→W_):Prop:=al_ Tryz.prog 90 #[.agg p0] w [.sl] R
def ok_ (p0:A_) (p1:Int) (w:World) (R:Sl→Bool→W_):Prop:=al_ Tryz.prog 91 #[.agg p0,.int .u8 p1] w [.sl,.b] R
def ol_ (p0:Sl) (w:World) (R:Sl→W_):Prop:=al_ Tryz.prog 92 #[.slice p0.A p0.n p0.c] w [.sl] R
def cJ_ (p0:O_) (p1:A_) (w:World) (R:Sl→(A_)→Bool→W_):Prop:=al_ Tryz.prog 93 #[.pointer p0,.agg p1] w [.sl,.ag,.b] R
def ei_ (p0:O_) (p1:Int) (p2:A_) (p3:Sl) (w:World) (R:(A_)→W_):Prop:=al_ Tryz.prog 94 #[.pointer p0,.int .i64 p1,.agg p2,.slice p3.A p3.n p3.c] w [.ag] R
def k2_ (p0:O_) (p1:Int) (w:World) (R:Sl→W_):Prop:=al_ Tryz.prog 95 #[.pointer p0,.int .u8 p1] w [.sl] R
def ej_ (p0:O_) (p1:Int) (p2:A_) (p3:Sl) (w:World) (R:(A_)→W_):Prop:=al_ Tryz.prog 96 #[.pointer p0,.int .i64 p1,.agg p2,.slice p3.A p3.n p3.c] w [.ag] R
def gN_ (p0:O_) (p1:Int) (p2:A_) (p3:Sl) (w:World) (R:(A_)→W_):Prop:=al_ Tryz.prog 97 #[.pointer p0,.int .i64 p1,.agg p2,.slice p3.A p3.n p3.c] w [.ag] R
def hr_ (p0:O_) (p1:A_) (p2:Sl) (w:World) (R:(A_)→W_):Prop:=al_ Tryz.prog 98 #[.pointer p0,.agg p1,.slice p2.A p2.n p2.c] w [.ag] R
def eT_ (p0:Int) (w:World) (R:Bool→W_):Prop:=al_ Tryz.prog 119 #[.int .u8 p0] w [.b] R
def fW_ (p0:O_) (w:World) (R:Bool→W_):Prop:=al_ Tryz.prog 121 #[.pointer p0] w [.b] R
def l9_ (p0:O_) (p1:Value) (w:World) (R:W_):Prop:=al_ Tryz.prog 122 #[.pointer p0,p1] w [] R
def c4_ (p0:O_) (p1:Int) (p2:Int) (w:World) (R:W_):Prop:=al_ Tryz.prog 123 #[.pointer p0,.int .i64 p1,.int .u16 p2] w [] R
def cK_ (p0:O_) (w:World) (R:Sl→Int→Int→W_):Prop:=al_ Tryz.prog 124 #[.pointer p0] w [.sl,.i .u64,.i .i64] R
def mF_ (p0:Sl) (w:World) (R:(O_)→Int→W_):Prop:=al_ Tryz.prog 125 #[.slice p0.A p0.n p0.c] w [.p,.i .i64] R
def iJ_ (p0:Int) (w:World) (R:(A_)→W_):Prop:=al_ Tryz.prog 126 #[.int .u8 p0] w [.ag] R
def bD_ (p0:O_) (p1:Bool) (w:World) (R:W_):Prop:=al_ Tryz.prog 127 #[.pointer p0,.bool p1] w [] R
def gE_ (p0:ByteArray) (p1:Int) (p2:Int) (w:World) (R:Bool→W_):Prop:=al_ Tryz.prog 128 #[.string p0,.int .i64 p1,.int .i64 p2] w [.b] R
def i9_ (p0:Sl) (p1:Int) (p2:Int) (w:World) (R:Int→W_):Prop:=al_ Tryz.prog 130 #[.slice p0.A p0.n p0.c,.int .i64 p1,.int .i64 p2] w [.i .i64] R
def jR_ (p0:Sl) (p1:Int) (p2:Int) (p3:Int) (w:World) (R:Sl→Int→W_):Prop:=al_ Tryz.prog 132 #[.slice p0.A p0.n p0.c,.int .i64 p1,.int .i64 p2,.int .u64 p3] w [.sl,.i .i64] R
def bh_ (p0:Sl) (p1:Int) (p2:Int) (w:World) (R:Int→W_):Prop:=al_ Tryz.prog 134 #[.slice p0.A p0.n p0.c,.int .i64 p1,.int .i64 p2] w [.i .u64] R
def jC_ (p0:O_) (p1:Sl) (w:World) (R:Int→Int→W_):Prop:=al_ Tryz.prog 135 #[.pointer p0,.slice p1.A p1.n p1.c] w [.i .i64,.i .i64] R
def e3_ (p0:O_) (p1:Int) (w:World) (R:Bool→W_):Prop:=al_ Tryz.prog 136 #[.pointer p0,.int .i64 p1] w [.b] R
def ih_ (p0:Int) (w:World) (R:Int→W_):Prop:=al_ Tryz.prog 137 #[.int .u16 p0] w [.i .i64] R
def dT_ (p0:O_) (w:World) (R:(A_)→W_):Prop:=al_ Tryz.prog 139 #[.pointer p0] w [.ag] R
def f7_ (p0:A_) (w:World) (R:Sl→W_):Prop:=al_ Tryz.prog 140 #[.agg p0] w [.sl] R
def f8_ (p0:A_) (w:World) (R:Sl→W_):Prop:=al_ Tryz.prog 141 #[.agg p0] w [.sl] R
def et_ (p0:Int) (p1:Int) (p2:Bool) (w:World) (R:(A_)→W_):Prop:=al_ Tryz.prog 142 #[.int .i64 p0,.int .i64 p1,.bool p2] w [.ag] R
def dn_ (p0:O_) (p1:A_) (p2:Sl) (w:World) (R:Bool→(A_)→Bool→W_):Prop:=al_ Tryz.prog 143 #[.pointer p0,.agg p1,.slice p2.A p2.n p2.c] w [.b,.ag,.b] R
def bW_ (p0:O_) (w:World) (R:Bool→W_):Prop:=al_ Tryz.prog 144 #[.pointer p0] w [.b] R
def e4_ (p0:O_) (w:World) (R:Bool→W_):Prop:=al_ Tryz.prog 146 #[.pointer p0] w [.b] R
def iK_ (p0:O_) (p1:Int) (p2:A_) (w:World) (R:Int→Int→Sl→W_):Prop:=al_ Tryz.prog 147 #[.pointer p0,.int .i64 p1,.agg p2] w [.i .u8,.i .u16,.sl] R
def do_ (p0:A_) (w:World) (R:(A_)→W_):Prop:=al_ Tryz.prog 150 #[.agg p0] w [.ag] R
def lk_ (p0:Int) (p1:Int) (w:World) (R:Bool→W_):Prop:=al_ Tryz.prog 151 #[.int .u8 p0,.int .u8 p1] w [.b] R
def kn_ (p0:Int) (p1:Int) (p2:Int) (w:World) (R:Bool→W_):Prop:=al_ Tryz.prog 152 #[.int .u64 p0,.int .u64 p1,.int .u64 p2] w [.b] R
def gO_ (p0:O_) (w:World) (R:Int→W_):Prop:=al_ Tryz.prog 153 #[.pointer p0] w [.i .u64] R
def lR_ (p0:Int) (p1:Int) (p2:Int) (w:World) (R:(A_)→W_):Prop:=al_ Tryz.prog 154 #[.int .u8 p0,.int .u16 p1,.int .u64 p2] w [.ag] R
def k3_ (p0:O_) (p1:A_) (w:World) (R:Sl→(A_)→Bool→W_):Prop:=al_ Tryz.prog 155 #[.pointer p0,.agg p1] w [.sl,.ag,.b] R
def ja_ (p0:Sl) (w:World) (R:(A_)→W_):Prop:=al_ Tryz.prog 156 #[.slice p0.A p0.n p0.c] w [.ag] R
def mG_ (p0:Sl) (p1:Bool) (w:World) (R:Sl→W_):Prop:=al_ Tryz.prog 157 #[.slice p0.A p0.n p0.c,.bool p1] w [.sl] R
def f9_ (p0:O_) (p1:A_) (p2:Sl) (p3:Int) (w:World) (R:Sl→(A_)→Bool→W_):Prop:=al_ Tryz.prog 158 #[.pointer p0,.agg p1,.slice p2.A p2.n p2.c,.int .u64 p3] w [.sl,.ag,.b] R
def jS_ (p0:O_) (p1:Int) (p2:Sl) (p3:Bool) (w:World) (R:(A_)→W_):Prop:=al_ Tryz.prog 159 #[.pointer p0,.int .u64 p1,.slice p2.A p2.n p2.c,.bool p3] w [.ag] R
def jb_ (p0:O_) (p1:A_) (p2:Sl) (w:World) (R:(A_)→W_):Prop:=al_ Tryz.prog 160 #[.pointer p0,.agg p1,.slice p2.A p2.n p2.c] w [.ag] R
def fQ_ (p0:O_) (w:World) (R:Int→W_):Prop:=al_ Tryz.prog 161 #[.pointer p0] w [.i .i64] R
def k4_ (p0:O_) (p1:A_) (p2:Sl) (w:World) (R:(A_)→W_):Prop:=al_ Tryz.prog 162 #[.pointer p0,.agg p1,.slice p2.A p2.n p2.c] w [.ag] R
def jT_ (p0:O_) (p1:Sl) (w:World) (R:(A_)→W_):Prop:=al_ Tryz.prog 163 #[.pointer p0,.slice p1.A p1.n p1.c] w [.ag] R
def iL_ (p0:O_) (p1:A_) (p2:Sl) (w:World) (R:(A_)→W_):Prop:=al_ Tryz.prog 164 #[.pointer p0,.agg p1,.slice p2.A p2.n p2.c] w [.ag] R
def ia_ (p0:O_) (p1:A_) (w:World) (R:(A_)→W_):Prop:=al_ Tryz.prog 165 #[.pointer p0,.agg p1] w [.ag] R
def cL_ (p0:O_) (p1:ByteArray) (p2:Int) (p3:Int) (w:World) (R:Sl→Int→W_):Prop:=al_ Tryz.prog 205 #[.pointer p0,.string p1,.int .i64 p2,.int .i64 p3] w [.sl,.i .i64] R
def dU_ (p0:O_) (p1:Int) (w:World) (R:ByteArray→W_):Prop:=al_ Tryz.prog 206 #[.pointer p0,.int .i64 p1] w [.s] R
def h5_ (p0:Sl) (w:World) (R:Int→Sl→Int→W_):Prop:=al_ Tryz.prog 207 #[.slice p0.A p0.n p0.c] w [.i .u64,.sl,.i .i64] R
def gF_ (p0:Int) (w:World) (R:Bool→W_):Prop:=al_ Tryz.prog 208 #[.int .u8 p0] w [.b] R
def ll_ (p0:O_) (p1:Sl) (w:World) (R:Int→W_):Prop:=al_ Tryz.prog 209 #[.pointer p0,.slice p1.A p1.n p1.c] w [.i .i64] R
def ko_ (p0:Sl) (p1:Int) (p2:A_) (w:World) (R:(A_)→Int→(A_)→Bool→W_):Prop:=al_ Tryz.prog 210 #[.slice p0.A p0.n p0.c,.int .i64 p1,.agg p2] w [.ag,.i .i64,.ag,.b] R
def cg_ (p0:O_) (p1:Sl) (w:World) (R:Int→Int→W_):Prop:=al_ Tryz.prog 211 #[.pointer p0,.slice p1.A p1.n p1.c] w [.i .u64,.i .i64] R
def jD_ (p0:A_) (w:World) (R:Int→W_):Prop:=al_ Tryz.prog 212 #[.agg p0] w [.i .u8] R
def fC_ (p0:O_) (w:World) (R:Sl→W_):Prop:=al_ Tryz.prog 213 #[.pointer p0] w [.sl] R
def b5_ (p0:O_) (p1:Int) (p2:A_) (p3:Bool) (w:World) (R:Sl→W_):Prop:=al_ Tryz.prog 214 #[.pointer p0,.int .i64 p1,.agg p2,.bool p3] w [.sl] R
def dV_ (p0:O_) (p1:Int) (p2:A_) (w:World) (R:Int→Int→Sl→W_):Prop:=al_ Tryz.prog 215 #[.pointer p0,.int .i64 p1,.agg p2] w [.i .u8,.i .u16,.sl] R
def dW_ (p0:O_) (p1:Int) (p2:A_) (w:World) (R:Int→Int→Sl→W_):Prop:=al_ Tryz.prog 216 #[.pointer p0,.int .i64 p1,.agg p2] w [.i .u8,.i .u16,.sl] R
def e5_ (p0:O_) (p1:Int) (w:World) (R:Sl→W_):Prop:=al_ Tryz.prog 217 #[.pointer p0,.int .i64 p1] w [.sl] R
def dX_ (p0:O_) (p1:Int) (p2:A_) (w:World) (R:Int→Int→Sl→W_):Prop:=al_ Tryz.prog 218 #[.pointer p0,.int .i64 p1,.agg p2] w [.i .u8,.i .u16,.sl] R
def kp_ (p0:Sl) (p1:Bool) (w:World) (R:Sl→Bool→W_):Prop:=al_ Tryz.prog 223 #[.slice p0.A p0.n p0.c,.bool p1] w [.sl,.b] R
def g8_ (p0:O_) (w:World) (R:Int→W_):Prop:=al_ Tryz.prog 224 #[.pointer p0] w [.i .i64] R
def lm_ (p0:Int) (p1:Int) (p2:Int) (p3:A_) (w:World) (R:Int→W_):Prop:=al_ Tryz.prog 226 #[.int .u8 p0,.int .u8 p1,.int .u64 p2,.agg p3] w [.i .u16] R
def jE_ (w:World) (R:(A_)→W_):Prop:=al_ Tryz.prog 227 #[] w [.ag] R
def mH_ (p0:Int) (p1:Int) (p2:A_) (p3:Int) (w:World) (R:(A_)→W_):Prop:=al_ Tryz.prog 228 #[.int .u8 p0,.int .u64 p1,.agg p2,.int .u16 p3] w [.ag] R
def dY_ (p0:O_) (w:World) (R:Int→W_):Prop:=al_ Tryz.prog 231 #[.pointer p0] w [.i .i64] R
def mI_ (p0:Bool) (w:World) (R:Int→W_):Prop:=al_ Tryz.prog 233 #[.bool p0] w [.i .i64] R
def hs_ (p0:ByteArray) (w:World) (R:Bool→W_):Prop:=al_ Tryz.prog 262 #[.string p0] w [.b] R
def cM_ (p0:O_) (w:World) (R:Int→W_):Prop:=al_ Tryz.prog 263 #[.pointer p0] w [.i .i64] R
def kq_ (p0:Sl) (w:World) (R:Int→W_):Prop:=al_ Tryz.prog 264 #[.slice p0.A p0.n p0.c] w [.i .u32] R
def h6_ (p0:Int) (p1:Sl) (w:World) (R:Sl→Int→W_):Prop:=al_ Tryz.prog 265 #[.int .u64 p0,.slice p1.A p1.n p1.c] w [.sl,.i .i64] R
def fo_ (p0:O_) (p1:ByteArray) (p2:Int) (p3:Sl) (w:World) (R:Int→W_):Prop:=al_ Tryz.prog 266 #[.pointer p0,.string p1,.int .i64 p2,.slice p3.A p3.n p3.c] w [.i .i64] R
def ga_ (p0:O_) (p1:Int) (p2:Int) (w:World) (R:W_):Prop:=al_ Tryz.prog 267 #[.pointer p0,.int .i64 p1,.int .u64 p2] w [] R
def fD_ (p0:O_) (p1:Int) (w:World) (R:Sl→W_):Prop:=al_ Tryz.prog 268 #[.pointer p0,.int .i64 p1] w [.sl] R
def jF_ (p0:Int) (p1:A_) (w:World) (R:Bool→W_):Prop:=al_ Tryz.prog 272 #[.int .u8 p0,.agg p1] w [.b] R
def kr_ (p0:Sl) (w:World) (R:Int→W_):Prop:=al_ Tryz.prog 273 #[.slice p0.A p0.n p0.c] w [.i .u16] R
def ks_ (p0:Int) (p1:Sl) (w:World) (R:Int→W_):Prop:=al_ Tryz.prog 296 #[.int .u32 p0,.slice p1.A p1.n p1.c] w [.i .u32] R
def gP_ (p0:O_) (p1:A_) (w:World) (R:Int→W_):Prop:=al_ Tryz.prog 297 #[.pointer p0,.agg p1] w [.i .i64] R
def m9_ (p0:Int) (p1:Sl) (w:World) (R:Int→W_):Prop:=al_ Tryz.prog 303 #[.int .u16 p0,.slice p1.A p1.n p1.c] w [.i .u16] R
abbrev r6_:TypeId:=3
theorem na_:Tryz.prog.underlying 3=some (.int .i64):=k_
abbrev wU_:TypeId:=4
theorem tt_:(Tryz.prog.info? 4).map (fun i=>(i.zero,i.size,i.bytes))=some (some (.bool false),1,1):=k_
abbrev ae_:TypeId:=5
theorem jU_:Tryz.prog.underlying 5=some (.int .u8):=k_
theorem bE_:(Tryz.prog.info? 5).map (fun i=>(i.zero,i.size,i.bytes))=some (some (.int .u8 0),1,1):=k_
abbrev gt_:TypeId:=9
theorem hc_:Tryz.prog.underlying 9=some .string:=k_
abbrev aL_:TypeId:=23
theorem oT_:(Tryz.prog.info? 23).map (fun i=>(i.zero,i.size,i.bytes))=some (some (.pointer none),1,8):=k_
abbrev b9_:TypeId:=24
theorem e6_:(Tryz.prog.info? 24).map (fun i=>(i.zero,i.size,i.bytes))=some (some (.agg #[.pointer none,.pointer none]),2,16):=k_
theorem jc_:(Tryz.prog.underlying 24).map bC_=some .ag:=k_
abbrev cq_:TypeId:=29
theorem hd_:(Tryz.prog.info? 29).map (fun i=>(i.zero,i.size,i.bytes))=some (some (.int .u16 0),1,2):=k_
abbrev av_:TypeId:=32
theorem aV_:(Tryz.prog.info? 32).map (fun i=>(i.zero,i.size,i.bytes))=some (some (.agg #[.int .u8 0,.int .u16 0,.int .u64 0,.bool false,.int .i64 0,.int .i64 0,.bool false,.bool false]),8,48):=k_
theorem eU_:(Tryz.prog.underlying 32).map bC_=some .ag:=k_
abbrev bn_:TypeId:=33
theorem aX_:Tryz.prog.underlying 33=some (.slice 5):=k_
theorem r7_:(Tryz.prog.info? 33).map (fun i=>(i.zero,i.size,i.bytes))=some (some (.slice none 0 0),1,24):=k_
abbrev ad_:TypeId:=35
theorem gQ_:(Tryz.prog.info? 35).map (fun i=>(i.zero,i.size,i.bytes))=some (some (.agg #[.int .u8 0,.int .u8 0,.int .u16 0,.int .u64 0,.bool false,.int .i64 0,.int .i64 0,.bool false,.bool false,.slice none 0 0]),10,80):=k_
theorem pM_:(Tryz.prog.underlying 35).map bC_=some .ag:=k_
abbrev iM_:TypeId:=43
theorem mJ_:Tryz.prog.underlying 43=some (.slice 23):=k_
abbrev c5_:TypeId:=67
theorem ln_:Tryz.prog.underlying 67=some (.slice 97):=k_
abbrev kt_:TypeId:=81
theorem ii_:(Tryz.prog.info? 81).map (fun i=>(i.zero,i.size,i.bytes))=some (some (.agg #[.string ⟨#[]⟩,.string ⟨#[]⟩,.string ⟨#[]⟩,.string ⟨#[]⟩,.int .u8 0]),5,72):=k_
theorem ku_:(Tryz.prog.underlying 81).map bC_=some .ag:=k_
abbrev a5_:TypeId:=85
abbrev gR_:TypeId:=94
abbrev ax_:TypeId:=97
theorem cZ_:(Tryz.prog.info? 97).map (fun i=>(i.zero,i.size,i.bytes))=some (some (.agg #[.int .i64 0,.int .u64 0]),2,16):=k_
theorem gG_:(Tryz.prog.underlying 97).map bC_=some .ag:=k_
abbrev ht_:TypeId:=104
abbrev ek_:TypeId:=106
theorem gH_:Tryz.prog.underlying 106=some (.map 9 33):=k_
theorem ma_:Tryz.prog.underlying 107=some (.slice 173):=k_
abbrev jV_:TypeId:=108
theorem jW_:Tryz.prog.underlying 108=some (.map 3 4):=k_
abbrev bs_:TypeId:=110
abbrev bi_:TypeId:=131
theorem qP_:(Tryz.prog.info? 131).map (fun i=>(i.zero,i.size,i.bytes))=some (some (.agg #[.string ⟨#[]⟩,.string ⟨#[]⟩,.string ⟨#[]⟩,.string ⟨#[]⟩,.int .u8 0,.pointer none,.pointer none,.pointer none,.pointer none,.pointer none,.slice none 0 0,.int .u32 0,.int .i32 0,.int .u32 0,.int .i64 0,.int .i64 0]),16,168):=k_
abbrev aD_:TypeId:=135
theorem gI_:(Tryz.prog.info? 135).map (fun i=>(i.zero,i.size,i.bytes))=some (some (.agg #[.int .u8 0,.bool false,.int .u64 0,.int .u64 0,.int .i64 0,.bool false,.int .u8 0,.bool false,.bool false,.int .u8 0,.int .u8 0,.bool false,.int .u8 0,.int .u8 0,.bool false]),15,48):=k_
theorem om_:(Tryz.prog.underlying 135).map bC_=some .ag:=k_
abbrev aA_:TypeId:=142
theorem a8_:(Tryz.prog.info? 142).map (fun i=>(i.zero,i.size,i.bytes))=some (some (.agg #[.bool false,.bool false,.bool false]),3,3):=k_
theorem eM_:(Tryz.prog.underlying 142).map bC_=some .ag:=k_
abbrev ck_:TypeId:=166
abbrev aK_:TypeId:=173
theorem c0_:(Tryz.prog.info? 173).map (fun i=>(i.zero,i.size,i.bytes))=some (some (.agg #[.int .u8 0,.string ⟨#[]⟩,.string ⟨#[]⟩,.int .i64 0,.slice none 0 0]),5,72):=k_
theorem he_:(Tryz.prog.underlying 173).map bC_=some .ag:=k_
abbrev qQ_:TypeId:=196
theorem eV_:Tryz.prog.underlying 196=some (.slice 29):=k_
abbrev gb_:TypeId:=199
abbrev bQ_:TypeId:=201
abbrev iN_:TypeId:=205
abbrev k5_:TypeId:=245
abbrev eN_:TypeId:=247
abbrev bp_:TypeId:=260
theorem pN_:(Tryz.prog.info? 260).map (fun i=>(i.zero,i.size,i.bytes))=some (some (.agg #[.int .u8 0,.int .u8 0,.int .u64 0,.int .u64 0,.bool false]),5,32):=k_
theorem uI_:(Tryz.prog.underlying 260).map bC_=some .ag:=k_
abbrev cH_:TypeId:=261
theorem oU_:Tryz.prog.underlying 261=some (.slice 265):=k_
abbrev aY_:TypeId:=265
theorem kv_:(Tryz.prog.info? 265).map (fun i=>(i.zero,i.size,i.bytes))=some (some (.agg #[.int .i64 0,.int .u16 0]),2,16):=k_
theorem r8_:(Tryz.prog.underlying 265).map bC_=some .ag:=k_
abbrev jX_:TypeId:=280
theorem nX_:Tryz.prog.underlying 280=some (.slice 348):=k_
abbrev nb_:TypeId:=344
theorem r9_:(Tryz.prog.info? 344).map (fun i=>(i.zero,i.size,i.bytes))=some (some (.agg #[.int .u8 0,.int .u8 0,.int .u8 0,.int .u8 0,.int .u8 0,.int .u8 0,.int .u8 0,.int .u8 0,.int .u8 0,.int .u8 0,.int .u8 0,.int .u8 0,.int .u8 0,.int .u8 0,.int .u8 0,.int .u8 0]),16,16):=k_
theorem sa_:(Tryz.prog.underlying 344).map bC_=some .ag:=k_
abbrev eW_:TypeId:=346
theorem eX_:(Tryz.prog.info? 346).map (fun i=>(i.zero,i.size,i.bytes))=some (some (.agg #[.int .u16 0,.int .u16 0,.int .u32 0]),3,8):=k_
theorem qR_:(Tryz.prog.underlying 346).map bC_=some .ag:=k_
abbrev aG_:TypeId:=348
theorem jG_:(Tryz.prog.info? 348).map (fun i=>(i.zero,i.size,i.bytes))=some (some (.agg #[.int .u8 0,.int .u8 0,.int .u8 0,.int .u8 0,.int .u8 0,.int .u8 0,.int .u8 0,.int .u8 0,.int .u8 0,.int .u8 0,.int .u8 0,.int .u8 0,.int .u8 0,.int .u8 0,.int .u8 0,.int .u8 0,.int .u16 0,.int .u16 0,.int .u32 0]),19,24):=k_
theorem qS_:(Tryz.prog.underlying 348).map bC_=some .ag:=k_
open Go CF
set_option linter.unusedVariables false
set_option maxRecDepth 100000
def ct_ (keys:A_) (kind:Int) (lasts:Bool) (page:Int) (bits:Int) (keep:Int) (cut:Int) (w:World) (R:Bool→W_):Prop:=
 New (.cells keys 94) w fun keys1 w0=>fk_  w0 fun b w01=>Br (!b) (R false w01) (ig_  w01 fun p w02=>b4_ p 0 w02 fun g w03=>∃p1:O_,((0≤(0:Int)∧(0:Int)<(2:Int))∧g[(0:Int).toNat*1]?=some (.pointer p1))∧∃(I:Int→W_) (μ:Int→World→Nat),I 0 w03∧∀(n:Int) (w04:World),I n w04→Br (decide (n<4)) ((0≤n∧n<(4:Int))∧∃n1:Int,w04.cell? (keys1.add (n.toNat*1))=some (.int .u64 n1)∧Br (n1==0) (R true w04) ((0≤n∧n<(4:Int))∧∃n2:Int,w04.cell? (keys1.add (n.toNat*1))=some (.int .u64 n2)∧cS_ 6 0 0 n2 lasts w04 fun xs xs1 w05=>ce_ p1 n xs xs1 w05 fun g1 w06=>New (.cells #[.int .u8 0,.int .u8 0,.int .u16 0,.int .u64 0,.bool false,.int .i64 0,.int .i64 0,.bool false,.bool false,.slice none 0 0] 35) w06 fun r w07=>ah_ Tryz.prog (storeVar 35 r (.agg g1)) w07 fun w08=>∃n3:Int,w08.cell? (r.add 0)=some (.int .u8 n3)∧Br (n3 != 0) (R false w08) (I (IntKind.wrap .i64 (n+1)) w08∧μ (IntKind.wrap .i64 (n+1)) w08<μ n w04))) (an_ Tryz.prog .sl (Instr.buildSlice 33 6 #[(0,.int .u8 1),(1,.int .u8 3),(2,.int .u8 5),(3,.int .u8 6),(4,.int .u8 7),(5,.int .u8 8)]) w04 fun xs2 w09=>((6:Int)≠0)∧(0≤((IntKind.wrap .i64 kind).tmod 6)∧((IntKind.wrap .i64 kind).tmod 6)<(xs2.n:Int)∧xs2.A.isSome=true)∧∃n4:Int,w09.cell? ((gA xs2.A).add (((IntKind.wrap .i64 kind).tmod 6).toNat*1))=some (.int .u8 n4)∧(0≤(2:Int)∧(2:Int)<(4:Int))∧∃n5:Int,w09.cell? (keys1.add ((2:Int).toNat*1))=some (.int .u64 n5)∧cS_ 1 n4 n5 0 false w09 fun xs3 xs4 w010=>ce_ p1 2 xs3 xs4 w010 fun g2 w011=>New (.cells #[.int .u8 0,.int .u8 0,.int .u16 0,.int .u64 0,.bool false,.int .i64 0,.int .i64 0,.bool false,.bool false,.slice none 0 0] 35) w011 fun r1 w012=>ah_ Tryz.prog (storeVar 35 r1 (.agg g2)) w012 fun w013=>∃n6:Int,w013.cell? (r1.add 0)=some (.int .u8 n6)∧Br (n6 != 0) (R false w013) (ez_ p1 w013 fun xs5 n7 n8 w014=>((2:Int)≠0)∧an_ Tryz.prog .sl (Instr.buildSlice 33 7 #[(0,.int .u8 0),(1,.int .u8 0),(2,.int .u8 0),(3,.int .u8 0),(4,.int .u8 8),(5,.int .u8 18),(6,.int .u8 (IntKind.wrap .u8 ((bits.tmod 2)*4)))]) w014 fun xs6 w015=>an_ Tryz.prog .sl (Builtin.append_ #[33,3] 33 #[.slice xs6.A xs6.n xs6.c,.int .i64 17]) w015 fun xs7 w016=>an_ Tryz.prog .sl (Instr.buildSlice 33 6 #[(0,.int .u8 21),(1,.int .u8 17),(2,.int .u8 0),(3,.int .u8 0),(4,.int .u8 24),(5,.int .u8 0)]) w016 fun xs8 w017=>ce_ p1 2 xs8 xs7 w017 fun g3 w018=>New (.cells #[.int .u8 0,.int .u8 0,.int .u16 0,.int .u64 0,.bool false,.int .i64 0,.int .i64 0,.bool false,.bool false,.slice none 0 0] 35) w018 fun r2 w019=>ah_ Tryz.prog (storeVar 35 r2 (.agg g3)) w019 fun w020=>∃n9:Int,w020.cell? (r2.add 0)=some (.int .u8 n9)∧Br (n9 != 0) (R false w020) (((3:Int)≠0)∧di_ p ((IntKind.wrap .i64 keep).tmod 3) (IntKind.wrap .i64 cut) w020 fun w021=>b4_ p 0 w021 fun g4 w022=>∃p2:O_,((0≤(0:Int)∧(0:Int)<(2:Int))∧g4[(0:Int).toNat*1]?=some (.pointer p2))∧∃(I1:Int→W_) (μ1:Int→World→Nat),I1 0 w022∧∀(n10:Int) (w023:World),I1 n10 w023→Br (decide (n10<8)) (a3_  w023 fun xs9 w024=>aF_ p2 n10 xs9 ⟨none,0,0⟩ w024 fun g5 w025=>New (.cells #[.int .u8 0,.int .u8 0,.int .u16 0,.int .u64 0,.bool false,.int .i64 0,.int .i64 0,.bool false,.bool false,.slice none 0 0] 35) w025 fun r3 w026=>ah_ Tryz.prog (storeVar 35 r3 (.agg g5)) w026 fun w027=>∀w028,w028=w027.drew→∃S:W_,S w028∧∃g6:A_,(∀u,S u→(loadVar 35 r3).run Tryz.prog u=.ok (.agg g6) u)∧a9_ 6 10496 w028 fun g7 w029=>S w029∧aJ_ g6 g7 w029 fun b1 w030=>Br (!b1) (R false w030) (I1 (IntKind.wrap .i64 (n10+1)) w030∧μ1 (IntKind.wrap .i64 (n10+1)) w030<μ1 n10 w023)) (ez_ p2 w023 fun xs10 n11 n12 w031=>aR_ (fun(w032:World)=>∃(I2:Int→W_) (μ2:Int→World→Nat),I2 0 w032∧∀(i:Int) (w033:World),I2 i w033→Br (decide (i<(xs10.n:Int))) (∀w034,w034=w033.drew→∃S1:W_,S1 w034∧(0≤i∧i<(xs10.n:Int)∧xs10.A.isSome=true)∧∃g8:A_,(∀u1,S1 u1→(loadVar 97 ((gA xs10.A).add (i.toNat*2))).run Tryz.prog u1=.ok (.agg g8) u1)∧(0≤i∧i<(xs5.n:Int)∧xs5.A.isSome=true)∧∃g9:A_,(∀u2,S1 u2→(loadVar 97 ((gA xs5.A).add (i.toNat*2))).run Tryz.prog u2=.ok (.agg g9) u2)∧∃b2:Bool,(∀u3,S1 u3→(do eqGuard .neq 97 (.tmp 181) (.tmp 185) (.agg g8) (.agg g9);binOp .neq 97 (.agg g8) (.agg g9):Sem Value).run Tryz.prog u3=.ok (.bool b2) u3)∧Br b2 (R false w034) (I2 (IntKind.wrap .i64 (i+1)) w034∧μ2 (IntKind.wrap .i64 (i+1)) w034<μ2 i w033)) (an_ Tryz.prog .sl (Instr.buildSlice 33 6 #[(0,.int .u8 26),(1,.int .u8 0),(2,.int .u8 8),(3,.int .u8 0),(4,.int .u8 255),(5,.int .u8 0)]) w033 fun xs11 w035=>aF_ p2 2 xs11 ⟨none,0,0⟩ w035 fun g10 w036=>New (.cells #[.int .u8 0,.int .u8 0,.int .u16 0,.int .u64 0,.bool false,.int .i64 0,.int .i64 0,.bool false,.bool false,.slice none 0 0] 35) w036 fun s w037=>ah_ Tryz.prog (storeVar 35 s (.agg g10)) w037 fun w038=>∃n13:Int,w038.cell? (s.add 0)=some (.int .u8 n13)∧∃xs12:Sl,((n13==0)=true→w038.cell? (s.add 9)=some (.slice xs12.A xs12.n xs12.c))∧∃xs13:Sl,(((n13==0)&&((xs12.n:Int)==24))=true→w038.cell? (s.add 9)=some (.slice xs13.A xs13.n xs13.c))∧(((n13==0)&&((xs12.n:Int)==24))=true→(0≤(6:Int)∧(6:Int)<(xs13.n:Int)∧xs13.A.isSome=true))∧∃n14:Int,(((n13==0)&&((xs12.n:Int)==24))=true→w038.cell? ((gA xs13.A).add ((6:Int).toNat*1))=some (.int .u8 n14))∧(((n13==0)&&((xs12.n:Int)==24))=true→((2:Int)≠0))∧R (((n13==0)&&((xs12.n:Int)==24))&&(n14==(IntKind.wrap .u8 ((bits.tmod 2)*4)))) w038)) fun J_=>Br (!lasts) (Br ((((xs10.n:Int) != 0)||(n11 != 0))||(n12 != (-1))) (R false w031) (J_ w031)) (Br ((((n11 != n7)||(n12 != n8))||((xs10.n:Int) != (xs5.n:Int)))||((xs10.n:Int) != 4)) (R false w031) (J_ w031)))))))
theorem ct_.calls (keys:A_) (kind:Int) (lasts:Bool) (page:Int) (bits:Int) (keep:Int) (cut:Int) (w:World) (R:Bool→W_) (h:ct_ keys kind lasts page bits keep cut w R):dL_ keys kind lasts page bits keep cut w R:=
 ac_ (ai_ af_) ay_ Tryz.func8 [(18,⟨[(17,.i .i64)],[1,2,4,5,6,7,15,16]⟩),(84,⟨[(31,.i .i64)],[2,4,25,26,27,30]⟩),(123,⟨[(38,.i .i64)],[4,25,30,33]⟩),(106,⟨[],[4,25,30,33]⟩)] [.b] [.agg keys,.int .u8 kind,.bool lasts,.int .u8 page,.int .u8 bits,.int .u8 keep,.int .u8 cut] w R (Eq.mp (show ct_ keys kind lasts page bits keep cut w R=vcF Tryz.prog G Tryz.f8 [(18,⟨[(17,.i .i64)],[1,2,4,5,6,7,15,16]⟩),(84,⟨[(31,.i .i64)],[2,4,25,26,27,30]⟩),(123,⟨[(38,.i .i64)],[4,25,30,33]⟩),(106,⟨[],[4,25,30,33]⟩)] [.b] [.agg keys,.int .u8 kind,.bool lasts,.int .u8 page,.int .u8 bits,.int .u8 keep,.int .u8 cut] w R by kernel_rfl) h)
open Go CF
set_option linter.unusedVariables false
set_option maxRecDepth 100000
def dp_ (w:World) (R:Bool→W_):Prop:=
 ig_  w fun p w0=>b4_ p 0 w0 fun g w01=>New (.cells #[.pointer none,.pointer none] 24) w01 fun u w02=>ah_ Tryz.prog (storeVar 24 u (.agg g)) w02 fun w03=>(0≤(0:Int)∧(0:Int)<(2:Int))∧∃p1:O_,w03.cell? (u.add ((0:Int).toNat*1))=some (.pointer p1)∧Br ((p1).isNone) (R false w03) (∀w04,w04=w03.drew→∃S:W_,S w04∧(0≤(0:Int)∧(0:Int)<(2:Int))∧∃p2:O_,(∀u1,S u1→u1.cell? (u.add ((0:Int).toNat*1))=some (.pointer p2))∧(a3_  w04 fun xs w05=>S w05∧(aF_ p2 0 xs ⟨none,0,0⟩ w05 fun g1 w06=>New (.cells #[.int .u8 0,.int .u8 0,.int .u16 0,.int .u64 0,.bool false,.int .i64 0,.int .i64 0,.bool false,.bool false,.slice none 0 0] 35) w06 fun a w07=>S w07∧ah_ Tryz.prog (storeVar 35 a (.agg g1)) w07 fun w08=>∀w09,w09=w08.drew→∃S1:W_,S1 w09∧(0≤(0:Int)∧(0:Int)<(2:Int))∧∃p3:O_,(∀u2,S1 u2→u2.cell? (u.add ((0:Int).toNat*1))=some (.pointer p3))∧(a3_  w09 fun xs1 w010=>S1 w010∧(aF_ p3 0 xs1 ⟨none,0,0⟩ w010 fun g2 w011=>New (.cells #[.int .u8 0,.int .u8 0,.int .u16 0,.int .u64 0,.bool false,.int .i64 0,.int .i64 0,.bool false,.bool false,.slice none 0 0] 35) w011 fun b w012=>S1 w012∧ah_ Tryz.prog (storeVar 35 b (.agg g2)) w012 fun w013=>∀w014,w014=w013.drew→∃S2:W_,S2 w014∧∃g3:A_,(∀u3,S2 u3→(loadVar 35 a).run Tryz.prog u3=.ok (.agg g3) u3)∧a9_ 6 10496 w014 fun g4 w015=>S2 w015∧aJ_ g3 g4 w015 fun b1 w016=>S2 w016∧∃S3:W_,S3 w016∧(∀u4,S3 u4→S2 u4)∧∃g5:A_,(b1=true→(∀u5,S3 u5→(loadVar 35 b).run Tryz.prog u5=.ok (.agg g5) u5))∧∃S4:W_,S4 w016∧(∀u6,S4 u6→S3 u6)∧bB_ (fun(b2:Bool) (w017:World)=>R (b1&&b2) w017) fun J_=>(b1=true→aJ_ g5 #[.int .u8 0,.int .u8 0,.int .u16 0,.int .u64 0,.bool false,.int .i64 0,.int .i64 0,.bool false,.bool false,.slice none 0 0] w016 J_)∧(b1=false→J_ (Kd.dflt .b) w016))∧New (.cells #[.int .u8 0,.int .u8 0,.int .u16 0,.int .u64 0,.bool false,.int .i64 0,.int .i64 0,.bool false,.bool false,.slice none 0 0] 35) w010 fun b3 w018=>S1 w018∧aF_ p3 0 xs1 ⟨none,0,0⟩ w018 fun g6 w019=>ah_ Tryz.prog (storeVar 35 b3 (.agg g6)) w019 fun w020=>∀w021,w021=w020.drew→∃S5:W_,S5 w021∧∃g7:A_,(∀u7,S5 u7→(loadVar 35 a).run Tryz.prog u7=.ok (.agg g7) u7)∧a9_ 6 10496 w021 fun g8 w022=>S5 w022∧aJ_ g7 g8 w022 fun b4 w023=>S5 w023∧∃S6:W_,S6 w023∧(∀u8,S6 u8→S5 u8)∧∃g9:A_,(b4=true→(∀u9,S6 u9→(loadVar 35 b3).run Tryz.prog u9=.ok (.agg g9) u9))∧∃S7:W_,S7 w023∧(∀u10,S7 u10→S6 u10)∧bB_ (fun(b5:Bool) (w024:World)=>R (b4&&b5) w024) fun J_1=>(b4=true→aJ_ g9 #[.int .u8 0,.int .u8 0,.int .u16 0,.int .u64 0,.bool false,.int .i64 0,.int .i64 0,.bool false,.bool false,.slice none 0 0] w023 J_1)∧(b4=false→J_1 (Kd.dflt .b) w023))∧New (.cells #[.int .u8 0,.int .u8 0,.int .u16 0,.int .u64 0,.bool false,.int .i64 0,.int .i64 0,.bool false,.bool false,.slice none 0 0] 35) w09 fun b6 w025=>S1 w025∧a3_  w025 fun xs2 w026=>S1 w026∧aF_ p3 0 xs2 ⟨none,0,0⟩ w026 fun g10 w027=>ah_ Tryz.prog (storeVar 35 b6 (.agg g10)) w027 fun w028=>∀w029,w029=w028.drew→∃S8:W_,S8 w029∧∃g11:A_,(∀u11,S8 u11→(loadVar 35 a).run Tryz.prog u11=.ok (.agg g11) u11)∧a9_ 6 10496 w029 fun g12 w030=>S8 w030∧aJ_ g11 g12 w030 fun b7 w031=>S8 w031∧∃S9:W_,S9 w031∧(∀u12,S9 u12→S8 u12)∧∃g13:A_,(b7=true→(∀u13,S9 u13→(loadVar 35 b6).run Tryz.prog u13=.ok (.agg g13) u13))∧∃S10:W_,S10 w031∧(∀u14,S10 u14→S9 u14)∧bB_ (fun(b8:Bool) (w032:World)=>R (b7&&b8) w032) fun J_2=>(b7=true→aJ_ g13 #[.int .u8 0,.int .u8 0,.int .u16 0,.int .u64 0,.bool false,.int .i64 0,.int .i64 0,.bool false,.bool false,.slice none 0 0] w031 J_2)∧(b7=false→J_2 (Kd.dflt .b) w031))∧New (.cells #[.int .u8 0,.int .u8 0,.int .u16 0,.int .u64 0,.bool false,.int .i64 0,.int .i64 0,.bool false,.bool false,.slice none 0 0] 35) w05 fun a1 w033=>S w033∧aF_ p2 0 xs ⟨none,0,0⟩ w033 fun g14 w034=>ah_ Tryz.prog (storeVar 35 a1 (.agg g14)) w034 fun w035=>∀w036,w036=w035.drew→∃S11:W_,S11 w036∧(0≤(0:Int)∧(0:Int)<(2:Int))∧∃p4:O_,(∀u15,S11 u15→u15.cell? (u.add ((0:Int).toNat*1))=some (.pointer p4))∧(a3_  w036 fun xs3 w037=>S11 w037∧(aF_ p4 0 xs3 ⟨none,0,0⟩ w037 fun g15 w038=>New (.cells #[.int .u8 0,.int .u8 0,.int .u16 0,.int .u64 0,.bool false,.int .i64 0,.int .i64 0,.bool false,.bool false,.slice none 0 0] 35) w038 fun b9 w039=>S11 w039∧ah_ Tryz.prog (storeVar 35 b9 (.agg g15)) w039 fun w040=>∀w041,w041=w040.drew→∃S12:W_,S12 w041∧∃g16:A_,(∀u16,S12 u16→(loadVar 35 a1).run Tryz.prog u16=.ok (.agg g16) u16)∧a9_ 6 10496 w041 fun g17 w042=>S12 w042∧aJ_ g16 g17 w042 fun b10 w043=>S12 w043∧∃S13:W_,S13 w043∧(∀u17,S13 u17→S12 u17)∧∃g18:A_,(b10=true→(∀u18,S13 u18→(loadVar 35 b9).run Tryz.prog u18=.ok (.agg g18) u18))∧∃S14:W_,S14 w043∧(∀u19,S14 u19→S13 u19)∧bB_ (fun(b11:Bool) (w044:World)=>R (b10&&b11) w044) fun J_3=>(b10=true→aJ_ g18 #[.int .u8 0,.int .u8 0,.int .u16 0,.int .u64 0,.bool false,.int .i64 0,.int .i64 0,.bool false,.bool false,.slice none 0 0] w043 J_3)∧(b10=false→J_3 (Kd.dflt .b) w043))∧New (.cells #[.int .u8 0,.int .u8 0,.int .u16 0,.int .u64 0,.bool false,.int .i64 0,.int .i64 0,.bool false,.bool false,.slice none 0 0] 35) w037 fun b12 w045=>S11 w045∧aF_ p4 0 xs3 ⟨none,0,0⟩ w045 fun g19 w046=>ah_ Tryz.prog (storeVar 35 b12 (.agg g19)) w046 fun w047=>∀w048,w048=w047.drew→∃S15:W_,S15 w048∧∃g20:A_,(∀u20,S15 u20→(loadVar 35 a1).run Tryz.prog u20=.ok (.agg g20) u20)∧a9_ 6 10496 w048 fun g21 w049=>S15 w049∧aJ_ g20 g21 w049 fun b13 w050=>S15 w050∧∃S16:W_,S16 w050∧(∀u21,S16 u21→S15 u21)∧∃g22:A_,(b13=true→(∀u22,S16 u22→(loadVar 35 b12).run Tryz.prog u22=.ok (.agg g22) u22))∧∃S17:W_,S17 w050∧(∀u23,S17 u23→S16 u23)∧bB_ (fun(b14:Bool) (w051:World)=>R (b13&&b14) w051) fun J_4=>(b13=true→aJ_ g22 #[.int .u8 0,.int .u8 0,.int .u16 0,.int .u64 0,.bool false,.int .i64 0,.int .i64 0,.bool false,.bool false,.slice none 0 0] w050 J_4)∧(b13=false→J_4 (Kd.dflt .b) w050))∧New (.cells #[.int .u8 0,.int .u8 0,.int .u16 0,.int .u64 0,.bool false,.int .i64 0,.int .i64 0,.bool false,.bool false,.slice none 0 0] 35) w036 fun b15 w052=>S11 w052∧a3_  w052 fun xs4 w053=>S11 w053∧aF_ p4 0 xs4 ⟨none,0,0⟩ w053 fun g23 w054=>ah_ Tryz.prog (storeVar 35 b15 (.agg g23)) w054 fun w055=>∀w056,w056=w055.drew→∃S18:W_,S18 w056∧∃g24:A_,(∀u24,S18 u24→(loadVar 35 a1).run Tryz.prog u24=.ok (.agg g24) u24)∧a9_ 6 10496 w056 fun g25 w057=>S18 w057∧aJ_ g24 g25 w057 fun b16 w058=>S18 w058∧∃S19:W_,S19 w058∧(∀u25,S19 u25→S18 u25)∧∃g26:A_,(b16=true→(∀u26,S19 u26→(loadVar 35 b15).run Tryz.prog u26=.ok (.agg g26) u26))∧∃S20:W_,S20 w058∧(∀u27,S20 u27→S19 u27)∧bB_ (fun(b17:Bool) (w059:World)=>R (b16&&b17) w059) fun J_5=>(b16=true→aJ_ g26 #[.int .u8 0,.int .u8 0,.int .u16 0,.int .u64 0,.bool false,.int .i64 0,.int .i64 0,.bool false,.bool false,.slice none 0 0] w058 J_5)∧(b16=false→J_5 (Kd.dflt .b) w058))∧New (.cells #[.int .u8 0,.int .u8 0,.int .u16 0,.int .u64 0,.bool false,.int .i64 0,.int .i64 0,.bool false,.bool false,.slice none 0 0] 35) w04 fun a2 w060=>S w060∧a3_  w060 fun xs5 w061=>S w061∧aF_ p2 0 xs5 ⟨none,0,0⟩ w061 fun g27 w062=>ah_ Tryz.prog (storeVar 35 a2 (.agg g27)) w062 fun w063=>∀w064,w064=w063.drew→∃S21:W_,S21 w064∧(0≤(0:Int)∧(0:Int)<(2:Int))∧∃p5:O_,(∀u28,S21 u28→u28.cell? (u.add ((0:Int).toNat*1))=some (.pointer p5))∧(a3_  w064 fun xs6 w065=>S21 w065∧(aF_ p5 0 xs6 ⟨none,0,0⟩ w065 fun g28 w066=>New (.cells #[.int .u8 0,.int .u8 0,.int .u16 0,.int .u64 0,.bool false,.int .i64 0,.int .i64 0,.bool false,.bool false,.slice none 0 0] 35) w066 fun b18 w067=>S21 w067∧ah_ Tryz.prog (storeVar 35 b18 (.agg g28)) w067 fun w068=>∀w069,w069=w068.drew→∃S22:W_,S22 w069∧∃g29:A_,(∀u29,S22 u29→(loadVar 35 a2).run Tryz.prog u29=.ok (.agg g29) u29)∧a9_ 6 10496 w069 fun g30 w070=>S22 w070∧aJ_ g29 g30 w070 fun b19 w071=>S22 w071∧∃S23:W_,S23 w071∧(∀u30,S23 u30→S22 u30)∧∃g31:A_,(b19=true→(∀u31,S23 u31→(loadVar 35 b18).run Tryz.prog u31=.ok (.agg g31) u31))∧∃S24:W_,S24 w071∧(∀u32,S24 u32→S23 u32)∧bB_ (fun(b20:Bool) (w072:World)=>R (b19&&b20) w072) fun J_6=>(b19=true→aJ_ g31 #[.int .u8 0,.int .u8 0,.int .u16 0,.int .u64 0,.bool false,.int .i64 0,.int .i64 0,.bool false,.bool false,.slice none 0 0] w071 J_6)∧(b19=false→J_6 (Kd.dflt .b) w071))∧New (.cells #[.int .u8 0,.int .u8 0,.int .u16 0,.int .u64 0,.bool false,.int .i64 0,.int .i64 0,.bool false,.bool false,.slice none 0 0] 35) w065 fun b21 w073=>S21 w073∧aF_ p5 0 xs6 ⟨none,0,0⟩ w073 fun g32 w074=>ah_ Tryz.prog (storeVar 35 b21 (.agg g32)) w074 fun w075=>∀w076,w076=w075.drew→∃S25:W_,S25 w076∧∃g33:A_,(∀u33,S25 u33→(loadVar 35 a2).run Tryz.prog u33=.ok (.agg g33) u33)∧a9_ 6 10496 w076 fun g34 w077=>S25 w077∧aJ_ g33 g34 w077 fun b22 w078=>S25 w078∧∃S26:W_,S26 w078∧(∀u34,S26 u34→S25 u34)∧∃g35:A_,(b22=true→(∀u35,S26 u35→(loadVar 35 b21).run Tryz.prog u35=.ok (.agg g35) u35))∧∃S27:W_,S27 w078∧(∀u36,S27 u36→S26 u36)∧bB_ (fun(b23:Bool) (w079:World)=>R (b22&&b23) w079) fun J_7=>(b22=true→aJ_ g35 #[.int .u8 0,.int .u8 0,.int .u16 0,.int .u64 0,.bool false,.int .i64 0,.int .i64 0,.bool false,.bool false,.slice none 0 0] w078 J_7)∧(b22=false→J_7 (Kd.dflt .b) w078))∧New (.cells #[.int .u8 0,.int .u8 0,.int .u16 0,.int .u64 0,.bool false,.int .i64 0,.int .i64 0,.bool false,.bool false,.slice none 0 0] 35) w064 fun b24 w080=>S21 w080∧a3_  w080 fun xs7 w081=>S21 w081∧aF_ p5 0 xs7 ⟨none,0,0⟩ w081 fun g36 w082=>ah_ Tryz.prog (storeVar 35 b24 (.agg g36)) w082 fun w083=>∀w084,w084=w083.drew→∃S28:W_,S28 w084∧∃g37:A_,(∀u37,S28 u37→(loadVar 35 a2).run Tryz.prog u37=.ok (.agg g37) u37)∧a9_ 6 10496 w084 fun g38 w085=>S28 w085∧aJ_ g37 g38 w085 fun b25 w086=>S28 w086∧∃S29:W_,S29 w086∧(∀u38,S29 u38→S28 u38)∧∃g39:A_,(b25=true→(∀u39,S29 u39→(loadVar 35 b24).run Tryz.prog u39=.ok (.agg g39) u39))∧∃S30:W_,S30 w086∧(∀u40,S30 u40→S29 u40)∧bB_ (fun(b26:Bool) (w087:World)=>R (b25&&b26) w087) fun J_8=>(b25=true→aJ_ g39 #[.int .u8 0,.int .u8 0,.int .u16 0,.int .u64 0,.bool false,.int .i64 0,.int .i64 0,.bool false,.bool false,.slice none 0 0] w086 J_8)∧(b25=false→J_8 (Kd.dflt .b) w086))
theorem dp_.calls (w:World) (R:Bool→W_) (h:dp_ w R):fk_ w R:=
 ac_ (ai_ af_) ay_ Tryz.func10 [] [.b] [] w R (Eq.mp (show dp_ w R=vcF Tryz.prog G Tryz.f10 [] [.b] [] w R by kernel_rfl) h)
def dq_ (w_:O_) (prot:Int) (w:World) (R:(A_)→W_):Prop:=
 New (.cells #[.pointer none,.pointer none] 24) w fun a w0=>New (.cells #[.pointer none,.pointer none] 24) w0 fun u w01=>∃(I:Int→W_) (μ:Int→World→Nat),I 0 w01∧∀(i:Int) (w02:World),I i w02→Br (decide (i<2)) (∀w03,w03=w02.drew→∃S:W_,S w03∧(an_ Tryz.prog .sl (Instr.buildSlice 104 2 #[(0,.string s_a),(1,.string s_b)]) w03 fun xs w04=>S w04∧(0≤i∧i<(xs.n:Int)∧xs.A.isSome=true)∧∃S1:W_,S1 w04∧(∀u1,S1 u1→S u1)∧∃s:ByteArray,(∀u2,S1 u2→u2.cell? ((gA xs.A).add (i.toNat*1))=some (.string s))∧cf_ i prot w04 fun g w05=>S1 w05∧∃S2:W_,S2 w05∧(∀u3,S2 u3→S1 u3)∧∃g1:A_,(∀u4,S2 u4→(Instr.build 85 #[(0,.agg g),(1,.int .i64 24)]).run Tryz.prog u4=.ok (.agg g1) u4)∧fl_ w_ s g1 w05 fun p n w06=>(0≤i∧i<(2:Int))∧Put (u.add (i.toNat*1)) (.pointer p) w06 fun w07=>I (IntKind.wrap .i64 (i+1)) w07∧μ (IntKind.wrap .i64 (i+1)) w07<μ i w02)∧cf_ i prot w03 fun g2 w08=>S w08∧∃S3:W_,S3 w08∧(∀u5,S3 u5→S u5)∧∃g3:A_,(∀u6,S3 u6→(Instr.build 85 #[(0,.agg g2),(1,.int .i64 24)]).run Tryz.prog u6=.ok (.agg g3) u6)∧an_ Tryz.prog .sl (Instr.buildSlice 104 2 #[(0,.string s_a),(1,.string s_b)]) w08 fun xs1 w09=>S3 w09∧(0≤i∧i<(xs1.n:Int)∧xs1.A.isSome=true)∧∃S4:W_,S4 w09∧(∀u7,S4 u7→S3 u7)∧∃s1:ByteArray,(∀u8,S4 u8→u8.cell? ((gA xs1.A).add (i.toNat*1))=some (.string s1))∧fl_ w_ s1 g3 w09 fun p1 n1 w010=>(0≤i∧i<(2:Int))∧Put (u.add (i.toNat*1)) (.pointer p1) w010 fun w011=>I (IntKind.wrap .i64 (i+1)) w011∧μ (IntKind.wrap .i64 (i+1)) w011<μ i w02) ((0≤(0:Int)∧(0:Int)<(2:Int))∧∃p2:O_,w02.cell? (u.add ((0:Int).toNat*1))=some (.pointer p2)∧(0≤(0:Int)∧(0:Int)<(2:Int))∧∃p3:O_,w02.cell? (u.add ((0:Int).toNat*1))=some (.pointer p3)∧(0≤(1:Int)∧(1:Int)<(2:Int))∧∃p4:O_,w02.cell? (u.add ((1:Int).toNat*1))=some (.pointer p4)∧an_ Tryz.prog .sl (Instr.buildSlice 43 3 #[(0,.pointer p3),(1,.pointer none),(2,.pointer p4)]) w02 fun xs2 w012=>ey_ p2 xs2 w012 fun w013=>(0≤(1:Int)∧(1:Int)<(2:Int))∧∃p5:O_,w013.cell? (u.add ((1:Int).toNat*1))=some (.pointer p5)∧(0≤(0:Int)∧(0:Int)<(2:Int))∧∃p6:O_,w013.cell? (u.add ((0:Int).toNat*1))=some (.pointer p6)∧an_ Tryz.prog .sl (Instr.buildSlice 43 1 #[(0,.pointer p6)]) w013 fun xs3 w014=>ey_ p5 xs3 w014 fun w015=>∃g4:A_,(loadVar 24 u).run Tryz.prog w015=.ok (.agg g4) w015∧ah_ Tryz.prog (storeVar 24 a (.agg g4)) w015 fun w016=>∃res:A_,(loadVar 24 a).run Tryz.prog w016=.ok (.agg res) w016∧R res w016)
theorem dq_.calls (w_:O_) (prot:Int) (w:World) (R:(A_)→W_) (h:dq_ w_ prot w R):b4_ w_ prot w R:=
 ac_ (ai_ af_) ay_ Tryz.func11 [(9,⟨[(6,.i .i64)],[0,1,4,5]⟩)] [.ag] [.pointer w_,.int .u8 prot] w R (Eq.mp (show dq_ w_ prot w R=vcF Tryz.prog G Tryz.f11 [(9,⟨[(6,.i .i64)],[0,1,4,5]⟩)] [.ag] [.pointer w_,.int .u8 prot] w R by kernel_rfl) h)
def ij_ (w:World) (R:(O_)→W_):Prop:=
 New (.map #[] 0) w fun m w0=>New (.map #[] 0) w0 fun m1 w01=>New (.cells #[.map (some m.block),.map (some m1.block),.slice none 0 0,.int .i64 0,.map none,.int .i64 (-1),.bool false] 110) w01 fun a w02=>R (some a) w02
theorem ij_.calls (w:World) (R:(O_)→W_) (h:ij_ w R):ig_ w R:=
 ac_ (ai_ af_) ay_ Tryz.func12 [] [.p] [] w R (Eq.mp (show ij_ w R=vcF Tryz.prog G Tryz.f12 [] [.p] [] w R by kernel_rfl) h)
def dZ_ (u:O_) (nexus:Int) (cdb:Sl) (out:Sl) (w:World) (R:(A_)→W_):Prop:=
 New (.cells #[.int .u8 0,.int .u8 0,.int .u16 0,.int .u64 0,.bool false,.int .i64 0,.int .i64 0,.bool false,.bool false,.slice none 0 0] 35) w fun a w0=>aF_ u nexus cdb out w0 fun g w01=>New (.cells #[.int .u8 0,.int .u8 0,.int .u16 0,.int .u64 0,.bool false,.int .i64 0,.int .i64 0,.bool false,.bool false,.slice none 0 0] 35) w01 fun r w02=>ah_ Tryz.prog (storeVar 35 r (.agg g)) w02 fun w03=>∃(I:Int→W_) (μ:Int→World→Nat),I 0 w03∧∀(k:Int) (w04:World),I k w04→∃n:Int,(decide (k<9)=true→w04.cell? ((r.add 1).add 0)=some (.int .u8 n))∧Br ((decide (k<9))&&(n==6)) (aF_ u nexus cdb out w04 fun g1 w05=>ah_ Tryz.prog (storeVar 35 r (.agg g1)) w05 fun w06=>I (IntKind.wrap .i64 (k+1)) w06∧μ (IntKind.wrap .i64 (k+1)) w06<μ k w04) (∃g2:A_,(loadVar 35 r).run Tryz.prog w04=.ok (.agg g2) w04∧ah_ Tryz.prog (storeVar 35 a (.agg g2)) w04 fun w07=>∃res:A_,(loadVar 35 a).run Tryz.prog w07=.ok (.agg res) w07∧R res w07)
theorem dZ_.calls (u:O_) (nexus:Int) (cdb:Sl) (out:Sl) (w:World) (R:(A_)→W_) (h:dZ_ u nexus cdb out w R):ce_ u nexus cdb out w R:=
 ac_ (ai_ af_) ay_ Tryz.func13 [(9,⟨[(10,.i .i64)],[0,1,2,3,8,9]⟩)] [.ag] [.pointer u,.int .i64 nexus,.slice cdb.A cdb.n cdb.c,.slice out.A out.n out.c] w R (Eq.mp (show dZ_ u nexus cdb out w R=vcF Tryz.prog G Tryz.f13 [(9,⟨[(10,.i .i64)],[0,1,2,3,8,9]⟩)] [.ag] [.pointer u,.int .i64 nexus,.slice cdb.A cdb.n cdb.c,.slice out.A out.n out.c] w R by kernel_rfl) h)
def dr_ (w:World) (R:Sl→W_):Prop:=
 an_ Tryz.prog .sl (Instr.makeSlice 33 (.int .i64 6) (.int .i64 6)) w fun xs w0=>R xs w0
theorem dr_.calls (w:World) (R:Sl→W_) (h:dr_ w R):a3_ w R:=
 ac_ (ai_ af_) ay_ Tryz.func14 [] [.sl] [] w R (Eq.mp (show dr_ w R=vcF Tryz.prog G Tryz.f14 [] [.sl] [] w R by kernel_rfl) h)
def eO_ (u:O_) (nexus:Int) (command:Sl) (out:Sl) (w:World) (R:(A_)→W_):Prop:=
 New (.cells #[.int .u8 0,.int .u8 0,.int .u16 0,.int .u64 0,.bool false,.int .i64 0,.int .i64 0,.bool false,.bool false,.slice none 0 0] 35) w fun a w0=>((!((u).isNone))=true→u.isSome=true)∧∃p:O_,((!((u).isNone))=true→w0.cell? ((gA u).add 5)=some (.pointer p))∧Br (((((u).isNone)||((p).isNone))||(decide (nexus<0)))||(decide (nexus≥8))) (aS_ #[.int .u8 5,.int .u16 9472,.int .u64 0,.bool false,.int .i64 0,.int .i64 0,.bool false,.bool false] w0 fun g w01=>ah_ Tryz.prog (storeVar 35 a (.agg g)) w01 fun w02=>∃res:A_,(loadVar 35 a).run Tryz.prog w02=.ok (.agg res) w02∧R res w02) (u.isSome=true∧fV_ (some ((gA u).add 15)) 1 w0 fun n w03=>bZ_ u w03 fun n1 w04=>Br (n1 != 0) (aS_ #[.int .u8 2,.int .u16 0,.int .u64 0,.bool false,.int .i64 0,.int .i64 0,.bool false,.bool false] w04 fun g1 w05=>ah_ Tryz.prog (storeVar 35 a (.agg g1)) w05 fun w06=>∃res1:A_,(loadVar 35 a).run Tryz.prog w06=.ok (.agg res1) w06∧R res1 w06) (kl_ command w04 fun g2 g3 b w07=>New (.cells #[.int .u8 0,.bool false,.int .u64 0,.int .u64 0,.int .i64 0,.bool false,.int .u8 0,.bool false,.bool false,.int .u8 0,.int .u8 0,.bool false,.int .u8 0,.int .u8 0,.bool false] 135) w07 fun c w08=>New (.cells #[.int .u8 0,.int .u16 0,.int .u64 0,.bool false,.int .i64 0,.int .i64 0,.bool false,.bool false] 32) w08 fun s w09=>ah_ Tryz.prog (storeVar 135 c (.agg g2)) w09 fun w010=>ah_ Tryz.prog (storeVar 32 s (.agg g3)) w010 fun w011=>Br (!b) (∃g4:A_,(loadVar 32 s).run Tryz.prog w011=.ok (.agg g4) w011∧aS_ g4 w011 fun g5 w012=>ah_ Tryz.prog (storeVar 35 a (.agg g5)) w012 fun w013=>∃res2:A_,(loadVar 35 a).run Tryz.prog w013=.ok (.agg res2) w013∧R res2 w013) (∃n2:Int,w011.cell? (c.add 0)=some (.int .u8 n2)∧∃n3:Int,((!(n2==3))=true→w011.cell? (c.add 0)=some (.int .u8 n3))∧∃n4:Int,((!((n2==3)||(n3==17)))=true→w011.cell? (c.add 0)=some (.int .u8 n4))∧u.isSome=true∧∃p1:O_,w011.cell? ((gA u).add 9)=some (.pointer p1)∧fP_ p1 nexus w011 fun n5 b1 w014=>Br (b1&&(!(((n2==3)||(n3==17))||(n4==2)))) (u.isSome=true∧∃p2:O_,w014.cell? ((gA u).add 9)=some (.pointer p2)∧dS_ p2 nexus w014 fun n6 b2 w015=>aS_ #[.int .u8 6,.int .u16 n5,.int .u64 0,.bool false,.int .i64 0,.int .i64 0,.bool false,.bool false] w015 fun g6 w016=>ah_ Tryz.prog (storeVar 35 a (.agg g6)) w016 fun w017=>∃res3:A_,(loadVar 35 a).run Tryz.prog w017=.ok (.agg res3) w017∧R res3 w017) (∀w018,w018=w014.drew→∃S:W_,S w018∧u.isSome=true∧∃p3:O_,(∀u1,S u1→u1.cell? ((gA u).add 8)=some (.pointer p3))∧∃n7:Int,(∀u2,S u2→u2.cell? (c.add 0)=some (.int .u8 n7))∧fU_ n7 w018 fun n8 w019=>S w019∧cw_ p3 nexus n8 w019 fun b3 w020=>Br b3 (ah_ Tryz.prog (storeVar 35 a (.agg #[.int .u8 24,.int .u8 0,.int .u16 0,.int .u64 0,.bool false,.int .i64 0,.int .i64 0,.bool false,.bool false,.slice none 0 0])) w020 fun w021=>∃res4:A_,(loadVar 35 a).run Tryz.prog w021=.ok (.agg res4) w021∧R res4 w021) (∃n9:Int,w020.cell? (c.add 0)=some (.int .u8 n9)∧fm_ n9 w020 fun b4 w022=>(b4=true→u.isSome=true)∧∃p4:O_,(b4=true→w022.cell? ((gA u).add 7)=some (.pointer p4))∧bB_ (fun(g7:A_) (w023:World)=>∃b5:Bool,(b4=true→g7[2]?=some (.bool b5))∧Br (b4&&b5) (aS_ #[.int .u8 7,.int .u16 9984,.int .u64 0,.bool false,.int .i64 0,.int .i64 0,.bool false,.bool false] w023 fun g8 w024=>ah_ Tryz.prog (storeVar 35 a (.agg g8)) w024 fun w025=>∃res5:A_,(loadVar 35 a).run Tryz.prog w025=.ok (.agg res5) w025∧R res5 w025) (∃g9:A_,(loadVar 135 c).run Tryz.prog w023=.ok (.agg g9) w023∧bj_ u nexus g9 out w023 fun g10 w026=>ah_ Tryz.prog (storeVar 35 a (.agg g10)) w026 fun w027=>∃res6:A_,(loadVar 35 a).run Tryz.prog w027=.ok (.agg res6) w027∧R res6 w027)) fun J_=>(b4=true→bm_ p4 w022 J_)∧(b4=false→J_ (Kd.dflt .ag) w022))))))
theorem eO_.calls (u:O_) (nexus:Int) (command:Sl) (out:Sl) (w:World) (R:(A_)→W_) (h:eO_ u nexus command out w R):aF_ u nexus command out w R:=
 ac_ (ai_ af_) ay_ Tryz.func15 [] [.ag] [.pointer u,.int .i64 nexus,.slice command.A command.n command.c,.slice out.A out.n out.c] w R (Eq.mp (show eO_ u nexus command out w R=vcF Tryz.prog G Tryz.f15 [] [.ag] [.pointer u,.int .i64 nexus,.slice command.A command.n command.c,.slice out.A out.n out.c] w R by kernel_rfl) h)
def d0_ (a:A_) (b:A_) (w:World) (R:Bool→W_):Prop:=
 New (.cells a 35) w fun a1 w0=>New (.cells b 35) w0 fun b1 w01=>∃n:Int,w01.cell? (a1.add 0)=some (.int .u8 n)∧∃n1:Int,w01.cell? (b1.add 0)=some (.int .u8 n1)∧∃g:A_,((n==n1)=true→(loadVar 32 (a1.add 1)).run Tryz.prog w01=.ok (.agg g) w01)∧∃g1:A_,((n==n1)=true→(loadVar 32 (b1.add 1)).run Tryz.prog w01=.ok (.agg g1) w01)∧∃b2:Bool,((n==n1)=true→(do eqGuard .eql 32 (.tmp 12) (.tmp 14) (.agg g) (.agg g1);binOp .eql 32 (.agg g) (.agg g1):Sem Value).run Tryz.prog w01=.ok (.bool b2) w01)∧∃xs:Sl,(((n==n1)&&b2)=true→w01.cell? (a1.add 9)=some (.slice xs.A xs.n xs.c))∧∃s:ByteArray,(((n==n1)&&b2)=true→(convert 33 9 (.slice xs.A xs.n xs.c)).run Tryz.prog w01=.ok (.string s) w01)∧∃xs1:Sl,(((n==n1)&&b2)=true→w01.cell? (b1.add 9)=some (.slice xs1.A xs1.n xs1.c))∧∃s1:ByteArray,(((n==n1)&&b2)=true→(convert 33 9 (.slice xs1.A xs1.n xs1.c)).run Tryz.prog w01=.ok (.string s1) w01)∧R (((n==n1)&&b2)&&(sEq s s1)) w01
theorem d0_.calls (a:A_) (b:A_) (w:World) (R:Bool→W_) (h:d0_ a b w R):aJ_ a b w R:=
 ac_ (ai_ af_) ay_ Tryz.func16 [] [.b] [.agg a,.agg b] w R (Eq.mp (show d0_ a b w R=vcF Tryz.prog G Tryz.f16 [] [.b] [.agg a,.agg b] w R by kernel_rfl) h)
def d1_ (key:Int) (code:Int) (w:World) (R:(A_)→W_):Prop:=
 New (.cells #[.int .u8 0,.int .u8 0,.int .u16 0,.int .u64 0,.bool false,.int .i64 0,.int .i64 0,.bool false,.bool false,.slice none 0 0] 35) w fun a w0=>∃g:A_,(Instr.build 35 #[(0,.int .u8 2),(1,.agg #[.int .u8 key,.int .u16 code,.int .u64 0,.bool false,.int .i64 0,.int .i64 0,.bool false,.bool false])]).run Tryz.prog w0=.ok (.agg g) w0∧ah_ Tryz.prog (storeVar 35 a (.agg g)) w0 fun w01=>∃res:A_,(loadVar 35 a).run Tryz.prog w01=.ok (.agg res) w01∧R res w01
theorem d1_.calls (key:Int) (code:Int) (w:World) (R:(A_)→W_) (h:d1_ key code w R):a9_ key code w R:=
 ac_ (ai_ af_) ay_ Tryz.func17 [] [.ag] [.int .u8 key,.int .u16 code] w R (Eq.mp (show d1_ key code w R=vcF Tryz.prog G Tryz.f17 [] [.ag] [.int .u8 key,.int .u16 code] w R by kernel_rfl) h)
def eA_ (u:O_) (l:Sl) (w:World) (R:W_):Prop:=
 Br ((u).isNone) (R w) (u.isSome=true∧Put ((gA u).add 10) (.slice none 0 0) w fun w0=>∃(I:Int→W_) (μ:Int→World→Nat),I 0 w0∧∀(x:Int) (w01:World),I x w01→Br (decide (x<(l.n:Int))) (aR_ (fun(w02:World)=>I (IntKind.wrap .i64 (x+1)) w02∧μ (IntKind.wrap .i64 (x+1)) w02<μ x w01) fun J_=>(0≤x∧x<(l.n:Int)∧l.A.isSome=true)∧∃p:O_,w01.cell? ((gA l.A).add (x.toNat*1))=some (.pointer p)∧((!(p).isNone)=true→p.isSome=true)∧∃p1:O_,((!(p).isNone)=true→w01.cell? ((gA p).add 5)=some (.pointer p1))∧∃b:Bool,(((!(p).isNone)&&(!(p1).isNone))=true→(do eqGuard .neq 23 (.tmp 27) (.tmp 28) (.pointer p) (.pointer u);binOp .neq 23 (.pointer p) (.pointer u):Sem Value).run Tryz.prog w01=.ok (.bool b) w01)∧Br (((!(p).isNone)&&(!(p1).isNone))&&b) (u.isSome=true∧∃xs:Sl,w01.cell? ((gA u).add 10)=some (.slice xs.A xs.n xs.c)∧an_ Tryz.prog .sl (Instr.buildSlice 43 1 #[(0,.pointer p)]) w01 fun xs1 w04=>an_ Tryz.prog .sl (Builtin.append_ #[43,43] 43 #[.slice xs.A xs.n xs.c,.slice xs1.A xs1.n xs1.c]) w04 fun xs2 w05=>u.isSome=true∧Put ((gA u).add 10) (.slice xs2.A xs2.n xs2.c) w05 fun w06=>J_ w06) (J_ w01)) (R w01))
theorem eA_.calls (u:O_) (l:Sl) (w:World) (R:W_) (h:eA_ u l w R):ey_ u l w R:=
 ac_ (ai_ af_) ay_ Tryz.func18 [(9,⟨[(13,.i .i64)],[0,11,12]⟩),(5,⟨[],[0,11,12,13]⟩)] [] [.pointer u,.slice l.A l.n l.c] w R (Eq.mp (show eA_ u l w R=vcF Tryz.prog G Tryz.f18 [(9,⟨[(13,.i .i64)],[0,11,12]⟩),(5,⟨[],[0,11,12,13]⟩)] [] [.pointer u,.slice l.A l.n l.c] w R by kernel_rfl) h)
def cU_ (service:Int) (kind:Int) (key:Int) (action:Int) (lasts:Bool) (w:World) (R:Sl→Sl→W_):Prop:=
 an_ Tryz.prog .sl (Instr.buildSlice 33 10 #[(0,.int .u8 95),(1,.int .u8 service),(2,.int .u8 kind),(3,.int .u8 0),(4,.int .u8 0),(5,.int .u8 0),(6,.int .u8 0),(7,.int .u8 0),(8,.int .u8 24),(9,.int .u8 0)]) w fun xs w0=>c2_ key 8 w0 fun xs1 w01=>c2_ action 8 w01 fun xs2 w02=>an_ Tryz.prog .sl (Builtin.append_ #[33,33] 33 #[.slice xs1.A xs1.n xs1.c,.slice xs2.A xs2.n xs2.c]) w02 fun xs3 w03=>an_ Tryz.prog .sl (Instr.buildSlice 33 8 #[(0,.int .u8 0),(1,.int .u8 0),(2,.int .u8 0),(3,.int .u8 0),(4,.int .u8 0),(5,.int .u8 0),(6,.int .u8 0),(7,.int .u8 0)]) w03 fun xs4 w04=>an_ Tryz.prog .sl (Builtin.append_ #[33,33] 33 #[.slice xs3.A xs3.n xs3.c,.slice xs4.A xs4.n xs4.c]) w04 fun xs5 w05=>Br lasts ((0≤(20:Int)∧(20:Int)<(xs5.n:Int)∧xs5.A.isSome=true)∧Put ((gA xs5.A).add ((20:Int).toNat*1)) (.int .u8 1) w05 fun w07=>R xs xs5 w07) (R xs xs5 w05)
theorem cU_.calls (service:Int) (kind:Int) (key:Int) (action:Int) (lasts:Bool) (w:World) (R:Sl→Sl→W_) (h:cU_ service kind key action lasts w R):cS_ service kind key action lasts w R:=
 ac_ (ai_ af_) ay_ Tryz.func19 [] [.sl,.sl] [.int .u8 service,.int .u8 kind,.int .u64 key,.int .u64 action,.bool lasts] w R (Eq.mp (show cU_ service kind key action lasts w R=vcF Tryz.prog G Tryz.f19 [] [.sl,.sl] [.int .u8 service,.int .u8 kind,.int .u64 key,.int .u64 action,.bool lasts] w R by kernel_rfl) h)
def eB_ (u:O_) (w:World) (R:Sl→Int→Int→W_):Prop:=
 ((!((u).isNone))=true→u.isSome=true)∧∃p:O_,((!((u).isNone))=true→w.cell? ((gA u).add 8)=some (.pointer p))∧Br (((u).isNone)||((p).isNone)) (R (⟨none,0,0⟩:Sl) 0 (-1) w) (u.isSome=true∧∃p1:O_,w.cell? ((gA u).add 8)=some (.pointer p1)∧dj_ p1 w fun n n1 w0=>u.isSome=true∧∃p2:O_,w0.cell? ((gA u).add 8)=some (.pointer p2)∧ha_ p2 w0 fun xs w01=>R xs n n1 w01)
theorem eB_.calls (u:O_) (w:World) (R:Sl→Int→Int→W_) (h:eB_ u w R):ez_ u w R:=
 ac_ (ai_ af_) ay_ Tryz.func24 [] [.sl,.i .u8,.i .i64] [.pointer u] w R (Eq.mp (show eB_ u w R=vcF Tryz.prog G Tryz.f24 [] [.sl,.i .u8,.i .i64] [.pointer u] w R by kernel_rfl) h)
def cr_ (u:O_) (w:World) (R:Int→W_):Prop:=
 New (.cells #[.pointer u] 23) w fun u1 w0=>∃p:O_,w0.cell? u1=some (.pointer p)∧∃p1:O_,((!((p).isNone))=true→w0.cell? u1=some (.pointer p1))∧((!((p).isNone))=true→p1.isSome=true)∧∃p2:O_,((!((p).isNone))=true→w0.cell? ((gA p1).add 5)=some (.pointer p2))∧Br (((p).isNone)||((p2).isNone)) (R 8 w0) (∃p3:O_,w0.cell? u1=some (.pointer p3)∧p3.isSome=true∧f6_ (some ((gA p3).add 11)) (.func (.func 61) #[] #[.pointer (some u1)]) w0 fun w01=>∃p4:O_,w01.cell? u1=some (.pointer p4)∧p4.isSome=true∧∃n:Int,w01.cell? ((gA p4).add 14)=some (.int .i64 n)∧R n w01)
theorem cr_.calls (u:O_) (w:World) (R:Int→W_) (h:cr_ u w R):bZ_ u w R:=
 ac_ (ai_ af_) ay_ Tryz.func27 [] [.i .i64] [.pointer u] w R (Eq.mp (show cr_ u w R=vcF Tryz.prog G Tryz.f27 [] [.i .i64] [.pointer u] w R by kernel_rfl) h)
def jd_ (w_:O_) (name:ByteArray) (c:A_) (w:World) (R:(O_)→Int→W_):Prop:=
 New (.cells c 85) w fun c1 w0=>∃n:Int,((!((decide ((name.size:Int)<1))||(decide ((name.size:Int)>28))))=true→w0.cell? (c1.add 5)=some (.int .i64 n))∧∃n1:Int,((!(((decide ((name.size:Int)<1))||(decide ((name.size:Int)>28)))||(decide (n<1))))=true→w0.cell? (c1.add 5)=some (.int .i64 n1))∧Br ((((decide ((name.size:Int)<1))||(decide ((name.size:Int)>28)))||(decide (n<1)))||(decide (n1>4096))) (R none 1 w0) (∃g:A_,(loadVar 81 (c1.add 0)).run Tryz.prog w0=.ok (.agg g) w0∧lh_ g w0 fun b w01=>Br (!b) (R none 3 w01) (Br ((w_).isNone) (R none 8 w01) (∀w02,w02=w01.drew→∃S:W_,S w02∧(name.size+c1_.size≤9223372036854775807)∧∃n2:Int,(∀u,S u→u.cell? (c1.add 5)=some (.int .i64 n2))∧df_  w02 fun g1 w03=>S w03∧∃S1:W_,S1 w03∧(∀u1,S1 u1→S u1)∧∃b1:Bool,(∀u2,S1 u2→g1[0]?=some (.bool b1))∧jA_ w_ (name++c1_) n2 b1 w03 fun p n3 w04=>(name.size+fj_.size≤9223372036854775807)∧jB_ w_ (name++fj_) w04 fun p1 n4 w05=>∀w06,w06=w05.drew→∃S2:W_,S2 w06∧∃g2:A_,(∀u3,S2 u3→(loadVar 81 (c1.add 0)).run Tryz.prog u3=.ok (.agg g2) u3)∧∃n5:Int,(∀u4,S2 u4→u4.cell? ((c1.add 0).add 4)=some (.int .u8 n5))∧(New (.cells #[.pointer p,.int .u8 n5] 166) w06 fun a w07=>S2 w07∧df_  w07 fun g3 w08=>S2 w08∧gD_ g3 w08 fun p2 w09=>S2 w09∧hb_  w09 fun p3 w010=>S2 w010∧fn_  w010 fun p4 w011=>S2 w011∧∃S3:W_,S3 w011∧(∀u5,S3 u5→S2 u5)∧∃g4:A_,(∀u6,S3 u6→(Instr.build 131 #[(0,.agg g2),(1,.pointer (some a)),(2,.pointer p1),(3,.pointer p2),(4,.pointer p3),(5,.pointer p4)]).run Tryz.prog u6=.ok (.agg g4) u6)∧New (.cells g4 131) w011 fun a1 w012=>R (some a1) 0 w012)∧df_  w06 fun g5 w013=>S2 w013∧(New (.cells #[.pointer p,.int .u8 n5] 166) w013 fun a2 w014=>S2 w014∧gD_ g5 w014 fun p5 w015=>S2 w015∧hb_  w015 fun p6 w016=>S2 w016∧fn_  w016 fun p7 w017=>S2 w017∧∃S4:W_,S4 w017∧(∀u7,S4 u7→S2 u7)∧∃g6:A_,(∀u8,S4 u8→(Instr.build 131 #[(0,.agg g2),(1,.pointer (some a2)),(2,.pointer p1),(3,.pointer p5),(4,.pointer p6),(5,.pointer p7)]).run Tryz.prog u8=.ok (.agg g6) u8)∧New (.cells g6 131) w017 fun a3 w018=>R (some a3) 0 w018)∧gD_ g5 w013 fun p8 w019=>S2 w019∧(New (.cells #[.pointer p,.int .u8 n5] 166) w019 fun a4 w020=>S2 w020∧hb_  w020 fun p9 w021=>S2 w021∧fn_  w021 fun p10 w022=>S2 w022∧∃S5:W_,S5 w022∧(∀u9,S5 u9→S2 u9)∧∃g7:A_,(∀u10,S5 u10→(Instr.build 131 #[(0,.agg g2),(1,.pointer (some a4)),(2,.pointer p1),(3,.pointer p8),(4,.pointer p9),(5,.pointer p10)]).run Tryz.prog u10=.ok (.agg g7) u10)∧New (.cells g7 131) w022 fun a5 w023=>R (some a5) 0 w023)∧hb_  w019 fun p11 w024=>S2 w024∧(New (.cells #[.pointer p,.int .u8 n5] 166) w024 fun a6 w025=>S2 w025∧fn_  w025 fun p12 w026=>S2 w026∧∃S6:W_,S6 w026∧(∀u11,S6 u11→S2 u11)∧∃g8:A_,(∀u12,S6 u12→(Instr.build 131 #[(0,.agg g2),(1,.pointer (some a6)),(2,.pointer p1),(3,.pointer p8),(4,.pointer p11),(5,.pointer p12)]).run Tryz.prog u12=.ok (.agg g8) u12)∧New (.cells g8 131) w026 fun a7 w027=>R (some a7) 0 w027)∧fn_  w024 fun p13 w028=>S2 w028∧New (.cells #[.pointer p,.int .u8 n5] 166) w028 fun a8 w029=>S2 w029∧∃S7:W_,S7 w029∧(∀u13,S7 u13→S2 u13)∧∃g9:A_,(∀u14,S7 u14→(Instr.build 131 #[(0,.agg g2),(1,.pointer (some a8)),(2,.pointer p1),(3,.pointer p8),(4,.pointer p11),(5,.pointer p13)]).run Tryz.prog u14=.ok (.agg g9) u14)∧New (.cells g9 131) w029 fun a9 w030=>R (some a9) 0 w030)))
theorem jd_.calls (w_:O_) (name:ByteArray) (c:A_) (w:World) (R:(O_)→Int→W_) (h:jd_ w_ name c w R):fl_ w_ name c w R:=
 ac_ (ai_ af_) ay_ Tryz.func28 [] [.p,.i .i64] [.pointer w_,.string name,.agg c] w R (Eq.mp (show jd_ w_ name c w R=vcF Tryz.prog G Tryz.f28 [] [.p,.i .i64] [.pointer w_,.string name,.agg c] w R by kernel_rfl) h)
def fX_ (k:Int) (w:World) (R:Int→W_):Prop:=
 aR_ (fun(x:Bool) (w01:World)=>Br x (R 1 w01) (Br (k==8) (Br (k==8) (R 2 w01) (R 0 w01)) (Br (k==9) (Br (k==9) (R 2 w01) (R 0 w01)) (Br (k==12) (Br (k==12) (R 2 w01) (R 0 w01)) (Br (k==13) (Br (k==13) (R 2 w01) (R 0 w01)) (Br (k==14) (Br (k==14) (R 2 w01) (R 0 w01)) (Br (k==4) (Br (k==4) (R 2 w01) (R 0 w01)) (Br (k==11) (Br (k==11) (R 2 w01) (R 0 w01)) (Br (k==18) (R 2 w01) (R 0 w01)))))))))) fun J_=>Br (k==1) (J_ (k==1) w) (Br (k==7) (J_ (k==7) w) (Br (k==10) (J_ (k==10) w) (J_ (k==5) w)))
theorem fX_.calls (k:Int) (w:World) (R:Int→W_) (h:fX_ k w R):fU_ k w R:=
 ac_ (ai_ af_) ay_ Tryz.func32 [(10,⟨[(4,.b)],[3]⟩)] [.i .u8] [.int .u8 k] w R (Eq.mp (show fX_ k w R=vcF Tryz.prog G Tryz.f32 [(10,⟨[(4,.b)],[3]⟩)] [.i .u8] [.int .u8 k] w R by kernel_rfl) h)
def gS_ (k:Int) (w:World) (R:Bool→W_):Prop:=
 Br (k==8) (Br (k==8) (R true w) (R false w)) (Br (k==9) (Br (k==9) (R true w) (R false w)) (Br (k==12) (Br (k==12) (R true w) (R false w)) (Br (k==13) (Br (k==13) (R true w) (R false w)) (Br (k==14) (R true w) (R false w)))))
theorem gS_.calls (k:Int) (w:World) (R:Bool→W_) (h:gS_ k w R):fm_ k w R:=
 ac_ (ai_ af_) ay_ Tryz.func34 [] [.b] [.int .u8 k] w R (Eq.mp (show gS_ k w R=vcF Tryz.prog G Tryz.f34 [] [.b] [.int .u8 k] w R by kernel_rfl) h)
def ds_ (w_:O_) (keep:Int) (cut:Int) (w:World) (R:W_):Prop:=
 Br ((w_).isNone) (R w) (w_.isSome=true∧∃xs:Sl,w.cell? ((gA w_).add 2)=some (.slice xs.A xs.n xs.c)∧∃(I:Int→W_) (μ:Int→World→Nat),I 0 w∧∀(x:Int) (w0:World),I x w0→Br (decide (x<(xs.n:Int))) (aR_ (fun(w01:World)=>I (IntKind.wrap .i64 (x+1)) w01∧μ (IntKind.wrap .i64 (x+1)) w01<μ x w0) fun J_=>(0≤x∧x<(xs.n:Int)∧xs.A.isSome=true)∧∃g:A_,(loadVar 173 ((gA xs.A).add (x.toNat*5))).run Tryz.prog w0=.ok (.agg g) w0∧New (.cells #[.int .u8 0,.string ⟨#[]⟩,.string ⟨#[]⟩,.int .i64 0,.slice none 0 0] 173) w0 fun c w02=>ah_ Tryz.prog (storeVar 173 c (.agg g)) w02 fun w03=>Br (decide (x<keep)) (∀w06,w06=w03.drew→∃S:W_,S w06∧w_.isSome=true∧∃m:Option Nat,(∀u,S u→u.cell? ((gA w_).add 1)=some (.map m))∧∃g1:A_,(∀u1,S u1→(loadVar 173 c).run Tryz.prog u1=.ok (.agg g1) u1)∧∃xs1:Sl,(∀u2,S u2→u2.cell? (c.add 4)=some (.slice xs1.A xs1.n xs1.c))∧c3_ m g1 (xs1.n:Int) w06 fun w07=>J_ w07) (∃n:Int,((x==keep)=true→w03.cell? (c.add 0)=some (.int .u8 n))∧Br (((x==keep)&&(n==119))&&(decide (cut>0))) (∀w09,w09=w03.drew→∃S1:W_,S1 w09∧w_.isSome=true∧∃m1:Option Nat,(∀u3,S1 u3→u3.cell? ((gA w_).add 1)=some (.map m1))∧∃g2:A_,(∀u4,S1 u4→(loadVar 173 c).run Tryz.prog u4=.ok (.agg g2) u4)∧c3_ m1 g2 cut w09 fun w010=>J_ w010) (J_ w03))) (w_.isSome=true∧∃m2:Option Nat,w0.cell? ((gA w_).add 1)=some (.map m2)∧cj_ m2 w0 fun m3 w011=>w_.isSome=true∧Put ((gA w_).add 0) (.map m3) w011 fun w012=>w_.isSome=true∧Put ((gA w_).add 2) (.slice none 0 0) w012 fun w013=>w_.isSome=true∧Put ((gA w_).add 4) (.map none) w013 fun w014=>w_.isSome=true∧Put ((gA w_).add 3) (.int .i64 0) w014 fun w015=>w_.isSome=true∧Put ((gA w_).add 5) (.int .i64 (-1)) w015 fun w016=>w_.isSome=true∧Put ((gA w_).add 6) (.bool false) w016 fun w017=>R w017))
theorem ds_.calls (w_:O_) (keep:Int) (cut:Int) (w:World) (R:W_) (h:ds_ w_ keep cut w R):di_ w_ keep cut w R:=
 ac_ (ai_ af_) ay_ Tryz.func36 [(6,⟨[(15,.i .i64)],[0,1,2,13,14]⟩),(5,⟨[],[0,1,2,13,14,15]⟩)] [] [.pointer w_,.int .i64 keep,.int .i64 cut] w R (Eq.mp (show ds_ w_ keep cut w R=vcF Tryz.prog G Tryz.f36 [(6,⟨[(15,.i .i64)],[0,1,2,13,14]⟩),(5,⟨[],[0,1,2,13,14,15]⟩)] [] [.pointer w_,.int .i64 keep,.int .i64 cut] w R by kernel_rfl) h)
open Go CF
set_option linter.unusedVariables false
set_option maxRecDepth 100000
def d2_ (i:Int) (prot:Int) (w:World) (R:(A_)→W_):Prop:=
 New (.cells #[.string ⟨#[]⟩,.string ⟨#[]⟩,.string ⟨#[]⟩,.string ⟨#[]⟩,.int .u8 0] 81) w fun a w0=>an_ Tryz.prog .sl (Instr.buildSlice 104 2 #[(0,.string uG_),(1,.string uH_)]) w0 fun xs w01=>(0≤i∧i<(xs.n:Int)∧xs.A.isSome=true)∧∃s:ByteArray,w01.cell? ((gA xs.A).add (i.toNat*1))=some (.string s)∧ah_ Tryz.prog (storeVar 81 a (.agg #[.string s_V,.string s_P,.string s_1,.string s,.int .u8 prot])) w01 fun w02=>∃res:A_,(loadVar 81 a).run Tryz.prog w02=.ok (.agg res) w02∧R res w02
theorem d2_.calls (i:Int) (prot:Int) (w:World) (R:(A_)→W_) (h:d2_ i prot w R):cf_ i prot w R:=
 ac_ (ai_ af_) ay_ Tryz.func40 [] [.ag] [.int .i64 i,.int .u8 prot] w R (Eq.mp (show d2_ i prot w R=vcF Tryz.prog G Tryz.f40 [] [.ag] [.int .i64 i,.int .u8 prot] w R by kernel_rfl) h)
def hu_ (s:A_) (w:World) (R:(A_)→W_):Prop:=
 New (.cells s 32) w fun s1 w0=>New (.cells #[.int .u8 0,.int .u8 0,.int .u16 0,.int .u64 0,.bool false,.int .i64 0,.int .i64 0,.bool false,.bool false,.slice none 0 0] 35) w0 fun a w01=>∃g:A_,(loadVar 32 s1).run Tryz.prog w01=.ok (.agg g) w01∧∃g1:A_,(Instr.build 35 #[(0,.int .u8 2),(1,.agg g)]).run Tryz.prog w01=.ok (.agg g1) w01∧ah_ Tryz.prog (storeVar 35 a (.agg g1)) w01 fun w02=>∃res:A_,(loadVar 35 a).run Tryz.prog w02=.ok (.agg res) w02∧R res w02
theorem hu_.calls (s:A_) (w:World) (R:(A_)→W_) (h:hu_ s w R):aS_ s w R:=
 ac_ (ai_ af_) ay_ Tryz.func41 [] [.ag] [.agg s] w R (Eq.mp (show hu_ s w R=vcF Tryz.prog G Tryz.f41 [] [.ag] [.agg s] w R by kernel_rfl) h)
def ik_ (p:Sl) (w:World) (R:(A_)→(A_)→Bool→W_):Prop:=
 New (.cells #[.int .u8 0,.bool false,.int .u64 0,.int .u64 0,.int .i64 0,.bool false,.int .u8 0,.bool false,.bool false,.int .u8 0,.int .u8 0,.bool false,.int .u8 0,.int .u8 0,.bool false] 135) w fun a w0=>New (.cells #[.int .u8 0,.int .u16 0,.int .u64 0,.bool false,.int .i64 0,.int .i64 0,.bool false,.bool false] 32) w0 fun a1 w01=>Br ((p.n:Int)==0) (cT_ 0 (-1) w01 fun g w02=>ah_ Tryz.prog (storeVar 135 a (.agg #[.int .u8 0,.bool false,.int .u64 0,.int .u64 0,.int .i64 0,.bool false,.int .u8 0,.bool false,.bool false,.int .u8 0,.int .u8 0,.bool false,.int .u8 0,.int .u8 0,.bool false])) w02 fun w03=>ah_ Tryz.prog (storeVar 32 a1 (.agg g)) w03 fun w04=>∃res:A_,(loadVar 135 a).run Tryz.prog w04=.ok (.agg res) w04∧∃res1:A_,(loadVar 32 a1).run Tryz.prog w04=.ok (.agg res1) w04∧R res res1 false w04) ((0≤(0:Int)∧(0:Int)<(p.n:Int)∧p.A.isSome=true)∧∃n:Int,w01.cell? ((gA p.A).add ((0:Int).toNat*1))=some (.int .u8 n)∧aR_ (fun(service:Int) (w05:World)=>km_ n service w05 fun xs b w06=>Br xs.A.isNone (ah_ Tryz.prog (storeVar 135 a (.agg #[.int .u8 0,.bool false,.int .u64 0,.int .u64 0,.int .i64 0,.bool false,.int .u8 0,.bool false,.bool false,.int .u8 0,.int .u8 0,.bool false,.int .u8 0,.int .u8 0,.bool false])) w06 fun w07=>ah_ Tryz.prog (storeVar 32 a1 (.agg #[.int .u8 5,.int .u16 8192,.int .u64 0,.bool false,.int .i64 0,.int .i64 7,.bool true,.bool true])) w07 fun w08=>∃res2:A_,(loadVar 135 a).run Tryz.prog w08=.ok (.agg res2) w08∧∃res3:A_,(loadVar 32 a1).run Tryz.prog w08=.ok (.agg res3) w08∧R res2 res3 false w08) (Br (decide ((p.n:Int)<(xs.n:Int))) (cT_ (p.n:Int) (-1) w06 fun g1 w09=>ah_ Tryz.prog (storeVar 135 a (.agg #[.int .u8 0,.bool false,.int .u64 0,.int .u64 0,.int .i64 0,.bool false,.int .u8 0,.bool false,.bool false,.int .u8 0,.int .u8 0,.bool false,.int .u8 0,.int .u8 0,.bool false])) w09 fun w010=>ah_ Tryz.prog (storeVar 32 a1 (.agg g1)) w010 fun w011=>∃res4:A_,(loadVar 135 a).run Tryz.prog w011=.ok (.agg res4) w011∧∃res5:A_,(loadVar 32 a1).run Tryz.prog w011=.ok (.agg res5) w011∧R res4 res5 false w011) ((0≤(0:Int)∧(0:Int)≤(xs.n:Int)∧(xs.n:Int)≤(p.c:Int)∧p.n≤p.c)∧lQ_ ⟨(aM_ p.A p.c 0 1),((xs.n:Int).toNat-0),(p.c-0)⟩ xs w06 fun n1 n2 w012=>Br (decide (n1≥0)) (cT_ n1 n2 w012 fun g2 w013=>ah_ Tryz.prog (storeVar 135 a (.agg #[.int .u8 0,.bool false,.int .u64 0,.int .u64 0,.int .i64 0,.bool false,.int .u8 0,.bool false,.bool false,.int .u8 0,.int .u8 0,.bool false,.int .u8 0,.int .u8 0,.bool false])) w013 fun w014=>ah_ Tryz.prog (storeVar 32 a1 (.agg g2)) w014 fun w015=>∃res6:A_,(loadVar 135 a).run Tryz.prog w015=.ok (.agg res6) w015∧∃res7:A_,(loadVar 32 a1).run Tryz.prog w015=.ok (.agg res7) w015∧R res6 res7 false w015) (Br (!b) (cT_ 1 4 w012 fun g3 w016=>ah_ Tryz.prog (storeVar 135 a (.agg #[.int .u8 0,.bool false,.int .u64 0,.int .u64 0,.int .i64 0,.bool false,.int .u8 0,.bool false,.bool false,.int .u8 0,.int .u8 0,.bool false,.int .u8 0,.int .u8 0,.bool false])) w016 fun w017=>ah_ Tryz.prog (storeVar 32 a1 (.agg g3)) w017 fun w018=>∃res8:A_,(loadVar 135 a).run Tryz.prog w018=.ok (.agg res8) w018∧∃res9:A_,(loadVar 32 a1).run Tryz.prog w018=.ok (.agg res9) w018∧R res8 res9 false w018) (li_ n w012 fun n3 w019=>New (.cells #[.int .u8 0,.bool false,.int .u64 0,.int .u64 0,.int .i64 0,.bool false,.int .u8 0,.bool false,.bool false,.int .u8 0,.int .u8 0,.bool false,.int .u8 0,.int .u8 0,.bool false] 135) w019 fun c w020=>ah_ Tryz.prog (storeVar 135 c (.agg #[.int .u8 n3,.bool false,.int .u64 0,.int .u64 0,.int .i64 0,.bool false,.int .u8 0,.bool false,.bool false,.int .u8 0,.int .u8 0,.bool false,.int .u8 0,.int .u8 0,.bool false])) w020 fun w021=>lj_ (some c) ⟨(aM_ p.A p.c 0 1),((xs.n:Int).toNat-0),(p.c-0)⟩ service w021 fun n4 n5 w022=>Br (decide (n4≥0)) (cT_ n4 n5 w022 fun g4 w023=>ah_ Tryz.prog (storeVar 135 a (.agg #[.int .u8 0,.bool false,.int .u64 0,.int .u64 0,.int .i64 0,.bool false,.int .u8 0,.bool false,.bool false,.int .u8 0,.int .u8 0,.bool false,.int .u8 0,.int .u8 0,.bool false])) w023 fun w024=>ah_ Tryz.prog (storeVar 32 a1 (.agg g4)) w024 fun w025=>∃res10:A_,(loadVar 135 a).run Tryz.prog w025=.ok (.agg res10) w025∧∃res11:A_,(loadVar 32 a1).run Tryz.prog w025=.ok (.agg res11) w025∧R res10 res11 false w025) (∃g5:A_,(loadVar 135 c).run Tryz.prog w022=.ok (.agg g5) w022∧ah_ Tryz.prog (storeVar 135 a (.agg g5)) w022 fun w026=>ah_ Tryz.prog (storeVar 32 a1 (.agg #[.int .u8 0,.int .u16 0,.int .u64 0,.bool false,.int .i64 0,.int .i64 0,.bool false,.bool false])) w026 fun w027=>∃res12:A_,(loadVar 135 a).run Tryz.prog w027=.ok (.agg res12) w027∧∃res13:A_,(loadVar 32 a1).run Tryz.prog w027=.ok (.agg res13) w027∧R res12 res13 true w027)))))) fun J_=>Br ((((n==94)||(n==95))||(n==131))||(n==158)) (Br (decide ((p.n:Int)<2)) (cT_ 1 (-1) w01 fun g6 w028=>ah_ Tryz.prog (storeVar 135 a (.agg #[.int .u8 0,.bool false,.int .u64 0,.int .u64 0,.int .i64 0,.bool false,.int .u8 0,.bool false,.bool false,.int .u8 0,.int .u8 0,.bool false,.int .u8 0,.int .u8 0,.bool false])) w028 fun w029=>ah_ Tryz.prog (storeVar 32 a1 (.agg g6)) w029 fun w030=>∃res14:A_,(loadVar 135 a).run Tryz.prog w030=.ok (.agg res14) w030∧∃res15:A_,(loadVar 32 a1).run Tryz.prog w030=.ok (.agg res15) w030∧R res14 res15 false w030) ((0≤(1:Int)∧(1:Int)<(p.n:Int)∧p.A.isSome=true)∧∃n6:Int,w01.cell? ((gA p.A).add ((1:Int).toNat*1))=some (.int .u8 n6)∧J_ (bz_ .u8 n6 31) w01)) (J_ 0 w01))
theorem ik_.calls (p:Sl) (w:World) (R:(A_)→(A_)→Bool→W_) (h:ik_ p w R):kl_ p w R:=
 ac_ (ai_ af_) ay_ Tryz.func43 [(16,⟨[(6,.i .u8)],[0,2,3,5]⟩)] [.ag,.ag,.b] [.slice p.A p.n p.c] w R (Eq.mp (show ik_ p w R=vcF Tryz.prog G Tryz.f43 [(16,⟨[(6,.i .u8)],[0,2,3,5]⟩)] [.ag,.ag,.b] [.slice p.A p.n p.c] w R by kernel_rfl) h)
def d3_ (q:O_) (nexus:Int) (w:World) (R:Int→Bool→W_):Prop:=
 dl_ q nexus w fun n w0=>Br (decide (n<0)) (R 0 false w0) (q.isSome=true∧(0≤nexus∧nexus<(8:Int))∧∃xs:Sl,w0.cell? (((gA q).add 0).add (nexus.toNat*1))=some (.slice xs.A xs.n xs.c)∧(0≤n∧n<(xs.n:Int)∧xs.A.isSome=true)∧∃n1:Int,w0.cell? ((gA xs.A).add (n.toNat*1))=some (.int .u16 n1)∧R n1 true w0)
theorem d3_.calls (q:O_) (nexus:Int) (w:World) (R:Int→Bool→W_) (h:d3_ q nexus w R):fP_ q nexus w R:=
 ac_ (ai_ af_) ay_ Tryz.func44 [] [.i .u16,.b] [.pointer q,.int .i64 nexus] w R (Eq.mp (show d3_ q nexus w R=vcF Tryz.prog G Tryz.f44 [] [.i .u16,.b] [.pointer q,.int .i64 nexus] w R by kernel_rfl) h)
def d4_ (q:O_) (nexus:Int) (w:World) (R:Int→Bool→W_):Prop:=
 dl_ q nexus w fun n w0=>Br (decide (n<0)) (R 0 false w0) (q.isSome=true∧(0≤nexus∧nexus<(8:Int))∧∃xs:Sl,w0.cell? (((gA q).add 0).add (nexus.toNat*1))=some (.slice xs.A xs.n xs.c)∧(0≤n∧n<(xs.n:Int)∧xs.A.isSome=true)∧∃n1:Int,w0.cell? ((gA xs.A).add (n.toNat*1))=some (.int .u16 n1)∧∀w01,w01=w0.drew→(0≤(0:Int)∧(0:Int)≤n∧n≤(xs.c:Int)∧xs.n≤xs.c)∧(0≤(IntKind.wrap .i64 (n+1))∧(IntKind.wrap .i64 (n+1))≤(xs.n:Int)∧(xs.n:Int)≤(xs.c:Int)∧xs.n≤xs.c)∧q.isSome=true∧an_ Tryz.prog .sl (Builtin.append_ #[196,196] 196 #[.slice none 0 0,.slice (aM_ xs.A xs.c 0 1) (n.toNat-0) (xs.c-0)]) w01 fun xs1 w02=>an_ Tryz.prog .sl (Builtin.append_ #[196,196] 196 #[.slice xs1.A xs1.n xs1.c,.slice (aM_ xs.A xs.c (IntKind.wrap .i64 (n+1)).toNat 1) (((xs.n:Int)).toNat-(IntKind.wrap .i64 (n+1)).toNat) (xs.c-(IntKind.wrap .i64 (n+1)).toNat)]) w02 fun xs2 w03=>(0≤nexus∧nexus<(8:Int))∧Put (((gA q).add 0).add (nexus.toNat*1)) (.slice xs2.A xs2.n xs2.c) w03 fun w04=>R n1 true w04)
theorem d4_.calls (q:O_) (nexus:Int) (w:World) (R:Int→Bool→W_) (h:d4_ q nexus w R):dS_ q nexus w R:=
 ac_ (ai_ af_) ay_ Tryz.func45 [] [.i .u16,.b] [.pointer q,.int .i64 nexus] w R (Eq.mp (show d4_ q nexus w R=vcF Tryz.prog G Tryz.f45 [] [.i .u16,.b] [.pointer q,.int .i64 nexus] w R by kernel_rfl) h)
def dt_ (t:O_) (nexus:Int) (c:Int) (w:World) (R:Bool→W_):Prop:=
 ((!((t).isNone))=true→t.isSome=true)∧∃n:Int,((!((t).isNone))=true→w.cell? ((gA t).add 2)=some (.int .u8 n))∧bB_ (fun(b:Bool) (w0:World)=>Br (((((t).isNone)||(n==0))||(c==0))||b) (R false w0) (cF_ t nexus w0 fun n1 b1 w01=>t.isSome=true∧∃n2:Int,w01.cell? ((gA t).add 2)=some (.int .u8 n2)∧Br (n2==1) (R (c != 1) w01) (Br (n2==3) (R true w01) (Br (n2==5) (Br (n2==5) (R ((c != 1)&&(!b1)) w01) (R (!b1) w01)) (Br (n2==7) (R ((c != 1)&&(!b1)) w01) (R (!b1) w01)))))) fun J_=>((!((((t).isNone)||(n==0))||(c==0)))=true→dm_ t nexus w J_)∧((!((((t).isNone)||(n==0))||(c==0)))=false→J_ (Kd.dflt .b) w)
theorem dt_.calls (t:O_) (nexus:Int) (c:Int) (w:World) (R:Bool→W_) (h:dt_ t nexus c w R):cw_ t nexus c w R:=
 ac_ (ai_ af_) ay_ Tryz.func46 [] [.b] [.pointer t,.int .i64 nexus,.int .u8 c] w R (Eq.mp (show dt_ t nexus c w R=vcF Tryz.prog G Tryz.f46 [] [.b] [.pointer t,.int .i64 nexus,.int .u8 c] w R by kernel_rfl) h)
def e7_ (m:O_) (w:World) (R:(A_)→W_):Prop:=
 New (.cells #[.bool false,.bool false,.bool false] 142) w fun a w0=>Br ((m).isNone) (ah_ Tryz.prog (storeVar 142 a (.agg #[.bool false,.bool false,.bool false])) w0 fun w01=>∃res:A_,(loadVar 142 a).run Tryz.prog w01=.ok (.agg res) w01∧R res w01) (m.isSome=true∧∃g:A_,(loadVar 142 ((gA m).add 0)).run Tryz.prog w0=.ok (.agg g) w0∧ah_ Tryz.prog (storeVar 142 a (.agg g)) w0 fun w02=>∃res1:A_,(loadVar 142 a).run Tryz.prog w02=.ok (.agg res1) w02∧R res1 w02)
theorem e7_.calls (m:O_) (w:World) (R:(A_)→W_) (h:e7_ m w R):bm_ m w R:=
 ac_ (ai_ af_) ay_ Tryz.func47 [] [.ag] [.pointer m] w R (Eq.mp (show e7_ m w R=vcF Tryz.prog G Tryz.f47 [] [.ag] [.pointer m] w R by kernel_rfl) h)
def el_ (u:O_) (nexus:Int) (c:A_) (out:Sl) (w:World) (R:(A_)→W_):Prop:=
 New (.cells c 135) w fun c1 w0=>New (.cells #[.int .u8 0,.int .u8 0,.int .u16 0,.int .u64 0,.bool false,.int .i64 0,.int .i64 0,.bool false,.bool false,.slice none 0 0] 35) w0 fun a w01=>∃n:Int,w01.cell? (c1.add 0)=some (.int .u8 n)∧Br (n==1) (ah_ Tryz.prog (storeVar 35 a (.agg #[.int .u8 0,.int .u8 0,.int .u16 0,.int .u64 0,.bool false,.int .i64 0,.int .i64 0,.bool false,.bool false,.slice none 0 0])) w01 fun w02=>∃res:A_,(loadVar 35 a).run Tryz.prog w02=.ok (.agg res) w02∧R res w02) (Br (n==2) (New (.cells #[.int .u8 0,.int .u16 0,.int .u64 0,.bool false,.int .i64 0,.int .i64 0,.bool false,.bool false] 32) w01 fun s w03=>ah_ Tryz.prog (storeVar 32 s (.agg #[.int .u8 0,.int .u16 0,.int .u64 0,.bool false,.int .i64 0,.int .i64 0,.bool false,.bool false])) w03 fun w04=>u.isSome=true∧∃p:O_,w04.cell? ((gA u).add 9)=some (.pointer p)∧dS_ p nexus w04 fun n1 b w05=>aR_ (fun(w06:World)=>∃g:A_,(loadVar 32 s).run Tryz.prog w06=.ok (.agg g) w06∧iI_ g w06 fun xs n2 w07=>∃b1:Bool,w07.cell? (c1.add 1)=some (.bool b1)∧aR_ (fun(p1:Sl) (w08:World)=>∃n3:Int,w08.cell? (c1.add 4)=some (.int .i64 n3)∧cG_ p1 n3 w08 fun xs1 w09=>ah_ Tryz.prog (storeVar 35 a (.agg #[.int .u8 0,.int .u8 0,.int .u16 0,.int .u64 0,.bool false,.int .i64 0,.int .i64 0,.bool false,.bool false,.slice xs1.A xs1.n xs1.c])) w09 fun w010=>∃res1:A_,(loadVar 35 a).run Tryz.prog w010=.ok (.agg res1) w010∧R res1 w010) fun J_=>Br b1 (∃g1:A_,(loadVar 32 s).run Tryz.prog w07=.ok (.agg g1) w07∧gs_ g1 w07 fun xs2 n4 w011=>J_ xs2 w011) (J_ xs w07)) fun J_1=>Br b (ah_ Tryz.prog (storeVar 32 s (.agg #[.int .u8 6,.int .u16 n1,.int .u64 0,.bool false,.int .i64 0,.int .i64 0,.bool false,.bool false])) w05 fun w012=>J_1 w012) (J_1 w05)) (Br (n==3) (u.isSome=true∧∃g2:A_,(loadVar 81 ((gA u).add 0)).run Tryz.prog w01=.ok (.agg g2) w01∧k1_ g2 w01 fun xs3 w013=>∃b2:Bool,w013.cell? (c1.add 8)=some (.bool b2)∧aR_ (fun(p2:Sl) (ok:Bool) (w014:World)=>Br (!ok) (cT_ 2 7 w014 fun g3 w015=>aS_ g3 w015 fun g4 w016=>ah_ Tryz.prog (storeVar 35 a (.agg g4)) w016 fun w017=>∃res2:A_,(loadVar 35 a).run Tryz.prog w017=.ok (.agg res2) w017∧R res2 w017) (∃n5:Int,w014.cell? (c1.add 4)=some (.int .i64 n5)∧cG_ p2 n5 w014 fun xs4 w018=>ah_ Tryz.prog (storeVar 35 a (.agg #[.int .u8 0,.int .u8 0,.int .u16 0,.int .u64 0,.bool false,.int .i64 0,.int .i64 0,.bool false,.bool false,.slice xs4.A xs4.n xs4.c])) w018 fun w019=>∃res3:A_,(loadVar 35 a).run Tryz.prog w019=.ok (.agg res3) w019∧R res3 w019)) fun J_2=>Br b2 (∀w020,w020=w013.drew→∃S:W_,S w020∧u.isSome=true∧∃g5:A_,(∀u1,S u1→(loadVar 81 ((gA u).add 0)).run Tryz.prog u1=.ok (.agg g5) u1)∧∃n6:Int,(∀u2,S u2→u2.cell? (c1.add 9)=some (.int .u8 n6))∧ok_ g5 n6 w020 fun xs5 b3 w021=>J_2 xs5 b3 w021) (J_2 xs3 true w013)) (Br (n==17) (∀w022,w022=w01.drew→∃S1:W_,S1 w022∧∃n7:Int,(∀u3,S1 u3→u3.cell? (c1.add 4)=some (.int .i64 n7))∧an_ Tryz.prog .sl (Instr.buildSlice 73 1 #[(0,.int .i64 0)]) w022 fun xs6 w023=>S1 w023∧ol_ xs6 w023 fun xs7 w024=>S1 w024∧cG_ xs7 n7 w024 fun xs8 w025=>S1 w025∧∃S2:W_,S2 w025∧(∀u4,S2 u4→S1 u4)∧ah_ Tryz.prog (storeVar 35 a (.agg #[.int .u8 0,.int .u8 0,.int .u16 0,.int .u64 0,.bool false,.int .i64 0,.int .i64 0,.bool false,.bool false,.slice xs8.A xs8.n xs8.c])) w025 fun w026=>∃res4:A_,(loadVar 35 a).run Tryz.prog w026=.ok (.agg res4) w026∧R res4 w026) (Br (n==5) (∀w027,w027=w01.drew→∃S3:W_,S3 w027∧u.isSome=true∧∃p3:O_,(∀u5,S3 u5→u5.cell? ((gA u).add 7)=some (.pointer p3))∧∃g6:A_,(∀u6,S3 u6→(loadVar 135 c1).run Tryz.prog u6=.ok (.agg g6) u6)∧(cJ_ p3 g6 w027 fun xs9 g7 b4 w028=>New (.cells #[.int .u8 0,.int .u16 0,.int .u64 0,.bool false,.int .i64 0,.int .i64 0,.bool false,.bool false] 32) w028 fun s1 w029=>S3 w029∧ah_ Tryz.prog (storeVar 32 s1 (.agg g7)) w029 fun w030=>Br (!b4) (∃g8:A_,(loadVar 32 s1).run Tryz.prog w030=.ok (.agg g8) w030∧aS_ g8 w030 fun g9 w031=>ah_ Tryz.prog (storeVar 35 a (.agg g9)) w031 fun w032=>∃res5:A_,(loadVar 35 a).run Tryz.prog w032=.ok (.agg res5) w032∧R res5 w032) (∃n8:Int,w030.cell? (c1.add 4)=some (.int .i64 n8)∧cG_ xs9 n8 w030 fun xs10 w033=>ah_ Tryz.prog (storeVar 35 a (.agg #[.int .u8 0,.int .u8 0,.int .u16 0,.int .u64 0,.bool false,.int .i64 0,.int .i64 0,.bool false,.bool false,.slice xs10.A xs10.n xs10.c])) w033 fun w034=>∃res6:A_,(loadVar 35 a).run Tryz.prog w034=.ok (.agg res6) w034∧R res6 w034))∧New (.cells #[.int .u8 0,.int .u16 0,.int .u64 0,.bool false,.int .i64 0,.int .i64 0,.bool false,.bool false] 32) w027 fun s2 w035=>S3 w035∧cJ_ p3 g6 w035 fun xs11 g10 b5 w036=>ah_ Tryz.prog (storeVar 32 s2 (.agg g10)) w036 fun w037=>Br (!b5) (∃g11:A_,(loadVar 32 s2).run Tryz.prog w037=.ok (.agg g11) w037∧aS_ g11 w037 fun g12 w038=>ah_ Tryz.prog (storeVar 35 a (.agg g12)) w038 fun w039=>∃res7:A_,(loadVar 35 a).run Tryz.prog w039=.ok (.agg res7) w039∧R res7 w039) (∃n9:Int,w037.cell? (c1.add 4)=some (.int .i64 n9)∧cG_ xs11 n9 w037 fun xs12 w040=>ah_ Tryz.prog (storeVar 35 a (.agg #[.int .u8 0,.int .u8 0,.int .u16 0,.int .u64 0,.bool false,.int .i64 0,.int .i64 0,.bool false,.bool false,.slice xs12.A xs12.n xs12.c])) w040 fun w041=>∃res8:A_,(loadVar 35 a).run Tryz.prog w041=.ok (.agg res8) w041∧R res8 w041)) (Br (n==4) (∃g13:A_,(loadVar 135 c1).run Tryz.prog w01=.ok (.agg g13) w01∧ei_ u nexus g13 out w01 fun g14 w042=>ah_ Tryz.prog (storeVar 35 a (.agg g14)) w042 fun w043=>∃res9:A_,(loadVar 35 a).run Tryz.prog w043=.ok (.agg res9) w043∧R res9 w043) (Br (n==15) (∀w044,w044=w01.drew→∃S4:W_,S4 w044∧∃n10:Int,(∀u7,S4 u7→u7.cell? (c1.add 12)=some (.int .u8 n10))∧∃n11:Int,(∀u8,S4 u8→u8.cell? (c1.add 4)=some (.int .i64 n11))∧k2_ u n10 w044 fun xs13 w045=>S4 w045∧cG_ xs13 n11 w045 fun xs14 w046=>S4 w046∧∃S5:W_,S5 w046∧(∀u9,S5 u9→S4 u9)∧ah_ Tryz.prog (storeVar 35 a (.agg #[.int .u8 0,.int .u8 0,.int .u16 0,.int .u64 0,.bool false,.int .i64 0,.int .i64 0,.bool false,.bool false,.slice xs14.A xs14.n xs14.c])) w046 fun w047=>∃res10:A_,(loadVar 35 a).run Tryz.prog w047=.ok (.agg res10) w047∧R res10 w047) (Br (n==16) (∃g15:A_,(loadVar 135 c1).run Tryz.prog w01=.ok (.agg g15) w01∧ej_ u nexus g15 out w01 fun g16 w048=>ah_ Tryz.prog (storeVar 35 a (.agg g16)) w048 fun w049=>∃res11:A_,(loadVar 35 a).run Tryz.prog w049=.ok (.agg res11) w049∧R res11 w049) (Br (n==18) (∃g17:A_,(loadVar 135 c1).run Tryz.prog w01=.ok (.agg g17) w01∧gN_ u nexus g17 out w01 fun g18 w050=>ah_ Tryz.prog (storeVar 35 a (.agg g18)) w050 fun w051=>∃res12:A_,(loadVar 35 a).run Tryz.prog w051=.ok (.agg res12) w051∧R res12 w051) (∀w052,w052=w01.drew→∃S6:W_,S6 w052∧u.isSome=true∧∃p4:O_,(∀u10,S6 u10→u10.cell? ((gA u).add 5)=some (.pointer p4))∧∃g19:A_,(∀u11,S6 u11→(loadVar 135 c1).run Tryz.prog u11=.ok (.agg g19) u11)∧hr_ p4 g19 out w052 fun g20 w053=>ah_ Tryz.prog (storeVar 35 a (.agg g20)) w053 fun w054=>∃res13:A_,(loadVar 35 a).run Tryz.prog w054=.ok (.agg res13) w054∧R res13 w054)))))))))
theorem el_.calls (u:O_) (nexus:Int) (c:A_) (out:Sl) (w:World) (R:(A_)→W_) (h:el_ u nexus c out w R):bj_ u nexus c out w R:=
 ac_ (ai_ af_) ay_ Tryz.func48 [(34,⟨[(12,.sl)],[6,8]⟩),(25,⟨[],[6,8,9]⟩),(49,⟨[(14,.sl),(15,.b)],[6,8]⟩)] [.ag] [.pointer u,.int .i64 nexus,.agg c,.slice out.A out.n out.c] w R (Eq.mp (show el_ u nexus c out w R=vcF Tryz.prog G Tryz.f48 [(34,⟨[(12,.sl)],[6,8]⟩),(25,⟨[],[6,8,9]⟩),(49,⟨[(14,.sl),(15,.b)],[6,8]⟩)] [.ag] [.pointer u,.int .i64 nexus,.agg c,.slice out.A out.n out.c] w R by kernel_rfl) h)
def eC_ (v:Int) (n:Int) (w:World) (R:Sl→W_):Prop:=
 an_ Tryz.prog .sl (Instr.makeSlice 33 (.int .i64 n) (.int .i64 n)) w fun xs w0=>∃(I:Int→Int→W_) (μ:Int→Int→World→Nat),I v (IntKind.wrap .i64 (n-1)) w0∧∀(v1:Int) (i:Int) (w01:World),I v1 i w01→Br (decide (i≥0)) ((0≤i∧i<(xs.n:Int)∧xs.A.isSome=true)∧Put ((gA xs.A).add (i.toNat*1)) (.int .u8 (IntKind.wrap .u8 v1)) w01 fun w02=>I (bK_ .u64 v1 8) (IntKind.wrap .i64 (i-1)) w02∧μ (bK_ .u64 v1 8) (IntKind.wrap .i64 (i-1)) w02<μ v1 i w01) (R xs w01)
theorem eC_.calls (v:Int) (n:Int) (w:World) (R:Sl→W_) (h:eC_ v n w R):c2_ v n w R:=
 ac_ (ai_ af_) ay_ Tryz.func49 [(9,⟨[(0,.i .u64),(6,.i .i64)],[5]⟩)] [.sl] [.int .u64 v,.int .i64 n] w R (Eq.mp (show eC_ v n w R=vcF Tryz.prog G Tryz.f49 [(9,⟨[(0,.i .u64),(6,.i .i64)],[5]⟩)] [.sl] [.int .u64 v,.int .i64 n] w R by kernel_rfl) h)
open Go CF
set_option linter.unusedVariables false
set_option maxRecDepth 100000
def du_ (t:O_) (w:World) (R:Int→Int→W_):Prop:=
 ((!((t).isNone))=true→t.isSome=true)∧∃n:Int,((!((t).isNone))=true→w.cell? ((gA t).add 2)=some (.int .u8 n))∧Br (((t).isNone)||(n==0)) (R 0 (-1) w) (t.isSome=true∧∃n1:Int,w.cell? ((gA t).add 2)=some (.int .u8 n1)∧eT_ n1 w fun b w0=>Br b (t.isSome=true∧∃n2:Int,w0.cell? ((gA t).add 2)=some (.int .u8 n2)∧R n2 (-1) w0) (∀w01,w01=w0.drew→∃S:W_,S w01∧t.isSome=true∧∃n3:Int,(∀u,S u→u.cell? ((gA t).add 2)=some (.int .u8 n3))∧t.isSome=true∧∃n4:Int,(∀u1,S u1→u1.cell? ((gA t).add 3)=some (.int .i64 n4))∧R n3 n4 w01))
theorem du_.calls (t:O_) (w:World) (R:Int→Int→W_) (h:du_ t w R):dj_ t w R:=
 ac_ (ai_ af_) ay_ Tryz.func57 [] [.i .u8,.i .i64] [.pointer t] w R (Eq.mp (show du_ t w R=vcF Tryz.prog G Tryz.f57 [] [.i .u8,.i .i64] [.pointer t] w R by kernel_rfl) h)
def fE_ (t:O_) (w:World) (R:Sl→W_):Prop:=
 Br ((t).isNone) (R (⟨none,0,0⟩:Sl) w) (t.isSome=true∧∃xs:Sl,w.cell? ((gA t).add 0)=some (.slice xs.A xs.n xs.c)∧an_ Tryz.prog .sl (Builtin.append_ #[67,67] 67 #[.slice none 0 0,.slice xs.A xs.n xs.c]) w fun xs1 w0=>R xs1 w0)
theorem fE_.calls (t:O_) (w:World) (R:Sl→W_) (h:fE_ t w R):ha_ t w R:=
 ac_ (ai_ af_) ay_ Tryz.func58 [] [.sl] [.pointer t] w R (Eq.mp (show fE_ t w R=vcF Tryz.prog G Tryz.f58 [] [.sl] [.pointer t] w R by kernel_rfl) h)
def eP_ (o:O_) (f:Value) (w:World) (R:W_):Prop:=
 o.isSome=true∧fW_ (some ((gA o).add 0)) w fun b w0=>Br (!b) (l9_ o f w0 fun w02=>R w02) (R w0)
theorem eP_.calls (o:O_) (f:Value) (w:World) (R:W_) (h:eP_ o f w R):f6_ o f w R:=
 ac_ (ai_ af_) ay_ Tryz.func60 [] [] [.pointer o,f] w R (Eq.mp (show eP_ o f w R=vcF Tryz.prog G Tryz.f60 [] [] [.pointer o,f] w R by kernel_rfl) h)
def cx_ (fv:Addr) (w:World) (R:W_):Prop:=
 ∀w0,w0=w.drew→∃S:W_,S w0∧∃p:O_,(∀u,S u→u.cell? fv=some (.pointer p))∧∃p1:O_,(∀u1,S u1→u1.cell? fv=some (.pointer p1))∧dk_ p1 w0 fun n w01=>S w01∧p.isSome=true∧Put ((gA p).add 14) (.int .i64 n) w01 fun w02=>R w02
theorem cx_.calls (fv:Addr) (w:World) (R:W_) (h:cx_ fv w R):hU_ fv w R:=
 ac_ (ai_ af_) ay_ Tryz.func61 [] [] [.pointer (some fv)] w R (Eq.mp (show cx_ fv w R=vcF Tryz.prog G Tryz.f61 [] [] [.pointer (some fv)] w R by kernel_rfl) h)
def dv_ (u:O_) (w:World) (R:Int→W_):Prop:=
 ∃(I:Int→W_) (μ:Int→World→Nat),I 0 w∧∀(x:Int) (w0:World),I x w0→Br (decide (x<8)) (u.isSome=true∧∃p:O_,w0.cell? ((gA u).add 9)=some (.pointer p)∧c4_ p x 10496 w0 fun w01=>I (IntKind.wrap .i64 (x+1)) w01∧μ (IntKind.wrap .i64 (x+1)) w01<μ x w0) (u.isSome=true∧∃p1:O_,w0.cell? ((gA u).add 6)=some (.pointer p1)∧cK_ p1 w0 fun xs n n1 w02=>Br (n1==8) (R 0 w02) (Br (n1 != 0) (R n1 w02) (((!((xs.n:Int)==0))=true→(0≤(0:Int)∧(0:Int)<(xs.n:Int)∧xs.A.isSome=true))∧∃n2:Int,((!((xs.n:Int)==0))=true→w02.cell? ((gA xs.A).add ((0:Int).toNat*1))=some (.int .u8 n2))∧Br (((xs.n:Int)==0)||(decide (n2>7))) (R 3 w02) ((0≤(1:Int)∧(1:Int)≤(xs.n:Int)∧(xs.n:Int)≤(xs.c:Int)∧xs.n≤xs.c)∧mF_ ⟨(aM_ xs.A xs.c 1 1),(((xs.n:Int)).toNat-1),(xs.c-1)⟩ w02 fun p2 n3 w03=>Br (n3 != 0) (R n3 w03) ((0≤(0:Int)∧(0:Int)<(xs.n:Int)∧xs.A.isSome=true)∧∃n4:Int,w03.cell? ((gA xs.A).add ((0:Int).toNat*1))=some (.int .u8 n4)∧iJ_ n4 w03 fun g w04=>gD_ g w04 fun p3 w05=>u.isSome=true∧Put ((gA u).add 8) (.pointer p2) w05 fun w06=>u.isSome=true∧Put ((gA u).add 7) (.pointer p3) w06 fun w07=>∀w08,w08=w07.drew→∃S:W_,S w08∧u.isSome=true∧∃p4:O_,(∀u1,S u1→u1.cell? ((gA u).add 5)=some (.pointer p4))∧p4.isSome=true∧∃p5:O_,(∀u2,S u2→u2.cell? ((gA p4).add 0)=some (.pointer p5))∧u.isSome=true∧∃p6:O_,(∀u3,S u3→u3.cell? ((gA u).add 7)=some (.pointer p6))∧bm_ p6 w08 fun g1 w09=>S w09∧∃S1:W_,S1 w09∧(∀u4,S1 u4→S u4)∧∃b:Bool,(∀u5,S1 u5→g1[0]?=some (.bool b))∧bD_ p5 b w09 fun w010=>R 0 w010)))))
theorem dv_.calls (u:O_) (w:World) (R:Int→W_) (h:dv_ u w R):dk_ u w R:=
 ac_ (ai_ af_) ay_ Tryz.func62 [(6,⟨[(8,.i .i64)],[0]⟩)] [.i .i64] [.pointer u] w R (Eq.mp (show dv_ u w R=vcF Tryz.prog G Tryz.f62 [(6,⟨[(8,.i .i64)],[0]⟩)] [.i .i64] [.pointer u] w R by kernel_rfl) h)
def je_ (i:A_) (w:World) (R:Bool→W_):Prop:=
 New (.cells i 81) w fun i1 w0=>∃s:ByteArray,w0.cell? (i1.add 0)=some (.string s)∧gE_ s 0 8 w0 fun b w01=>∃s1:ByteArray,(b=true→w01.cell? (i1.add 1)=some (.string s1))∧bB_ (fun(b1:Bool) (w02:World)=>∃s2:ByteArray,((b&&b1)=true→w02.cell? (i1.add 2)=some (.string s2))∧bB_ (fun(b2:Bool) (w03:World)=>∃s3:ByteArray,(((b&&b1)&&b2)=true→w03.cell? (i1.add 3)=some (.string s3))∧bB_ (fun(b3:Bool) (w04:World)=>∃n:Int,((((b&&b1)&&b2)&&b3)=true→w04.cell? (i1.add 4)=some (.int .u8 n))∧R ((((b&&b1)&&b2)&&b3)&&(decide (n≤3))) w04) fun J_=>(((b&&b1)&&b2)=true→gE_ s3 1 20 w03 J_)∧(((b&&b1)&&b2)=false→J_ (Kd.dflt .b) w03)) fun J_1=>((b&&b1)=true→gE_ s2 0 4 w02 J_1)∧((b&&b1)=false→J_1 (Kd.dflt .b) w02)) fun J_2=>(b=true→gE_ s1 0 16 w01 J_2)∧(b=false→J_2 (Kd.dflt .b) w01)
theorem je_.calls (i:A_) (w:World) (R:Bool→W_) (h:je_ i w R):lh_ i w R:=
 ac_ (ai_ af_) ay_ Tryz.func63 [] [.b] [.agg i] w R (Eq.mp (show je_ i w R=vcF Tryz.prog G Tryz.f63 [] [.b] [.agg i] w R by kernel_rfl) h)
def hv_ (w_:O_) (file:ByteArray) (blocks:Int) (cache:Bool) (w:World) (R:(O_)→Int→W_):Prop:=
 Br ((((decide ((file.size:Int)<1))||(decide ((file.size:Int)>32)))||(decide (blocks<1)))||(decide (blocks>4096))) (R none 1 w) (Br ((w_).isNone) (R none 8 w) (New (.cells #[.pointer w_,.string file,.int .i64 blocks,.bool cache] 245) w fun a w0=>R (some a) 0 w0))
theorem hv_.calls (w_:O_) (file:ByteArray) (blocks:Int) (cache:Bool) (w:World) (R:(O_)→Int→W_) (h:hv_ w_ file blocks cache w R):jA_ w_ file blocks cache w R:=
 ac_ (ai_ af_) ay_ Tryz.func64 [] [.p,.i .i64] [.pointer w_,.string file,.int .i64 blocks,.bool cache] w R (Eq.mp (show hv_ w_ file blocks cache w R=vcF Tryz.prog G Tryz.f64 [] [.p,.i .i64] [.pointer w_,.string file,.int .i64 blocks,.bool cache] w R by kernel_rfl) h)
def gc_ (w:World) (R:(A_)→W_):Prop:=
 New (.cells #[.bool false,.bool false,.bool false] 142) w fun a w0=>ah_ Tryz.prog (storeVar 142 a (.agg #[.bool true,.bool false,.bool false])) w0 fun w01=>∃res:A_,(loadVar 142 a).run Tryz.prog w01=.ok (.agg res) w01∧R res w01
theorem gc_.calls (w:World) (R:(A_)→W_) (h:gc_ w R):df_ w R:=
 ac_ (ai_ af_) ay_ Tryz.func65 [] [.ag] [] w R (Eq.mp (show gc_ w R=vcF Tryz.prog G Tryz.f65 [] [.ag] [] w R by kernel_rfl) h)
def hw_ (w_:O_) (file:ByteArray) (w:World) (R:(O_)→Int→W_):Prop:=
 Br ((decide ((file.size:Int)<1))||(decide ((file.size:Int)>30))) (R none 1 w) (Br ((w_).isNone) (R none 8 w) (New (.cells #[.pointer w_,.string file,.bool false,.int .i64 (-1),.int .u64 0] 247) w fun a w0=>R (some a) 0 w0))
theorem hw_.calls (w_:O_) (file:ByteArray) (w:World) (R:(O_)→Int→W_) (h:hw_ w_ file w R):jB_ w_ file w R:=
 ac_ (ai_ af_) ay_ Tryz.func66 [] [.p,.i .i64] [.pointer w_,.string file] w R (Eq.mp (show hw_ w_ file w R=vcF Tryz.prog G Tryz.f66 [] [.p,.i .i64] [.pointer w_,.string file] w R by kernel_rfl) h)
def jf_ (v:A_) (w:World) (R:(O_)→W_):Prop:=
 New (.cells v 142) w fun v1 w0=>∃g:A_,(loadVar 142 v1).run Tryz.prog w0=.ok (.agg g) w0∧∃g1:A_,(loadVar 142 v1).run Tryz.prog w0=.ok (.agg g1) w0∧∃g2:A_,(Instr.build 205 #[(0,.agg g),(1,.agg g1)]).run Tryz.prog w0=.ok (.agg g2) w0∧New (.cells g2 205) w0 fun a w01=>R (some a) w01
theorem jf_.calls (v:A_) (w:World) (R:(O_)→W_) (h:jf_ v w R):gD_ v w R:=
 ac_ (ai_ af_) ay_ Tryz.func67 [] [.p] [.agg v] w R (Eq.mp (show jf_ v w R=vcF Tryz.prog G Tryz.f67 [] [.p] [.agg v] w R by kernel_rfl) h)
def jY_ (w:World) (R:(O_)→W_):Prop:=
 New (.cells #[.slice none 0 0,.int .u32 0,.int .u8 0,.int .i64 (-1),.bool false] 201) w fun a w0=>R (some a) w0
theorem jY_.calls (w:World) (R:(O_)→W_) (h:jY_ w R):hb_ w R:=
 ac_ (ai_ af_) ay_ Tryz.func68 [] [.p] [] w R (Eq.mp (show jY_ w R=vcF Tryz.prog G Tryz.f68 [] [.p] [] w R by kernel_rfl) h)
def jg_ (w:World) (R:(O_)→W_):Prop:=
 New (.cells #[.slice none 0 0,.slice none 0 0,.slice none 0 0,.slice none 0 0,.slice none 0 0,.slice none 0 0,.slice none 0 0,.slice none 0 0] 199) w fun a w0=>R (some a) w0
theorem jg_.calls (w:World) (R:(O_)→W_) (h:jg_ w R):fn_ w R:=
 ac_ (ai_ af_) ay_ Tryz.func69 [] [.p] [] w R (Eq.mp (show jg_ w R=vcF Tryz.prog G Tryz.f69 [] [.p] [] w R by kernel_rfl) h)
def dc_ (q:O_) (but:Int) (code:Int) (w:World) (R:W_):Prop:=
 ∃(I:Int→W_) (μ:Int→World→Nat),I 0 w∧∀(x:Int) (w0:World),I x w0→Br (decide (x<8)) (aR_ (fun(w01:World)=>I (IntKind.wrap .i64 (x+1)) w01∧μ (IntKind.wrap .i64 (x+1)) w01<μ x w0) fun J_=>Br (x != but) (c4_ q x code w0 fun w03=>J_ w03) (J_ w0)) (R w0)
theorem dc_.calls (q:O_) (but:Int) (code:Int) (w:World) (R:W_) (h:dc_ q but code w R):co_ q but code w R:=
 ac_ (ai_ af_) ay_ Tryz.func71 [(3,⟨[(7,.i .i64)],[0,1,2]⟩),(5,⟨[],[0,1,2,7]⟩)] [] [.pointer q,.int .i64 but,.int .u16 code] w R (Eq.mp (show dc_ q but code w R=vcF Tryz.prog G Tryz.f71 [(3,⟨[(7,.i .i64)],[0,1,2]⟩),(5,⟨[],[0,1,2,7]⟩)] [] [.pointer q,.int .i64 but,.int .u16 code] w R by kernel_rfl) h)
def gT_ (files:Option Nat) (c:A_) (most:Int) (w:World) (R:W_):Prop:=
 New (.cells c 173) w fun c1 w0=>∃n:Int,w0.cell? (c1.add 0)=some (.int .u8 n)∧Br (n==119) (∃xs:Sl,w0.cell? (c1.add 4)=some (.slice xs.A xs.n xs.c)∧∃xs1:Sl,w0.cell? (c1.add 4)=some (.slice xs1.A xs1.n xs1.c)∧(0≤(0:Int)∧(0:Int)≤(mn most (xs1.n:Int))∧(mn most (xs1.n:Int))≤(xs.c:Int)∧xs.n≤xs.c)∧∃s:ByteArray,w0.cell? (c1.add 1)=some (.string s)∧∃xs2:Sl,(Instr.lookup 106 (.map files) (.string s) false).run Tryz.prog w0=.ok (.slice xs2.A xs2.n xs2.c) w0∧an_ Tryz.prog .sl (Builtin.append_ #[33,33] 33 #[.slice none 0 0,.slice xs2.A xs2.n xs2.c]) w0 fun xs3 w03=>∃(I:Sl→W_) (μ:Sl→World→Nat),I xs3 w03∧∀(f:Sl) (w04:World),I f w04→∃n1:Int,w04.cell? (c1.add 3)=some (.int .i64 n1)∧Br (decide ((f.n:Int)<(IntKind.wrap .i64 (n1+((((mn most (xs1.n:Int)).toNat-0):Nat):Int))))) (an_ Tryz.prog .sl (Instr.buildSlice 33 1 #[(0,.int .u8 0)]) w04 fun xs4 w05=>an_ Tryz.prog .sl (Builtin.append_ #[33,33] 33 #[.slice f.A f.n f.c,.slice xs4.A xs4.n xs4.c]) w05 fun xs5 w06=>I xs5 w06∧μ xs5 w06<μ f w04) (∃n2:Int,w04.cell? (c1.add 3)=some (.int .i64 n2)∧(0≤n2∧n2≤(f.n:Int)∧(f.n:Int)≤(f.c:Int)∧f.n≤f.c)∧an_ Tryz.prog (.i .i64) (Builtin.copy_ #[33,33] 3 #[.slice (aM_ f.A f.c n2.toNat 1) (((f.n:Int)).toNat-n2.toNat) (f.c-n2.toNat),.slice (aM_ xs.A xs.c 0 1) ((mn most (xs1.n:Int)).toNat-0) (xs.c-0)]) w04 fun n3 w07=>∃s1:ByteArray,w07.cell? (c1.add 1)=some (.string s1)∧ah_ Tryz.prog (Instr.mapUpdate 106 (.map files) (.string s1) (.slice f.A f.n f.c)) w07 fun w08=>R w08)) (Br (n==110) (∃s2:ByteArray,w0.cell? (c1.add 1)=some (.string s2)∧∃r:Sl×Bool,(Instr.lookup 106 (.map files) (.string s2) true).run Tryz.prog w0=.ok (.tuple #[.slice r.1.A r.1.n r.1.c,.bool r.2]) w0∧∃s3:ByteArray,w0.cell? (c1.add 1)=some (.string s3)∧an_ Tryz.prog .v (Builtin.delete_ #[106,9] 0 #[.map files,.string s3]) w0 fun v_ w010=>Br r.2 (∃s4:ByteArray,w010.cell? (c1.add 2)=some (.string s4)∧ah_ Tryz.prog (Instr.mapUpdate 106 (.map files) (.string s4) (.slice r.1.A r.1.n r.1.c)) w010 fun w012=>R w012) (R w010)) (Br (n==114) (∃s5:ByteArray,w0.cell? (c1.add 1)=some (.string s5)∧an_ Tryz.prog .v (Builtin.delete_ #[106,9] 0 #[.map files,.string s5]) w0 fun v_1 w014=>R w014) (R w0)))
theorem gT_.calls (files:Option Nat) (c:A_) (most:Int) (w:World) (R:W_) (h:gT_ files c most w R):c3_ files c most w R:=
 ac_ (ai_ af_) ay_ Tryz.func72 [(15,⟨[(7,.sl)],[0,4,6]⟩)] [] [.map files,.agg c,.int .i64 most] w R (Eq.mp (show gT_ files c most w R=vcF Tryz.prog G Tryz.f72 [(15,⟨[(7,.sl)],[0,4,6]⟩)] [] [.map files,.agg c,.int .i64 most] w R by kernel_rfl) h)
def lS_ (p:Sl) (at_:Int) (n:Int) (w:World) (R:Int→Int→W_):Prop:=
 i9_ p at_ n w fun n1 w0=>Br (n1 != 0) (R 0 n1 w0) ((0≤at_∧at_≤(IntKind.wrap .i64 (at_+n))∧(IntKind.wrap .i64 (at_+n))≤(p.c:Int)∧p.n≤p.c)∧∃(I:Int→Int→W_) (μ:Int→Int→World→Nat),I 0 0 w0∧∀(v:Int) (x:Int) (w01:World),I v x w01→Br (decide (x<((((IntKind.wrap .i64 (at_+n)).toNat-at_.toNat):Nat):Int))) ((0≤x∧x<((((IntKind.wrap .i64 (at_+n)).toNat-at_.toNat):Nat):Int)∧(aM_ p.A p.c at_.toNat 1).isSome=true)∧∃n2:Int,w01.cell? ((gA (aM_ p.A p.c at_.toNat 1)).add (x.toNat*1))=some (.int .u8 n2)∧I (bOr .u64 (cl_ .u64 v 8) (IntKind.wrap .u64 n2)) (IntKind.wrap .i64 (x+1)) w01∧μ (bOr .u64 (cl_ .u64 v 8) (IntKind.wrap .u64 n2)) (IntKind.wrap .i64 (x+1)) w01<μ v x w01) (R v 0 w01))
theorem lS_.calls (p:Sl) (at_:Int) (n:Int) (w:World) (R:Int→Int→W_) (h:lS_ p at_ n w R):fB_ p at_ n w R:=
 ac_ (ai_ af_) ay_ Tryz.func76 [(18,⟨[(9,.i .u64),(26,.i .i64)],[24,25]⟩)] [.i .u64,.i .i64] [.slice p.A p.n p.c,.int .i64 at_,.int .i64 n] w R (Eq.mp (show lS_ p at_ n w R=vcF Tryz.prog G Tryz.f76 [(18,⟨[(9,.i .u64),(26,.i .i64)],[24,25]⟩)] [.i .u64,.i .i64] [.slice p.A p.n p.c,.int .i64 at_,.int .i64 n] w R by kernel_rfl) h)
def il_ (field:Int) (bit:Int) (w:World) (R:(A_)→W_):Prop:=
 New (.cells #[.int .u8 0,.int .u16 0,.int .u64 0,.bool false,.int .i64 0,.int .i64 0,.bool false,.bool false] 32) w fun a w0=>ah_ Tryz.prog (storeVar 32 a (.agg #[.int .u8 5,.int .u16 9216,.int .u64 0,.bool false,.int .i64 field,.int .i64 bit,.bool true,.bool true])) w0 fun w01=>∃res:A_,(loadVar 32 a).run Tryz.prog w01=.ok (.agg res) w01∧R res w01
theorem il_.calls (field:Int) (bit:Int) (w:World) (R:(A_)→W_) (h:il_ field bit w R):cT_ field bit w R:=
 ac_ (ai_ af_) ay_ Tryz.func81 [] [.ag] [.int .i64 field,.int .i64 bit] w R (Eq.mp (show il_ field bit w R=vcF Tryz.prog G Tryz.f81 [] [.ag] [.int .i64 field,.int .i64 bit] w R by kernel_rfl) h)
def im_ (op:Int) (service:Int) (w:World) (R:Sl→Bool→W_):Prop:=
 an_ Tryz.prog .sl (Instr.buildSlice 33 12 #[(0,.int .u8 255),(1,.int .u8 255),(2,.int .u8 255),(3,.int .u8 255),(4,.int .u8 255),(5,.int .u8 255),(6,.int .u8 255),(7,.int .u8 255),(8,.int .u8 255),(9,.int .u8 255),(10,.int .u8 255),(11,.int .u8 255)]) w fun xs w0=>Br (op==0) (an_ Tryz.prog .sl (Instr.buildSlice 33 6 #[(0,.int .u8 op),(1,.int .u8 0),(2,.int .u8 0),(3,.int .u8 0),(4,.int .u8 0),(5,.int .u8 0)]) w0 fun xs1 w03=>R xs1 true w03) (Br (op==3) (an_ Tryz.prog .sl (Instr.buildSlice 33 6 #[(0,.int .u8 op),(1,.int .u8 1),(2,.int .u8 0),(3,.int .u8 0),(4,.int .u8 255),(5,.int .u8 0)]) w0 fun xs2 w05=>R xs2 true w05) (aR_ (fun(x:Bool) (w06:World)=>Br x (an_ Tryz.prog .sl (Instr.buildSlice 33 6 #[(0,.int .u8 op),(1,.int .u8 31),(2,.int .u8 255),(3,.int .u8 255),(4,.int .u8 255),(5,.int .u8 0)]) w06 fun xs3 w08=>R xs3 true w08) (Br (op==18) (an_ Tryz.prog .sl (Instr.buildSlice 33 6 #[(0,.int .u8 op),(1,.int .u8 1),(2,.int .u8 255),(3,.int .u8 255),(4,.int .u8 255),(5,.int .u8 0)]) w06 fun xs4 w010=>R xs4 true w010) (Br (op==21) (an_ Tryz.prog .sl (Instr.buildSlice 33 6 #[(0,.int .u8 op),(1,.int .u8 17),(2,.int .u8 0),(3,.int .u8 0),(4,.int .u8 255),(5,.int .u8 0)]) w06 fun xs5 w012=>R xs5 true w012) (Br (op==26) (an_ Tryz.prog .sl (Instr.buildSlice 33 6 #[(0,.int .u8 op),(1,.int .u8 8),(2,.int .u8 255),(3,.int .u8 0),(4,.int .u8 255),(5,.int .u8 0)]) w06 fun xs6 w014=>R xs6 true w014) (Br (op==37) (an_ Tryz.prog .sl (Instr.buildSlice 33 10 #[(0,.int .u8 op),(1,.int .u8 0),(2,.int .u8 0),(3,.int .u8 0),(4,.int .u8 0),(5,.int .u8 0),(6,.int .u8 0),(7,.int .u8 0),(8,.int .u8 0),(9,.int .u8 0)]) w06 fun xs7 w016=>R xs7 true w016) (aR_ (fun(x1:Bool) (w017:World)=>Br x1 (an_ Tryz.prog .sl (Instr.buildSlice 33 10 #[(0,.int .u8 op),(1,.int .u8 248),(2,.int .u8 255),(3,.int .u8 255),(4,.int .u8 255),(5,.int .u8 255),(6,.int .u8 0),(7,.int .u8 255),(8,.int .u8 255),(9,.int .u8 0)]) w017 fun xs8 w019=>R xs8 true w019) (Br (op==46) (an_ Tryz.prog .sl (Instr.buildSlice 33 10 #[(0,.int .u8 op),(1,.int .u8 240),(2,.int .u8 255),(3,.int .u8 255),(4,.int .u8 255),(5,.int .u8 255),(6,.int .u8 0),(7,.int .u8 255),(8,.int .u8 255),(9,.int .u8 0)]) w017 fun xs9 w021=>R xs9 true w021) (Br (op==47) (an_ Tryz.prog .sl (Instr.buildSlice 33 10 #[(0,.int .u8 op),(1,.int .u8 242),(2,.int .u8 255),(3,.int .u8 255),(4,.int .u8 255),(5,.int .u8 255),(6,.int .u8 0),(7,.int .u8 255),(8,.int .u8 255),(9,.int .u8 0)]) w017 fun xs10 w023=>R xs10 true w023) (Br (op==53) (an_ Tryz.prog .sl (Instr.buildSlice 33 10 #[(0,.int .u8 op),(1,.int .u8 0),(2,.int .u8 255),(3,.int .u8 255),(4,.int .u8 255),(5,.int .u8 255),(6,.int .u8 0),(7,.int .u8 255),(8,.int .u8 255),(9,.int .u8 0)]) w017 fun xs11 w025=>R xs11 true w025) (Br (op==65) (an_ Tryz.prog .sl (Instr.buildSlice 33 10 #[(0,.int .u8 op),(1,.int .u8 232),(2,.int .u8 255),(3,.int .u8 255),(4,.int .u8 255),(5,.int .u8 255),(6,.int .u8 0),(7,.int .u8 255),(8,.int .u8 255),(9,.int .u8 0)]) w017 fun xs12 w027=>R xs12 true w027) (Br (op==66) (an_ Tryz.prog .sl (Instr.buildSlice 33 10 #[(0,.int .u8 op),(1,.int .u8 0),(2,.int .u8 0),(3,.int .u8 0),(4,.int .u8 0),(5,.int .u8 0),(6,.int .u8 0),(7,.int .u8 255),(8,.int .u8 255),(9,.int .u8 0)]) w017 fun xs13 w029=>R xs13 true w029) (Br (op==85) (an_ Tryz.prog .sl (Instr.buildSlice 33 10 #[(0,.int .u8 op),(1,.int .u8 17),(2,.int .u8 0),(3,.int .u8 0),(4,.int .u8 0),(5,.int .u8 0),(6,.int .u8 0),(7,.int .u8 255),(8,.int .u8 255),(9,.int .u8 0)]) w017 fun xs14 w031=>R xs14 true w031) (Br (op==90) (an_ Tryz.prog .sl (Instr.buildSlice 33 10 #[(0,.int .u8 op),(1,.int .u8 8),(2,.int .u8 255),(3,.int .u8 0),(4,.int .u8 0),(5,.int .u8 0),(6,.int .u8 0),(7,.int .u8 255),(8,.int .u8 255),(9,.int .u8 0)]) w017 fun xs15 w033=>R xs15 true w033) (Br (op==94) (an_ Tryz.prog .sl (Instr.buildSlice 33 10 #[(0,.int .u8 op),(1,.int .u8 31),(2,.int .u8 0),(3,.int .u8 0),(4,.int .u8 0),(5,.int .u8 0),(6,.int .u8 0),(7,.int .u8 255),(8,.int .u8 255),(9,.int .u8 0)]) w017 fun xs16 w035=>R xs16 (decide (service≤3)) w035) (Br (op==95) (an_ Tryz.prog .sl (Instr.buildSlice 33 10 #[(0,.int .u8 op),(1,.int .u8 31),(2,.int .u8 15),(3,.int .u8 0),(4,.int .u8 0),(5,.int .u8 255),(6,.int .u8 255),(7,.int .u8 255),(8,.int .u8 255),(9,.int .u8 0)]) w017 fun xs17 w037=>R xs17 (decide (service≤6)) w037) (Br (op==131) (an_ Tryz.prog .sl (Instr.buildSlice 33 10 #[(0,.int .u8 op),(1,.int .u8 31),(2,.int .u8 0),(3,.int .u8 0),(4,.int .u8 0),(5,.int .u8 0),(6,.int .u8 0),(7,.int .u8 0),(8,.int .u8 0),(9,.int .u8 0)]) w017 fun xs18 w039=>(0≤(0:Int)∧(0:Int)≤(4:Int)∧(4:Int)≤(xs.c:Int)∧xs.n≤xs.c)∧an_ Tryz.prog .sl (Builtin.append_ #[33,33] 33 #[.slice xs18.A xs18.n xs18.c,.slice (aM_ xs.A xs.c 0 1) (4-0) (xs.c-0)]) w039 fun xs19 w040=>an_ Tryz.prog .sl (Instr.buildSlice 33 2 #[(0,.int .u8 0),(1,.int .u8 0)]) w040 fun xs20 w041=>an_ Tryz.prog .sl (Builtin.append_ #[33,33] 33 #[.slice xs19.A xs19.n xs19.c,.slice xs20.A xs20.n xs20.c]) w041 fun xs21 w042=>R xs21 (service==0) w042) (aR_ (fun(x2:Bool) (w043:World)=>Br x2 (an_ Tryz.prog .sl (Instr.buildSlice 33 2 #[(0,.int .u8 op),(1,.int .u8 248)]) w043 fun xs22 w044=>an_ Tryz.prog .sl (Builtin.append_ #[33,33] 33 #[.slice xs22.A xs22.n xs22.c,.slice xs.A xs.n xs.c]) w044 fun xs23 w045=>an_ Tryz.prog .sl (Instr.buildSlice 33 2 #[(0,.int .u8 0),(1,.int .u8 0)]) w045 fun xs24 w046=>an_ Tryz.prog .sl (Builtin.append_ #[33,33] 33 #[.slice xs23.A xs23.n xs23.c,.slice xs24.A xs24.n xs24.c]) w046 fun xs25 w047=>R xs25 true w047) (Br (op==137) (an_ Tryz.prog .sl (Instr.buildSlice 33 2 #[(0,.int .u8 op),(1,.int .u8 248)]) w043 fun xs26 w048=>(0≤(0:Int)∧(0:Int)≤(8:Int)∧(8:Int)≤(xs.c:Int)∧xs.n≤xs.c)∧an_ Tryz.prog .sl (Builtin.append_ #[33,33] 33 #[.slice xs26.A xs26.n xs26.c,.slice (aM_ xs.A xs.c 0 1) (8-0) (xs.c-0)]) w048 fun xs27 w049=>an_ Tryz.prog .sl (Instr.buildSlice 33 6 #[(0,.int .u8 0),(1,.int .u8 0),(2,.int .u8 0),(3,.int .u8 255),(4,.int .u8 0),(5,.int .u8 0)]) w049 fun xs28 w050=>an_ Tryz.prog .sl (Builtin.append_ #[33,33] 33 #[.slice xs27.A xs27.n xs27.c,.slice xs28.A xs28.n xs28.c]) w050 fun xs29 w051=>R xs29 true w051) (Br (op==145) (an_ Tryz.prog .sl (Instr.buildSlice 33 2 #[(0,.int .u8 op),(1,.int .u8 0)]) w043 fun xs30 w052=>an_ Tryz.prog .sl (Builtin.append_ #[33,33] 33 #[.slice xs30.A xs30.n xs30.c,.slice xs.A xs.n xs.c]) w052 fun xs31 w053=>an_ Tryz.prog .sl (Instr.buildSlice 33 2 #[(0,.int .u8 0),(1,.int .u8 0)]) w053 fun xs32 w054=>an_ Tryz.prog .sl (Builtin.append_ #[33,33] 33 #[.slice xs31.A xs31.n xs31.c,.slice xs32.A xs32.n xs32.c]) w054 fun xs33 w055=>R xs33 true w055) (Br (op==147) (an_ Tryz.prog .sl (Instr.buildSlice 33 2 #[(0,.int .u8 op),(1,.int .u8 232)]) w043 fun xs34 w056=>an_ Tryz.prog .sl (Builtin.append_ #[33,33] 33 #[.slice xs34.A xs34.n xs34.c,.slice xs.A xs.n xs.c]) w056 fun xs35 w057=>an_ Tryz.prog .sl (Instr.buildSlice 33 2 #[(0,.int .u8 0),(1,.int .u8 0)]) w057 fun xs36 w058=>an_ Tryz.prog .sl (Builtin.append_ #[33,33] 33 #[.slice xs35.A xs35.n xs35.c,.slice xs36.A xs36.n xs36.c]) w058 fun xs37 w059=>R xs37 true w059) (Br (op==158) (an_ Tryz.prog .sl (Instr.buildSlice 33 10 #[(0,.int .u8 op),(1,.int .u8 31),(2,.int .u8 0),(3,.int .u8 0),(4,.int .u8 0),(5,.int .u8 0),(6,.int .u8 0),(7,.int .u8 0),(8,.int .u8 0),(9,.int .u8 0)]) w043 fun xs38 w060=>(0≤(0:Int)∧(0:Int)≤(4:Int)∧(4:Int)≤(xs.c:Int)∧xs.n≤xs.c)∧an_ Tryz.prog .sl (Builtin.append_ #[33,33] 33 #[.slice xs38.A xs38.n xs38.c,.slice (aM_ xs.A xs.c 0 1) (4-0) (xs.c-0)]) w060 fun xs39 w061=>an_ Tryz.prog .sl (Instr.buildSlice 33 2 #[(0,.int .u8 0),(1,.int .u8 0)]) w061 fun xs40 w062=>an_ Tryz.prog .sl (Builtin.append_ #[33,33] 33 #[.slice xs39.A xs39.n xs39.c,.slice xs40.A xs40.n xs40.c]) w062 fun xs41 w063=>R xs41 (service==16) w063) (Br (op==160) (an_ Tryz.prog .sl (Instr.buildSlice 33 12 #[(0,.int .u8 op),(1,.int .u8 0),(2,.int .u8 3),(3,.int .u8 0),(4,.int .u8 0),(5,.int .u8 0),(6,.int .u8 255),(7,.int .u8 255),(8,.int .u8 255),(9,.int .u8 255),(10,.int .u8 0),(11,.int .u8 0)]) w043 fun xs42 w064=>R xs42 true w064) (R (⟨none,0,0⟩:Sl) false w043))))))) fun J_=>Br (op==136) (J_ (op==136) w017) (J_ (op==138) w017))))))))))))) fun J_1=>Br (op==40) (J_1 (op==40) w06) (J_1 (op==42) w06))))))) fun J_2=>Br (op==8) (J_2 (op==8) w0) (J_2 (op==10) w0)))
theorem im_.calls (op:Int) (service:Int) (w:World) (R:Sl→Bool→W_) (h:im_ op service w R):km_ op service w R:=
 ac_ (ai_ af_) ay_ Tryz.func82 [(127,⟨[(94,.b)],[0,1,6,8]⟩),(58,⟨[(38,.b)],[0,1,6,8]⟩),(25,⟨[(17,.b)],[0,1,6,8]⟩)] [.sl,.b] [.int .u8 op,.int .u8 service] w R (Eq.mp (show im_ op service w R=vcF Tryz.prog G Tryz.f82 [(127,⟨[(94,.b)],[0,1,6,8]⟩),(58,⟨[(38,.b)],[0,1,6,8]⟩),(25,⟨[(17,.b)],[0,1,6,8]⟩)] [.sl,.b] [.int .u8 op,.int .u8 service] w R by kernel_rfl) h)
def lT_ (p:Sl) (mask:Sl) (w:World) (R:Int→Int→W_):Prop:=
 ∃(I:Int→W_) (μ:Int→World→Nat),I 0 w∧∀(x:Int) (w0:World),I x w0→Br (decide (x<(p.n:Int))) (aR_ (fun(w01:World)=>I (IntKind.wrap .i64 (x+1)) w01∧μ (IntKind.wrap .i64 (x+1)) w01<μ x w0) fun J_=>(0≤x∧x<(p.n:Int)∧p.A.isSome=true)∧∃n:Int,w0.cell? ((gA p.A).add (x.toNat*1))=some (.int .u8 n)∧aR_ (fun(b:Int) (w02:World)=>∃(I1:Int→W_) (μ1:Int→World→Nat),I1 7 w02∧∀(bit:Int) (w03:World),I1 bit w03→Br (decide (bit≥0)) ((0≤bit)∧Br ((bz_ .u8 (bK_ .u8 b bit.toNat) 1)==1) (R x bit w03) (I1 (IntKind.wrap .i64 (bit-1)) w03∧μ1 (IntKind.wrap .i64 (bit-1)) w03<μ1 bit w03)) (J_ w03)) fun J_1=>Br (decide (x<(mask.n:Int))) ((0≤x∧x<(mask.n:Int)∧mask.A.isSome=true)∧∃n1:Int,w0.cell? ((gA mask.A).add (x.toNat*1))=some (.int .u8 n1)∧J_1 (px_ .u8 n n1) w0) (J_1 n w0)) (R (-1) (-1) w0)
theorem lT_.calls (p:Sl) (mask:Sl) (w:World) (R:Int→Int→W_) (h:lT_ p mask w R):lQ_ p mask w R:=
 ac_ (ai_ af_) ay_ Tryz.func83 [(6,⟨[(11,.i .i64)],[1,9,10]⟩),(5,⟨[],[1,9,10,11]⟩),(21,⟨[(8,.i .i64)],[1,6,7,9,10,11]⟩),(16,⟨[(7,.i .u8)],[1,6,9,10,11]⟩)] [.i .i64,.i .i64] [.slice p.A p.n p.c,.slice mask.A mask.n mask.c] w R (Eq.mp (show lT_ p mask w R=vcF Tryz.prog G Tryz.f83 [(6,⟨[(11,.i .i64)],[1,9,10]⟩),(5,⟨[],[1,9,10,11]⟩),(21,⟨[(8,.i .i64)],[1,6,7,9,10,11]⟩),(16,⟨[(7,.i .u8)],[1,6,9,10,11]⟩)] [.i .i64,.i .i64] [.slice p.A p.n p.c,.slice mask.A mask.n mask.c] w R by kernel_rfl) h)
def jh_ (op:Int) (w:World) (R:Int→W_):Prop:=
 Br (op==0) (R 1 w) (Br (op==3) (R 2 w) (Br (op==18) (R 3 w) (aR_ (fun(x:Bool) (w04:World)=>Br x (R 4 w04) (aR_ (fun(x1:Bool) (w06:World)=>Br x1 (R 5 w06) (aR_ (fun(x2:Bool) (w08:World)=>Br x2 (R 6 w08) (aR_ (fun(x3:Bool) (w010:World)=>Br x3 (R 7 w010) (aR_ (fun(x4:Bool) (w012:World)=>Br x4 (R 8 w012) (Br (op==46) (R 9 w012) (Br (op==47) (R 10 w012) (aR_ (fun(x5:Bool) (w016:World)=>Br x5 (R 11 w016) (aR_ (fun(x6:Bool) (w018:World)=>Br x6 (R 12 w018) (Br (op==66) (R 13 w018) (Br (op==137) (R 14 w018) (Br (op==94) (R 15 w018) (Br (op==95) (R 16 w018) (Br (op==160) (R 17 w018) (Br (op==131) (R 18 w018) (R 0 w018)))))))) fun J_=>Br (op==65) (J_ (op==65) w016) (J_ (op==147) w016))) fun J_1=>Br (op==53) (J_1 (op==53) w012) (J_1 (op==145) w012))))) fun J_2=>Br (op==10) (J_2 (op==10) w010) (Br (op==42) (J_2 (op==42) w010) (J_2 (op==138) w010)))) fun J_3=>Br (op==8) (J_3 (op==8) w08) (Br (op==40) (J_3 (op==40) w08) (J_3 (op==136) w08)))) fun J_4=>Br (op==37) (J_4 (op==37) w06) (J_4 (op==158) w06))) fun J_5=>Br (op==26) (J_5 (op==26) w04) (J_5 (op==90) w04))) fun J_6=>Br (op==21) (J_6 (op==21) w) (J_6 (op==85) w))))
theorem jh_.calls (op:Int) (w:World) (R:Int→W_) (h:jh_ op w R):li_ op w R:=
 ac_ (ai_ af_) ay_ Tryz.func84 [(100,⟨[(34,.b)],[3]⟩),(91,⟨[(31,.b)],[3]⟩),(67,⟨[(23,.b)],[3]⟩),(55,⟨[(19,.b)],[3]⟩),(46,⟨[(16,.b)],[3]⟩),(37,⟨[(13,.b)],[3]⟩),(28,⟨[(10,.b)],[3]⟩)] [.i .u8] [.int .u8 op] w R (Eq.mp (show jh_ op w R=vcF Tryz.prog G Tryz.f84 [(100,⟨[(34,.b)],[3]⟩),(91,⟨[(31,.b)],[3]⟩),(67,⟨[(23,.b)],[3]⟩),(55,⟨[(19,.b)],[3]⟩),(46,⟨[(16,.b)],[3]⟩),(37,⟨[(13,.b)],[3]⟩),(28,⟨[(10,.b)],[3]⟩)] [.i .u8] [.int .u8 op] w R by kernel_rfl) h)
end Go.Proofs.YtpmebahhjgkflaaGreatDoor
