import Derived.Tactics
import Derived.Tactics2
import Derived.Defers
import Derived.Laws.Pointers
import Derived.Laws.LoneSync
import Derived.RegionTactic
import Derived.RegionCalls
import Derived.ChangeAlike
import Derived.Laws.NewBlocks
import Derived.Test.YtpmebahhjgkflaaGreatDoorB5
set_option maxHeartbeats 20000000
namespace Go.Proofs.YtpmebahhjgkflaaGreatDoor
open Go CF
set_option maxRecDepth 100000
structure a5_ where
 regs:List (Nat×Nat)
 gen:Nat
 kind:Nat
 holder:Int
 lasts:Bool
def rgc (r:Nat×Nat):List Value:=[.int .i64 (r.1:Int),.int .u64 (r.2:Int)]
theorem tb_ (r:Nat×Nat):(rgc r).length=2:=rfl
def rgv (l:List (Nat×Nat)):List Value:=l.flatMap rgc
def bU_ (s:Sl) (t:a5_):A_:=#[.slice s.A s.n s.c,.int .u32 (t.gen:Int),.int .u8 (t.kind:Int),.int .i64 t.holder,.bool t.lasts]
structure eY_ (t:a5_):Prop where
 few:t.regs.length≤8
 sorted:t.regs.Pairwise fun a b=>a.1<b.1
 regs:∀r∈t.regs,r.1<8∧0<r.2∧r.2<18446744073709551616
 gen:t.gen<4294967296
 kind:t.kind<256
 holder : -1≤t.holder∧t.holder<8
structure IsT (w:World) (N:Nat→Prop) (tb:Nat) (t:a5_):Prop where
 rep:∃s:Sl,Blk w tb (bU_ s t) bY_∧RdN w N aJ_ 2 s (rgv t.regs)
 ok:eY_ t
def t0:a5_:=⟨[],0,0,-1,false⟩
def allK (k:Nat):Bool:=k==7||k==8
def fe_ (k:Nat):Bool:=k==1||k==3||(Nat.ble 5 k&&Nat.ble k 8)
def eZ_ (t:a5_) (n:Nat):Option Nat:=(t.regs.find? fun r=>r.1==n).map (·.2)
def dv_ (t:a5_) (n:Nat):Bool:=if t.kind=0 then false else if allK t.kind then(eZ_ t n).isSome else decide (t.holder=n)
def a4_ (t:a5_) (n c:Nat):Bool:=
 if t.kind=0∨c=0∨dv_ t n=true then false
 else if t.kind=1 then decide (c≠1) else if t.kind=3 then true else if t.kind=5∨t.kind=7 then decide (c≠1) && !(eZ_ t n).isSome else !(eZ_ t n).isSome
def bc_ (t:a5_):Nat×Int:=if t.kind=0 then(0,-1) else if allK t.kind then(t.kind,-1) else(t.kind,t.holder)
structure bF_ where
 wce:Bool
 ds:Bool
 swp:Bool
def vlv (v:bF_):List Value:=[.bool v.wce,.bool v.ds,.bool v.swp]
abbrev IsP (w:World) (pb:Nat) (now saved:bF_):Prop:=Blk w pb (vlv now++vlv saved).toArray jv_
def v0:bF_:=⟨true,false,false⟩
def fV_ (k:Nat):Nat:=if k=1∨k=7∨k=10∨k=5 then 1 else if k=8∨k=9∨k=12∨k=13∨k=14∨k=4∨k=11∨k=18 then 2 else 0
def fl_ (k:Nat):Bool:=decide (k=8∨k=9∨k=12∨k=13∨k=14)
section
variable {w u:World} {N N' S:Nat→Prop} {tb n:Nat} {t:a5_}
theorem IsT.step (h:IsT w N tb t) (k:ab_ S w u) (hS:bg_ w N S) (hq:¬S tb) (hN:∀b,N' b→N b∨w.heap.size≤b):IsT u N' tb t:=by
 obtain⟨⟨s,h1,h2⟩,h3⟩:=h
 exact⟨⟨s,k.heap h1 hq,h2.step (.inr (.inl rfl)) k hS hN⟩,h3⟩
theorem IsT.grow (h:IsT w N tb t) (k:ac_ w u):IsT u N tb t:=h.step k (bg_.none _ _) (fun q=>q) fun _ q=>.inl q
theorem IsT.lt (h:IsT w N tb t):tb<w.heap.size:=by obtain⟨⟨s,h1,h2⟩,h3⟩:=h;exact au_ h1
theorem vl_:eY_ t0:=⟨d_,List.Pairwise.nil,fun r hr=>(by cases hr),d_,d_,d_⟩
theorem cO_ {s:Sl} (h:Blk w tb (bU_ s t) bY_) {o:Nat} {v:Value} (e:(bU_ s t)[o]?=some v):w.cell? ((gA (some (⟨tb,0,none⟩:Addr))).add o)=some v:=by
 rw[gA,am_,h.cell,Nat.zero_add];exact e
theorem ch_ (l:List (Nat×Nat)):(rgv l).length=l.length*2:=bx_ tb_ l
theorem vm_ {s:Sl} {l:List (Nat×Nat)} (h:Rd w 2 s (rgv l)) {i:Nat} (hi:i<l.length):∃a,s.A=some a∧bS_ w (a.add (i*2)) (rgc l[i]):=by
 have hn:i<s.n:=by have:=h.len;rw[ch_] at this;omega
 obtain⟨a,ha,hc⟩:=h.elem hn d_
 refine⟨a,ha,?_⟩
 have:=g4_ tb_ (l:=l) hi
 unfold rgv at hc
 rw[this] at hc;exact hc
theorem lV_ {R:Int→Bool→W_} (h:IsT w N tb t) (hR:∀w',ac_ w w'→match eZ_ t n with|some k=>R (k:Int) true w'|none=>R 0 false w'):cZ_ (some ⟨tb,0,none⟩) (n:Int) w R:=by
 refine fd_.calls _ _ _ _ ?_
 obtain⟨⟨s,h1,h2⟩,h3⟩:=h
 have hsn:t.regs.length=s.n:=by have:=h2.rd.len;rw[ch_] at this;omega
 have hfew:=h3.few
 refine⟨rfl,s,cO_ h1 rfl,?_⟩
 refine⟨fun x v=>∃j:Nat,x=j∧j≤t.regs.length∧ac_ w v∧(t.regs.find? fun r=>r.1==n)=((t.regs.drop j).find? fun r=>r.1==n),fun x _=>s.n-x.toNat,⟨0,rfl,Nat.zero_le _,ab_.refl _ _,rfl⟩,?_⟩
 rintro x v ⟨j,rfl,hj,hg,he⟩
 refine bh_ (fun hlt=>?_) (fun hge=>?_)
 ·have hjl:j<t.regs.length:=o_
  rw[List.drop_eq_getElem_cons hjl] at he
  obtain⟨a,ha,hc⟩:=vm_ (h2.rd.grow hg) hjl
  refine⟨⟨o_,o_,by rw[ha];rfl⟩,(rgc t.regs[j]).toArray,by rw[ha,Int.toNat_natCast];exact aC_ j4_ fR_ rfl hc,?_⟩
  refine ah_ fun rb v1 hrb hb1 hg1 hs1=>ar_ (cells:=(rgc t.regs[j]).toArray) hb1 fR_ rfl rfl (by simp[rgc,Value.oneCell']) fun v2 hb2 hk2 hs2=>?_
  have hg2:ac_ v v2:=hg1.keep hk2 fun i hi q=>o_
  refine⟨(t.regs[j].1:Int),by rw[am_,hb2.cell];rfl,?_⟩
  refine aw_ (fun e=>?_) (fun e=>?_)
  ·refine⟨(t.regs[j].2:Int),by rw[am_,hb2.cell];rfl,?_⟩
   have hR:=hR v2 (hg.trans hg2)
   have e2:(t.regs[j].1==n)=true:=by rw[beq_iff_eq];omega
   have:eZ_ t n=some t.regs[j].2:=by unfold eZ_;rw[he,List.find?_cons,e2];rfl
   rw[this] at hR;exact hR
  ·have e2:(t.regs[j].1==n)=false:=by rw[beq_eq_false_iff_ne];omega
   rw[List.find?_cons,e2] at he
   rw[w64 o_ o_]
   exact⟨⟨j+1,o_,o_,hg.trans hg2,he⟩,by dsimp only;omega⟩
 ·have:j=t.regs.length:=o_
  subst this
  rw[List.drop_length] at he
  have hR:=hR v hg
  have:eZ_ t n=none:=by unfold eZ_;rw[he];rfl
  rw[this] at hR;exact hR
theorem d4_ {k:Nat} {R:Bool→W_} (h:R (allK k) w):fg_ (k:Int) w R:=by
 refine k5_.calls _ _ _ ?_
 unfold k5_
 have e:(((k:Int)==7)||((k:Int)==8))=allK k:=by unfold allK;rw[Bool.eq_iff_iff];simp only[Bool.or_eq_true,beq_iff_eq];omega
 rw[e];exact h
theorem jE_ {k:Nat} {R:Bool→W_} (h:R (fe_ k) w):g7_ (k:Int) w R:=by
 refine iz_.calls _ _ _ ?_
 unfold iz_
 have e:(((((k:Int)==1)||((k:Int)==3))||((decide ((k:Int)≥5))&&(decide ((k:Int)≤8)))))=fe_ k:=by
  unfold fe_;rw[Bool.eq_iff_iff];simp only[Bool.or_eq_true,beq_iff_eq,Bool.and_eq_true,decide_eq_true_eq,Nat.ble_eq];omega
 rw[e];exact h
theorem jF_ {R:Bool→W_} (h:IsT w N tb t) (hR:∀w',ac_ w w'→R (dv_ t n) w'):dK_ (some ⟨tb,0,none⟩) (n:Int) w R:=by
 refine fw_.calls _ _ _ _ ?_
 have hT:=h
 obtain⟨⟨s,h1,h2⟩,h3⟩:=h
 refine⟨fun _=>rfl,(t.kind:Int),fun _=>cO_ h1 rfl,?_⟩
 unfold dv_ at hR
 have e0:((some (⟨tb,0,none⟩:Addr)).isNone||((t.kind:Int)==0))=decide (t.kind=0):=by rw[Bool.eq_iff_iff];simp
 rw[e0]
 refine a6_ (fun q=>?_) (fun q=>?_)
 ·have:=hR w (ab_.refl _ _);rw[if_pos q] at this;exact this
 refine⟨rfl,(t.kind:Int),cO_ h1 rfl,d4_ ?_⟩
 cases ha:allK t.kind with
 | true=>
  refine ao_ rfl (lV_ hT fun w' g=>?_)
  have:=hR w' g
  rw[if_neg q,ha,if_pos rfl] at this
  cases hk:eZ_ t n with
  | some k=>rw[hk] at this;exact this
  | none=>rw[hk] at this;exact this
 | false=>
  refine al_ rfl ⟨rfl,t.holder,cO_ h1 rfl,?_⟩
  have:=hR w (ab_.refl _ _)
  rw[if_neg q,ha,if_neg d_] at this
  have e:(t.holder==(n:Int))=decide (t.holder=n):=rfl
  rw[e];exact this
theorem gL_ {c:Nat} {R:Bool→W_} (h:IsT w N tb t) (hR:∀w',ac_ w w'→R (a4_ t n c) w'):bv_ (some ⟨tb,0,none⟩) (n:Int) (c:Int) w R:=by
 refine dU_.calls _ _ _ _ _ ?_
 have hT:=h
 obtain⟨⟨s,h1,h2⟩,h3⟩:=h
 refine⟨fun _=>rfl,(t.kind:Int),fun _=>cO_ h1 rfl,?_⟩
 have e0:((((some (⟨tb,0,none⟩:Addr)).isNone)||((t.kind:Int)==0))||((c:Int)==0))=decide (t.kind=0∨c=0):=by rw[Bool.eq_iff_iff];simp
 rw[e0]
 refine ci_ (fun b v=>ac_ w v∧(t.kind=0∨c=0∨b=dv_ t n)) ?_ (fun J=>⟨fun q=>?_,fun q=>?_⟩)
 ·rintro b v ⟨hg,hb⟩
  have hR':=hR
  unfold a4_ at hR'
  by_cases q:t.kind=0∨c=0∨dv_ t n=true
  ·have:=hR' v hg
   rw[if_pos q] at this
   refine ao_ ?_ this
   rw[Bool.or_eq_true,decide_eq_true_eq]
   rcases q with q|q|q
   ·exact .inl (.inl q)
   ·exact .inl (.inr q)
   ·rcases hb with hb|hb|hb
    ·exact .inl (.inl hb)
    ·exact .inl (.inr hb)
    ·exact .inr (hb.trans q)
  ·have hk0:t.kind≠0:=fun r=>q (.inl r)
   have hc0:c≠0:=fun r=>q (.inr (.inl r))
   have hb':b=dv_ t n:=by rcases hb with hb|hb|hb;exact absurd hb hk0;exact absurd hb hc0;exact hb
   have hbf:b=false:=by rw[hb'];cases hh:dv_ t n with|true=>exact absurd (.inr (.inr hh)) q|false=>rfl
   refine al_ (by rw[hbf,Bool.or_false,decide_eq_false_iff_not];omega) ?_
   refine lV_ (hT.grow hg) fun v' g=>?_
   have hf:=hR' v' (hg.trans g)
   rw[if_neg q] at hf
   have h1':Blk v' tb (bU_ s t) bY_:=(hg.trans g).heap h1 (fun q=>q)
   have ec:((c:Int) != 1)=decide (c≠1):=by rw[Bool.eq_iff_iff,bne_iff_ne,decide_eq_true_eq];omega
   have fin:∀{m:Int} {b1:Bool},b1=(eZ_ t n).isSome→(some (⟨tb,0,none⟩:Addr)).isSome=true∧∃n2:Int,v'.cell? ((gA (some (⟨tb,0,none⟩:Addr))).add 2)=some (.int .u8 n2)∧Br (n2==1) (R ((c:Int) != 1) v') (Br (n2==3) (R true v') (Br (n2==5) (Br (n2==5) (R (((c:Int) != 1)&&(!b1)) v') (R (!b1) v')) (Br (n2==7) (R (((c:Int) != 1)&&(!b1)) v') (R (!b1) v')))):=fun {m b1} e=>by
    refine⟨rfl,(t.kind:Int),cO_ h1' rfl,?_⟩
    rw[e,ec]
    refine aw_ (fun k=>?_) (fun k1=>aw_ (fun k=>?_) (fun k3=>aw_ (fun k=>ao_ (by rw[beq_iff_eq];exact k) ?_) (fun k5=>aw_ (fun k=>?_) (fun k7=>?_))))
    ·rw[if_pos o_] at hf;exact hf
    ·rw[if_neg o_,if_pos o_] at hf;exact hf
    ·rw[if_neg o_,if_neg o_,if_pos o_] at hf;exact hf
    ·rw[if_neg o_,if_neg o_,if_pos o_] at hf;exact hf
    ·rw[if_neg o_,if_neg o_,if_neg o_] at hf;exact hf
   cases hk:eZ_ t n with
   | some k=>exact fin (m:=0) (by rw[hk];rfl)
   | none=>exact fin (m:=0) (by rw[hk];rfl)
 ·have q':¬(t.kind=0∨c=0):=by simpa using q
  exact jF_ hT fun v g=>J _ _ ⟨g,.inr (.inr rfl)⟩
 ·have q':t.kind=0∨c=0:=by
   rw[Bool.not_eq_false',decide_eq_true_eq] at q;exact q
  exact J _ _ ⟨ab_.refl _ _,by rcases q' with q'|q';exact .inl q';exact .inr (.inl q')⟩
theorem oP_ {R:Int→Int→W_} (h:IsT w N tb t) (hR:∀w',ac_ w w'→R ((bc_ t).1:Int) (bc_ t).2 w'):fN_ (some ⟨tb,0,none⟩) w R:=by
 refine dV_.calls _ _ _ ?_
 obtain⟨⟨s,h1,h2⟩,h3⟩:=h
 refine⟨fun _=>rfl,(t.kind:Int),fun _=>cO_ h1 rfl,?_⟩
 unfold bc_ at hR
 have e0:((some (⟨tb,0,none⟩:Addr)).isNone||((t.kind:Int)==0))=decide (t.kind=0):=by rw[Bool.eq_iff_iff];simp
 rw[e0]
 refine a6_ (fun q=>?_) (fun q=>?_)
 ·have:=hR w (ab_.refl _ _);rw[if_pos q] at this;exact this
 refine⟨rfl,(t.kind:Int),cO_ h1 rfl,d4_ ?_⟩
 cases ha:allK t.kind with
 | true=>
  refine ao_ rfl ⟨rfl,(t.kind:Int),cO_ h1 rfl,?_⟩
  have:=hR w (ab_.refl _ _);rw[if_neg q,ha,if_pos rfl] at this;exact this
 | false=>
  refine al_ rfl ?_
  rintro v rfl
  have hg:=aq_ w
  have h1':Blk w.drew tb (bU_ s t) bY_:=hg.heap h1 (fun q=>q)
  generalize w.drew=v at *
  refine⟨fun o=>o=v,rfl,rfl,(t.kind:Int),fun o e=>by rw[e];exact cO_ h1' rfl,rfl,t.holder,fun o e=>by rw[e];exact cO_ h1' rfl,?_⟩
  have:=hR v hg;rw[if_neg q,ha,if_neg d_] at this;exact this
theorem x7_ (l:List (Nat×Nat)):∀v∈rgv l,v.oneCell'=true:=fun v hv=>by
 obtain⟨r,_,hr⟩:=List.mem_flatMap.1 hv
 simp[rgc] at hr
 rcases hr with rfl|rfl<;>rfl
theorem mI_ {R:Bool→W_} (h:IsT w N tb t) (hR:R t.lasts w):ft_ (some ⟨tb,0,none⟩) w R:=by
 refine fz_.calls _ _ _ ?_
 obtain⟨⟨s,h1,h2⟩,h3⟩:=h
 exact⟨fun _=>rfl,t.lasts,fun _=>cO_ h1 rfl,by show R (true&&t.lasts) w;rw[Bool.true_and];exact hR⟩
theorem jG_ {R:A_→W_} (hR:∀w',ac_ w w'→R (vlv v0).toArray w'):e8_ w R:=by
 refine gC_.calls _ _ (ah_ fun ab w1 hab hb1 hg1 hs1=>?_)
 exact ar_ (cells:=(vlv v0).toArray) hb1 ca_ rfl rfl (by simp[vlv,Value.oneCell']) fun w2 hb2 hk2 hs2=>⟨_,aC_ e9_ ca_ rfl (ax_ hb2),hR w2 (hg1.keep hk2 fun i hi q=>o_)⟩
theorem sD_ (u:World) (a b c:Bool):(Instr.build jv_ #[(0,.agg (vlv ⟨a,b,c⟩).toArray),(1,.agg (vlv ⟨a,b,c⟩).toArray)]).run Tryz.prog u=.ok (.agg (vlv ⟨a,b,c⟩++vlv ⟨a,b,c⟩).toArray) u:=k_
theorem gM_ {v:bF_} {R:O_→W_} (hR:∀pb w',ac_ w w'→w.heap.size≤pb→IsP w' pb v v→R (some ⟨pb,0,none⟩) w'):g5_ (vlv v).toArray w R:=by
 refine j7_.calls _ _ _ (ah_ fun ab w1 hab hb1 hg1 hs1=>?_)
 have hl:(loadVar gA_ ⟨ab,0,none⟩).run Tryz.prog w1=.ok (.agg (vlv v).toArray) w1:=aC_ (cs:=vlv v) e9_ ca_ rfl (ax_ hb1)
 refine⟨_,hl,_,hl,_,sD_ _ v.wce v.ds v.swp,ah_ fun pb w2 hpb hb2 hg2 hs2=>?_⟩
 exact hR pb w2 (hg1.trans hg2) o_ hb2
theorem lW_ {pb:Nat} {now saved:bF_} {R:A_→W_} (h:IsP w pb now saved) (hR:∀w',ac_ w w'→R (vlv now).toArray w'):b4_ (some ⟨pb,0,none⟩) w R:=by
 refine fv_.calls _ _ _ (ah_ fun ab w1 hab hb1 hg1 hs1=>al_ rfl ?_)
 have hp1:Blk w1 pb (vlv now++vlv saved).toArray jv_:=hg1.heap h (fun q=>q)
 refine⟨rfl,(vlv now).toArray,aC_ e9_ ca_ rfl (fun j v hj=>?_),?_⟩
 ·rw[gA,am_,am_,hp1.cell,Nat.zero_add,List.getElem?_toArray]
  exact(List.getElem?_append_left (List.getElem?_eq_some_iff.1 hj).1).trans hj
 ·exact ar_ (cells:=(vlv now).toArray) hb1 ca_ rfl rfl (by simp[vlv,Value.oneCell']) fun w2 hb2 hk2 hs2=>⟨_,aC_ e9_ ca_ rfl (ax_ hb2),hR w2 (hg1.keep hk2 fun i hi q=>o_)⟩
end
open Go CF
def xB_ (F:bD_) (file:ByteArray):Prop:=∀i,i<2→(ee_ (ds_ F file i)).2.2≠0
theorem x8_ (F:bD_) (file:ByteArray):ldN F file 2=eL_ (eL_ (-1,0,[]) 0 (ds_ F file 0)) 1 (ds_ F file 1):=rfl
theorem qc_ {F:bD_} {file:ByteArray} (h:xB_ F file):ldN F file 2=(-1,0,[]):=by
 rw[x8_]
 have h0:=h 0 d_
 have h1:=h 1 d_
 have e:eL_ (-1,0,[]) 0 (ds_ F file 0)=(-1,0,[]):=if_neg (fun q=>h0 q.1)
 rw[e]
 exact if_neg (fun q=>h1 q.1)
theorem vn_ (file:ByteArray):xB_ (fun _=>none) file:=fun i _=>by
 show(ee_ []).2.2≠0
 decide
open Go CF
section
variable {H:Type} {enc:TypeId×Value→H} {w:World} {base:Nat} {spare:Nat→Bool} {held:Bool}
end
open Go CF
theorem oQ_ (w:World):(callFunc 288 #[]).run Tryz.prog w=.ok (.value (.tuple #[])) w:=run_call_mark0 Tryz.func288 k_ k_ k_ .disable k_ w
theorem qd_ (w:World):(callFunc 290 #[]).run Tryz.prog w=.ok (.value (.tuple #[])) w:=run_call_mark0 Tryz.func290 k_ k_ k_ .enable k_ w
theorem t1_ (a:Addr) (w:World):(callFunc 291 #[.pointer (some a)]).run Tryz.prog w=.ok (.value (.tuple #[])) w:=run_call_marked Tryz.func291 k_ k_ k_ .acquire k_ a w
theorem wI_ (a:Addr) (w:World):(callFunc 293 #[.pointer (some a)]).run Tryz.prog w=.ok (.value (.tuple #[])) w:=run_call_marked Tryz.func293 k_ k_ k_ .releaseMerge k_ a w
theorem wJ_ (a:Addr) (x:Value) (u:FrameMode) (w:World) (hc:w.cell? a=some x) (hz:w.frozen? a=false) :
  CallsD Tryz.prog 204 #[.pointer (some a),.bool true] u w fun e u' w'=>u'=u∧(e=.returned (.tuple #[])∧w'=w.drew.setCell a (.int .u32 1)):=by
 have hc':w.drew.cell? a=some x:=by go_simp
 have hz':w.drew.frozen? a=false:=by go_simp
 have hst:=run_call_store (P:=Tryz.prog) Tryz.func260 k_ k_ k_ k_ (k:=.u32) (y:=1) hc' hz'
 go_enter_d Tryz.func204,Tryz.ntmps204
 go_wp2
 go_region_calls
 all_goals (go_end0;exact⟨rfl,rfl⟩)
set_option maxRecDepth 100000 in
theorem vo_ (a:Addr) (u:FrameMode) (w:World) (hc:w.cell? a=some (.int .i32 1)) (hz:w.frozen? a=false) :
  CallsD Tryz.prog 203 #[.pointer (some a)] u w fun e u' w'=>u'=u∧(e=.returned (.tuple #[])∧w'=w.setCell a (.int .i32 0)):=by
 have hd:=oQ_
 have he:=qd_
 have hr:=wI_
 have hadd:=run_call_add (P:=Tryz.prog) Tryz.func294 k_ k_ k_ .i32 k_ (y:=-1) (s:=0) hc hz (by simp[go_sem];rfl)
 have hcv:=run_convert_to_unsafe (P:=Tryz.prog) (src:=403) (dst:=407) Tryz.underlying403 Tryz.underlying407 k_ hc
 go_enter_d Tryz.func203,Tryz.ntmps203
 go_wp2
 go_end0
 go_wp2
 go_end0
 exact⟨rfl,rfl⟩
set_option maxRecDepth 100000 in
theorem x9_ (a:Addr) (w:World) (hc:w.cell? a=some (.int .i32 0)) (hz:w.frozen? a=false) :
  Calls Tryz.prog 202 #[.pointer (some a)] w fun e w'=>e=.returned (.tuple #[])∧w'=w.setCell a (.int .i32 1):=by
 have hd:=oQ_
 have he:=qd_
 have ha:=t1_
 have hcas:=run_call_cas_hit (P:=Tryz.prog) Tryz.func289 k_ k_ k_ .i32 k_ (y:=1) hc hz
 have hc':(w.setCell a (.int .i32 1)).cell? a=some (.int .i32 1):=World.cell?_setCell_same w a _ hc
 have hcv:=run_convert_to_unsafe (P:=Tryz.prog) (src:=403) (dst:=407) Tryz.underlying403 Tryz.underlying407 k_ hc'
 go_enter Tryz.func202,Tryz.ntmps202
 go_wp2
 first|go_end0|(simp only[Exit.inBlock,Exit.then];refine bodyPost_ret (results_none rfl _ _ _) rfl ?_)|refine bodyPost_ret (results_none rfl _ _ _) rfl ?_
 go_wp2
 go_end0
 exact⟨rfl,rfl⟩
theorem tc_ (a:Addr) (d:Int) (w:World) (h:w.cell? a=some (.int .u32 d)):Calls Tryz.prog 121 #[.pointer (some a)] w fun e w'=>e=.returned (.bool (d != 0))∧w'=w:=by
 have hl:=run_call_load (P:=Tryz.prog) Tryz.func201 k_ k_ k_ .u32 k_ h
 go_enter Tryz.func121,Tryz.ntmps121
 go_wp2
 go_ret
 exact⟨rfl,rfl⟩
theorem wK_ (a:Addr) (d y s:Int) (w:World) (h:w.cell? a=some (.int .i64 d)) (hz:w.frozen? a=false) (hs:IntKind.wrap .i64 (d+y)=s):Calls Tryz.prog 42 #[.pointer (some a),.int .i64 y] w fun e w'=>e=.returned (.int .i64 s)∧w'=w.setCell a (.int .i64 s):=by
 have hadd:=run_call_add (P:=Tryz.prog) Tryz.func80 k_ k_ k_ .i64 k_ (y:=y) (s:=s) h hz (by rw[←hs];simp[go_sem])
 go_enter Tryz.func42,Tryz.ntmps42
 go_wp2
 go_ret
 exact⟨rfl,rfl⟩
set_option maxRecDepth 100000 in
theorem ya_ (b off:Nat) (pl:Addr) (w:World) (Q:W_)
  (h0:w.cell? ⟨b,off,none⟩=some (.int .u32 0)) (h1:w.cell? ⟨b,off+1,none⟩=some (.int .i32 0)) (f1:w.frozen? ⟨b,off+1,none⟩=false)
  (hf:Calls Tryz.prog 61 #[.pointer (some pl)] (w.setCell ⟨b,off+1,none⟩ (.int .i32 1)) fun e w'=>e=.returned (.tuple #[])∧Q w')
  (hq:∀w',Q w'→w'.cell? ⟨b,off,none⟩=some (.int .u32 0)∧w'.cell? ⟨b,off+1,none⟩=some (.int .i32 1)∧w'.frozen? ⟨b,off,none⟩=false∧w'.frozen? ⟨b,off+1,none⟩=false) :
  Calls Tryz.prog 122 #[.pointer (some ⟨b,off,none⟩),.func (.func 61) #[] #[.pointer (some pl)]] w fun e w'=>e=.returned (.tuple #[])∧
   ∃v,Q v∧w'=(v.drew.setCell ⟨b,off,none⟩ (.int .u32 1)).setCell ⟨b,off+1,none⟩ (.int .i32 0):=by
 have hl:=tc_ ⟨b,off,none⟩ 0 (w.setCell ⟨b,off+1,none⟩ (.int .i32 1)) ((World.cell?_setCell_other _ ⟨b,off+1,none⟩ ⟨b,off,none⟩ _ (by simp)).trans h0)
 have hnot:∀(x:Bool) (w:World),(Op.unary .not (.bool x)).run Tryz.prog w=.ok (.bool (!x)) w:=fun _ _=>rfl
 go_enter_defers Tryz.func122,Tryz.ntmps122
 go_wp2_with (go_at_call 202;refine(x9_ ⟨b,off+1,none⟩ _ (by go_simp) (by go_simp)).mono ?_;rintro e w' ⟨rfl,rfl⟩)
 go_wp2_with (go_at_call 121;refine hl.mono ?_;rintro e w' ⟨rfl,rfl⟩)
 go_wp2_with (go_at_call 61;refine hf.mono ?_;rintro e w' ⟨rfl,hv⟩)
 obtain⟨v0,v1,z0,z1⟩:=hq _ hv
 go_wp2
 refine leaves_cons (f:=204) (args:=#[.pointer (some ⟨b,off,none⟩),.bool true]) (by simp) (by simp[go_sem]) ?_
 refine(wJ_ ⟨b,off,none⟩ (.int .u32 0) .returning _ v0 z0).mono ?_
 rintro e u' w'' ⟨rfl,rfl,rfl⟩
 refine leaves_cons (f:=203) (args:=#[.pointer (some ⟨b,off+1,none⟩)]) (by simp[settle]) (by simp[go_sem]) ?_
 refine(vo_ ⟨b,off+1,none⟩ _ _ ?_ (by simp[z1])).mono ?_
 ·refine(World.cell?_setCell_other _ ⟨b,off,none⟩ ⟨b,off+1,none⟩ _ (by simp)).trans ?_
  rw[World.cell?_drew]
  exact v1
 rintro e u' w'' ⟨rfl,rfl,rfl⟩
 simp[Leaves,settle,results,Tryz.results122]
 exact⟨_,hv,rfl⟩
open Go CF
theorem oR_ {b o:Nat} {cs:A_} {t:TypeId} {n y s:Int} {w:World} {R:Int→W_} (hb:Blk w b cs t) (h:cs[o]?=some (.int .i64 n)) (hs:IntKind.wrap .i64 (n+y)=s)
  (hR:∀w1,Blk w1 b (cs.setIfInBounds o (.int .i64 s)) t→ab_ (fun k=>k=b) w w1→w1.heap.size=w.heap.size→R s w1):go_ (some ⟨b,o,none⟩) y w R:=by
 refine(wK_ ⟨b,o,none⟩ n y s w (by rw[hb.cell];exact h) (hb.free o) hs).mono ?_
 rintro e w' ⟨rfl,rfl⟩
 exact⟨s,rfl,hR _ (hb.set o _) (fI_ w ⟨b,o,none⟩ _) (by simp)⟩
theorem ld_ {b o:Nat} {cs:A_} {t:TypeId} {d:Int} {w:World} {R:Bool→W_} (hb:Blk w b cs t) (h:cs[o]?=some (.int .u32 d)) (hR:R (d != 0) w):gp_ (some ⟨b,o,none⟩) w R:=by
 refine(tc_ ⟨b,o,none⟩ d w (by rw[hb.cell];exact h)).mono ?_
 rintro e w' ⟨rfl,rfl⟩
 exact⟨_,rfl,hR⟩
theorem vp_ {b o:Nat} {cs:A_} {t:TypeId} {f:Value} {w:World} {R:W_} (hb:Blk w b cs t) (h:cs[o]?=some (.int .u32 1)) (hR:R w):gw_ (some ⟨b,o,none⟩) f w R:=by
 refine fc_.calls _ _ _ _ ⟨rfl,?_⟩
 rw[show(gA (some (⟨b,o,none⟩:Addr))).add 0=⟨b,o,none⟩ from rfl]
 exact ld_ hb h (al_ rfl hR)
theorem oS_ {b o:Nat} {cs:A_} {t:TypeId} {pl:Addr} {w:World} {R:W_} (hb:Blk w b cs t) (h0:cs[o]?=some (.int .u32 0)) (h1:cs[o+1]?=some (.int .i32 0))
  (hf:∀w1,Blk w1 b (cs.setIfInBounds (o+1) (.int .i32 1)) t→ab_ (fun k=>k=b) w w1→w1.heap.size=w.heap.size→iv_ pl w1 fun w2=>∃cs2:A_,Blk w2 b cs2 t∧cs2[o]?=some (.int .u32 0)∧cs2[o+1]?=some (.int .i32 1)∧
   ∀w3,Blk w3 b ((cs2.setIfInBounds o (.int .u32 1)).setIfInBounds (o+1) (.int .i32 0)) t→ab_ (fun k=>k=b) w2 w3→w3.heap.size=w2.heap.size→R w3) :
  gw_ (some ⟨b,o,none⟩) (.func (.func 61) #[] #[.pointer (some pl)]) w R:=by
 refine fc_.calls _ _ _ _ ⟨rfl,?_⟩
 rw[show(gA (some (⟨b,o,none⟩:Addr))).add 0=⟨b,o,none⟩ from rfl]
 refine ld_ hb h0 (ao_ rfl ?_)
 have hf':=hf _ (hb.set (o+1) _) (fI_ w ⟨b,o+1,none⟩ _) (by simp)
 refine(ya_ b o pl w (fun w2=>∃cs2:A_,Blk w2 b cs2 t∧cs2[o]?=some (.int .u32 0)∧cs2[o+1]?=some (.int .i32 1)∧
   ∀w3,Blk w3 b ((cs2.setIfInBounds o (.int .u32 1)).setIfInBounds (o+1) (.int .i32 0)) t→ab_ (fun k=>k=b) w2 w3→w3.heap.size=w2.heap.size→R w3) (by rw[hb.cell];exact h0) (by rw[hb.cell];exact h1) (hb.free _) hf' ?_).mono ?_
 ·rintro w2 ⟨cs2,b2,c0,c1,_⟩
  exact⟨by rw[b2.cell];exact c0,by rw[b2.cell];exact c1,b2.free _,b2.free _⟩
 ·rintro e w' ⟨rfl,v,⟨cs2,b2,c0,c1,hk⟩,rfl⟩
  refine⟨rfl,hk _ ?_ ?_ (by simp)⟩
  ·have hd:Blk v.drew b cs2 t:=(aq_ v).heap b2 (fun q=>q)
   exact(hd.set o _).set (o+1) _
  ·have k1:=fI_ v.drew ⟨b,o,none⟩ (.int .u32 1)
   have k2:=fI_ (v.drew.setCell ⟨b,o,none⟩ (.int .u32 1)) ⟨b,o+1,none⟩ (.int .i32 0)
   exact(((aq_ v).mono fun _ _ q=>q.elim).trans k1 fun _ _ q=>q).trans k2 fun _ _ q=>q
open Go CF
structure e0_ where
 v:ByteArray
 p:ByteArray
 r:ByteArray
 s:ByteArray
 prot:Nat
def e1_ (i:e0_):List Value:=[.string i.v,.string i.p,.string i.r,.string i.s,.int .u8 (i.prot:Int)]
structure USt where
 inf:e0_
 file:ByteArray
 keepf:ByteArray
 n:Nat
 cache:Bool
 sure:Bool
 at_:Int
 gen:Nat
 now:bF_
 saved:bF_
 tab:a5_
 q:Nat→List Nat
 peers:List Nat
 on:Nat
 lock:Nat
 fault:Nat
 count:Nat
structure UA where
 ub:Nat
 dv:Nat
 ps:Nat
 sl:Nat
 pg:Nat
 tb:Nat
 qb:Nat
def UA.set (a:UA) (k:Nat):Prop:=k=a.ub∨k=a.dv∨k=a.ps∨k=a.sl∨k=a.pg∨k=a.tb∨k=a.qb
def ptr (b:Nat):Value:=.pointer (some ⟨b,0,none⟩)
def dc_ (a:UA) (P:Sl) (s:USt):A_:=#[.string s.inf.v,.string s.inf.p,.string s.inf.r,.string s.inf.s,.int .u8 (s.inf.prot:Int),ptr a.dv,ptr a.sl,ptr a.pg,ptr a.tb,ptr a.qb,.slice P.A P.n P.c,.int .u32 (s.on:Int),.int .i32 (s.lock:Int),.int .u32 0,.int .i64 (s.fault:Int),.int .i64 (s.count:Int)]
structure IsU (w:World) (N:Nat→Prop) (pw:Nat) (a:UA) (s:USt):Prop where
 unit:∃P:Sl,Blk w a.ub (dc_ a P s) bo_∧RdN w N aI_ 1 P (s.peers.map ptr)
 dev:Blk w a.dv (cU_ a.ps s.inf.prot) bO_
 store:IsS w a.ps pw s.file s.n s.cache
 slots:b1_ w a.sl pw s.keepf s.sure s.at_ s.gen
 pages:IsP w a.pg s.now s.saved
 tab:IsT w N a.tb s.tab
 q:IsQ w N a.qb s.q
section
variable {w u v:World} {N N' S:Nat→Prop} {pw i:Nat} {a a':UA} {s s':USt} {st st':Wst} {F:Int→Bool} {ℓ ℓ' ℓ'':Nat→Option Nat} {us:List (UA×USt)}
theorem IsU.step (h:IsU w N pw a s) (k:ab_ S w u) (hS:bg_ w N S) (hq:∀b,a.set b→¬S b) (hN:∀b,N' b→N b∨w.heap.size≤b):IsU u N' pw a s:=by
 obtain⟨P,h1,h2⟩:=h.unit
 refine⟨⟨P,k.heap h1 (hq _ (.inl rfl)),h2.step (.inr (.inr rfl)) k hS hN⟩,k.heap h.dev (hq _ (.inr (.inl rfl))),k.heap h.store (hq _ (.inr (.inr (.inl rfl)))),k.heap h.slots (hq _ (.inr (.inr (.inr (.inl rfl))))),k.heap h.pages (hq _ (.inr (.inr (.inr (.inr (.inl rfl)))))),
  h.tab.step k hS (hq _ (.inr (.inr (.inr (.inr (.inr (.inl rfl))))))) hN,h.q.step k hS (hq _ (.inr (.inr (.inr (.inr (.inr (.inr rfl))))))) hN⟩
theorem IsU.grow (h:IsU w N pw a s) (k:ac_ w u):IsU u N pw a s:=h.step k (bg_.none _ _) (fun _ _ q=>q) fun _ q=>.inl q
theorem IsU.typed (h:IsU w N pw a s) {b:Nat} (hb:a.set b):∃cs t,Blk w b cs t∧t≠ae_:=by
 obtain⟨P,h1,h2⟩:=h.unit
 obtain⟨⟨T,t1,_⟩,_⟩:=h.tab
 obtain⟨⟨ss,_,q1,_⟩,_⟩:=h.q
 rcases hb with rfl|rfl|rfl|rfl|rfl|rfl|rfl
 ·exact⟨_,_,h1,d_⟩
 ·exact⟨_,_,h.dev,d_⟩
 ·exact⟨_,_,h.store,d_⟩
 ·exact⟨_,_,h.slots,d_⟩
 ·exact⟨_,_,h.pages,d_⟩
 ·exact⟨_,_,t1,d_⟩
 ·exact⟨_,_,q1,d_⟩
theorem IsU.noBytes (h:IsU w N pw a s) (hS:∀b,b<w.heap.size→S b→a.set b):bZ_ w S:=fun g cur hg q=>by
 obtain⟨cs,t,hb,ht⟩:=h.typed (hS g (au_ hg) q)
 exact ht (bs_ hb hg)
theorem IsU.lt (h:IsU w N pw a s) {b:Nat} (hb:a.set b):b<w.heap.size:=by
 obtain⟨cs,t,hb,_⟩:=h.typed hb
 exact au_ hb
structure Mv (w u:World) (ℓ ℓ':Nat→Option Nat):Prop where
 keep:ab_ (fun k=>ℓ k≠none) w u
 lab:∀k,k<w.heap.size→ℓ' k=ℓ k
theorem Mv.grow (g:ac_ w u):Mv w u ℓ ℓ:=⟨g.mono fun _ _ q=>q.elim,fun _ _=>rfl⟩
theorem Mv.trans (h:Mv w u ℓ ℓ') (g:Mv u v ℓ' ℓ''):Mv w v ℓ ℓ'':=by
 have hs:=h.keep.size
 exact⟨h.keep.trans g.keep fun k hk q=>by rw[h.lab k hk] at q;exact q,fun k hk=>(g.lab k o_).trans (h.lab k hk)⟩
theorem Mv.go (h:Mv w u ℓ ℓ') (g:ac_ u v):Mv w v ℓ ℓ':=h.trans (Mv.grow g)
structure RdX (w:World) (ℓ:Nat→Option Nat) (z:Nat) (s:Sl) (vs:List Value):Prop where
 rd:Rd w z s vs
 out:vs≠[]→∀a,s.A=some a→a.block<w.heap.size∧ℓ a.block=none
theorem CF.Rd.keepN {S:Nat→Prop} {z:Nat} {p:Sl} {vs:List Value} (h:Rd w z p vs) (k:ab_ S w u) (hn:vs≠[]→∀a,p.A=some a→¬S a.block):Rd u z p vs:=by
 by_cases hv:vs = []
 ·exact⟨h.len,h.cap,h.nb,fun q=>absurd hv q⟩
 ·exact h.keep k fun a ha _=>hn hv a ha
theorem Mv.rdX (h:Mv w u ℓ ℓ') {z:Nat} {p:Sl} {vs:List Value} (hp:RdX w ℓ z p vs):RdX u ℓ' z p vs:=
 ⟨hp.rd.keepN h.keep fun hv a ha q=>q (hp.out hv a ha).2,fun hv a ha=>⟨by have:=(hp.out hv a ha).1;have:=h.keep.size;omega,by rw[h.lab _ (hp.out hv a ha).1];exact(hp.out hv a ha).2⟩⟩
theorem Mv.heap (h:Mv w u ℓ ℓ') {b:Nat} {cs:A_} {t:TypeId} (hb:Blk w b cs t) (hn:ℓ b=none):Blk u b cs t:=h.keep.heap hb fun q=>q hn
structure Sys (w:World) (ℓ:Nat→Option Nat) (pw:Nat) (st:Wst) (F:Int→Bool) (us:List (UA×USt)):Prop where
 W:∃D,a3_ w pw D st F∧∀k,D k→ℓ k=some 0
 U:∀i (h:i<us.length),IsU w (fun k=>ℓ k≠none) pw us[i].1 us[i].2∧∀k,us[i].1.set k→ℓ k=some (i+1)
 lt:∀k,ℓ k≠none→k<w.heap.size
theorem Sys.grow (h:Sys w ℓ pw st F us) (g:ac_ w u):Sys u ℓ pw st F us:=by
 obtain⟨D,h1,h2⟩:=h.W
 exact⟨⟨D,h1.grow g,h2⟩,fun i hi=>⟨(h.U i hi).1.grow g,(h.U i hi).2⟩,fun k hk=>by have:=h.lt k hk;have:=g.size;omega⟩
theorem Sys.put (h:Sys w ℓ pw st F us) (hi:i<us.length) (k:ab_ S w u) (hS:∀b,b<w.heap.size→S b→us[i].1.set b) (hU:IsU u (fun k=>ℓ k≠none) pw us[i].1 s'):Sys u ℓ pw st F (us.set i (us[i].1,s')):=by
 obtain⟨D,h1,h2⟩:=h.W
 have hnb:=(h.U i hi).1.noBytes hS
 have hown:=(h.U i hi).2
 refine⟨⟨D,h1.keep (S:=fun b=>b<w.heap.size∧S b) ⟨k.os,k.tape,k.output,k.size,fun b hb q=>k.block b hb fun r=>q ⟨hb,r⟩⟩ (fun b hb q=>?_) (fun g cur hg q=>hnb g cur hg q.2),h2⟩,fun j hj=>?_,fun b hb=>by have:=h.lt b hb;have:=k.size;omega⟩
 ·have:=hown b (hS b q.1 q.2)
  rw[h2 b hb] at this
  injection this with this
  omega
 ·have hj':j<us.length:=by simpa using hj
  by_cases e:j=i
  ·subst e
   rw[List.getElem_set_self]
   exact⟨hU,hown⟩
  ·rw[List.getElem_set_ne (fun q=>e q.symm)]
   refine⟨(h.U j hj').1.step (S:=fun b=>b<w.heap.size∧S b) ⟨k.os,k.tape,k.output,k.size,fun b hb q=>k.block b hb fun r=>q ⟨hb,r⟩⟩ (bg_.sub fun b hb q=>?_) (fun b hb q=>?_) fun _ q=>.inl q,(h.U j hj').2⟩
   ·rw[hown b (hS b q.1 q.2)];exact Option.some_ne_none _
   ·have h3:=hown b (hS b q.1 q.2)
    rw[(h.U j hj').2 b hb] at h3
    injection h3 with h3
    omega
theorem Sys.mv (h:Sys w ℓ pw st F us) (hi:i<us.length) (k:ab_ S w u) (hS:∀b,b<w.heap.size→S b→us[i].1.set b):Mv w u ℓ ℓ:=
 ⟨⟨k.os,k.tape,k.output,k.size,fun b hb q=>k.block b hb fun r=>q (by rw[(h.U i hi).2 b (hS b hb r)];exact Option.some_ne_none _)⟩,fun _ _=>rfl⟩
open Classical in
theorem Sys.move (h:Sys w ℓ pw st F us) (hi:i<us.length) (k:ab_ S w u) (hS:∀b,b<w.heap.size→S b→us[i].1.set b) (ha:∀b,a'.set b→us[i].1.set b∨w.heap.size≤b)
  (hU:∀N:Nat→Prop,(∀b,N b→ℓ b≠none∨(w.heap.size≤b∧a'.set b))→IsU u N pw a' s'):∃ℓ',Mv w u ℓ ℓ'∧Sys u ℓ' pw st F (us.set i (a',s')):=by
 have hsz:=k.size
 have hown:=(h.U i hi).2
 have hnb:=(h.U i hi).1.noBytes hS
 have hN:∀b,(if w.heap.size≤b∧a'.set b then some (i+1) else ℓ b)≠none→ℓ b≠none∨(w.heap.size≤b∧a'.set b):=fun b hb=>by
  by_cases r:w.heap.size≤b∧a'.set b
  ·exact .inr r
  ·rw[if_neg r] at hb;exact .inl hb
 have hU':=hU (fun b=>(if w.heap.size≤b∧a'.set b then some (i+1) else ℓ b)≠none) hN
 have k':ab_ (fun b=>b<w.heap.size∧S b) w u:=⟨k.os,k.tape,k.output,k.size,fun b hb q=>k.block b hb fun r=>q ⟨hb,r⟩⟩
 obtain⟨D,h1,h2⟩:=h.W
 refine⟨fun b=>if w.heap.size≤b∧a'.set b then some (i+1) else ℓ b,⟨⟨k.os,k.tape,k.output,k.size,fun b hb q=>k.block b hb fun r=>q (by rw[hown b (hS b hb r)];exact Option.some_ne_none _)⟩,fun b hb=>if_neg o_⟩,
  ⟨D,h1.keep k' (fun b hb q=>?_) (fun g cur hg q=>hnb g cur hg q.2),fun b hb=>?_⟩,fun j hj=>?_,fun b hb=>?_⟩
 ·have:=hown b (hS b q.1 q.2)
  rw[h2 b hb] at this
  injection this with this
  omega
 ·have hb2:b<w.heap.size:=h1.lt hb
  show(if w.heap.size≤b∧a'.set b then some (i+1) else ℓ b)=some 0
  rw[if_neg o_];exact h2 b hb
 ·have hj':j<us.length:=by simpa using hj
  by_cases e:j=i
  ·subst e
   rw[List.getElem_set_self]
   refine⟨hU',fun b hb=>?_⟩
   rcases ha b hb with q|q
   ·have:=(h.U j hi).1.lt q
    show(if w.heap.size≤b∧a'.set b then some (j+1) else ℓ b)=_
    rw[if_neg o_];exact hown b q
   ·exact if_pos ⟨q,hb⟩
  ·rw[List.getElem_set_ne (fun q=>e q.symm)]
   refine⟨(h.U j hj').1.step k' (bg_.sub fun b hb q=>?_) (fun b hb q=>?_) (fun b hb=>?_),fun b hb=>?_⟩
   ·rw[hown b (hS b q.1 q.2)];exact Option.some_ne_none _
   ·have h3:=hown b (hS b q.1 q.2)
    rw[(h.U j hj').2 b hb] at h3
    injection h3 with h3
    omega
   ·rcases hN b hb with q|q
    ·exact .inl q
    ·exact .inr q.1
   ·have:=(h.U j hj').1.lt hb
    show(if w.heap.size≤b∧a'.set b then some (i+1) else ℓ b)=_
    rw[if_neg o_];exact(h.U j hj').2 b hb
 ·rcases hN b hb with q|q
  ·have:=h.lt b q;omega
  ·exact hU'.lt q.2
end
open Go CF
section
variable {w u v:World} {N N' S D D':Nat→Prop} {pw i:Nat} {a a':UA} {s s':USt} {st st':Wst} {F F':Int→Bool} {ℓ ℓ' ℓ'':Nat→Option Nat} {us:List (UA×USt)}
theorem od_ (k:ab_ S w u):ab_ (fun b=>b<w.heap.size∧S b) w u:=⟨k.os,k.tape,k.output,k.size,fun b hb q=>k.block b hb fun r=>q ⟨hb,r⟩⟩
def qO_ (w:World) (ℓ:Nat→Option Nat) (S:Nat→Prop):Prop:=∀b,b<w.heap.size→S b→ℓ b=none∧∃cs t,Blk w b cs t∧¬kL_ t∧t≠ae_
theorem qO_.one {b:Nat} {cs:A_} {t:TypeId} (hb:Blk w b cs t) (hn:ℓ b=none) (h1:¬kL_ t) (h2:t≠ae_):qO_ w ℓ fun k=>k=b:=fun b' _ q=>by subst q;exact⟨hn,cs,t,hb,h1,h2⟩
theorem Sys.loc (h:Sys w ℓ pw st F us) (k:ab_ S w u) (hS:qO_ w ℓ S):Sys u ℓ pw st F us:=by
 obtain⟨D,h1,h2⟩:=h.W
 have hno:∀{b x:Nat},ℓ b=some x→¬(b<w.heap.size∧S b):=fun {b x} e q=>by rw[(hS _ q.1 q.2).1] at e;cases e
 refine⟨⟨D,h1.keep (od_ k) (fun b hb q=>hno (h2 b hb) q) (fun g cur hg q=>?_),h2⟩,fun j hj=>⟨(h.U j hj).1.step (od_ k) (fun b hb q=>?_) (fun b hb q=>hno ((h.U j hj).2 b hb) q) fun _ q=>.inl q,(h.U j hj).2⟩,fun b hb=>by have:=h.lt b hb;have:=k.size;omega⟩
 ·obtain⟨_,cs,t,hb,_,ht⟩:=hS g q.1 q.2
  exact ht (bs_ hb hg)
 ·obtain⟨_,cs,t,hb,ht,_⟩:=hS b q.1 q.2
  exact .inr ⟨cs,t,hb,ht⟩
theorem Mv.loc (h:Mv w u ℓ ℓ') (k:ab_ S u v) (hS:∀b,b<w.heap.size→¬S b):Mv w v ℓ ℓ':=by
 have:=h.keep.size
 exact⟨h.keep.trans k fun b hb q=>absurd q (hS b hb),h.lab⟩
open Classical in
theorem Sys.all (h:Sys w ℓ pw st F us) (hi:i<us.length) (hD:∀k,D k→ℓ k=some 0) (k:ab_ S w u) (hS:∀b,b<w.heap.size→S b→D b∨us[i].1.set b) (hw:a3_ u pw D' st' F') (hn:∀k,D' k→D k∨w.heap.size≤k)
  (ha:∀b,a'.set b→us[i].1.set b∨w.heap.size≤b) (hdis:∀b,w.heap.size≤b→D' b→¬a'.set b) (hU:∀N:Nat→Prop,(∀b,N b→ℓ b≠none∨(w.heap.size≤b∧(D' b∨a'.set b)))→IsU u N pw a' s') :
  ∃ℓ',Mv w u ℓ ℓ'∧Sys u ℓ' pw st' F' (us.set i (a',s')):=by
 have hsz:=k.size
 have hown:=(h.U i hi).2
 let L:Nat→Option Nat:=fun b=>if w.heap.size≤b∧D' b then some 0 else if w.heap.size≤b∧a'.set b then some (i+1) else ℓ b
 have hold:∀b,b<w.heap.size→L b=ℓ b:=fun b hb=>by show(if _ then _ else _)=_;rw[if_neg o_,if_neg o_]
 have hN:∀b,L b≠none→ℓ b≠none∨(w.heap.size≤b∧(D' b∨a'.set b)):=fun b hb=>by
  by_cases r:w.heap.size≤b∧D' b
  ·exact .inr ⟨r.1,.inl r.2⟩
  by_cases r2:w.heap.size≤b∧a'.set b
  ·exact .inr ⟨r2.1,.inr r2.2⟩
  ·have:L b=ℓ b:=by show(if _ then _ else _)=_;rw[if_neg r,if_neg r2]
   rw[this] at hb;exact .inl hb
 have hU':=hU (fun b=>L b≠none) hN
 have hSl:∀b,b<w.heap.size→S b→ℓ b≠none:=fun b hb q=>by
  rcases hS b hb q with r|r
  ·rw[hD b r];exact Option.some_ne_none _
  ·rw[hown b r];exact Option.some_ne_none _
 refine⟨L,⟨⟨k.os,k.tape,k.output,k.size,fun b hb q=>k.block b hb fun r=>q (hSl b hb r)⟩,hold⟩,⟨D',hw,fun b hb=>?_⟩,fun j hj=>?_,fun b hb=>?_⟩
 ·by_cases r:w.heap.size≤b
  ·exact if_pos ⟨r,hb⟩
  ·rw[hold b o_]
   rcases hn b hb with q|q
   ·exact hD b q
   ·exact absurd q r
 ·have hj':j<us.length:=by simpa using hj
  by_cases e:j=i
  ·subst e
   rw[List.getElem_set_self]
   refine⟨hU',fun b hb=>?_⟩
   by_cases r:w.heap.size≤b
   ·show(if _ then _ else _)=_
    rw[if_neg (fun q=>hdis b r q.2 hb),if_pos ⟨r,hb⟩]
   ·rw[hold b o_]
    rcases ha b hb with q|q
    ·exact hown b q
    ·exact absurd q r
  ·rw[List.getElem_set_ne (fun q=>e q.symm)]
   refine⟨(h.U j hj').1.step (od_ k) (bg_.sub fun b hb q=>hSl b q.1 q.2) (fun b hb q=>?_) (fun b hb=>?_),fun b hb=>?_⟩
   ·have h3:=(h.U j hj').2 b hb
    rcases hS b q.1 q.2 with r|r
    ·rw[hD b r] at h3;injection h3 with h3;omega
    ·rw[hown b r] at h3;injection h3 with h3;omega
   ·rcases hN b hb with q|q
    ·exact .inl q
    ·exact .inr q.1
   ·have:=(h.U j hj').1.lt hb
    rw[hold b this];exact(h.U j hj').2 b hb
 ·rcases hN b hb with q|q
  ·have:=h.lt b q;omega
  ·rcases q.2 with r|r
   ·exact hw.lt r
   ·exact hU'.lt r
theorem sE_ (u:World) (s:Sn):(Instr.build aa_ #[(0,.int .u8 2),(1,.agg (snv s).toArray)]).run Tryz.prog u=.ok (.agg (rsv 2 s ap_).toArray) u:=by
 obtain⟨a,b,c,d,e,f,g,h⟩:=s
 kernel_rfl
theorem bE_ {s:Sn} {R:A_→W_} (h:∀w',ac_ w w'→R (rsv 2 s ap_).toArray w'):a8_ (snv s).toArray w R:=by
 refine h5_.calls _ _ _ (ah_ fun sb w1 hsb hb1 hg1 hs1=>ah_ fun ab w2 hab hb2 hg2 hs2=>?_)
 have hb1':Blk w2 sb (snv s).toArray aL_:=hg2.heap hb1 (fun q=>q)
 refine⟨(snv s).toArray,aC_ (cs:=snv s) fh_ ba_ rfl (ax_ hb1'),_,sE_ _ s,?_⟩
 exact bm_ hb2 rfl fun w3 hk3=>h w3 (cF_ (hg1.trans hg2) (by have:=hg1.size;omega) hk3)
theorem t2_ {k:Nat} {R:Int→W_} (h:R (fV_ k:Int) w):gr_ (k:Int) w R:=by
 unfold fV_ at h
 refine bw_ (fun x v=>w=v∧x=decide (k=1∨k=7∨k=10∨k=5)) ?_ (fun J=>?_)
 ·rintro x v ⟨rfl,rfl⟩
  refine a6_ (fun q=>?_) (fun q=>?_)
  ·rw[if_pos q] at h;exact h
  rw[if_neg q] at h
  by_cases z:k=8∨k=9∨k=12∨k=13∨k=14∨k=4∨k=11∨k=18
  ·rw[if_pos z] at h
   refine aw_ (fun e=>ao_ (by rw[beq_iff_eq];exact e) h) (fun n8=>aw_ (fun e=>ao_ (by rw[beq_iff_eq];exact e) h) (fun n9=>aw_ (fun e=>ao_ (by rw[beq_iff_eq];exact e) h) (fun n12=>aw_ (fun e=>ao_ (by rw[beq_iff_eq];exact e) h) (fun n13=>aw_ (fun e=>ao_ (by rw[beq_iff_eq];exact e) h) (fun n14=>aw_ (fun e=>ao_ (by rw[beq_iff_eq];exact e) h) (fun n4=>aw_ (fun e=>ao_ (by rw[beq_iff_eq];exact e) h) (fun n11=>aw_ (fun e=>h) (fun n18=>?_))))))))
   exfalso;omega
  ·rw[if_neg z] at h
   exact aw_ (fun e=>by exfalso;omega) (fun _=>aw_ (fun e=>by exfalso;omega) (fun _=>aw_ (fun e=>by exfalso;omega) (fun _=>aw_ (fun e=>by exfalso;omega) (fun _=>aw_ (fun e=>by exfalso;omega) (fun _=>aw_ (fun e=>by exfalso;omega) (fun _=>aw_ (fun e=>by exfalso;omega) (fun _=>aw_ (fun e=>by exfalso;omega) (fun _=>h))))))))
 ·by_cases e1:k=1
  ·exact ao_ (by rw[beq_iff_eq];omega) (J _ _ ⟨rfl,by rw[Bool.eq_iff_iff,beq_iff_eq,decide_eq_true_eq];omega⟩)
  refine al_ (by rw[beq_eq_false_iff_ne];omega) ?_
  by_cases e7:k=7
  ·exact ao_ (by rw[beq_iff_eq];omega) (J _ _ ⟨rfl,by rw[Bool.eq_iff_iff,beq_iff_eq,decide_eq_true_eq];omega⟩)
  refine al_ (by rw[beq_eq_false_iff_ne];omega) ?_
  by_cases e10:k=10
  ·exact ao_ (by rw[beq_iff_eq];omega) (J _ _ ⟨rfl,by rw[Bool.eq_iff_iff,beq_iff_eq,decide_eq_true_eq];omega⟩)
  exact al_ (by rw[beq_eq_false_iff_ne];omega) (J _ _ ⟨rfl,by rw[Bool.eq_iff_iff,beq_iff_eq,decide_eq_true_eq];omega⟩)
theorem oT_ {k:Nat} {R:Int→W_} (h:R (fV_ k:Int) w):gn_ (k:Int) w R:=gr_.calls _ _ _ (t2_ h)
theorem nC_ {k:Nat} {R:Bool→W_} (h:R (fl_ k) w):fM_ (k:Int) w R:=by
 refine hk_.calls _ _ _ ?_
 unfold fl_ at h
 by_cases z:k=8∨k=9∨k=12∨k=13∨k=14
 ·rw[decide_eq_true z] at h
  refine aw_ (fun e=>ao_ (by rw[beq_iff_eq];exact e) h) (fun n8=>aw_ (fun e=>ao_ (by rw[beq_iff_eq];exact e) h) (fun n9=>aw_ (fun e=>ao_ (by rw[beq_iff_eq];exact e) h) (fun n12=>aw_ (fun e=>ao_ (by rw[beq_iff_eq];exact e) h) (fun n13=>aw_ (fun e=>h) (fun n14=>?_)))))
  exfalso;omega
 ·rw[decide_eq_false z] at h
  exact aw_ (fun e=>by exfalso;omega) (fun _=>aw_ (fun e=>by exfalso;omega) (fun _=>aw_ (fun e=>by exfalso;omega) (fun _=>aw_ (fun e=>by exfalso;omega) (fun _=>aw_ (fun e=>by exfalso;omega) (fun _=>h)))))
end
open Go CF
section
variable {w u v:World} {N N' S:Nat→Prop} {pw:Nat} {a:UA} {s:USt}
theorem bR_ {b c:Nat} {x y:A_} {t t':TypeId} (hb:Blk w b x t) (hc:Blk w c y t') (h:t≠t'):b≠c:=fun q=>by subst q;exact h (bs_ hb hc)
theorem IsU.tabB (h:IsU w N pw a s):∃x,Blk w a.tb x bY_:=by obtain⟨⟨T,t1,_⟩,_⟩:=h.tab;exact⟨_,t1⟩
theorem IsU.queB (h:IsU w N pw a s):∃x,Blk w a.qb x gB_:=by obtain⟨⟨ss,_,q1,_⟩,_⟩:=h.q;exact⟨_,q1⟩
theorem IsU.uniB (h:IsU w N pw a s):∃x,Blk w a.ub x bo_:=by obtain⟨P,h1,_⟩:=h.unit;exact⟨_,h1⟩
theorem IsU.step1 (h:IsU w N pw a s) (k:ab_ S w u) (hS:bg_ w N S) (hN:∀b,N' b→N b∨w.heap.size≤b) :
  (¬S a.ub→∃P:Sl,Blk u a.ub (dc_ a P s) bo_∧RdN u N' aI_ 1 P (s.peers.map ptr))∧(¬S a.dv→Blk u a.dv (cU_ a.ps s.inf.prot) bO_)∧(¬S a.ps→IsS u a.ps pw s.file s.n s.cache)∧(¬S a.sl→b1_ u a.sl pw s.keepf s.sure s.at_ s.gen)∧
  (¬S a.pg→IsP u a.pg s.now s.saved)∧(¬S a.tb→IsT u N' a.tb s.tab)∧(¬S a.qb→IsQ u N' a.qb s.q):=by
 refine⟨fun q=>?_,fun q=>k.heap h.dev q,fun q=>k.heap h.store q,fun q=>k.heap h.slots q,fun q=>k.heap h.pages q,fun q=>h.tab.step k hS q hN,fun q=>h.q.step k hS q hN⟩
 obtain⟨P,h1,h2⟩:=h.unit
 exact⟨P,k.heap h1 q,h2.step (.inr (.inr rfl)) k hS hN⟩
theorem IsU.ne (h:IsU w N pw a s):a.ub≠a.dv∧a.ub≠a.ps∧a.ub≠a.sl∧a.ub≠a.pg∧a.ub≠a.tb∧a.ub≠a.qb∧a.dv≠a.ps∧a.dv≠a.sl∧a.dv≠a.pg∧a.dv≠a.tb∧a.dv≠a.qb∧a.ps≠a.sl∧a.ps≠a.pg∧a.ps≠a.tb∧a.ps≠a.qb∧
  a.sl≠a.pg∧a.sl≠a.tb∧a.sl≠a.qb∧a.pg≠a.tb∧a.pg≠a.qb∧a.tb≠a.qb:=by
 obtain⟨x,hu⟩:=h.uniB
 obtain⟨y,ht⟩:=h.tabB
 obtain⟨z,hq⟩:=h.queB
 exact⟨bR_ hu h.dev d_,bR_ hu h.store d_,bR_ hu h.slots d_,bR_ hu h.pages d_,bR_ hu ht d_,bR_ hu hq d_,bR_ h.dev h.store d_,bR_ h.dev h.slots d_,bR_ h.dev h.pages d_,bR_ h.dev ht d_,bR_ h.dev hq d_,
  bR_ h.store h.slots d_,bR_ h.store h.pages d_,bR_ h.store ht d_,bR_ h.store hq d_,bR_ h.slots h.pages d_,bR_ h.slots ht d_,bR_ h.slots hq d_,bR_ h.pages ht d_,bR_ h.pages hq d_,bR_ ht hq d_⟩
theorem dC_ (a:UA):a.set a.ub∧a.set a.dv∧a.set a.ps∧a.set a.sl∧a.set a.pg∧a.set a.tb∧a.set a.qb:=⟨.inl rfl,.inr (.inl rfl),.inr (.inr (.inl rfl)),.inr (.inr (.inr (.inl rfl))),.inr (.inr (.inr (.inr (.inl rfl)))),.inr (.inr (.inr (.inr (.inr (.inl rfl))))),.inr (.inr (.inr (.inr (.inr (.inr rfl)))))⟩
theorem IsU.que {q':Nat→List Nat} (h:IsU w N pw a s) (k:ab_ S w u) (hS:bg_ w N S) (hq:∀b,a.set b→b≠a.qb→¬S b) (hN:∀b,N' b→N b∨w.heap.size≤b) (hnew:IsQ u N' a.qb q'):IsU u N' pw a {s with q:=q'}:=by
 obtain⟨n1,n2,n3,n4,n5,n6,n7,n8,n9,n10,n11,n12,n13,n14,n15,n16,n17,n18,n19,n20,n21⟩:=h.ne
 obtain⟨z1,z2,z3,z4,z5,z6,z7⟩:=dC_ a
 obtain⟨r1,r2,r3,r4,r5,r6,r7⟩:=h.step1 k hS hN
 exact⟨r1 (hq _ z1 n6),r2 (hq _ z2 n11),r3 (hq _ z3 n15),r4 (hq _ z4 n18),r5 (hq _ z5 n20),r6 (hq _ z6 n21),hnew⟩
theorem IsU.slot {su:Bool} {at_:Int} {g:Nat} (h:IsU w N pw a s) (k:ab_ S w u) (hS:bg_ w N S) (hq:∀b,a.set b→b≠a.sl→¬S b) (hN:∀b,N' b→N b∨w.heap.size≤b) (hnew:b1_ u a.sl pw s.keepf su at_ g):IsU u N' pw a {s with sure:=su,at_:=at_,gen:=g}:=by
 obtain⟨n1,n2,n3,n4,n5,n6,n7,n8,n9,n10,n11,n12,n13,n14,n15,n16,n17,n18,n19,n20,n21⟩:=h.ne
 obtain⟨z1,z2,z3,z4,z5,z6,z7⟩:=dC_ a
 obtain⟨r1,r2,r3,r4,r5,r6,r7⟩:=h.step1 k hS hN
 exact⟨r1 (hq _ z1 n3),r2 (hq _ z2 n8),r3 (hq _ z3 n12),hnew,r5 (hq _ z5 n16.symm),r6 (hq _ z6 n17.symm),r7 (hq _ z7 n18.symm)⟩
theorem IsU.tabl {t':a5_} (h:IsU w N pw a s) (k:ab_ S w u) (hS:bg_ w N S) (hq:∀b,a.set b→b≠a.tb→¬S b) (hN:∀b,N' b→N b∨w.heap.size≤b) (hnew:IsT u N' a.tb t'):IsU u N' pw a {s with tab:=t'}:=by
 obtain⟨n1,n2,n3,n4,n5,n6,n7,n8,n9,n10,n11,n12,n13,n14,n15,n16,n17,n18,n19,n20,n21⟩:=h.ne
 obtain⟨z1,z2,z3,z4,z5,z6,z7⟩:=dC_ a
 obtain⟨r1,r2,r3,r4,r5,r6,r7⟩:=h.step1 k hS hN
 exact⟨r1 (hq _ z1 n5),r2 (hq _ z2 n10),r3 (hq _ z3 n14),r4 (hq _ z4 n17),r5 (hq _ z5 n19),hnew,r7 (hq _ z7 n21.symm)⟩
theorem IsU.unitC {on lk fl ct:Nat} {ps:List Nat} (h:IsU w N pw a s) (k:ab_ S w u) (hS:bg_ w N S) (hq:∀b,a.set b→b≠a.ub→¬S b) (hN:∀b,N' b→N b∨w.heap.size≤b)
  (hnew:∃P:Sl,Blk u a.ub (dc_ a P {s with on:=on,lock:=lk,fault:=fl,count:=ct,peers:=ps}) bo_∧RdN u N' aI_ 1 P (ps.map ptr)):IsU u N' pw a {s with on:=on,lock:=lk,fault:=fl,count:=ct,peers:=ps}:=by
 obtain⟨n1,n2,n3,n4,n5,n6,n7,n8,n9,n10,n11,n12,n13,n14,n15,n16,n17,n18,n19,n20,n21⟩:=h.ne
 obtain⟨z1,z2,z3,z4,z5,z6,z7⟩:=dC_ a
 obtain⟨r1,r2,r3,r4,r5,r6,r7⟩:=h.step1 k hS hN
 exact⟨hnew,r2 (hq _ z2 n1.symm),r3 (hq _ z3 n2.symm),r4 (hq _ z4 n3.symm),r5 (hq _ z5 n4.symm),r6 (hq _ z6 n5.symm),r7 (hq _ z7 n6.symm)⟩
end
open Go CF
section
variable {w u v:World} {N N' S:Nat→Prop} {pw i:Nat} {a:UA} {s:USt} {st:Wst} {F:Int→Bool} {ℓ ℓ':Nat→Option Nat} {us:List (UA×USt)}
theorem IsU.cellU (h:IsU w N pw a s) {o:Nat} {x:Value} (e:∀P,(dc_ a P s)[o]?=some x):w.cell? ((gA (some (⟨a.ub,0,none⟩:Addr))).add o)=some x:=by
 obtain⟨P,h1,_⟩:=h.unit
 rw[gA,am_,h1.cell,Nat.zero_add];exact e P
def onQ (q:Nat→List Nat):Nat→List Nat:=fun t=>if t<8 then bM_ (q t) 10496 else q t
def mJ_ (s:USt):USt:={s with q:=onQ s.q,sure:=true,at_:=-1,gen:=0}
theorem Sys.at (H:Sys w ℓ pw st F us) (hi:i<us.length) (he:us[i]=(a,s)):IsU w (fun k=>ℓ k≠none) pw a s∧∀k,a.set k→ℓ k=some (i+1):=by
 have:=H.U i hi
 rw[he] at this
 exact this
theorem Sys.putA (H:Sys w ℓ pw st F us) (hi:i<us.length) (he:us[i]=(a,s)) {s':USt} (k:ab_ S w u) (hS:∀b,b<w.heap.size→S b→a.set b) (hU:IsU u (fun k=>ℓ k≠none) pw a s'):Mv w u ℓ ℓ∧Sys u ℓ pw st F (us.set i (a,s')):=by
 have e1:us[i].1=a:=by rw[he]
 refine⟨H.mv hi k (by rw[e1];exact hS),?_⟩
 have:=H.put hi k (s':=s') (by rw[e1];exact hS) (by rw[e1];exact hU)
 rw[e1] at this;exact this
theorem oU_ {R:Int→W_} (H:Sys w ℓ pw st aF_ us) (hi:i<us.length) (he:us[i]=(a,s)) (hk:1≤s.keepf.size∧s.keepf.size≤30) (ho:st.ops<10000000000) (hl:ldN st.seen s.keepf 2=(-1,0,[]))
  (hR:∀u ℓ',Mv w u ℓ ℓ'→Sys u ℓ' pw {st with ops:=st.ops+2} aF_ (us.set i (a,mJ_ s))→R 0 u):dI_ (some ⟨a.ub,0,none⟩) w R:=by
 refine dW_.calls _ _ _ ?_
 obtain⟨hU,hown⟩:=H.at hi he
 have hNl:∀b,ℓ b≠none→b<w.heap.size:=H.lt
 obtain⟨z1,z2,z3,z4,z5,z6,z7⟩:=dC_ a
 have own:∀{b},a.set b→ℓ b≠none:=fun hb=>by rw[hown _ hb];exact Option.some_ne_none _
 refine⟨fun x v=>∃j:Nat,x=j∧j≤8∧ab_ (fun k=>k=a.qb) w v∧IsU v (fun k=>ℓ k≠none) pw a {s with q:=fun t=>if t<j then bM_ (s.q t) 10496 else s.q t},fun x _=>8-x.toNat,⟨0,rfl,d_,ab_.refl _ _,?_⟩,?_⟩
 ·have:(fun t=>if t<0 then bM_ (s.q t) 10496 else s.q t)=s.q:=by funext t;rw[if_neg o_]
  rw[this];exact hU
 rintro x v ⟨j,rfl,hj,hkv,hUv⟩
 refine bh_ (y:=8) (fun hlt=>?_) (fun hge=>?_)
 ·refine⟨rfl,some ⟨a.qb,0,none⟩,hUv.cellU fun P=>rfl,?_⟩
  refine oc_ hUv.q hlt d_ (own z7) (fun b hb=>by have:=hNl b hb;have:=hkv.size;omega) fun v' hk' hq'=>?_
  rw[w64 o_ o_]
  refine⟨⟨j+1,o_,o_,hkv.trans hk' fun _ _ q=>q,?_⟩,by dsimp only;omega⟩
  have e:(fun t=>if t=j then bM_ (if j<j then bM_ (s.q j) 10496 else s.q j) 10496 else if t<j then bM_ (s.q t) 10496 else s.q t)=fun t=>if t<j+1 then bM_ (s.q t) 10496 else s.q t:=by
   funext t
   by_cases e:t=j
   ·subst e;rw[if_pos rfl,if_neg o_,if_pos o_]
   ·rw[if_neg e]
    by_cases e2:t<j
    ·rw[if_pos e2,if_pos o_]
    ·rw[if_neg e2,if_neg o_]
  rw[←e]
  exact hUv.que hk' (bg_.sub fun b _ q=>by rw[q];exact own z7) (fun b _ hne q=>hne q) (fun _ q=>.inl q) hq'
 ·have hj8:j=8:=o_
  subst hj8
  obtain⟨hmv,Hv⟩:=H.putA hi he hkv (fun b _ q=>by rw[q];exact z7) hUv
  have hi':i<(us.set i (a,{s with q:=fun t=>if t<8 then bM_ (s.q t) 10496 else s.q t})).length:=by rw[List.length_set];exact hi
  obtain⟨D,hW,hD⟩:=Hv.W
  refine⟨rfl,some ⟨a.sl,0,none⟩,hUv.cellU fun P=>rfl,?_⟩
  refine oM_ hUv.slots (fun q=>by have:=hD _ q;rw[hown _ z4] at this;injection this with this;omega) hW hk o_ fun best u hku hWu hSu hbo=>?_
  rw[hl] at hSu ⊢
  refine ao_ rfl ?_
  have hs:=Hv.all (a':=a) (s':=mJ_ s) hi' hD hku (fun b _ q=>by
    rcases q with q|q
    ·exact .inl q
    ·refine .inr ?_
     rw[List.getElem_set_self];rw[q];exact z4) hWu (fun _ q=>.inl q) (fun b hb=>.inl (by rw[List.getElem_set_self];exact hb)) (fun b hb q=>by have:=hW.lt q;omega) (fun N' hN'=>?_)
  ·obtain⟨ℓ',m,Hu⟩:=hs
   rw[List.set_set] at Hu
   exact hR u ℓ' (hmv.trans m) Hu
  ·refine hUv.slot hku (bg_.sub fun b _ q=>?_) (fun b hb hne q=>?_) (fun b hb=>?_) hSu
   ·rcases q with q|q
    ·rw[hD b q];exact Option.some_ne_none _
    ·rw[q];exact own z4
   ·rcases q with q|q
    ·have:=hD b q
     rw[hown b hb] at this
     injection this with this
     omega
    ·exact hne q
   ·rcases hN' b hb with q|q
    ·exact .inl q
    ·exact .inr q.1
def aG_ (s:USt):USt:={mJ_ s with on:=1,lock:=0,fault:=0}
theorem sF_ {R:Int→W_} (H:Sys w ℓ pw st aF_ us) (hi:i<us.length) (he:us[i]=(a,s)) (hon:s.on=0) (hlk:s.lock=0) (hk:1≤s.keepf.size∧s.keepf.size≤30) (ho:st.ops<10000000000) (hl:ldN st.seen s.keepf 2=(-1,0,[]))
  (hR:∀u ℓ',Mv w u ℓ ℓ'→Sys u ℓ' pw {st with ops:=st.ops+2} aF_ (us.set i (a,aG_ s))→R 0 u):bT_ (some ⟨a.ub,0,none⟩) w R:=by
 refine cB_.calls _ _ _ (ah_ fun fb w1 hfb hb1 hg1 hs1=>?_)
 obtain⟨z1,z2,z3,z4,z5,z6,z7⟩:=dC_ a
 have H1:=H.grow hg1
 obtain⟨hU,hown⟩:=H1.at hi he
 have hfn:ℓ fb=none:=by
  cases hq:ℓ fb with
  | none=>rfl
  | some x=>have:=H.lt fb (by rw[hq];exact Option.some_ne_none _);omega
 have cf:∀{v:World},Blk v fb #[.pointer (some ⟨a.ub,0,none⟩)] aI_→v.cell? ⟨fb,0,none⟩=some (.pointer (some ⟨a.ub,0,none⟩)):=fun q=>by rw[Blk.cell q];rfl
 refine⟨some ⟨a.ub,0,none⟩,cf hb1,some ⟨a.ub,0,none⟩,fun _=>cf hb1,fun _=>rfl,some ⟨a.dv,0,none⟩,fun _=>hU.cellU fun P=>rfl,al_ rfl ⟨some ⟨a.ub,0,none⟩,cf hb1,rfl,?_⟩⟩
 rw[show(gA (some (⟨a.ub,0,none⟩:Addr))).add 11=⟨a.ub,11,none⟩ by rw[gA,am_]]
 obtain⟨P,hP1,hP2⟩:=hU.unit
 refine oS_ (o:=11) hP1 (by show some (Value.int .u32 (s.on:Int))=_;rw[hon];rfl) (by show some (Value.int .i32 (s.lock:Int))=_;rw[hlk];rfl) fun w2 hb2 hk2 hs2=>?_
 have sfe:∀{S:Nat→Prop} {x:World},(∀b,S b→b=a.ub)→bg_ x (fun k=>ℓ k≠none) S:=fun hS=>bg_.sub fun b _ q=>by rw[hS b q,hown _ z1];exact Option.some_ne_none _
 have hU2:IsU w2 (fun k=>ℓ k≠none) pw a {s with lock:=1}:=hU.unitC (on:=s.on) (lk:=1) (fl:=s.fault) (ct:=s.count) (ps:=s.peers) hk2 (sfe fun _ q=>q) (fun b _ hne q=>hne q) (fun _ q=>.inl q) ⟨P,hb2,hP2.step (.inr (.inr rfl)) hk2 (sfe fun _ q=>q) fun _ q=>.inl q⟩
 obtain⟨m2,H2⟩:=H1.putA hi he hk2 (fun b _ q=>by rw[q];exact z1) hU2
 have hi2:i<(us.set i (a,{s with lock:=1})).length:=by rw[List.length_set];exact hi
 have hf2:Blk w2 fb #[.pointer (some ⟨a.ub,0,none⟩)] aI_:=m2.heap hb1 hfn
 refine cM_.calls _ _ _ ?_
 rintro w3 rfl
 have hg3:=aq_ w2
 have H3:=H2.grow hg3
 have hf3:Blk w2.drew fb _ aI_:=hg3.heap hf2 (fun q=>q)
 generalize w2.drew=w3 at *
 refine⟨fun o=>o.cell? ⟨fb,0,none⟩=some (.pointer (some ⟨a.ub,0,none⟩)),cf hf3,some ⟨a.ub,0,none⟩,fun _ q=>q,some ⟨a.ub,0,none⟩,fun _ q=>q,?_⟩
 refine oU_ H3 hi2 (List.getElem_set_self _) hk ho hl fun w4 ℓ4 m4 H4=>?_
 have hi4:i<((us.set i (a,{s with lock:=1})).set i (a,mJ_ {s with lock:=1})).length:=by rw[List.length_set];exact hi2
 obtain⟨hU4,hown4⟩:=H4.at hi4 (List.getElem_set_self _)
 have hf4:Blk w4 fb _ aI_:=m4.heap hf3 hfn
 obtain⟨P4,hP41,hP42⟩:=hU4.unit
 refine⟨cf hf4,rfl,?_⟩
 rw[gA,am_]
 refine a2_ hP41 (by show 14<16;decide) rfl fun w5 hb5 hk5 hs5=>⟨_,hb5,by show some (Value.int .u32 (s.on:Int))=_;rw[hon];rfl,rfl,fun w6 hb6 hk6 hs6=>?_⟩
 have k46:ab_ (fun b=>b=a.ub) w4 w6:=hk5.trans hk6 fun _ _ q=>q
 have sf4:bg_ w4 (fun k=>ℓ4 k≠none) fun b=>b=a.ub:=bg_.sub fun b _ q=>by rw[q,hown4 _ z1];exact Option.some_ne_none _
 have hU6:IsU w6 (fun k=>ℓ4 k≠none) pw a (aG_ s):=hU4.unitC (on:=1) (lk:=0) (fl:=0) (ct:=s.count) (ps:=s.peers) k46 sf4 (fun b _ hne q=>hne q) (fun _ q=>.inl q) ⟨P4,hb6,hP42.step (.inr (.inr rfl)) k46 sf4 fun _ q=>.inl q⟩
 obtain⟨m6,H6⟩:=H4.putA hi4 (List.getElem_set_self _) k46 (fun b _ q=>by rw[q];exact z1) hU6
 rw[List.set_set,List.set_set] at H6
 have hf6:Blk w6 fb _ aI_:=k46.heap hf4 fun q=>by
  have:=hown4 _ z1
  rw[←q] at this
  have e:=m4.lab fb (by have:=au_ hf3;exact this)
  rw[e,hfn] at this;cases this
 have hi6:i<(us.set i (a,aG_ s)).length:=by rw[List.length_set];exact hi
 obtain⟨hU6',_⟩:=H6.at hi6 (List.getElem_set_self _)
 refine⟨some ⟨a.ub,0,none⟩,cf hf6,rfl,0,hU6'.cellU fun P=>rfl,?_⟩
 exact hR w6 ℓ4 (((((Mv.grow hg1).trans m2).trans (Mv.grow hg3)).trans m4).trans m6) H6
theorem nD_ {R:Int→W_} (H:Sys w ℓ pw st F us) (hi:i<us.length) (he:us[i]=(a,s)) (hon:s.on=1) (hR:∀u,ac_ w u→R (s.fault:Int) u):bT_ (some ⟨a.ub,0,none⟩) w R:=by
 refine cB_.calls _ _ _ (ah_ fun fb w1 hfb hb1 hg1 hs1=>?_)
 have H1:=H.grow hg1
 obtain⟨hU,hown⟩:=H1.at hi he
 have cf:∀{v:World},Blk v fb #[.pointer (some ⟨a.ub,0,none⟩)] aI_→v.cell? ⟨fb,0,none⟩=some (.pointer (some ⟨a.ub,0,none⟩)):=fun q=>by rw[Blk.cell q];rfl
 refine⟨some ⟨a.ub,0,none⟩,cf hb1,some ⟨a.ub,0,none⟩,fun _=>cf hb1,fun _=>rfl,some ⟨a.dv,0,none⟩,fun _=>hU.cellU fun P=>rfl,al_ rfl ⟨some ⟨a.ub,0,none⟩,cf hb1,rfl,?_⟩⟩
 rw[show(gA (some (⟨a.ub,0,none⟩:Addr))).add 11=⟨a.ub,11,none⟩ by rw[gA,am_]]
 obtain⟨P,hP1,hP2⟩:=hU.unit
 refine vp_ (o:=11) hP1 (by show some (Value.int .u32 (s.on:Int))=_;rw[hon];rfl) ⟨some ⟨a.ub,0,none⟩,cf hb1,rfl,(s.fault:Int),hU.cellU fun P=>rfl,hR w1 hg1⟩
end
open Go CF
def ik_ (op sv:Nat):Option (L8×Bool):=
 if op=0 then some ([UInt8.ofNat op,0,0,0,0,0],true)
 else if op=3 then some ([UInt8.ofNat op,1,0,0,255,0],true)
 else if op=8∨op=10 then some ([UInt8.ofNat op,31,255,255,255,0],true)
 else if op=18 then some ([UInt8.ofNat op,1,255,255,255,0],true)
 else if op=21 then some ([UInt8.ofNat op,17,0,0,255,0],true)
 else if op=26 then some ([UInt8.ofNat op,8,255,0,255,0],true)
 else if op=37 then some ([UInt8.ofNat op,0,0,0,0,0,0,0,0,0],true)
 else if op=40∨op=42 then some ([UInt8.ofNat op,248,255,255,255,255,0,255,255,0],true)
 else if op=46 then some ([UInt8.ofNat op,240,255,255,255,255,0,255,255,0],true)
 else if op=47 then some ([UInt8.ofNat op,242,255,255,255,255,0,255,255,0],true)
 else if op=53 then some ([UInt8.ofNat op,0,255,255,255,255,0,255,255,0],true)
 else if op=65 then some ([UInt8.ofNat op,232,255,255,255,255,0,255,255,0],true)
 else if op=66 then some ([UInt8.ofNat op,0,0,0,0,0,0,255,255,0],true)
 else if op=85 then some ([UInt8.ofNat op,17,0,0,0,0,0,255,255,0],true)
 else if op=90 then some ([UInt8.ofNat op,8,255,0,0,0,0,255,255,0],true)
 else if op=94 then some ([UInt8.ofNat op,31,0,0,0,0,0,255,255,0],decide (sv≤3))
 else if op=95 then some ([UInt8.ofNat op,31,15,0,0,255,255,255,255,0],decide (sv≤6))
 else if op=131 then some ([UInt8.ofNat op,31,0,0,0,0,0,0,0,0,255,255,255,255,0,0],decide (sv=0))
 else if op=136∨op=138 then some ([UInt8.ofNat op,248,255,255,255,255,255,255,255,255,255,255,255,255,0,0],true)
 else if op=137 then some ([UInt8.ofNat op,248,255,255,255,255,255,255,255,255,0,0,0,255,0,0],true)
 else if op=145 then some ([UInt8.ofNat op,0,255,255,255,255,255,255,255,255,255,255,255,255,0,0],true)
 else if op=147 then some ([UInt8.ofNat op,232,255,255,255,255,255,255,255,255,255,255,255,255,0,0],true)
 else if op=158 then some ([UInt8.ofNat op,31,0,0,0,0,0,0,0,0,255,255,255,255,0,0],decide (sv=16))
 else if op=160 then some ([UInt8.ofNat op,0,3,0,0,0,255,255,255,255,0,0],true)
 else none
section
variable {w:World}
theorem t3_ {op sv:Nat} {R:Sl→Bool→W_} (h:∀xs b w',ac_ w w'→(match ik_ op sv with|none=>xs=ap_∧b=false|some (m,c)=>Rd w' 1 xs (bv m)∧xs.A.isSome=true∧b=c)→R xs b w'):lt_ (op:Int) (sv:Int) w R:=by
 refine i1_.calls _ _ _ _ ?_
 refine aH_ (cells:=(bv (List.replicate 12 255)).toArray) (e:=ae_) (z:=1) (base:=0) k_ rfl d_ (Nat.zero_le _) fun w0 ho0 hg0 _=>?_
 have hwd:Rd w0 1 ⟨some ⟨w.heap.size,0,none⟩,12,12⟩ (bv (List.replicate 12 255)):=ho0.rd (by show 12≤_;decide)
 have fin:∀{xs:Sl} {b:Bool} {w':World} {m:L8} {c:Bool},ik_ op sv=some (m,c)→ac_ w0 w'→Rd w' 1 xs (bv m)→m≠[]→b=c→R xs b w':=fun e g r hne hb=>h _ _ _ (hg0.trans g) (by rw[e];exact⟨r,by obtain⟨a,ha,_⟩:=r.at_ (fun q=>hne (by simpa [bv] using q));rw[ha];rfl,hb⟩)
 refine aw_ (fun e=>?_) (fun n0=>?_)
 ·obtain rfl:op=0:=o_
  refine aH_ (cells:=(bv [UInt8.ofNat 0,0,0,0,0,0]).toArray) (e:=ae_) (z:=1) (base:=0) k_ rfl d_ (Nat.zero_le _) fun w1 ho1 hg1 _=>?_
  exact fin (m:=[UInt8.ofNat 0,0,0,0,0,0]) (c:=true) (by rfl) hg1 (ho1.rd (by show 6≤_;decide)) (by simp) rfl
 refine aw_ (fun e=>?_) (fun n1=>?_)
 ·obtain rfl:op=3:=o_
  refine aH_ (cells:=(bv [UInt8.ofNat 3,1,0,0,255,0]).toArray) (e:=ae_) (z:=1) (base:=0) k_ rfl d_ (Nat.zero_le _) fun w1 ho1 hg1 _=>?_
  exact fin (m:=[UInt8.ofNat 3,1,0,0,255,0]) (c:=true) (by rfl) hg1 (ho1.rd (by show 6≤_;decide)) (by simp) rfl
 refine bw_ (fun x v=>w0=v∧x=decide (op=8∨op=10)) ?_ (fun J=>?_)
 rotate_left
 ·by_cases e:op=8
  ·exact ao_ (by rw[beq_iff_eq];omega) (J _ _ ⟨rfl,by rw[Bool.eq_iff_iff,beq_iff_eq,decide_eq_true_eq];omega⟩)
  ·exact al_ (by rw[beq_eq_false_iff_ne];omega) (J _ _ ⟨rfl,by rw[Bool.eq_iff_iff,beq_iff_eq,decide_eq_true_eq];omega⟩)
 rintro x v ⟨rfl,rfl⟩
 refine a6_ (fun e=>?_) (fun n2=>?_)
 ·rcases e with rfl|rfl
  ·refine aH_ (cells:=(bv [UInt8.ofNat 8,31,255,255,255,0]).toArray) (e:=ae_) (z:=1) (base:=0) k_ rfl d_ (Nat.zero_le _) fun w1 ho1 hg1 _=>?_
   exact fin (m:=[UInt8.ofNat 8,31,255,255,255,0]) (c:=true) (by rfl) hg1 (ho1.rd (by show 6≤_;decide)) (by simp) rfl
  ·refine aH_ (cells:=(bv [UInt8.ofNat 10,31,255,255,255,0]).toArray) (e:=ae_) (z:=1) (base:=0) k_ rfl d_ (Nat.zero_le _) fun w1 ho1 hg1 _=>?_
   exact fin (m:=[UInt8.ofNat 10,31,255,255,255,0]) (c:=true) (by rfl) hg1 (ho1.rd (by show 6≤_;decide)) (by simp) rfl
 refine aw_ (fun e=>?_) (fun n3=>?_)
 ·obtain rfl:op=18:=o_
  refine aH_ (cells:=(bv [UInt8.ofNat 18,1,255,255,255,0]).toArray) (e:=ae_) (z:=1) (base:=0) k_ rfl d_ (Nat.zero_le _) fun w1 ho1 hg1 _=>?_
  exact fin (m:=[UInt8.ofNat 18,1,255,255,255,0]) (c:=true) (by rfl) hg1 (ho1.rd (by show 6≤_;decide)) (by simp) rfl
 refine aw_ (fun e=>?_) (fun n4=>?_)
 ·obtain rfl:op=21:=o_
  refine aH_ (cells:=(bv [UInt8.ofNat 21,17,0,0,255,0]).toArray) (e:=ae_) (z:=1) (base:=0) k_ rfl d_ (Nat.zero_le _) fun w1 ho1 hg1 _=>?_
  exact fin (m:=[UInt8.ofNat 21,17,0,0,255,0]) (c:=true) (by rfl) hg1 (ho1.rd (by show 6≤_;decide)) (by simp) rfl
 refine aw_ (fun e=>?_) (fun n5=>?_)
 ·obtain rfl:op=26:=o_
  refine aH_ (cells:=(bv [UInt8.ofNat 26,8,255,0,255,0]).toArray) (e:=ae_) (z:=1) (base:=0) k_ rfl d_ (Nat.zero_le _) fun w1 ho1 hg1 _=>?_
  exact fin (m:=[UInt8.ofNat 26,8,255,0,255,0]) (c:=true) (by rfl) hg1 (ho1.rd (by show 6≤_;decide)) (by simp) rfl
 refine aw_ (fun e=>?_) (fun n6=>?_)
 ·obtain rfl:op=37:=o_
  refine aH_ (cells:=(bv [UInt8.ofNat 37,0,0,0,0,0,0,0,0,0]).toArray) (e:=ae_) (z:=1) (base:=0) k_ rfl d_ (Nat.zero_le _) fun w1 ho1 hg1 _=>?_
  exact fin (m:=[UInt8.ofNat 37,0,0,0,0,0,0,0,0,0]) (c:=true) (by rfl) hg1 (ho1.rd (by show 10≤_;decide)) (by simp) rfl
 refine bw_ (fun x v=>w0=v∧x=decide (op=40∨op=42)) ?_ (fun J=>?_)
 rotate_left
 ·by_cases e:op=40
  ·exact ao_ (by rw[beq_iff_eq];omega) (J _ _ ⟨rfl,by rw[Bool.eq_iff_iff,beq_iff_eq,decide_eq_true_eq];omega⟩)
  ·exact al_ (by rw[beq_eq_false_iff_ne];omega) (J _ _ ⟨rfl,by rw[Bool.eq_iff_iff,beq_iff_eq,decide_eq_true_eq];omega⟩)
 rintro x v ⟨rfl,rfl⟩
 refine a6_ (fun e=>?_) (fun n7=>?_)
 ·rcases e with rfl|rfl
  ·refine aH_ (cells:=(bv [UInt8.ofNat 40,248,255,255,255,255,0,255,255,0]).toArray) (e:=ae_) (z:=1) (base:=0) k_ rfl d_ (Nat.zero_le _) fun w1 ho1 hg1 _=>?_
   exact fin (m:=[UInt8.ofNat 40,248,255,255,255,255,0,255,255,0]) (c:=true) (by rfl) hg1 (ho1.rd (by show 10≤_;decide)) (by simp) rfl
  ·refine aH_ (cells:=(bv [UInt8.ofNat 42,248,255,255,255,255,0,255,255,0]).toArray) (e:=ae_) (z:=1) (base:=0) k_ rfl d_ (Nat.zero_le _) fun w1 ho1 hg1 _=>?_
   exact fin (m:=[UInt8.ofNat 42,248,255,255,255,255,0,255,255,0]) (c:=true) (by rfl) hg1 (ho1.rd (by show 10≤_;decide)) (by simp) rfl
 refine aw_ (fun e=>?_) (fun n8=>?_)
 ·obtain rfl:op=46:=o_
  refine aH_ (cells:=(bv [UInt8.ofNat 46,240,255,255,255,255,0,255,255,0]).toArray) (e:=ae_) (z:=1) (base:=0) k_ rfl d_ (Nat.zero_le _) fun w1 ho1 hg1 _=>?_
  exact fin (m:=[UInt8.ofNat 46,240,255,255,255,255,0,255,255,0]) (c:=true) (by rfl) hg1 (ho1.rd (by show 10≤_;decide)) (by simp) rfl
 refine aw_ (fun e=>?_) (fun n9=>?_)
 ·obtain rfl:op=47:=o_
  refine aH_ (cells:=(bv [UInt8.ofNat 47,242,255,255,255,255,0,255,255,0]).toArray) (e:=ae_) (z:=1) (base:=0) k_ rfl d_ (Nat.zero_le _) fun w1 ho1 hg1 _=>?_
  exact fin (m:=[UInt8.ofNat 47,242,255,255,255,255,0,255,255,0]) (c:=true) (by rfl) hg1 (ho1.rd (by show 10≤_;decide)) (by simp) rfl
 refine aw_ (fun e=>?_) (fun n10=>?_)
 ·obtain rfl:op=53:=o_
  refine aH_ (cells:=(bv [UInt8.ofNat 53,0,255,255,255,255,0,255,255,0]).toArray) (e:=ae_) (z:=1) (base:=0) k_ rfl d_ (Nat.zero_le _) fun w1 ho1 hg1 _=>?_
  exact fin (m:=[UInt8.ofNat 53,0,255,255,255,255,0,255,255,0]) (c:=true) (by rfl) hg1 (ho1.rd (by show 10≤_;decide)) (by simp) rfl
 refine aw_ (fun e=>?_) (fun n11=>?_)
 ·obtain rfl:op=65:=o_
  refine aH_ (cells:=(bv [UInt8.ofNat 65,232,255,255,255,255,0,255,255,0]).toArray) (e:=ae_) (z:=1) (base:=0) k_ rfl d_ (Nat.zero_le _) fun w1 ho1 hg1 _=>?_
  exact fin (m:=[UInt8.ofNat 65,232,255,255,255,255,0,255,255,0]) (c:=true) (by rfl) hg1 (ho1.rd (by show 10≤_;decide)) (by simp) rfl
 refine aw_ (fun e=>?_) (fun n12=>?_)
 ·obtain rfl:op=66:=o_
  refine aH_ (cells:=(bv [UInt8.ofNat 66,0,0,0,0,0,0,255,255,0]).toArray) (e:=ae_) (z:=1) (base:=0) k_ rfl d_ (Nat.zero_le _) fun w1 ho1 hg1 _=>?_
  exact fin (m:=[UInt8.ofNat 66,0,0,0,0,0,0,255,255,0]) (c:=true) (by rfl) hg1 (ho1.rd (by show 10≤_;decide)) (by simp) rfl
 refine aw_ (fun e=>?_) (fun n13=>?_)
 ·obtain rfl:op=85:=o_
  refine aH_ (cells:=(bv [UInt8.ofNat 85,17,0,0,0,0,0,255,255,0]).toArray) (e:=ae_) (z:=1) (base:=0) k_ rfl d_ (Nat.zero_le _) fun w1 ho1 hg1 _=>?_
  exact fin (m:=[UInt8.ofNat 85,17,0,0,0,0,0,255,255,0]) (c:=true) (by rfl) hg1 (ho1.rd (by show 10≤_;decide)) (by simp) rfl
 refine aw_ (fun e=>?_) (fun n14=>?_)
 ·obtain rfl:op=90:=o_
  refine aH_ (cells:=(bv [UInt8.ofNat 90,8,255,0,0,0,0,255,255,0]).toArray) (e:=ae_) (z:=1) (base:=0) k_ rfl d_ (Nat.zero_le _) fun w1 ho1 hg1 _=>?_
  exact fin (m:=[UInt8.ofNat 90,8,255,0,0,0,0,255,255,0]) (c:=true) (by rfl) hg1 (ho1.rd (by show 10≤_;decide)) (by simp) rfl
 refine aw_ (fun e=>?_) (fun n15=>?_)
 ·obtain rfl:op=94:=o_
  refine aH_ (cells:=(bv [UInt8.ofNat 94,31,0,0,0,0,0,255,255,0]).toArray) (e:=ae_) (z:=1) (base:=0) k_ rfl d_ (Nat.zero_le _) fun w1 ho1 hg1 _=>?_
  exact fin (m:=[UInt8.ofNat 94,31,0,0,0,0,0,255,255,0]) (c:=decide (sv≤3)) (by rfl) hg1 (ho1.rd (by show 10≤_;decide)) (by simp) (by rw[decide_eq_decide];omega)
 refine aw_ (fun e=>?_) (fun n16=>?_)
 ·obtain rfl:op=95:=o_
  refine aH_ (cells:=(bv [UInt8.ofNat 95,31,15,0,0,255,255,255,255,0]).toArray) (e:=ae_) (z:=1) (base:=0) k_ rfl d_ (Nat.zero_le _) fun w1 ho1 hg1 _=>?_
  exact fin (m:=[UInt8.ofNat 95,31,15,0,0,255,255,255,255,0]) (c:=decide (sv≤6)) (by rfl) hg1 (ho1.rd (by show 10≤_;decide)) (by simp) (by rw[decide_eq_decide];omega)
 refine aw_ (fun e=>?_) (fun n17=>?_)
 ·obtain rfl:op=131:=o_
  refine Row.start (l:=[UInt8.ofNat 131,31,0,0,0,0,0,0,0,0]) k_ rfl (by show 10≤_;decide) fun p1 w1 h1=>?_
  refine⟨⟨d_,d_,by show(4:Int)≤12;decide,by show 12≤12;decide⟩,?_⟩
  have hw1:Rd w1 1 ⟨aP_ (some ⟨w.heap.size,0,none⟩) 12 0 1,4-0,12-0⟩ (bv (List.replicate 4 255)):=by have:=(hwd.grow h1.grow).cutB (l:=0) (k:=4) d_ (by show 4≤12;decide);simpa using this
  refine h1.app hw1 (by show 10+4≤_;decide) fun p2 w2 h2 _=>?_
  refine h2.lit (l:=[0,0]) k_ rfl (by show 14+2≤_;decide) fun p3 w3 h3 _=>?_
  exact fin (m:=[UInt8.ofNat 131,31,0,0,0,0,0,0,0,0,255,255,255,255,0,0]) (c:=decide (sv=0)) (by rfl) h3.grow (h3.rd (by show 16≤_;decide)) (by simp) (by rw[Bool.eq_iff_iff,beq_iff_eq,decide_eq_true_eq];omega)
 refine bw_ (fun x v=>w0=v∧x=decide (op=136∨op=138)) ?_ (fun J=>?_)
 rotate_left
 ·by_cases e:op=136
  ·exact ao_ (by rw[beq_iff_eq];omega) (J _ _ ⟨rfl,by rw[Bool.eq_iff_iff,beq_iff_eq,decide_eq_true_eq];omega⟩)
  ·exact al_ (by rw[beq_eq_false_iff_ne];omega) (J _ _ ⟨rfl,by rw[Bool.eq_iff_iff,beq_iff_eq,decide_eq_true_eq];omega⟩)
 rintro x v ⟨rfl,rfl⟩
 refine a6_ (fun e=>?_) (fun n18=>?_)
 ·rcases e with rfl|rfl
  ·refine Row.start (l:=[UInt8.ofNat 136,248]) k_ rfl (by show 2≤_;decide) fun p1 w1 h1=>?_
   have hw1:Rd w1 1 ⟨some ⟨w.heap.size,0,none⟩,12,12⟩ (bv (List.replicate 12 255)):=hwd.grow h1.grow
   refine h1.app hw1 (by show 2+12≤_;decide) fun p2 w2 h2 _=>?_
   refine h2.lit (l:=[0,0]) k_ rfl (by show 14+2≤_;decide) fun p3 w3 h3 _=>?_
   exact fin (m:=[UInt8.ofNat 136,248,255,255,255,255,255,255,255,255,255,255,255,255,0,0]) (c:=true) (by rfl) h3.grow (h3.rd (by show 16≤_;decide)) (by simp) rfl
  ·refine Row.start (l:=[UInt8.ofNat 138,248]) k_ rfl (by show 2≤_;decide) fun p1 w1 h1=>?_
   have hw1:Rd w1 1 ⟨some ⟨w.heap.size,0,none⟩,12,12⟩ (bv (List.replicate 12 255)):=hwd.grow h1.grow
   refine h1.app hw1 (by show 2+12≤_;decide) fun p2 w2 h2 _=>?_
   refine h2.lit (l:=[0,0]) k_ rfl (by show 14+2≤_;decide) fun p3 w3 h3 _=>?_
   exact fin (m:=[UInt8.ofNat 138,248,255,255,255,255,255,255,255,255,255,255,255,255,0,0]) (c:=true) (by rfl) h3.grow (h3.rd (by show 16≤_;decide)) (by simp) rfl
 refine aw_ (fun e=>?_) (fun n19=>?_)
 ·obtain rfl:op=137:=o_
  refine Row.start (l:=[UInt8.ofNat 137,248]) k_ rfl (by show 2≤_;decide) fun p1 w1 h1=>?_
  refine⟨⟨d_,d_,by show(8:Int)≤12;decide,by show 12≤12;decide⟩,?_⟩
  have hw1:Rd w1 1 ⟨aP_ (some ⟨w.heap.size,0,none⟩) 12 0 1,8-0,12-0⟩ (bv (List.replicate 8 255)):=by have:=(hwd.grow h1.grow).cutB (l:=0) (k:=8) d_ (by show 8≤12;decide);simpa using this
  refine h1.app hw1 (by show 2+8≤_;decide) fun p2 w2 h2 _=>?_
  refine h2.lit (l:=[0,0,0,255,0,0]) k_ rfl (by show 10+6≤_;decide) fun p3 w3 h3 _=>?_
  exact fin (m:=[UInt8.ofNat 137,248,255,255,255,255,255,255,255,255,0,0,0,255,0,0]) (c:=true) (by rfl) h3.grow (h3.rd (by show 16≤_;decide)) (by simp) rfl
 refine aw_ (fun e=>?_) (fun n20=>?_)
 ·obtain rfl:op=145:=o_
  refine Row.start (l:=[UInt8.ofNat 145,0]) k_ rfl (by show 2≤_;decide) fun p1 w1 h1=>?_
  have hw1:Rd w1 1 ⟨some ⟨w.heap.size,0,none⟩,12,12⟩ (bv (List.replicate 12 255)):=hwd.grow h1.grow
  refine h1.app hw1 (by show 2+12≤_;decide) fun p2 w2 h2 _=>?_
  refine h2.lit (l:=[0,0]) k_ rfl (by show 14+2≤_;decide) fun p3 w3 h3 _=>?_
  exact fin (m:=[UInt8.ofNat 145,0,255,255,255,255,255,255,255,255,255,255,255,255,0,0]) (c:=true) (by rfl) h3.grow (h3.rd (by show 16≤_;decide)) (by simp) rfl
 refine aw_ (fun e=>?_) (fun n21=>?_)
 ·obtain rfl:op=147:=o_
  refine Row.start (l:=[UInt8.ofNat 147,232]) k_ rfl (by show 2≤_;decide) fun p1 w1 h1=>?_
  have hw1:Rd w1 1 ⟨some ⟨w.heap.size,0,none⟩,12,12⟩ (bv (List.replicate 12 255)):=hwd.grow h1.grow
  refine h1.app hw1 (by show 2+12≤_;decide) fun p2 w2 h2 _=>?_
  refine h2.lit (l:=[0,0]) k_ rfl (by show 14+2≤_;decide) fun p3 w3 h3 _=>?_
  exact fin (m:=[UInt8.ofNat 147,232,255,255,255,255,255,255,255,255,255,255,255,255,0,0]) (c:=true) (by rfl) h3.grow (h3.rd (by show 16≤_;decide)) (by simp) rfl
 refine aw_ (fun e=>?_) (fun n22=>?_)
 ·obtain rfl:op=158:=o_
  refine Row.start (l:=[UInt8.ofNat 158,31,0,0,0,0,0,0,0,0]) k_ rfl (by show 10≤_;decide) fun p1 w1 h1=>?_
  refine⟨⟨d_,d_,by show(4:Int)≤12;decide,by show 12≤12;decide⟩,?_⟩
  have hw1:Rd w1 1 ⟨aP_ (some ⟨w.heap.size,0,none⟩) 12 0 1,4-0,12-0⟩ (bv (List.replicate 4 255)):=by have:=(hwd.grow h1.grow).cutB (l:=0) (k:=4) d_ (by show 4≤12;decide);simpa using this
  refine h1.app hw1 (by show 10+4≤_;decide) fun p2 w2 h2 _=>?_
  refine h2.lit (l:=[0,0]) k_ rfl (by show 14+2≤_;decide) fun p3 w3 h3 _=>?_
  exact fin (m:=[UInt8.ofNat 158,31,0,0,0,0,0,0,0,0,255,255,255,255,0,0]) (c:=decide (sv=16)) (by rfl) h3.grow (h3.rd (by show 16≤_;decide)) (by simp) (by rw[Bool.eq_iff_iff,beq_iff_eq,decide_eq_true_eq];omega)
 refine aw_ (fun e=>?_) (fun n23=>?_)
 ·obtain rfl:op=160:=o_
  refine aH_ (cells:=(bv [UInt8.ofNat 160,0,3,0,0,0,255,255,255,255,0,0]).toArray) (e:=ae_) (z:=1) (base:=0) k_ rfl d_ (Nat.zero_le _) fun w1 ho1 hg1 _=>?_
  exact fin (m:=[UInt8.ofNat 160,0,3,0,0,0,255,255,255,255,0,0]) (c:=true) (by rfl) hg1 (ho1.rd (by show 12≤_;decide)) (by simp) rfl
 refine h _ _ _ hg0 ?_
 have e:ik_ op sv=none:=by unfold ik_;rw[if_neg o_,if_neg o_,if_neg o_,if_neg o_,if_neg o_,if_neg o_,if_neg o_,if_neg o_,if_neg o_,if_neg o_,if_neg o_,if_neg o_,if_neg o_,if_neg o_,if_neg o_,if_neg o_,if_neg o_,if_neg o_,if_neg o_,if_neg o_,if_neg o_,if_neg o_,if_neg o_,if_neg o_]
 rw[e];exact⟨rfl,rfl⟩
end
theorem oV_ {op sv:Nat} {m:L8} {b:Bool} {P:Nat→L8→Prop} (h:ik_ op sv=some (m,b))
  (h0:P 0 [UInt8.ofNat 0,0,0,0,0,0])
  (h3:P 3 [UInt8.ofNat 3,1,0,0,255,0])
  (h8:P 8 [UInt8.ofNat 8,31,255,255,255,0])
  (h10:P 10 [UInt8.ofNat 10,31,255,255,255,0])
  (h18:P 18 [UInt8.ofNat 18,1,255,255,255,0])
  (h21:P 21 [UInt8.ofNat 21,17,0,0,255,0])
  (h26:P 26 [UInt8.ofNat 26,8,255,0,255,0])
  (h37:P 37 [UInt8.ofNat 37,0,0,0,0,0,0,0,0,0])
  (h40:P 40 [UInt8.ofNat 40,248,255,255,255,255,0,255,255,0])
  (h42:P 42 [UInt8.ofNat 42,248,255,255,255,255,0,255,255,0])
  (h46:P 46 [UInt8.ofNat 46,240,255,255,255,255,0,255,255,0])
  (h47:P 47 [UInt8.ofNat 47,242,255,255,255,255,0,255,255,0])
  (h53:P 53 [UInt8.ofNat 53,0,255,255,255,255,0,255,255,0])
  (h65:P 65 [UInt8.ofNat 65,232,255,255,255,255,0,255,255,0])
  (h66:P 66 [UInt8.ofNat 66,0,0,0,0,0,0,255,255,0])
  (h85:P 85 [UInt8.ofNat 85,17,0,0,0,0,0,255,255,0])
  (h90:P 90 [UInt8.ofNat 90,8,255,0,0,0,0,255,255,0])
  (h94:P 94 [UInt8.ofNat 94,31,0,0,0,0,0,255,255,0])
  (h95:P 95 [UInt8.ofNat 95,31,15,0,0,255,255,255,255,0])
  (h131:P 131 [UInt8.ofNat 131,31,0,0,0,0,0,0,0,0,255,255,255,255,0,0])
  (h136:P 136 [UInt8.ofNat 136,248,255,255,255,255,255,255,255,255,255,255,255,255,0,0])
  (h138:P 138 [UInt8.ofNat 138,248,255,255,255,255,255,255,255,255,255,255,255,255,0,0])
  (h137:P 137 [UInt8.ofNat 137,248,255,255,255,255,255,255,255,255,0,0,0,255,0,0])
  (h145:P 145 [UInt8.ofNat 145,0,255,255,255,255,255,255,255,255,255,255,255,255,0,0])
  (h147:P 147 [UInt8.ofNat 147,232,255,255,255,255,255,255,255,255,255,255,255,255,0,0])
  (h158:P 158 [UInt8.ofNat 158,31,0,0,0,0,0,0,0,0,255,255,255,255,0,0])
  (h160:P 160 [UInt8.ofNat 160,0,3,0,0,0,255,255,255,255,0,0])
  : P op m:=by
 unfold ik_ at h
 by_cases q:op=0
 ·rw[if_pos q] at h
  injection h with h;injection h with h1 h2
  subst h1
  subst q;exact h0
 rw[if_neg q] at h
 clear q
 by_cases q:op=3
 ·rw[if_pos q] at h
  injection h with h;injection h with h1 h2
  subst h1
  subst q;exact h3
 rw[if_neg q] at h
 clear q
 by_cases q:op=8∨op=10
 ·rw[if_pos q] at h
  injection h with h;injection h with h1 h2
  subst h1
  rcases q with rfl|rfl
  ·exact h8
  ·exact h10
 rw[if_neg q] at h
 clear q
 by_cases q:op=18
 ·rw[if_pos q] at h
  injection h with h;injection h with h1 h2
  subst h1
  subst q;exact h18
 rw[if_neg q] at h
 clear q
 by_cases q:op=21
 ·rw[if_pos q] at h
  injection h with h;injection h with h1 h2
  subst h1
  subst q;exact h21
 rw[if_neg q] at h
 clear q
 by_cases q:op=26
 ·rw[if_pos q] at h
  injection h with h;injection h with h1 h2
  subst h1
  subst q;exact h26
 rw[if_neg q] at h
 clear q
 by_cases q:op=37
 ·rw[if_pos q] at h
  injection h with h;injection h with h1 h2
  subst h1
  subst q;exact h37
 rw[if_neg q] at h
 clear q
 by_cases q:op=40∨op=42
 ·rw[if_pos q] at h
  injection h with h;injection h with h1 h2
  subst h1
  rcases q with rfl|rfl
  ·exact h40
  ·exact h42
 rw[if_neg q] at h
 clear q
 by_cases q:op=46
 ·rw[if_pos q] at h
  injection h with h;injection h with h1 h2
  subst h1
  subst q;exact h46
 rw[if_neg q] at h
 clear q
 by_cases q:op=47
 ·rw[if_pos q] at h
  injection h with h;injection h with h1 h2
  subst h1
  subst q;exact h47
 rw[if_neg q] at h
 clear q
 by_cases q:op=53
 ·rw[if_pos q] at h
  injection h with h;injection h with h1 h2
  subst h1
  subst q;exact h53
 rw[if_neg q] at h
 clear q
 by_cases q:op=65
 ·rw[if_pos q] at h
  injection h with h;injection h with h1 h2
  subst h1
  subst q;exact h65
 rw[if_neg q] at h
 clear q
 by_cases q:op=66
 ·rw[if_pos q] at h
  injection h with h;injection h with h1 h2
  subst h1
  subst q;exact h66
 rw[if_neg q] at h
 clear q
 by_cases q:op=85
 ·rw[if_pos q] at h
  injection h with h;injection h with h1 h2
  subst h1
  subst q;exact h85
 rw[if_neg q] at h
 clear q
 by_cases q:op=90
 ·rw[if_pos q] at h
  injection h with h;injection h with h1 h2
  subst h1
  subst q;exact h90
 rw[if_neg q] at h
 clear q
 by_cases q:op=94
 ·rw[if_pos q] at h
  injection h with h;injection h with h1 h2
  subst h1
  subst q;exact h94
 rw[if_neg q] at h
 clear q
 by_cases q:op=95
 ·rw[if_pos q] at h
  injection h with h;injection h with h1 h2
  subst h1
  subst q;exact h95
 rw[if_neg q] at h
 clear q
 by_cases q:op=131
 ·rw[if_pos q] at h
  injection h with h;injection h with h1 h2
  subst h1
  subst q;exact h131
 rw[if_neg q] at h
 clear q
 by_cases q:op=136∨op=138
 ·rw[if_pos q] at h
  injection h with h;injection h with h1 h2
  subst h1
  rcases q with rfl|rfl
  ·exact h136
  ·exact h138
 rw[if_neg q] at h
 clear q
 by_cases q:op=137
 ·rw[if_pos q] at h
  injection h with h;injection h with h1 h2
  subst h1
  subst q;exact h137
 rw[if_neg q] at h
 clear q
 by_cases q:op=145
 ·rw[if_pos q] at h
  injection h with h;injection h with h1 h2
  subst h1
  subst q;exact h145
 rw[if_neg q] at h
 clear q
 by_cases q:op=147
 ·rw[if_pos q] at h
  injection h with h;injection h with h1 h2
  subst h1
  subst q;exact h147
 rw[if_neg q] at h
 clear q
 by_cases q:op=158
 ·rw[if_pos q] at h
  injection h with h;injection h with h1 h2
  subst h1
  subst q;exact h158
 rw[if_neg q] at h
 clear q
 by_cases q:op=160
 ·rw[if_pos q] at h
  injection h with h;injection h with h1 h2
  subst h1
  subst q;exact h160
 rw[if_neg q] at h
 clear q
 cases h
open Go CF
theorem kn_ {n m:Nat} (hn:n<256) (hm:m<256):br_ .u8 (n:Int) (m:Int)=((n &&& m:Nat):Int):=by
 unfold br_
 show IntKind.wrap .u8 (((BitVec.ofInt 8 (n:Int) &&& BitVec.ofInt 8 (m:Int)).toNat:Nat):Int)=_
 rw[BitVec.ofInt_natCast,BitVec.ofInt_natCast,BitVec.toNat_and,BitVec.toNat_ofNat,BitVec.toNat_ofNat,Nat.mod_eq_of_lt o_,Nat.mod_eq_of_lt o_]
 have:n &&& m≤n:=Nat.and_le_left
 generalize n &&& m=k at *
 exact wu8 o_ o_
theorem yX_ {n m:Nat} (hn:n<18446744073709551616) (hm:m<18446744073709551616):br_ .u64 (n:Int) (m:Int)=((n &&& m:Nat):Int):=by
 unfold br_
 show IntKind.wrap .u64 (((BitVec.ofInt 64 (n:Int) &&& BitVec.ofInt 64 (m:Int)).toNat:Nat):Int)=_
 rw[BitVec.ofInt_natCast,BitVec.ofInt_natCast,BitVec.toNat_and,BitVec.toNat_ofNat,BitVec.toNat_ofNat,Nat.mod_eq_of_lt o_,Nat.mod_eq_of_lt o_]
 have:n &&& m≤n:=Nat.and_le_left
 generalize n &&& m=k at *
 exact ea_ o_ o_
theorem zx_ (a b:UInt8):tz_ .u8 (a.toNat:Int) (b.toNat:Int)=((a &&& ~~~b).toNat:Int):=by
 unfold tz_
 show IntKind.wrap .u8 (((BitVec.ofInt 8 (a.toNat:Int) &&& ~~~(BitVec.ofInt 8 (b.toNat:Int))).toNat:Nat):Int)=_
 have ea:BitVec.ofInt 8 (a.toNat:Int)=a.toBitVec:=by rw[BitVec.ofInt_natCast];exact BitVec.eq_of_toNat_eq (by rw[BitVec.toNat_ofNat];exact Nat.mod_eq_of_lt a.toNat_lt)
 have eb:BitVec.ofInt 8 (b.toNat:Int)=b.toBitVec:=by rw[BitVec.ofInt_natCast];exact BitVec.eq_of_toNat_eq (by rw[BitVec.toNat_ofNat];exact Nat.mod_eq_of_lt b.toNat_lt)
 rw[ea,eb]
 have:(a.toBitVec &&& ~~~b.toBitVec).toNat=(a &&& ~~~b).toNat:=rfl
 rw[this]
 have:=(a &&& ~~~b).toNat_lt
 exact wu8 o_ o_
def hW_ (b:Nat):Nat→Option Nat
 | 0=>none
 | k+1=>if b/2 ^ k%2=1 then some k else hW_ b k
def gi_:L8→L8→Nat→Option (Nat×Nat)
 | [],_,_=>none
 | b::r,m,i=>match hW_ (b &&& ~~~(m.getD 0 0)).toNat 8 with
  | some k=>some (i,k)
  | none=>gi_ r (m.drop 1) (i+1)
section
variable {w:World}
theorem yY_ {n:Nat} (h:n<256):br_ .u8 (n:Int) 1=((n%2:Nat):Int):=by
 have:=kn_ h (m:=1) d_
 rw[Nat.and_one_is_mod] at this
 exact this
theorem vq_ {p m:L8} {j:Nat} (hj:j<p.length):gi_ (p.drop j) (m.drop j) j=match hW_ (p[j] &&& ~~~(m.getD j 0)).toNat 8 with|some k=>some (j,k)|none=>gi_ (p.drop (j+1)) (m.drop (j+1)) (j+1):=by
 rw[List.drop_eq_getElem_cons hj]
 show(match hW_ (p[j] &&& ~~~((m.drop j).getD 0 0)).toNat 8 with|some k=>some (j,k)|none=>gi_ (p.drop (j+1)) ((m.drop j).drop 1) (j+1))=_
 rw[List.getD_eq_getElem?_getD,List.getElem?_drop,Nat.add_zero,List.drop_drop,←List.getD_eq_getElem?_getD]
theorem rQ_ {p m:Sl} {l k:L8} {R:Int→Int→W_} (hp:Rd w 1 p (bv l)) (hm:Rd w 1 m (bv k)) (hR:match gi_ l k 0 with|none=>R (-1) (-1) w|some (i,b)=>R (i:Int) (b:Int) w):m4_ p m w R:=by
 refine m6_.calls _ _ _ _ ?_
 have hpn:=dj_ hp
 have hmn:=dj_ hm
 have hpb:=hp.nb
 refine⟨fun x v=>∃j:Nat,x=j∧j≤l.length∧v=w∧gi_ l k 0=gi_ (l.drop j) (k.drop j) j,fun x _=>p.n-x.toNat,⟨0,rfl,Nat.zero_le _,rfl,rfl⟩,?_⟩
 rintro x v ⟨j,rfl,hj,rfl,he⟩
 refine bh_ (fun hlt=>?_) (fun hge=>?_)
 ·have hjl:j<l.length:=o_
  rw[vq_ hjl] at he
  refine dy_ (fun v'=>v'=v∧hW_ (l[j] &&& ~~~(k.getD j 0)).toNat 8=none) (fun v' hv=>?_) (fun J=>?_)
  ·obtain⟨rfl,ho⟩:=hv
   rw[ho] at he
   rw[w64 o_ o_]
   exact⟨⟨j+1,o_,o_,rfl,he⟩,by dsimp only;omega⟩
  ·obtain⟨ha,hc⟩:=fF_ hp hjl
   have ej:l.getD j 0=l[j]:=by rw[List.getD_eq_getElem?_getD,List.getElem?_eq_getElem hjl];rfl
   refine⟨⟨o_,o_,ha⟩,_,by rw[Int.toNat_natCast];exact hc,?_⟩
   rw[ej]
   refine bw_ (fun b v'=>v'=v∧b=((l[j] &&& ~~~(k.getD j 0)).toNat:Int)) (fun b v' hb=>?_) (fun J2=>?_)
   ·obtain⟨rfl,rfl⟩:=hb
    have hB:=(l[j] &&& ~~~(k.getD j 0)).toNat_lt
    generalize (l[j] &&& ~~~(k.getD j 0)).toNat=B at *
    refine⟨fun bit u=>∃t:Nat,bit=(t:Int)-1∧t≤8∧u=v'∧hW_ B 8=hW_ B t,fun bit _=>(bit+1).toNat,⟨8,d_,d_,rfl,rfl⟩,?_⟩
    rintro bit u ⟨t,rfl,ht,rfl,ho⟩
    cases t with
    | zero=>exact al_ d_ (J u ⟨rfl,ho⟩)
    | succ t=>
     refine ao_ (by rw[decide_eq_true_eq];omega) ⟨o_,?_⟩
     have e1:(((t+1:Nat):Int)-1).toNat=t:=o_
     have e2:((t+1:Nat):Int)-1=(t:Int):=o_
     rw[e1,shr .u8 B t (by show t≤8;omega),yY_ (Nat.lt_of_le_of_lt (Nat.div_le_self _ _) o_),e2]
     by_cases q:B/2 ^ t%2=1
     ·refine ao_ (by rw[beq_iff_eq];omega) ?_
      have:hW_ B (t+1)=some t:=by unfold hW_;rw[if_pos q]
      rw[ho,this] at he
      rw[he] at hR
      exact hR
     ·refine al_ (by rw[beq_eq_false_iff_ne];omega) ?_
      rw[w64 o_ o_]
      refine⟨⟨t,rfl,o_,rfl,ho.trans ?_⟩,by dsimp only;omega⟩
      show(if B/2 ^ t%2=1 then some t else hW_ B t)=_
      rw[if_neg q]
   ·by_cases q:j<k.length
    ·refine ao_ (by rw[decide_eq_true_eq];omega) ?_
     obtain⟨hma,hmc⟩:=fF_ hm q
     refine⟨⟨o_,o_,hma⟩,_,by rw[Int.toNat_natCast];exact hmc,?_⟩
     exact J2 _ _ ⟨rfl,zx_ _ _⟩
    ·refine al_ (by rw[decide_eq_false_iff_not];omega) (J2 _ _ ⟨rfl,?_⟩)
     have:k.getD j 0=0:=by rw[List.getD_eq_getElem?_getD,List.getElem?_eq_none o_];rfl
     rw[this]
     have:∀b:UInt8,b &&& ~~~(0:UInt8)=b:=fun b=>by
      apply UInt8.toBitVec_inj.1
      rw[UInt8.toBitVec_and,UInt8.toBitVec_not]
      exact BitVec.and_allOnes
     rw[this]
 ·have:j=l.length:=o_
  subst this
  rw[List.drop_length] at he
  rw[show gi_ l k 0=none from he] at hR
  exact hR
def gN_ (op:Nat):Nat:=
 if op=0 then 1 else if op=3 then 2 else if op=18 then 3 else if op=21∨op=85 then 4 else if op=26∨op=90 then 5 else if op=37∨op=158 then 6
 else if op=8∨op=40∨op=136 then 7 else if op=10∨op=42∨op=138 then 8 else if op=46 then 9 else if op=47 then 10 else if op=53∨op=145 then 11
 else if op=65∨op=147 then 12 else if op=66 then 13 else if op=137 then 14 else if op=94 then 15 else if op=95 then 16 else if op=160 then 17 else if op=131 then 18 else 0
theorem or2 {op a b:Nat} {j:Bool→W_} (J:∀x v,w=v∧x=decide (op=a∨op=b)→j x v):Br ((op:Int)==(a:Int)) (j ((op:Int)==(a:Int)) w) (j ((op:Int)==(b:Int)) w):=by
 by_cases e:op=a
 ·exact ao_ (by rw[beq_iff_eq];omega) (J _ _ ⟨rfl,by rw[Bool.eq_iff_iff,beq_iff_eq,decide_eq_true_eq];omega⟩)
 ·exact al_ (by rw[beq_eq_false_iff_ne];omega) (J _ _ ⟨rfl,by rw[Bool.eq_iff_iff,beq_iff_eq,decide_eq_true_eq];omega⟩)
theorem or3 {op a b c:Nat} {j:Bool→W_} (J:∀x v,w=v∧x=decide (op=a∨op=b∨op=c)→j x v):Br ((op:Int)==(a:Int)) (j ((op:Int)==(a:Int)) w) (Br ((op:Int)==(b:Int)) (j ((op:Int)==(b:Int)) w) (j ((op:Int)==(c:Int)) w)):=by
 by_cases e:op=a
 ·exact ao_ (by rw[beq_iff_eq];omega) (J _ _ ⟨rfl,by rw[Bool.eq_iff_iff,beq_iff_eq,decide_eq_true_eq];omega⟩)
 ·refine al_ (by rw[beq_eq_false_iff_ne];omega) (or2 (a:=b) (b:=c) fun x v hv=>J x v ⟨hv.1,hv.2.trans ?_⟩)
  rw[decide_eq_decide];omega
theorem sG_ {op:Nat} {R:Int→W_} (h:R (gN_ op:Int) w):mp_ (op:Int) w R:=by
 refine j9_.calls _ _ _ ?_
 unfold gN_ at h
 refine aw_ (fun e=>?_) (fun n1=>aw_ (fun e=>?_) (fun n2=>aw_ (fun e=>?_) (fun n3=>?_)))
 ·rw[if_pos o_] at h;exact h
 ·rw[if_neg o_,if_pos o_] at h;exact h
 ·rw[if_neg o_,if_neg o_,if_pos o_] at h;exact h
 rw[if_neg o_,if_neg o_,if_neg o_] at h
 refine bw_ (fun x v=>w=v∧x=decide (op=21∨op=85)) ?_ (fun J=>or2 (a:=21) (b:=85) J)
 rintro x v ⟨rfl,rfl⟩
 refine a6_ (fun e=>?_) (fun n4=>?_)
 ·rw[if_pos e] at h;exact h
 rw[if_neg n4] at h
 refine bw_ (fun x v=>w=v∧x=decide (op=26∨op=90)) ?_ (fun J=>or2 (a:=26) (b:=90) J)
 rintro x v ⟨rfl,rfl⟩
 refine a6_ (fun e=>?_) (fun n5=>?_)
 ·rw[if_pos e] at h;exact h
 rw[if_neg n5] at h
 refine bw_ (fun x v=>w=v∧x=decide (op=37∨op=158)) ?_ (fun J=>or2 (a:=37) (b:=158) J)
 rintro x v ⟨rfl,rfl⟩
 refine a6_ (fun e=>?_) (fun n6=>?_)
 ·rw[if_pos e] at h;exact h
 rw[if_neg n6] at h
 refine bw_ (fun x v=>w=v∧x=decide (op=8∨op=40∨op=136)) ?_ (fun J=>or3 (a:=8) (b:=40) (c:=136) J)
 rintro x v ⟨rfl,rfl⟩
 refine a6_ (fun e=>?_) (fun n7=>?_)
 ·rw[if_pos e] at h;exact h
 rw[if_neg n7] at h
 refine bw_ (fun x v=>w=v∧x=decide (op=10∨op=42∨op=138)) ?_ (fun J=>or3 (a:=10) (b:=42) (c:=138) J)
 rintro x v ⟨rfl,rfl⟩
 refine a6_ (fun e=>?_) (fun n8=>?_)
 ·rw[if_pos e] at h;exact h
 rw[if_neg n8] at h
 refine aw_ (fun e=>?_) (fun n9=>aw_ (fun e=>?_) (fun n10=>?_))
 ·rw[if_pos o_] at h;exact h
 ·rw[if_neg o_,if_pos o_] at h;exact h
 rw[if_neg o_,if_neg o_] at h
 refine bw_ (fun x v=>w=v∧x=decide (op=53∨op=145)) ?_ (fun J=>or2 (a:=53) (b:=145) J)
 rintro x v ⟨rfl,rfl⟩
 refine a6_ (fun e=>?_) (fun n11=>?_)
 ·rw[if_pos e] at h;exact h
 rw[if_neg n11] at h
 refine bw_ (fun x v=>w=v∧x=decide (op=65∨op=147)) ?_ (fun J=>or2 (a:=65) (b:=147) J)
 rintro x v ⟨rfl,rfl⟩
 refine a6_ (fun e=>?_) (fun n12=>?_)
 ·rw[if_pos e] at h;exact h
 rw[if_neg n12] at h
 refine aw_ (fun e=>?_) (fun n13=>aw_ (fun e=>?_) (fun n14=>aw_ (fun e=>?_) (fun n15=>aw_ (fun e=>?_) (fun n16=>aw_ (fun e=>?_) (fun n17=>aw_ (fun e=>?_) (fun n18=>?_))))))
 ·rw[if_pos o_] at h;exact h
 ·rw[if_neg o_,if_pos o_] at h;exact h
 ·rw[if_neg o_,if_neg o_,if_pos o_] at h;exact h
 ·rw[if_neg o_,if_neg o_,if_neg o_,if_pos o_] at h;exact h
 ·rw[if_neg o_,if_neg o_,if_neg o_,if_neg o_,if_pos o_] at h;exact h
 ·rw[if_neg o_,if_neg o_,if_neg o_,if_neg o_,if_neg o_,if_pos o_] at h;exact h
 ·rw[if_neg o_,if_neg o_,if_neg o_,if_neg o_,if_neg o_,if_neg o_] at h;exact h
end
open Go CF
def bN (p:L8) (i:Nat):Nat:=(p.getD i 0).toNat
def nuN (p:L8) (at_ n:Nat):Nat:=num ((p.drop at_).take n)
theorem nc_ (p:L8) (i:Nat):bN p i<256:=(p.getD i 0).toNat_lt
theorem mK_ (p:L8) (at_ n:Nat):nuN p at_ n<256 ^ n:=by
 unfold nuN
 have h:=hy_ ((p.drop at_).take n)
 have:((p.drop at_).take n).length≤n:=by rw[List.length_take];omega
 exact Nat.lt_of_lt_of_le h (Nat.pow_le_pow_right d_ this)
theorem nu1 (p:L8) (a:Nat):nuN p a 1<256:=mK_ p a 1
theorem nu2 (p:L8) (a:Nat):nuN p a 2<65536:=mK_ p a 2
theorem nu3 (p:L8) (a:Nat):nuN p a 3<16777216:=mK_ p a 3
theorem nu4 (p:L8) (a:Nat):nuN p a 4<4294967296:=mK_ p a 4
theorem nu8 (p:L8) (a:Nat):nuN p a 8<18446744073709551616:=mK_ p a 8
def fG_ (c:Cm) (p:L8):Cm×Nat:=
 if p.length=6 then({c with lba:=nuN p 1 3 &&& 2097151,blocks:=if nuN p 4 1=0 then 256 else nuN p 4 1},4)
 else if p.length=10 then({c with lba:=nuN p 2 4,blocks:=nuN p 7 2},7)
 else({c with lba:=nuN p 2 8,blocks:=nuN p 10 4},10)
def nd_ (c:Cm) (p:L8):Cm:=
 if c.kind=7∨c.kind=8 then {c with prot:=bN p 1/32,fua:=decide (bN p 1 &&& 8≠0)}
 else if c.kind=10 then {c with prot:=bN p 1/32,bytes:=decide (bN p 1 &&& 2≠0)}
 else if c.kind=12 then {c with prot:=bN p 1/32,unmap:=decide (bN p 1 &&& 8≠0)}
 else if c.kind=11 then {c with prot:=0}
 else {c with prot:=bN p 1/32}
def gO_ (c:Cm) (p:L8):Cm:=if 6<p.length then nd_ (fG_ c p).1 p else(fG_ c p).1
def rR_ (c:Cm) (p:L8):Option (Nat×Nat):=if c.kind≠11∧c.kind≠12∧256<(gO_ c p).blocks then some ((fG_ c p).2,7) else none
section
variable {w:World} {p:Sl} {l:L8} {cb:Nat} {c:Cm} {R:Int→Int→W_}
theorem bV_ {at_ n:Nat} {R:Int→W_} (hp:Rd w 1 p (bv l)) (hn:1≤n) (hn8:n≤8) (hat:at_+n≤l.length) (h:R (nuN l at_ n:Int) w):bn_ p (at_:Int) (n:Int) w R:=by
 refine h9_.calls _ _ _ _ _ ?_
 exact cC_ hp hp.nb hn hn8 hat h
abbrev IsC (w:World) (cb:Nat) (c:Cm):Prop:=Blk w cb (cmv c).toArray aD_
theorem IsC.put (h:IsC w cb c) {o:Nat} {v:Value} (c':Cm) (e:(cmv c).set o v=cmv c') (ho:o<15) (hv:v.oneCell'=true) {K:W_}
  (hK:∀w',IsC w' cb c'→ab_ (fun k=>k=cb) w w'→w'.heap.size=w.heap.size→K w'):Put ((gA (some (⟨cb,0,none⟩:Addr))).add o) v w K:=by
 rw[gA,am_]
 refine a2_ h (by show 0+o<15;omega) hv fun w1 hb1 hk1 hs1=>hK w1 ?_ hk1 hs1
 have:(cmv c).toArray.setIfInBounds (0+o) v=(cmv c').toArray:=by rw[List.setIfInBounds_toArray,Nat.zero_add,e]
 rw[this] at hb1;exact hb1
theorem IsC.cell (h:IsC w cb c) {o:Nat} {v:Value} (e:(cmv c)[o]?=some v):w.cell? ((gA (some (⟨cb,0,none⟩:Addr))).add o)=some v:=by
 rw[gA,am_,Blk.cell h,Nat.zero_add,List.getElem?_toArray];exact e
theorem il_ {w':World} (hp:Rd w 1 p (bv l)) (hn:∀a,p.A=some a→a.block≠cb) (k:ab_ (fun k=>k=cb) w w'):Rd w' 1 p (bv l):=hp.keep k fun a ha _=>hn a ha
theorem vr_ {R:Int→W_} (h:IsC w cb c) (hp:Rd w 1 p (bv l)) (hn:∀a,p.A=some a→a.block≠cb) (hl:l.length=6∨l.length=10∨l.length=16)
  (hR:∀w',IsC w' cb (fG_ c l).1→ab_ (fun k=>k=cb) w w'→w'.heap.size=w.heap.size→R ((fG_ c l).2:Int) w'):ms_ (some ⟨cb,0,none⟩) p w R:=by
 refine iA_.calls _ _ _ _ ?_
 have hpn:=dj_ hp
 have e6:((p.n:Int)==6)=decide (l.length=6):=by rw[Bool.eq_iff_iff,beq_iff_eq,decide_eq_true_eq];omega
 have e10:((p.n:Int)==10)=decide (l.length=10):=by rw[Bool.eq_iff_iff,beq_iff_eq,decide_eq_true_eq];omega
 unfold iA_
 rw[e6,e10]
 unfold fG_ at hR
 refine a6_ (fun q=>?_) (fun q=>a6_ (fun q2=>?_) (fun q2=>?_))
 ·rw[if_pos q] at hR
  have n3:=nu3 l 1
  have n1:=nu1 l 4
  refine bV_ (at_:=1) (n:=3) hp d_ d_ o_ (bV_ (at_:=4) (n:=1) hp d_ d_ o_ ⟨rfl,?_⟩)
  have ea:br_ .u64 (nuN l 1 3:Int) 2097151=((nuN l 1 3 &&& 2097151:Nat):Int):=yX_ (m:=2097151) o_ d_
  rw[ea]
  refine h.put {c with lba:=nuN l 1 3 &&& 2097151} rfl d_ rfl fun w1 h1 k1 s1=>⟨rfl,?_⟩
  refine h1.put {c with lba:=nuN l 1 3 &&& 2097151,blocks:=nuN l 4 1} rfl d_ rfl fun w2 h2 k2 s2=>⟨rfl,_,h2.cell rfl,?_⟩
  refine aw_ (fun e=>⟨rfl,?_⟩) (fun e=>?_)
  ·have e:nuN l 4 1=0:=Int.ofNat.inj e
   rw[if_pos e] at hR
   exact h2.put {c with lba:=nuN l 1 3 &&& 2097151,blocks:=256} rfl d_ rfl fun w3 h3 k3 s3=>hR w3 h3 ((k1.trans k2 fun _ _ q=>q).trans k3 fun _ _ q=>q) o_
  ·have e:¬nuN l 4 1=0:=fun q=>e (by show((nuN l 4 1:Nat):Int)=0;omega)
   rw[if_neg e] at hR
   exact hR w2 h2 (k1.trans k2 fun _ _ q=>q) o_
 ·rw[if_neg q,if_pos q2] at hR
  refine bV_ (at_:=2) (n:=4) hp d_ d_ o_ (bV_ (at_:=7) (n:=2) hp d_ d_ o_ ⟨rfl,?_⟩)
  refine h.put {c with lba:=nuN l 2 4} rfl d_ rfl fun w1 h1 k1 s1=>⟨rfl,?_⟩
  exact h1.put {c with lba:=nuN l 2 4,blocks:=nuN l 7 2} rfl d_ rfl fun w2 h2 k2 s2=>hR w2 h2 (k1.trans k2 fun _ _ q=>q) o_
 ·rw[if_neg q,if_neg q2] at hR
  refine bV_ (at_:=2) (n:=8) hp d_ d_ o_ (bV_ (at_:=10) (n:=4) hp d_ d_ o_ ⟨rfl,?_⟩)
  refine h.put {c with lba:=nuN l 2 8} rfl d_ rfl fun w1 h1 k1 s1=>⟨rfl,?_⟩
  exact h1.put {c with lba:=nuN l 2 8,blocks:=nuN l 10 4} rfl d_ rfl fun w2 h2 k2 s2=>hR w2 h2 (k1.trans k2 fun _ _ q=>q) o_
theorem t4_ (c:Cm) (p:L8):(fG_ c p).1.kind=c.kind:=by
 unfold fG_
 split
 ·rfl
 ·split<;>rfl
theorem oW_ {w:World} {i:Nat} (hp:Rd w 1 p (bv l)) (hi:i<l.length):p.A.isSome=true∧w.cell? ((gA p.A).add (i*1))=some (.int .u8 (bN l i:Int)):=fF_ hp hi
theorem yZ_ {n:Nat}:bJ_ .u8 (n:Int) 5=((n/32:Nat):Int):=shr .u8 n 5 d_
theorem neI {a:Nat}:((a:Int) != 0)=decide (a≠0):=by rw[Bool.eq_iff_iff,bne_iff_ne,decide_eq_true_eq];omega
theorem t5_ (h:IsC w cb c) (hp:Rd w 1 p (bv l)) (hn:∀a,p.A=some a→a.block≠cb) (hl:l.length=6∨l.length=10∨l.length=16) (hk:c.kind<256)
  (hR:∀w',IsC w' cb (gO_ c l)→ab_ (fun k=>k=cb) w w'→match rR_ c l with|none=>R (-1) 0 w'|some (f,b)=>R (f:Int) (b:Int) w'):kD_ (some ⟨cb,0,none⟩) p w R:=by
 refine ia_.calls _ _ _ _ (vr_ h hp hn hl fun w1 h1 k1 s1=>?_)
 have hpn:=dj_ hp
 have hkd:=t4_ c l
 refine dy_ (fun u=>IsC u cb (gO_ c l)∧ab_ (fun k=>k=cb) w u) (fun u hu=>?_) (fun J=>?_)
 ·obtain⟨hc,hk2⟩:=hu
  have hR:=hR u hc hk2
  have hpk:(gO_ c l).kind=c.kind:=by
   unfold gO_
   split
   ·unfold nd_;repeat' (first|exact hkd|split)
   ·exact hkd
  refine⟨rfl,_,hc.cell rfl,fun _=>rfl,_,fun _=>hc.cell rfl,fun _=>rfl,_,fun _=>hc.cell rfl,?_⟩
  rw[hpk]
  unfold rR_ at hR
  by_cases q:c.kind≠11∧c.kind≠12∧256<(gO_ c l).blocks
  ·rw[if_pos q] at hR
   refine ao_ ?_ hR
   simp only[Bool.and_eq_true,bne_iff_ne,ne_eq,decide_eq_true_eq]
   omega
  ·rw[if_neg q] at hR
   refine al_ ?_ hR
   rw[Bool.eq_false_iff]
   simp only[Bool.and_eq_true,bne_iff_ne,ne_eq,decide_eq_true_eq]
   omega
 ·have hp1:=il_ hp hn k1
  have e6:(decide ((p.n:Int)>6))=decide (6<l.length):=by rw[decide_eq_decide];omega
  rw[e6]
  refine a6_ (fun q=>?_) (fun q=>J w1 ⟨by unfold gO_;rw[if_neg q];exact h1,k1⟩)
  have ep:gO_ c l=nd_ (fG_ c l).1 l:=by unfold gO_;rw[if_pos q]
  rw[ep] at J
  generalize (fG_ c l).1=d at *
  generalize hwx:nd_ d l=dx at J
  unfold nd_ at hwx
  obtain⟨ha,hc⟩:=oW_ hp1 (i:=1) o_
  have hb:=nc_ l 1
  refine⟨⟨d_,o_,ha⟩,_,hc,rfl,?_⟩
  rw[yZ_]
  refine h1.put {d with prot:=bN l 1/32} rfl d_ rfl fun w2 h2 k2 s2=>⟨rfl,(d.kind:Int),h2.cell rfl,?_⟩
  have hp2:=il_ hp1 hn k2
  have kw2:=k1.trans k2 fun _ _ q=>q
  obtain⟨_,hc2⟩:=oW_ hp2 (i:=1) o_
  refine bw_ (fun x v=>w2=v∧x=decide (d.kind=7∨d.kind=8)) ?_ (fun J2=>or2 (a:=7) (b:=8) J2)
  rintro x v ⟨rfl,rfl⟩
  have e8:((br_ .u8 (bN l 1:Int) 8) != 0)=decide (bN l 1 &&& 8≠0):=(congrArg (·!= 0) (kn_ hb (m:=8) d_)).trans neI
  have e2:((br_ .u8 (bN l 1:Int) 2) != 0)=decide (bN l 1 &&& 2≠0):=(congrArg (·!= 0) (kn_ hb (m:=2) d_)).trans neI
  refine a6_ (fun q7=>?_) (fun q7=>?_)
  ·rw[if_pos q7] at hwx
   refine⟨⟨d_,o_,ha⟩,_,hc2,rfl,?_⟩
   rw[e8]
   exact h2.put {d with prot:=bN l 1/32,fua:=decide (bN l 1 &&& 8≠0)} rfl d_ rfl fun w3 h3 k3 s3=>J w3 ⟨hwx▸h3,kw2.trans k3 fun _ _ q=>q⟩
  rw[if_neg q7] at hwx
  refine aw_ (fun q10=>?_) (fun q10=>aw_ (fun q12=>?_) (fun q12=>aw_ (fun q11=>?_) (fun q11=>?_)))
  ·rw[if_pos o_] at hwx
   refine⟨⟨d_,o_,ha⟩,_,hc2,rfl,?_⟩
   rw[e2]
   exact h2.put {d with prot:=bN l 1/32,bytes:=decide (bN l 1 &&& 2≠0)} rfl d_ rfl fun w3 h3 k3 s3=>J w3 ⟨hwx▸h3,kw2.trans k3 fun _ _ q=>q⟩
  ·rw[if_neg o_,if_pos o_] at hwx
   refine⟨⟨d_,o_,ha⟩,_,hc2,rfl,?_⟩
   rw[e8]
   exact h2.put {d with prot:=bN l 1/32,unmap:=decide (bN l 1 &&& 8≠0)} rfl d_ rfl fun w3 h3 k3 s3=>J w3 ⟨hwx▸h3,kw2.trans k3 fun _ _ q=>q⟩
  ·rw[if_neg o_,if_neg o_,if_pos o_] at hwx
   exact⟨rfl,h2.put {d with prot:=0} rfl d_ rfl fun w3 h3 k3 s3=>J w3 ⟨hwx▸h3,kw2.trans k3 fun _ _ q=>q⟩⟩
  ·rw[if_neg o_,if_neg o_,if_neg o_] at hwx
   exact J w2 ⟨hwx▸h2,kw2⟩
end
open Go CF
def im_ (c:Cm) (p:L8) (sv:Nat):Cm×Option (Nat×Nat):=
 if c.kind=2 then({c with alloc:=(bN p 4:Int),long:=decide (bN p 1%2=1)},none)
 else if c.kind=3 then({c with evpd:=decide (bN p 1%2=1),page:=bN p 2,alloc:=(nuN p 3 2:Int)},if ¬bN p 1%2=1∧bN p 2≠0 then some (2,7) else none)
 else if c.kind=4 then({c with long:=decide (p.length=10),alloc:=if p.length=10 then(nuN p 7 2:Int) else(bN p 4:Int),save:=decide (bN p 1%2=1)},if bN p 1 &&& 16=0 then some (1,4) else none)
 else if c.kind=5 then({c with long:=decide (p.length=10),alloc:=if p.length=10 then(nuN p 7 2:Int) else(bN p 4:Int),control:=bN p 2/64,page:=bN p 2 &&& 63},none)
 else if c.kind=6 then({c with long:=decide (p.length=16),alloc:=if p.length=16 then(nuN p 10 4:Int) else c.alloc},none)
 else if 7≤c.kind∧c.kind≤12 then(gO_ c p,rR_ c p)
 else if c.kind=13 then({c with alloc:=(nuN p 7 2:Int)},none)
 else if c.kind=14 then({c with lba:=nuN p 2 8,blocks:=bN p 13,prot:=bN p 1/32,fua:=decide (bN p 1 &&& 8≠0)},none)
 else if c.kind=15 then({c with service:=sv,alloc:=(nuN p 7 2:Int)},none)
 else if c.kind=16 then({c with service:=sv,type:=bN p 2 &&& 15,alloc:=(nuN p 5 4:Int)},none)
 else if c.kind=17 then({c with page:=bN p 2,alloc:=(nuN p 6 4:Int)},if bN p 2=3 then some (2,1) else none)
 else if c.kind=18 then({c with alloc:=(nuN p 10 4:Int)},none)
 else(c,none)
structure qP_ (k n:Nat):Prop where
 a:k=2∨k=3→n=6
 b:k=4∨k=5→n=6∨n=10
 c:k=6→n=10∨n=16
 d:7≤k→k≤12→n=6∨n=10∨n=16
 e:k=13∨k=15∨k=16→n=10
 f:k=14∨k=18→n=16
 g:k=17→n=12
section
variable {w:World} {p:Sl} {l:L8} {cb:Nat} {c:Cm} {sv:Nat}
theorem or6 {op a:Nat} {j:Bool→W_} (J:∀x v,w=v∧x=decide (a≤op∧op≤a+5)→j x v) :
  Br ((op:Int)==(a:Int)) (j ((op:Int)==(a:Int)) w) (Br ((op:Int)==((a+1:Nat):Int)) (j ((op:Int)==((a+1:Nat):Int)) w) (Br ((op:Int)==((a+2:Nat):Int)) (j ((op:Int)==((a+2:Nat):Int)) w) (Br ((op:Int)==((a+3:Nat):Int)) (j ((op:Int)==((a+3:Nat):Int)) w)
   (Br ((op:Int)==((a+4:Nat):Int)) (j ((op:Int)==((a+4:Nat):Int)) w) (j ((op:Int)==((a+5:Nat):Int)) w))))):=by
 by_cases h0:op=a
 ·exact ao_ (by rw[beq_iff_eq];omega) (J _ _ ⟨rfl,by rw[Bool.eq_iff_iff,beq_iff_eq,decide_eq_true_eq];omega⟩)
 refine al_ (by rw[beq_eq_false_iff_ne];omega) ?_
 by_cases h1:op=a+1
 ·exact ao_ (by rw[beq_iff_eq];omega) (J _ _ ⟨rfl,by rw[Bool.eq_iff_iff,beq_iff_eq,decide_eq_true_eq];omega⟩)
 refine al_ (by rw[beq_eq_false_iff_ne];omega) ?_
 by_cases h2:op=a+2
 ·exact ao_ (by rw[beq_iff_eq];omega) (J _ _ ⟨rfl,by rw[Bool.eq_iff_iff,beq_iff_eq,decide_eq_true_eq];omega⟩)
 refine al_ (by rw[beq_eq_false_iff_ne];omega) ?_
 by_cases h3:op=a+3
 ·exact ao_ (by rw[beq_iff_eq];omega) (J _ _ ⟨rfl,by rw[Bool.eq_iff_iff,beq_iff_eq,decide_eq_true_eq];omega⟩)
 refine al_ (by rw[beq_eq_false_iff_ne];omega) ?_
 by_cases h4:op=a+4
 ·exact ao_ (by rw[beq_iff_eq];omega) (J _ _ ⟨rfl,by rw[Bool.eq_iff_iff,beq_iff_eq,decide_eq_true_eq];omega⟩)
 exact al_ (by rw[beq_eq_false_iff_ne];omega) (J _ _ ⟨rfl,by rw[Bool.eq_iff_iff,beq_iff_eq,decide_eq_true_eq];omega⟩)
theorem t6_ {n:Nat} (h:n<256):(br_ .u8 (n:Int) 1==1)=decide (n%2=1):=by rw[yY_ h,Bool.eq_iff_iff,beq_iff_eq,decide_eq_true_eq];omega
theorem vs_ {R:Int→Int→W_} (h:IsC w cb c) (hp:Rd w 1 p (bv l)) (hn:∀a,p.A=some a→a.block≠cb) (hl:qP_ c.kind l.length) (hk:c.kind<256)
  (hR:∀w',IsC w' cb (im_ c l sv).1→ab_ (fun k=>k=cb) w w'→match (im_ c l sv).2 with|none=>R (-1) 0 w'|some (f,b)=>R (f:Int) (b:Int) w'):mq_ (some ⟨cb,0,none⟩) p (sv:Int) w R:=by
 refine ka_.calls _ _ _ _ _ ⟨rfl,(c.kind:Int),h.cell rfl,?_⟩
 have hpn:=dj_ hp
 have B:=fun i=>nc_ l i
 have by_:∀{u:World} {i:Nat},Rd u 1 p (bv l)→i<l.length→p.A.isSome=true∧u.cell? ((gA p.A).add (i*1))=some (.int .u8 (bN l i:Int)):=fun r hi=>oW_ r hi
 have n2:=fun a=>nu2 l a
 have n4:=fun a=>nu4 l a
 generalize hF:im_ c l sv=F at hR
 unfold im_ at hF
 refine aw_ (fun q=>?_) (fun q2=>?_)
 ·have q:c.kind=2:=o_
  have hlen:=hl.a (.inl q)
  rw[if_pos q] at hF;subst hF
  obtain⟨ha,hc4⟩:=by_ hp (i:=4) o_
  have:=B 4
  refine⟨⟨d_,o_,ha⟩,_,hc4,rfl,?_⟩
  rw[w64 (n:=(bN l 4:Int)) o_ o_]
  refine h.put {c with alloc:=(bN l 4:Int)} rfl d_ rfl fun w1 h1 k1 s1=>?_
  obtain⟨_,hc1⟩:=by_ (il_ hp hn k1) (i:=1) o_
  refine⟨⟨d_,o_,ha⟩,_,hc1,rfl,?_⟩
  rw[t6_ (B 1)]
  exact h1.put {c with alloc:=(bN l 4:Int),long:=decide (bN l 1%2=1)} rfl d_ rfl fun w2 h2 k2 s2=>hR w2 h2 (k1.trans k2 fun _ _ q=>q)
 have q2:c.kind≠2:=o_
 rw[if_neg q2] at hF
 refine aw_ (fun q=>?_) (fun q3=>?_)
 ·have q:c.kind=3:=o_
  have hlen:=hl.a (.inr q)
  rw[if_pos q] at hF;subst hF
  rintro u rfl
  have hgd:=aq_ w
  have hpd:=hp.grow hgd
  have hcd:IsC w.drew cb c:=hgd.heap h (fun q=>q)
  have kd:ab_ (fun k=>k=cb) w w.drew:=hgd.mono fun _ _ q=>q.elim
  generalize w.drew=u at *
  obtain⟨ha,hc1⟩:=by_ hpd (i:=1) o_
  obtain⟨_,hc2⟩:=by_ hpd (i:=2) o_
  have:=n2 3
  refine⟨fun o=>o=u,rfl,⟨d_,o_,ha⟩,_,fun o e=>by rw[e];exact hc1,⟨d_,o_,ha⟩,_,fun o e=>by rw[e];exact hc2,bV_ (at_:=3) (n:=2) hpd d_ d_ o_ ⟨rfl,rfl,?_⟩⟩
  rw[t6_ (B 1)]
  refine hcd.put {c with evpd:=decide (bN l 1%2=1)} rfl d_ rfl fun w1 h1 k1 s1=>⟨rfl,?_⟩
  refine h1.put {c with evpd:=decide (bN l 1%2=1),page:=bN l 2} rfl d_ rfl fun w2 h2 k2 s2=>⟨rfl,?_⟩
  rw[w64 (n:=(nuN l 3 2:Int)) o_ o_]
  refine h2.put {c with evpd:=decide (bN l 1%2=1),page:=bN l 2,alloc:=(nuN l 3 2:Int)} rfl d_ rfl fun w3 h3 k3 s3=>⟨rfl,decide (bN l 1%2=1),h3.cell rfl,fun _=>rfl,(bN l 2:Int),fun _=>h3.cell rfl,?_⟩
  have hR:=hR w3 h3 (((kd.trans k1 fun _ _ q=>q).trans k2 fun _ _ q=>q).trans k3 fun _ _ q=>q)
  dsimp only at hR
  by_cases z:¬bN l 1%2=1∧bN l 2≠0
  ·rw[if_pos z] at hR
   refine ao_ ?_ hR
   simp only[Bool.and_eq_true,Bool.not_eq_true',decide_eq_false_iff_not,bne_iff_ne,ne_eq]
   omega
  ·rw[if_neg z] at hR
   refine al_ ?_ hR
   rw[Bool.eq_false_iff]
   simp only[Bool.and_eq_true,Bool.not_eq_true',decide_eq_false_iff_not,bne_iff_ne,ne_eq]
   omega
 have q3:c.kind≠3:=o_
 rw[if_neg q3] at hF
 refine bw_ (fun x v=>w=v∧x=decide (c.kind=4∨c.kind=5)) ?_ (fun J=>or2 (a:=4) (b:=5) J)
 rintro x v ⟨rfl,rfl⟩
 refine a6_ (fun q=>?_) (fun q45=>?_)
 ·have hlen:=hl.b q
  have e10:((p.n:Int)==10)=decide (l.length=10):=by rw[Bool.eq_iff_iff,beq_iff_eq,decide_eq_true_eq];omega
  rw[e10]
  refine⟨rfl,h.put {c with long:=decide (l.length=10)} rfl d_ rfl fun w1 h1 k1 s1=>?_⟩
  have hp1:=il_ hp hn k1
  obtain⟨ha,hc4⟩:=by_ hp1 (i:=4) o_
  have:=B 4
  refine⟨⟨d_,o_,ha⟩,_,hc4,rfl,?_⟩
  rw[w64 (n:=(bN l 4:Int)) o_ o_]
  refine h1.put {c with long:=decide (l.length=10),alloc:=(bN l 4:Int)} rfl d_ rfl fun w2 h2 k2 s2=>⟨rfl,decide (l.length=10),h2.cell rfl,?_⟩
  have hp2:=il_ hp1 hn k2
  generalize hd:({c with long:=decide (l.length=10),alloc:=if l.length=10 then(nuN l 7 2:Int) else(bN l 4:Int)}:Cm)=d at *
  have dk:d.kind=c.kind:=by rw[←hd]
  refine dy_ (fun u=>IsC u cb d∧ab_ (fun k=>k=cb) w u) (fun u hu=>?_) (fun J=>?_)
  ·obtain⟨hcu,hku⟩:=hu
   have hpu:=il_ hp hn hku
   refine⟨rfl,(d.kind:Int),hcu.cell rfl,?_⟩
   rw[dk]
   refine aw_ (fun q5=>?_) (fun q5=>?_)
   ·have q5:c.kind=5:=o_
    rw[if_neg o_,if_pos q5] at hF;subst hF
    rintro u' rfl
    have hgd:=aq_ u
    have hpd:=hpu.grow hgd
    have hcd:IsC u.drew cb d:=hgd.heap hcu (fun q=>q)
    have kd:ab_ (fun k=>k=cb) w u.drew:=hku.grow hgd
    generalize u.drew=u' at *
    obtain⟨_,hc2⟩:=by_ hpd (i:=2) o_
    refine⟨fun o=>o=u',rfl,⟨d_,o_,ha⟩,_,fun o e=>by rw[e];exact hc2,⟨d_,o_,ha⟩,_,fun o e=>by rw[e];exact hc2,rfl,?_⟩
    have e6:bJ_ .u8 (bN l 2:Int) 6=((bN l 2/64:Nat):Int):=shr .u8 _ 6 d_
    have e63:br_ .u8 (bN l 2:Int) 63=((bN l 2 &&& 63:Nat):Int):=kn_ (B 2) (m:=63) d_
    rw[e6,e63]
    refine hcd.put {d with control:=bN l 2/64} rfl d_ rfl fun w3 h3 k3 s3=>⟨rfl,?_⟩
    exact h3.put {d with control:=bN l 2/64,page:=bN l 2 &&& 63} rfl d_ rfl fun w4 h4 k4 s4=>hR w4 (by rw[←hd] at h4;exact h4) ((kd.trans k3 fun _ _ q=>q).trans k4 fun _ _ q=>q)
   ·rw[if_pos o_] at hF;subst hF
    obtain⟨_,hc1⟩:=by_ hpu (i:=1) o_
    refine⟨⟨d_,o_,ha⟩,_,hc1,rfl,?_⟩
    rw[t6_ (B 1)]
    refine hcu.put {d with save:=decide (bN l 1%2=1)} rfl d_ rfl fun w3 h3 k3 s3=>?_
    obtain⟨_,hc1'⟩:=by_ (il_ hpu hn k3) (i:=1) o_
    refine⟨⟨d_,o_,ha⟩,_,hc1',?_⟩
    have e16:br_ .u8 (bN l 1:Int) 16=((bN l 1 &&& 16:Nat):Int):=kn_ (B 1) (m:=16) d_
    rw[e16]
    have hR:=hR w3 (by rw[←hd] at h3;exact h3) (hku.trans k3 fun _ _ q=>q)
    dsimp only at hR
    refine aw_ (fun z=>?_) (fun z=>?_)
    ·rw[if_pos o_] at hR;exact hR
    ·rw[if_neg o_] at hR;exact hR
  ·refine a6_ (fun q10=>?_) (fun q10=>?_)
   ·have:=n2 7
    refine bV_ (at_:=7) (n:=2) hp2 d_ d_ o_ ⟨rfl,?_⟩
    rw[w64 (n:=(nuN l 7 2:Int)) o_ o_]
    refine h2.put {c with long:=decide (l.length=10),alloc:=(nuN l 7 2:Int)} rfl d_ rfl fun w3 h3 k3 s3=>J w3 ⟨?_,(k1.trans k2 fun _ _ q=>q).trans k3 fun _ _ q=>q⟩
    rw[←hd,if_pos q10];exact h3
   ·refine J w2 ⟨?_,k1.trans k2 fun _ _ q=>q⟩
    rw[←hd,if_neg q10];exact h2
 rw[if_neg (fun q=>q45 (.inl q)),if_neg (fun q=>q45 (.inr q))] at hF
 refine aw_ (fun q=>?_) (fun q6=>?_)
 ·have q:c.kind=6:=o_
  have hlen:=hl.c q
  rw[if_pos q] at hF;subst hF
  have e16:((p.n:Int)==16)=decide (l.length=16):=by rw[Bool.eq_iff_iff,beq_iff_eq,decide_eq_true_eq];omega
  rw[e16]
  refine⟨rfl,h.put {c with long:=decide (l.length=16)} rfl d_ rfl fun w1 h1 k1 s1=>⟨rfl,decide (l.length=16),h1.cell rfl,?_⟩⟩
  refine a6_ (fun z=>?_) (fun z=>?_)
  ·have:=n4 10
   refine bV_ (at_:=10) (n:=4) (il_ hp hn k1) d_ d_ o_ ⟨rfl,?_⟩
   rw[w64 (n:=(nuN l 10 4:Int)) o_ o_]
   refine h1.put {c with long:=decide (l.length=16),alloc:=(nuN l 10 4:Int)} rfl d_ rfl fun w2 h2 k2 s2=>hR w2 ?_ (k1.trans k2 fun _ _ q=>q)
   rw[if_pos z];exact h2
  ·refine hR w1 ?_ k1
   rw[if_neg z];exact h1
 rw[if_neg o_] at hF
 refine bw_ (fun x v=>w=v∧x=decide (7≤c.kind∧c.kind≤7+5)) ?_ (fun J=>or6 (a:=7) J)
 rintro x v ⟨rfl,rfl⟩
 refine a6_ (fun q=>?_) (fun q7=>?_)
 ·rw[if_pos o_] at hF;subst hF
  exact t5_ h hp hn (hl.d q.1 q.2) hk hR
 rw[if_neg o_] at hF
 refine aw_ (fun q=>?_) (fun q13=>?_)
 ·have hlen:=hl.e (.inl o_)
  rw[if_pos o_] at hF;subst hF
  have:=n2 7
  refine bV_ (at_:=7) (n:=2) hp d_ d_ o_ ⟨rfl,?_⟩
  rw[w64 (n:=(nuN l 7 2:Int)) o_ o_]
  exact h.put {c with alloc:=(nuN l 7 2:Int)} rfl d_ rfl fun w1 h1 k1 s1=>hR w1 h1 k1
 rw[if_neg o_] at hF
 have drw:∀{K:W_},(∀u,IsC u cb c→Rd u 1 p (bv l)→ab_ (fun k=>k=cb) w u→K u)→∀u,u=w.drew→K u:=fun hK u e=>by
  subst e
  exact hK _ ((aq_ w).heap h (fun q=>q)) (hp.grow (aq_ w)) ((aq_ w).mono fun _ _ q=>q.elim)
 refine aw_ (fun q=>?_) (fun q14=>?_)
 ·have hlen:=hl.f (.inl o_)
  rw[if_pos o_] at hF;subst hF
  refine drw fun u hcu hpu ku=>?_
  obtain⟨ha,hc13⟩:=by_ hpu (i:=13) o_
  have:=B 13
  refine⟨fun o=>o=u,rfl,⟨d_,o_,ha⟩,_,fun o e=>by rw[e];exact hc13,bV_ (at_:=2) (n:=8) hpu d_ d_ o_ ⟨rfl,rfl,?_⟩⟩
  refine hcu.put {c with lba:=nuN l 2 8} rfl d_ rfl fun w1 h1 k1 s1=>⟨rfl,?_⟩
  rw[ea_ (n:=(bN l 13:Int)) o_ o_]
  refine h1.put {c with lba:=nuN l 2 8,blocks:=bN l 13} rfl d_ rfl fun w2 h2 k2 s2=>?_
  rintro u2 rfl
  have hgd:=aq_ w2
  have hpd:=(il_ (il_ hpu hn k1) hn k2).grow hgd
  have hcd:IsC w2.drew cb _:=hgd.heap h2 (fun q=>q)
  have kd:ab_ (fun k=>k=cb) w w2.drew:=((ku.trans k1 fun _ _ q=>q).trans k2 fun _ _ q=>q).grow hgd
  generalize w2.drew=u2 at *
  obtain⟨_,hc1⟩:=by_ hpd (i:=1) o_
  refine⟨fun o=>o=u2,rfl,⟨d_,o_,ha⟩,_,fun o e=>by rw[e];exact hc1,⟨d_,o_,ha⟩,_,fun o e=>by rw[e];exact hc1,rfl,?_⟩
  have e8:((br_ .u8 (bN l 1:Int) 8) != 0)=decide (bN l 1 &&& 8≠0):=(congrArg (·!= 0) (kn_ (B 1) (m:=8) d_)).trans neI
  rw[yZ_,e8]
  refine hcd.put {c with lba:=nuN l 2 8,blocks:=bN l 13,prot:=bN l 1/32} rfl d_ rfl fun w3 h3 k3 s3=>⟨rfl,?_⟩
  exact h3.put {c with lba:=nuN l 2 8,blocks:=bN l 13,prot:=bN l 1/32,fua:=decide (bN l 1 &&& 8≠0)} rfl d_ rfl fun w4 h4 k4 s4=>hR w4 h4 ((kd.trans k3 fun _ _ q=>q).trans k4 fun _ _ q=>q)
 rw[if_neg o_] at hF
 refine aw_ (fun q=>?_) (fun q15=>?_)
 ·have hlen:=hl.e (.inr (.inl o_))
  rw[if_pos o_] at hF;subst hF
  have:=n2 7
  refine bV_ (at_:=7) (n:=2) hp d_ d_ o_ ⟨rfl,?_⟩
  refine h.put {c with service:=sv} rfl d_ rfl fun w1 h1 k1 s1=>⟨rfl,?_⟩
  rw[w64 (n:=(nuN l 7 2:Int)) o_ o_]
  exact h1.put {c with service:=sv,alloc:=(nuN l 7 2:Int)} rfl d_ rfl fun w2 h2 k2 s2=>hR w2 h2 (k1.trans k2 fun _ _ q=>q)
 rw[if_neg o_] at hF
 refine aw_ (fun q=>?_) (fun q16=>?_)
 ·have hlen:=hl.e (.inr (.inr o_))
  rw[if_pos o_] at hF;subst hF
  refine drw fun u hcu hpu ku=>?_
  obtain⟨ha,hc2⟩:=by_ hpu (i:=2) o_
  have:=n4 5
  refine⟨fun o=>o=u,rfl,⟨d_,o_,ha⟩,_,fun o e=>by rw[e];exact hc2,bV_ (at_:=5) (n:=4) hpu d_ d_ o_ ⟨rfl,rfl,?_⟩⟩
  have e15:br_ .u8 (bN l 2:Int) 15=((bN l 2 &&& 15:Nat):Int):=kn_ (B 2) (m:=15) d_
  rw[e15]
  refine hcu.put {c with service:=sv} rfl d_ rfl fun w1 h1 k1 s1=>⟨rfl,?_⟩
  refine h1.put {c with service:=sv,type:=bN l 2 &&& 15} rfl d_ rfl fun w2 h2 k2 s2=>⟨rfl,?_⟩
  rw[w64 (n:=(nuN l 5 4:Int)) o_ o_]
  exact h2.put {c with service:=sv,type:=bN l 2 &&& 15,alloc:=(nuN l 5 4:Int)} rfl d_ rfl fun w3 h3 k3 s3=>hR w3 h3 (((ku.trans k1 fun _ _ q=>q).trans k2 fun _ _ q=>q).trans k3 fun _ _ q=>q)
 rw[if_neg o_] at hF
 refine aw_ (fun q=>?_) (fun q17=>?_)
 ·have hlen:=hl.g o_
  rw[if_pos o_] at hF;subst hF
  refine drw fun u hcu hpu ku=>?_
  obtain⟨ha,hc2⟩:=by_ hpu (i:=2) o_
  have:=n4 6
  refine⟨fun o=>o=u,rfl,⟨d_,o_,ha⟩,_,fun o e=>by rw[e];exact hc2,bV_ (at_:=6) (n:=4) hpu d_ d_ o_ ⟨rfl,rfl,?_⟩⟩
  refine hcu.put {c with page:=bN l 2} rfl d_ rfl fun w1 h1 k1 s1=>⟨rfl,?_⟩
  rw[w64 (n:=(nuN l 6 4:Int)) o_ o_]
  refine h1.put {c with page:=bN l 2,alloc:=(nuN l 6 4:Int)} rfl d_ rfl fun w2 h2 k2 s2=>⟨rfl,(bN l 2:Int),h2.cell rfl,?_⟩
  have hR:=hR w2 h2 ((ku.trans k1 fun _ _ q=>q).trans k2 fun _ _ q=>q)
  dsimp only at hR
  refine aw_ (fun z=>?_) (fun z=>?_)
  ·rw[if_pos o_] at hR;exact hR
  ·rw[if_neg o_] at hR;exact hR
 rw[if_neg o_] at hF
 refine aw_ (fun q=>?_) (fun q18=>?_)
 ·have hlen:=hl.f (.inr o_)
  rw[if_pos o_] at hF;subst hF
  have:=n4 10
  refine bV_ (at_:=10) (n:=4) hp d_ d_ o_ ⟨rfl,?_⟩
  rw[w64 (n:=(nuN l 10 4:Int)) o_ o_]
  exact h.put {c with alloc:=(nuN l 10 4:Int)} rfl d_ rfl fun w1 h1 k1 s1=>hR w1 h1 k1
 rw[if_neg o_] at hF
 subst hF
 exact hR w h (ab_.refl _ _)
end
open Go CF
def t7_ (k n:Nat):Bool:=(!(k==2||k==3)||n==6)&&(!(k==4||k==5)||(n==6||n==10))&&(!(k==6)||(n==10||n==16))&&(!(Nat.ble 7 k&&Nat.ble k 12)||(n==6||n==10||n==16))&&(!(k==13||k==15||k==16)||n==10)&&(!(k==14||k==18)||n==16)&&(!(k==17)||n==12)
theorem qP_.of {k n:Nat} (h:t7_ k n=true):qP_ k n:=by
 unfold t7_ at h
 simp only[Bool.and_eq_true,Bool.or_eq_true,Bool.not_eq_true',Bool.or_eq_false_iff,beq_eq_false_iff_ne,beq_iff_eq,Nat.ble_eq,Bool.and_eq_false_iff,ne_eq] at h
 obtain⟨⟨⟨⟨⟨⟨a,b⟩,c⟩,d⟩,e⟩,f⟩,g⟩:=h
 have bl:∀x y:Nat,Nat.ble x y=false→¬x≤y:=fun x y q r=>by rw[Nat.ble_eq_true_of_le r] at q;cases q
 have d:(¬7≤k∨¬k≤12)∨n=6∨n=10∨n=16:=by
  rcases d with(d|d)|d
  ·exact .inl (.inl (bl _ _ d))
  ·exact .inl (.inr (bl _ _ d))
  ·omega
 exact⟨o_,o_,o_,o_,o_,o_,o_⟩
theorem wL_ {op sv:Nat} {m:L8} {b:Bool} (h:ik_ op sv=some (m,b)):t7_ (gN_ op) m.length=true:=
 oV_ (P:=fun op m=>t7_ (gN_ op) m.length=true) h rfl rfl rfl rfl rfl rfl rfl rfl rfl rfl rfl rfl rfl rfl rfl rfl rfl rfl rfl rfl rfl rfl rfl rfl rfl rfl rfl
theorem vt_ {op sv:Nat} {m:L8} {b:Bool} (h:ik_ op sv=some (m,b)):6≤m.length∧m.length≤16:=
 oV_ (P:=fun _ m=>6≤m.length∧m.length≤16) h ⟨d_,d_⟩ ⟨d_,d_⟩ ⟨d_,d_⟩ ⟨d_,d_⟩ ⟨d_,d_⟩ ⟨d_,d_⟩ ⟨d_,d_⟩ ⟨d_,d_⟩ ⟨d_,d_⟩ ⟨d_,d_⟩ ⟨d_,d_⟩ ⟨d_,d_⟩ ⟨d_,d_⟩ ⟨d_,d_⟩ ⟨d_,d_⟩ ⟨d_,d_⟩ ⟨d_,d_⟩ ⟨d_,d_⟩ ⟨d_,d_⟩ ⟨d_,d_⟩ ⟨d_,d_⟩ ⟨d_,d_⟩ ⟨d_,d_⟩ ⟨d_,d_⟩ ⟨d_,d_⟩ ⟨d_,d_⟩ ⟨d_,d_⟩
theorem xC_ {p:Prop} [Decidable p] {a b n:Nat} (ha:a<n) (hb:b<n):(if p then a else b)<n:=by split<;>assumption
theorem wM_ (op:Nat):gN_ op<256:=by
 unfold gN_
 repeat' (first|exact xC_ d_ d_|refine xC_ d_ ?_)
def c0C:Cm:=⟨0,false,0,0,0,false,0,false,false,0,0,false,0,0,false⟩
def lX_ (f b:Int):Sn:=⟨5,9216,0,false,f,b,true,true⟩
def opS:Sn:=⟨5,8192,0,false,0,7,true,true⟩
def svd (op:Nat):Bool:=op==94||op==95||op==131||op==158
def jH_ (p:L8):Nat:=if svd (bN p 0) then bN p 1 &&& 31 else 0
def qQ_ (op:Nat) (q:L8) (sv:Nat):Cm×Sn×Bool:=match (im_ {c0C with kind:=gN_ op} q sv).2 with
 | some (f,b)=>(c0C,lX_ f b,false)
 | none=>((im_ {c0C with kind:=gN_ op} q sv).1,sn0,true)
def aR_ (p:L8):Cm×Sn×Bool:=
 if p = [] then(c0C,lX_ 0 (-1),false)
 else if svd (bN p 0)=true∧p.length<2 then(c0C,lX_ 1 (-1),false)
 else match ik_ (bN p 0) (jH_ p) with
  | none=>(c0C,opS,false)
  | some (m,ok)=>
   if p.length<m.length then(c0C,lX_ p.length (-1),false)
   else match gi_ (p.take m.length) m 0 with
    | some (i,b)=>(c0C,lX_ i b,false)
    | none=>if ok=false then(c0C,lX_ 1 4,false) else qQ_ (bN p 0) (p.take m.length) (jH_ p)
section
variable {w:World} {p:Sl} {l:L8}
theorem e2_ {f b:Int} {R:A_→W_} (h:∀w',ac_ w w'→R (snv (lX_ f b)).toArray w'):df_ f b w R:=by
 refine i0_.calls _ _ _ _ (ah_ fun ab w1 hab hb1 hg1 hsz1=>?_)
 refine ar_ (cells:=(snv (lX_ f b)).toArray) hb1 ba_ rfl rfl (by simp[snv,Value.oneCell']) fun w2 hb2 hk2 hs2=>⟨_,aC_ fh_ ba_ rfl (ax_ hb2),h w2 (hg1.keep hk2 fun i hi q=>o_)⟩
theorem zR_ {R:A_→A_→Bool→W_} {u:World} {ab sb:Nat} {x y:A_} {c:Cm} {s:Sn} {b:Bool} (hg:ac_ w u) (ha:Blk u ab x aD_) (hs:Blk u sb y aL_) (xs:x.size=15) (ys:y.size=8) (la:w.heap.size≤ab) (ls:w.heap.size≤sb)
  (hR:∀w',ac_ w w'→R (cmv c).toArray (snv s).toArray b w'):ag_ Tryz.prog (storeVar aD_ ⟨ab,0,none⟩ (.agg (cmv c).toArray)) u fun w1=>ag_ Tryz.prog (storeVar aL_ ⟨sb,0,none⟩ (.agg (snv s).toArray)) w1 fun w2=>
   ∃res:A_,(loadVar aD_ ⟨ab,0,none⟩).run Tryz.prog w2=.ok (.agg res) w2∧∃res1:A_,(loadVar aL_ ⟨sb,0,none⟩).run Tryz.prog w2=.ok (.agg res1) w2∧R res res1 b w2:=by
 have ne:ab≠sb:=fun q=>by subst q;exact absurd (bs_ ha hs) d_
 refine ar_ (cells:=(cmv c).toArray) ha g9_ rfl xs (by simp[cmv,Value.oneCell']) fun w1 h1 k1 s1=>?_
 have hs1:=k1.heap hs (fun q=>ne q.symm)
 refine ar_ (cells:=(snv s).toArray) hs1 ba_ rfl ys (by simp[snv,Value.oneCell']) fun w2 h2 k2 s2=>?_
 have h12:=k2.heap h1 (fun q=>ne q)
 exact⟨_,aC_ pV_ g9_ rfl (ax_ h12),_,aC_ fh_ ba_ rfl (ax_ h2),hR w2 ((hg.keep k1 fun i hi q=>o_).keep k2 fun i hi q=>o_)⟩
theorem qe_ {R:A_→A_→Bool→W_} (hp:Rd w 1 p (bv l)) (hR:∀w',ac_ w w'→R (cmv (aR_ l).1).toArray (snv (aR_ l).2.1).toArray (aR_ l).2.2 w'):lr_ p w R:=by
 refine iZ_.calls _ _ _ ?_
 have hpn:=dj_ hp
 have hcap:=hp.cap
 have hnb:=hp.nb
 refine ah_ fun ab w1 hab ha1 hg1 hsz1=>ah_ fun sb w2 hsb hs2 hg2 hsz2=>?_
 have ha2:=hg2.heap ha1 (fun q=>q)
 have hg12:=hg1.trans hg2
 generalize hX:aR_ l=X at hR
 obtain⟨xc,xs,xb⟩:=X
 unfold aR_ at hX
 have ext:∀{c:Cm} {s:Sn} {b:Bool} {u:World},(c,s,b)=(xc,xs,xb)→ac_ w2 u→ag_ Tryz.prog (storeVar aD_ ⟨ab,0,none⟩ (.agg (cmv c).toArray)) u fun w1=>ag_ Tryz.prog (storeVar aL_ ⟨sb,0,none⟩ (.agg (snv s).toArray)) w1 fun w2=>
   ∃res:A_,(loadVar aD_ ⟨ab,0,none⟩).run Tryz.prog w2=.ok (.agg res) w2∧∃res1:A_,(loadVar aL_ ⟨sb,0,none⟩).run Tryz.prog w2=.ok (.agg res1) w2∧R res res1 b w2:=fun {c s b u} e g=>by
  injection e with e1 e;injection e with e2 e3
  subst e1;subst e2;subst e3
  exact zR_ (hg12.trans g) (g.heap ha2 (fun q=>q)) (g.heap hs2 (fun q=>q)) rfl rfl o_ (by have:=hg1.size;omega) hR
 have e0:((p.n:Int)==0)=decide (l = []):=by rw[Bool.eq_iff_iff,beq_iff_eq,decide_eq_true_eq,←List.length_eq_zero_iff];omega
 rw[e0]
 refine a6_ (fun q=>?_) (fun q=>?_)
 ·rw[if_pos q] at hX
  exact e2_ fun u g=>ext (c:=c0C) hX g
 rw[if_neg q] at hX
 have hl1:1≤l.length:=by have:=List.length_pos_iff.2 q;omega
 have hp2:=hp.grow hg12
 obtain⟨ha,hc0⟩:=oW_ hp2 (i:=0) o_
 refine⟨⟨d_,o_,ha⟩,_,hc0,?_⟩
 have hop:=nc_ l 0
 have esv:((((((bN l 0:Nat):Int)==94)||(((bN l 0:Nat):Int)==95))||(((bN l 0:Nat):Int)==131))||(((bN l 0:Nat):Int)==158))=svd (bN l 0):=by
  unfold svd
  have e:∀k:Nat,(((bN l 0:Nat):Int)==(k:Int))=(bN l 0==k):=fun k=>by rw[Bool.eq_iff_iff,beq_iff_eq,beq_iff_eq];omega
  rw[←e 94,←e 95,←e 131,←e 158]
  rfl
 rw[esv]
 refine bw_ (fun sv u=>u=w2∧sv=(jH_ l:Int)∧¬(svd (bN l 0)=true∧l.length<2)) ?_ (fun J=>?_)
 ·rintro sv u ⟨rfl,rfl,hns⟩
  rw[if_neg hns] at hX
  refine t3_ fun ms ok v hgv hm=>?_
  cases hmx:ik_ (bN l 0) (jH_ l) with
  | none=>
   rw[hmx] at hX hm
   obtain⟨rfl,rfl⟩:=hm
   exact ao_ rfl (ext (c:=c0C) (s:=opS) hX hgv)
  | some mo=>
   obtain⟨m,okm⟩:=mo
   rw[hmx] at hX hm
   obtain⟨hmr,hmA,rfl⟩:=hm
   dsimp only at hX
   have hmn:=dj_ hmr
   have hms:=vt_ hmx
   refine al_ (by cases hA:ms.A with|none=>rw[hA] at hmA;cases hmA|some a=>rfl) ?_
   have elt:(decide ((p.n:Int)<(ms.n:Int)))=decide (l.length<m.length):=by rw[decide_eq_decide];omega
   rw[elt]
   refine a6_ (fun q=>?_) (fun q=>?_)
   ·rw[if_pos q] at hX
    rw[←hpn]
    exact e2_ fun u g=>ext (c:=c0C) hX (hgv.trans g)
   rw[if_neg q] at hX
   have hpv:=hp2.grow hgv
   have hcut:Rd v 1 ⟨aP_ p.A p.c 0 1,((ms.n:Int).toNat-0),p.c-0⟩ (bv (l.take m.length)):=by
    have:=hpv.cutB (l:=0) (k:=m.length) (Nat.zero_le _) o_
    rw[List.drop_zero,Nat.sub_zero] at this
    have e:((ms.n:Int).toNat-0)=m.length:=o_
    rw[e];exact this
   refine⟨⟨o_,o_,o_,hcap⟩,rQ_ hcut hmr ?_⟩
   cases hox:gi_ (l.take m.length) m 0 with
   | some ib=>
    obtain⟨i,b⟩:=ib
    rw[hox] at hX
    dsimp only at hX ⊢
    refine ao_ (by rw[decide_eq_true_eq];omega) ?_
    exact e2_ fun u g=>ext (c:=c0C) hX (hgv.trans g)
   | none=>
    rw[hox] at hX
    dsimp only at hX ⊢
    refine al_ rfl ?_
    cases ok with
    | false=>
     rw[if_pos rfl] at hX
     exact ao_ rfl (e2_ fun u g=>ext (c:=c0C) hX (hgv.trans g))
    | true=>
     rw[if_neg d_] at hX
     refine al_ rfl (sG_ (ah_ fun cb w3 hcb hc3 hg3 hsz3=>?_))
     refine ar_ (cells:=(cmv {c0C with kind:=gN_ (bN l 0)}).toArray) hc3 g9_ rfl rfl (by simp[cmv,Value.oneCell']) fun w4 hc4 hk4 hs4=>?_
     have hg4:ac_ v w4:=hg3.keep hk4 fun i hi q=>o_
     have hcutb:∀a,aP_ p.A p.c 0 1=some a→a.block≠cb:=fun a hac q=>by
      have hne:bv (l.take m.length)≠[]:=fun e=>by
       have:=congrArg List.length e
       rw[az_,List.length_take,List.length_nil] at this;omega
      obtain⟨a',ha',hcl⟩:=hcut.at_ hne
      have:aP_ p.A p.c 0 1=some a':=ha'
      rw[this] at hac;injection hac with hac
      subst hac
      have:=m1_ (hcl 0 _ (List.getElem?_eq_getElem (by rw[az_,List.length_take];omega)))
      rw[jZ_] at this
      omega
     have hlen:(l.take m.length).length=m.length:=by rw[List.length_take];omega
     refine vs_ (c:={c0C with kind:=gN_ (bN l 0)}) hc4 (hcut.grow hg4) hcutb (qP_.of (by rw[hlen];exact wL_ hmx)) (wM_ _) fun w5 hc5 hk5=>?_
     have hg5:ac_ v w5:=hg4.keep hk5 fun i hi q=>o_
     have hX:qQ_ (bN l 0) (l.take m.length) (jH_ l)=(xc,xs,xb):=hX
     unfold qQ_ at hX
     cases hf:(im_ {c0C with kind:=gN_ (bN l 0)} (l.take m.length) (jH_ l)).2 with
     | some fb=>
      obtain⟨f,b⟩:=fb
      rw[hf] at hX
      refine ao_ (by rw[decide_eq_true_eq];omega) ?_
      exact e2_ fun u g=>ext (c:=c0C) hX ((hgv.trans hg5).trans g)
     | none=>
      rw[hf] at hX
      dsimp only at hX
      generalize (im_ {c0C with kind:=gN_ (bN l 0)} (l.take m.length) (jH_ l)).1=d at hc5 hX
      refine al_ rfl ⟨_,oG_ (c:=d) (ax_ hc5),?_⟩
      exact ext (c:=d) (s:=sn0) hX (hgv.trans hg5)
 ·cases hsv:svd (bN l 0) with
  | true=>
   refine ao_ rfl ?_
   have e2:(decide ((p.n:Int)<2))=decide (l.length<2):=by rw[decide_eq_decide];omega
   rw[e2]
   refine a6_ (fun q=>?_) (fun q=>?_)
   ·rw[if_pos ⟨hsv,q⟩] at hX
    exact e2_ fun u g=>ext (c:=c0C) hX g
   ·obtain⟨_,hc1⟩:=oW_ hp2 (i:=1) o_
    refine⟨⟨d_,o_,ha⟩,_,hc1,J _ _ ⟨rfl,?_,fun r=>q r.2⟩⟩
    unfold jH_
    rw[hsv,if_pos rfl]
    exact kn_ (nc_ l 1) (m:=31) d_
  | false=>
   refine al_ rfl (J _ _ ⟨rfl,?_,fun r=>by rw[hsv] at r;exact absurd r.1 d_⟩)
   unfold jH_
   rw[hsv];rfl
end
open Go CF
inductive qR_ where
 | bad (s:Sn)
 | told (c:Nat)
 | conflict
 | prot
 | run (c:Cm)
def f9_ (k:Nat):Bool:=k==3||k==17||k==2
def cl_ (s:USt) (n:Nat) (l:L8):qR_:=
 if (aR_ l).2.2=false then .bad (aR_ l).2.1
 else match cW_ (s.q n),f9_ (aR_ l).1.kind with
  | some c,false=>.told c
  | _,_=>if a4_ s.tab n (fV_ (aR_ l).1.kind)=true then .conflict else if (fl_ (aR_ l).1.kind&&s.now.swp)=true then .prot else .run (aR_ l).1
def ak_ (s:USt):USt:={s with count:=s.count+1}
def a1_ (s:USt) (n:Nat):USt:={s with q:=fun t=>if t=n then hH_ (s.q n) else s.q t}
def dk_ (ab:Nat) (R:A_→W_) (g:A_) (v:World):Prop:=ag_ Tryz.prog (storeVar aa_ ⟨ab,0,none⟩ (.agg g)) v fun w'=>∃res:A_,(loadVar aa_ ⟨ab,0,none⟩).run Tryz.prog w'=.ok (.agg res) w'∧R res w'
section
variable {w u v:World} {N N' S:Nat→Prop} {pw i n:Nat} {a:UA} {s s1:USt} {st st1:Wst} {F:Int→Bool} {ℓ ℓ':Nat→Option Nat} {us:List (UA×USt)} {p out:Sl} {l:L8}
theorem e3_ {t:TypeId} (h1:t≠cz_) (h2:t≠aJ_) (h3:t≠aI_):¬kL_ t:=fun q=>by
 rcases q with q|q|q
 ·exact h1 q
 ·exact h2 q
 ·exact h3 q
theorem Sys.fresh (H:Sys w ℓ pw st F us) {b:Nat} (hb:w.heap.size≤b):ℓ b=none:=by
 cases hq:ℓ b with
 | none=>rfl
 | some x=>have:=H.lt b (by rw[hq];exact Option.some_ne_none _);omega
theorem Sys.local1 (H:Sys u ℓ pw st F us) {b:Nat} {cs:A_} {t:TypeId} (hb:Blk u b cs t) (hn:ℓ b=none) (k:ab_ (fun k=>k=b) u v) (ht:¬kL_ t) (ht2:t≠ae_):Sys v ℓ pw st F us:=H.loc k (qO_.one hb hn ht ht2)
theorem dk_.of {ab x:Nat} {sn:Sn} {d:Sl} {cs:A_} {R:A_→W_} (hb:Blk v ab cs aa_) (hs:cs.size=10) (h:∀v',ab_ (fun k=>k=ab) v v'→R (rsv x sn d).toArray v'):dk_ ab R (rsv x sn d).toArray v:=bm_ hb hs h
theorem dk_.sys {ab x:Nat} {sn:Sn} {d:Sl} {cs:A_} {R:A_→W_} (H:Sys v ℓ pw st F us) (hm:Mv w v ℓ' ℓ) (hw:w.heap.size≤ab) (hn:ℓ ab=none) (hb:Blk v ab cs aa_) (hs:cs.size=10)
  (h:∀v',ab_ (fun k=>k=ab) v v'→Mv w v' ℓ' ℓ→Sys v' ℓ pw st F us→R (rsv x sn d).toArray v'):dk_ ab R (rsv x sn d).toArray v:=
 dk_.of hb hs fun v' k=>h v' k (hm.loc k fun b hb q=>o_) (H.local1 hb hn k (e3_ d_ d_ d_) d_)
theorem vu_ {R:A_→W_} (H:Sys w ℓ pw st F us) (hi:i<us.length) (he:us[i]=(a,s)) (hn:n<8) (hct:s.count<1000000000000) (hp:RdX w ℓ 1 p (bv l))
  (hstart:∀u,Mv w u ℓ ℓ→Sys u ℓ pw st F (us.set i (a,ak_ s))→∀K:Int→W_,(∀u' ℓ',Mv u u' ℓ ℓ'→Sys u' ℓ' pw st1 F (us.set i (a,s1))→K 0 u')→bT_ (some ⟨a.ub,0,none⟩) u K)
  (hR:∀ℓ1,match cl_ s1 n l with
   | .bad sn=>∀u,Mv w u ℓ ℓ1→Sys u ℓ1 pw st1 F (us.set i (a,s1))→R (rsv 2 sn ap_).toArray u
   | .told c=>∀u,Mv w u ℓ ℓ1→Sys u ℓ1 pw st1 F (us.set i (a,a1_ s1 n))→R (rsv 2 ⟨6,c,0,false,0,0,false,false⟩ ap_).toArray u
   | .conflict=>∀u,Mv w u ℓ ℓ1→Sys u ℓ1 pw st1 F (us.set i (a,s1))→R (rsv 24 sn0 ap_).toArray u
   | .prot=>∀u,Mv w u ℓ ℓ1→Sys u ℓ1 pw st1 F (us.set i (a,s1))→R (rsv 2 ⟨7,9984,0,false,0,0,false,false⟩ ap_).toArray u
   | .run c=>∀u ab,Mv w u ℓ ℓ1→Sys u ℓ1 pw st1 F (us.set i (a,s1))→Blk u ab z10 aa_→w.heap.size≤ab→ℓ1 ab=none→bp_ (some ⟨a.ub,0,none⟩) (n:Int) (cmv c).toArray out u (dk_ ab R)):aM_ (some ⟨a.ub,0,none⟩) (n:Int) p out w R:=by
 refine fb_.calls _ _ _ _ _ _ (ah_ fun ab w0 hab hb0 hg0 hs0=>?_)
 have hb0:Blk w0 ab z10 aa_:=hb0
 have hab':w.heap.size≤ab:=o_
 have hfab:ℓ ab=none:=H.fresh hab'
 have H0:=H.grow hg0
 obtain⟨hU,hown⟩:=H0.at hi he
 obtain⟨z1,z2,z3,z4,z5,z6,z7⟩:=dC_ a
 refine⟨fun _=>rfl,some ⟨a.dv,0,none⟩,fun _=>hU.cellU fun P=>rfl,al_ (by simp;omega) ⟨rfl,?_⟩⟩
 rw[show(gA (some (⟨a.ub,0,none⟩:Addr))).add 15=⟨a.ub,15,none⟩ by rw[gA,am_]]
 obtain⟨P,hP1,hP2⟩:=hU.unit
 refine oR_ (o:=15) (n:=(s.count:Int)) (s:=((s.count+1:Nat):Int)) hP1 rfl (by rw[w64 o_ o_];omega) fun w1 hb1 hk1 hs1=>?_
 have sf:bg_ w0 (fun k=>ℓ k≠none) fun b=>b=a.ub:=bg_.sub fun b _ q=>by rw[q,hown _ z1];exact Option.some_ne_none _
 have hU1:IsU w1 (fun k=>ℓ k≠none) pw a (ak_ s):=hU.unitC (on:=s.on) (lk:=s.lock) (fl:=s.fault) (ct:=s.count+1) (ps:=s.peers) hk1 sf (fun b _ hne q=>hne q) (fun _ q=>.inl q) ⟨P,hb1,hP2.step (.inr (.inr rfl)) hk1 sf fun _ q=>.inl q⟩
 obtain⟨m1,H1⟩:=H0.putA hi he hk1 (fun b _ q=>by rw[q];exact z1) hU1
 have hi1:i<(us.set i (a,ak_ s)).length:=by rw[List.length_set];exact hi
 have m01:Mv w w1 ℓ ℓ:=(Mv.grow hg0).trans m1
 refine hstart w1 m01 H1 _ fun w2 ℓ2 m12 H2=>al_ rfl ?_
 have hR:=hR ℓ2
 have m02:=m01.trans m12
 have hab2:Blk w2 ab z10 aa_:=(m1.trans m12).heap hb0 hfab
 have hfab:ℓ2 ab=none:=(m12.lab ab (au_ (m1.heap hb0 hfab))).trans hfab
 have hi1:i<(us.set i (a,s1)).length:=by rw[List.length_set];exact hi
 refine qe_ (m02.rdX hp).rd fun w3 hg3=>?_
 have m03:=m02.go hg3
 have H3:=H2.grow hg3
 have hab3:Blk w3 ab z10 aa_:=hg3.heap hab2 (fun q=>q)
 generalize hX:aR_ l=X
 obtain⟨c,sn,ok⟩:=X
 unfold cl_ at hR
 rw[hX] at hR
 dsimp only
 refine ah_ fun cb w4 hcb hb4 hg4 hs4=>ah_ fun sb w5 hsb hb5 hg5 hs5=>?_
 have hcn:ab≠cb∧ab≠sb:=by
  have:=au_ hab3
  have:=hg4.size
  omega
 refine ar_ (cells:=(cmv c).toArray) (hg5.heap hb4 (fun q=>q)) g9_ rfl rfl (by simp[cmv,Value.oneCell']) fun w6 hb6 hk6 hs6=>?_
 have hb56:=hk6.heap hb5 (fun q=>o_)
 refine ar_ (cells:=(snv sn).toArray) hb56 ba_ rfl rfl (by simp[snv,Value.oneCell']) fun w7 hb7 hk7 hs7=>?_
 have hg37:ac_ w3 w7:=(((hg4.trans hg5).keep hk6 fun i hi q=>o_).keep hk7 fun i hi q=>by have:=hg4.size;omega)
 have hb67:Blk w7 cb (cmv c).toArray aD_:=hk7.heap hb6 (fun q=>o_)
 have m07:=m03.go hg37
 have H7:=H3.grow hg37
 have hab7:Blk w7 ab z10 aa_:=hg37.heap hab3 (fun q=>q)
 have c0:∀{v:World},Blk v cb (cmv c).toArray aD_→v.cell? ((⟨cb,0,none⟩:Addr).add 0)=some (.int .u8 (c.kind:Int)):=fun q=>by rw[am_,q.cell];rfl
 cases ok with
 | false=>
  refine ao_ rfl ⟨(snv sn).toArray,aC_ (cs:=snv sn) fh_ ba_ rfl (ax_ hb7),bE_ fun w8 hg8=>?_⟩
  rw[if_pos rfl] at hR
  exact dk_.sys (H7.grow hg8) (m07.go hg8) hab' hfab (hg8.heap hab7 (fun q=>q)) rfl fun v k hm hs=>hR v hm hs
 | true=>
  rw[if_neg (fun q=>Bool.noConfusion q)] at hR
  dsimp only at hR
  refine al_ rfl ⟨(c.kind:Int),c0 hb67,(c.kind:Int),fun _=>c0 hb67,(c.kind:Int),fun _=>c0 hb67,rfl,?_⟩
  obtain⟨hU7,hown7⟩:=H7.at hi1 (List.getElem_set_self _)
  refine⟨some ⟨a.qb,0,none⟩,hU7.cellU fun P=>rfl,?_⟩
  have efree:(!((((c.kind:Int)==3)||((c.kind:Int)==17))||((c.kind:Int)==2))) = !f9_ c.kind:=by
   unfold f9_
   congr 1
   rw[Bool.eq_iff_iff]
   simp only[Bool.or_eq_true,beq_iff_eq]
   omega
  refine qa_ hU7.q hn fun w8 hg8=>?_
  have H8:=H7.grow hg8
  have m08:=m07.go hg8
  have hab8:Blk w8 ab z10 aa_:=hg8.heap hab7 (fun q=>q)
  have hb8:Blk w8 cb (cmv c).toArray aD_:=hg8.heap hb67 (fun q=>q)
  have rest:∀{n5:Int} {b1:Bool},(b1 && !f9_ c.kind)=false→
    (match (if a4_ s1.tab n (fV_ c.kind)=true then qR_.conflict else if (fl_ c.kind&&s1.now.swp)=true then .prot else .run c) with
     | .bad sn=>∀u,Mv w u ℓ ℓ2→Sys u ℓ2 pw st1 F (us.set i (a,s1))→R (rsv 2 sn ap_).toArray u
     | .told c=>∀u,Mv w u ℓ ℓ2→Sys u ℓ2 pw st1 F (us.set i (a,a1_ s1 n))→R (rsv 2 ⟨6,c,0,false,0,0,false,false⟩ ap_).toArray u
     | .conflict=>∀u,Mv w u ℓ ℓ2→Sys u ℓ2 pw st1 F (us.set i (a,s1))→R (rsv 24 sn0 ap_).toArray u
     | .prot=>∀u,Mv w u ℓ ℓ2→Sys u ℓ2 pw st1 F (us.set i (a,s1))→R (rsv 2 ⟨7,9984,0,false,0,0,false,false⟩ ap_).toArray u
     | .run c=>∀u ab,Mv w u ℓ ℓ2→Sys u ℓ2 pw st1 F (us.set i (a,s1))→Blk u ab z10 aa_→w.heap.size≤ab→ℓ2 ab=none→bp_ (some ⟨a.ub,0,none⟩) (n:Int) (cmv c).toArray out u (dk_ ab R))→
    ∀w018,w018=w8.drew→∃S:W_,S w018∧(some (⟨a.ub,0,none⟩:Addr)).isSome=true∧∃p3:O_,(∀u1,S u1→u1.cell? ((gA (some (⟨a.ub,0,none⟩:Addr))).add 8)=some (.pointer p3))∧∃n7:Int,(∀u2,S u2→u2.cell? ((⟨cb,0,none⟩:Addr).add 0)=some (.int .u8 n7))∧gn_ n7 w018 fun n8 w019=>S w019∧bv_ p3 (n:Int) n8 w019 fun b3 w020=>
     Br b3 (ag_ Tryz.prog (storeVar aa_ ⟨ab,0,none⟩ (.agg #[.int .u8 24,.int .u8 0,.int .u16 0,.int .u64 0,.bool false,.int .i64 0,.int .i64 0,.bool false,.bool false,.slice none 0 0])) w020 fun w021=>∃res4:A_,(loadVar aa_ ⟨ab,0,none⟩).run Tryz.prog w021=.ok (.agg res4) w021∧R res4 w021)
     (∃n9:Int,w020.cell? ((⟨cb,0,none⟩:Addr).add 0)=some (.int .u8 n9)∧fM_ n9 w020 fun b4 w022=>(b4=true→(some (⟨a.ub,0,none⟩:Addr)).isSome=true)∧∃p4:O_,(b4=true→w022.cell? ((gA (some (⟨a.ub,0,none⟩:Addr))).add 7)=some (.pointer p4))∧bI_ (fun(g7:A_) (w023:World)=>∃b5:Bool,(b4=true→g7[2]?=some (.bool b5))∧Br (b4&&b5)
      (a8_ #[.int .u8 7,.int .u16 9984,.int .u64 0,.bool false,.int .i64 0,.int .i64 0,.bool false,.bool false] w023 fun g8 w024=>ag_ Tryz.prog (storeVar aa_ ⟨ab,0,none⟩ (.agg g8)) w024 fun w025=>∃res5:A_,(loadVar aa_ ⟨ab,0,none⟩).run Tryz.prog w025=.ok (.agg res5) w025∧R res5 w025)
      (∃g9:A_,(loadVar aD_ ⟨cb,0,none⟩).run Tryz.prog w023=.ok (.agg g9) w023∧bp_ (some ⟨a.ub,0,none⟩) (n:Int) g9 out w023 fun g10 w026=>ag_ Tryz.prog (storeVar aa_ ⟨ab,0,none⟩ (.agg g10)) w026 fun w027=>∃res6:A_,(loadVar aa_ ⟨ab,0,none⟩).run Tryz.prog w027=.ok (.agg res6) w027∧R res6 w027)) fun J_=>(b4=true→b4_ p4 w022 J_)∧(b4=false→J_ (Kd.dflt .ag) w022)):=by
   intro n5 b1 _ hR w9 e9
   subst e9
   have hg9:=aq_ w8
   have H9:=H8.grow hg9
   have m09:=m08.go hg9
   have hab9:Blk w8.drew ab z10 aa_:=hg9.heap hab8 (fun q=>q)
   have hb9:Blk w8.drew cb (cmv c).toArray aD_:=hg9.heap hb8 (fun q=>q)
   generalize w8.drew=w9 at *
   obtain⟨hU9,hown9⟩:=H9.at hi1 (List.getElem_set_self _)
   refine⟨fun o=>o=w9,rfl,rfl,some ⟨a.tb,0,none⟩,fun o e=>by rw[e];exact hU9.cellU fun P=>rfl,(c.kind:Int),fun o e=>by rw[e];exact c0 hb9,oT_ ⟨rfl,gL_ hU9.tab fun w10 hg10=>?_⟩⟩
   have H10:=H9.grow hg10
   have m10:=m09.go hg10
   have hab10:Blk w10 ab z10 aa_:=hg10.heap hab9 (fun q=>q)
   have hb10:Blk w10 cb (cmv c).toArray aD_:=hg10.heap hb9 (fun q=>q)
   have hU10:=hU9.grow hg10
   cases hc:a4_ s1.tab n (fV_ c.kind) with
   | true=>
    rw[hc,if_pos rfl] at hR
    exact ao_ rfl (dk_.sys (sn:=sn0) (d:=ap_) H10 m10 hab' hfab hab10 rfl fun v k hm hs=>hR v hm hs)
   | false=>
    rw[hc,if_neg d_] at hR
    refine al_ rfl ⟨(c.kind:Int),c0 hb10,nC_ ⟨fun _=>rfl,some ⟨a.pg,0,none⟩,fun _=>hU10.cellU fun P=>rfl,?_⟩⟩
    refine ci_ (fun(g7:A_) v=>ac_ w10 v∧(fl_ c.kind=true→g7=(vlv s1.now).toArray)) ?_ (fun J=>⟨fun _=>lW_ hU10.pages fun v hg=>J _ _ ⟨hg,fun _=>rfl⟩,fun q=>J _ _ ⟨ab_.refl _ _,fun r=>by rw[q] at r;cases r⟩⟩)
    rintro g7 v ⟨hgv,hg7⟩
    have Hv:=H10.grow hgv
    have mv:=m10.go hgv
    have habv:Blk v ab z10 aa_:=hgv.heap hab10 (fun q=>q)
    have hbv:Blk v cb (cmv c).toArray aD_:=hgv.heap hb10 (fun q=>q)
    refine⟨s1.now.swp,fun q=>by rw[hg7 q];rfl,?_⟩
    cases hal:fl_ c.kind&&s1.now.swp with
    | true=>
     rw[hal,if_pos rfl] at hR
     exact ao_ rfl (bE_ (s:=⟨7,9984,0,false,0,0,false,false⟩) fun v' hg'=>dk_.sys (Hv.grow hg') (mv.go hg') hab' hfab (hg'.heap habv (fun q=>q)) rfl fun v k hm hs=>hR v hm hs)
    | false=>
     rw[hal,if_neg d_] at hR
     exact al_ rfl ⟨_,oG_ (c:=c) (ax_ hbv),hR v ab mv Hv habv hab' hfab⟩
  cases hpk:cW_ (s1.q n) with
  | none=>
   rw[hpk] at hR
   exact al_ rfl (rest (n5:=0) (b1:=false) rfl hR)
  | some code=>
   rw[hpk] at hR
   dsimp only
   rw[efree]
   cases hfk:f9_ c.kind with
   | true=>
    rw[hfk] at hR
    exact al_ rfl (rest (n5:=(code:Int)) (b1:=true) (by rw[hfk];rfl) hR)
   | false=>
    rw[hfk] at hR
    dsimp only at hR
    refine ao_ rfl ⟨rfl,?_⟩
    obtain⟨hU8,hown8⟩:=H8.at hi1 (List.getElem_set_self _)
    refine⟨some ⟨a.qb,0,none⟩,hU8.cellU fun P=>rfl,?_⟩
    refine mH_ hU8.q hn (by rw[hown8 _ z7];exact Option.some_ne_none _) H8.lt fun w9 hk9 hq9=>?_
    rw[hpk]
    dsimp only
    have sfq:bg_ w8 (fun k=>ℓ2 k≠none) fun b=>b=a.qb:=bg_.sub fun b _ q=>by rw[q,hown8 _ z7];exact Option.some_ne_none _
    have hU9:IsU w9 (fun k=>ℓ2 k≠none) pw a (a1_ s1 n):=hU8.que hk9 sfq (fun b _ hne q=>hne q) (fun _ q=>.inl q) hq9
    obtain⟨m9,H9⟩:=H8.putA hi1 (List.getElem_set_self _) hk9 (fun b _ q=>by rw[q];exact z7) hU9
    rw[List.set_set] at H9
    refine bE_ (s:=⟨6,code,0,false,0,0,false,false⟩) fun w10 hg10=>?_
    have hab10:Blk w10 ab z10 aa_:=(m9.go hg10).heap hab8 hfab
    exact dk_.sys (H9.grow hg10) ((m08.trans m9).go hg10) hab' hfab hab10 rfl fun v k hm hs=>hR v hm hs
theorem t8_ {R:A_→W_} (H:Sys w ℓ pw st F us) (hi:i<us.length) (he:us[i]=(a,s)) (hon:s.on=1) (hfl:s.fault=0) (hn:n<8) (hct:s.count<1000000000000) (hp:RdX w ℓ 1 p (bv l))
  (hR:∀ℓ1,match cl_ (ak_ s) n l with
   | .bad sn=>∀u,Mv w u ℓ ℓ1→Sys u ℓ1 pw st F (us.set i (a,ak_ s))→R (rsv 2 sn ap_).toArray u
   | .told c=>∀u,Mv w u ℓ ℓ1→Sys u ℓ1 pw st F (us.set i (a,a1_ (ak_ s) n))→R (rsv 2 ⟨6,c,0,false,0,0,false,false⟩ ap_).toArray u
   | .conflict=>∀u,Mv w u ℓ ℓ1→Sys u ℓ1 pw st F (us.set i (a,ak_ s))→R (rsv 24 sn0 ap_).toArray u
   | .prot=>∀u,Mv w u ℓ ℓ1→Sys u ℓ1 pw st F (us.set i (a,ak_ s))→R (rsv 2 ⟨7,9984,0,false,0,0,false,false⟩ ap_).toArray u
   | .run c=>∀u ab,Mv w u ℓ ℓ1→Sys u ℓ1 pw st F (us.set i (a,ak_ s))→Blk u ab z10 aa_→w.heap.size≤ab→ℓ1 ab=none→bp_ (some ⟨a.ub,0,none⟩) (n:Int) (cmv c).toArray out u (dk_ ab R)):aM_ (some ⟨a.ub,0,none⟩) (n:Int) p out w R:=
 vu_ H hi he hn hct hp (fun u m Hu K hK=>nD_ Hu (by rw[List.length_set];exact hi) (List.getElem_set_self _) hon fun u' g=>by
  rw[show((ak_ s).fault:Int)=0 by show((s.fault:Nat):Int)=0;omega]
  exact hK u' ℓ (Mv.grow g) (Hu.grow g)) hR
theorem wN_ {R:A_→W_} (H:Sys w ℓ pw st aF_ us) (hi:i<us.length) (he:us[i]=(a,s)) (hon:s.on=0) (hlk:s.lock=0) (hk:1≤s.keepf.size∧s.keepf.size≤30) (ho:st.ops<10000000000) (hl:ldN st.seen s.keepf 2=(-1,0,[])) (hn:n<8) (hct:s.count<1000000000000) (hp:RdX w ℓ 1 p (bv l))
  (hR:∀ℓ1,match cl_ (aG_ (ak_ s)) n l with
   | .bad sn=>∀u,Mv w u ℓ ℓ1→Sys u ℓ1 pw {st with ops:=st.ops+2} aF_ (us.set i (a,aG_ (ak_ s)))→R (rsv 2 sn ap_).toArray u
   | .told c=>∀u,Mv w u ℓ ℓ1→Sys u ℓ1 pw {st with ops:=st.ops+2} aF_ (us.set i (a,a1_ (aG_ (ak_ s)) n))→R (rsv 2 ⟨6,c,0,false,0,0,false,false⟩ ap_).toArray u
   | .conflict=>∀u,Mv w u ℓ ℓ1→Sys u ℓ1 pw {st with ops:=st.ops+2} aF_ (us.set i (a,aG_ (ak_ s)))→R (rsv 24 sn0 ap_).toArray u
   | .prot=>∀u,Mv w u ℓ ℓ1→Sys u ℓ1 pw {st with ops:=st.ops+2} aF_ (us.set i (a,aG_ (ak_ s)))→R (rsv 2 ⟨7,9984,0,false,0,0,false,false⟩ ap_).toArray u
   | .run c=>∀u ab,Mv w u ℓ ℓ1→Sys u ℓ1 pw {st with ops:=st.ops+2} aF_ (us.set i (a,aG_ (ak_ s)))→Blk u ab z10 aa_→w.heap.size≤ab→ℓ1 ab=none→bp_ (some ⟨a.ub,0,none⟩) (n:Int) (cmv c).toArray out u (dk_ ab R)):aM_ (some ⟨a.ub,0,none⟩) (n:Int) p out w R:=
 vu_ H hi he hn hct hp (fun u m Hu K hK=>sF_ (s:=ak_ s) Hu (by rw[List.length_set];exact hi) (List.getElem_set_self _) hon hlk hk ho hl fun u' ℓ' m' H'=>hK u' ℓ' m' (by rw[List.set_set] at H';exact H')) hR
end
open Go CF
def jI_ (s:ByteArray) (k:Nat):Bool:=(List.range k).all fun j=>decide (32≤(bt s (j:Int)).toNat)&&decide ((bt s (j:Int)).toNat≤126)
def gP_ (s:ByteArray) (lo hi:Nat):Bool:=jI_ s s.size&&decide (lo≤s.size)&&decide (s.size≤hi)
def d5_ (i:e0_):Bool:=gP_ i.v 0 8&&gP_ i.p 0 16&&gP_ i.r 0 4&&gP_ i.s 1 20&&decide (i.prot≤3)
theorem nE_ (s:ByteArray) (k:Nat):jI_ s (k+1)=(jI_ s k&&(decide (32≤(bt s (k:Int)).toNat)&&decide ((bt s (k:Int)).toNat≤126))):=by
 unfold jI_
 rw[List.range_succ,List.all_append,List.all_cons,List.all_nil,Bool.and_true]
theorem nF_ {s:ByteArray} {j:Nat} (h:jI_ s j=false):∀k,j≤k→jI_ s k=false
 | 0,hk=>by have:j=0:=o_
            subst this;exact h
 | k+1,hk=>by
  by_cases q:j=k+1
  ·subst q;exact h
  ·rw[nE_,nF_ h k o_];rfl
theorem zy_ (s:ByteArray) (x:Int):0≤bt s x:=by unfold bt;split<;>omega
section
variable {w u v:World} {N N' S:Nat→Prop} {pw i n:Nat} {a:UA} {s:USt} {st:Wst} {F:Int→Bool} {ℓ ℓ':Nat→Option Nat} {us:List (UA×USt)}
theorem vv_ {s:ByteArray} {lo hi:Nat} {R:Bool→W_} (hsz:s.size≤9223372036854775806) (h:R (gP_ s lo hi) w) :
  ∃(I:Int→W_) (μ:Int→World→Nat),I 0 w∧∀(x:Int) (w0:World),I x w0→Br (decide (x<(s.size:Int))) ((0≤x∧x<(s.size:Int))∧((!(decide ((bt s x)<32)))=true→(0≤x∧x<(s.size:Int)))∧Br ((decide ((bt s x)<32))||(decide ((bt s x)>126))) (R false w0) (I (IntKind.wrap .i64 (x+1)) w0∧μ (IntKind.wrap .i64 (x+1)) w0<μ x w0)) (R ((decide ((s.size:Int)≥(lo:Int)))&&(decide ((s.size:Int)≤(hi:Int)))) w0):=by
 refine⟨fun x v=>∃j:Nat,x=j∧j≤s.size∧v=w∧jI_ s j=true,fun x _=>s.size-x.toNat,⟨0,rfl,Nat.zero_le _,rfl,rfl⟩,?_⟩
 rintro x v ⟨j,rfl,hj,rfl,hp⟩
 unfold gP_ at h
 refine bh_ (fun hlt=>?_) (fun hge=>?_)
 ·have hnn:=zy_ s (j:Int)
  refine⟨⟨o_,o_⟩,fun _=>⟨o_,o_⟩,?_⟩
  have hs:=nE_ s j
  rw[hp,Bool.true_and] at hs
  cases hq:decide (32≤(bt s (j:Int)).toNat)&&decide ((bt s (j:Int)).toNat≤126) with
  | true=>
   rw[hq] at hs
   simp only[Bool.and_eq_true,decide_eq_true_eq] at hq
   refine al_ (by rw[Bool.or_eq_false_iff,decide_eq_false_iff_not,decide_eq_false_iff_not];omega) ?_
   rw[w64 o_ o_]
   exact⟨⟨j+1,o_,o_,rfl,hs⟩,by dsimp only;omega⟩
  | false=>
   rw[hq] at hs
   rw[nF_ hs s.size hlt] at h
   rw[Bool.and_eq_false_iff,decide_eq_false_iff_not,decide_eq_false_iff_not] at hq
   exact ao_ (by rw[Bool.or_eq_true,decide_eq_true_eq,decide_eq_true_eq];omega) h
 ·have:j=s.size:=o_
  subst this
  rw[hp,Bool.true_and] at h
  have e:((decide ((s.size:Int)≥(lo:Int)))&&(decide ((s.size:Int)≤(hi:Int))))=(decide (lo≤s.size)&&decide (s.size≤hi)):=by
   congr 1
   ·rw[decide_eq_decide];omega
   ·rw[decide_eq_decide];omega
  rw[e];exact h
theorem in_ {s:ByteArray} {lo hi:Nat} {R:Bool→W_} (hsz:s.size≤9223372036854775806) (h:R (gP_ s lo hi) w):g6_ s (lo:Int) (hi:Int) w R:=kb_.calls _ _ _ _ _ (vv_ hsz h)
structure t9_ (i:e0_):Prop where
 v:i.v.size≤9223372036854775806
 p:i.p.size≤9223372036854775806
 r:i.r.size≤9223372036854775806
 s:i.s.size≤9223372036854775806
theorem sH_ {i:e0_} {R:Bool→W_} (hi:t9_ i) (h:∀w',ac_ w w'→R (d5_ i) w'):mo_ (e1_ i).toArray w R:=by
 refine j6_.calls _ _ _ (ah_ fun ib w1 hib hb1 hg1 hs1=>?_)
 have c:∀{o:Nat} {x:Value},(e1_ i)[o]?=some x→w1.cell? ((⟨ib,0,none⟩:Addr).add o)=some x:=fun e=>by rw[am_,Blk.cell hb1,Nat.zero_add,List.getElem?_toArray];exact e
 have h:=h w1 hg1
 unfold d5_ at h
 refine⟨i.v,c rfl,in_ (lo:=0) (hi:=8) hi.v ⟨i.p,fun _=>c rfl,?_⟩⟩
 generalize gP_ i.v 0 8=b at *
 refine ci_ (fun b1 o=>o=w1∧(b&&b1)=(b&&gP_ i.p 0 16)) ?_ (fun J=>⟨fun _=>in_ (lo:=0) (hi:=16) hi.p (J _ _ ⟨rfl,rfl⟩),fun q=>J _ _ ⟨rfl,by rw[q];rfl⟩⟩)
 rintro b1 o ⟨rfl,e1⟩
 rw[←e1] at h
 refine⟨i.r,fun _=>c rfl,?_⟩
 generalize (b&&b1)=bb at *
 refine ci_ (fun b2 o'=>o'=o∧(bb&&b2)=(bb&&gP_ i.r 0 4)) ?_ (fun J=>⟨fun _=>in_ (lo:=0) (hi:=4) hi.r (J _ _ ⟨rfl,rfl⟩),fun q=>J _ _ ⟨rfl,by rw[q];rfl⟩⟩)
 rintro b2 o' ⟨rfl,e2⟩
 rw[←e2] at h
 refine⟨i.s,fun _=>c rfl,?_⟩
 generalize (bb&&b2)=bc at *
 refine ci_ (fun b3 o2=>o2=o'∧(bc&&b3)=(bc&&gP_ i.s 1 20)) ?_ (fun J=>⟨fun _=>in_ (lo:=1) (hi:=20) hi.s (J _ _ ⟨rfl,rfl⟩),fun q=>J _ _ ⟨rfl,by rw[q];rfl⟩⟩)
 rintro b3 o2 ⟨rfl,e3⟩
 rw[←e3] at h
 refine⟨(i.prot:Int),fun _=>c rfl,?_⟩
 have e:(decide ((i.prot:Int)≤3))=decide (i.prot≤3):=by rw[decide_eq_decide];omega
 rw[e];exact h
open Classical in
theorem Sys.add {a':UA} {s':USt} (h:Sys w ℓ pw st F us) (g:ac_ w u) (ha:∀b,a'.set b→w.heap.size≤b) (hU:∀N:Nat→Prop,IsU u N pw a' s'):∃ℓ',Mv w u ℓ ℓ'∧Sys u ℓ' pw st F (us++[(a',s')]):=by
 have hsz:=g.size
 have h':=h.grow g
 let L:Nat→Option Nat:=fun b=>if a'.set b then some (us.length+1) else ℓ b
 have hold:∀b,b<w.heap.size→L b=ℓ b:=fun b hb=>if_neg fun q=>by have:=ha b q;omega
 obtain⟨D,h1,h2⟩:=h'.W
 obtain⟨D0,g1,g2⟩:=h.W
 refine⟨L,⟨g.mono fun _ _ q=>q.elim,hold⟩,⟨D0,g1.grow g,fun b hb=>?_⟩,fun j hj=>?_,fun b hb=>?_⟩
 ·rw[hold b (g1.lt hb)];exact g2 b hb
 ·by_cases e:j<us.length
  ·rw[List.getElem_append_left e]
   refine⟨(h.U j e).1.step (S:=fun _=>False) g (bg_.none _ _) (fun _ _ q=>q) (fun b hb=>?_),fun b hb=>?_⟩
   ·by_cases q:b<w.heap.size
    ·exact .inl (by rw[←hold b q];exact hb)
    ·exact .inr o_
   ·rw[hold b ((h.U j e).1.lt hb)];exact(h.U j e).2 b hb
  ·have:j=us.length:=by rw[List.length_append,List.length_singleton] at hj;omega
   subst this
   have ee:(us++[(a',s')])[us.length]'hj=(a',s'):=by rw[List.getElem_append_right (Nat.le_refl _)];simp
   rw[ee]
   exact⟨hU _,fun b hb=>if_pos hb⟩
 ·by_cases q:a'.set b
  ·exact(hU fun _=>False).lt q
  ·have:L b=ℓ b:=if_neg q
   rw[this] at hb
   have:=h.lt b hb;omega
end
end Go.Proofs.YtpmebahhjgkflaaGreatDoor
