import Derived.MapKept
import Derived.WalkKit
import Derived.ProofKit
import Derived.OpenShut
import Derived.ShutString
import Derived.ChangeOld
import Derived.Below
import Derived.SizedLaws
import Derived.Laws.MakeOwn
import Derived.Lib.AppendZerosOnto
import Derived.Deep.DeepAppendWide
import Derived.Test.YtpmebahhjgkflaaGreatDoorB3
set_option maxHeartbeats 20000000
namespace Go.Proofs.YtpmebahhjgkflaaGreatDoor
open Go CF
set_option linter.unusedVariables false
set_option maxRecDepth 100000
def fC_ (w_:O_) (c:A_) (w:World) (R:Int→W_):Prop:=
 New (.cells c 173) w fun c1 w0=>c7_ w_ w0 fun n w01=>Br (n != 0) (R n w01) (∀w02,w02=w01.drew→∃S:W_,S w02∧w_.isSome=true∧∃m:Option Nat,(∀u,S u→u.cell? ((gA w_).add 0)=some (.map m))∧∃g:A_,(∀u1,S u1→(loadVar 173 c1).run Tryz.prog u1=.ok (.agg g) u1)∧∃xs:Sl,(∀u2,S u2→u2.cell? (c1.add 4)=some (.slice xs.A xs.n xs.c))∧he_ m g (xs.n:Int) w02 fun w03=>∀w04,w04=w03.drew→∃S1:W_,S1 w04∧w_.isSome=true∧∃xs1:Sl,(∀u3,S1 u3→u3.cell? ((gA w_).add 2)=some (.slice xs1.A xs1.n xs1.c))∧∃g1:A_,(∀u4,S1 u4→(loadVar 173 c1).run Tryz.prog u4=.ok (.agg g1) u4)∧ai_ Tryz.prog .sl (Instr.buildSlice 107 1 #[(0,.agg g1)]) w04 fun xs2 w05=>S1 w05∧ai_ Tryz.prog .sl (Builtin.append_ #[107,107] 107 #[.slice xs1.A xs1.n xs1.c,.slice xs2.A xs2.n xs2.c]) w05 fun xs3 w06=>w_.isSome=true∧Put ((gA w_).add 2) (.slice xs3.A xs3.n xs3.c) w06 fun w07=>R 0 w07)
theorem fC_.calls (w_:O_) (c:A_) (w:World) (R:Int→W_) (h:fC_ w_ c w R):hi_ w_ c w R:=
 ad_ (aj_ af_) aB_ Tryz.func297 [] [.i .i64] [.pointer w_,.agg c] w R (Eq.mp (show fC_ w_ c w R=vcF Tryz.prog G Tryz.f297 [] [.i .i64] [.pointer w_,.agg c] w R by kernel_rfl) h)
def cJ_ (s:ByteArray) (c:Int) (w:World) (R:ByteArray→W_):Prop:=
 ∃(I:ByteArray→W_) (μ:ByteArray→World→Nat),I s w∧∀(s1:ByteArray) (w0:World),I s1 w0→(decide ((s1.size:Int)>0)=true→(0≤(IntKind.wrap .i64 ((s1.size:Int)-1))∧(IntKind.wrap .i64 ((s1.size:Int)-1))<(s1.size:Int)))∧Br ((decide ((s1.size:Int)>0))&&((bt s1 (IntKind.wrap .i64 ((s1.size:Int)-1)))==c)) ((0≤(0:Int)∧(0:Int)≤(IntKind.wrap .i64 ((s1.size:Int)-1))∧(IntKind.wrap .i64 ((s1.size:Int)-1))≤(s1.size:Int))∧I (s1.extract 0 (IntKind.wrap .i64 ((s1.size:Int)-1)).toNat) w0∧μ (s1.extract 0 (IntKind.wrap .i64 ((s1.size:Int)-1)).toNat) w0<μ s1 w0) (R s1 w0)
theorem cJ_.calls (s:ByteArray) (c:Int) (w:World) (R:ByteArray→W_) (h:cJ_ s c w R):eb_ s c w R:=
 ad_ (aj_ af_) aB_ Tryz.func298 [(3,⟨[(0,.s)],[1]⟩)] [.s] [.string s,.int .u8 c] w R (Eq.mp (show cJ_ s c w R=vcF Tryz.prog G Tryz.f298 [(3,⟨[(0,.s)],[1]⟩)] [.s] [.string s,.int .u8 c] w R by kernel_rfl) h)
def hu_ (w:World) (R:(A_)→W_):Prop:=
 New (.cells #[.int .u8 0,.int .u8 0,.int .u8 0,.int .u8 0,.int .u8 0,.int .u8 0,.int .u8 0,.int .u8 0,.int .u8 0,.int .u8 0,.int .u8 0,.int .u8 0,.int .u8 0,.int .u8 0,.int .u8 0,.int .u8 0,.int .u16 0,.int .u16 0,.int .u32 0] 348) w fun a w0=>∃g:A_,(Instr.build 348 #[(1,.agg #[.int .u16 65535,.int .u16 65535,.int .u32 4294967295])]).run Tryz.prog w0=.ok (.agg g) w0∧ag_ Tryz.prog (storeVar 348 a (.agg g)) w0 fun w01=>∃res:A_,(loadVar 348 a).run Tryz.prog w01=.ok (.agg res) w01∧R res w01
theorem hu_.calls (w:World) (R:(A_)→W_) (h:hu_ w R):js_ w R:=
 ad_ (aj_ af_) aB_ Tryz.func302 [] [.ag] [] w R (Eq.mp (show hu_ w R=vcF Tryz.prog G Tryz.f302 [] [.ag] [] w R by kernel_rfl) h)
def i6_ (sum:Int) (p:Sl) (w:World) (R:Int→W_):Prop:=
 ∃(I:Int→Int→W_) (μ:Int→Int→World→Nat),I sum 0 w∧∀(sum1:Int) (x:Int) (w0:World),I sum1 x w0→Br (decide (x<(p.n:Int))) ((0≤x∧x<(p.n:Int)∧p.A.isSome=true)∧∃n:Int,w0.cell? ((gA p.A).add (x.toNat*1))=some (.int .u8 n)∧∃(I1:Int→Int→W_) (μ1:Int→Int→World→Nat),I1 (hP_ .u16 sum1 (cu_ .u16 (IntKind.wrap .u16 n) 8)) 0 w0∧∀(sum2:Int) (x1:Int) (w01:World),I1 sum2 x1 w01→Br (decide (x1<8)) (aY_ (fun(sum3:Int) (w02:World)=>I1 sum3 (IntKind.wrap .i64 (x1+1)) w02∧μ1 sum3 (IntKind.wrap .i64 (x1+1)) w02<μ1 sum2 x1 w01) fun J_=>Br ((bJ_ .u16 sum2 15)==1) (J_ (hP_ .u16 (cu_ .u16 sum2 1) 35767) w01) (J_ (cu_ .u16 sum2 1) w01)) (I sum2 (IntKind.wrap .i64 (x+1)) w01∧μ sum2 (IntKind.wrap .i64 (x+1)) w01<μ sum1 x w0)) (R sum1 w0)
theorem i6_.calls (sum:Int) (p:Sl) (w:World) (R:Int→W_) (h:i6_ sum p w R):ou_ sum p w R:=
 ad_ (aj_ af_) aB_ Tryz.func303 [(6,⟨[(0,.i .u16),(10,.i .i64)],[8,9]⟩),(18,⟨[(0,.i .u16),(19,.i .i64)],[8,9,10]⟩),(11,⟨[(0,.i .u16)],[8,9,10,19]⟩)] [.i .u16] [.int .u16 sum,.slice p.A p.n p.c] w R (Eq.mp (show i6_ sum p w R=vcF Tryz.prog G Tryz.f303 [(6,⟨[(0,.i .u16),(10,.i .i64)],[8,9]⟩),(18,⟨[(0,.i .u16),(19,.i .i64)],[8,9,10]⟩),(11,⟨[(0,.i .u16)],[8,9,10,19]⟩)] [.i .u16] [.int .u16 sum,.slice p.A p.n p.c] w R by kernel_rfl) h)
open Go CF
abbrev bD_:=ByteArray→Option L8
def wr (f:L8) (o:Nat) (p:L8):L8:=
 (f++List.replicate (o+p.length-f.length) 0).take o++p++(f++List.replicate (o+p.length-f.length) 0).drop (o+p.length)
def ps_ (F:bD_) (s:ByteArray) (v:Option L8):bD_:=fun t=>if t=s then v else F t
def eK_ (F:bD_) (s:ByteArray) (o:Nat) (p:L8):bD_:=ps_ F s (some (wr ((F s).getD []) o p))
theorem uY_ (f:L8) (o:Nat) (p:L8):(wr f o p).length=max f.length (o+p.length):=by
 unfold wr
 simp only[List.length_append,List.length_take,List.length_drop,List.length_replicate]
 omega
theorem uZ_ (a b:Nat):mn (a:Int) (b:Int)=((min a b:Nat):Int):=by
 unfold mn;split<;>omega
def jx_ (w:World) (v:Option Value):Option L8→Prop
 | none=>v=none
 | some l=>∃s:Sl,v=some (.slice s.A s.n s.c)∧Own w 0 ae_ 1 s (bv l)∧l.length≤1048576
def IsF (w:World) (mb:Nat) (F:bD_):Prop:=∃m,lq_ w mb m∧∀s,jx_ w (m s) (F s)
theorem aU_ {w:World} {base:Nat} {e:TypeId} {z:Nat} {s:Sl} {vs:List Value} (h:Own w base e z s vs) {g:Nat} (hg:s.blk=some g):∃cur,w.heap[g]?=some (.cells cur e (0,0)):=by
 rcases h.2 with⟨h2,_⟩|⟨g',cap,cur,hv,_,hh,_⟩
 ·injection h2 with hA;simp[Sl.blk,hA] at hg
 ·injection hv with hA
  simp[Sl.blk,hA] at hg
  subst hg
  exact⟨cur,hh⟩
def bZ_ (w:World) (S:Nat→Prop):Prop:=∀g cur,w.heap[g]?=some (.cells cur ae_ (0,0))→¬S g
theorem jx_.keep {S:Nat→Prop} {w w':World} {v:Option Value} {l:Option L8} (h:jx_ w v l) (k:ab_ S w w') (hn:bZ_ w S):jx_ w' v l:=by
 cases l with
 | none=>exact h
 | some l=>
  obtain⟨s,h1,h2,h3⟩:=h
  refine⟨s,h1,h2.keep k fun b hb=>?_,h3⟩
  obtain⟨cur,hc⟩:=aU_ h2 hb
  exact hn b cur hc
theorem IsF.keep {S:Nat→Prop} {w w':World} {mb:Nat} {F:bD_} (h:IsF w mb F) (k:ab_ S w w') (hm:¬S mb) (hn:bZ_ w S):IsF w' mb F:=by
 obtain⟨m,h1,h2⟩:=h
 exact⟨m,h1.keep k hm,fun s=>(h2 s).keep k hn⟩
theorem b8_ (w:World):bZ_ w fun _=>False:=fun _ _ _ q=>q
theorem IsF.grow {w w':World} {mb:Nat} {F:bD_} (h:IsF w mb F) (k:ac_ w w'):IsF w' mb F:=h.keep k (fun q=>q) (b8_ w)
theorem s0_ (w:World):IsF (w.alloc (.map #[] 0)) w.heap.size fun _=>none:=⟨_,we_ w,fun _=>rfl⟩
theorem u0_ {w:World} {mb:Nat} {F:bD_} (h:IsF w mb F):mb<w.heap.size:=by
 obtain⟨m,⟨es,c,hb,_⟩,_⟩:=h
 exact au_ hb
theorem cq_ {w:World} {mb:Nat} {F:bD_} (h:IsF w mb F) (cur:A_) (t:TypeId) (fr:Nat×Nat):w.heap[mb]?≠some (.cells cur t fr):=by
 obtain⟨m,⟨es,c,hb,_⟩,_⟩:=h
 rw[hb];intro q;cases q
theorem if_ {w:World} {mb:Nat} {F:bD_} (h:IsF w mb F):bZ_ w fun k=>k=mb:=fun g cur hg q=>by
 subst q;exact cq_ h _ _ _ hg
theorem mt_ {P:Program} {w:World} {e:TypeId} {zv:Value} {z bytes:Nat} (hinfo:(P.info? e).map (fun i=>(i.zero,i.size,i.bytes))=some (some zv,z,bytes)):(zeroValue e).run P w=.ok zv w:=by
 obtain⟨i,hi,hzz⟩:=Option.map_eq_some_iff.1 hinfo
 simp only[Prod.mk.injEq] at hzz
 simp[zeroValue,typeInfo,hi,hzz.1]
theorem pW_ {w:World} {mb:Nat} {F:bD_} (h:IsF w mb F) (s:ByteArray) :
  ∃r:Sl×Bool,(Instr.lookup eI_ (.map (some mb)) (.string s) true).run Tryz.prog w=.ok (.tuple #[.slice r.1.A r.1.n r.1.c,.bool r.2]) w∧
   (Instr.lookup eI_ (.map (some mb)) (.string s) false).run Tryz.prog w=.ok (.slice r.1.A r.1.n r.1.c) w∧Own w 0 ae_ 1 r.1 (bv ((F s).getD []))∧r.2=(F s).isSome∧((F s).getD []).length≤1048576:=by
 obtain⟨m,hm,hf⟩:=h
 obtain⟨l1,l2⟩:=uU_ g8_ dq_ (mt_ tE_) hm s
 have hs:=hf s
 cases hF:F s with
 | none=>
  rw[hF] at hs
  have hs:m s=none:=hs
  rw[hs] at l1 l2
  exact⟨(⟨none,0,0⟩,false),l1,l2,aK_ _ _ _ _,rfl,by simp⟩
 | some l=>
  rw[hF] at hs
  obtain⟨sl,h1,h2,h3⟩:=hs
  rw[h1] at l1 l2
  exact⟨(sl,true),l1,l2,h2,rfl,h3⟩
theorem wi_ {w:World} {mb:Nat} {F:bD_} (h:IsF w mb F) (s:ByteArray) {f:Sl} {l:L8} (hf:Own w 0 ae_ 1 f (bv l)) (hl:l.length≤1048576)
  {K:W_} (hK:∀w',IsF w' mb (ps_ F s (some l))→ab_ (fun k=>k=mb) w w'→K w'):ag_ Tryz.prog (Instr.mapUpdate eI_ (.map (some mb)) (.string s) (.slice f.A f.n f.c)) w K:=by
 have hnb:=if_ h
 obtain⟨m,hm,hs⟩:=h
 refine wf_ g8_ dq_ hm s _ fun w1 hm1 hk1 _=>hK w1 ⟨_,hm1,fun t=>?_⟩ hk1
 unfold upd ps_
 by_cases q:t=s
 ·rw[if_pos q,if_pos q]
  refine⟨f,rfl,hf.keep hk1 fun b hb=>?_,hl⟩
  obtain⟨cur,hc⟩:=aU_ hf hb
  exact hnb b cur hc
 ·rw[if_neg q,if_neg q]
  exact(hs t).keep hk1 hnb
theorem yI_ (j:Nat):bv (List.replicate j 0)++[.int .u8 0]=bv (List.replicate (j+1) 0):=by
 rw[List.replicate_succ',bN_];rfl
theorem mu_ {w:World} {mb:Nat} {F:bD_} {name to:ByteArray} {off k:Nat} {p:Sl} {bs:L8} {R:W_} (hF:IsF w mb F) (hp:Rd w 1 p (bv bs)) (hb:off+bs.length≤1048576)
  (h:∀w',ab_ (fun k=>k=mb) w w'→IsF w' mb (eK_ F name off (bs.take k))→R w') :
  he_ (some mb) #[.int .u8 119,.string name,.string to,.int .i64 (off:Int),.slice p.A p.n p.c] (k:Int) w R:=by
 refine hl_.calls _ _ _ _ _ ?_
 refine ah_ fun cb w0 hcb hb0 hg0 hsz0=>?_
 have hb0:Blk w0 cb #[.int .u8 119,.string name,.string to,.int .i64 (off:Int),.slice p.A p.n p.c] aX_:=hb0
 have c0:∀{u:World},Blk u cb #[.int .u8 119,.string name,.string to,.int .i64 (off:Int),.slice p.A p.n p.c] aX_→u.cell? ((⟨cb,0,none⟩:Addr).add 0)=some (.int .u8 119):=fun q=>by rw[am_,q.cell];rfl
 have c1:∀{u:World},Blk u cb #[.int .u8 119,.string name,.string to,.int .i64 (off:Int),.slice p.A p.n p.c] aX_→u.cell? ((⟨cb,0,none⟩:Addr).add 1)=some (.string name):=fun q=>by rw[am_,q.cell];rfl
 have c3:∀{u:World},Blk u cb #[.int .u8 119,.string name,.string to,.int .i64 (off:Int),.slice p.A p.n p.c] aX_→u.cell? ((⟨cb,0,none⟩:Addr).add 3)=some (.int .i64 (off:Int)):=fun q=>by rw[am_,q.cell];rfl
 have c4:∀{u:World},Blk u cb #[.int .u8 119,.string name,.string to,.int .i64 (off:Int),.slice p.A p.n p.c] aX_→u.cell? ((⟨cb,0,none⟩:Addr).add 4)=some (.slice p.A p.n p.c):=fun q=>by rw[am_,q.cell];rfl
 have hpn:bs.length=p.n:=by have:=hp.len;rw[az_] at this;omega
 have hcap:=hp.cap
 refine⟨119,c0 hb0,ao_ rfl ?_⟩
 have hmn:=uZ_ k p.n
 refine⟨p,c4 hb0,p,c4 hb0,⟨o_,o_,o_,o_⟩,name,c1 hb0,?_⟩
 rw[hmn]
 obtain⟨r,_,hlk,hown,_,hol⟩:=pW_ (hF.grow hg0) name
 generalize hold:(F name).getD []=old at *
 have hrn:old.length=r.1.n:=by have:=hown.len;rw[az_] at this;omega
 refine⟨r.1,hlk,?_⟩
 refine aS_ (s:=⟨none,0,0⟩) (vs:=[]) (base:=w0.heap.size) aN_ bG_ rfl d_ d_ (aK_ _ _ _ _) (hown.rd o_) (by intro u hu;simp only[bv,List.mem_map] at hu;obtain⟨_,_,rfl⟩:=hu;rfl) (by show(0+r.1.n)*1≤_;omega) (Nat.le_refl _) fun s1 w1 hn1 hown1 hk1 _=>?_
 have hg1:ac_ w0 w1:=hk1.mono fun i hi q=>by cases q
 rw[List.nil_append] at hown1
 simp only[Int.toNat_natCast,Nat.sub_zero]
 generalize hL:(bs.take k).length=L at *
 have hLm:min k p.n=L:=by rw[←hL,List.length_take];omega
 rw[hLm]
 have hLb:off+L≤1048576:=by rw[←hL,List.length_take];omega
 refine⟨fun f w'=>∃j:Nat,ac_ w0 w'∧Own w' w0.heap.size ae_ 1 f (bv (old++List.replicate j 0))∧(j=0∨old.length+j≤off+L),fun f _=>off+L-f.n,⟨0,hg1,by simpa using hown1,.inl rfl⟩,?_⟩
 rintro f w2 ⟨j,hg2,hown2,hj⟩
 have hfn:old.length+j=f.n:=by have:=hown2.len;rw[az_,List.length_append,List.length_replicate] at this;omega
 have hb2:=hg2.heap hb0 (fun q=>q)
 refine⟨(off:Int),c3 hb2,?_⟩
 have hwp:IntKind.wrap .i64 ((off:Int)+(L:Int))=((off+L:Nat):Int):=by rw[w64 o_ o_];omega
 refine a6_ (fun hlt=>?_) (fun hge=>?_)
 ·rw[hwp] at hlt
  refine aH_ (cells:=#[.int .u8 0]) (e:=ae_) (z:=1) (base:=w0.heap.size) k_ rfl d_ hg2.size fun w3 hlit3 hg3 _=>?_
  refine aS_ aN_ bG_ rfl d_ d_ (hown2.grow hg3) (hlit3.rd (by show 1≤_;decide)) (by simp[Value.oneCell']) (by show(f.n+1)*1≤_;omega) (hg2.trans hg3).size fun f4 w4 hn4 hown4 hk4 _=>?_
  refine⟨⟨j+1,(hg2.trans hg3).keep hk4 fun i hi q=>by have:=(hown2.ge i q.symm).1;omega,?_,.inr o_⟩,?_⟩
  ·have e:bv (old++List.replicate (j+1) 0)=bv (old++List.replicate j 0)++[.int .u8 0]:=by
    rw[bN_,bN_,List.append_assoc,yI_]
   rw[e];exact hown4
  ·have:f4.n=f.n+1:=hn4
   dsimp only
   omega
 ·rw[hwp] at hge
  have hjv:j=off+L-old.length:=o_
  have hfr:=hown2.rd o_
  have hfc:=hfr.cap
  refine⟨(off:Int),c3 hb2,⟨o_,o_,o_,o_⟩,?_⟩
  simp only[Int.toNat_natCast]
  have hx:=(hp.grow (hg0.trans hg2)).cutB (l:=0) (k:=L) (Nat.zero_le _) o_
  simp only[List.drop_zero,Nat.sub_zero] at hx
  have hxt:bs.take L=bs.take k:=by
   rw[←hL,List.length_take]
   rcases Nat.le_total k bs.length with q|q
   ·rw[Nat.min_eq_left q]
   ·rw[Nat.min_eq_right q,List.take_length,List.take_of_length_le q]
  rw[hxt] at hx
  refine uV_ (x:=⟨aP_ p.A p.c 0 1,L,p.c⟩) (o:=off) aN_ bG_ hown2 hx (by intro u hu;simp only[bv,List.mem_map] at hu;obtain⟨_,_,rfl⟩:=hu;rfl) (by show off+L≤f.n;omega) fun w3 hown3 hk3 _=>?_
  have hcf:f.blk≠some cb:=fun q=>by have:=(hown2.ge cb q).1;omega
  have hb3:=hk3.heap hb2 (fun q=>hcf q.symm)
  refine⟨name,c1 hb3,?_⟩
  have hg3:ac_ w0 w3:=hg2.keep hk3 fun i hi q=>by have:=(hown2.ge i q.symm).1;omega
  have hgw:ac_ w w3:=hg0.trans hg3
  have hres:Own w3 0 ae_ 1 f (bv (wr old off (bs.take k))):=by
   refine Own.mono (base:=w0.heap.size) ?_ (Nat.zero_le _)
   have e:bv (wr old off (bs.take k))=(bv (old++List.replicate j 0)).take off++bv (bs.take k)++(bv (old++List.replicate j 0)).drop (off+L):=by
    unfold wr
    rw[hL,←hjv,bN_,bN_,jg_,sZ_]
   rw[e]
   exact hown3
  refine wi_ (hF.grow hgw) name hres (by rw[uY_,hL];omega) fun w4 hF4 hk4=>?_
  refine h w4 (ab_.trans (hgw.mono fun _ _ q=>q.elim) hk4 fun _ _ q=>q) ?_
  unfold eK_
  rw[hold]
  exact hF4
end Go.Proofs.YtpmebahhjgkflaaGreatDoor
namespace Go.Proofs.YtpmebahhjgkflaaGreatDoor.CF
open Go Go.RowKit
set_option maxRecDepth 100000
def qJ_ (es:List MapEntry):Prop:=∀e∈es,∃s,e.key=.int .i64 s
def mv_:List MapEntry→Int→Nat→Option (Nat×Value)
 | [],_,_=>none
 | e::r,s,i=>match e.key with
  | .int .i64 t=>if s=t then some (i,e.val) else mv_ r s (i+1)
  | _=>mv_ r s (i+1)
def yJ_ (es:List MapEntry) (s:Int):Option Value:=(mv_ es s 0).map (·.2)
theorem nv_ {s:Int}:∀{es:List MapEntry} (i:Nat),qJ_ es→Instr.findNow (.int .i64) (.int .i64 s) es i=some (mv_ es s i)
 | [],_,_=>rfl
 | e::r,i,h=>by
  obtain⟨t,ht⟩:=h e (by simp)
  have ih:=nv_ (s:=s) (i+1) (fun x hx=>h x (by simp[hx]):qJ_ r)
  unfold Instr.findNow mv_
  rw[ht]
  simp only[Instr.sameNow]
  by_cases e:s=t
  ·have:(s==t)=true:=beq_iff_eq.2 e
   simp only[if_true,this]
   simp only[if_pos e]
  ·have:(s==t)=false:=Bool.eq_false_iff.2 fun q=>e (beq_iff_eq.1 q)
   simp only[if_true,this]
   simp only[if_neg e]
   exact ih
def ru_ (w:World) (b:Nat) (m:Int→Option Value):Prop:=
 ∃es clock,w.heap[b]?=some (.map es clock)∧qJ_ es.toList∧∀s,yJ_ es.toList s=m s
theorem ru_.keep {S:Nat→Prop} {w w':World} {b:Nat} {m:Int→Option Value} (h:ru_ w b m) (k:ab_ S w w') (hn:¬S b):ru_ w' b m:=by
 obtain⟨es,c,h1,h2⟩:=h
 exact⟨es,c,k.heap h1 hn,h2⟩
section
variable {P:Program} {w:World} {b:Nat} {m:Int→Option Value} {t k e:TypeId}
theorem ig_ {es:Array MapEntry} {clock:Nat} (h:w.heap[b]?=some (.map es clock)):(getObj b).run P w=.ok (.map es clock) w:=by
 simp[getObj,Sem.run,h]
theorem i7_ (ek:Bool) (n:Nat) (hk:P.underlying k=some (.int .i64)) (s:Int):(Instr.checkKey ek (n+1) k (.int .i64 s)).run P w=.ok () w:=by
 unfold Instr.checkKey
 simp[run_underlying hk]
theorem ih_ {es:List MapEntry} (hk:P.underlying k=some (.int .i64)) (hs:qJ_ es) (s:Int):(Instr.findKey k (.int .i64 s) es).run P w=.ok (mv_ es s 0) w:=by
 unfold Instr.findKey
 simp[run_underlying hk,nv_ 0 hs]
theorem tI_ (ht:P.underlying t=some (.map k e)) (hk:P.underlying k=some (.int .i64)) {zv:Value} (hz:(zeroValue e).run P w=.ok zv w) (h:ru_ w b m) (s:Int) :
  (Instr.lookup t (.map (some b)) (.int .i64 s) true).run P w=.ok (.tuple #[(m s).getD zv,.bool (m s).isSome]) w∧
  (Instr.lookup t (.map (some b)) (.int .i64 s) false).run P w=.ok ((m s).getD zv) w:=by
 obtain⟨es,c,hb,hs,hm⟩:=h
 have:=hm s
 unfold yJ_ at this
 unfold Instr.lookup
 constructor
 ·cases hi:mv_ es.toList s 0 with
  | none=>
   rw[hi] at this
   simp only[Option.map_none] at this
   rw[←this]
   simp[run_underlying ht,ig_ hb,i7_ _ _ hk,ih_ hk hs,hi,hz]
  | some p=>
   rw[hi] at this
   simp only[Option.map_some] at this
   rw[←this]
   simp[run_underlying ht,ig_ hb,i7_ _ _ hk,ih_ hk hs,hi]
 ·cases hi:mv_ es.toList s 0 with
  | none=>
   rw[hi] at this
   simp only[Option.map_none] at this
   rw[←this]
   simp[run_underlying ht,ig_ hb,i7_ _ _ hk,ih_ hk hs,hi,hz]
  | some p=>
   rw[hi] at this
   simp only[Option.map_some] at this
   rw[←this]
   simp[run_underlying ht,ig_ hb,i7_ _ _ hk,ih_ hk hs,hi]
end
end Go.Proofs.YtpmebahhjgkflaaGreatDoor.CF
namespace Go.Proofs.YtpmebahhjgkflaaGreatDoor
open Go CF
set_option maxRecDepth 100000
structure Cg where
 kind:Int
 name:ByteArray
 to:ByteArray
 off:Nat
 p:L8
def cgv (x:Cg×Sl):List Value:=[.int .u8 x.1.kind,.string x.1.name,.string x.1.to,.int .i64 (x.1.off:Int),.slice x.2.A x.2.n x.2.c]
theorem s1_ (x:Cg×Sl):(cgv x).length=5:=rfl
structure Wst where
 seen:bD_
 dur:bD_
 waits:List Cg
 ops:Nat
structure Pl where
 mf:Option Nat
 F:Int→Bool
def jy_ (w:World) (pl:Pl):Prop:=match pl.mf with
 | none=>∀n,pl.F n=false
 | some b=>∃m,ru_ w b m∧∀n,(m n).getD (.bool false)=.bool (pl.F n)
def yK_:Pl:=⟨none,fun _=>false⟩
theorem jy_.keep {S:Nat→Prop} {w w':World} {pl:Pl} (h:jy_ w pl) (k:ab_ S w w') (hn:∀b,pl.mf=some b→¬S b):jy_ w' pl:=by
 obtain⟨mf,F⟩:=pl
 cases mf with
 | none=>exact h
 | some b=>
  obtain⟨m,h1,h2⟩:=h
  exact⟨m,h1.keep k (hn b rfl),h2⟩
theorem jy_.map {w:World} {pl:Pl} (h:jy_ w pl) {b:Nat} (hb:pl.mf=some b):∃es c,w.heap[b]?=some (.map es c):=by
 obtain⟨mf,F⟩:=pl
 simp only at hb
 subst hb
 obtain⟨m,⟨es,c,h1,_⟩,_⟩:=h
 exact⟨es,c,h1⟩
def hv_ (mf:Option Nat) (mb md:Nat) (ws:Sl) (ops:Nat):A_:=#[.map (some mb),.map (some md),.slice ws.A ws.n ws.c,.int .i64 (ops:Int),.map mf,.int .i64 (-1),.bool false]
structure c2_ (w:World) (pw:Nat) (D:Nat→Prop) (st:Wst) (pl:Pl) (mb md:Nat) (ws:Sl) (cs:List (Cg×Sl)):Prop where
 blk:Blk w pw (hv_ pl.mf mb md ws st.ops) ct_
 seen:IsF w mb st.seen
 dur:IsF w md st.dur
 ne:mb≠md
 own:Own w 0 aX_ 5 ws (cs.flatMap cgv)
 waits:cs.map (·.1)=st.waits
 rows:∀c∈cs,Own w 0 ae_ 1 c.2 (bv c.1.p)
 dw:D pw
 db:D mb
 dd:D md
 ds:∀g,ws.blk=some g→D g
 lt:∀k,D k→k<w.heap.size
 nb:bZ_ w D
 plan:jy_ w pl
 dp:∀b,pl.mf=some b→D b
 np:pl.mf≠some mb∧pl.mf≠some md
def a3_ (w:World) (pw:Nat) (D:Nat→Prop) (st:Wst) (F:Int→Bool):Prop:=∃pl,pl.F=F∧∃mb md ws cs,c2_ w pw D st pl mb md ws cs
def aF_:Int→Bool:=fun _=>false
abbrev IsW (w:World) (pw:Nat) (D:Nat→Prop) (st:Wst):Prop:=a3_ w pw D st aF_
theorem c2_.keep {S:Nat→Prop} {w w':World} {pw:Nat} {D:Nat→Prop} {st:Wst} {pl:Pl} {mb md:Nat} {ws:Sl} {cs:List (Cg×Sl)} (h:c2_ w pw D st pl mb md ws cs) (k:ab_ S w w') (hd:∀k,D k→¬S k) (hs:bZ_ w S) :
  c2_ w' pw D st pl mb md ws cs:=by
 have hsz:=k.size
 refine⟨k.heap h.blk (hd _ h.dw),h.seen.keep k (hd _ h.db) hs,h.dur.keep k (hd _ h.dd) hs,h.ne,h.own.keep k fun b hb=>hd _ (h.ds b hb),h.waits,fun c hc=>(h.rows c hc).keep k fun b hb=>?_,h.dw,h.db,h.dd,h.ds,fun k hk=>by have:=h.lt k hk;omega,fun g cur hg q=>?_,h.plan.keep k fun b hb=>hd _ (h.dp b hb),h.dp,h.np⟩
 ·obtain⟨cur,hcur⟩:=aU_ (h.rows c hc) hb
  exact hs b cur hcur
 ·have hlt:=h.lt g q
  have:=k.block g hlt (hd g q)
  exact h.nb g cur (by rw[←this];exact hg) q
theorem IsW.q {w:World} {pw:Nat} {D:Nat→Prop} {st:Wst} (h:IsW w pw D st):a3_ w pw D st aF_:=h
theorem a3_.isW {w:World} {pw:Nat} {D:Nat→Prop} {st:Wst} (h:a3_ w pw D st aF_):IsW w pw D st:=h
theorem a3_.keep {S:Nat→Prop} {w w':World} {pw:Nat} {D:Nat→Prop} {st:Wst} {F:Int→Bool} (h:a3_ w pw D st F) (k:ab_ S w w') (hd:∀k,D k→¬S k) (hs:bZ_ w S):a3_ w' pw D st F:=by
 obtain⟨pl,hq,mb,md,ws,cs,h⟩:=h
 exact⟨pl,hq,mb,md,ws,cs,h.keep k hd hs⟩
theorem a3_.grow {w w':World} {pw:Nat} {D:Nat→Prop} {st:Wst} {F:Int→Bool} (h:a3_ w pw D st F) (k:ac_ w w'):a3_ w' pw D st F:=h.keep k (fun _ _ q=>q) (b8_ w)
theorem k6_ {w:World} {R:O_→W_}
  (h:∀pw D w',ac_ w w'→IsW w' pw D ⟨fun _=>none,fun _=>none,[],0⟩→(∀k,D k→w.heap.size≤k)→R (some ⟨pw,0,none⟩) w'):iU_ w R:=by
 refine iY_.calls _ _ ?_
 rintro mb w1 rfl rfl
 rintro md w2 rfl rfl
 refine ah_ fun pw w3 hpw hb3 hg3 hsz3=>?_
 have hg1:=eS_ w (.map #[] 0)
 have hg2:=eS_ (w.alloc (.map #[] 0)) (.map #[] 0)
 have s1:(w.alloc (.map #[] 0)).heap.size=w.heap.size+1:=by simp
 have s2:((w.alloc (.map #[] 0)).alloc (.map #[] 0)).heap.size=w.heap.size+2:=by simp
 have f1:IsF w3 w.heap.size fun _=>none:=((s0_ w).grow hg2).grow hg3
 have f2:IsF w3 (w.alloc (.map #[] 0)).heap.size fun _=>none:=(s0_ _).grow hg3
 refine h pw (fun k=>k=pw∨k=w.heap.size∨k=(w.alloc (.map #[] 0)).heap.size) w3 ((hg1.trans hg2).trans hg3) ⟨yK_,rfl,w.heap.size,(w.alloc (.map #[] 0)).heap.size,⟨none,0,0⟩,[],?_⟩ fun k hk=>o_
 refine⟨hb3,f1,f2,o_,aK_ _ _ _ _,rfl,fun c hc=>(by cases hc),.inl rfl,.inr (.inl rfl),.inr (.inr rfl),fun g hg=>(by simp[Sl.blk] at hg),fun k hk=>o_,fun g cur hg q=>?_,fun _=>rfl,fun b hb=>(by cases hb),⟨fun q=>(by cases q),fun q=>(by cases q)⟩⟩
 rcases q with rfl|rfl|rfl
 ·rw[hb3] at hg
  injection hg with hg
  injection hg with _ ht
  exact absurd ht d_
 ·exact cq_ f1 _ _ _ hg
 ·exact cq_ f2 _ _ _ hg
theorem rv_ {P:Program} {w:World} {k:TypeId} {q:IntKind} (ek:Bool) (n:Nat) (hk:P.underlying k=some (.int q)) (z:Int):(Instr.checkKey ek (n+1) k (.int q z)).run P w=.ok () w:=by
 unfold Instr.checkKey
 simp[run_underlying hk]
theorem wj_ (w:World) (n:Int):(Instr.lookup kZ_ (.map none) (.int .i64 n) false).run Tryz.prog w=.ok (.bool false) w:=by
 have hf:(Instr.findKey 3 (.int .i64 n) []).run Tryz.prog w=.ok none w:=by
  unfold Instr.findKey
  simp[run_underlying qI_,Instr.findNow]
 unfold Instr.lookup
 simp[run_underlying k0_,rv_ _ _ qI_,hf,mt_ uX_]
theorem u1_ {w:World} {pl:Pl} (h:jy_ w pl) (n:Int):(Instr.lookup kZ_ (.map pl.mf) (.int .i64 n) false).run Tryz.prog w=.ok (.bool (pl.F n)) w:=by
 obtain⟨mf,F⟩:=pl
 cases mf with
 | none=>
  have e:F n=false:=h n
  show _=Result.ok (Value.bool (F n)) w
  rw[e];exact wj_ _ _
 | some b=>
  obtain⟨m,h1,h2⟩:=h
  have:=(tI_ (P:=Tryz.prog) k0_ qI_ (mt_ uX_ (w:=w)) h1 n).2
  rw[h2 n] at this
  exact this
theorem nZ_ {w:World} {pw:Nat} {D:Nat→Prop} {st:Wst} {pl:Pl} {mb md:Nat} {ws:Sl} {cs:List (Cg×Sl)} {R:Int→W_} (hw:c2_ w pw D st pl mb md ws cs) (ho:st.ops<1000000000000)
  (h:∀w',ab_ (fun k=>k=pw) w w'→c2_ w' pw D {st with ops:=st.ops+1} pl mb md ws cs→R (if pl.F (st.ops:Int) then 6 else 0) w'):c7_ (some ⟨pw,0,none⟩) w R:=by
 refine eB_.calls _ _ _ ?_
 have hb:=hw.blk
 refine⟨rfl,false,by rw[gA,am_,hb.cell];rfl,al_ rfl ⟨rfl,(st.ops:Int),by rw[gA,am_,hb.cell];rfl,rfl,(st.ops:Int),by rw[gA,am_,hb.cell];rfl,rfl,?_⟩⟩
 rw[w64 o_ o_]
 rw[gA,am_]
 refine a2_ hb (by show 3<7;decide) rfl fun w1 hb1 hk1 hsz1=>?_
 have hb1:Blk w1 pw (hv_ pl.mf mb md ws (st.ops+1)) ct_:=hb1
 have fin:c2_ w1 pw D {st with ops:=st.ops+1} pl mb md ws cs:=by
  have nbp:bZ_ w fun k=>k=pw:=fun g cur hg q=>hw.nb g cur hg (by subst q;exact hw.dw)
  have nm:mb≠pw:=fun q=>cq_ hw.seen _ _ _ (by rw[q];exact hb)
  have nd:md≠pw:=fun q=>cq_ hw.dur _ _ _ (by rw[q];exact hb)
  refine⟨hb1,hw.seen.keep hk1 nm nbp,hw.dur.keep hk1 nd nbp,hw.ne,hw.own.keep hk1 fun b hb2 q=>?_,hw.waits,fun c hc=>(hw.rows c hc).keep hk1 fun b hb2=>?_,hw.dw,hw.db,hw.dd,hw.ds,fun k hk=>by have:=hw.lt k hk;omega,fun g cur hg q=>?_,
   hw.plan.keep hk1 fun b hb2 q=>?_,hw.dp,hw.np⟩
  ·obtain⟨cur,hc⟩:=aU_ hw.own hb2
   subst q
   rw[hb] at hc
   injection hc with hc
   injection hc with _ ht
   exact absurd ht d_
  ·obtain⟨cur,hc2⟩:=aU_ (hw.rows c hc) hb2
   exact nbp b cur hc2
  ·by_cases e:g=pw
   ·subst e
    rw[hb1] at hg
    injection hg with hg
    injection hg with _ ht
    exact absurd ht d_
   ·exact hw.nb g cur (by rw[←hk1.block g (hw.lt g q) e];exact hg) q
  ·subst q
   obtain⟨es,c,hm⟩:=hw.plan.map hb2
   rw[hb] at hm
   cases hm
 refine⟨rfl,-1,by rw[am_,hb1.cell];rfl,al_ (by rw[beq_eq_false_iff_ne];omega) ⟨rfl,pl.mf,by rw[am_,hb1.cell];rfl,pl.F (st.ops:Int),u1_ fin.plan _,?_⟩⟩
 have:=h w1 hk1 fin
 cases hf:pl.F (st.ops:Int) with
 | false=>rw[hf] at this;exact al_ rfl this
 | true=>rw[hf] at this;exact ao_ rfl this
open Go CF
theorem ax_ {w:World} {b:Nat} {l:List Value} {t:TypeId} (h:Blk w b l.toArray t):bS_ w ⟨b,0,none⟩ l:=fun j v hj=>by
 rw[am_,h.cell];simpa using hj
theorem bs_ {w:World} {b:Nat} {cs cs':A_} {t t':TypeId} {f:Nat×Nat} (h:Blk w b cs t) (h':w.heap[b]?=some (.cells cs' t' f)):t=t':=by
 rw[h] at h'
 injection h' with h'
 injection h'
theorem bd_ {w:World} {base:Nat} {e:TypeId} {z:Nat} {s:Sl} {vs:List Value} (h:Own w base e z s vs) {b:Nat} {cs:A_} {t:TypeId} (hb:Blk w b cs t) (hne:t≠e):s.blk≠some b:=fun q=>by
 obtain⟨cur,hc⟩:=aU_ h q
 exact hne (bs_ hb hc)
section
variable {w w':World} {pw:Nat} {D:Nat→Prop} {st:Wst} {pl:Pl} {mb md:Nat} {ws:Sl} {cs:List (Cg×Sl)}
theorem c2_.pm (h:c2_ w pw D st pl mb md ws cs):mb≠pw∧md≠pw:=⟨fun q=>cq_ h.seen _ _ _ (by rw[q];exact h.blk),fun q=>cq_ h.dur _ _ _ (by rw[q];exact h.blk)⟩
theorem c2_.wm (h:c2_ w pw D st pl mb md ws cs):ws.blk≠some mb∧ws.blk≠some md∧ws.blk≠some pw:=by
 refine⟨fun q=>?_,fun q=>?_,bd_ h.own h.blk d_⟩
 ·obtain⟨cur,hc⟩:=aU_ h.own q;exact cq_ h.seen _ _ _ hc
 ·obtain⟨cur,hc⟩:=aU_ h.own q;exact cq_ h.dur _ _ _ hc
theorem u2_ {S:Nat→Prop} (h:bZ_ w D) (hl:∀k,D k→k<w.heap.size) (k:ab_ S w w') (hs:∀g cur,S g→w'.heap[g]?≠some (.cells cur ae_ (0,0))):bZ_ w' D:=fun g cur hg q=>by
 by_cases e:S g
 ·exact hs g cur e hg
 ·exact h g cur (by rw[←k.block g (hl g q) e];exact hg) q
theorem c2_.setSeen {F:bD_} (h:c2_ w pw D st pl mb md ws cs) (k:ab_ (fun k=>k=mb) w w') (hF:IsF w' mb F):c2_ w' pw D {st with seen:=F} pl mb md ws cs:=by
 have hsz:=k.size
 have nb:=if_ h.seen
 refine⟨k.heap h.blk (fun q=>h.pm.1 q.symm),hF,h.dur.keep k (fun q=>h.ne q.symm) nb,h.ne,h.own.keep k fun b hb q=>h.wm.1 (by rw[hb,q]),h.waits,fun c hc=>(h.rows c hc).keep k fun b hb=>?_,h.dw,h.db,h.dd,h.ds,fun k hk=>(by have:=h.lt k hk;omega),u2_ h.nb h.lt k fun g cur q hg=>?_,h.plan.keep k fun b hb q=>h.np.1 (by rw[hb,q]),h.dp,h.np⟩
 ·obtain⟨cur,hcur⟩:=aU_ (h.rows c hc) hb
  exact nb b cur hcur
 ·subst q;exact cq_ hF _ _ _ hg
theorem c2_.setDur {F:bD_} (h:c2_ w pw D st pl mb md ws cs) (k:ab_ (fun k=>k=md) w w') (hF:IsF w' md F):c2_ w' pw D {st with dur:=F} pl mb md ws cs:=by
 have hsz:=k.size
 have nb:=if_ h.dur
 refine⟨k.heap h.blk (fun q=>h.pm.2 q.symm),h.seen.keep k (fun q=>h.ne q) nb,hF,h.ne,h.own.keep k fun b hb q=>h.wm.2.1 (by rw[hb,q]),h.waits,fun c hc=>(h.rows c hc).keep k fun b hb=>?_,h.dw,h.db,h.dd,h.ds,fun k hk=>(by have:=h.lt k hk;omega),u2_ h.nb h.lt k fun g cur q hg=>?_,h.plan.keep k fun b hb q=>h.np.2 (by rw[hb,q]),h.dp,h.np⟩
 ·obtain⟨cur,hcur⟩:=aU_ (h.rows c hc) hb
  exact nb b cur hcur
 ·subst q;exact cq_ hF _ _ _ hg
theorem c2_.setWaits {w1 w2:World} {ws':Sl} {cs':List (Cg×Sl)} (h:c2_ w pw D st pl mb md ws cs) (k:ab_ (fun k=>some k=ws.blk) w w1) (hown:Own w1 0 aX_ 5 ws' (cs'.flatMap cgv)) (hat:ws'.blk=ws.blk∨ws'.blk=some w.heap.size∨ws'.blk=none)
  (hr:∀c∈cs',Own w 0 ae_ 1 c.2 (bv c.1.p)) (hb:Blk w2 pw (hv_ pl.mf mb md ws' st.ops) ct_) (k2:ab_ (fun k=>k=pw) w1 w2) :
  c2_ w2 pw (fun k=>((k=pw∨k=mb∨k=md)∨some k=ws'.blk)∨pl.mf=some k) {st with waits:=cs'.map (·.1)} pl mb md ws' cs'∧ab_ D w w2∧∀k,(((k=pw∨k=mb∨k=md)∨some k=ws'.blk)∨pl.mf=some k)→D k∨w.heap.size≤k:=by
 have hsz:=k.size
 have hsz2:=k2.size
 have nb1:bZ_ w fun k=>some k=ws.blk:=fun g cur hg q=>h.nb g cur hg (h.ds g q.symm)
 have hb1:Blk w1 pw (hv_ pl.mf mb md ws st.ops) ct_:=k.heap h.blk fun q=>h.wm.2.2 q.symm
 have hwp:ws'.blk≠some pw:=bd_ hown hb1 d_
 have f1:=h.seen.keep k (fun q=>h.wm.1 q.symm) nb1
 have d1:=h.dur.keep k (fun q=>h.wm.2.1 q.symm) nb1
 have nb2:bZ_ w1 fun k=>k=pw:=fun g cur hg q=>by
  subst q;exact absurd (bs_ hb1 hg) d_
 have f2:=f1.keep k2 h.pm.1 nb2
 have d2:=d1.keep k2 h.pm.2 nb2
 have o2:Own w2 0 aX_ 5 ws' (cs'.flatMap cgv):=hown.keep k2 fun b hb3 q=>hwp (by rw[hb3,q])
 refine⟨⟨hb,f2,d2,h.ne,o2,rfl,fun c hc=>((hr c hc).keep k fun b hb3=>?_).keep k2 fun b hb3=>?_,.inl (.inl (.inl rfl)),.inl (.inl (.inr (.inl rfl))),.inl (.inl (.inr (.inr rfl))),fun g hg=>.inl (.inr hg.symm),fun j hj=>?_,fun g cur hg q=>?_,(h.plan.keep k fun b hb3 q=>?_).keep k2 fun b hb3 q=>?_,fun b hb3=>.inr hb3,h.np⟩,
  (k.mono fun i _ q=>h.ds i q.symm).trans k2 fun i _ q=>(by subst q;exact h.dw),fun j hj=>?_⟩
 ·obtain⟨cur,hcur⟩:=aU_ (hr c hc) hb3
  exact nb1 b cur hcur
 ·have hc1:Own w1 0 ae_ 1 c.2 (bv c.1.p):=(hr c hc).keep k fun b hb4=>by
   obtain⟨cur,hcur⟩:=aU_ (hr c hc) hb4
   exact nb1 b cur hcur
  obtain⟨cur,hcur⟩:=aU_ hc1 hb3
  exact nb2 b cur hcur
 ·rcases hj with((q|q|q)|q)|q
  ·have:=au_ h.blk;omega
  ·have:=u0_ f2;omega
  ·have:=u0_ d2;omega
  ·have:=(hown.ge j q.symm).2;omega
  ·obtain⟨es,c,hm⟩:=h.plan.map q
   have:=au_ hm;omega
 ·rcases q with((q|q|q)|q)|q
  ·subst q;exact absurd (bs_ hb hg) d_
  ·subst q;exact cq_ f2 _ _ _ hg
  ·subst q;exact cq_ d2 _ _ _ hg
  ·obtain⟨cur',hc'⟩:=aU_ o2 q.symm
   rw[hc'] at hg
   injection hg with hg
   injection hg with _ ht
   exact absurd ht d_
  ·obtain⟨es,c,hm⟩:=h.plan.map q
   have hg2:w2.heap[g]?=w.heap[g]?:=by
    have hlt:=au_ hm
    rw[k2.block g o_ (fun e=>by subst e;rw[h.blk] at hm;cases hm),k.block g hlt (fun e=>by
     obtain⟨cur',hc'⟩:=aU_ h.own e.symm
     rw[hc'] at hm;cases hm)]
   rw[hg2,hm] at hg
   cases hg
 ·obtain⟨es,c,hm⟩:=h.plan.map hb3
  obtain⟨cur',hc'⟩:=aU_ h.own q.symm
  rw[hc'] at hm;cases hm
 ·obtain⟨es,c,hm⟩:=h.plan.map hb3
  subst q
  rw[h.blk] at hm;cases hm
 ·rcases hj with((q|q|q)|q)|q
  ·exact .inl (q▸h.dw)
  ·exact .inl (q▸h.db)
  ·exact .inl (q▸h.dd)
  ·rcases hat with r|r|r
   ·exact .inl (h.ds j (by rw[←r];exact q.symm))
   ·rw[r] at q;injection q with q;exact .inr o_
   ·rw[r] at q;cases q
  ·exact .inl (h.dp j q)
end
theorem rw_ (l:List (Cg×Sl)):(l.flatMap cgv).length=l.length*5:=bx_ s1_ l
theorem wk_ {w:World} {pw:Nat} {D:Nat→Prop} {st:Wst} {F:Int→Bool} {name:ByteArray} {off:Nat} {p:Sl} {bs:L8} {R:Int→W_} (hw:a3_ w pw D st F) (hp:Own w 0 ae_ 1 p (bv bs)) (hb:off+bs.length≤1048576)
  (ho:st.ops<1000000000000) (hn:st.waits.length<1000000000)
  (h:F (st.ops:Int)=false→∀w' D',ab_ D w w'→a3_ w' pw D' ⟨eK_ st.seen name off bs,st.dur,st.waits++[⟨119,name,⟨#[]⟩,off,bs⟩],st.ops+1⟩ F→(∀k,D' k→D k∨w.heap.size≤k)→R 0 w')
  (hbad:F (st.ops:Int)=true→∀w',ab_ D w w'→a3_ w' pw D {st with ops:=st.ops+1} F→R 6 w') :
  hi_ (some ⟨pw,0,none⟩) #[.int .u8 119,.string name,.string ⟨#[]⟩,.int .i64 (off:Int),.slice p.A p.n p.c] w R:=by
 obtain⟨pl,hF,mb,md,ws,cs,hw⟩:=hw
 subst hF
 refine fC_.calls _ _ _ _ ?_
 generalize hx:((⟨119,name,⟨#[]⟩,off,bs⟩,p):Cg×Sl)=x
 have hxv:(#[.int .u8 119,.string name,.string ⟨#[]⟩,.int .i64 (off:Int),.slice p.A p.n p.c]:A_)=(cgv x).toArray:=by subst hx;rfl
 refine ah_ fun cb w0 hcb hb0 hg0 hsz0=>?_
 rw[hxv] at hb0
 have hb0:Blk w0 cb (cgv x).toArray aX_:=hb0
 have hw0:=hw.keep hg0 (fun _ _ q=>q) (b8_ w)
 refine nZ_ hw0 ho fun w1 hk1 hw1=>?_
 cases hfl:pl.F (st.ops:Int) with
 | true=>exact ao_ rfl (hbad hfl w1 ((hg0.mono (S':=D) fun _ _ q=>q.elim).trans hk1 fun _ _ q=>(by subst q;exact hw.dw)) ⟨pl,rfl,mb,md,ws,cs,hw1⟩)
 | false=>
 refine al_ rfl ?_
 have hcp:cb≠pw:=fun q=>by have:=au_ hw.blk;omega
 have hb1:=hk1.heap hb0 hcp
 rintro w2 rfl
 have hg2:ac_ w1 w1.drew:=aq_ w1
 have hw2:=hw1.keep hg2 (fun _ _ q=>q) (b8_ w1)
 have hb2:=hg2.heap hb1 (fun q=>q)
 have c4:∀{u:World},Blk u cb (cgv x).toArray aX_→u.cell? ((⟨cb,0,none⟩:Addr).add 4)=some (.slice p.A p.n p.c):=fun q=>by subst hx;rw[am_,q.cell];rfl
 have lv:∀{u:World},Blk u cb (cgv x).toArray aX_→(loadVar aX_ ⟨cb,0,none⟩).run Tryz.prog u=.ok (.agg (cgv x).toArray) u:=fun q=>aC_ k1_ f3_ rfl (ax_ q)
 have hpn:bs.length=p.n:=by have:=hp.len;rw[az_] at this;omega
 have hp0:Own w0 0 ae_ 1 p (bv bs):=hp.grow hg0
 have nbp:∀{u:World} {st':Wst} {ws':Sl} {cs':List (Cg×Sl)} {D':Nat→Prop},c2_ u pw D' st' pl mb md ws' cs'→bZ_ u fun k=>k=pw:=fun q g cur hg e=>by subst e;exact absurd (bs_ q.blk hg) d_
 have okeep:∀{u u':World} {S:Nat→Prop},Own u 0 ae_ 1 p (bv bs)→ab_ S u u'→bZ_ u S→Own u' 0 ae_ 1 p (bv bs):=fun q k nb=>q.keep k fun b hb3=>by
  obtain⟨cur,hc⟩:=aU_ q hb3
  exact nb b cur hc
 have hp2:Own w1.drew 0 ae_ 1 p (bv bs):=(okeep hp0 hk1 (nbp hw0)).grow hg2
 refine⟨fun u=>Blk u pw (hv_ pl.mf mb md ws (st.ops+1)) ct_∧Blk u cb (cgv x).toArray aX_,⟨hw2.blk,hb2⟩,rfl,some mb,fun u hu=>by rw[gA,am_,hu.1.cell];rfl,(cgv x).toArray,fun u hu=>lv hu.2,p,fun u hu=>c4 hu.2,?_⟩
 rw[←hxv]
 refine mu_ hw2.seen (hp2.rd o_) hb fun w3 hk3 hF3=>?_
 have hw3:=hw2.setSeen hk3 hF3
 rw[List.take_of_length_le o_] at hw3 hF3
 have hb3:Blk w3 cb (cgv x).toArray aX_:=hk3.heap hb2 fun q=>cq_ hw2.seen _ _ _ (by rw[←q];exact hb2)
 have hp3:=okeep hp2 hk3 (if_ hw2.seen)
 rintro w4 rfl
 have hg4:ac_ w3 w3.drew:=aq_ w3
 have hw4:=hw3.keep hg4 (fun _ _ q=>q) (b8_ w3)
 have hb4:=hg4.heap hb3 (fun q=>q)
 have hlen:cs.length=st.waits.length:=by rw[←hw.waits,List.length_map]
 have hwn:ws.n=cs.length:=by have:=hw.own.len;rw[rw_] at this;omega
 refine⟨fun u=>Blk u pw (hv_ pl.mf mb md ws (st.ops+1)) ct_∧Blk u cb (cgv x).toArray aX_,⟨hw4.blk,hb4⟩,rfl,ws,fun u hu=>by rw[gA,am_,hu.1.cell];rfl,(cgv x).toArray,fun u hu=>lv hu.2,?_⟩
 refine aH_ (cells:=(cgv x).toArray) (e:=aX_) (z:=5) (base:=0) (by subst hx;kernel_rfl) rfl d_ (Nat.zero_le _) fun w5 hlit5 hg5 _=>⟨⟨hg5.heap hw4.blk (fun q=>q),hg5.heap hb4 (fun q=>q)⟩,?_⟩
 have hw5:=hw4.keep hg5 (fun _ _ q=>q) (b8_ _)
 refine aS_ no_ f3_ rfl d_ d_ hw5.own (hlit5.rd (by show 1≤_;decide)) (by subst hx;simp[cgv,Value.oneCell']) (by show(ws.n+1)*72≤_;omega) (Nat.zero_le _) fun ws' w6 hn6 hown6 hk6 hat6=>?_
 have hb6:Blk w6 pw (hv_ pl.mf mb md ws (st.ops+1)) ct_:=hk6.heap hw5.blk fun q=>hw5.wm.2.2 q.symm
 refine⟨rfl,?_⟩
 rw[gA,am_]
 refine a2_ hb6 (by show 2<7;decide) rfl fun w7 hb7 hk7 hsz7=>?_
 have hrows:∀c∈cs++[x],Own w5 0 ae_ 1 c.2 (bv c.1.p):=fun c hc=>by
  rcases List.mem_append.1 hc with q|q
  ·exact hw5.rows c q
  ·rw[List.mem_singleton.1 q];subst hx;exact(hp3.grow hg4).grow hg5
 have hown6':Own w6 0 aX_ 5 ws' ((cs++[x]).flatMap cgv):=by
  rw[List.flatMap_append]
  simpa using hown6
 have hfin:=hw5.setWaits (w1:=w6) (w2:=w7) (ws':=ws') (cs':=cs++[x]) hk6 hown6' (hat6.imp id .inl) hrows hb7 hk7
 have hKD:ab_ D w w7:=by
  have k1:ab_ D w w1.drew:=((hg0.mono (S':=D) fun _ _ q=>q.elim).trans hk1 fun _ _ q=>(by subst q;exact hw.dw)).trans hg2 fun _ _ q=>q.elim
  have k2:ab_ D w w5:=((k1.trans hk3 fun _ _ q=>(by subst q;exact hw.db)).trans hg4 fun _ _ q=>q.elim).trans hg5 fun _ _ q=>q.elim
  exact k2.trans hfin.2.1 fun _ _ q=>q
 refine h hfl w7 (fun k=>((k=pw∨k=mb∨k=md)∨some k=ws'.blk)∨pl.mf=some k) hKD ⟨pl,rfl,mb,md,ws',cs++[x],?_⟩ fun k hk=>?_
 ·have:=hfin.1
  rw[List.map_append,hw.waits] at this
  subst hx
  exact this
 ·rcases hfin.2.2 k hk with q|q
  ·exact .inl q
  ·have h1:=hg0.size
   have h2:=hk1.size
   have h3:=hg2.size
   have h4:=hk3.size
   have h5:=hg4.size
   have h6:=hg5.size
   exact .inr o_
open Go CF
def lJ_ (w:World) (S:Nat→Prop) (B:Nat):Prop:=∀g cur,w.heap[g]?=some (.cells cur ae_ (0,0))→S g→B≤g
theorem bZ_.b {w:World} {S:Nat→Prop} (h:bZ_ w S) (B:Nat):lJ_ w S B:=fun g cur hg q=>absurd q (h g cur hg)
def k7_ (w:World) (B:Nat) (v:Option Value) (l:Option L8):Prop:=jx_ w v l∧∀s:Sl,v=some (.slice s.A s.n s.c)→∀b,s.blk=some b→b<B
theorem k7_.keep {S:Nat→Prop} {w w':World} {B:Nat} {v:Option Value} {l:Option L8} (h:k7_ w B v l) (k:ab_ S w w') (hn:lJ_ w S B):k7_ w' B v l:=by
 refine⟨?_,h.2⟩
 cases l with
 | none=>exact h.1
 | some l=>
  obtain⟨⟨s,h1,h2,h3⟩,hB⟩:=h
  refine⟨s,h1,h2.keep k fun b hb q=>?_,h3⟩
  obtain⟨cur,hc⟩:=aU_ h2 hb
  have:=hn b cur hc q
  have:=hB s h1 b hb
  omega
theorem jx_.toB {w:World} {v:Option Value} {l:Option L8} (h:jx_ w v l):k7_ w w.heap.size v l:=by
 refine⟨h,fun s hs b hb=>?_⟩
 cases l with
 | none=>rw[show v=none from h] at hs;cases hs
 | some l=>
  obtain⟨s',h1,h2,_⟩:=h
  rw[h1] at hs
  injection hs with hs
  injection hs with hA hn hc
  have:s'.blk=some b:=by rw[←hb];simp[Sl.blk,hA]
  obtain⟨cur,hc⟩:=aU_ h2 this
  exact au_ hc
def mw_ (w:World) (mb:Nat) (F:bD_) (B:Nat):Prop:=∃m,lq_ w mb m∧∀s,k7_ w B (m s) (F s)
theorem mw_.keep {S:Nat→Prop} {w w':World} {mb B:Nat} {F:bD_} (h:mw_ w mb F B) (k:ab_ S w w') (hm:¬S mb) (hn:lJ_ w S B):mw_ w' mb F B:=by
 obtain⟨m,h1,h2⟩:=h
 exact⟨m,h1.keep k hm,fun s=>(h2 s).keep k hn⟩
theorem mw_.isF {w:World} {mb B:Nat} {F:bD_} (h:mw_ w mb F B):IsF w mb F:=by
 obtain⟨m,h1,h2⟩:=h
 exact⟨m,h1,fun s=>(h2 s).1⟩
theorem IsF.toB {w:World} {mb:Nat} {F:bD_} (h:IsF w mb F):mw_ w mb F w.heap.size:=by
 obtain⟨m,h1,h2⟩:=h
 exact⟨m,h1,fun s=>(h2 s).toB⟩
def hw_ (w:World) (pw:Nat) (D:Nat→Prop) (st:Wst) (F:Int→Bool) (B:Nat):Prop:=∃pl,pl.F=F∧∃mb md ws cs,c2_ w pw D st pl mb md ws cs∧mw_ w mb st.seen B∧mw_ w md st.dur B∧∀c∈cs,∀b,c.2.blk=some b→b<B
section
variable {w u v:World} {pw B:Nat} {D S:Nat→Prop} {st:Wst} {F:Int→Bool} {k:Nat}
theorem hw_.isWq (h:hw_ w pw D st F B):a3_ w pw D st F:=by
 obtain⟨pl,hF,mb,md,ws,cs,h,_⟩:=h
 exact⟨pl,hF,mb,md,ws,cs,h⟩
theorem a3_.toB (h:a3_ w pw D st F):hw_ w pw D st F w.heap.size:=by
 obtain⟨pl,hF,mb,md,ws,cs,h⟩:=h
 refine⟨pl,hF,mb,md,ws,cs,h,h.seen.toB,h.dur.toB,fun c hc b hb=>?_⟩
 obtain⟨cur,hcur⟩:=aU_ (h.rows c hc) hb
 exact au_ hcur
theorem hw_.keep (h:hw_ w pw D st F B) (k:ab_ S w u) (hd:∀k,D k→¬S k) (hs:lJ_ w S B):hw_ u pw D st F B:=by
 obtain⟨pl,hF,mb,md,ws,cs,h,f1,f2,f3⟩:=h
 have hsz:=k.size
 have g1:=f1.keep k (hd _ h.db) hs
 have g2:=f2.keep k (hd _ h.dd) hs
 refine⟨pl,hF,mb,md,ws,cs,⟨k.heap h.blk (hd _ h.dw),g1.isF,g2.isF,h.ne,h.own.keep k fun b hb=>hd _ (h.ds b hb),h.waits,fun c hc=>(h.rows c hc).keep k fun b hb q=>?_,h.dw,h.db,h.dd,h.ds,fun k hk=>by have:=h.lt k hk;omega,fun g cur hg q=>?_,
  h.plan.keep k fun b hb=>hd _ (h.dp b hb),h.dp,h.np⟩,g1,g2,f3⟩
 ·obtain⟨cur,hcur⟩:=aU_ (h.rows c hc) hb
  have:=hs b cur hcur q
  have:=f3 c hc b hb
  omega
 ·have hlt:=h.lt g q
  have:=k.block g hlt (hd g q)
  exact h.nb g cur (by rw[←this];exact hg) q
theorem hw_.grow (h:hw_ w pw D st F B) (k:ac_ w u):hw_ u pw D st F B:=h.keep k (fun _ _ q=>q) ((b8_ w).b B)
def RdW (w u:World) (pw:Nat) (D:Nat→Prop) (st:Wst) (k:Nat):Prop:=∀F B,hw_ w pw D st F B→hw_ u pw D {st with ops:=st.ops+k} F B
theorem RdW.isWq (h:RdW w u pw D st k) (hw:a3_ w pw D st F):a3_ u pw D {st with ops:=st.ops+k} F:=(h _ _ hw.toB).isWq
theorem RdW.isW (h:RdW w u pw D st k) (hw:IsW w pw D st):IsW u pw D {st with ops:=st.ops+k}:=(h.isWq hw.q).isW
theorem RdW.refl (w:World) (pw:Nat) (D:Nat→Prop) (st:Wst):RdW w w pw D st 0:=fun _ _ h=>h
theorem RdW.grow (h:RdW w u pw D st k) (g:ac_ u v):RdW w v pw D st k:=fun F B hB=>(h F B hB).grow g
theorem RdW.pre (h:RdW u v pw D st k) (g:ac_ w u):RdW w v pw D st k:=fun F B hB=>h F B (hB.grow g)
theorem RdW.keep (h:RdW w u pw D st k) (g:ab_ S u v) (hd:∀k,D k→¬S k) (hs:bZ_ u S):RdW w v pw D st k:=fun F B hB=>(h F B hB).keep g hd (hs.b B)
theorem RdW.trans {j:Nat} (h:RdW w u pw D st k) (g:RdW u v pw D {st with ops:=st.ops+k} j):RdW w v pw D st (k+j):=fun F B hB=>by
 have:=g F B (h F B hB)
 rw[←Nat.add_assoc];exact this
theorem wl_ {pl:Pl} {mb md:Nat} {ws:Sl} {cs:List (Cg×Sl)} (hw:c2_ w pw D st pl mb md ws cs) (hk:ab_ (fun k=>k=pw) w u) (hw1:c2_ u pw D {st with ops:=st.ops+1} pl mb md ws cs):RdW w u pw D st 1:=fun F B hB=>by
 obtain⟨pl',hF,mb',md',ws',cs',h,f1,f2,f3⟩:=hB
 have nbp:bZ_ w fun k=>k=pw:=fun g cur hg q=>hw.nb g cur hg (by subst q;exact hw.dw)
 have e:=h.blk.symm.trans hw.blk
 injection e with e
 injection e with e
 have e:=congrArg Array.toList e
 simp only[hv_,List.cons.injEq,Value.map.injEq,Option.some.injEq,Value.slice.injEq,true_and,and_true] at e
 obtain⟨rfl,rfl,⟨eA,en,ec⟩,em⟩:=e
 obtain⟨A,n,c⟩:=ws
 obtain⟨A',n',c'⟩:=ws'
 dsimp only at eA en ec
 subst eA en ec
 have nm:mb'≠pw:=fun q=>cq_ hw.seen _ _ _ (by rw[q];exact hw.blk)
 have nd:md'≠pw:=fun q=>cq_ hw.dur _ _ _ (by rw[q];exact hw.blk)
 refine⟨pl',hF,mb',md',_,cs',⟨by rw[em];exact hw1.blk,hw1.seen,hw1.dur,hw1.ne,h.own.keep hk fun b hb2 q=>?_,h.waits,fun c hc=>(h.rows c hc).keep hk fun b hb2=>?_,hw1.dw,hw1.db,hw1.dd,h.ds,hw1.lt,hw1.nb,h.plan.keep hk fun b hb2 q=>?_,h.dp,h.np⟩,f1.keep hk nm (nbp.b B),f2.keep hk nd (nbp.b B),f3⟩
 ·obtain⟨cur,hc⟩:=aU_ h.own hb2
  subst q
  exact absurd (bs_ hw.blk hc) d_
 ·obtain⟨cur,hc2⟩:=aU_ (h.rows c hc) hb2
  exact nbp b cur hc2
 ·obtain⟨es,c,hm⟩:=h.plan.map hb2
  subst q
  rw[h.blk] at hm;cases hm
end
open Go CF
theorem cr_ (l:L8):∀u∈bv l,u.oneCell'=true:=by
 intro u hu
 simp only[bv,List.mem_map] at hu
 obtain⟨p,_,rfl⟩:=hu;rfl
theorem pX_ {s:ByteArray} {w:World} {R:Bool→W_} (h:R (decide (1≤s.size∧s.size≤32)) w):h3_ s w R:=by
 refine gs_.calls _ _ _ ?_
 have e:((decide ((s.size:Int)≥1))&&(decide ((s.size:Int)≤32)))=decide (1≤s.size∧s.size≤32):=by
  rw[Bool.eq_iff_iff,Bool.and_eq_true,decide_eq_true_eq,decide_eq_true_eq,decide_eq_true_eq]
  omega
 unfold gs_
 rw[e]
 exact h
theorem ke_ {w:World} {pw:Nat} {D:Nat→Prop} {st:Wst} {F:Int→Bool} {file:ByteArray} {off:Nat} {p:Sl} {bs:L8} {R:Int→W_} (hw:a3_ w pw D st F) (hs:1≤file.size∧file.size≤32) (hp:Rd w 1 p (bv bs)) (hb:off+bs.length≤1048576)
  (ho:st.ops<1000000000000) (hn:st.waits.length<1000000000)
  (h:F (st.ops:Int)=false→∀w' D',ab_ D w w'→a3_ w' pw D' ⟨eK_ st.seen file off bs,st.dur,st.waits++[⟨119,file,⟨#[]⟩,off,bs⟩],st.ops+1⟩ F→(∀k,D' k→D k∨w.heap.size≤k)→R 0 w')
  (hbad:F (st.ops:Int)=true→∀w',ab_ D w w'→a3_ w' pw D {st with ops:=st.ops+1} F→R 6 w') :
  dO_ (some ⟨pw,0,none⟩) file (off:Int) p w R:=by
 refine d1_.calls _ _ _ _ _ _ ?_
 have hpn:bs.length=p.n:=by have:=hp.len;rw[az_] at this;omega
 refine pX_ ?_
 rw[decide_eq_true hs]
 refine al_ (by rw[Bool.or_eq_false_iff,decide_eq_false_iff_not];exact⟨rfl,o_⟩) ?_
 have hwp:IntKind.wrap .i64 (1048576-(off:Int))=1048576-(off:Int):=w64 o_ o_
 refine al_ (by rw[Bool.or_eq_false_iff,decide_eq_false_iff_not,decide_eq_false_iff_not,hwp];omega) (al_ rfl ?_)
 refine aS_ (s:=⟨none,0,0⟩) (vs:=[]) (base:=0) aN_ bG_ rfl d_ d_ (aK_ _ _ _ _) hp (cr_ _) (by show(0+p.n)*1≤_;omega) (Nat.zero_le _) fun s1 w1 hn1 hown1 hk1 _=>?_
 have hg1:ac_ w w1:=hk1.mono fun i hi q=>by cases q
 rw[List.nil_append] at hown1
 have hsz:=hg1.size
 refine wk_ (hw.grow hg1) hown1 hb ho hn (fun hf w2 D' hk2 hw2 hD=>h hf w2 D' ((hg1.mono fun _ _ q=>q.elim).trans hk2 fun _ _ q=>q) hw2 fun k hk=>?_) (fun hf w2 hk2 hw2=>hbad hf w2 ((hg1.mono fun _ _ q=>q.elim).trans hk2 fun _ _ q=>q) hw2)
 rcases hD k hk with q|q
 ·exact .inl q
 ·exact .inr o_
theorem hx_ {w:World} {pw:Nat} {D:Nat→Prop} {st:Wst} {F:Int→Bool} {file:ByteArray} {off n:Nat} {R:Sl→Int→W_} (hw:a3_ w pw D st F) (hs:1≤file.size∧file.size≤32) (hb:off≤1000000000) (hb2:n≤1000000000)
  (ho:st.ops<1000000000000)
  (h:F (st.ops:Int)=false→∀s w',ab_ D w w'→RdW w w' pw D st 1→Own w' w.heap.size ae_ 1 s (bv ((((st.seen file).getD []).drop off).take n))→s.n≤1048576→R s (if (st.seen file).isSome then 0 else 8) w')
  (hbad:F (st.ops:Int)=true→∀w',ab_ D w w'→RdW w w' pw D st 1→R ⟨none,0,0⟩ 6 w') :
  co_ (some ⟨pw,0,none⟩) file (off:Int) (n:Int) w R:=by
 obtain⟨pl,hF,mb,md,ws,cs,hw⟩:=hw
 subst hF
 refine eu_.calls _ _ _ _ _ _ ?_
 refine pX_ ?_
 rw[decide_eq_true hs]
 refine al_ (by rw[Bool.or_eq_false_iff,Bool.or_eq_false_iff,decide_eq_false_iff_not,decide_eq_false_iff_not];exact⟨⟨rfl,o_⟩,o_⟩) (al_ rfl ⟨rfl,some mb,by rw[gA,am_,hw.blk.cell];rfl,?_⟩)
 obtain⟨r,hlk,_,hown,hr2,hol⟩:=pW_ hw.seen file
 refine⟨r,hlk,?_⟩
 refine nZ_ hw ho fun w1 hk1 hw1=>?_
 have hkD:ab_ D w w1:=hk1.mono fun _ _ q=>by subst q;exact hw.dw
 have hw1':RdW w w1 pw D st 1:=wl_ hw hk1 hw1
 have hsz:=hk1.size
 cases hfl:pl.F (st.ops:Int) with
 | true=>exact ao_ rfl (hbad hfl w1 hkD hw1')
 | false=>
 have h:=h hfl
 refine al_ rfl ?_
 cases hF:st.seen file with
 | none=>
  rw[hF] at hr2
  refine ao_ (by rw[hr2];rfl) ?_
  have:=h ⟨none,0,0⟩ w1 hkD hw1'
  rw[hF] at this
  exact this (by simp only[Option.getD_none,List.drop_nil,List.take_nil];exact aK_ _ _ _ _) (Nat.zero_le _)
 | some l=>
  rw[hF] at hr2 hown hol h
  simp only[Option.getD_some,Option.isSome_some,if_true] at hr2 hown hol h
  refine al_ (by rw[hr2];rfl) ?_
  have hln:l.length=r.1.n:=by have:=hown.len;rw[az_] at this;omega
  have hown1:Own w1 0 ae_ 1 r.1 (bv l):=hown.keep hk1 fun b hb3 q=>by
   obtain⟨cur,hc⟩:=aU_ hown hb3
   subst q
   exact absurd (bs_ hw.blk hc) d_
  refine a6_ (fun hge=>?_) (fun hlt=>?_)
  ·have:=h ⟨none,0,0⟩ w1 hkD hw1'
   rw[List.drop_of_length_le o_,List.take_nil] at this
   exact this (aK_ w1 w.heap.size ae_ 1) (Nat.zero_le _)
  ·have hrd:=hown1.rd o_
   have hcap:=hrd.cap
   have e1:IntKind.wrap .i64 ((r.1.n:Int)-(off:Int))=((r.1.n-off:Nat):Int):=by rw[w64 o_ o_];omega
   have e2:IntKind.wrap .i64 ((off:Int)+(mn (n:Int) (IntKind.wrap .i64 ((r.1.n:Int)-(off:Int)))))=((off+min n (r.1.n-off):Nat):Int):=by
    rw[e1,uZ_,w64 o_ o_];omega
   rw[e2]
   refine⟨⟨o_,o_,o_,hcap⟩,?_⟩
   simp only[Int.toNat_natCast]
   have hx:=hrd.cutB (l:=off) (k:=off+min n (r.1.n-off)) o_ o_
   refine aS_ (s:=⟨none,0,0⟩) (vs:=[]) (base:=w.heap.size) aN_ bG_ rfl d_ d_ (aK_ _ _ _ _) hx (cr_ _) (by show(0+(off+min n (r.1.n-off)-off))*1≤_;omega) hsz fun s2 w2 hn2 hown2 hk2 _=>?_
   have hg2:ac_ w1 w2:=hk2.mono fun i hi q=>by cases q
   rw[List.nil_append] at hown2
   have e3:(l.drop off).take (off+min n (r.1.n-off)-off)=(l.drop off).take n:=by
    rw[show off+min n (r.1.n-off)-off=min n (l.drop off).length by rw[List.length_drop];omega]
    rcases Nat.le_total n (l.drop off).length with q|q
    ·rw[Nat.min_eq_left q]
    ·rw[Nat.min_eq_right q,List.take_length,List.take_of_length_le q]
   rw[e3] at hown2
   refine h s2 w2 (hkD.grow hg2) (hw1'.grow hg2) hown2 ?_
   have:s2.n=0+(off+min n (r.1.n-off)-off):=hn2
   omega
theorem n0_ {w:World} {pw:Nat} {D:Nat→Prop} {st:Wst} {file:ByteArray} {off n:Nat} {R:Sl→Int→W_} (hw:IsW w pw D st) (hs:1≤file.size∧file.size≤32) (hb:off≤1000000000) (hb2:n≤1000000000)
  (ho:st.ops<1000000000000)
  (h:∀s w',ab_ D w w'→RdW w w' pw D st 1→Own w' w.heap.size ae_ 1 s (bv ((((st.seen file).getD []).drop off).take n))→s.n≤1048576→R s (if (st.seen file).isSome then 0 else 8) w') :
  co_ (some ⟨pw,0,none⟩) file (off:Int) (n:Int) w R:=
 hx_ hw.q hs hb hb2 ho (fun _ s w' k r=>h s w' k r) (fun q=>by cases q)
theorem ow_ {w:World} {pw:Nat} {D:Nat→Prop} {st:Wst} {file:ByteArray} {off n:Nat} {R:Sl→Int→W_} (hw:IsW w pw D st) (hs:1≤file.size∧file.size≤32) (hb:off≤1000000000) (hb2:n≤1000000000)
  (ho:st.ops<1000000000000)
  (h:∀s w',ab_ D w w'→IsW w' pw D {st with ops:=st.ops+1}→Own w' w.heap.size ae_ 1 s (bv ((((st.seen file).getD []).drop off).take n))→s.n≤1048576→R s (if (st.seen file).isSome then 0 else 8) w') :
  co_ (some ⟨pw,0,none⟩) file (off:Int) (n:Int) w R:=n0_ hw hs hb hb2 ho fun s w' k r=>h s w' k (r.isW hw)
end Go.Proofs.YtpmebahhjgkflaaGreatDoor
namespace Go.Proofs.YtpmebahhjgkflaaGreatDoor.CF
open Go Go.RowKit
set_option maxRecDepth 100000
section
variable {H:Type} {enc:TypeId×Value→H} {P:Program} {w:World} {base:Nat} {spare:Nat→Bool} {held:Bool}
def zl_ (P:Program) (t:TypeId) (d:DataW H):Prop:=∀m∈d.weights P t,m≤reachBytes
def kf_ (enc:TypeId×Value→H) (P:Program) (w:World) (base:Nat) (spare:Nat→Bool) (held:Bool) (t:TypeId) (Φ:List Value→Prop):Prop:=
 ∀n cs x,DataW.trod enc P w base spare held n t cs=some x→zl_ P t x.1→Φ cs
theorem k8_ {e:TypeId}:∀{ds:List (DataW H)} {d:DataW H},d∈ds→∀m∈d.weights P e,m∈DataW.weightsAll P e ds
 | d0::ds,d,hd,m,hm=>by
  simp only[DataW.weightsAll,List.mem_append]
  rcases List.mem_cons.1 hd with rfl|h
  ·exact .inl hm
  ·exact .inr (k8_ h m hm)
theorem wm_ {a:Addr} {n:Nat} {vs:List Value} (h:w.cells? base a n=some vs):vs.length=n∧bS_ w a vs:=by
 unfold World.cells? at h
 split at h
 ·have hl:=mapM_some_length h
  simp at hl
  refine⟨hl,fun j v hj=>?_⟩
  have hjn:j<n:=by have:=(List.getElem?_eq_some_iff.1 hj).1;omega
  have:=mapM_some_get h j j (by simp[hjn])
  rw[this,hj]
 ·cases h
theorem u3_ {t:TypeId} {k:IntKind} (ht:P.underlying t=some (.int k)):kf_ enc P w base spare held t fun cs=>∃n,cs = [.int k n]∧(Lit.int k n).wf=true:=fun _ _ _ h _=>by
 obtain⟨n,hn,_,hw⟩:=DataW.trod_int ht h;exact⟨n,hn,hw⟩
theorem wn_ {t:TypeId} (ht:P.underlying t=some (.int .u8)):kf_ enc P w base spare held t fun cs=>∃b:UInt8,cs = [.int .u8 (b.toNat:Int)]:=fun n cs x h hl=>by
 obtain⟨z,hz,hw⟩:=u3_ ht n cs x h hl
 simp[Lit.wf,IntKind.min,IntKind.max,IntKind.signed,IntKind.bits] at hw
 refine⟨UInt8.ofNat z.toNat,?_⟩
 rw[hz]
 congr 2
 rw[UInt8.toNat_ofNat']
 omega
theorem nw_ {α:Type} {Q:Nat→α→Prop}:∀(n:Nat),(∀i,i<n→∃a,Q i a)→∃al:List α,al.length=n∧∀i (h:i<al.length),Q i al[i]
 | 0,_=>⟨[],rfl,fun i h=>absurd h (Nat.not_lt_zero i)⟩
 | n+1,h=>by
  obtain⟨al,hl,ha⟩:=nw_ n fun i hi=>h i o_
  obtain⟨a,hq⟩:=h n o_
  refine⟨al++[a],by simp[hl],fun i hi=>?_⟩
  rcases Nat.lt_or_ge i al.length with q|q
  ·rw[List.getElem_append_left q];exact ha i q
  ·have:i=n:=by simp at hi;omega
   subst this
   rw[List.getElem_append_right q]
   simpa [hl] using hq
theorem st_ {α:Type} {t e:TypeId} {z bytes:Nat} {f:α→List Value} {Q:α→Prop} (ht:P.underlying t=some (.slice e)) (hz:P.cellsOf e=z) (hb:P.bytesOf e=bytes) (hb1:1≤bytes)
  (hf:∀a,(f a).length=z) (hel:kf_ enc P w base spare held e fun cs=>∃a,cs=f a∧Q a) :
  kf_ enc P w base spare held t fun cs=>∃s:Sl,cs = [.slice s.A s.n s.c]∧∃al:List α,Rd w z s (al.flatMap f)∧al.length=s.n∧(∀a∈al,Q a)∧s.n*bytes≤140737488351232:=fun fuel cs x h hw=>by
 rcases DataW.trod_slice ht h with⟨hcs,_⟩|⟨a,len,cap,elems,rest,n,_,hcs,hx,_,hlc,hmc,hlen,heach,_,_⟩
 ·exact⟨⟨none,0,0⟩,hcs,[],by simpa using uS_ w z,rfl,by simp,by simp⟩
 ·have hwt:(elems.length+rest.length)*bytes≤140737488351232:=by
   have:=hw ((elems.length+rest.length)*bytes) (by rw[hx];simp[DataW.weights,ht,hb])
   exact this
  have hsz:len*bytes≤140737488351232:=by
   refine Nat.le_trans (Nat.mul_le_mul_right _ ?_) hwt
   omega
  have hln:len≤140737488351232:=by
   have:len*1≤len*bytes:=Nat.mul_le_mul_left _ hb1
   omega
  obtain⟨al,hal,has⟩:=nw_ (α:=α) (Q:=fun i b=>Q b∧bS_ w (a.add (i*z)) (f b)) len fun i hi=>by
   have hi':i<elems.length:=o_
   have he:=heach i hi
   rw[List.getElem?_eq_getElem hi',hz] at he
   obtain⟨vs,hvs,hr⟩:=Option.bind_eq_some_iff.1 he
   obtain⟨hvl,hvc⟩:=wm_ hvs
   obtain⟨b,hb1,hb2⟩:=hel n vs _ hr fun m hm=>hw m (by
    rw[hx]
    simp only[DataW.weights,ht,List.mem_cons,List.mem_append]
    exact .inr (.inl (k8_ (List.mem_map.2 ⟨elems[i],List.getElem_mem hi',rfl⟩) m hm)))
   exact⟨b,hb2,hb1▸hvc⟩
  refine⟨⟨some a,len,cap⟩,hcs,al,⟨by rw[bx_ hf,hal],hlc,by show len≤_;omega,fun _=>⟨a,rfl,fun j v hj=>?_⟩⟩,hal,fun b hbm=>?_,hsz⟩
  ·have hz0:0<z:=by
    rcases Nat.eq_zero_or_pos z with e0|e0
    ·exfalso
     have:=(List.getElem?_eq_some_iff.1 hj).1
     rw[bx_ hf,e0] at this
     omega
    ·exact e0
   have hjl:j<al.length*z:=by rw[←bx_ hf];exact(List.getElem?_eq_some_iff.1 hj).1
   have hq:j/z<al.length:=Nat.div_lt_of_lt_mul (by rw[Nat.mul_comm];exact hjl)
   have hfe:=g4_ hf hq
   have hjz:j/z*z+j%z=j:=by rw[Nat.mul_comm];exact Nat.div_add_mod j z
   have hcell:=(has (j/z) hq).2 (j%z) v (by
    rw[←hfe,List.getElem?_take,if_pos (Nat.mod_lt _ hz0),List.getElem?_drop,hjz];exact hj)
   rw[fJ_,hjz] at hcell
   exact hcell
  ·obtain⟨i,hi,rfl⟩:=List.getElem_of_mem hbm
   exact(has i hi).1
theorem kf_.mono {t:TypeId} {Φ Ψ:List Value→Prop} (h:kf_ enc P w base spare held t Φ) (hi:∀cs,Φ cs→Ψ cs):kf_ enc P w base spare held t Ψ:=fun n cs x ht hl=>hi cs (h n cs x ht hl)
theorem xS_ (l:L8):l.flatMap (fun b=>[Value.int .u8 (b.toNat:Int)])=bv l:=by
 unfold bv
 induction l with
 | nil=>rfl
 | cons a r ih=>simp only[List.flatMap_cons,ih,List.map_cons,List.singleton_append]
theorem su_ {t e:TypeId} (ht:P.underlying t=some (.slice e)) (he:P.underlying e=some (.int .u8)) (hz:P.cellsOf e=1) (hb:P.bytesOf e=1) :
  kf_ enc P w base spare held t fun cs=>∃s:Sl,cs = [.slice s.A s.n s.c]∧∃l:L8,Rd w 1 s (bv l)∧l.length=s.n∧s.n≤140737488351232:=by
 refine(st_ (f:=fun b:UInt8=>[Value.int .u8 (b.toNat:Int)]) (Q:=fun _=>True) ht hz hb (Nat.le_refl _) (fun _=>rfl) ((wn_ he).mono fun cs ⟨b,h⟩=>⟨b,h,trivial⟩)).mono ?_
 rintro cs ⟨s,h1,al,h2,h3,_,h4⟩
 exact⟨s,h1,al,by rw[←xS_];exact h2,h3,o_⟩
end
theorem qy_ {P:Program} {f:FuncId} {args:A_} {w:World} (h:an_ P f args w [.b] fun b w'=>b=true∧ac_ w w') :
  Calls P f args w fun e w'=>e=.returned (.bool true)∧Below w.heap.size w w':=
 h.mono fun e w' hx=>by
  obtain⟨x,hx,hb,hg⟩:=hx
  have hb:x=true:=hb
  subst hb
  exact⟨hx,ab_.below hg⟩
end Go.Proofs.YtpmebahhjgkflaaGreatDoor.CF
namespace Go.Proofs.YtpmebahhjgkflaaGreatDoor
open Go CF
set_option maxRecDepth 100000
def num (l:L8):Nat:=l.foldl (fun v b=>v*256+b.toNat) 0
theorem wo_ (l:L8) (b:UInt8):num (l++[b])=num l*256+b.toNat:=by simp[num,List.foldl_append]
theorem hy_ (l:L8):num l<256 ^ l.length:=by
 have key:∀(l:L8) (v:Nat),l.foldl (fun v b=>v*256+b.toNat) v<(v+1)*256 ^ l.length:=by
  intro l
  induction l with
  | nil=>intro v;simp
  | cons b r ih=>
   intro v
   rw[List.foldl_cons,List.length_cons,Nat.pow_succ]
   have h1:=ih (v*256+b.toNat)
   have h2:=b.toNat_lt
   have h3:(v*256+b.toNat+1)*256 ^ r.length≤(v+1)*256*256 ^ r.length:=Nat.mul_le_mul_right _ o_
   have h4:(v+1)*256*256 ^ r.length=(v+1)*(256 ^ r.length*256):=by rw[Nat.mul_assoc,Nat.mul_comm 256]
   omega
 have:=key l 0
 rw[Nat.zero_add,Nat.one_mul] at this
 exact this
theorem xT_ {a b:Nat} (ha:a<72057594037927936) (hb:b<256):bOr .u64 ((a*256:Nat):Int) (b:Int)=((a*256+b:Nat):Int):=by
 unfold bOr
 show IntKind.wrap .u64 (((BitVec.ofInt 64 ((a*256:Nat):Int) ||| BitVec.ofInt 64 (b:Int)).toNat:Nat):Int)=_
 rw[BitVec.ofInt_natCast,BitVec.ofInt_natCast,BitVec.toNat_or,BitVec.toNat_ofNat,BitVec.toNat_ofNat,Nat.mod_eq_of_lt o_,Nat.mod_eq_of_lt o_]
 have e:a*256 ||| b=a*256+b:=by
  have:=Nat.shiftLeft_add_eq_or_of_lt (i:=8) (b:=b) o_ a
  rw[Nat.shiftLeft_eq] at this
  exact this.symm
 rw[e]
 exact ea_ o_ o_
theorem zN_ {a:Nat} (ha:a<72057594037927936):cu_ .u64 (a:Int) 8=((a*256:Nat):Int):=by
 unfold cu_
 have e:(min 8 (IntKind.bits .u64))=8:=d_
 rw[e,ea_ o_ o_]
 omega
theorem cC_ {p:Sl} {l:L8} {at_ n:Nat} {w:World} {R:Int→Int→W_} (hp:Rd w 1 p (bv l)) (hb:p.n≤140737489403904) (hn:1≤n) (hn8:n≤8) (hat:at_+n≤l.length)
  (h:R ((num ((l.drop at_).take n):Nat):Int) 0 w):cy_ p (at_:Int) (n:Int) w R:=by
 refine m5_.calls _ _ _ _ _ ?_
 have hln:l.length=p.n:=by have:=hp.len;rw[az_] at this;omega
 have hcap:=hp.cap
 refine ix_.calls _ _ _ _ _ ?_
 have e1:IntKind.wrap .i64 ((p.n:Int)-(n:Int))=(p.n:Int)-(n:Int):=w64 o_ o_
 refine al_ (by rw[Bool.or_eq_false_iff,decide_eq_false_iff_not,decide_eq_false_iff_not];omega) (al_ (by rw[Bool.or_eq_false_iff,decide_eq_false_iff_not,decide_eq_false_iff_not,e1];omega) (al_ rfl ?_))
 have e2:IntKind.wrap .i64 ((at_:Int)+(n:Int))=((at_+n:Nat):Int):=by rw[w64 o_ o_];omega
 rw[e2]
 simp only[Int.toNat_natCast]
 refine⟨⟨o_,o_,o_,hcap⟩,?_⟩
 have hx:=hp.cutB (l:=at_) (k:=at_+n) o_ o_
 rw[show at_+n-at_=n by omega] at hx
 generalize hseg:(l.drop at_).take n=seg at *
 have hsl:seg.length=n:=by rw[←hseg,List.length_take,List.length_drop];omega
 refine⟨fun v x w'=>w'=w∧∃j:Nat,x=j∧j≤n∧v=((num (seg.take j):Nat):Int),fun _ x _=>n-x.toNat,⟨rfl,0,rfl,Nat.zero_le _,rfl⟩,?_⟩
 rintro v x w0 ⟨rfl,j,rfl,hj,rfl⟩
 refine bh_ (fun hlt=>?_) (fun hge=>?_)
 ·obtain⟨a,ha,hc⟩:=hx.byte (i:=j) (by show j<n;omega)
  have ha:aP_ p.A p.c at_ 1=some a:=ha
  have hjs:j<seg.length:=o_
  refine⟨⟨o_,o_,by rw[ha];rfl⟩,((seg[j]).toNat:Int),by rw[ha];exact hc,?_⟩
  have hnl:=hy_ (seg.take j)
  have hb8:=seg[j].toNat_lt
  have hsm:num (seg.take j)<72057594037927936:=by
   refine Nat.lt_of_lt_of_le hnl ?_
   rw[List.length_take,Nat.min_eq_left o_]
   calc 256 ^ j≤256 ^ 7:=Nat.pow_le_pow_right d_ o_
    _=72057594037927936:=d_
  rw[zN_ hsm,ea_ o_ o_,xT_ hsm o_,w64 o_ o_]
  refine⟨⟨rfl,j+1,o_,o_,?_⟩,by dsimp only;omega⟩
  rw[List.take_succ_eq_append_getElem hjs,wo_]
 ·have:j=n:=o_
  subst this
  rw[List.take_of_length_le o_]
  exact h
structure Bk where
 d:L8
 g:Nat
 a:Nat
 r:Nat
 hd:d.length=16
 hg:g<65536
 ha:a<65536
 hr:r<4294967296
def bc (b:Bk):List Value:=bv b.d++[.int .u16 (b.g:Int),.int .u16 (b.a:Int),.int .u32 (b.r:Int)]
theorem ck_ (b:Bk):(bc b).length=19:=by simp[bc,az_,b.hd]
def da_:Bk:=⟨[0,0,0,0,0,0,0,0,0,0,0,0,0,0,0,0],65535,65535,4294967295,rfl,d_,d_,d_⟩
def be2 (n:Nat):L8:=[UInt8.ofNat (n/2 ^ 8),UInt8.ofNat n]
def be4 (n:Nat):L8:=[UInt8.ofNat (n/2 ^ 24),UInt8.ofNat (n/2 ^ 16),UInt8.ofNat (n/2 ^ 8),UInt8.ofNat n]
def bt_ (b:Bk):L8:=[1]++b.d++(be2 b.g++be2 b.a)++be4 b.r
theorem fS_ (b:Bk):(bt_ b).length=25:=by simp[bt_,be2,be4,b.hd]
theorem be_ (n:Nat):IntKind.wrap .u8 (n:Int)=((UInt8.ofNat n).toNat:Int):=by
 rw[UInt8.toNat_ofNat']
 have e:IntKind.wrap .u8 (n:Int)=(n:Int)%256:=by simp[IntKind.wrap,IntKind.signed,IntKind.bits]
 rw[e]
 omega
theorem shr (k:IntKind) (n s:Nat) (hs:s≤k.bits):bJ_ k (n:Int) s=((n/2 ^ s:Nat):Int):=by
 unfold bJ_
 rw[Nat.min_eq_left hs,show((2:Int) ^ s)=((2 ^ s:Nat):Int) by norm_cast]
 exact(Int.ofNat_fdiv n (2 ^ s)).symm
open Go CF
theorem hz_ {P:Program} {w:World} {b o:Nat} {t ty:TypeId} {zv:Option Value} {z bytes:Nat} {old cells:A_} (hb:Blk w b old t) (hinfo:(P.info? ty).map (fun i=>(i.zero,i.size,i.bytes))=some (zv,z,bytes)) (hz:z=cells.size) (ho:o+cells.size≤old.size)
  (h1:∀v∈cells.toList,v.oneCell'=true) {K:W_} (h:∀w1,Blk w1 b (old.toList.take o++cells.toList++old.toList.drop (o+cells.size)).toArray t→ab_ (fun k=>k=b) w w1→w1.heap.size=w.heap.size→K w1):ag_ P (storeVar ty ⟨b,o,none⟩ (.agg cells)) w K:=by
 obtain⟨i,hi,hzz⟩:=Option.map_eq_some_iff.1 hinfo
 simp only[Prod.mk.injEq] at hzz
 have hst:=run_storeCells_at P b o t cells.toList 0 old w hb (by simpa using ho) h1
 have hs:cells.size=i.size:=o_
 refine⟨_,?_,h (w.setRow b (old.toList.take o++cells.toList++old.toList.drop (o+cells.size)).toArray) (setRow_heap w b old _ t (0,0) hb) ⟨rfl,rfl,rfl,by simp,fun k _ hn=>setRow_other w b k _ hn⟩ (by simp)⟩
 simp only[Nat.add_zero,Array.length_toList] at hst
 simp[storeVar,sizeOf,typeInfo,hi,Value.cells,hs]
 rw[hs,List.append_assoc] at hst
 exact hst
theorem xu_ (b:Bk):(bc b).toArray[16]?=some (.int .u16 (b.g:Int))∧(bc b).toArray[17]?=some (.int .u16 (b.a:Int))∧(bc b).toArray[18]?=some (.int .u32 (b.r:Int)):=by
 have hl:(bv b.d).length=16:=by rw[az_,b.hd]
 refine⟨?_,?_,?_⟩<;>·simp only[bc,List.getElem?_toArray];rw[List.getElem?_append_right o_,hl];rfl
theorem pt_ (b:Bk):∀v∈bc b,v.oneCell'=true:=by
 intro v hv
 rcases List.mem_append.1 hv with q|q
 ·exact cr_ _ v q
 ·simp only[List.mem_cons,List.not_mem_nil,or_false] at q
  rcases q with rfl|rfl|rfl<;>rfl
theorem k9_ (b:Bk):((bc b).toArray.all (·.oneCell'))=true:=by
 rw[Array.all_eq_true_iff_forall_mem];intro v hv;exact pt_ b v (by simpa using hv)
theorem sv_ {b:Bk} {w:World} {R:Sl→W_} (h:∀s w',ac_ w w'→Own w' w.heap.size ae_ 1 s (bv (bt_ b))→R s w'):iJ_ (bc b).toArray w R:=by
 refine gJ_.calls _ _ _ ?_
 refine ah_ fun pb w0 hpb hb0 hg0 hsz0=>?_
 have hb0:Blk w0 pb (bc b).toArray av_:=hb0
 have hl:(bv b.d).length=16:=by rw[az_,b.hd]
 refine aH_ (cells:=#[.int .u8 1]) (e:=ae_) (z:=1) (base:=w0.heap.size) k_ rfl d_ (Nat.le_refl _) fun w1 hlit1 hg1 _=>⟨d_,?_⟩
 have hb1:=hg1.heap hb0 (fun q=>q)
 have hd1:Rd w1 1 ⟨some ⟨pb,0,none⟩,16,16⟩ (bv b.d):=⟨hl,Nat.le_refl _,by show 16≤_;decide,fun _=>⟨_,rfl,fun j v hj=>ax_ hb1 j v (by rw[bc,List.getElem?_append_left (by have:=(List.getElem?_eq_some_iff.1 hj).1;exact this)];exact hj)⟩⟩
 refine aS_ (x:=⟨some ⟨pb,0,none⟩,16,16⟩) aN_ bG_ rfl d_ d_ hlit1 hd1 (cr_ _) (by show(1+16)*1≤_;decide) hg1.size fun s2 w2 hn2 hown2 hk2 _=>?_
 have up:∀{u u':World} {s:Sl} {vs:List Value},ac_ w0 u→Own u w0.heap.size ae_ 1 s vs→ab_ (fun k=>some k=s.blk) u u'→ac_ w0 u':=fun hg ho hk=>hg.keep hk fun i hi q=>by have:=(ho.ge i q.symm).1;omega
 have hg2:=up hg1 hlit1 hk2
 have hb2:=hg2.heap hb0 (fun q=>q)
 obtain⟨e16,e17,e18⟩:=xu_ b
 have cg:∀{u:World},Blk u pb (bc b).toArray av_→u.cell? (((⟨pb,0,none⟩:Addr).add 16).add 0)=some (.int .u16 (b.g:Int)):=fun q=>by rw[am_,am_,q.cell];exact e16
 have ca:∀{u:World},Blk u pb (bc b).toArray av_→u.cell? (((⟨pb,0,none⟩:Addr).add 16).add 1)=some (.int .u16 (b.a:Int)):=fun q=>by rw[am_,am_,q.cell];exact e17
 have cr:∀{u:World},Blk u pb (bc b).toArray av_→u.cell? (((⟨pb,0,none⟩:Addr).add 16).add 2)=some (.int .u32 (b.r:Int)):=fun q=>by rw[am_,am_,q.cell];exact e18
 refine⟨_,cg hb2,_,cg hb2,_,ca hb2,_,ca hb2,?_⟩
 rw[shr .u16 b.g 8 d_,shr .u16 b.a 8 d_,be_,be_,be_,be_]
 refine aH_ (cells:=(bv (be2 b.g++be2 b.a)).toArray) (e:=ae_) (z:=1) (base:=w0.heap.size) k_ rfl d_ hg2.size fun w3 hlit3 hg3 _=>?_
 have n2:s2.n=17:=hn2
 refine aS_ aN_ bG_ rfl d_ d_ (hown2.grow hg3) (hlit3.rd (by show 4≤_;decide)) (cr_ _) (by rw[n2];show(17+4)*1≤_;decide) (hg2.trans hg3).size fun s4 w4 hn4 hown4 hk4 _=>?_
 have hg4:=up (hg2.trans hg3) (hown2.grow hg3) hk4
 have hb4:=hg4.heap hb0 (fun q=>q)
 refine⟨_,cr hb4,_,cr hb4,_,cr hb4,_,cr hb4,?_⟩
 rw[shr .u32 b.r 24 d_,shr .u32 b.r 16 d_,shr .u32 b.r 8 d_,be_,be_,be_,be_]
 refine aH_ (cells:=(bv (be4 b.r)).toArray) (e:=ae_) (z:=1) (base:=w0.heap.size) k_ rfl d_ hg4.size fun w5 hlit5 hg5 _=>?_
 have n4:s4.n=21:=hn4.trans (by rw[n2];rfl)
 refine aS_ aN_ bG_ rfl d_ d_ (hown4.grow hg5) (hlit5.rd (by show 4≤_;decide)) (cr_ _) (by rw[n4];show(21+4)*1≤_;decide) (hg4.trans hg5).size fun s6 w6 hn6 hown6 hk6 _=>?_
 have hg6:=up (hg4.trans hg5) (hown4.grow hg5) hk6
 refine h s6 w6 (hg0.trans hg6) (Own.mono (base:=w0.heap.size) ?_ o_)
 have e:bv (bt_ b) = [.int .u8 1]++bv b.d++bv (be2 b.g++be2 b.a)++bv (be4 b.r):=by
  unfold bt_;rw[bN_,bN_,bN_];rfl
 rw[e]
 exact hown6
theorem ox_ {w:World} {R:A_→W_} (h:∀w',ac_ w w'→R (bc da_).toArray w'):js_ w R:=by
 refine hu_.calls _ _ ?_
 refine ah_ fun pb w0 hpb hb0 hg0 hsz0=>?_
 refine⟨(bc da_).toArray,k_,?_⟩
 refine ar_ (cells:=(bc da_).toArray) hb0 bA_ rfl rfl (k9_ _) fun w1 hb1 hk1 _=>?_
 have hg1:ac_ w w1:=hg0.keep hk1 fun i hi q=>o_
 refine⟨(bc da_).toArray,aC_ ed_ bA_ rfl (ax_ hb1),h w1 hg1⟩
theorem tJ_ (l:L8) (h:l.length=2):num l<65536:=by have:=hy_ l;rw[h] at this;exact this
theorem tK_ (l:L8) (h:l.length=4):num l<4294967296:=by have:=hy_ l;rw[h] at this;exact this
def fD_ (l:L8):Bk:=
 if h:25≤l.length∧l[0]?=some 1 then
  ⟨(l.drop 1).take 16,num ((l.drop 17).take 2),num ((l.drop 19).take 2),num ((l.drop 21).take 4),by simp;omega,tJ_ _ (by simp;omega),tJ_ _ (by simp;omega),tK_ _ (by simp;omega)⟩
 else da_
theorem tL_ {p:Sl} {l:L8} {w:World} {R:A_→W_} (hp:Rd w 1 p (bv l)) (hb:p.n≤1000000000) (h:∀w',ac_ w w'→R (bc (fD_ l)).toArray w'):jr_ p w R:=by
 refine ht_.calls _ _ _ ?_
 have hln:l.length=p.n:=by have:=hp.len;rw[az_] at this;omega
 have hcap:=hp.cap
 refine ah_ fun pa w0 hpa hb0 hg0 hsz0=>?_
 by_cases h25:25≤l.length
 case neg=>
  have hd:decide ((p.n:Int)<25)=true:=decide_eq_true o_
  refine⟨fun q=>(by rw[hd] at q;cases q),0,fun q=>(by rw[hd] at q;cases q),ao_ (by rw[hd];rfl) ?_⟩
  refine ox_ fun w1 hg1=>?_
  refine ar_ (cells:=(bc da_).toArray) (hg1.heap hb0 (fun q=>q)) bA_ rfl rfl (k9_ _) fun w2 hb2 hk2 _=>?_
  refine⟨(bc da_).toArray,aC_ ed_ bA_ rfl (ax_ hb2),?_⟩
  have:=h w2 ((hg0.trans hg1).keep hk2 fun i hi q=>o_)
  rwa [show fD_ l=da_ from dif_neg fun q=>h25 q.1] at this
 have hd:decide ((p.n:Int)<25)=false:=decide_eq_false o_
 obtain⟨a,ha,hc⟩:=(hp.grow hg0).byte (i:=0) o_
 have h0l:0<l.length:=o_
 refine⟨fun _=>⟨o_,o_,by rw[ha];rfl⟩,(l[0].toNat:Int),fun _=>(by rw[ha];exact hc),?_⟩
 by_cases h1:l[0]=1
 case neg=>
  refine ao_ (by rw[hd,Bool.false_or,bne_iff_ne];exact fun q=>h1 (UInt8.toNat_inj.1 (by show l[0].toNat=1;omega))) ?_
  refine ox_ fun w1 hg1=>?_
  refine ar_ (cells:=(bc da_).toArray) (hg1.heap hb0 (fun q=>q)) bA_ rfl rfl (k9_ _) fun w2 hb2 hk2 _=>?_
  refine⟨(bc da_).toArray,aC_ ed_ bA_ rfl (ax_ hb2),?_⟩
  have:=h w2 ((hg0.trans hg1).keep hk2 fun i hi q=>o_)
  rwa [show fD_ l=da_ from dif_neg fun q=>h1 (by have:=q.2;rw[List.getElem?_eq_getElem h0l] at this;exact Option.some.inj this)] at this
 refine al_ (by rw[hd,h1];rfl) ?_
 refine ah_ fun pb w3 hpb hb3 hg3 hsz3=>?_
 rintro w4 rfl
 have hg4:ac_ w3 w3.drew:=aq_ w3
 refine⟨d_,⟨o_,o_,o_,hcap⟩,?_⟩
 have hgw4:=(hg0.trans hg3).trans hg4
 have hx:=(hp.grow hgw4).cutB (l:=1) (k:=p.n) o_ (Nat.le_refl _)
 simp only[Int.toNat_natCast]
 have hdl:((l.drop 1).take 16).length=16:=by simp;omega
 have hne:bv ((l.drop 1).take (p.n-1))≠[]:=fun e=>by
  have:=congrArg List.length e
  simp[az_] at this
  omega
 obtain⟨a2,ha2,hc2⟩:=hx.at_ hne
 have ha2:aP_ p.A p.c 1 1=some a2:=ha2
 have hsrc:∀j v,(bv ((l.drop 1).take 16))[j]?=some v→w3.drew.cell? (a2.add j)=some v:=fun j v hj=>hc2 j v (by
  have hj16:j<16:=by have:=(List.getElem?_eq_some_iff.1 hj).1;rw[az_,hdl] at this;exact this
  rw[←hj,←jg_,←jg_,List.getElem?_take,List.getElem?_take,if_pos o_,if_pos hj16])
 have hb4:Blk w3.drew pb _ av_:=hg4.heap hb3 (fun q=>q)
 have hcp:=run_copy_row (P:=Tryz.prog) w3.drew aE_ aE_ qH_ ae_ pb 0 16 16 a2 (p.n-1) (p.c-1) _ av_ (bv ((l.drop 1).take 16)) aN_ k_ hb4 (by rw[az_,hdl];exact(Nat.min_eq_right o_).symm) hsrc (by rw[az_,hdl];decide) (cr_ _)
 rw[ha2]
 refine⟨16,_,hcp.trans (by rw[az_,hdl];rfl),?_⟩
 generalize hw5:w3.drew.setRow pb _=w5
 have hb5:Blk w5 pb (bv ((l.drop 1).take 16)++[Value.int .u16 0,Value.int .u16 0,Value.int .u32 0]).toArray av_:=by
  rw[←hw5]
  have:=setRow_heap w3.drew pb _ ((#[.int .u8 0,.int .u8 0,.int .u8 0,.int .u8 0,.int .u8 0,.int .u8 0,.int .u8 0,.int .u8 0,.int .u8 0,.int .u8 0,.int .u8 0,.int .u8 0,.int .u8 0,.int .u8 0,.int .u8 0,.int .u8 0,.int .u16 0,.int .u16 0,.int .u32 0]:A_).toList.take 0++bv ((l.drop 1).take 16)++(#[.int .u8 0,.int .u8 0,.int .u8 0,.int .u8 0,.int .u8 0,.int .u8 0,.int .u8 0,.int .u8 0,.int .u8 0,.int .u8 0,.int .u8 0,.int .u8 0,.int .u8 0,.int .u8 0,.int .u8 0,.int .u8 0,.int .u16 0,.int .u16 0,.int .u32 0]:A_).toList.drop (0+(bv ((l.drop 1).take 16)).length)).toArray av_ (0,0) hb4
  rw[az_,hdl] at this
  exact this
 have hk5:ab_ (fun k=>k=pb) w3.drew w5:=by
  rw[←hw5];exact⟨rfl,rfl,rfl,by simp,fun k _ hn=>setRow_other w3.drew pb k _ hn⟩
 have hg5:ac_ w w5:=hgw4.keep hk5 fun i hi q=>by have:=hg0.size;omega
 have hp5:=hp.grow hg5
 refine cC_ (at_:=17) (n:=2) hp5 (Nat.le_trans hb d_) d_ d_ o_ ?_
 refine cC_ (at_:=19) (n:=2) hp5 (Nat.le_trans hb d_) d_ d_ o_ ?_
 refine cC_ (at_:=21) (n:=4) hp5 (Nat.le_trans hb d_) d_ d_ o_ ?_
 have g2:=tJ_ ((l.drop 17).take 2) (by simp;omega)
 have a2':=tJ_ ((l.drop 19).take 2) (by simp;omega)
 have r4:=tK_ ((l.drop 21).take 4) (by simp;omega)
 rw[ml_ o_ o_,ml_ o_ o_,jl_ o_ o_,am_]
 have hbl:fD_ l=⟨(l.drop 1).take 16,num ((l.drop 17).take 2),num ((l.drop 19).take 2),num ((l.drop 21).take 4),hdl,g2,a2',r4⟩:=dif_pos ⟨h25,by rw[List.getElem?_eq_getElem h0l,h1]⟩
 refine hz_ (o:=0+16) hb5 ec_ rfl (by simp[az_];omega) (by simp[Value.oneCell']) fun w6 hb6 hk6 _=>?_
 have e6:((bv ((l.drop 1).take 16)++[Value.int .u16 0,.int .u16 0,.int .u32 0]).toArray.toList.take (0+16)++(#[Value.int .u16 ((num ((l.drop 17).take 2):Nat):Int),.int .u16 ((num ((l.drop 19).take 2):Nat):Int),.int .u32 ((num ((l.drop 21).take 4):Nat):Int)]:A_).toList++(bv ((l.drop 1).take 16)++[Value.int .u16 0,.int .u16 0,.int .u32 0]).toArray.toList.drop (0+16+3))=bc (fD_ l):=by
  rw[hbl]
  have hl16:(bv ((l.drop 1).take 16)).length=16:=by rw[az_,hdl]
  unfold bc
  dsimp only
  generalize bv ((l.drop 1).take 16)=B at hl16 ⊢
  generalize num ((l.drop 17).take 2)=x1
  generalize num ((l.drop 19).take 2)=x2
  generalize num ((l.drop 21).take 4)=x3
  simp only[Nat.zero_add]
  rw[List.take_append_of_le_length o_,List.take_of_length_le o_,List.drop_append,List.drop_of_length_le o_,hl16]
  simp
 have hb6:Blk w6 pb (bc (fD_ l)).toArray av_:=by rw[←e6];exact hb6
 refine⟨(bc (fD_ l)).toArray,aC_ ed_ bA_ (by rw[ck_]) (ax_ hb6),?_⟩
 have hpne:pa≠pb:=o_
 have hba:Blk w6 pa _ av_:=hk6.heap (hk5.heap (hg4.heap (hg3.heap hb0 (fun q=>q)) (fun q=>q)) hpne) hpne
 refine ar_ (cells:=(bc (fD_ l)).toArray) hba bA_ (by simp[ck_]) (by simp[ck_]) (k9_ _) fun w7 hb7 hk7 _=>?_
 refine⟨(bc (fD_ l)).toArray,aC_ ed_ bA_ (by rw[ck_]) (ax_ hb7),h w7 ?_⟩
 exact(hg5.keep hk6 fun i hi q=>by have:=hg0.size;omega).keep hk7 fun i hi q=>o_
open Go CF
theorem s2_ (f:L8) (o:Nat) (p:L8) (k:Nat):(wr f o p).getD k 0=if o≤k∧k<o+p.length then p.getD (k-o) 0 else f.getD k 0:=by
 unfold wr
 simp only[List.getD_eq_getElem?_getD]
 generalize hg:f++List.replicate (o+p.length-f.length) 0=g
 have hgl:g.length=max f.length (o+p.length):=by rw[←hg];simp;omega
 have hgk:∀k:Nat,(g[k]?).getD 0=(f[k]?).getD 0:=fun k=>by
  rw[←hg]
  rcases Nat.lt_or_ge k f.length with q|q
  ·rw[List.getElem?_append_left q]
  ·rw[List.getElem?_append_right q,List.getElem?_eq_none q,List.getElem?_replicate]
   split<;>rfl
 have htl:(g.take o).length=o:=by rw[List.length_take];omega
 rcases Nat.lt_or_ge k o with q|q
 ·rw[if_neg o_,List.append_assoc,List.getElem?_append_left o_,List.getElem?_take,if_pos q,hgk]
 ·rcases Nat.lt_or_ge k (o+p.length) with q2|q2
  ·rw[if_pos ⟨q,q2⟩,List.append_assoc,List.getElem?_append_right o_,htl,List.getElem?_append_left o_]
  ·rw[if_neg o_,List.getElem?_append_right (by rw[List.length_append,htl];omega),List.length_append,htl,List.getElem?_drop,show o+p.length+(k-(o+p.length))=k by omega,hgk]
def Good (f:L8):Prop:=∀j:Nat,f.getD (25*j) 0=1→25*j+25≤f.length
def b5_ (f:L8) (j:Nat):Bk:=fD_ ((f.drop (25*j)).take 25)
def lK_ (f:L8) (j:Nat):L8:=(List.range 25).map fun t=>f.getD (25*j+t) 0
theorem mx_ {l:L8} (h:¬(25≤l.length∧l[0]?=some 1)):fD_ l=da_:=dif_neg h
theorem oy_ {f:L8} (h:Good f) (j:Nat):b5_ f j=fD_ (lK_ f j):=by
 unfold b5_
 by_cases h1:f.getD (25*j) 0=1
 ·have hl:=h j h1
  have e:(f.drop (25*j)).take 25=lK_ f j:=by
   unfold lK_
   apply List.ext_getElem?
   intro t
   simp only[List.getElem?_take,List.getElem?_drop,List.getElem?_map,List.getElem?_range]
   by_cases q:t<25
   ·rw[if_pos q,List.getElem?_eq_getElem (show 25*j+t<f.length by omega)]
    simp[q,List.getD_eq_getElem?_getD,List.getElem?_eq_getElem (show 25*j+t<f.length by omega)]
   ·simp[q]
  rw[e]
 ·rw[mx_,mx_]
  ·intro q
   have:=q.2
   simp[lK_] at this
   exact h1 (by simpa using this)
  ·intro q
   have hq:=q.2
   have hlen:=q.1
   rw[List.length_take,List.length_drop] at hlen
   rw[List.getElem?_take,if_pos d_,List.getElem?_drop,Nat.add_zero] at hq
   exact h1 (by rw[List.getD_eq_getElem?_getD,hq];rfl)
theorem n1_:Good []:=fun j h=>by simp at h
theorem rx_ {f p:L8} {i j t:Nat} (hp:p.length≤25) (hij:j≠i) (ht:t<25):(wr f (25*i) p).getD (25*j+t) 0=f.getD (25*j+t) 0:=by
 rw[s2_,if_neg o_]
theorem s3_ {n:Nat} (h:n<65536):num (be2 n)=n:=by
 simp only[num,be2,List.foldl_cons,List.foldl_nil,UInt8.toNat_ofNat']
 omega
theorem xU_ {n:Nat} (h:n<4294967296):num (be4 n)=n:=by
 simp only[num,be4,List.foldl_cons,List.foldl_nil,UInt8.toNat_ofNat']
 omega
theorem yL_ {a b:Bk} (h1:a.d=b.d) (h2:a.g=b.g) (h3:a.a=b.a) (h4:a.r=b.r):a=b:=by
 cases a;cases b;simp only at h1 h2 h3 h4;subst h1;subst h2;subst h3;subst h4;rfl
theorem u4_ (b:Bk):fD_ (bt_ b)=b:=by
 have h:25≤(bt_ b).length∧(bt_ b)[0]?=some 1:=⟨by rw[fS_];decide,rfl⟩
 have hd:=b.hd
 have e:bt_ b=1::(b.d++(be2 b.g++(be2 b.a++be4 b.r))):=by simp[bt_]
 have d1:(bt_ b).drop 1=b.d++(be2 b.g++(be2 b.a++be4 b.r)):=by rw[e];rfl
 have d17:(bt_ b).drop 17=be2 b.g++(be2 b.a++be4 b.r):=by
  rw[e,List.drop_succ_cons,List.drop_append,List.drop_of_length_le o_,hd];rfl
 have d19:(bt_ b).drop 19=be2 b.a++be4 b.r:=by
  have:(bt_ b).drop 19=((bt_ b).drop 17).drop 2:=by rw[List.drop_drop]
  rw[this,d17];rfl
 have d21:(bt_ b).drop 21=be4 b.r:=by
  have:(bt_ b).drop 21=((bt_ b).drop 19).drop 2:=by rw[List.drop_drop]
  rw[this,d19];rfl
 unfold fD_
 rw[dif_pos h]
 apply yL_
 ·show((bt_ b).drop 1).take 16=b.d
  rw[d1,List.take_append_of_le_length o_,List.take_of_length_le o_]
 ·show num (((bt_ b).drop 17).take 2)=b.g
  rw[d17];exact s3_ b.hg
 ·show num (((bt_ b).drop 19).take 2)=b.a
  rw[d19];exact s3_ b.ha
 ·show num (((bt_ b).drop 21).take 4)=b.r
  rw[d21];exact xU_ b.hr
theorem ry_ {f:L8} (h:Good f) (i:Nat) (b:Bk):Good (wr f (25*i) (bt_ b)):=by
 intro j hj
 rw[uY_,fS_]
 by_cases e:j=i
 ·subst e;omega
 ·have:=rx_ (f:=f) (p:=bt_ b) (t:=0) (by rw[fS_];decide) e d_
  rw[Nat.add_zero] at this
  rw[this] at hj
  have:=h j hj
  omega
theorem wp_ {f p:L8} {i j:Nat} (hp:p.length≤25) (hij:j≠i):lK_ (wr f (25*i) p) j=lK_ f j:=by
 unfold lK_
 apply List.map_congr_left
 intro t ht
 exact rx_ hp hij (List.mem_range.1 ht)
theorem my_ {f:L8} (h:Good f) (i:Nat) (b:Bk) (j:Nat):b5_ (wr f (25*i) (bt_ b)) j=if j=i then b else b5_ f j:=by
 rw[oy_ (ry_ h i b)]
 by_cases e:j=i
 ·subst e
  rw[if_pos rfl]
  have e2:lK_ (wr f (25*j) (bt_ b)) j=bt_ b:=by
   unfold lK_
   apply List.ext_getElem?
   intro t
   rw[List.getElem?_map]
   by_cases q:t<25
   ·rw[List.getElem?_range q,Option.map_some,s2_,if_pos ⟨o_,by rw[fS_];omega⟩,show 25*j+t-25*j=t by omega,List.getD_eq_getElem?_getD,List.getElem?_eq_getElem (by rw[fS_];exact q)]
    rfl
   ·rw[List.getElem?_eq_none (l:=List.range 25) (by simp;omega),List.getElem?_eq_none (l:=bt_ b) (by rw[fS_];omega)];rfl
  rw[e2,u4_]
 ·rw[if_neg e,wp_ (by rw[fS_];decide) e,oy_ h]
open Go CF
def yM_ (pw:Nat) (file:ByteArray) (blocks:Nat) (cache:Bool):A_:=#[.pointer (some ⟨pw,0,none⟩),.string file,.int .i64 (blocks:Int),.bool cache]
abbrev IsS (w:World) (ps pw:Nat) (file:ByteArray) (blocks:Nat) (cache:Bool):Prop:=Blk w ps (yM_ pw file blocks cache) iK_
theorem u5_ {w:World} {pw:Nat} {file:ByteArray} {blocks:Nat} {cache:Bool} {R:O_→Int→W_} (hs:1≤file.size∧file.size≤32) (hb:1≤blocks∧blocks≤4096)
  (h:∀ps w',ps=w.heap.size→ac_ w w'→IsS w' ps pw file blocks cache→R (some ⟨ps,0,none⟩) 0 w'):kB_ (some ⟨pw,0,none⟩) file (blocks:Int) cache w R:=by
 refine h6_.calls _ _ _ _ _ _ ?_
 refine al_ (by rw[Bool.or_eq_false_iff,Bool.or_eq_false_iff,Bool.or_eq_false_iff,decide_eq_false_iff_not,decide_eq_false_iff_not,decide_eq_false_iff_not,decide_eq_false_iff_not];omega) (al_ rfl ?_)
 exact ah_ fun ps w1 hps hb1 hg1 _=>h ps w1 hps hg1 hb1
theorem oz_ {w:World} {ps pw:Nat} {file:ByteArray} {blocks:Nat} {cache:Bool} {lba n:Nat} {R:Int→W_} (hs:IsS w ps pw file blocks cache) (hb:blocks≤4096) (hl:lba≤1000000000)
  (h:R (if lba+n≤blocks then 0 else 4) w):dP_ (some ⟨ps,0,none⟩) (lba:Int) (n:Int) w R:=by
 refine d3_.calls _ _ _ _ _ ?_
 have c2:w.cell? ((gA (some ⟨ps,0,none⟩)).add 2)=some (.int .i64 (blocks:Int)):=by rw[gA,am_,hs.cell];rfl
 refine al_ rfl ⟨fun _=>rfl,(blocks:Int),fun _=>c2,fun _=>rfl,(blocks:Int),fun _=>c2,?_⟩
 have e:IntKind.wrap .i64 ((blocks:Int)-(lba:Int))=(blocks:Int)-(lba:Int):=w64 o_ o_
 by_cases q:lba+n≤blocks
 ·rw[if_pos q] at h
  refine al_ ?_ h
  rw[Bool.or_eq_false_iff,Bool.or_eq_false_iff,Bool.or_eq_false_iff,decide_eq_false_iff_not,decide_eq_false_iff_not,decide_eq_false_iff_not,decide_eq_false_iff_not,e]
  omega
 ·rw[if_neg q] at h
  refine ao_ ?_ h
  rw[Bool.or_eq_true,Bool.or_eq_true,Bool.or_eq_true,decide_eq_true_eq,decide_eq_true_eq,decide_eq_true_eq,decide_eq_true_eq,e]
  omega
def b0_ (st:Wst) (file:ByteArray) (o:Nat) (r:L8):Wst:=⟨eK_ st.seen file o r,st.dur,st.waits++[⟨119,file,⟨#[]⟩,o,r⟩],st.ops+1⟩
def cD_ (st:Wst) (file:ByteArray) (lba:Nat) (rs:Nat→L8):Nat→Wst
 | 0=>st
 | k+1=>b0_ (cD_ st file lba rs k) file (25*(lba+k)) (rs k)
theorem jz_ (st:Wst) (file:ByteArray) (lba:Nat) (rs:Nat→L8):∀k,(cD_ st file lba rs k).ops=st.ops+k∧(cD_ st file lba rs k).waits.length=st.waits.length+k
 | 0=>⟨rfl,rfl⟩
 | k+1=>by
  obtain⟨h1,h2⟩:=jz_ st file lba rs k
  simp only[cD_,b0_,List.length_append,List.length_singleton,h1,h2]
  omega
theorem xV_ {w:World} {ps pw:Nat} {D:Nat→Prop} {st:Wst} {F:Int→Bool} {file:ByteArray} {blocks:Nat} {cache fua:Bool} {lba n:Nat} {one:Value} {rs:Nat→L8} {R:Int→Int→W_}
  (hS:IsS w ps pw file blocks cache) (hps:¬D ps) (hw:a3_ w pw D st F) (hs:1≤file.size∧file.size≤32) (hb:lba+n≤4096) (hlen:∀i,(rs i).length≤25) (ho:st.ops<100000000000) (hn:st.waits.length<900000000)
  (hone:∀(x:Nat) (u:World) (K:Sl→W_),x<n→ab_ D w u→(∀s u',ac_ u u'→Own u' 0 ae_ 1 s (bv (rs x))→K s u')→jX_ Tryz.prog cs one #[.int .i64 (x:Int)] u [.sl] K)
  (h:(∀i:Nat,i<n→F ((st.ops+i:Nat):Int)=false)→∀u D',ab_ D w u→a3_ u pw D' (cD_ st file lba rs n) F→(∀k,D' k→D k∨w.heap.size≤k)→IsS u ps pw file blocks cache→
   if 0<n∧(fua=true∨cache=false) then b3_ (some ⟨pw,0,none⟩) u (fun e v=>R (n:Int) e v) else R (n:Int) 0 u)
  (hbad:∀k:Nat,k<n→(∀i:Nat,i<k→F ((st.ops+i:Nat):Int)=false)→F ((st.ops+k:Nat):Int)=true→∀u D',ab_ D w u→a3_ u pw D' {cD_ st file lba rs k with ops:=st.ops+k+1} F→(∀k,D' k→D k∨w.heap.size≤k)→IsS u ps pw file blocks cache→R (k:Int) 6 u) :
  gW_ (some ⟨ps,0,none⟩) (lba:Int) (n:Int) one fua w R:=by
 refine eX_.calls _ _ _ _ _ _ _ ?_
 have hS':∀{u:World},ab_ D w u→IsS u ps pw file blocks cache:=fun k=>k.heap hS hps
 refine⟨fun x w'=>∃k:Nat,x=k∧k≤n∧(∀i:Nat,i<k→F ((st.ops+i:Nat):Int)=false)∧∃Dk,ab_ D w w'∧a3_ w' pw Dk (cD_ st file lba rs k) F∧∀j,Dk j→D j∨w.heap.size≤j,fun x _=>n-x.toNat,
  ⟨0,rfl,Nat.zero_le _,(fun i hi=>absurd hi (Nat.not_lt_zero _)),D,ab_.mono (ab_.refl (fun _=>False) w) (fun _ _ q=>q.elim),hw,fun _ q=>.inl q⟩,?_⟩
 rintro x w0 ⟨k,rfl,hk,hfl,Dk,hk0,hw0,hD0⟩
 refine bh_ (fun hlt=>?_) (fun hge=>?_)
 ·rintro w1 rfl
  have hg1:ac_ w0 w0.drew:=aq_ w0
  have hk1:ab_ D w w0.drew:=hk0.grow hg1
  refine⟨fun u=>IsS u ps pw file blocks cache,hS' hk1,rfl,some ⟨pw,0,none⟩,fun u hu=>by rw[gA,am_,Blk.cell hu];rfl,rfl,file,fun u hu=>by rw[gA,am_,Blk.cell hu];rfl,?_⟩
  refine hone k w0.drew _ hlt hk1 fun s w2 hg2 hown2=>⟨hS' (hk1.grow hg2),?_⟩
  have e:IntKind.wrap .i64 ((IntKind.wrap .i64 ((lba:Int)+(k:Int)))*25)=((25*(lba+k):Nat):Int):=by
   rw[w64 (n:=(lba:Int)+(k:Int)) o_ o_,w64 o_ o_];omega
  rw[e]
  obtain⟨lo,lw⟩:=jz_ st file lba rs k
  have hl25:=hlen k
  have hsn:s.n=(rs k).length:=by have:=hown2.len;rw[az_] at this;omega
  have hDk:∀i,i<w.heap.size→Dk i→D i:=fun i hi q=>(hD0 i q).elim id (fun r=>o_)
  refine ke_ (bs:=rs k) ((hw0.grow hg1).grow hg2) hs (hown2.rd o_) o_ o_ o_ (fun hf w3 D' hk3 hw3 hD3=>al_ rfl ?_) (fun hf w3 hk3 hw3=>ao_ rfl (hbad k hlt hfl (by rw[←lo];exact hf) w3 Dk ((hk1.grow hg2).trans hk3 hDk) (by rw[←lo];exact hw3) hD0 (hS' ((hk1.grow hg2).trans hk3 hDk))))
  rw[w64 o_ o_]
  have hsz1:=hg1.size
  have hsz2:=hg2.size
  have hsz0:=hk0.size
  refine⟨⟨k+1,o_,o_,fun i hi=>?_,D',(hk1.grow hg2).trans hk3 fun i hi q=>?_,hw3,fun j hj=>?_⟩,by dsimp only;omega⟩
  ·by_cases q:i=k
   ·subst q;rw[←lo];exact hf
   ·exact hfl i o_
  ·rcases hD0 i q with r|r
   ·exact r
   ·omega
  ·rcases hD3 j hj with q|q
   ·exact hD0 j q
   ·exact .inr o_
 ·have hkn:k=n:=o_
  subst hkn
  have:=h hfl w0 Dk hk0 hw0 hD0 (hS' hk0)
  have hc:w0.cell? ((gA (some ⟨ps,0,none⟩)).add 3)=some (.bool cache):=by rw[gA,am_,Blk.cell (hS' hk0)];rfl
  refine⟨fun _=>rfl,cache,fun _=>hc,?_⟩
  by_cases q:0<k∧(fua=true∨cache=false)
  ·rw[if_pos q] at this
   refine ao_ ?_ ⟨rfl,some ⟨pw,0,none⟩,by rw[gA,am_,Blk.cell (hS' hk0)];rfl,this⟩
   rw[Bool.and_eq_true,decide_eq_true_eq,Bool.or_eq_true,Bool.not_eq_true']
   exact⟨o_,q.2⟩
  ·rw[if_neg q] at this
   refine al_ ?_ this
   rw[Bool.and_eq_false_iff,decide_eq_false_iff_not,Bool.or_eq_false_iff,Bool.not_eq_false']
   by_cases q1:0<k
   ·right
    cases fua<;>cases cache<;>simp_all
   ·left;omega
open Go CF
theorem a3_.lt {w:World} {pw:Nat} {D:Nat→Prop} {st:Wst} {F:Int→Bool} (h:a3_ w pw D st F) {k:Nat} (hk:D k):k<w.heap.size:=by
 obtain⟨_,_,mb,md,ws,cs,h⟩:=h
 exact h.lt k hk
def di_ (bs:List Bk) (i:Nat):L8:=match bs[i]? with|some b=>bt_ b|none=>[]
theorem lL_ (bs:List Bk) (i:Nat):(di_ bs i).length≤25:=by
 unfold di_;split
 ·rw[fS_];exact Nat.le_refl _
 ·decide
theorem qK_ {w:World} {s:Sl} {bs:List Bk} (h:Rd w 19 s (bs.flatMap bc)):bs.length=s.n:=by
 have:=h.len;rw[bx_ ck_] at this;omega
theorem jA_ {w:World} {s:Sl} {bs:List Bk} (h:Rd w 19 s (bs.flatMap bc)) {i:Nat} (hi:i<bs.length):∃a,s.A=some a∧bS_ w (a.add (i*19)) (bc bs[i]):=by
 obtain⟨a,ha,hc⟩:=h.elem (i:=i) (by rw[←qK_ h];exact hi) d_
 exact⟨a,ha,by rw[g4_ ck_ hi] at hc;exact hc⟩
theorem oA_ {w:World} {ps pw:Nat} {D:Nat→Prop} {st:Wst} {F:Int→Bool} {file:ByteArray} {blocks:Nat} {cache fua:Bool} {lba:Nat} {L:Sl} {bs:List Bk} {R:Int→Int→W_}
  (hS:IsS w ps pw file blocks cache) (hps:¬D ps) (hw:a3_ w pw D st F) (hs:1≤file.size∧file.size≤32) (hbk:blocks≤4096) (hl:lba≤1000000000) (hL:∀u,ab_ D w u→Rd u 19 L (bs.flatMap bc))
  (ho:st.ops<100000000000) (hn:st.waits.length<900000000)
  (h1:blocks<lba+bs.length→∀u,ac_ w u→R 0 4 u)
  (h2:lba+bs.length≤blocks→(∀i:Nat,i<bs.length→F ((st.ops+i:Nat):Int)=false)→∀u D',ab_ D w u→a3_ u pw D' (cD_ st file lba (di_ bs) bs.length) F→(∀k,D' k→D k∨w.heap.size≤k)→IsS u ps pw file blocks cache→
   if 0<bs.length∧(fua=true∨cache=false) then b3_ (some ⟨pw,0,none⟩) u (fun e v=>R (bs.length:Int) e v) else R (bs.length:Int) 0 u)
  (hbad:lba+bs.length≤blocks→∀k:Nat,k<bs.length→(∀i:Nat,i<k→F ((st.ops+i:Nat):Int)=false)→F ((st.ops+k:Nat):Int)=true→∀u D',ab_ D w u→a3_ u pw D' {cD_ st file lba (di_ bs) k with ops:=st.ops+k+1} F→(∀k,D' k→D k∨w.heap.size≤k)→IsS u ps pw file blocks cache→R (k:Int) 6 u) :
  dN_ (some ⟨ps,0,none⟩) (lba:Int) L fua w R:=by
 refine d0_.calls _ _ _ _ _ _ ?_
 have hbn:=qK_ (hL w (ab_.mono (ab_.refl (fun _=>False) w) fun _ _ q=>q.elim))
 refine ah_ fun lb w0 hlb hb0 hg0 hsz0=>?_
 have hsz:w.heap.size≤w0.heap.size:=hg0.size
 have hc0:w0.cell? ⟨lb,0,none⟩=some (.slice L.A L.n L.c):=by rw[Blk.cell hb0];rfl
 have hS0:IsS w0 ps pw file blocks cache:=hg0.heap hS (fun q=>q)
 refine⟨L,hc0,oz_ hS0 hbk hl ?_⟩
 by_cases q:lba+bs.length≤blocks
 case neg=>rw[if_neg o_];exact ao_ rfl (h1 o_ w0 hg0)
 rw[if_pos o_]
 refine al_ rfl ⟨L,hc0,?_⟩
 rw[←hbn]
 have hlD:¬D lb:=fun e=>by have:=hw.lt e;omega
 refine xV_ (n:=bs.length) (rs:=di_ bs) hS0 hps (hw.grow hg0) hs o_ (lL_ bs) ho hn (fun x u K hx hk hK=>?_) (fun hfl u D' hk hw' hD' hS'=>?_) (fun k hkl hfl hf u D' hk hw' hD' hS'=>hbad q k hkl hfl hf u D' ((hg0.mono (fun _ _ e=>e.elim)).trans hk fun _ _ e=>e) hw' (fun j hj=>?_) hS')
 ·refine⟨rfl,?_⟩
  show hh_ (x:Int) ⟨lb,0,none⟩ u K
  refine dh_.calls _ _ _ _ ?_
  have hLu:Rd u 19 L (bs.flatMap bc):=hL u ((hg0.mono (fun _ _ e=>e.elim)).trans hk fun _ _ e=>e)
  obtain⟨a,ha,hc⟩:=jA_ hLu hx
  refine⟨L,hk.cell hc0 hlD,⟨o_,o_,by rw[ha];rfl⟩,(bc bs[x]).toArray,?_,?_⟩
  ·rw[ha];exact aC_ ed_ bA_ (by rw[ck_]) hc
  ·refine sv_ fun s u' hg hown=>hK s u' hg (Own.mono ?_ (Nat.zero_le u.heap.size))
   unfold di_
   rw[List.getElem?_eq_getElem hx]
   exact hown
 ·refine h2 q hfl u D' ((hg0.mono (fun _ _ e=>e.elim)).trans hk fun _ _ e=>e) hw' (fun k hk'=>?_) hS'
  rcases hD' k hk' with e|e
  ·exact .inl e
  ·exact .inr o_
 ·rcases hD' j hj with e|e
  ·exact .inl e
  ·exact .inr o_
def cv_ (st:Wst) (file:ByteArray) (lba n:Nat):List Bk:=(List.range n).map fun i=>b5_ ((st.seen file).getD []) (lba+i)
theorem pY_ (w:World) (b:Bk):(Instr.buildSlice k2_ 1 #[(0,.agg (bc b).toArray)]).run Tryz.prog w=.ok (.slice (some ⟨w.heap.size,0,none⟩) 1 1) (w.alloc (.cells (bc b).toArray av_)):=by
 obtain⟨d,g,a,r,hd,hg,ha,hr⟩:=b
 match d,hd with
 | [x0,x1,x2,x3,x4,x5,x6,x7,x8,x9,x10,x11,x12,x13,x14,x15],_=>
  show(Instr.buildSlice k2_ 1 #[(0,.agg #[.int .u8 (x0.toNat:Int),.int .u8 (x1.toNat:Int),.int .u8 (x2.toNat:Int),.int .u8 (x3.toNat:Int),.int .u8 (x4.toNat:Int),.int .u8 (x5.toNat:Int),.int .u8 (x6.toNat:Int),.int .u8 (x7.toNat:Int),.int .u8 (x8.toNat:Int),.int .u8 (x9.toNat:Int),.int .u8 (x10.toNat:Int),.int .u8 (x11.toNat:Int),.int .u8 (x12.toNat:Int),.int .u8 (x13.toNat:Int),.int .u8 (x14.toNat:Int),.int .u8 (x15.toNat:Int),.int .u16 (g:Int),.int .u16 (a:Int),.int .u32 (r:Int)])]).run Tryz.prog w=_
  kernel_rfl
theorem oB_ {w:World} {ps pw:Nat} {D:Nat→Prop} {st:Wst} {F:Int→Bool} {file:ByteArray} {blocks:Nat} {cache:Bool} {lba n:Nat} {R:Sl→Int→Int→W_}
  (hS:IsS w ps pw file blocks cache) (hps:¬D ps) (hw:a3_ w pw D st F) (hs:1≤file.size∧file.size≤32) (hbk:blocks≤4096) (hl:lba+n≤blocks) (ho:st.ops<100000000000)
  (h:(∀i:Nat,i<n→F ((st.ops+i:Nat):Int)=false)→∀out u,ab_ D w u→RdW w u pw D st n→Own u w.heap.size av_ 19 out ((cv_ st file lba n).flatMap bc)→out.n=n→R out (n:Int) 0 u)
  (hbad:∀k:Nat,k<n→(∀i:Nat,i<k→F ((st.ops+i:Nat):Int)=false)→F ((st.ops+k:Nat):Int)=true→∀u,ab_ D w u→RdW w u pw D st (k+1)→R ⟨none,0,0⟩ (k:Int) 6 u) :
  gh_ (some ⟨ps,0,none⟩) (lba:Int) (n:Int) w R:=by
 refine ez_.calls _ _ _ _ _ ?_
 refine oz_ hS hbk o_ ?_
 rw[if_pos hl]
 refine al_ rfl ?_
 refine⟨fun out x u=>∃k:Nat,x=k∧k≤n∧(∀i:Nat,i<k→F ((st.ops+i:Nat):Int)=false)∧ab_ D w u∧RdW w u pw D st k∧Own u w.heap.size av_ 19 out ((cv_ st file lba k).flatMap bc),fun _ x _=>n-x.toNat,
  ⟨0,rfl,Nat.zero_le _,(fun i hi=>absurd hi (Nat.not_lt_zero _)),ab_.mono (ab_.refl (fun _=>False) w) (fun _ _ q=>q.elim),RdW.refl _ _ _ _,aK_ _ _ _ _⟩,?_⟩
 rintro out x w0 ⟨k,rfl,hk,hfl,hk0,hr0,hown⟩
 have hw0:=hr0.isWq hw
 have hol:out.n=k:=by have:=hown.len;rw[bx_ ck_] at this;simp[cv_] at this;omega
 refine bh_ (fun hlt=>?_) (fun hge=>?_)
 ·rintro w1 rfl
  have hg1:ac_ w0 w0.drew:=aq_ w0
  have hk1:ab_ D w w0.drew:=hk0.grow hg1
  have hS1:IsS w0.drew ps pw file blocks cache:=hk1.heap hS hps
  refine⟨fun u=>IsS u ps pw file blocks cache,hS1,rfl,some ⟨pw,0,none⟩,fun u hu=>by rw[gA,am_,Blk.cell hu];rfl,rfl,file,fun u hu=>by rw[gA,am_,Blk.cell hu];rfl,?_⟩
  have e:IntKind.wrap .i64 ((IntKind.wrap .i64 ((lba:Int)+(k:Int)))*25)=((25*(lba+k):Nat):Int):=by
   rw[w64 (n:=(lba:Int)+(k:Int)) o_ o_,w64 o_ o_];omega
  rw[e]
  refine hx_ (n:=25) (hw0.grow hg1) hs o_ d_ (by show st.ops+k<_;omega) (fun hf s w2 hk2 hr2 hown2 hsn=>?_) (fun hf w2 hk2 hr2=>ao_ rfl (hbad k hlt hfl hf w2 (hk1.trans hk2 fun _ _ q=>q) ((hr0.grow hg1).trans hr2)))
  refine al_ (by
   show((_:Int) != 0&&_)=false
   cases (st.seen file).isSome<;>rfl) ?_
  have hown2:Own w2 w0.drew.heap.size ae_ 1 s (bv ((((st.seen file).getD []).drop (25*(lba+k))).take 25)):=hown2
  refine tL_ (hown2.rd o_) o_ fun w3 hg3=>?_
  refine aH_ (cells:=(bc (b5_ ((st.seen file).getD []) (lba+k))).toArray) (e:=av_) (z:=19) (base:=0) ?_ (by simp[ck_]) d_ (Nat.zero_le _) fun w4 hlit4 hg4 _=>?_
  ·exact pY_ _ _
  have outD:∀b,out.blk=some b→¬D b:=fun b hb q=>by
   have h1:=(hown.ge b hb).1
   have h2:=hw.lt q
   omega
  have hown4:Own w4 w.heap.size av_ 19 out ((cv_ st file lba k).flatMap bc):=(((hown.grow hg1).keep hk2 outD).grow hg3).grow hg4
  have hk4:ab_ D w w4:=((hk1.trans hk2 fun _ _ q=>q).grow hg3).grow hg4
  refine aS_ k3_ bA_ rfl d_ d_ hown4 (hlit4.rd (by show 1≤_;decide)) (fun v hv=>pt_ _ v (by simpa using hv)) (by show(out.n+1)*24≤_;omega) hk4.size fun s' w5 hn5 hown5 hk5 _=>?_
  have hk5':ab_ D w w5:=hk4.trans (S':=fun k=>some k=out.blk) hk5 fun i hi q=>by
   have:=(hown4.ge i q.symm).1;omega
  rw[w64 o_ o_]
  refine⟨⟨k+1,o_,o_,fun i hi=>?_,hk5',?_,?_⟩,by dsimp only;omega⟩
  ·by_cases e:i=k
   ·subst e;exact hf
   ·exact hfl i o_
  ·have:=(((hr0.grow hg1).trans hr2).grow hg3 |>.grow hg4).keep hk5 (fun k hk q=>outD k q.symm hk) (fun g cur hg q=>?_)
   ·exact this
   ·obtain⟨cur',hc'⟩:=aU_ hown4 q.symm
    rw[hc'] at hg
    injection hg with hg
    injection hg with _ ht
    exact absurd ht d_
  ·have er:(cv_ st file lba (k+1)).flatMap bc=(cv_ st file lba k).flatMap bc++bc (b5_ ((st.seen file).getD []) (lba+k)):=by
    unfold cv_
    rw[List.range_succ,List.map_append,List.flatMap_append]
    simp
   rw[er]
   simpa using hown5
 ·have hkn:k=n:=o_
  subst hkn
  exact h hfl out w0 hk0 hr0 hown hol
open Go CF
def yN_:Nat:=0x82f63b78
def n2_ (s:Nat):Nat:=if s%2=1 then(s/2) ^^^ yN_ else s/2
def qL_:Nat→Nat→Nat
 | 0,s=>s
 | k+1,s=>n2_ (qL_ k s)
def tM_ (s:Nat) (b:UInt8):Nat:=qL_ 8 (s ^^^ b.toNat)
def iM_ (s:Nat) (l:L8):Nat:=l.foldl tM_ s
def c32 (l:L8):Nat:=iM_ 0xffffffff l ^^^ 0xffffffff
theorem jB_ {a b:Nat} (ha:a<4294967296) (hb:b<4294967296):a ^^^ b<4294967296:=Nat.xor_lt_two_pow (n:=32) ha hb
theorem xW_ {s:Nat} (h:s<4294967296):n2_ s<4294967296:=by
 unfold n2_
 split
 ·exact jB_ o_ d_
 ·omega
theorem lM_ {s:Nat} (h:s<4294967296):∀k,qL_ k s<4294967296
 | 0=>h
 | k+1=>xW_ (lM_ h k)
theorem xX_ {s:Nat} (h:s<4294967296) (b:UInt8):tM_ s b<4294967296:=lM_ (jB_ h (by have:=b.toNat_lt;omega)) 8
theorem xY_ {l:L8}:∀{s:Nat},s<4294967296→iM_ s l<4294967296:=by
 induction l with
 | nil=>intro s h;exact h
 | cons b r ih=>intro s h;exact ih (xX_ h b)
theorem sw_ (s:Nat) (a b:L8):iM_ s (a++b)=iM_ (iM_ s a) b:=by simp[iM_,List.foldl_append]
theorem u6_ (s:Nat) (a:L8) (b:UInt8):iM_ s (a++[b])=tM_ (iM_ s a) b:=by rw[sw_];rfl
theorem tN_ {a b:Nat} (ha:a<4294967296) (hb:b<4294967296):hP_ .u32 (a:Int) (b:Int)=((a ^^^ b:Nat):Int):=by
 unfold hP_
 show IntKind.wrap .u32 (((BitVec.ofInt 32 (a:Int) ^^^ BitVec.ofInt 32 (b:Int)).toNat:Nat):Int)=_
 rw[BitVec.ofInt_natCast,BitVec.ofInt_natCast,BitVec.toNat_xor,BitVec.toNat_ofNat,BitVec.toNat_ofNat,Nat.mod_eq_of_lt o_,Nat.mod_eq_of_lt o_]
 have:=jB_ ha hb
 exact jl_ o_ o_
theorem xZ_ {a:Nat} (ha:a<4294967296):br_ .u32 (a:Int) 1=((a%2:Nat):Int):=by
 unfold br_
 show IntKind.wrap .u32 (((BitVec.ofInt 32 (a:Int) &&& BitVec.ofInt 32 ((1:Nat):Int)).toNat:Nat):Int)=_
 rw[BitVec.ofInt_natCast,BitVec.ofInt_natCast,BitVec.toNat_and,BitVec.toNat_ofNat,BitVec.toNat_ofNat,Nat.mod_eq_of_lt o_,Nat.mod_eq_of_lt o_]
 rw[Nat.and_one_is_mod]
 exact jl_ o_ o_
theorem xv_ {a:Nat} (ha:a<4294967296):pn_ .u32 (a:Int)=((a ^^^ 4294967295:Nat):Int):=by
 unfold pn_
 have e:(if IntKind.signed .u32=true then(-1:Int) else IntKind.max .u32)=((4294967295:Nat):Int):=d_
 rw[e,tN_ d_ ha,Nat.xor_comm]
open Go CF
theorem yO_ {s:Nat} (hs:s<4294967296) {X Y:Prop} (h1:s%2=1→X) (h0:s%2=0→Y):Br ((br_ .u32 (s:Int) 1)==1) X Y:=by
 rw[xZ_ hs]
 exact aw_ (fun q=>h1 o_) (fun q=>h0 o_)
theorem yP_ {s:Nat} (hs:s<4294967296) (h:s%2=1):hP_ .u32 (bJ_ .u32 (s:Int) 1) 2197175160=((n2_ s:Nat):Int):=by
 rw[shr .u32 s 1 d_]
 have:=tN_ (a:=s/2) (b:=yN_) o_ d_
 unfold n2_
 rw[if_pos h]
 exact this
theorem yQ_ {s:Nat} (h:s%2=0):bJ_ .u32 (s:Int) 1=((n2_ s:Nat):Int):=by
 rw[shr .u32 s 1 d_]
 unfold n2_
 rw[if_neg o_]
theorem pu_ {p:Sl} {l:L8} {s:Nat} {w:World} {R:Int→W_} (hp:Rd w 1 p (bv l)) (hs:s<4294967296)
  (h:R ((iM_ (s ^^^ 4294967295) l ^^^ 4294967295:Nat):Int) w):ly_ (s:Int) p w R:=by
 refine i5_.calls _ _ _ _ ?_
 have hln:l.length=p.n:=by have:=hp.len;rw[az_] at this;omega
 have hnb:=hp.nb
 have hs':s ^^^ 4294967295<4294967296:=jB_ hs d_
 refine⟨fun v x w'=>w'=w∧∃j:Nat,x=j∧j≤p.n∧v=((iM_ (s ^^^ 4294967295) (l.take j):Nat):Int),fun _ x _=>p.n-x.toNat,⟨rfl,0,rfl,Nat.zero_le _,xv_ hs⟩,?_⟩
 rintro v x w0 ⟨rfl,j,rfl,hj,rfl⟩
 have hcs:iM_ (s ^^^ 4294967295) (l.take j)<4294967296:=xY_ hs'
 refine bh_ (fun hlt=>?_) (fun hge=>?_)
 ·obtain⟨a,ha,hc⟩:=hp.byte (i:=j) hlt
  have hjs:j<l.length:=o_
  have hb8:=l[j].toNat_lt
  refine⟨⟨o_,o_,by rw[ha];rfl⟩,(l[j].toNat:Int),by rw[ha];exact hc,?_⟩
  rw[jl_ (n:=(l[j].toNat:Int)) o_ o_,tN_ hcs o_]
  generalize hT:iM_ (s ^^^ 4294967295) (l.take j) ^^^ l[j].toNat=T
  have hTl:T<4294967296:=by rw[←hT];exact jB_ hcs o_
  refine⟨fun v x w'=>w'=w0∧∃k:Nat,x=k∧k≤8∧v=((qL_ k T:Nat):Int),fun _ x _=>8-x.toNat,⟨rfl,0,rfl,d_,rfl⟩,?_⟩
  rintro v x w1 ⟨rfl,k,rfl,hk,rfl⟩
  refine a6_ (fun hlt8=>?_) (fun hge8=>?_)
  ·refine yO_ (lM_ hTl k) (fun q=>?_) (fun q=>?_)
   ·rw[yP_ (lM_ hTl k) q,w64 o_ o_]
    exact⟨⟨rfl,k+1,o_,o_,rfl⟩,by dsimp only;omega⟩
   ·rw[yQ_ q,w64 o_ o_]
    exact⟨⟨rfl,k+1,o_,o_,rfl⟩,by dsimp only;omega⟩
  ·have:k=8:=o_
   subst this
   rw[w64 o_ o_]
   refine⟨⟨rfl,j+1,o_,o_,?_⟩,by dsimp only;omega⟩
   rw[List.take_succ_eq_append_getElem hjs,u6_]
   unfold tM_
   rw[hT]
 ·have:j=p.n:=o_
  subst this
  rw[List.take_of_length_le o_] at hcs ⊢
  rw[xv_ hcs]
  exact h
theorem mz_ {p:Sl} {l:L8} {w:World} {R:Int→W_} (hp:Rd w 1 p (bv l)) (h:R ((c32 l:Nat):Int) w):lw_ p w R:=by
 refine lH_.calls _ _ _ ?_
 refine pu_ (s:=0) hp d_ ?_
 rw[Nat.zero_xor]
 exact h
end Go.Proofs.YtpmebahhjgkflaaGreatDoor
namespace Go.Proofs.YtpmebahhjgkflaaGreatDoor.CF
open Go Go.RowKit
set_option maxRecDepth 100000
theorem jh_ {w:World} {base:Nat} {e:TypeId} {s:Sl} {vs:List Value} (hs:Own w base e 1 s vs) {i:Nat} (hi:i<s.n) {v:Value} (hv:v.oneCell'=true)
  {K:W_} (h:∀w1,Own w1 base e 1 s (vs.set i v)→ab_ (fun k=>some k=s.blk) w w1→w1.heap.size=w.heap.size→K w1):Put ((gA s.A).add (i*1)) v w K:=by
 obtain⟨hlen,hown⟩:=hs
 rcases hown with⟨_,hn0⟩|⟨g,cap,cur,hv',hbg,hg,hnc,hcm,hcs,htake⟩
 ·omega
 ·injection hv' with hA hN hC
  have hcs':cur.size=cap:=by simpa using hcs
  rw[Nat.mul_one,hA,gA,am_,Nat.zero_add]
  refine a2_ hg o_ hv fun w1 hb1 hk1 hsz1=>?_
  refine h w1 ⟨by rw[List.length_set];exact hlen,.inr ⟨g,cap,_,by rw[hA,hC],hbg,hb1,hnc,hcm,by simpa using hcs,?_⟩⟩ (hk1.mono fun k _ q=>by simp[Sl.blk,hA,q]) hsz1
  have hF:cur.toList.take (s.n*1)=vs:=htake
  rw[←hF,Array.toList_setIfInBounds,List.take_set]
theorem iB_ {P:Program} {w:World} {t e:TypeId} {zv:Value} {bytes n base:Nat} (ht:P.underlying t=some (.slice e)) (hinfo:(P.info? e).map (fun i=>(i.zero,i.size,i.bytes))=some (some zv,1,bytes)) (hzc:zv.cells=#[zv])
  (hb:bytes*n≤281474976710656) (hn:n≤140737488355328) (hbase:base≤w.heap.size)
  {K:Sl→W_} (h:∀w1,Own w1 base e 1 ⟨some ⟨w.heap.size,0,none⟩,n,n⟩ (List.replicate n zv)→ac_ w w1→w1.heap.size=w.heap.size+1→K ⟨some ⟨w.heap.size,0,none⟩,n,n⟩ w1) :
  ai_ P .sl (Instr.makeSlice t (.int .i64 (n:Int)) (.int .i64 (n:Int))) w K:=by
 obtain⟨i,hi,hzz⟩:=Option.map_eq_some_iff.1 hinfo
 simp only[Prod.mk.injEq] at hzz
 obtain⟨hz,hsz,hby⟩:=hzz
 have hb':(i.bytes:Int)*(n:Int)≤281474976710656:=by
  rw[hby,←Int.natCast_mul];omega
 have hr:=run_make (P:=P) w t e i zv ht hi hz .i64 .i64 (n:Int) (n:Int) o_ (Int.le_refl _) hb' o_
 simp only[Int.toNat_natCast] at hr
 refine⟨⟨some ⟨w.heap.size,0,none⟩,n,n⟩,_,hr,h _ ?_ (eS_ w _) (by simp)⟩
 have hm:madeCells zv.cells (n*i.size)=(List.replicate n zv).toArray:=by
  rw[hzc,hsz,Nat.mul_one]
  apply Array.ext
  ·simp[madeCells]
  ·intro k h1 h2
   simp[madeCells,Nat.mod_one]
 rw[hm]
 have:=World.ownsRow_lit (e:=e) (size:=1) (base:=base) w (List.replicate n zv).toArray n hbase (by unfold maxLen;omega) (by simp)
 exact this
theorem np_ {P:Program} {w:World} {t tn ty e:TypeId} {zv:Value} {base k:Nat} (ht:P.underlying t=some (.slice e)) (htn:P.underlying tn=some (.int .i64)) (hinfo:(P.info? e).map (fun i=>(i.zero,i.size,i.bytes))=some (some zv,1,1)) (hzc:zv.cells=#[zv])
  {s:Sl} {vs:List Value} (hs:Rd w 1 s vs) (hc:s.c<s.n+k) (hk:0<k) (hbd:s.n+k≤1000000000) (hbase:base≤w.heap.size)
  {K:Sl→W_} (h:∀s' w',s'.n=s.n+k→Own w' base e 1 s' (vs++List.replicate k zv)→ac_ w w'→s'.blk=some w.heap.size→K s' w') :
  ai_ P .sl (Builtin.append_ #[t,tn] ty #[.slice s.A s.n s.c,.int .i64 (k:Int)]) w K:=by
 obtain⟨i,hi,hzz⟩:=Option.map_eq_some_iff.1 hinfo
 simp only[Prod.mk.injEq] at hzz
 obtain⟨hz,hsz,hby⟩:=hzz
 have hvl:vs.length=s.n:=by have:=hs.len;omega
 have hold:(Builtin.firstCells i.size s.n (.slice s.A s.n s.c)).run P w.drew=.ok vs.toArray w.drew:=by
  rw[hsz]
  by_cases hne:vs = []
  ·subst hne
   simp only[List.length_nil] at hvl
   rw[←hvl]
   cases hA:s.A with
   | none=>exact run_firstCells_none (P:=P) (w:=w.drew) 1 0 0 _
   | some a=>exact run_firstCells_some (P:=P) (w:=w.drew) 1 0 a 0 s.c [] rfl (fun j v hj=>by simp at hj)
  ·obtain⟨a,ha,hc⟩:=(hs.grow (aq_ w)).at_ hne
   rw[ha]
   exact run_firstCells_some (P:=P) (w:=w.drew) 1 s.n a s.n s.c vs o_ hc
 have hr:=Go.Lib.run_append_grow_zeros (P:=P) w t tn ty e i zv .i64 .i64 ht htn hi hz s.A s.n s.c vs hold k hk o_ hc o_ (by rw[hby];omega) (by rw[hby];exact growslice_fits o_ o_)
 refine⟨⟨some ⟨w.heap.size,0,none⟩,s.n+k,grownCap w (s.n+k) s.c e⟩,_,hr,h _ _ rfl ?_ ⟨rfl,rfl,rfl,by simp,fun k hk _=>l7_ w.drew _ k hk⟩ rfl⟩
 have hge:=grownCap_ge w (s.n+k) s.c e
 have hcm:grownCap w (s.n+k) s.c e≤maxLen:=grownCap_le_maxLen w (s.n+k) s.c e (by unfold maxLen;omega)
 have hzk:∀m,(Builtin.zeroCells zv.cells m).size=m:=fun m=>by rw[size_zeroCells,hzc];simp
 have hzr:(Builtin.zeroCells zv.cells k).toList=List.replicate k zv:=by
  rw[hzc]
  apply List.ext_getElem
  ·rw[Array.length_toList,←hzc,hzk];simp
  ·intro j h1 h2
   simp[Builtin.zeroCells,Nat.mod_one]
 refine⟨by simp;omega,.inr ⟨w.heap.size,grownCap w (s.n+k) s.c e,_,rfl,hbase,heap_alloc_new w.drew _,hge,hcm,?_,?_⟩⟩
 ·simp only[Array.size_append,List.size_toArray,hzk,hvl]
  omega
 ·simp only[Array.toList_append,hzr]
  have:(vs++List.replicate k zv).length=(s.n+k)*1:=by simp;omega
  rw[←this]
  exact List.take_left
theorem n3_ {P:Program} {w:World} {base:Nat} {t ty e:TypeId} {zv:Value} {z bytes:Nat} (ht:P.underlying t=some (.slice e)) (hinfo:(P.info? e).map (fun i=>(i.zero,i.size,i.bytes))=some (some zv,z,bytes))
  (hzc:zv.cells.size=z) (hz0:0<z) (hb0:0<bytes) {s x:Sl} {vs xs:List Value} (hs:Own w base e z s vs) (hx:Rd w z x xs) (h1:∀u∈xs,u.oneCell'=true)
  (hm:s.n+x.n≤140737489403904) (hbd:((s.n+x.n)+(s.n+x.n)/4+192)*bytes≤281474976710656) (hbase:base≤w.heap.size) {K:Sl→W_}
  (h:∀s' w',s'.n=s.n+x.n→Own w' base e z s' (vs++xs)→ab_ (fun k=>some k=s.blk) w w'→K s' w') :
  ai_ P .sl (Builtin.append_ #[t,t] ty #[.slice s.A s.n s.c,.slice x.A x.n x.c]) w K:=by
 obtain⟨i,hi,hzz⟩:=Option.map_eq_some_iff.1 hinfo
 simp only[Prod.mk.injEq] at hzz
 obtain⟨hz,hsz,hby⟩:=hzz
 have blk:(Value.slice s.A s.n s.c).ownBlock=s.blk:=by unfold Sl.blk;cases s.A<;>rfl
 have hxl:xs.length=x.n*z:=hx.len
 by_cases hne:xs = []
 ·have hn0:x.n=0:=by
   rw[hne,List.length_nil] at hxl
   rcases Nat.mul_eq_zero.1 hxl.symm with q|q<;>omega
  have hsl:=hs.len
  have hc:s.n+x.n≤s.c:=by
   rcases hs.2 with⟨h2,q⟩|⟨g,cap,cur,hv,_,_,h4,_⟩
   ·injection h2 with _ e1 e2;omega
   ·injection hv with _ _ e2;omega
  have hfc:(Builtin.firstCells i.size x.n (.slice x.A x.n x.c)).run P w=.ok #[] w:=by
   rw[hn0]
   cases hA:x.A with
   | none=>exact run_firstCells_none (P:=P) (w:=w) i.size 0 0 _
   | some a=>exact run_firstCells_some (P:=P) (w:=w) i.size 0 a 0 x.c [] (by simp) (fun j v hj=>by simp at hj)
  refine⟨s,w,?_,h s w o_ (by rw[hne,List.append_nil];exact hs) (ab_.refl _ _)⟩
  show _=Result.ok (Value.slice s.A s.n s.c) w
  rw[hn0] at hc hfc ⊢
  obtain⟨A,n,c⟩:=s
  simp only[Nat.add_zero] at hc ⊢
  cases A<;>simp[Builtin.append_,run_underlying ht,sizeOf,typeInfo,hi,Builtin.lenOf,hfc,hc,storeCells]
 ·obtain⟨a,ha,hcells⟩:=hx.at_ hne
  obtain⟨v',w',hr,hown,hg,_⟩:=run_append_own_wide (P:=P) w base t ty e i zv z bytes ht hi hz hsz hby hzc hz0 _ s.n vs hs a x.n x.c xs hx.len hcells h1 (by unfold maxLen;omega) hbd hbase
  have hv':∃s':Sl,v'=.slice s'.A s'.n s'.c∧s'.n=s.n+x.n:=by
   rcases hown.2 with⟨rfl,hn⟩|⟨g,cap,cur,rfl,_⟩
   ·exact⟨⟨none,0,0⟩,rfl,hn.symm⟩
   ·exact⟨⟨some ⟨g,0,none⟩,_,cap⟩,rfl,rfl⟩
  obtain⟨s',rfl,hn'⟩:=hv'
  rw[ha]
  exact⟨s',w',hr,h s' w' hn' (by have q:=hown;rw[←hn'] at q;exact q) (blk▸mm_ hg)⟩
theorem dy_ {j:W_} {body:(W_)→Prop} (I:W_) (h1:∀u,I u→j u) (h2:(∀u,I u→j u)→body j):aY_ j body:=h2 h1
theorem bw_ {α:Type} {j:α→W_} {body:(α→W_)→Prop} (I:α→W_) (h1:∀x u,I x u→j x u) (h2:(∀x u,I x u→j x u)→body j):aY_ j body:=h2 h1
theorem xw_ {α β:Type} {j:α→β→W_} {body:(α→β→W_)→Prop} (I:α→β→W_) (h1:∀x y u,I x y u→j x y u) (h2:(∀x y u,I x y u→j x y u)→body j):aY_ j body:=h2 h1
theorem ci_ {α:Type} {j:α→W_} {body:(α→W_)→Prop} (I:α→W_) (h1:∀x u,I x u→j x u) (h2:(∀x u,I x u→j x u)→body j):bI_ j body:=h2 h1
end Go.Proofs.YtpmebahhjgkflaaGreatDoor.CF
namespace Go.Proofs.YtpmebahhjgkflaaGreatDoor
open Go CF
set_option maxRecDepth 100000
def beN:Nat→Nat→L8
 | 0,_=>[]
 | j+1,v=>UInt8.ofNat (v/256 ^ j)::beN j v
theorem bH_:∀(n v:Nat),(beN n v).length=n
 | 0,_=>rfl
 | n+1,v=>by simp[beN,bH_ n v]
theorem u7_ (l:L8):∀v:Nat,l.foldl (fun v b=>v*256+b.toNat) v=v*256 ^ l.length+num l:=by
 induction l with
 | nil=>intro v;simp[num]
 | cons b r ih=>
  intro v
  unfold num
  simp only[List.foldl_cons,List.length_cons]
  rw[ih,ih (0*256+b.toNat),Nat.pow_succ]
  simp only[Nat.zero_mul,Nat.zero_add]
  rw[Nat.add_mul,Nat.mul_assoc,Nat.mul_comm (256 ^ r.length) 256]
  omega
theorem wq_ (b:UInt8) (l:L8):num (b::l)=b.toNat*256 ^ l.length+num l:=by
 show List.foldl _ (0*256+b.toNat) l=_
 rw[u7_];simp
theorem s4_:∀(n v:Nat),num (beN n v)=v%256 ^ n
 | 0,v=>by simp[beN,num,Nat.mod_one]
 | n+1,v=>by
  simp only[beN]
  have e:(256:Nat) ^ (n+1)=256 ^ n*256:=Nat.pow_succ ..
  rw[wq_,bH_,s4_ n v,UInt8.toNat_ofNat',e,Nat.mod_mul,Nat.mul_comm,Nat.add_comm]
theorem oC_ {n v:Nat} (h:v<256 ^ n):num (beN n v)=v:=by rw[s4_,Nat.mod_eq_of_lt h]
theorem u8_ (l:L8) (i:Nat) (b:UInt8):(bv l).set i (.int .u8 (b.toNat:Int))=bv (l.set i b):=by
 simp[bv,List.map_set]
def hA_ (l:L8) (at_ n j v:Nat):L8:=l.take (at_+(n-j))++beN j v++l.drop (at_+n)
theorem pZ_ (l:L8) (at_ n v:Nat):hA_ l at_ n 0 v=l:=by simp[hA_,beN]
theorem wr_ {l:L8} {at_ n j:Nat} (v:Nat) (h:at_+n≤l.length) (hj:j≤n):(hA_ l at_ n j v).length=l.length:=by
 simp[hA_,bH_];omega
theorem p0_ {l:L8} {at_ n j:Nat} (v:Nat) (h:at_+n≤l.length) (hj:j<n) :
  (hA_ l at_ n j v).set (at_+(n-1-j)) (UInt8.ofNat (v/256 ^ j))=hA_ l at_ n (j+1) v:=by
 unfold hA_
 have e1:at_+(n-j)=at_+(n-(j+1))+1:=o_
 have e2:at_+(n-1-j)=at_+(n-(j+1)):=o_
 have hl:at_+(n-(j+1))<l.length:=o_
 rw[e1,e2,List.take_succ_eq_append_getElem hl]
 generalize hm:at_+(n-(j+1))=m at *
 have ht:(l.take m).length=m:=by rw[List.length_take];omega
 simp only[List.append_assoc]
 rw[List.set_append_right _ _ o_,ht,Nat.sub_self]
 rfl
def lay (l:L8) (at_ n v:Nat):L8:=l.take at_++beN n v++l.drop (at_+n)
theorem ws_ (l:L8) (at_ n v:Nat):hA_ l at_ n n v=lay l at_ n v:=by simp[hA_,lay]
theorem rz_ (v j:Nat):v/256 ^ j/256=v/256 ^ (j+1):=by rw[Nat.pow_succ,Nat.div_div_eq_div_mul]
theorem tO_ {p:Sl} {at_ n:Nat} {w:World} {R:Int→W_} (hb:p.n≤140737489403904) (hn:1≤n) (hn8:n≤8) (hat:at_+n≤p.n) (h:R 0 w):j0_ p (at_:Int) (n:Int) w R:=by
 refine ix_.calls _ _ _ _ _ ?_
 have e1:IntKind.wrap .i64 ((p.n:Int)-(n:Int))=(p.n:Int)-(n:Int):=w64 o_ o_
 exact al_ (by rw[Bool.or_eq_false_iff,decide_eq_false_iff_not,decide_eq_false_iff_not];omega) (al_ (by rw[Bool.or_eq_false_iff,decide_eq_false_iff_not,decide_eq_false_iff_not,e1];omega) h)
theorem n4_ {p:Sl} {l:L8} {at_ n v:Nat} {w:World} {R:Sl→Int→W_} (hp:Rd w 1 p (bv l)) (hb:p.n≤1000000000) (hn:1≤n) (hn8:n≤8) (hat:at_+n≤l.length) (hv:v<256 ^ n)
  (h:∀s w',Own w' w.heap.size ae_ 1 s (bv (lay l at_ n v))→ac_ w w'→R s 0 w'):kW_ p (at_:Int) (n:Int) (v:Int) w R:=by
 refine m7_.calls _ _ _ _ _ _ ?_
 have hln:l.length=p.n:=by have:=hp.len;rw[az_] at this;omega
 refine tO_ o_ hn hn8 o_ ?_
 have e8:IntKind.wrap .i64 (8*(n:Int))=((8*n:Nat):Int):=by rw[w64 o_ o_];omega
 rw[e8,Int.toNat_natCast,shr .u64 v (8*n) (by show 8*n≤64;omega)]
 have hz:v/2 ^ (8*n)=0:=by
  refine Nat.div_eq_of_lt ?_
  rw[Nat.pow_mul]
  exact hv
 rw[hz]
 refine⟨fun _=>o_,al_ (by simp) (al_ rfl ?_)⟩
 refine aS_ (s:=⟨none,0,0⟩) (vs:=[]) (base:=w.heap.size) aN_ bG_ rfl d_ d_ (aK_ _ _ _ _) hp (cr_ _) (by show(0+p.n)*1≤_;omega) (Nat.le_refl _) fun s1 w1 hn1 hown1 hk1 _=>?_
 have hg1:ac_ w w1:=hk1.mono fun i hi q=>by cases q
 rw[List.nil_append] at hown1
 have hn1:s1.n=p.n:=by rw[hn1];exact Nat.zero_add _
 refine⟨fun x i u=>∃j:Nat,j≤n∧i=((n:Int)-1-(j:Int))∧x=((v/256 ^ j:Nat):Int)∧ac_ w u∧Own u w.heap.size ae_ 1 s1 (bv (hA_ l at_ n j v)),fun _ i _=>(i+1).toNat,
  ⟨0,Nat.zero_le _,by rw[w64 o_ o_];omega,by simp,hg1,by rw[pZ_];exact hown1⟩,?_⟩
 rintro x i w2 ⟨j,hj,rfl,rfl,hg2,hown2⟩
 refine a6_ (fun hlt=>?_) (fun hge=>?_)
 ·have e1:IntKind.wrap .i64 ((at_:Int)+((n:Int)-1-(j:Int)))=((at_+(n-1-j):Nat):Int):=by rw[w64 o_ o_];omega
  rw[e1,Int.toNat_natCast,be_]
  have hs1A:s1.A.isSome=true:=by
   have hne:bv (hA_ l at_ n j v)≠[]:=fun q=>by have:=congrArg List.length q;rw[az_,wr_ v hat o_,List.length_nil] at this;omega
   obtain⟨a,ha,_⟩:=(hown2.rd o_).at_ hne
   rw[ha];rfl
  refine⟨⟨o_,o_,hs1A⟩,?_⟩
  refine jh_ (i:=at_+(n-1-j)) hown2 o_ rfl fun w3 hown3 hk3 _=>?_
  rw[u8_,p0_ v hat o_] at hown3
  rw[shr .u64 _ 8 d_,w64 o_ o_]
  refine⟨⟨j+1,o_,o_,?_,hg2.keep hk3 fun i hi q=>by have:=(hown2.ge i q.symm).1;omega,hown3⟩,by dsimp only;omega⟩
  rw[←rz_]
 ·have:j=n:=o_
  subst this
  rw[ws_] at hown2
  exact h s1 w2 hown2 hg2
theorem rA_ {n v:Nat} {w:World} {R:Sl→W_} (hn:1≤n) (hn8:n≤8) (h:∀s w',Own w' w.heap.size ae_ 1 s (bv (beN n v))→ac_ w w'→s.n=n→R s w'):dp_ (v:Int) (n:Int) w R:=by
 refine eV_.calls _ _ _ _ ?_
 refine iB_ (base:=w.heap.size) aN_ bG_ rfl o_ o_ (Nat.le_refl _) fun w1 hown1 hg1 hsz1=>?_
 have hrep:(List.replicate n (Value.int .u8 0))=bv (List.replicate n 0):=by simp[bv]
 rw[hrep] at hown1
 have hl0:(List.replicate n (0:UInt8)).length=n:=List.length_replicate
 refine⟨fun x i u=>∃j:Nat,j≤n∧i=((n:Int)-1-(j:Int))∧x=((v/256 ^ j:Nat):Int)∧ac_ w u∧Own u w.heap.size ae_ 1 ⟨some ⟨w.heap.size,0,none⟩,n,n⟩ (bv (hA_ (List.replicate n 0) 0 n j v)),fun _ i _=>(i+1).toNat,
  ⟨0,Nat.zero_le _,by rw[w64 o_ o_];omega,by simp,hg1,by rw[pZ_];exact hown1⟩,?_⟩
 rintro x i w2 ⟨j,hj,rfl,rfl,hg2,hown2⟩
 refine a6_ (fun hlt=>?_) (fun hge=>?_)
 ·have e1:((n:Int)-1-(j:Int))=((n-1-j:Nat):Int):=o_
  rw[be_,show((n:Int)-1-(j:Int)).toNat=n-1-j by omega]
  refine⟨⟨o_,by show _<(n:Int);omega,rfl⟩,?_⟩
  refine jh_ hown2 (i:=n-1-j) (by show n-1-j<n;omega) rfl fun w3 hown3 hk3 _=>?_
  have e2:n-1-j=0+(n-1-j):=o_
  rw[u8_,e2,p0_ v o_ o_] at hown3
  rw[shr .u64 _ 8 d_,w64 o_ o_]
  refine⟨⟨j+1,o_,o_,?_,hg2.keep hk3 fun i hi q=>by have:=(hown2.ge i q.symm).1;omega,hown3⟩,by dsimp only;omega⟩
  rw[←rz_]
 ·have:j=n:=o_
  subst this
  have e:hA_ (List.replicate j 0) 0 j j v=beN j v:=by simp[hA_]
  rw[e] at hown2
  exact h _ w2 hown2 hg2 rfl
theorem u9_ {l:L8} {j:Nat} (h:l.length=j) (hj:j≤7):num l<72057594037927936:=by
 refine Nat.lt_of_lt_of_le (hy_ l) ?_
 rw[h]
 calc 256 ^ j≤256 ^ 7:=Nat.pow_le_pow_right d_ hj
  _=72057594037927936:=d_
open Go CF
def bC_ (st:Wst) (file:ByteArray):L8:=(st.seen file).getD []
theorem kg_ (st:Wst) (file:ByteArray) (o:Nat) (r:L8):bC_ (b0_ st file o r) file=wr (bC_ st file) o r:=by
 simp[bC_,b0_,eK_,ps_]
theorem mA_ {st:Wst} {file:ByteArray} {lba:Nat} {bs:List Bk} (hg:Good (bC_ st file)):∀k,k≤bs.length→Good (bC_ (cD_ st file lba (di_ bs) k) file)∧
  ∀j,b5_ (bC_ (cD_ st file lba (di_ bs) k) file) j=if lba≤j∧j<lba+k then(bs[j-lba]?).getD da_ else b5_ (bC_ st file) j
 | 0,_=>⟨hg,fun j=>by rw[if_neg o_];rfl⟩
 | k+1,hk=>by
  obtain⟨h1,h2⟩:=mA_ (lba:=lba) (bs:=bs) hg k o_
  have hr:di_ bs k=bt_ (bs[k]' o_):=by unfold di_;rw[List.getElem?_eq_getElem o_]
  refine⟨?_,fun j=>?_⟩
  ·show Good (bC_ (b0_ _ file _ _) file)
   rw[kg_,hr];exact ry_ h1 _ _
  ·show b5_ (bC_ (b0_ _ file _ _) file) j=_
   rw[kg_,hr,my_ h1,h2]
   by_cases e:j=lba+k
   ·subst e
    rw[if_pos rfl,if_pos o_,Nat.add_sub_cancel_left,List.getElem?_eq_getElem o_]
    rfl
   ·rw[if_neg e]
    by_cases q:lba≤j∧j<lba+k
    ·rw[if_pos q,if_pos o_]
    ·rw[if_neg q,if_neg o_]
theorem p1_ (j:Nat):b5_ [] j=da_:=mx_ (by simp)
open Go CF
section
variable {H:Type} {enc:TypeId×Value→H} {w:World} {base:Nat} {spare:Nat→Bool} {held:Bool}
end
theorem va_ {st:Wst} {file:ByteArray} {a n:Nat} {l:List Bk} (hn:l.length=n) (h:∀i (hi:i<l.length),b5_ (bC_ st file) (a+i)=l[i]):cv_ st file a n=l:=by
 unfold cv_
 apply List.ext_getElem
 ·simp[hn]
 ·intro i h1 h2
  rw[List.getElem_map,List.getElem_range]
  exact h i h2
open Go CF
def apC (F:bD_) (c:Cg):bD_:=eK_ F c.name c.off c.p
def m9_ (F:bD_) (l:List Cg):bD_:=l.foldl apC F
theorem tP_ (F:bD_) (l:List Cg) (c:Cg):m9_ F (l++[c])=apC (m9_ F l) c:=by simp[m9_]
def Wok (st:Wst):Prop:=∀c∈st.waits,c.kind=119∧c.off+c.p.length≤1048576
theorem n5_ {w:World} {pw:Nat} {D:Nat→Prop} {st:Wst} {F:Int→Bool} {R:Int→W_} (hw:a3_ w pw D st F) (hk:Wok st) (ho:st.ops<1000000000000) (hn:st.waits.length<1000000000)
  (h:F (st.ops:Int)=false→∀w' D',ab_ D w w'→a3_ w' pw D' ⟨st.seen,m9_ st.dur st.waits,[],st.ops+1⟩ F→(∀k,D' k→D k∨w.heap.size≤k)→R 0 w')
  (hbad:F (st.ops:Int)=true→∀w',ab_ D w w'→a3_ w' pw D {st with ops:=st.ops+1} F→R 6 w'):b3_ (some ⟨pw,0,none⟩) w R:=by
 obtain⟨pl,hF,mb,md,ws,cs,hw⟩:=hw
 subst hF
 refine eA_.calls _ _ _ ?_
 refine al_ rfl ?_
 refine nZ_ hw ho fun w1 hk1 hw1=>?_
 have hk1D:ab_ D w w1:=hk1.mono fun _ _ q=>by subst q;exact hw.dw
 cases hfl:pl.F (st.ops:Int) with
 | true=>exact ao_ rfl (hbad hfl w1 hk1D ⟨pl,rfl,mb,md,ws,cs,hw1⟩)
 | false=>
 have h:=h hfl
 refine al_ rfl ⟨rfl,ws,by rw[gA,am_,hw1.blk.cell];rfl,?_⟩
 have hlen:cs.length=st.waits.length:=by rw[←hw.waits,List.length_map]
 have hwn:ws.n=cs.length:=by have:=hw.own.len;rw[rw_] at this;omega
 refine⟨fun x u=>∃j:Nat,x=j∧j≤cs.length∧ab_ D w u∧c2_ u pw D ⟨st.seen,m9_ st.dur (st.waits.take j),st.waits,st.ops+1⟩ pl mb md ws cs,fun x _=>cs.length-x.toNat,
  ⟨0,rfl,Nat.zero_le _,hk1D,hw1⟩,?_⟩
 rintro x w2 ⟨j,rfl,hj,hk2,hw2⟩
 refine bh_ (fun hlt=>?_) (fun hge=>?_)
 ·have hjc:j<cs.length:=o_
  have hjw:j<st.waits.length:=o_
  have hcj:cs[j].1=st.waits[j]:=by
   have:=hw.waits
   simp only[←this,List.getElem_map]
  obtain⟨hkind,hbnd⟩:=hk _ (List.getElem_mem hjw)
  obtain⟨a,ha,hc⟩:=(hw2.own.rd o_).elem (i:=j) o_ d_
  rw[g4_ s1_ hjc] at hc
  have lv:∀{u:World} {b:Addr},bS_ u b (cgv cs[j])→(loadVar aX_ b).run Tryz.prog u=.ok (.agg (cgv cs[j]).toArray) u:=fun q=>aC_ k1_ f3_ rfl q
  refine⟨⟨o_,o_,by rw[ha];rfl⟩,(cgv cs[j]).toArray,by rw[ha];exact lv hc,?_⟩
  refine ah_ fun cb w3 hcb hb3 hg3 hsz3=>?_
  have hw3:=hw2.keep hg3 (fun _ _ q=>q) (b8_ w2)
  refine ar_ (cells:=(cgv cs[j]).toArray) hb3 f3_ rfl rfl (by simp[cgv,Value.oneCell']) fun w4 hb4 hk4 hsz4=>?_
  have hg4:ac_ w2 w4:=hg3.keep hk4 fun i hi q=>o_
  have hw4:=hw2.keep hg4 (fun _ _ q=>q) (b8_ w2)
  rintro w5 rfl
  have hg5:ac_ w4 w4.drew:=aq_ w4
  have hw5:=hw4.keep hg5 (fun _ _ q=>q) (b8_ w4)
  have hb5:Blk w4.drew cb (cgv cs[j]).toArray aX_:=hg5.heap hb4 (fun q=>q)
  refine⟨fun u=>Blk u pw (hv_ pl.mf mb md ws (st.ops+1)) ct_∧Blk u cb (cgv cs[j]).toArray aX_,⟨hw5.blk,hb5⟩,rfl,some md,fun u hu=>by rw[gA,am_,hu.1.cell];rfl,(cgv cs[j]).toArray,fun u hu=>lv (ax_ hu.2),cs[j].2,fun u hu=>by rw[am_,hu.2.cell];rfl,?_⟩
  have hrow:=hw5.rows _ (List.getElem_mem hjc)
  have hpl:cs[j].1.p.length=cs[j].2.n:=by have:=hrow.len;rw[az_] at this;omega
  have e:(cgv cs[j]).toArray=#[.int .u8 119,.string cs[j].1.name,.string cs[j].1.to,.int .i64 (cs[j].1.off:Int),.slice cs[j].2.A cs[j].2.n cs[j].2.c]:=by
   unfold cgv;rw[hcj,hkind]
  rw[e]
  refine mu_ hw5.dur (hrow.rd (by rw[hcj] at hpl;omega)) (by rw[hcj];exact hbnd) fun w6 hk6 hF6=>?_
  have hw6:=hw5.setDur hk6 hF6
  rw[show(cs[j].1.p).take cs[j].2.n=cs[j].1.p from List.take_of_length_le o_] at hw6
  have hk6D:ab_ D w w6:=(((hk2.grow hg4).grow hg5)).trans hk6 fun _ _ q=>by subst q;exact hw.dd
  rw[w64 o_ o_]
  refine⟨⟨j+1,o_,o_,hk6D,?_⟩,by dsimp only;omega⟩
  rw[List.take_succ_eq_append_getElem hjw,tP_,←hcj]
  exact hw6
 ·have hjn:j=st.waits.length:=o_
  rw[hjn,List.take_length] at hw2
  refine⟨rfl,?_⟩
  rw[gA,am_]
  refine a2_ hw2.blk (by show 2<7;decide) rfl fun w3 hb3 hk3 hsz3=>?_
  have hfin:=hw2.setWaits (w1:=w2) (w2:=w3) (ws':=⟨none,0,0⟩) (cs':=[]) (ab_.mono (ab_.refl (fun _=>False) w2) fun _ _ q=>q.elim) (aK_ _ _ _ _) (.inr (.inr rfl)) (fun c hc=>by cases hc) hb3 hk3
  have s2:=hk2.size
  refine h w3 (fun k=>((k=pw∨k=mb∨k=md)∨some k=(⟨none,0,0⟩:Sl).blk)∨pl.mf=some k) (hk2.trans hfin.2.1 fun _ _ q=>q) ⟨pl,rfl,mb,md,⟨none,0,0⟩,[],hfin.1⟩ fun k hk=>?_
  rcases hfin.2.2 k hk with q|q
  ·exact .inl q
  ·exact .inr o_
open Go CF
def jC_ (s:Wst):Wst:=⟨s.seen,m9_ s.dur s.waits,[],s.ops+1⟩
def fT_ (y:Bool) (s:Wst):Wst:=if y then jC_ s else s
theorem nx_ (y:Bool) (s:Wst):(fT_ y s).seen=s.seen:=by cases y<;>rfl
theorem tQ_ (y:Bool) (s:Wst):(fT_ y s).ops≤s.ops+1:=by
 cases y
 ·exact Nat.le_succ _
 ·exact Nat.le_refl _
theorem rB_ (y:Bool) (s:Wst):(fT_ y s).waits=if y then [] else s.waits:=by cases y<;>rfl
theorem vb_ {y:Bool} {s:Wst} (h:Wok s):Wok (fT_ y s):=by
 cases y
 ·exact h
 ·exact fun c hc=>by cases hc
theorem na_ {st:Wst} {file:ByteArray} {lba:Nat} {rs:Nat→L8} (h:Wok st) (hlen:∀i,(rs i).length≤25):∀k,lba+k≤4096→Wok (cD_ st file lba rs k)
 | 0,_=>h
 | k+1,hb=>by
  intro c hc
  have ih:=na_ (lba:=lba) (file:=file) h hlen k o_
  rcases List.mem_append.1 hc with q|q
  ·exact ih c q
  ·rw[List.mem_singleton.1 q]
   refine⟨rfl,?_⟩
   have:=hlen k
   show 25*(lba+k)+(rs k).length≤_
   omega
def fE_ (n:Nat) (fua cache:Bool):Bool:=decide (0<n)&&(fua || !cache)
theorem n6_ {w:World} {ps pw:Nat} {D:Nat→Prop} {st:Wst} {F:Int→Bool} {file:ByteArray} {blocks:Nat} {cache fua:Bool} {lba:Nat} {L:Sl} {bs:List Bk} {R:Int→Int→W_}
  (hS:IsS w ps pw file blocks cache) (hps:¬D ps) (hw:a3_ w pw D st F) (hok:Wok st) (hs:1≤file.size∧file.size≤32) (hbk:blocks≤4096) (hl:lba+bs.length≤blocks) (hL:∀u,ab_ D w u→Rd u 19 L (bs.flatMap bc))
  (ho:st.ops<10000000000) (hn:st.waits.length<800000000)
  (h:(∀i:Nat,i<bs.length+(if fE_ bs.length fua cache then 1 else 0)→F ((st.ops+i:Nat):Int)=false)→∀u D',ab_ D w u→a3_ u pw D' (fT_ (fE_ bs.length fua cache) (cD_ st file lba (di_ bs) bs.length)) F→(∀k,D' k→D k∨w.heap.size≤k)→IsS u ps pw file blocks cache→R (bs.length:Int) 0 u)
  (hbad:∀k:Nat,k<bs.length+(if fE_ bs.length fua cache then 1 else 0)→(∀i:Nat,i<k→F ((st.ops+i:Nat):Int)=false)→F ((st.ops+k:Nat):Int)=true→∀u D',ab_ D w u→a3_ u pw D' {cD_ st file lba (di_ bs) k with ops:=st.ops+k+1} F→(∀k,D' k→D k∨w.heap.size≤k)→IsS u ps pw file blocks cache→R (k:Int) 6 u) :
  dN_ (some ⟨ps,0,none⟩) (lba:Int) L fua w R:=by
 refine oA_ hS hps hw hs hbk o_ hL o_ o_ (fun q=>absurd q o_) (fun _ hfl u D' hk hw' hD' hS'=>?_) (fun _ k hk0 hfl hf u D' hk hw' hD' hS'=>hbad k o_ hfl hf u D' hk hw' hD' hS')
 obtain⟨lo,lw⟩:=jz_ st file lba (di_ bs) bs.length
 by_cases q:0<bs.length∧(fua=true∨cache=false)
 ·rw[if_pos q]
  have hy:fE_ bs.length fua cache=true:=by
   unfold fE_
   rw[Bool.and_eq_true,decide_eq_true_eq,Bool.or_eq_true,Bool.not_eq_true']
   exact q
  have s1:=hk.size
  have lt:=au_ hS
  have hS2:∀{u2:World},ab_ D' u u2→IsS u2 ps pw file blocks cache:=fun hk2=>hk2.heap hS' fun e=>by
   rcases hD' _ e with r|r
   ·exact hps r
   ·omega
  have hkk:∀{u2:World},ab_ D' u u2→ab_ D w u2:=fun hk2=>hk.trans hk2 fun i hi e=>by
   rcases hD' i e with r|r
   ·exact r
   ·omega
  refine n5_ hw' (na_ hok (lL_ bs) _ o_) o_ o_ (fun hf u2 D2 hk2 hw2 hD2=>?_) (fun hf u2 hk2 hw2=>hbad bs.length (by rw[hy];simp) hfl (by rw[←lo];exact hf) u2 D' (hkk hk2) (by rw[←lo];exact hw2) hD' (hS2 hk2))
  refine h (fun i hi=>?_) u2 D2 (hk.trans hk2 fun i hi e=>?_) (by rw[hy];exact hw2) (fun k hk'=>?_) (hk2.heap hS' fun e=>?_)
  ·rw[hy] at hi
   by_cases e:i=bs.length
   ·subst e;rw[←lo];exact hf
   ·exact hfl i (by simp at hi;omega)
  ·rcases hD' i e with r|r
   ·exact r
   ·omega
  ·rcases hD2 k hk' with r|r
   ·exact hD' k r
   ·exact .inr o_
  ·rcases hD' _ e with r|r
   ·exact hps r
   ·omega
 ·rw[if_neg q]
  have hy:fE_ bs.length fua cache=false:=by
   unfold fE_
   by_cases q1:0<bs.length
   ·rw[decide_eq_true q1,Bool.true_and]
    cases fua<;>cases cache<;>simp_all
   ·rw[decide_eq_false q1,Bool.false_and]
  exact h (fun i hi=>hfl i (by rw[hy] at hi;simpa using hi)) u D' hk (by rw[hy];exact hw') hD' hS'
theorem pv_ {w:World} {ps pw:Nat} {D:Nat→Prop} {st:Wst} {F:Int→Bool} {file:ByteArray} {blocks:Nat} {cache:Bool} {R:Int→W_} (hS:IsS w ps pw file blocks cache) (hps:¬D ps) (hw:a3_ w pw D st F) (hok:Wok st)
  (ho:st.ops<10000000000) (hn:st.waits.length<800000000)
  (h:F (st.ops:Int)=false→∀u D',ab_ D w u→a3_ u pw D' (jC_ st) F→(∀k,D' k→D k∨w.heap.size≤k)→IsS u ps pw file blocks cache→R 0 u)
  (hbad:F (st.ops:Int)=true→∀u,ab_ D w u→a3_ u pw D {st with ops:=st.ops+1} F→IsS u ps pw file blocks cache→R 6 u):gg_ (some ⟨ps,0,none⟩) w R:=by
 refine et_.calls _ _ _ (al_ rfl ⟨rfl,some ⟨pw,0,none⟩,by rw[gA,am_,Blk.cell hS];rfl,?_⟩)
 exact n5_ hw hok o_ o_ (fun hf u D' hk hw' hD'=>h hf u D' hk hw' hD' (hk.heap hS hps)) (fun hf u hk hw'=>hbad hf u hk hw' (hk.heap hS hps))
open Go CF
open Go CF
def hB_ (bs:List Bk) (F:Nat) (xs:List Bk):Nat→List Bk
 | 0=>bs
 | k+1=>(hB_ bs F xs k).set (F+k) ((xs[k]?).getD da_)
theorem f8_ (bs:List Bk) (F:Nat) (xs:List Bk):∀k,(hB_ bs F xs k).length=bs.length
 | 0=>rfl
 | k+1=>by simp[hB_,f8_ bs F xs k]
theorem lN_ (bs:List Bk) (F:Nat) (xs:List Bk):∀k,F+k≤bs.length→∀j,j<bs.length→(hB_ bs F xs k)[j]?=if F≤j∧j<F+k then some ((xs[j-F]?).getD da_) else bs[j]?
 | 0,_,j,_=>by rw[if_neg o_];rfl
 | k+1,hk,j,hj=>by
  have ih:=lN_ bs F xs k o_ j hj
  simp only[hB_]
  rw[List.getElem?_set,f8_]
  by_cases e:F+k=j
  ·subst e
   rw[if_pos rfl,if_pos o_,if_pos o_,Nat.add_sub_cancel_left]
  ·rw[if_neg e,ih]
   by_cases q:F≤j∧j<F+k
   ·rw[if_pos q,if_pos o_]
   ·rw[if_neg q,if_neg o_]
def i8_ (st:Wst) (file:ByteArray) (bs:List Bk):Prop:=Good (bC_ st file)∧∀j,j<bs.length→some (b5_ (bC_ st file) j)=bs[j]?
theorem ny_ (y:Bool) (s:Wst) (file:ByteArray):bC_ (fT_ y s) file=bC_ s file:=by
 unfold bC_;rw[nx_]
theorem sx_ {st:Wst} {file:ByteArray} {bs xs:List Bk} {F:Nat} {y:Bool} (h:i8_ st file bs) (hF:F+xs.length≤bs.length) :
  i8_ (fT_ y (cD_ st file F (di_ xs) xs.length)) file (hB_ bs F xs xs.length):=by
 obtain⟨h1,h2⟩:=mA_ (lba:=F) (bs:=xs) h.1 xs.length (Nat.le_refl _)
 refine⟨by rw[ny_];exact h1,fun j hj=>?_⟩
 rw[f8_] at hj
 rw[ny_,h2,lN_ _ _ _ _ hF _ hj]
 split
 ·rfl
 ·exact h.2 j hj
theorem qz_ {st:Wst} {file:ByteArray} {bs xs:List Bk} {F k o:Nat} (h:i8_ st file bs) (hF:F+xs.length≤bs.length) (hk:k≤xs.length) :
  i8_ {cD_ st file F (di_ xs) k with ops:=o} file (hB_ bs F xs k):=by
 obtain⟨h1,h2⟩:=mA_ (lba:=F) (bs:=xs) h.1 k hk
 refine⟨h1,fun j hj=>?_⟩
 rw[f8_] at hj
 show some (b5_ (bC_ (cD_ st file F (di_ xs) k) file) j)=_
 rw[h2,lN_ _ _ _ _ o_ _ hj]
 split
 ·rfl
 ·exact h.2 j hj
theorem tR_ {st:Wst} {file:ByteArray} {bs:List Bk} (h:i8_ st file bs):cv_ st file 0 bs.length=bs:=
 va_ rfl fun i hi=>by
  have:=h.2 i hi
  rw[List.getElem?_eq_getElem hi] at this
  rw[Nat.zero_add]
  exact Option.some.inj this
open Go CF
def gG (s:Nat):Nat:=if s/32768=1 then(2*s%65536) ^^^ 0x8bb7 else 2*s%65536
def gGs:Nat→Nat→Nat
 | 0,s=>s
 | k+1,s=>gG (gGs k s)
def gB (s:Nat) (b:UInt8):Nat:=gGs 8 (s ^^^ b.toNat*256)
def c16 (l:L8):Nat:=l.foldl gB 0
theorem lO_ {a b:Nat} (ha:a<65536) (hb:b<65536):a ^^^ b<65536:=Nat.xor_lt_two_pow (n:=16) ha hb
theorem zm_ {s:Nat} (h:s<65536):gG s<65536:=by
 unfold gG
 split
 ·exact lO_ (Nat.mod_lt _ d_) d_
 ·exact Nat.mod_lt _ d_
theorem rC_ {s:Nat} (h:s<65536):∀k,gGs k s<65536
 | 0=>h
 | k+1=>zm_ (rC_ h k)
theorem zn_ {s:Nat} (h:s<65536) (b:UInt8):gB s b<65536:=rC_ (lO_ h (by have:=b.toNat_lt;omega)) 8
theorem x0_ {l:L8}:∀{s:Nat},s<65536→l.foldl gB s<65536:=by
 induction l with
 | nil=>intro s h;exact h
 | cons b r ih=>intro s h;exact ih (zn_ h b)
theorem vc_ (l:L8):c16 l<65536:=x0_ d_
theorem wt_ (l:L8) (b:UInt8):c16 (l++[b])=gB (c16 l) b:=by simp[c16,List.foldl_append]
theorem zo_ (n:Nat):IntKind.wrap .u16 (n:Int)=((n%65536:Nat):Int):=by
 have e:IntKind.wrap .u16 (n:Int)=(n:Int)%65536:=by simp[IntKind.wrap,IntKind.signed,IntKind.bits]
 rw[e];omega
theorem xx_ {a b:Nat} (ha:a<65536) (hb:b<65536):hP_ .u16 (a:Int) (b:Int)=((a ^^^ b:Nat):Int):=by
 unfold hP_
 show IntKind.wrap .u16 (((BitVec.ofInt 16 (a:Int) ^^^ BitVec.ofInt 16 (b:Int)).toNat:Nat):Int)=_
 rw[BitVec.ofInt_natCast,BitVec.ofInt_natCast,BitVec.toNat_xor,BitVec.toNat_ofNat,BitVec.toNat_ofNat,Nat.mod_eq_of_lt o_,Nat.mod_eq_of_lt o_]
 have:=lO_ ha hb
 exact ml_ o_ o_
theorem s5_ {b:Nat} (h:b<256):cu_ .u16 (b:Int) 8=((b*256:Nat):Int):=by
 unfold cu_
 have e:(min 8 (IntKind.bits .u16))=8:=d_
 rw[e,show(b:Int)*2 ^ 8=((b*256:Nat):Int) by omega]
 exact ml_ o_ o_
theorem s6_ {s:Nat}:cu_ .u16 (s:Int) 1=((2*s%65536:Nat):Int):=by
 unfold cu_
 have e:(min 1 (IntKind.bits .u16))=1:=d_
 rw[e,show(s:Int)*2 ^ 1=((2*s:Nat):Int) by omega,zo_]
def mkR (kind lba:Nat):Nat:=if kind=1∨kind=2 then lba%4294967296 else 0
theorem yR_ (kind lba:Nat):mkR kind lba<4294967296:=by unfold mkR;split<;>omega
def mkB (kind lba:Nat) (d:L8) (h:d.length=16):Bk:=⟨d,c16 d,0,mkR kind lba,h,vc_ d,d_,yR_ kind lba⟩
def mB_ (kind:Nat) (b:Bk):Bool:=decide (b.a=65535)&&(decide (kind≠3)||decide (b.r=4294967295))
def c3_ (kind prot lba:Nat) (b:Bk):Nat:=
 if kind=0∨3<kind∨prot=3∨4<prot∨mB_ kind b=true then 0
 else if prot≠2∧b.g≠c16 b.d then 0x1001
 else if prot≠4∧kind≠3∧b.r≠lba%4294967296 then 0x1003 else 0
def mC_ (kind prot:Nat):Bool:=decide (kind≤3)&&(decide (prot=0)||(decide (0<kind)&&decide (prot≤4)))
def tS_ (b:Bk):L8:=be2 b.g++be2 b.a++be4 b.r
def ii_ (wt:Bool) (b:Bk):L8:=b.d++if wt then tS_ b else []
def cT_ (wt:Bool) (l:List Bk):L8:=l.flatMap (ii_ wt)
def szB (wt:Bool):Nat:=if wt then 24 else 16
theorem vd_ (wt:Bool) (b:Bk):(ii_ wt b).length=szB wt:=by
 cases wt
 ·simp[ii_,szB,b.hd]
 ·simp[ii_,szB,tS_,be2,be4,b.hd]
theorem p2_ (wt:Bool) (l:List Bk):(cT_ wt l).length=l.length*szB wt:=by
 unfold cT_
 induction l with
 | nil=>simp
 | cons a r ih=>rw[List.flatMap_cons,List.length_append,ih,vd_,List.length_cons,Nat.succ_mul,Nat.add_comm]
def dz_ (l:L8):L8:=(l++List.replicate 16 0).take 16
theorem p3_ (l:L8):(dz_ l).length=16:=by simp[dz_]
theorem wu_ {l:L8} (h:l.length=16):dz_ l=l:=by
 unfold dz_;rw[List.take_append_of_le_length o_,List.take_of_length_le o_]
theorem hU_ (l:L8) (k:Nat):num (l.take k)<256 ^ k:=
 Nat.lt_of_lt_of_le (hy_ _) (Nat.pow_le_pow_right d_ (by rw[List.length_take];omega))
def unB (wt:Bool) (l:L8):Bk:=
 if wt then⟨dz_ l,num ((l.drop 16).take 2),num ((l.drop 18).take 2),num ((l.drop 20).take 4),p3_ l,hU_ _ 2,hU_ _ 2,hU_ _ 4⟩
 else⟨dz_ l,0,0,0,p3_ l,d_,d_,d_⟩
def cd_ (wt:Bool) (l:L8):List Bk:=(List.range (l.length/szB wt)).map fun i=>unB wt ((l.drop (i*szB wt)).take (szB wt))
theorem jD_ (wt:Bool) (l:L8):(cd_ wt l).length=l.length/szB wt:=by simp[cd_]
theorem x1_ {wt:Bool} {l:L8} {i:Nat} (h:i<(cd_ wt l).length):(cd_ wt l)[i]=unB wt ((l.drop (i*szB wt)).take (szB wt)):=by simp[cd_]
theorem pw_ {a b:UInt8}:num [a,b]=a.toNat*256+b.toNat:=by simp[num]
open Go CF
theorem yS_ {s:Nat} (hs:s<65536) {X Y:Prop} (h1:s/32768=1→X) (h0:¬s/32768=1→Y):Br ((bJ_ .u16 (s:Int) 15)==1) X Y:=by
 rw[shr .u16 s 15 d_]
 exact aw_ (fun q=>h1 (by have:(2:Nat) ^ 15=32768:=rfl;omega)) (fun q=>h0 (by have:(2:Nat) ^ 15=32768:=rfl;omega))
theorem rD_ {p:Sl} {l:L8} {w:World} {R:Int→W_} (hp:Rd w 1 p (bv l)) (h:R ((c16 l:Nat):Int) w):lx_ p w R:=by
 refine lI_.calls _ _ _ ?_
 refine i6_.calls _ _ _ _ ?_
 have hln:l.length=p.n:=by have:=hp.len;rw[az_] at this;omega
 have hnb:=hp.nb
 refine⟨fun v x w'=>w'=w∧∃j:Nat,x=j∧j≤p.n∧v=((c16 (l.take j):Nat):Int),fun _ x _=>p.n-x.toNat,⟨rfl,0,rfl,Nat.zero_le _,rfl⟩,?_⟩
 rintro v x w0 ⟨rfl,j,rfl,hj,rfl⟩
 have hcs:=vc_ (l.take j)
 refine bh_ (fun hlt=>?_) (fun hge=>?_)
 ·obtain⟨a,ha,hc⟩:=hp.byte (i:=j) hlt
  have hjs:j<l.length:=o_
  have hb8:=l[j].toNat_lt
  refine⟨⟨o_,o_,by rw[ha];rfl⟩,(l[j].toNat:Int),by rw[ha];exact hc,?_⟩
  rw[ml_ (n:=(l[j].toNat:Int)) o_ o_,s5_ hb8,xx_ hcs o_]
  generalize hT:c16 (l.take j) ^^^ l[j].toNat*256=T
  have hTl:T<65536:=by rw[←hT];exact lO_ hcs o_
  refine⟨fun v x w'=>w'=w0∧∃k:Nat,x=k∧k≤8∧v=((gGs k T:Nat):Int),fun _ x _=>8-x.toNat,⟨rfl,0,rfl,d_,rfl⟩,?_⟩
  rintro v x w1 ⟨rfl,k,rfl,hk,rfl⟩
  have hgl:=rC_ hTl k
  refine a6_ (fun hlt8=>?_) (fun hge8=>?_)
  ·refine yS_ hgl (fun q=>?_) (fun q=>?_)
   ·rw[s6_,show hP_ .u16 ((2*gGs k T%65536:Nat):Int) 35767=((2*gGs k T%65536 ^^^ 35767:Nat):Int) from xx_ o_ d_,w64 o_ o_]
    refine⟨⟨rfl,k+1,o_,o_,?_⟩,by dsimp only;omega⟩
    simp only[gGs];unfold gG;rw[if_pos q]
   ·rw[s6_,w64 o_ o_]
    refine⟨⟨rfl,k+1,o_,o_,?_⟩,by dsimp only;omega⟩
    simp only[gGs];unfold gG;rw[if_neg q]
  ·have:k=8:=o_
   subst this
   rw[w64 o_ o_]
   refine⟨⟨rfl,j+1,o_,o_,?_⟩,by dsimp only;omega⟩
   rw[List.take_succ_eq_append_getElem hjs,wt_]
   unfold gB
   rw[hT]
 ·have:j=p.n:=o_
  subst this
  rw[List.take_of_length_le o_]
  exact h
def tc (g a r:Nat):List Value:=[.int .u16 (g:Int),.int .u16 (a:Int),.int .u32 (r:Int)]
theorem dRd {w:World} {pb:Nat} {b:Bk} (h:Blk w pb (bc b).toArray av_):Rd w 1 ⟨some ⟨pb,0,none⟩,16,16⟩ (bv b.d):=
 ⟨by rw[az_,b.hd];rfl,Nat.le_refl _,by show 16≤_;decide,fun _=>⟨_,rfl,fun j v hj=>ax_ h j v (by rw[bc,List.getElem?_append_left (List.getElem?_eq_some_iff.1 hj).1];exact hj)⟩⟩
theorem x2_ (b:Bk):(bc b).drop 16=tc b.g b.a b.r:=by
 unfold bc
 rw[List.drop_append,List.drop_of_length_le (by rw[az_,b.hd];omega),az_,b.hd];rfl
theorem s7_ (b:Bk):(bc b).take 16=bv b.d:=by
 unfold bc
 rw[List.take_append_of_le_length (by rw[az_,b.hd];omega),List.take_of_length_le (by rw[az_,b.hd];omega)]
theorem oD_ {w:World} {a:Addr} {b:Bk} (h:bS_ w a (bc b)):bS_ w (a.add 16) (tc b.g b.a b.r):=fun j v hj=>by
 rw[fJ_]
 refine h (16+j) v ?_
 rw[←x2_,List.getElem?_drop] at hj
 exact hj
theorem tT_ {w:World} {a:Addr} {b:Bk} (h:bS_ w a (bc b)):bS_ w (a.add 0) (bv b.d):=fun j v hj=>by
 rw[uR_]
 refine h j v ?_
 rw[←s7_,List.getElem?_take] at hj
 split at hj
 ·exact hj
 ·cases hj
theorem qM_ {w:World} {a:Addr} {g n r:Nat} (h:bS_ w a (tc g n r)):(loadVar fj_ a).run Tryz.prog w=.ok (.agg (tc g n r).toArray) w:=
 aC_ ss_ ec_ rfl h
theorem zp_ {w:World} {a:Addr} {d:L8} (hd:d.length=16) (h:bS_ w a (bv d)):(loadVar ov_ a).run Tryz.prog w=.ok (.agg (bv d).toArray) w:=
 aC_ tH_ tG_ (by rw[az_,hd]) h
theorem oE_ {w:World} {a:Addr} {b:Bk} (h:bS_ w a (bc b)):(loadVar av_ a).run Tryz.prog w=.ok (.agg (bc b).toArray) w:=
 aC_ ed_ bA_ (by rw[ck_]) h
theorem ve_ {kind lba app:Nat} {d:L8} {w:World} {R:A_→W_} (hd:d.length=16) (h:∀w',ac_ w w'→R (tc (c16 d) app (mkR kind lba)).toArray w'):nW_ (kind:Int) (lba:Int) (bv d).toArray (app:Int) w R:=by
 refine lF_.calls _ _ _ _ _ _ ?_
 refine ah_ fun db w0 hdb hb0 hg0 hsz0=>?_
 have hb0:Blk w0 db (bv d).toArray ov_:=hb0
 refine ah_ fun ab w1 hab hb1 hg1 hsz1=>⟨d_,?_⟩
 have hb0':=hg1.heap hb0 (fun q=>q)
 have hrd:Rd w1 1 ⟨some ⟨db,0,none⟩,16,16⟩ (bv d):=⟨by rw[az_,hd];rfl,Nat.le_refl _,by show 16≤_;decide,fun _=>⟨_,rfl,fun j v hj=>ax_ hb0' j v hj⟩⟩
 refine rD_ (p:=⟨some ⟨db,0,none⟩,16,16⟩) hrd ?_
 refine ah_ fun tb w2 htb hb2 hg2 hsz2=>?_
 refine ar_ (cells:=(tc (c16 d) app 0).toArray) hb2 ec_ rfl rfl (by simp[tc,Value.oneCell']) fun w3 hb3 hk3 hsz3=>?_
 have hb1':Blk w2 ab _ fj_:=hg2.heap hb1 (fun q=>q)
 have hb13:Blk w3 ab _ fj_:=hk3.heap hb1' o_
 have hg03:ac_ w w3:=((hg0.trans hg1).trans hg2).keep hk3 fun i hi q=>o_
 refine dy_ (fun u=>ac_ w u∧Blk u tb (tc (c16 d) app (mkR kind lba)).toArray fj_∧Blk u ab #[.int .u16 0,.int .u16 0,.int .u32 0] fj_) ?_ (fun J=>?_)
 ·rintro u ⟨hgu,hbt,hba⟩
  refine⟨_,qM_ (ax_ hbt),?_⟩
  refine ar_ (cells:=(tc (c16 d) app (mkR kind lba)).toArray) hba ec_ rfl rfl (by simp[tc,Value.oneCell']) fun u2 hb2' hk2' _=>?_
  exact⟨_,qM_ (ax_ hb2'),h u2 (hgu.keep hk2' fun i hi q=>by have:=hg0.size;omega)⟩
 ·by_cases q:kind=1∨kind=2
  ·refine ao_ (by rw[Bool.or_eq_true,beq_iff_eq,beq_iff_eq];omega) ?_
   rw[am_]
   refine a2_ hb3 (by show 2<3;decide) rfl fun w4 hb4 hk4 _=>J w4 ⟨hg03.keep hk4 fun i hi q=>by have:=hg0.size;omega,?_,hk4.heap hb13 o_⟩
   have e:IntKind.wrap .u32 (lba:Int)=((mkR kind lba:Nat):Int):=by
    unfold mkR;rw[if_pos q]
    have e:IntKind.wrap .u32 (lba:Int)=(lba:Int)%4294967296:=by simp[IntKind.wrap,IntKind.signed,IntKind.bits]
    rw[e];omega
   rw[e] at hb4
   exact hb4
  ·refine al_ (by rw[Bool.or_eq_false_iff,beq_eq_false_iff_ne,beq_eq_false_iff_ne];omega) (J w3 ⟨hg03,?_,hb13⟩)
   unfold mkR;rw[if_neg q];exact hb3
theorem rE_ {kind:Nat} {b:Bk} {w:World} {R:Bool→W_} (h:∀w',ac_ w w'→R (mB_ kind b) w'):kH_ (kind:Int) (tc b.g b.a b.r).toArray w R:=by
 refine ie_.calls _ _ _ _ ?_
 refine ah_ fun tb w0 htb hb0 hg0 hsz0=>?_
 have hb0:Blk w0 tb (tc b.g b.a b.r).toArray fj_:=hb0
 refine⟨(b.a:Int),by rw[am_,hb0.cell];rfl,?_⟩
 have:=h w0 hg0
 unfold mB_ at this
 refine gv_ (fun q=>?_) (fun q=>⟨(b.r:Int),fun _=>by rw[am_,hb0.cell];rfl,?_⟩)
 ·rw[decide_eq_false o_] at this;exact this
 ·have e:((kind:Int) != 3||(b.r:Int)==4294967295)=(decide (b.a=65535)&&(decide (kind≠3)||decide (b.r=4294967295))):=by
   rw[decide_eq_true (by omega:b.a=65535),Bool.true_and,Bool.eq_iff_iff,Bool.or_eq_true,Bool.or_eq_true,bne_iff_ne,beq_iff_eq,decide_eq_true_eq,decide_eq_true_eq]
   omega
  rw[e];exact this
theorem mD_ {kind prot lba:Nat} {b:Bk} {w:World} {R:Int→W_} (h:∀w',ac_ w w'→R ((c3_ kind prot lba b:Nat):Int) w'):j2_ (kind:Int) (prot:Int) (lba:Int) (bc b).toArray w R:=by
 refine kd_.calls _ _ _ _ _ _ ?_
 refine ah_ fun bb w0 hbb hb0 hg0 hsz0=>?_
 have hb0:Blk w0 bb (bc b).toArray av_:=hb0
 have ht0:bS_ w0 (⟨bb,0,none⟩:Addr) (bc b):=ax_ hb0
 refine⟨_,fun _=>qM_ (oD_ ht0),?_⟩
 generalize hG:(((((kind:Int)==0)||decide ((kind:Int)>3))||((prot:Int)==3))||decide ((prot:Int)>4))=G
 have hGiff:G=true↔(kind=0∨3<kind∨prot=3∨4<prot):=by
  rw[←hG,Bool.or_eq_true,Bool.or_eq_true,Bool.or_eq_true,beq_iff_eq,beq_iff_eq,decide_eq_true_eq,decide_eq_true_eq]
  omega
 refine ci_ (fun x u=>ac_ w0 u∧(G=false→x=mB_ kind b)) ?_ (fun J=>⟨fun q=>rE_ fun u hu=>J _ _ ⟨hu,fun _=>rfl⟩,fun q=>J _ _ ⟨ab_.refl _ _,fun e=>by rw[e] at q;cases q⟩⟩)
 rintro x u ⟨hgu,hx⟩
 by_cases hz:G=true∨mB_ kind b=true
 ·have hc:c3_ kind prot lba b=0:=by
   unfold c3_
   refine if_pos ?_
   rcases hz with q|q
   ·have:=hGiff.1 q;omega
   ·simp[q]
  have:=h u (hg0.trans hgu)
  rw[hc] at this
  refine ao_ ?_ this
  rw[Bool.or_eq_true]
  cases hg:G with
  | true=>exact .inl rfl
  | false=>right;rw[hx hg];exact hz.resolve_left (by rw[hg];decide)
 have hGf:G=false:=by cases hg:G with|false=>rfl|true=>exact absurd (.inl hg) hz
 have hE:mB_ kind b=false:=by cases hg:mB_ kind b with|false=>rfl|true=>exact absurd (.inr hg) hz
 have hn:¬(kind=0∨3<kind∨prot=3∨4<prot∨mB_ kind b=true):=by
  have hx:¬(kind=0∨3<kind∨prot=3∨4<prot):=fun q=>hz (.inl (hGiff.2 q))
  rintro(q|q|q|q|q)
  ·exact hx (.inl q)
  ·exact hx (.inr (.inl q))
  ·exact hx (.inr (.inr (.inl q)))
  ·exact hx (.inr (.inr (.inr q)))
  ·rw[hE] at q;cases q
 refine al_ (by rw[hGf,hx hGf,hE];rfl) ?_
 rintro w2 rfl
 have hg2:ac_ w0 u.drew:=hgu.trans (aq_ u)
 have hbu:∀{v:World},ac_ w0 v→Blk v bb (bc b).toArray av_:=fun g=>g.heap hb0 (fun q=>q)
 obtain⟨e16,e17,e18⟩:=xu_ b
 refine⟨fun v=>ac_ w0 v,hg2,(b.g:Int),fun _ v hv=>by rw[am_,am_,(hbu hv).cell];exact e16,fun _=>d_,?_⟩
 have hd:∀{v:World},ac_ w0 v→Rd v 1 ⟨some ⟨bb,0,none⟩,16,16⟩ (bv b.d):=fun g=>dRd (hbu g)
 refine ci_ (fun x v=>ac_ w0 v∧((prot:Int)≠2→x=((c16 b.d:Nat):Int))) ?_ (fun J=>⟨fun q=>rD_ (p:=⟨some ⟨bb,0,none⟩,16,16⟩) (hd hg2) (J _ _ ⟨hg2,fun _=>rfl⟩),fun q=>J _ _ ⟨hg2,fun e=>absurd (by simpa using q) e⟩⟩)
 rintro x v ⟨hgv,hxv⟩
 refine⟨hgv,?_⟩
 have hfin:=h v (hg0.trans hgv)
 by_cases q1:prot≠2∧b.g≠c16 b.d
 ·have hc:c3_ kind prot lba b=4097:=by unfold c3_;rw[if_neg hn,if_pos q1]
  rw[hc] at hfin
  refine ao_ ?_ hfin
  rw[hxv o_,Bool.and_eq_true,bne_iff_ne,bne_iff_ne]
  omega
 refine al_ ?_ ⟨(b.r:Int),fun _=>by rw[am_,am_,(hbu hgv).cell];exact e18,?_⟩
 ·rw[Bool.and_eq_false_iff,bne_eq_false_iff_eq,bne_eq_false_iff_eq]
  by_cases e:prot=2
  ·left;omega
  ·right;rw[hxv o_];omega
 have e32:IntKind.wrap .u32 (lba:Int)=((lba%4294967296:Nat):Int):=by
  have e:IntKind.wrap .u32 (lba:Int)=(lba:Int)%4294967296:=by simp[IntKind.wrap,IntKind.signed,IntKind.bits]
  rw[e];omega
 rw[e32]
 by_cases q2:prot≠4∧kind≠3∧b.r≠lba%4294967296
 ·have hc:c3_ kind prot lba b=4099:=by unfold c3_;rw[if_neg hn,if_neg q1,if_pos q2]
  rw[hc] at hfin
  refine ao_ ?_ hfin
  rw[Bool.and_eq_true,Bool.and_eq_true,bne_iff_ne,bne_iff_ne,bne_iff_ne]
  omega
 ·have hc:c3_ kind prot lba b=0:=by unfold c3_;rw[if_neg hn,if_neg q1,if_neg q2]
  rw[hc] at hfin
  refine al_ ?_ hfin
  rw[Bool.and_eq_false_iff,Bool.and_eq_false_iff,bne_eq_false_iff_eq,bne_eq_false_iff_eq,bne_eq_false_iff_eq]
  omega
theorem vf_ {wt:Bool} {w:World} {R:Int→W_} (h:R ((szB wt:Nat):Int) w):nX_ wt w R:=by
 refine lG_.calls _ _ _ ?_
 cases wt
 ·exact al_ rfl h
 ·exact ao_ rfl h
open Go CF
structure Sn where
 key:Nat
 code:Nat
 info:Nat
 hi:Bool
 field:Int
 bit:Int
 hf:Bool
 ic:Bool
def sn0:Sn:=⟨0,0,0,false,0,0,false,false⟩
def snv (s:Sn):List Value:=[.int .u8 (s.key:Int),.int .u16 (s.code:Int),.int .u64 (s.info:Int),.bool s.hi,.int .i64 s.field,.int .i64 s.bit,.bool s.hf,.bool s.ic]
def cE_ (code:Nat):Sn:=⟨5,code,0,false,0,0,false,false⟩
def c4_ (field:Nat):Sn:=⟨5,0x2600,0,false,(field:Int),-1,true,false⟩
def atS (key code info:Nat):Sn:=⟨key,code,info,true,0,0,false,false⟩
def rsv (st:Nat) (s:Sn) (d:Sl):List Value:=[.int .u8 (st:Int)]++snv s++[.slice d.A d.n d.c]
abbrev ap_:Sl:=⟨none,0,0⟩
theorem n7_ (st:Nat) (s:Sn) (d:Sl):(rsv st s d).toArray.all (·.oneCell')=true:=by simp[rsv,snv,Value.oneCell']
theorem kh_ {w:World} {a:Addr} {st:Nat} {s:Sn} {d:Sl} (h:bS_ w a (rsv st s d)):(loadVar aa_ a).run Tryz.prog w=.ok (.agg (rsv st s d).toArray) w:=aC_ rq_ hj_ rfl h
theorem hC_ {w:World} {a:Addr} {s:Sn} (h:bS_ w a (snv s)):(loadVar aL_ a).run Tryz.prog w=.ok (.agg (snv s).toArray) w:=aC_ fh_ ba_ rfl h
theorem bm_ {w:World} {a:Nat} {old:A_} {st:Nat} {s:Sn} {d:Sl} {K:A_→W_} (hb:Blk w a old aa_) (ho:old.size=10)
  (h:∀w',ab_ (fun k=>k=a) w w'→K (rsv st s d).toArray w') :
  ag_ Tryz.prog (storeVar aa_ ⟨a,0,none⟩ (.agg (rsv st s d).toArray)) w fun w'=>∃res:A_,(loadVar aa_ ⟨a,0,none⟩).run Tryz.prog w'=.ok (.agg res) w'∧K res w':=
 ar_ (cells:=(rsv st s d).toArray) hb hj_ rfl ho (n7_ _ _ _) fun w1 hb1 hk1 _=>⟨_,kh_ (ax_ hb1),h w1 hk1⟩
theorem c5_ {w:World} {a:Nat} {old:A_} {st:Nat} {s:Sn} {d:Sl} {K:W_} (hb:Blk w a old aa_) (ho:old.size=10)
  (h:∀w',Blk w' a (rsv st s d).toArray aa_→ab_ (fun k=>k=a) w w'→w'.heap.size=w.heap.size→K w'):ag_ Tryz.prog (storeVar aa_ ⟨a,0,none⟩ (.agg (rsv st s d).toArray)) w K:=
 ar_ (cells:=(rsv st s d).toArray) hb hj_ rfl ho (n7_ _ _ _) h
theorem cF_ {w u v:World} {a:Nat} (hg:ac_ w u) (ha:w.heap.size≤a) (hk:ab_ (fun k=>k=a) u v):ac_ w v:=hg.keep hk fun i hi q=>o_
theorem hD_ {s:Sn} {w:World} {R:A_→W_} (h:∀w',ac_ w w'→R (rsv 2 s ap_).toArray w'):dM_ (snv s).toArray w R:=by
 refine i3_.calls _ _ _ ?_
 refine ah_ fun sb w0 hsb hb0 hg0 hsz0=>?_
 have hb0:Blk w0 sb (snv s).toArray aL_:=hb0
 refine ah_ fun ab w1 hab hb1 hg1 hsz1=>⟨_,hC_ (ax_ (hg1.heap hb0 (fun q=>q))),(rsv 2 s ap_).toArray,k_,?_⟩
 exact bm_ hb1 rfl fun w2 hk2=>h w2 (cF_ (hg0.trans hg1) (by have:=hg0.size;omega) hk2)
theorem la_ {key code info:Nat} {w:World} {R:A_→W_} (h:∀w',ac_ w w'→R (rsv 2 (atS key code info) ap_).toArray w'):hS_ (key:Int) (code:Int) (info:Int) w R:=by
 refine m8_.calls _ _ _ _ _ ?_
 refine ah_ fun ab w0 hab hb0 hg0 hsz0=>?_
 refine hD_ (s:=atS key code info) fun w1 hg1=>?_
 exact bm_ (hg1.heap hb0 (fun q=>q)) rfl fun w2 hk2=>h w2 (cF_ (hg0.trans hg1) o_ hk2)
theorem mE_ {d:Sl} {w:World} {R:A_→W_} (h:∀w',ac_ w w'→R (rsv 0 sn0 d).toArray w'):iw_ d w R:=by
 refine kc_.calls _ _ _ ?_
 refine ah_ fun ab w0 hab hb0 hg0 hsz0=>?_
 exact bm_ (st:=0) (s:=sn0) (d:=d) hb0 rfl fun w2 hk2=>h w2 (cF_ hg0 o_ hk2)
theorem nz_ {w:World} {R:A_→W_} (h:∀w',ac_ w w'→R (rsv 2 (cE_ 0x1a00) ap_).toArray w'):kG_ w R:=by
 refine id_.calls _ _ ?_
 refine ah_ fun ab w0 hab hb0 hg0 hsz0=>?_
 refine hD_ (s:=cE_ 0x1a00) fun w1 hg1=>?_
 exact bm_ (hg1.heap hb0 (fun q=>q)) rfl fun w2 hk2=>h w2 (cF_ (hg0.trans hg1) o_ hk2)
theorem sy_ {a b c:Nat} {w:World} {R:Bool→W_} (ha:a<18446744073709551616) (hb:b<18446744073709551616) (hc:c<18446744073709551616) (h:R (decide (a+b≤c)) w):lv_ (a:Int) (b:Int) (c:Int) w R:=by
 refine hq_.calls _ _ _ _ _ ?_
 unfold hq_
 have e:(decide ((a:Int)≤(c:Int))&&decide ((b:Int)≤IntKind.wrap .u64 ((c:Int)-(a:Int))))=decide (a+b≤c):=by
  rw[Bool.eq_iff_iff,Bool.and_eq_true,decide_eq_true_eq,decide_eq_true_eq,decide_eq_true_eq]
  by_cases q:a≤c
  ·rw[ea_ o_ o_];omega
  ·omega
 first
  | (rw[e];exact h)
  | exact e▸h
end Go.Proofs.YtpmebahhjgkflaaGreatDoor
