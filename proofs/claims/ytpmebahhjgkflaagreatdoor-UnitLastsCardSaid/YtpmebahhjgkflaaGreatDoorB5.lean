import Derived.Lib.ConvBytes
import Derived.Tactics
import Derived.Tactics2
import Derived.Defers
import Derived.Laws.Pointers
import Derived.Laws.LoneSync
import Derived.RegionTactic
import Derived.RegionCalls
import Derived.ChangeAlike
import Derived.Laws.NewBlocks
import Derived.Test.YtpmebahhjgkflaaGreatDoorB4
set_option maxHeartbeats 20000000
namespace Go.Proofs.YtpmebahhjgkflaaGreatDoor
open Go CF
set_option maxRecDepth 100000
section
variable {w u:World} {dv ps pw:Nat} {file:ByteArray} {kind n:Nat} {cache:Bool} {D D':Nat→Prop} {st st':Wst} {bs bs':List Bk} {m m':Nat} {F:Int→Bool}
def b0_ (ab:Nat) (R:A_→W_) (g:A_) (v:World):Prop:=ah_ Tryz.prog (storeVar ad_ ⟨ab,0,none⟩ (.agg g)) v fun w'=>∃res:A_,(loadVar ad_ ⟨ab,0,none⟩).run Tryz.prog w'=.ok (.agg res) w'∧R res w'
theorem fq_.hand {X:RsX×Wst} {R:A_→W_} {w3:World} {ab:Nat} (hR:fq_ w dv ps pw file kind n cache D m F X R) (g:ab_ w w3) (lD:∀k,D k→k<w.heap.size) (hab:w.heap.size≤ab) (hb:Blk w3 ab z10 ad_):fq_ w3 dv ps pw file kind n cache D m F X (b0_ ab R):=by
 intro u D' bs' d k hv hD ho
 have nab:¬D ab:=fun q=>by have:=lD _ q;omega
 have hbu:=k.heap hb nab
 have lab:=aw_ hb
 have nab2:¬D' ab:=fun q=>by
  rcases hD _ q with r|r
  ·exact nab r
  ·omega
 refine bL_ hbu rfl fun v' hk=>?_
 exact hR v' D' bs' d (tN_ ((g.mono fun _ _ q=>q.elim).trans k fun _ _ q=>q) hab hk) (hv.put' hbu nab2 hk) (p8_ g.size hD) ((ho.mono g.size).keep hk fun b hbb q=>be_ ho hbu d_ (by rw[hbb,q]))
def ni_ (b:Bool) (C:O_→A_→Sl→World→(A_→W_)→Prop) (X:(Int→Bool)→Nat→Nat→Bool→ByteArray→Wst→List Bk→Cm→L8→RsX×Wst):Prop:=
 ∀{w:World} {dv ps pw:Nat} {file:ByteArray} {kind n:Nat} {cache:Bool} {D:Nat→Prop} {st:Wst} {bs:List Bk} {m:Nat} {F:Int→Bool} {c:Cm} {p:Sl} {l:L8} {K:A_→W_},Dvq w dv ps pw file kind n cache D st bs m F→m≤400000000→Rd w 1 p (bv l)→p.n≤140737488351232→(∀v,aa_ D w v→Rd v 1 p (bv l))→(b=true→c.lba+c.blocks≤n)→
  fq_ w dv ps pw file kind n cache D m F (X F kind n cache file st bs c l) K→C (some ⟨dv,0,none⟩) (cmv c).toArray p w K
structure u5_ (k:Nat):Prop where
 read:k=7→∀{w:World} {dv ps pw:Nat} {file:ByteArray} {kind n:Nat} {cache:Bool} {D:Nat→Prop} {st:Wst} {bs:List Bk} {m:Nat} {F:Int→Bool} {c:Cm} {R:Sl→A_→Bool→W_},Dvq w dv ps pw file kind n cache D st bs m F→m≤600000000→c.lba+c.blocks≤n→
  (match nh_ F kind c.prot c.lba c.blocks st.ops ((bs.drop c.lba).take c.blocks) with
   | (.ok L,k)=>L=(bs.drop c.lba).take c.blocks→k=c.blocks→∀xs u,aa_ D w u→RdW w u pw D st k→Own u w.heap.size aG_ 19 xs (L.flatMap bc)→R xs (rsv 0 sn0 au_).toArray true u
   | (.error s,k)=>k≤c.blocks→∀u,aa_ D w u→RdW w u pw D st k→R au_ (rsv 2 s au_).toArray false u)→k3_ (some ⟨dv,0,none⟩) (cmv c).toArray w R
 write:k=8∨k=9→∀{w:World} {dv ps pw:Nat} {file:ByteArray} {kind n:Nat} {cache:Bool} {D:Nat→Prop} {st:Wst} {bs:List Bk} {m:Nat} {F:Int→Bool} {lba:Nat} {ls:Sl} {L:List Bk} {fua:Bool} {R:A_→W_},Dvq w dv ps pw file kind n cache D st bs m F→m≤600000000→lba+L.length≤n→(∀v,aa_ D w v→Rd v 19 ls (L.flatMap bc))→
  (∀u D' bs',aa_ D w u→Dvq u dv ps pw file kind n cache D' (f2_ F file cache st lba L fua).2 bs' (m+4097) F→(∀k,D' k→D k∨w.heap.size≤k)→R (rsv (f2_ F file cache st lba L fua).1.st (f2_ F file cache st lba L fua).1.sn au_).toArray u)→jS_ (some ⟨dv,0,none⟩) (lba:Int) ls fua w R
 verify:k=10→ni_ true jb_ fun F kind _ _ _ st bs c l=>n4_ F kind st bs c l
 same:k=12→ni_ true k4_ fun F kind n cache file st _ c l=>sx_ F kind n cache file st c l
 unmap:k=13→ni_ false (fun d _ p w K=>jT_ d p w K) fun F _ n cache file st _ _ l=>p6_ F n cache file st l
 compare:k=14→ni_ true iL_ fun F kind _ cache file st bs c l=>mU_ F kind cache file st bs c l
 cap:k=6→ni_ false (fun d c _ w K=>ia_ d c w K) fun _ kind n _ _ st _ c _=>(okX (xc_ kind n c),st)
theorem tP_ {c:Cm} {p:Sl} {l:L8} {R:A_→W_} (hN:u5_ c.kind) (h:Dvq w dv ps pw file kind n cache D st bs m F) (hm:m≤400000000) (hp:Rd w 1 p (bv l)) (hb:p.n≤140737488351232) (hpk:∀v,aa_ D w v→Rd v 1 p (bv l)) (hlb:c.lba<18446744073709551616) (hbl:c.blocks<18446744073709551616)
  (hR:fq_ w dv ps pw file kind n cache D m F (doX F kind n cache file st c l) R):hr_ (some ⟨dv,0,none⟩) (cmv c).toArray p w R:=by
 refine hx_.calls _ _ _ _ _ ?_
 have hsz:=h.size
 have hlen:=h.len
 have hfew:=h.few
 unfold doX at hR
 rw[u4_ h] at hR
 refine ag_ fun cb w0 hcb hb0 hg0 hsz0=>?_
 have hb0:Blk w0 cb (cmv c).toArray aD_:=hb0
 refine ag_ fun ab w1 hab hb1 hg1 hsz1=>?_
 have hb1:Blk w1 ab z10 ad_:=hb1
 have hgw1:=hg0.trans hg1
 have hc1:Blk w1 cb (cmv c).toArray aD_:=hg1.heap hb0 (fun q=>q)
 have hD1:=h.grow hgw1
 have cAt:∀{v:World} {i:Nat} {x:Value},ab_ w1 v→(cmv c).toArray[i]?=some x→v.cell? ((⟨cb,0,none⟩:Addr).add i)=some x:=fun g e=>by rw[aq_,Blk.cell (g.heap hc1 (fun q=>q)),Nat.zero_add];exact e
 have lD:=fun k (q:D k)=>h.isW.lt q
 have nab:¬D ab:=fun q=>by have:=lD _ q;omega
 have ncb:¬D cb:=fun q=>by have:=lD _ q;omega
 have sw:=hg0.size
 have hab':w.heap.size≤ab:=o_
 have fin:∀{X:RsX} {v:World},X.d = []→fq_ w dv ps pw file kind n cache D m F (X,st) R→ab_ w1 v→b0_ ab R (rsv X.st X.sn au_).toArray v:=fun {X v} e hR g=>bL_ (g.heap hb1 (fun q=>q)) rfl fun v' hk=>by
  have g2:=c6_ (hgw1.trans g) hab' hk
  exact hR.plain e (g2.mono fun _ _ q=>q.elim) (h.grow g2) o_ fun _ q=>.inl q
 refine⟨fun _=>rfl,some ⟨ps,0,none⟩,fun _=>pZ_ hD1.dev,aj_ rfl ?_⟩
 rintro w2 rfl
 have hg2:ab_ w1 w1.drew:=ak_ w1
 refine⟨fun v=>ab_ w1 v,hg2,rfl,(kind:Int),fun v hv=>uX_ (hD1.grow hv).dev,(c.prot:Int),fun v hv=>cAt hv rfl,ss_ ?_⟩
 by_cases hkn:lu_ kind c.prot=false
 ·rw[if_pos hkn] at hR
  exact am_ (by rw[hkn];rfl) (g0_ (s:=u0_) fun w3 hg3=>fin (X:=snX u0_) rfl hR (hg2.trans hg3))
 rw[if_neg hkn] at hR
 refine aj_ (by simp only[Bool.not_eq_false] at hkn;rw[hkn];rfl) ?_
 rintro w3 rfl
 have hg3:ab_ w1 w1.drew.drew:=hg2.trans (ak_ _)
 refine⟨fun v=>ab_ w1 v,hg3,(c.lba:Int),fun v hv=>cAt hv rfl,(c.blocks:Int),fun v hv=>cAt hv rfl,qZ_ (hD1.grow hg3) ⟨hg3,?_⟩⟩
 refine qW_ hlb hbl o_ ⟨hg3,fun v=>ab_ w1 v,hg3,fun _ q=>q,(c.kind:Int),fun _ v hv=>cAt hv rfl,fun v=>ab_ w1 v,hg3,fun _ q=>q,(c.kind:Int),fun _ v hv=>cAt hv rfl,?_⟩
 by_cases hin:c.kind≠13∧c.kind≠6∧n<c.lba+c.blocks
 ·rw[if_pos hin] at hR
  refine am_ (by rw[Bool.and_eq_true,Bool.and_eq_true,Bool.not_eq_true',decide_eq_false_iff_not,bne_iff_ne,bne_iff_ne];omega) ⟨(c.lba:Int),cAt hg3 rfl,rA_ (key:=5) fun w4 hg4=>fin (X:=snX (atS 5 0x2100 c.lba)) rfl hR (hg3.trans hg4)⟩
 rw[if_neg hin] at hR
 refine aj_ (by rw[Bool.and_eq_false_iff,Bool.and_eq_false_iff,Bool.not_eq_false',decide_eq_true_eq,bne_eq_false_iff_eq,bne_eq_false_iff_eq];omega) ⟨(c.kind:Int),cAt hg3 rfl,?_⟩
 generalize w1.drew.drew=w3 at *
 have hb3:Blk w3 ab z10 ad_:=hg3.heap hb1 (fun q=>q)
 have hc3:Blk w3 cb (cmv c).toArray aD_:=hg3.heap hc1 (fun q=>q)
 have cl:(loadVar aD_ ⟨cb,0,none⟩).run Tryz.prog w3=.ok (.agg (cmv c).toArray) w3:=lW_ (ar_ hc3)
 have hgw3:=hgw1.trans hg3
 have h3:=h.grow hgw3
 have p3:=hp.grow hgw3
 have s3:=hgw3.size
 have hand:∀{X:RsX×Wst},fq_ w dv ps pw file kind n cache D m F X R→fq_ w3 dv ps pw file kind n cache D m F X (b0_ ab R):=fun hR=>hR.hand hgw3 lD hab' hb3
 have after:∀{y:World} {X:RsX} {x2:Wst} {D2:Nat→Prop} {B2:List Bk} {m2:Nat},X.d = []→fq_ w3 dv ps pw file kind n cache D m F (X,x2) (b0_ ab R)→aa_ D w3 y→Dvq y dv ps pw file kind n cache D2 x2 B2 m2 F→m2≤m+9000→(∀k,D2 k→D k∨w3.heap.size≤k)→∀rb z,Blk z rb (rsv X.st X.sn au_).toArray ad_→ab_ y z→
   ∃g10:A_,(loadVar ad_ ⟨rb,0,none⟩).run Tryz.prog z=.ok (.agg g10) z∧b0_ ab R g10 z:=fun {y X x2 D2 B2 m2} e hR hky hdy hm2 hD2 rb z hbz hyz=>⟨_,kK_ (ar_ hbz),hR.plain e (hky.grow hyz) (hdy.grow hyz) hm2 hD2⟩
 refine cu_ (fun v=>v=w3∧c.kind≠7∧c.kind≠8∧c.kind≠9∧c.kind≠10∧c.kind≠11∧c.kind≠12∧c.kind≠13∧c.kind≠14∧c.kind≠6) ?_ (fun J=>?_)
 ·rintro v ⟨rfl,a1,a2,a3,a4,a5,a6,a7,a8,a9⟩
  rw[if_neg a1,if_neg o_,if_neg a4,if_neg a5,if_neg a6,if_neg a7,if_neg a8,if_neg a9] at hR
  exact g0_ (s:=u1_) fun w4 hg4=>fin (X:=snX u1_) rfl hR (hg3.trans hg4)
 refine as_ (fun k7=>⟨_,cl,?_⟩) (fun k7=>?_)
 ·have k7:c.kind=7:=o_
  have hlb7:c.lba+c.blocks≤n:=o_
  rw[if_pos k7] at hR
  refine hN.read k7 h3 o_ hlb7 ?_
  generalize nh_ F kind c.prot c.lba c.blocks st.ops ((bs.drop c.lba).take c.blocks)=Y at hR ⊢
  obtain⟨Y,k⟩:=Y
  cases Y with
  | ok L'=>
   rintro hL' rfl xs w4 hk4 hr4 hown4
   dsimp only at hR
   have hd4:=h3.reads hk4 hr4
   refine ag_ fun rb w5 hrb hb5 hg5 hsz5=>gw_ hb5 rfl fun w6 hb6 hk6 hsz6=>aj_ rfl ?_
   have hg46:ab_ w4 w6:=hg5.keep hk6 fun i hi q=>o_
   have hc6:Blk w6 cb (cmv c).toArray aD_:=hg46.heap (hk4.heap hc3 ncb) (fun q=>q)
   refine⟨(c.prot:Int),by rw[aq_,hc6.cell];rfl,?_⟩
   have ew:((c.prot:Int) != 0)=decide (c.prot≠0):=by rw[Bool.eq_iff_iff,bne_iff_ne,decide_eq_true_eq];omega
   rw[ew]
   have hown6:=hown4.grow hg46
   have hLl:L'.length≤4096:=by rw[hL',List.length_take,List.length_drop];omega
   refine tL_ (hown6.rd (by have:=hown6.len;rw[f1_] at this;omega)) hLl fun d w7 hown7 hg7=>os_ fun w8 hg8=>?_
   have s4:=hk4.size
   have s46:=hg46.size
   exact hand hR w8 D bs d (((hk4.grow hg46).grow hg7).grow hg8) ((((hd4.grow hg46).grow hg7).grow hg8).mono o_) (fun _ q=>.inl q) ((hown7.mono o_).grow hg8)
  | error s=>
   intro hkb w4 hk4 hr4
   dsimp only at hR
   have hd4:=h3.reads hk4 hr4
   refine ag_ fun rb w5 hrb hb5 hg5 hsz5=>gw_ hb5 rfl fun w6 hb6 hk6 hsz6=>am_ rfl ?_
   exact after (X:=snX s) rfl (hand hR) hk4 hd4 o_ (fun _ q=>.inl q) rb w6 hb6 (hg5.keep hk6 fun i hi q=>o_)
 rw[if_neg o_] at hR
 refine bc_ (fun(x:Bool) v=>v=w3∧(x=true↔(c.kind=8∨c.kind=9))) ?_ (fun J1=>as_ (fun k8=>J1 _ _ ⟨rfl,by rw[beq_iff_eq];omega⟩) (fun k8=>J1 _ _ ⟨rfl,by rw[beq_iff_eq];omega⟩))
 rintro x v ⟨rfl,hx⟩
 by_cases k89:c.kind=8∨c.kind=9
 ·rw[if_pos k89] at hR
  refine am_ (hx.2 k89) ⟨_,cl,(c.blocks:Int),by rw[aq_,hc3.cell];rfl,?_⟩
  have hlb8:c.lba+c.blocks≤n:=o_
  refine p7_ (N:=c.blocks) h3.dev p3 hb o_ o_ ?_
  generalize lY_ kind c l c.blocks=X at hR ⊢
  cases X with
  | error s=>
   intro y hy
   dsimp only at hR
   refine ag_ fun rb w5 hrb hb5 hg5 hsz5=>gw_ hb5 rfl fun w6 hb6 hk6 hsz6=>am_ rfl ?_
   exact after (X:=snX s) rfl (hand hR) (hy.mono fun _ _ q=>q.elim) (h3.grow hy) o_ (fun _ q=>.inl q) rb w6 hb6 (hg5.keep hk6 fun i hi q=>o_)
  | ok L=>
   intro hL xs y hy hown
   dsimp only at hR
   refine ag_ fun rb w5 hrb hb5 hg5 hsz5=>gw_ hb5 rfl fun w6 hb6 hk6 hsz6=>aj_ rfl ?_
   have hyz:ab_ y w6:=hg5.keep hk6 fun i hi q=>o_
   have hvz:=hy.trans hyz
   have hcz:Blk w6 cb (cmv c).toArray aD_:=hvz.heap hc3 (fun q=>q)
   refine⟨(c.lba:Int),by rw[aq_,hcz.cell];rfl,c.fua,by rw[aq_,hcz.cell];rfl,(c.kind:Int),fun _=>by rw[aq_,hcz.cell];rfl,?_⟩
   have e9:((c.kind:Int)==9)=decide (c.kind=9):=by
    rw[Bool.eq_iff_iff,beq_iff_eq,decide_eq_true_eq];omega
   rw[e9]
   have hz:=h3.grow hvz
   have svz:=hvz.size
   have eD:(f2_ F file cache st c.lba L (c.fua||decide (c.kind=9))).1.d = []:=by unfold f2_ lv_;split<;>rfl
   refine hN.write k89 (L:=L) hz o_ o_ (fun z' hk'=>?_) fun z2 D2 B2 hk2 hd2 hD2=>?_
   ·have ho:Own z' v.heap.size aG_ 19 xs (L.flatMap bc):=(hown.grow hyz).keep hk' fun b hbb q=>by
     have:=((hown.grow hyz).ge b hbb).1
     have:=lD _ q
     omega
    exact ho.rd (by have:=ho.len;rw[f1_] at this;omega)
   ·exact(hand hR).plain eD ((hvz.mono fun _ _ q=>q.elim).trans hk2 fun _ _ q=>q) hd2 o_ (p8_ svz hD2)
 rw[if_neg k89] at hR
 refine aj_ (by cases hxx:x with|false=>rfl|true=>exact absurd (hx.1 hxx) k89) ?_
 have hpk3:∀z,aa_ D v z→Rd z 1 p (bv l):=fun z k=>hpk z ((hgw3.mono fun _ _ q=>q.elim).trans k fun _ _ q=>q)
 refine as_ (fun k=>⟨_,cl,?_⟩) (fun k10=>as_ (fun k=>?_) (fun k11=>as_ (fun k=>⟨_,cl,?_⟩) (fun k12=>as_ (fun k=>?_) (fun k13=>as_ (fun k=>⟨_,cl,?_⟩) (fun k14=>as_ (fun k=>⟨_,cl,?_⟩) (fun k6=>J v ⟨rfl,o_,o_,o_,o_,o_,o_,o_,o_,o_⟩))))))
 ·rw[if_pos o_] at hR
  exact hN.verify o_ h3 hm p3 hb hpk3 (fun _=>o_) (hand hR)
 ·rw[if_neg o_,if_pos o_] at hR
  refine⟨rfl,some ⟨ps,0,none⟩,pZ_ h3.dev,?_⟩
  refine n1_ h3.isS h3.nps h3.isW h.ok o_ o_ (fun hfl y D2 hk2 hw2 hD2 hS2=>aj_ rfl (os_ fun z hz=>?_)) (fun hfl y hk2 hw2 hS2=>am_ rfl (g0_ (s:=wfS) fun z hz=>?_))
  ·rw[if_neg (by rw[hfl];exact Bool.noConfusion)] at hR
   have hdy:Dvq y dv ps pw file kind n cache D2 (f0_ st) bs (m+1) F:=h3.step hk2 hw2 hD2 (fun c q=>by cases q) h.tells h.len ⟨by show st.ops+1≤_;omega,Nat.zero_le _⟩
   exact(hand hR).plain rfl (hk2.grow hz) (hdy.grow hz) o_ hD2
  ·rw[if_pos hfl] at hR
   have hdy:Dvq y dv ps pw file kind n cache D (more st 1) bs (m+1) F:=h3.step hk2 hw2 (fun _ q=>.inl q) h.ok h.tells h.len ⟨by show st.ops+1≤_;omega,by show st.waits.length≤_;omega⟩
   exact(hand hR).plain rfl (hk2.grow hz) (hdy.grow hz) o_ fun _ q=>.inl q
 ·rw[if_neg o_,if_neg o_,if_pos o_] at hR
  exact hN.same o_ h3 hm p3 hb hpk3 (fun _=>o_) (hand hR)
 ·rw[if_neg o_,if_neg o_,if_neg o_,if_pos o_] at hR
  exact hN.unmap o_ (c:=c) h3 hm p3 hb hpk3 (fun q=>by cases q) (hand hR)
 ·rw[if_neg o_,if_neg o_,if_neg o_,if_neg o_,if_pos o_] at hR
  exact hN.compare o_ h3 hm p3 hb hpk3 (fun _=>o_) (hand hR)
 ·rw[if_neg o_,if_neg o_,if_neg o_,if_neg o_,if_neg o_,if_pos o_] at hR
  exact hN.cap o_ (p:=p) (l:=l) h3 hm p3 hb hpk3 (fun q=>by cases q) (hand hR)
end
open Go CF
def s4:L8:=[83,76,79,84]
def de_ (g:Nat) (p:L8):L8:=s4++beN 8 g++beN 4 p.length++p
def bw_ (g:Nat) (p:L8):L8:=de_ g p++beN 4 (c32 (de_ g p))
theorem gJ_ (g:Nat) (p:L8):(de_ g p).length=16+p.length:=by simp[de_,s4,bg_];omega
theorem hh_ (g:Nat) (p:L8):(bw_ g p).length=20+p.length:=by simp[bw_,gJ_,bg_];omega
theorem wk_ (c:Nat):beN 4 c = [UInt8.ofNat (c/2 ^ 24),UInt8.ofNat (c/2 ^ 16),UInt8.ofNat (c/2 ^ 8),UInt8.ofNat c]:=by
 simp[beN]
theorem xR_ (g:Nat):lay (s4++List.replicate 12 0) 4 8 g=s4++beN 8 g++List.replicate 4 0:=rfl
theorem xS_ (g n:Nat):lay (s4++beN 8 g++List.replicate 4 0) 12 4 n=s4++beN 8 g++beN 4 n:=by
 simp[lay,s4,beN]
theorem fe_ {w:World} {base:Nat} {e:TypeId} {s:Sl} {l:L8} (h:Own w base e 1 s (bv l)):s.n=l.length:=by have:=h.len;rw[az_] at this;omega
theorem u6_ {w:World} {s:Sl} {l:L8} (h:Rd w 1 s (bv l)):l.length=s.n:=by have:=h.len;rw[az_] at this;omega
theorem p9_ {w u u':World} {base:Nat} {e:TypeId} {z:Nat} {s:Sl} {vs:List Value} (hg:ab_ w u) (ho:Own u base e z s vs) (hb:w.heap.size≤base) (hk:aa_ (fun k=>some k=s.blk) u u'):ab_ w u':=
 hg.keep hk fun i hi q=>by have:=(ho.ge i q.symm).1;omega
theorem mb_ {p:Sl} {l:L8} {g:Nat} {w:World} {R:Sl→Int→W_} (hp:Rd w 1 p (bv l)) (hg:g<18446744073709551616)
  (h1:4096<l.length→R ⟨none,0,0⟩ 2 w) (h2:l.length≤4096→∀s w',Own w' w.heap.size ae_ 1 s (bv (bw_ g l))→ab_ w w'→s.n=20+l.length→R s 0 w'):h6_ (g:Int) p w R:=by
 refine gh_.calls _ _ _ _ ?_
 have hln:=u6_ hp
 refine a2_ (fun q=>h1 o_) (fun q=>?_)
 have hle:l.length≤4096:=o_
 refine⟨⟨some ⟨w.heap.size,0,none⟩,4,4⟩,w.alloc (.cells (bv s4).toArray ae_),k_,⟨some ⟨w.heap.size,0,none⟩,4,4⟩,_,Go.Lib.run_convert_bytes_const w bn_ ae_ _ 4 4 aX_ jU_,?_⟩
 have hg0:ab_ w (w.alloc (.cells (bv s4).toArray ae_ ((bv s4).toArray.size,(bv s4).toArray.size+1))):=dh_ w _
 have hrd0:Rd (w.alloc (.cells (bv s4).toArray ae_ ((bv s4).toArray.size,(bv s4).toArray.size+1))) 1 ⟨some ⟨w.heap.size,0,none⟩,4,4⟩ (bv s4):=by
  refine⟨rfl,Nat.le_refl _,by show 4≤_;decide,fun _=>⟨_,rfl,fun j v hj=>?_⟩⟩
  rw[aq_,Nat.zero_add]
  unfold World.cell?
  simp only[World.alloc,Array.getElem?_push,if_true]
  simpa using hj
 generalize w.alloc (.cells (bv s4).toArray ae_ ((bv s4).toArray.size,(bv s4).toArray.size+1))=w0 at *
 refine ib_ (s:=⟨some ⟨w.heap.size,0,none⟩,4,4⟩) (k:=12) (base:=w.heap.size) aX_ na_ bE_ rfl hrd0 (by show 4<4+12;decide) d_ (by show 4+12≤_;decide) hg0.size fun s1 w1 hn1 hown1 hg1 _=>?_
 have hrep:(List.replicate 12 (Value.int .u8 0))=bv (List.replicate 12 0):=by simp[bv]
 rw[hrep,←b3_] at hown1
 have hn1:s1.n=16:=hn1
 refine mR_ (at_:=4) (n:=8) (hown1.rd o_) o_ d_ d_ d_ hg fun s2 w2 hown2 hg2=>?_
 rw[xR_] at hown2
 have hn2:s2.n=16:=fe_ hown2
 have e1:IntKind.wrap .u64 (p.n:Int)=((l.length:Nat):Int):=by rw[h3_ o_ o_,hln]
 rw[e1]
 refine mR_ (at_:=12) (n:=4) (hown2.rd o_) o_ d_ d_ (by simp[s4,bg_]) o_ fun s3 w3 hown3 hg3=>?_
 rw[xS_] at hown3
 have hn3:s3.n=16:=fe_ hown3
 have hgw3:ab_ w w3:=((hg0.trans hg1).trans hg2).trans hg3
 have hgw2:ab_ w w2:=(hg0.trans hg1).trans hg2
 have hown3:=Own.mono (base':=w.heap.size) hown3 hgw2.size
 refine aZ_ aX_ bE_ rfl d_ d_ hown3 (hp.grow hgw3) (dg_ _) (by rw[hn3];omega) hgw3.size fun s5 w4 hn4 hown4 hk4 _=>?_
 have hgw4:=p9_ hgw3 hown3 (Nat.le_refl _) hk4
 rw[←b3_] at hown4
 have hown4:Own w4 w.heap.size ae_ 1 s5 (bv (de_ g l)):=hown4
 have hn5:s5.n=16+l.length:=by rw[fe_ hown4,gJ_]
 refine ls_ (hown4.rd o_) ?_
 rw[shr .u32 _ 24 d_,shr .u32 _ 16 d_,shr .u32 _ 8 d_,bt_,bt_,bt_,bt_]
 refine aN_ (cells:=(bv (beN 4 (c32 (de_ g l)))).toArray) (e:=ae_) (z:=1) (base:=w.heap.size) (by rw[wk_];kernel_rfl) (by simp[az_,bg_]) d_ hgw4.size fun w5 hlit5 hg5 _=>?_
 refine aZ_ aX_ bE_ rfl d_ d_ (hown4.grow hg5) (hlit5.rd (by show 4≤_;decide)) (by simpa using dg_ (beN 4 (c32 (de_ g l)))) (by rw[hn5];show(16+l.length+4)*1≤_;omega) (hgw4.trans hg5).size fun s6 w6 hn6 hown6 hk6 _=>?_
 have hgw6:=p9_ (hgw4.trans hg5) (hown4.grow hg5) (Nat.le_refl _) hk6
 have e2:(bv (beN 4 (c32 (de_ g l)))).toArray.toList=bv (beN 4 (c32 (de_ g l))):=rfl
 rw[e2,←b3_] at hown6
 exact h2 hle s6 w6 hown6 hgw6 (by rw[hn6,hn5];show 16+l.length+4=_;omega)
def bV_ (l:L8):Nat×L8×Nat:=
 if l.length<20∨l.take 4≠s4 then(0,[],3)
 else if 4096<num ((l.drop 12).take 4)∨l.length<20+num ((l.drop 12).take 4) then(0,[],3)
 else if num ((l.drop (16+num ((l.drop 12).take 4))).take 4)≠c32 (l.take (16+num ((l.drop 12).take 4))) then(0,[],5)
 else(num ((l.drop 4).take 8),(l.drop 16).take (num ((l.drop 12).take 4)),0)
theorem wl_ {l:L8} (h20:¬l.length<20) (hs:l.take 4=s4):bV_ l =
  if 4096<num ((l.drop 12).take 4)∨l.length<20+num ((l.drop 12).take 4) then(0,[],3)
  else if num ((l.drop (16+num ((l.drop 12).take 4))).take 4)≠c32 (l.take (16+num ((l.drop 12).take 4))) then(0,[],5)
  else(num ((l.drop 4).take 8),(l.drop 16).take (num ((l.drop 12).take 4)),0):=by
 unfold bV_
 rw[if_neg (fun q=>q.elim (fun q=>absurd q h20) (fun q=>q hs))]
theorem tQ_:ts_=str s4:=d_
theorem ic_ {p:Sl} {l:L8} {w:World} {R:Int→Sl→Int→W_} (hp:Rd w 1 p (bv l))
  (h:∀s w',Own w' w.heap.size ae_ 1 s (bv (bV_ l).2.1)→ab_ w w'→R (((bV_ l).1:Nat):Int) s (((bV_ l).2.2:Nat):Int) w'):h5_ p w R:=by
 refine gg_.calls _ _ _ ?_
 have hln:=u6_ hp
 have hnb:=hp.nb
 have hcap:=hp.cap
 by_cases h20:l.length<20
 ·have hd:decide ((p.n:Int)<20)=true:=decide_eq_true o_
  have e:bV_ l=(0,[],3):=by unfold bV_;rw[if_pos (.inl h20)]
  rw[e] at h
  exact⟨fun q=>(by rw[hd] at q;cases q),⟨#[]⟩,fun q=>(by rw[hd] at q;cases q),am_ (by rw[hd];rfl) (h _ w (aH_ _ _ _ _) (aa_.refl _ _))⟩
 have hd:decide ((p.n:Int)<20)=false:=decide_eq_false o_
 have hx:Rd w 1 ⟨aM_ p.A p.c 0 1,4-0,p.c-0⟩ (bv (l.take 4)):=hp.cutB (l:=0) (k:=4) d_ o_
 refine⟨fun _=>⟨d_,d_,o_,hcap⟩,str (l.take 4),fun _=>gM_ (s:=⟨aM_ p.A p.c 0 1,4-0,p.c-0⟩) aX_ jU_ hc_ hx,?_⟩
 rw[tQ_,rq_,hd,Bool.false_or]
 by_cases hs:l.take 4=s4
 case neg=>
  have e:bV_ l=(0,[],3):=by unfold bV_;rw[if_pos (.inr hs)]
  rw[e] at h
  exact am_ (by rw[decide_eq_false hs];rfl) (h _ w (aH_ _ _ _ _) (aa_.refl _ _))
 refine aj_ (by rw[decide_eq_true hs];rfl) ?_
 refine gu_ (at_:=4) (n:=8) hp hnb d_ d_ o_ ?_
 refine gu_ (at_:=12) (n:=4) hp hnb d_ d_ o_ ?_
 have hn4:num ((l.drop 12).take 4)<4294967296:=uO_ _ (by simp;omega)
 have hN:=wl_ h20 hs
 generalize hn:num ((l.drop 12).take 4)=n at *
 have e1:IntKind.wrap .i64 ((n:Nat):Int)=(n:Int):=w64 o_ o_
 have e2:IntKind.wrap .i64 ((p.n:Int)-20)=(p.n:Int)-20:=w64 o_ o_
 rw[e1,e2]
 by_cases hlong:4096<n∨l.length<20+n
 ·rw[if_pos hlong] at hN
  rw[hN] at h
  exact am_ (by rw[Bool.or_eq_true,decide_eq_true_eq,decide_eq_true_eq];omega) (h _ w (aH_ _ _ _ _) (aa_.refl _ _))
 rw[if_neg hlong] at hN
 refine aj_ (by rw[Bool.or_eq_false_iff,decide_eq_false_iff_not,decide_eq_false_iff_not];omega) ?_
 have e3:IntKind.wrap .i64 (16+(n:Int))=((16+n:Nat):Int):=by rw[w64 o_ o_];omega
 have e4:IntKind.wrap .u64 (16+(n:Int))=((16+n:Nat):Int):=by rw[h3_ o_ o_];omega
 rw[e3,e4]
 refine gu_ (at_:=16+n) (n:=4) hp hnb d_ d_ o_ ?_
 have hc4:num ((l.drop (16+n)).take 4)<4294967296:=uO_ _ (by simp;omega)
 simp only[Int.toNat_natCast,Nat.sub_zero]
 refine⟨⟨d_,o_,o_,hcap⟩,?_⟩
 have hy:=hp.cutB (l:=0) (k:=16+n) o_ o_
 simp only[List.drop_zero,Nat.sub_zero] at hy
 refine ls_ hy ?_
 rw[jz_ (n:=((num ((l.drop (16+n)).take 4):Nat):Int)) o_ o_]
 by_cases hc:num ((l.drop (16+n)).take 4)=c32 (l.take (16+n))
 case neg=>
  rw[if_pos hc] at hN
  rw[hN] at h
  exact hp_ (fun _=>h _ w (aH_ _ _ _ _) (aa_.refl _ _)) (fun q=>absurd o_ hc)
 rw[if_neg (by simpa using hc)] at hN
 rw[hN] at h
 refine hp_ (fun q=>absurd (by rw[hc]) q) (fun _=>⟨⟨d_,o_,o_,hcap⟩,?_⟩)
 have hz:=hp.cutB (l:=16) (k:=16+n) o_ o_
 rw[show 16+n-16=n by omega] at hz ⊢
 refine aZ_ (s:=⟨none,0,0⟩) (vs:=[]) (base:=w.heap.size) aX_ bE_ rfl d_ d_ (aH_ _ _ _ _) hz (dg_ _) (by show(0+n)*1≤_;omega) (Nat.le_refl _) fun s1 w1 hn1 hown1 hk1 _=>?_
 rw[List.nil_append] at hown1
 exact h s1 w1 hown1 (hk1.mono fun i hi q=>by cases q)
theorem u7_ {g:Nat} {p q:L8} (hg:g<18446744073709551616) (hp:p.length≤4096):bV_ (bw_ g p++q)=(g,p,0):=by
 have hl:20≤(bw_ g p++q).length:=by rw[List.length_append,hh_];omega
 have h4:(bw_ g p++q).take 4=s4:=by simp[bw_,de_,s4]
 have hb8:beN 8 g=beN 8 g:=rfl
 have hlen8:=bg_ 8 g
 have hlen4:=bg_ 4 p.length
 have hA:bw_ g p++q=s4++(beN 8 g++(beN 4 p.length++(p++(beN 4 (c32 (de_ g p))++q)))):=by simp[bw_,de_]
 have d4:(bw_ g p++q).drop 4=beN 8 g++(beN 4 p.length++(p++(beN 4 (c32 (de_ g p))++q))):=by rw[hA];rfl
 have d12:(bw_ g p++q).drop 12=beN 4 p.length++(p++(beN 4 (c32 (de_ g p))++q)):=by
  have:(bw_ g p++q).drop 12=((bw_ g p++q).drop 4).drop 8:=by rw[List.drop_drop]
  rw[this,d4,List.drop_append,List.drop_of_length_le o_,hlen8];rfl
 have d16:(bw_ g p++q).drop 16=p++(beN 4 (c32 (de_ g p))++q):=by
  have:(bw_ g p++q).drop 16=((bw_ g p++q).drop 12).drop 4:=by rw[List.drop_drop]
  rw[this,d12,List.drop_append,List.drop_of_length_le o_,hlen4];rfl
 have hn:num (((bw_ g p++q).drop 12).take 4)=p.length:=by
  rw[d12,List.take_append_of_le_length o_,List.take_of_length_le o_,fJ_ o_]
 have hgn:num (((bw_ g p++q).drop 4).take 8)=g:=by
  rw[d4,List.take_append_of_le_length o_,List.take_of_length_le o_,fJ_ o_]
 have hh:(bw_ g p++q).take (16+p.length)=de_ g p:=by
  rw[bw_,List.append_assoc,List.take_append_of_le_length (by rw[gJ_];omega),List.take_of_length_le (by rw[gJ_];omega)]
 have hcc:((bw_ g p++q).drop (16+p.length)).take 4=beN 4 (c32 (de_ g p)):=by
  rw[bw_,List.append_assoc,List.drop_append,List.drop_of_length_le (by rw[gJ_];omega),gJ_,Nat.sub_self,List.nil_append,List.drop_zero,List.take_append_of_le_length (by rw[bg_];omega),List.take_of_length_le (by rw[bg_];omega)]
 have hcl:=w3_ (de_ g p)
 unfold bV_
 rw[if_neg (fun q=>q.elim (fun q=>absurd q o_) (fun q=>q h4)),hn,if_neg (by rw[List.length_append,hh_];omega),hcc,hh,fJ_ o_,if_neg (by simp),hgn,d16,List.take_append_of_le_length o_,List.take_of_length_le o_]
open Go CF
def wm_ (pw:Nat) (file:ByteArray) (sure:Bool) (at_:Int) (gen:Nat):A_:=#[.pointer (some ⟨pw,0,none⟩),.string file,.bool sure,.int .i64 at_,.int .u64 (gen:Int)]
abbrev bS_ (w:World) (ss pw:Nat) (file:ByteArray) (sure:Bool) (at_:Int) (gen:Nat):Prop:=Blk w ss (wm_ pw file sure at_ gen) eN_
theorem nj_ {w:World} {pw:Nat} {file:ByteArray} {R:O_→Int→W_} (hs:1≤file.size∧file.size≤30)
  (h:∀ss w',ss=w.heap.size→ab_ w w'→bS_ w' ss pw file false (-1) 0→R (some ⟨ss,0,none⟩) 0 w'):jB_ (some ⟨pw,0,none⟩) file w R:=by
 refine hw_.calls _ _ _ _ ?_
 refine aj_ (by rw[Bool.or_eq_false_iff,decide_eq_false_iff_not,decide_eq_false_iff_not];omega) (aj_ rfl ?_)
 exact ag_ fun ss w1 hss hb1 hg1 _=>h ss w1 hss hg1 hb1
def nmS (file:ByteArray) (i:Nat):ByteArray:=(file++lP_)++str [UInt8.ofNat (48+i)]
theorem mV_ (file:ByteArray) (i:Nat):(nmS file i).size=file.size+2:=by
 unfold nmS
 rw[ByteArray.size_append,ByteArray.size_append,mB_];rfl
theorem jp_ (a b:ByteArray):ls (a++b)=ls a++ls b:=by
 show(a++b).data.toList=_
 rw[ByteArray.data_append,Array.toList_append];rfl
theorem xd_ (file:ByteArray):nmS file 0≠nmS file 1:=fun q=>by
 have:=congrArg ls q
 unfold nmS at this
 rw[jp_,jp_] at this
 have:=List.append_cancel_left this
 exact absurd this d_
theorem jI_ {w:World} {ss pw:Nat} {file:ByteArray} {sure:Bool} {at_:Int} {gen:Nat} {i:Nat} {R:ByteArray→W_} (hS:bS_ w ss pw file sure at_ gen) (hf:file.size≤30) (hi:i<10)
  (h:∀w',ab_ w w'→R (nmS file i) w'):dU_ (some ⟨ss,0,none⟩) (i:Int) w R:=by
 refine d9_.calls _ _ _ _ ?_
 rintro w0 rfl
 have hg0:ab_ w w.drew:=ak_ w
 have e0:lP_.size=1:=d_
 refine⟨fun u=>bS_ u ss pw file sure at_ gen,hg0.heap hS (fun q=>q),rfl,file,fun u hu=>by rw[gA,aq_,Blk.cell hu];rfl,o_,?_⟩
 have e1:IntKind.wrap .u8 (IntKind.wrap .i64 (48+(i:Int)))=((UInt8.ofNat (48+i)).toNat:Int):=by
  rw[w64 o_ o_,show(48:Int)+(i:Int)=((48+i:Nat):Int) by omega,bt_]
 rw[e1]
 refine aN_ (cells:=(bv [UInt8.ofNat (48+i)]).toArray) (e:=ae_) (z:=1) (base:=0) k_ rfl d_ (Nat.zero_le _) fun w1 hlit1 hg1 _=>⟨(hg0.trans hg1).heap hS (fun q=>q),?_⟩
 have hrd:Rd w1 1 ⟨some ⟨w.drew.heap.size,0,none⟩,1,1⟩ (bv [UInt8.ofNat (48+i)]):=hlit1.rd (by show 1≤_;decide)
 refine⟨fun u=>Rd u 1 ⟨some ⟨w.drew.heap.size,0,none⟩,1,1⟩ (bv [UInt8.ofNat (48+i)])∧bS_ u ss pw file sure at_ gen,⟨hrd,(hg0.trans hg1).heap hS (fun q=>q)⟩,fun u hu=>hu.2,str [UInt8.ofNat (48+i)],
  fun u hu=>gM_ (s:=⟨some ⟨w.drew.heap.size,0,none⟩,1,1⟩) aX_ jU_ hc_ hu.1,?_,h w1 (hg0.trans hg1)⟩
 rw[ByteArray.size_append,mB_,e0]
 show file.size+1+1≤_
 omega
def cb_ (x:Int×Nat×L8) (i:Nat) (l:L8):Int×Nat×L8:=if (bV_ l).2.2=0∧(x.1<0∨x.2.1<(bV_ l).1) then((i:Int),(bV_ l).1,(bV_ l).2.1) else x
def bf_ (F:a7_) (file:ByteArray) (i:Nat):L8:=((F (nmS file i)).getD []).take 4116
def ldN (F:a7_) (file:ByteArray):Nat→Int×Nat×L8
 | 0=>(-1,0,[])
 | k+1=>cb_ (ldN F file k) k (bf_ F file k)
theorem mW_ {F:a7_} {file:ByteArray}:∀{k:Nat},(ldN F file k).1<0→ldN F file k=(-1,0,[])
 | 0,_=>rfl
 | k+1,h=>by
  simp only[ldN] at h ⊢
  unfold cb_ at h ⊢
  split
  ·rename_i q
   rw[if_pos q] at h
   simp only at h
   omega
  ·rename_i q
   rw[if_neg q] at h
   exact mW_ h
theorem nk_ {w:World} {ss pw:Nat} {D:Nat→Prop} {st:Wst} {cs:A_} {o:Nat} {v:Value} (hS:Blk w ss cs eN_) (hps:¬D ss) (hw:IsW w pw D st) (ho:o<cs.size) (hv:v.oneCell'=true) {K:W_}
  (h:∀u,Blk u ss (cs.setIfInBounds o v) eN_→IsW u pw D st→aa_ (fun k=>k=ss) w u→K u):Put ⟨ss,o,none⟩ v w K:=
 a0_ hS ho hv fun u hb hk _=>h u hb (hw.keep hk (fun k hk' q=>hps (q▸hk')) (fun g cur hg q=>by subst q;exact absurd (bq_ hS hg) d_)) hk
theorem nl_ {w:World} {ss pw:Nat} {D:Nat→Prop} {st:Wst} {file:ByteArray} {sure:Bool} {at_:Int} {gen:Nat} {R:Sl→Int→Int→W_} (hS:bS_ w ss pw file sure at_ gen) (hps:¬D ss) (hw:IsW w pw D st)
  (hf:1≤file.size∧file.size≤30) (ho:st.ops<100000000000)
  (h:∀best u,aa_ (fun k=>D k∨k=ss) w u→IsW u pw D {st with ops:=st.ops+2}→bS_ u ss pw file true (ldN st.seen file 2).1 (ldN st.seen file 2).2.1→Own u w.heap.size ae_ 1 best (bv (ldN st.seen file 2).2.2)→
   R best (((ldN st.seen file 2).2.1:Nat):Int) (if (ldN st.seen file 2).1<0 then 8 else 0) u):cK_ (some ⟨ss,0,none⟩) w R:=by
 refine cN_.calls _ _ _ ?_
 refine aj_ rfl ⟨rfl,?_⟩
 rw[gA,aq_]
 have lss:=aw_ hS
 refine nk_ hS hps hw (by show 2<5;decide) rfl fun w0 hS0 hw0 hk0=>?_
 have hS0:bS_ w0 ss pw file false at_ gen:=hS0
 refine⟨fun best a m x u=>∃j:Nat,x=j∧j≤2∧a=(ldN st.seen file j).1∧m=(((ldN st.seen file j).2.1:Nat):Int)∧aa_ (fun k=>D k∨k=ss) w u∧IsW u pw D {st with ops:=st.ops+j}∧bS_ u ss pw file false at_ gen∧
   Own u w.heap.size ae_ 1 best (bv (ldN st.seen file j).2.2),fun _ _ _ x _=>2-x.toNat,⟨0,rfl,d_,rfl,rfl,hk0.mono fun _ _ q=>.inr q,hw0,hS0,aH_ _ _ _ _⟩,?_⟩
 rintro best a m x w1 ⟨j,rfl,hj,rfl,rfl,hk1,hw1,hS1,hown1⟩
 have s1:=hk1.size
 refine a2_ (fun hlt=>?_) (fun hge=>?_)
 ·rintro w2 rfl
  have hg2:ab_ w1 w1.drew:=ak_ w1
  refine⟨fun u=>bS_ u ss pw file false at_ gen,hg2.heap hS1 (fun q=>q),rfl,some ⟨pw,0,none⟩,fun u hu=>by rw[aq_,Blk.cell hu];rfl,?_⟩
  refine jI_ (hg2.heap hS1 (fun q=>q)) hf.2 o_ fun w3 hg3=>⟨(hg2.trans hg3).heap hS1 (fun q=>q),?_⟩
  have hg13:=hg2.trans hg3
  refine nd_ (off:=0) (n:=4116) (hw1.grow hg13) (by rw[mV_];omega) d_ d_ (by show st.ops+j<_;omega) fun s w4 hk4 hw4 hown4 hsn=>?_
  have hown4:Own w4 w3.heap.size ae_ 1 s (bv (bf_ st.seen file j)):=hown4
  refine aj_ (by
   show(_&&_)=false
   cases (st.seen (nmS file j)).isSome<;>rfl) ?_
  have nDown:∀b,best.blk=some b→¬D b:=fun b hb q=>by
   have h1:=(hown1.ge b hb).1
   have h2:=hw.lt q
   omega
  have hown1':Own w4 w.heap.size ae_ 1 best (bv (ldN st.seen file j).2.2):=(hown1.grow hg13).keep hk4 nDown
  have hS4:bS_ w4 ss pw file false at_ gen:=hk4.heap (hg13.heap hS1 (fun q=>q)) hps
  have hk14:aa_ (fun k=>D k∨k=ss) w w4:=(hk1.grow hg13).trans hk4 fun _ _ q=>.inl q
  refine ic_ (hown4.rd o_) fun s5 w5 hown5 hg5=>?_
  have fin:∀(b:Sl) (a:Int) (m:Int),a=(ldN st.seen file (j+1)).1→m=(((ldN st.seen file (j+1)).2.1:Nat):Int)→Own w5 w.heap.size ae_ 1 b (bv (ldN st.seen file (j+1)).2.2)→
    (∃j_1:Nat,IntKind.wrap .i64 ((j:Int)+1)=j_1∧j_1≤2∧a=(ldN st.seen file j_1).1∧m=(((ldN st.seen file j_1).2.1:Nat):Int)∧aa_ (fun k=>D k∨k=ss) w w5∧IsW w5 pw D {st with ops:=st.ops+j_1}∧bS_ w5 ss pw file false at_ gen∧
     Own w5 w.heap.size ae_ 1 b (bv (ldN st.seen file j_1).2.2))∧2-(IntKind.wrap .i64 ((j:Int)+1)).toNat<2-(j:Int).toNat:=fun b a m ha hm hb=>by
   rw[w64 o_ o_]
   exact⟨⟨j+1,o_,o_,ha,hm,hk14.grow hg5,hw4.grow hg5,hg5.heap hS4 (fun q=>q),hb⟩,o_⟩
  have hE:ldN st.seen file (j+1)=cb_ (ldN st.seen file j) j (bf_ st.seen file j):=rfl
  generalize ldN st.seen file (j+1)=L1 at *
  by_cases q:(bV_ (bf_ st.seen file j)).2.2=0∧((ldN st.seen file j).1<0∨(ldN st.seen file j).2.1<(bV_ (bf_ st.seen file j)).1)
  ·rw[cb_,if_pos q] at hE
   refine am_ ?_ (fin _ _ _ (by rw[hE]) (by rw[hE]) (by rw[hE];exact hown5.mono (by have:=hk14.size;omega)))
   rw[Bool.and_eq_true,Bool.or_eq_true,beq_iff_eq,decide_eq_true_eq,decide_eq_true_eq]
   omega
  ·rw[cb_,if_neg q] at hE
   refine aj_ ?_ (fin _ _ _ (by rw[hE]) (by rw[hE]) (by rw[hE];exact hown1'.grow hg5))
   rw[Bool.and_eq_false_iff,Bool.or_eq_false_iff,beq_eq_false_iff_ne,decide_eq_false_iff_not,decide_eq_false_iff_not]
   omega
 ·have hj2:j=2:=o_
  subst hj2
  refine⟨rfl,?_⟩
  rw[aq_]
  refine nk_ hS1 hps hw1 (by show 3<5;decide) rfl fun w2 hS2 hw2 hk2=>⟨rfl,?_⟩
  rw[aq_]
  refine nk_ hS2 hps hw2 (by show 4<5;decide) rfl fun w3 hS3 hw3 hk3=>⟨rfl,?_⟩
  refine nk_ hS3 hps hw3 (by show 2<5;decide) rfl fun w4 hS4 hw4 hk4=>?_
  have hS4:bS_ w4 ss pw file true (ldN st.seen file 2).1 (ldN st.seen file 2).2.1:=hS4
  have hkf:aa_ (fun k=>k=ss) w1 w4:=(hk2.trans hk3 fun _ _ q=>q).trans hk4 fun _ _ q=>q
  have hk14:aa_ (fun k=>D k∨k=ss) w w4:=hk1.trans hkf fun _ _ q=>.inr q
  have hown4:Own w4 w.heap.size ae_ 1 best (bv (ldN st.seen file 2).2.2):=hown1.keep hkf fun b hb q=>by
   have:=(hown1.ge b hb).1;omega
  have:=h best w4 hk14 hw4 hS4 hown4
  refine a2_ (fun q=>?_) (fun q=>?_)
  ·rw[if_pos q] at this
   have hn:=mW_ q
   have:=h ⟨none,0,0⟩ w4 hk14 hw4 hS4 (by rw[hn];exact aH_ _ _ _ _)
   rw[if_pos q,hn] at this
   exact this
  ·rw[if_neg q] at this
   exact this
open Go CF
def toS (at_:Int):Nat:=if at_=0 then 1 else 0
open Go CF
structure SlX where
 sure:Bool
 at_:Int
 gen:Nat
def aI_ (F:Int→Bool) (st:Wst) (file:ByteArray) (x:SlX):Nat×L8×Nat×SlX×Wst:=
 match hH_ F st.ops 2 with
 | some k=>(6,[],0,⟨false,x.at_,x.gen⟩,more st (k+1))
 | none=>(if (ldN st.seen file 2).1<0 then 8 else 0,(ldN st.seen file 2).2.2,(ldN st.seen file 2).2.1,⟨true,(ldN st.seen file 2).1,(ldN st.seen file 2).2.1⟩,more st 2)
def fr_ (g:Nat):Nat:=(g+1)%18446744073709551616
def c7_ (F:Int→Bool) (st:Wst) (file:ByteArray) (x:SlX) (l:L8):Nat×SlX×Wst:=
 if F (st.ops:Int)=true then(6,⟨false,x.at_,x.gen⟩,more st 1)
 else if F ((st.ops+1:Nat):Int)=true then(6,⟨false,x.at_,x.gen⟩,more (gj_ st (nmS file (toS x.at_)) 0 (bw_ (fr_ x.gen) l)) 1)
 else(0,⟨true,(toS x.at_:Int),fr_ x.gen⟩,f0_ (gj_ st (nmS file (toS x.at_)) 0 (bw_ (fr_ x.gen) l)))
def b6_ (F:Int→Bool) (st:Wst) (file:ByteArray) (x:SlX) (l:L8):Nat×SlX×Wst:=
 if x.sure=true then c7_ F st file x l
 else if (aI_ F st file x).1=6 then(6,(aI_ F st file x).2.2.2.1,(aI_ F st file x).2.2.2.2) else c7_ F (aI_ F st file x).2.2.2.2 file (aI_ F st file x).2.2.2.1 l
theorem gK_ {w:World} {ss pw:Nat} {D:Nat→Prop} {st:Wst} {F:Int→Bool} {cs:A_} {o:Nat} {v:Value} (hS:Blk w ss cs eN_) (hps:¬D ss) (hw:ba_ w pw D st F) (ho:o<cs.size) (hv:v.oneCell'=true) {K:W_}
  (h:∀u,Blk u ss (cs.setIfInBounds o v) eN_→ba_ u pw D st F→aa_ (fun k=>k=ss) w u→K u):Put ⟨ss,o,none⟩ v w K:=
 a0_ hS ho hv fun u hb hk _=>h u hb (hw.keep hk (fun k hk' q=>hps (q▸hk')) (fun g cur hg q=>by subst q;exact absurd (bq_ hS hg) d_)) hk
theorem j5_ {w:World} {ss pw:Nat} {D:Nat→Prop} {st:Wst} {F:Int→Bool} {file:ByteArray} {x:SlX} {R:Sl→Int→Int→W_} (hS:bS_ w ss pw file x.sure x.at_ x.gen) (hps:¬D ss) (hw:ba_ w pw D st F)
  (hf:1≤file.size∧file.size≤30) (ho:st.ops<100000000000)
  (h:∀best u,aa_ (fun k=>D k∨k=ss) w u→ba_ u pw D (aI_ F st file x).2.2.2.2 F→bS_ u ss pw file (aI_ F st file x).2.2.2.1.sure (aI_ F st file x).2.2.2.1.at_ (aI_ F st file x).2.2.2.1.gen→Own u w.heap.size ae_ 1 best (bv (aI_ F st file x).2.1)→
   R best (((aI_ F st file x).2.2.1:Nat):Int) (((aI_ F st file x).1:Nat):Int) u):cK_ (some ⟨ss,0,none⟩) w R:=by
 refine cN_.calls _ _ _ ?_
 refine aj_ rfl ⟨rfl,?_⟩
 rw[gA,aq_]
 have lss:=aw_ hS
 unfold aI_ at h
 refine gK_ hS hps hw (by show 2<5;decide) rfl fun w0 hS0 hw0 hk0=>?_
 have hS0:bS_ w0 ss pw file false x.at_ x.gen:=hS0
 refine⟨fun best a m y u=>∃j:Nat,y=j∧j≤2∧a=(ldN st.seen file j).1∧m=(((ldN st.seen file j).2.1:Nat):Int)∧aa_ (fun k=>D k∨k=ss) w u∧ba_ u pw D {st with ops:=st.ops+j} F∧bS_ u ss pw file false x.at_ x.gen∧
   Own u w.heap.size ae_ 1 best (bv (ldN st.seen file j).2.2)∧∀i:Nat,i<j→F ((st.ops+i:Nat):Int)=false,fun _ _ _ y _=>2-y.toNat,⟨0,rfl,d_,rfl,rfl,hk0.mono fun _ _ q=>.inr q,hw0,hS0,aH_ _ _ _ _,fun _ q=>absurd q (Nat.not_lt_zero _)⟩,?_⟩
 rintro best a m y w1 ⟨j,rfl,hj,rfl,rfl,hk1,hw1,hS1,hown1,hfl⟩
 have s1:=hk1.size
 refine a2_ (fun hlt=>?_) (fun hge=>?_)
 ·rintro w2 rfl
  have hg2:ab_ w1 w1.drew:=ak_ w1
  refine⟨fun u=>bS_ u ss pw file false x.at_ x.gen,hg2.heap hS1 (fun q=>q),rfl,some ⟨pw,0,none⟩,fun u hu=>by rw[aq_,Blk.cell hu];rfl,?_⟩
  refine jI_ (hg2.heap hS1 (fun q=>q)) hf.2 o_ fun w3 hg3=>⟨(hg2.trans hg3).heap hS1 (fun q=>q),?_⟩
  have hg13:=hg2.trans hg3
  refine jn_ (off:=0) (n:=4116) (hw1.grow hg13) (by rw[mV_];omega) d_ d_ (by show st.ops+j<_;omega) (fun hok s w4 hk4 hr4 hown4 hsn=>?_) (fun hbad w4 hk4 hr4=>?_)
  case refine_2=>
   have hff:hH_ F st.ops 2=some j:=st_ o_ hfl hbad
   rw[hff] at h
   have hk14:aa_ (fun k=>D k∨k=ss) w w4:=(hk1.grow hg13).trans hk4 fun _ _ q=>.inl q
   refine am_ rfl (h au_ w4 hk14 ?_ (hk4.heap (hg13.heap hS1 (fun q=>q)) hps) (aH_ _ _ _ _))
   have:=hr4.isWq (hw1.grow hg13)
   exact this
  have hw4:=hr4.isWq (hw1.grow hg13)
  have hown4:Own w4 w3.heap.size ae_ 1 s (bv (bf_ st.seen file j)):=hown4
  refine aj_ (by
   show(_&&_)=false
   cases (st.seen (nmS file j)).isSome<;>rfl) ?_
  have nDown:∀b,best.blk=some b→¬D b:=fun b hb q=>by
   have h1:=(hown1.ge b hb).1
   have h2:=hw.lt q
   omega
  have hown1':Own w4 w.heap.size ae_ 1 best (bv (ldN st.seen file j).2.2):=(hown1.grow hg13).keep hk4 nDown
  have hS4:bS_ w4 ss pw file false x.at_ x.gen:=hk4.heap (hg13.heap hS1 (fun q=>q)) hps
  have hk14:aa_ (fun k=>D k∨k=ss) w w4:=(hk1.grow hg13).trans hk4 fun _ _ q=>.inl q
  refine ic_ (hown4.rd o_) fun s5 w5 hown5 hg5=>?_
  have fin:∀(b:Sl) (a:Int) (m:Int),a=(ldN st.seen file (j+1)).1→m=(((ldN st.seen file (j+1)).2.1:Nat):Int)→Own w5 w.heap.size ae_ 1 b (bv (ldN st.seen file (j+1)).2.2)→
    (∃j_1:Nat,IntKind.wrap .i64 ((j:Int)+1)=j_1∧j_1≤2∧a=(ldN st.seen file j_1).1∧m=(((ldN st.seen file j_1).2.1:Nat):Int)∧aa_ (fun k=>D k∨k=ss) w w5∧ba_ w5 pw D {st with ops:=st.ops+j_1} F∧bS_ w5 ss pw file false x.at_ x.gen∧
     Own w5 w.heap.size ae_ 1 b (bv (ldN st.seen file j_1).2.2)∧∀i:Nat,i<j_1→F ((st.ops+i:Nat):Int)=false)∧2-(IntKind.wrap .i64 ((j:Int)+1)).toNat<2-(j:Int).toNat:=fun b a m ha hm hb=>by
   rw[w64 o_ o_]
   exact⟨⟨j+1,o_,o_,ha,hm,hk14.grow hg5,hw4.grow hg5,hg5.heap hS4 (fun q=>q),hb,fun i hi=>by
    by_cases e:i=j
    ·rw[e];exact hok
    ·exact hfl i o_⟩,o_⟩
  have hE:ldN st.seen file (j+1)=cb_ (ldN st.seen file j) j (bf_ st.seen file j):=rfl
  generalize ldN st.seen file (j+1)=L1 at *
  by_cases q:(bV_ (bf_ st.seen file j)).2.2=0∧((ldN st.seen file j).1<0∨(ldN st.seen file j).2.1<(bV_ (bf_ st.seen file j)).1)
  ·rw[cb_,if_pos q] at hE
   refine am_ ?_ (fin _ _ _ (by rw[hE]) (by rw[hE]) (by rw[hE];exact hown5.mono (by have:=hk14.size;omega)))
   rw[Bool.and_eq_true,Bool.or_eq_true,beq_iff_eq,decide_eq_true_eq,decide_eq_true_eq]
   omega
  ·rw[cb_,if_neg q] at hE
   refine aj_ ?_ (fin _ _ _ (by rw[hE]) (by rw[hE]) (by rw[hE];exact hown1'.grow hg5))
   rw[Bool.and_eq_false_iff,Bool.or_eq_false_iff,beq_eq_false_iff_ne,decide_eq_false_iff_not,decide_eq_false_iff_not]
   omega
 ·have hj2:j=2:=o_
  subst hj2
  rw[ng_ hfl] at h
  dsimp only at h
  refine⟨rfl,?_⟩
  rw[aq_]
  refine gK_ hS1 hps hw1 (by show 3<5;decide) rfl fun w2 hS2 hw2 hk2=>⟨rfl,?_⟩
  rw[aq_]
  refine gK_ hS2 hps hw2 (by show 4<5;decide) rfl fun w3 hS3 hw3 hk3=>⟨rfl,?_⟩
  refine gK_ hS3 hps hw3 (by show 2<5;decide) rfl fun w4 hS4 hw4 hk4=>?_
  have hS4:bS_ w4 ss pw file true (ldN st.seen file 2).1 (ldN st.seen file 2).2.1:=hS4
  have hkf:aa_ (fun k=>k=ss) w1 w4:=(hk2.trans hk3 fun _ _ q=>q).trans hk4 fun _ _ q=>q
  have hk14:aa_ (fun k=>D k∨k=ss) w w4:=hk1.trans hkf fun _ _ q=>.inr q
  have hown4:Own w4 w.heap.size ae_ 1 best (bv (ldN st.seen file 2).2.2):=hown1.keep hkf fun b hb q=>by
   have:=(hown1.ge b hb).1;omega
  have:=h best w4 hk14 hw4 hS4 hown4
  refine a2_ (fun q=>?_) (fun q=>?_)
  ·rw[if_pos q] at this
   have hn:=mW_ q
   have:=h ⟨none,0,0⟩ w4 hk14 hw4 hS4 (by rw[hn];exact aH_ _ _ _ _)
   rw[if_pos q,hn] at this
   exact this
  ·rw[if_neg q] at this
   exact this
theorem ou_ (g:Nat):IntKind.wrap .u64 ((g:Int)+1)=((fr_ g:Nat):Int):=by
 have e:IntKind.wrap .u64 ((g:Int)+1)=((g:Int)+1)%18446744073709551616:=by simp[IntKind.wrap,IntKind.signed,IntKind.bits]
 rw[e];unfold fr_;omega
theorem n6_ {w:World} {ss pw:Nat} {D:Nat→Prop} {st:Wst} {F:Int→Bool} {file:ByteArray} {x:SlX} {p:Sl} {l:L8} {R:Int→Int→W_} (hS:bS_ w ss pw file x.sure x.at_ x.gen) (hps:¬D ss) (hw:ba_ w pw D st F)
  (hok:Wok st) (hf:1≤file.size∧file.size≤30) (ho:st.ops<10000000000) (hn:st.waits.length<800000000) (hl:l.length≤4096) (hp:∀u,aa_ (fun k=>D k∨k=ss) w u→Rd u 1 p (bv l))
  (h:∀u D' g,aa_ (fun k=>D k∨k=ss) w u→ba_ u pw D' (b6_ F st file x l).2.2 F→(∀k,D' k→D k∨w.heap.size≤k)→
   bS_ u ss pw file (b6_ F st file x l).2.1.sure (b6_ F st file x l).2.1.at_ (b6_ F st file x l).2.1.gen→R g (((b6_ F st file x l).1:Nat):Int) u):cg_ (some ⟨ss,0,none⟩) p w R:=by
 refine cO_.calls _ _ _ _ ?_
 unfold cO_
 simp only[gA,aq_,Nat.zero_add]
 have hp0:=hp w (aa_.refl _ _)
 have hln:=u6_ hp0
 have lss:=aw_ hS
 refine a2_ (fun q=>absurd q o_) (fun _=>aj_ rfl ⟨rfl,x.sure,by rw[Blk.cell hS];rfl,?_⟩)
 unfold b6_ at h
 refine cu_ (fun u=>∃(st1:Wst) (x1:SlX),aa_ (fun k=>D k∨k=ss) w u∧ba_ u pw D st1 F∧bS_ u ss pw file x1.sure x1.at_ x1.gen∧st1.seen=st.seen∧st1.dur=st.dur∧st1.waits=st.waits∧st1.ops≤st.ops+2∧
  (∀u D' g,aa_ (fun k=>D k∨k=ss) w u→ba_ u pw D' (c7_ F st1 file x1 l).2.2 F→(∀k,D' k→D k∨w.heap.size≤k)→bS_ u ss pw file (c7_ F st1 file x1 l).2.1.sure (c7_ F st1 file x1 l).2.1.at_ (c7_ F st1 file x1 l).2.1.gen→R g (((c7_ F st1 file x1 l).1:Nat):Int) u)) ?_ (fun J=>?_)
 ·rintro w1 ⟨st1,x1,hk1,hw1,hS1,e1,e2,e3,ho1,hR⟩
  have wokA:∀to,Wok (gj_ st1 (nmS file to) 0 (bw_ (fr_ x1.gen) l)):=fun to c hc=>by
   rcases List.mem_append.1 hc with q|q
   ·exact hok c (by rw[←e3];exact q)
   ·rw[List.mem_singleton.1 q];exact⟨rfl,by show 0+(bw_ _ _).length≤_;rw[hh_];omega⟩
  unfold c7_ at hR
  refine⟨rfl,?_⟩
  refine gK_ hS1 hps hw1 (by show 2<5;decide) rfl fun w2 hS2 hw2 hk2=>⟨rfl,x1.at_,by rw[Blk.cell hS2];rfl,?_⟩
  have hS2:bS_ w2 ss pw file false x1.at_ x1.gen:=hS2
  refine bc_ (fun(to:Int) u=>u=w2∧to=(toS x1.at_:Int)) ?_ (fun J2=>?_)
  ·rintro to u ⟨rfl,rfl⟩
   refine⟨rfl,(x1.gen:Int),by rw[Blk.cell hS2];rfl,?_⟩
   rw[ou_]
   have hk12:aa_ (fun k=>D k∨k=ss) w u:=hk1.trans hk2 fun _ _ q=>.inr q
   have s2:=hk12.size
   have hg1:fr_ x1.gen<18446744073709551616:=Nat.mod_lt _ d_
   refine mb_ (hp u hk12) hg1 (fun q=>absurd q o_) fun _ r w3 hown3 hg3 hn3=>?_
   rintro w4 rfl
   have hg4:ab_ u w3.drew:=hg3.trans (ak_ w3)
   refine⟨fun u=>bS_ u ss pw file false x1.at_ x1.gen,hg4.heap hS2 (fun q=>q),rfl,some ⟨pw,0,none⟩,fun u hu=>by rw[Blk.cell hu];rfl,?_⟩
   have hto:toS x1.at_<10:=by unfold toS;split<;>decide
   refine jI_ (hg4.heap hS2 (fun q=>q)) hf.2 hto fun w5 hg5=>⟨(hg4.trans hg5).heap hS2 (fun q=>q),?_⟩
   have hg25:=hg4.trans hg5
   have hown5:Own w5 u.heap.size ae_ 1 r (bv (bw_ (fr_ x1.gen) l)):=(hown3.grow (ak_ w3)).grow hg5
   have s5:=hg25.size
   refine nc_ (off:=0) (bs:=bw_ (fr_ x1.gen) l) (hw2.grow hg25) (by rw[mV_];omega) (hown5.rd o_) (by rw[hh_];omega) o_ (by rw[e3];omega) (fun hf1 w6 D6 hk6 hw6 hD6=>?_) (fun hf1 w6 hk6 hw6=>?_)
   ·have hS6:bS_ w6 ss pw file false x1.at_ x1.gen:=hk6.heap (hg25.heap hS2 (fun q=>q)) hps
    have hk06:aa_ (fun k=>D k∨k=ss) w w6:=(hk12.grow hg25).trans hk6 fun _ _ q=>.inl q
    have nD6:¬D6 ss:=fun q=>by rcases hD6 _ q with r|r
                               ·exact hps r
                               ·omega
    have s6:=hk6.size
    have hw6:ba_ w6 pw D6 (gj_ st1 (nmS file (toS x1.at_)) 0 (bw_ (fr_ x1.gen) l)) F:=hw6
    have hDD:∀k,D6 k→D k∨w.heap.size≤k:=fun k q=>by
     rcases hD6 k q with r|r
     ·exact .inl r
     ·exact .inr o_
    rw[if_neg (by rw[hf1];exact Bool.noConfusion)] at hR
    refine bc_ (fun(e:Int) u=>(e=0∧F ((st1.ops+1:Nat):Int)=false∧∃D',aa_ (fun k=>D k∨k=ss) w u∧ba_ u pw D' (f0_ (gj_ st1 (nmS file (toS x1.at_)) 0 (bw_ (fr_ x1.gen) l))) F∧(∀k,D' k→D k∨w.heap.size≤k)∧bS_ u ss pw file false x1.at_ x1.gen)∨
     (e=6∧F ((st1.ops+1:Nat):Int)=true∧aa_ (fun k=>D k∨k=ss) w u∧ba_ u pw D6 (more (gj_ st1 (nmS file (toS x1.at_)) 0 (bw_ (fr_ x1.gen) l)) 1) F∧bS_ u ss pw file false x1.at_ x1.gen)) ?_ (fun J3=>?_)
    ·rintro e w7 (⟨rfl,hf2,D7,hk7,hw7,hD7,hS7⟩|⟨rfl,hf2,hk7,hw7,hS7⟩)
     ·rw[if_neg (by rw[hf2];exact Bool.noConfusion)] at hR
      have nD7:¬D7 ss:=fun q=>by rcases hD7 _ q with r|r
                                 ·exact hps r
                                 ·omega
      refine aj_ rfl ⟨rfl,(x1.gen:Int),by rw[Blk.cell hS7];rfl,rfl,?_⟩
      rw[ou_]
      refine gK_ hS7 nD7 hw7 (by show 3<5;decide) rfl fun w8 hS8 hw8 hk8=>⟨rfl,?_⟩
      refine gK_ hS8 nD7 hw8 (by show 4<5;decide) rfl fun w9 hS9 hw9 hk9=>⟨rfl,?_⟩
      refine gK_ hS9 nD7 hw9 (by show 2<5;decide) rfl fun w10 hS10 hw10 hk10=>?_
      refine⟨rfl,((fr_ x1.gen:Nat):Int),by rw[Blk.cell hS10];rfl,?_⟩
      have hkf:aa_ (fun k=>k=ss) w7 w10:=(hk8.trans hk9 fun _ _ q=>q).trans hk10 fun _ _ q=>q
      exact hR w10 D7 _ (hk7.trans hkf fun _ _ q=>.inr q) hw10 hD7 hS10
     ·rw[if_pos hf2] at hR
      exact am_ rfl (hR w7 D6 _ hk7 hw7 hDD hS7)
    ·refine am_ rfl ⟨rfl,some ⟨pw,0,none⟩,by rw[Blk.cell hS6];rfl,?_⟩
     refine pT_ hw6 (wokA _) (by show st1.ops+1<_;omega) (by show(st1.waits++[_]).length<_;rw[List.length_append,e3];show st.waits.length+1<_;omega) (fun hf2 w7 D7 hk7 hw7 hD7=>?_) (fun hf2 w7 hk7 hw7=>?_)
     ·refine J3 0 w7 (.inl ⟨rfl,hf2,D7,hk06.trans hk7 fun i hi q=>?_,hw7,fun k q=>?_,hk7.heap hS6 nD6⟩)
      ·rcases hD6 i q with r|r
       ·exact .inl r
       ·omega
      ·rcases hD7 k q with r|r
       ·exact hDD k r
       ·exact .inr o_
     ·refine J3 6 w7 (.inr ⟨rfl,hf2,hk06.trans hk7 fun i hi q=>?_,hw7,hk7.heap hS6 nD6⟩)
      rcases hD6 i q with r|r
      ·exact .inl r
      ·omega
   ·rw[if_pos hf1] at hR
    have hS6:bS_ w6 ss pw file false x1.at_ x1.gen:=hk6.heap (hg25.heap hS2 (fun q=>q)) hps
    have hk06:aa_ (fun k=>D k∨k=ss) w w6:=(hk12.grow hg25).trans hk6 fun _ _ q=>.inl q
    refine bc_ (fun(e:Int) u=>e=6∧u=w6) (fun e u q=>?_) (fun J3=>aj_ rfl (J3 6 w6 ⟨rfl,rfl⟩))
    obtain⟨rfl,rfl⟩:=q
    exact am_ rfl (hR u D _ hk06 hw6 (fun _ q=>.inl q) hS6)
  ·refine as_ (fun q=>J2 1 w2 ⟨rfl,?_⟩) (fun q=>J2 0 w2 ⟨rfl,?_⟩)
   ·unfold toS;rw[if_pos q];rfl
   ·unfold toS;rw[if_neg q];rfl
 ·cases hsu:x.sure with
  | true=>
   rw[hsu,if_pos rfl] at h
   exact aj_ rfl (J w ⟨st,x,aa_.refl _ _,hw,hS,rfl,rfl,rfl,o_,h⟩)
  | false=>
   rw[hsu,if_neg Bool.noConfusion] at h
   refine am_ rfl (j5_ hS hps hw hf o_ fun best u hk hu hSu hb=>?_)
   by_cases q6:(aI_ F st file x).1=6
   ·rw[if_pos q6] at h
    rw[q6]
    exact am_ rfl (by have:=h u D 0 hk hu (fun _ q=>.inl q) hSu;exact this)
   ·rw[if_neg q6] at h
    have hst:(aI_ F st file x).2.2.2.2.seen=st.seen∧(aI_ F st file x).2.2.2.2.dur=st.dur∧(aI_ F st file x).2.2.2.2.waits=st.waits∧(aI_ F st file x).2.2.2.2.ops≤st.ops+2:=by
     unfold aI_
     split
     ·rename_i k hk'
      have:=List.mem_range.1 (List.mem_of_find?_eq_some hk')
      exact⟨rfl,rfl,rfl,by show st.ops+(k+1)≤_;omega⟩
     ·exact⟨rfl,rfl,rfl,Nat.le_refl _⟩
    have h08:(aI_ F st file x).1=0∨(aI_ F st file x).1=8:=by
     revert q6
     unfold aI_
     split
     ·exact fun q=>absurd rfl q
     ·intro _
      dsimp only
      split
      ·exact .inr rfl
      ·exact .inl rfl
    refine aj_ ?_ (J u ⟨_,_,hk,hu,hSu,hst.1,hst.2.1,hst.2.2.1,hst.2.2.2,h⟩)
    rcases h08 with e|e<;>rw[e]<;>rfl
open Go CF
structure Row (w0 u:World) (p:Sl) (l:L8):Prop where
 own:Own u w0.heap.size ae_ 1 p (bv l)
 grow:ab_ w0 u
section
variable {w0 u u':World} {p:Sl} {os:L8}
theorem Row.n (h:Row w0 u p os):p.n=os.length:=j4_ h.own
theorem Row.nil (h:ab_ w0 u):Row w0 u au_ []:=⟨aH_ _ _ _ _,h⟩
theorem Row.step {p':Sl} {os':L8} (h:Row w0 u p os) (hown:Own u' w0.heap.size ae_ 1 p' (bv os')) (hk:aa_ (fun k=>some k=p.blk) u u'):Row w0 u' p' os':=⟨hown,eu_ h.grow h.own (Nat.le_refl _) hk⟩
theorem Row.go (h:Row w0 u p os) (g:ab_ u u'):Row w0 u' p os:=⟨h.own.grow g,h.grow.trans g⟩
theorem Row.keep {S:Nat→Prop} (h:Row w0 u p os) (k:aa_ S u u') (hs:∀b,p.blk=some b→¬S b) (hg:∀i,i<w0.heap.size→¬S i):Row w0 u' p os:=⟨h.own.keep k hs,h.grow.keep k hg⟩
theorem Row.ne (h:Row w0 u p os) {b:Nat} {cs:A_} {t:TypeId} (hb:Blk u b cs t) (ht:t≠ae_):some b≠p.blk:=fun q=>by
 obtain⟨cur,hc⟩:=a4_ h.own q.symm
 exact ht (bq_ hb hc)
theorem Row.blk (h:Row w0 u p os) (hk:aa_ (fun k=>some k=p.blk) u u') {b:Nat} {cs:A_} {t:TypeId} (hb:Blk u b cs t) (ht:t≠ae_):Blk u' b cs t:=hk.heap hb (h.ne hb ht)
theorem Row.rd (h:Row w0 u p os) (hl:os.length≤140737488355328):Rd u 1 p (bv os):=h.own.rd (by have:=h.n;omega)
theorem Row.app (h:Row w0 u p os) {x:Sl} {l:L8} (hx:Rd u 1 x (bv l)) (hb:os.length+l.length≤140737488355328) {ty:TypeId} {K:Sl→W_} (hK:∀p' u',Row w0 u' p' (os++l)→aa_ (fun k=>some k=p.blk) u u'→K p' u') :
  an_ Tryz.prog .sl (Builtin.append_ #[bn_,bn_] ty #[.slice p.A p.n p.c,.slice x.A x.n x.c]) u K:=by
 have hxn:=cV_ hx
 have hpn:=h.n
 refine aZ_ aX_ bE_ rfl d_ d_ h.own hx (dg_ _) o_ h.grow.size fun s' w' hn hown hk _=>hK s' w' (h.step ?_ hk) hk
 rw[b3_];exact hown
theorem Row.lit (h:Row w0 u p os) {n:Nat} {parts:Array (Nat×Value)} {l:L8} {t ty:TypeId} (hr:(Instr.buildSlice t n parts).run Tryz.prog u=.ok (.slice (some ⟨u.heap.size,0,none⟩) n n) (u.alloc (.cells (bv l).toArray ae_))) (hn:n=l.length)
  (hb:os.length+l.length≤140737488355328) {K:Sl→W_} (hK:∀p' u',Row w0 u' p' (os++l)→aa_ (fun k=>some k=p.blk) u u'→K p' u') :
  an_ Tryz.prog .sl (Instr.buildSlice t n parts) u fun xs u1=>an_ Tryz.prog .sl (Builtin.append_ #[bn_,bn_] ty #[.slice p.A p.n p.c,.slice xs.A xs.n xs.c]) u1 K:=by
 refine aN_ (cells:=(bv l).toArray) (e:=ae_) (z:=1) (base:=0) hr (by simp[bv,hn]) o_ (Nat.zero_le _) fun u1 hown1 hg1 _=>?_
 have hx:Rd u1 1 ⟨some ⟨u.heap.size,0,none⟩,n,n⟩ (bv l):=hown1.rd (by show n≤_;omega)
 refine(h.go hg1).app hx hb fun p' u' hr' hk=>hK p' u' hr' ⟨hk.os.trans hg1.os,hk.tape.trans hg1.tape,hk.output.trans hg1.output,Nat.le_trans hg1.size hk.size,fun k hlt hne=>(hk.block k (by have:=hg1.size;omega) hne).trans (hg1.block k hlt (fun q=>q))⟩
theorem Row.start {n:Nat} {parts:Array (Nat×Value)} {l:L8} {t:TypeId} (hr:(Instr.buildSlice t n parts).run Tryz.prog u=.ok (.slice (some ⟨u.heap.size,0,none⟩) n n) (u.alloc (.cells (bv l).toArray ae_))) (hn:n=l.length) (hb:l.length≤140737488355328)
  {K:Sl→W_} (hK:∀p' u',Row u u' p' l→K p' u'):an_ Tryz.prog .sl (Instr.buildSlice t n parts) u K:=
 aN_ (cells:=(bv l).toArray) (e:=ae_) (z:=1) (base:=u.heap.size) hr (by simp[bv,hn]) o_ (Nat.le_refl _) fun u1 hown1 hg1 _=>hK _ u1 ⟨hown1,hg1⟩
theorem g3_ {S:Nat→Prop} {a b c:World} (g:ab_ a b) (k:aa_ S b c):aa_ S a c:=aa_.trans (g.mono fun _ _ q=>q.elim) k fun _ _ q=>q
theorem Row.big (h:Row w0 u p os) {v n:Nat} (hn:1≤n) (hn8:n≤8) (hb:os.length+n≤140737488355328) {ty:TypeId} {K:Sl→W_} (hK:∀p' u',Row w0 u' p' (os++beN n v)→aa_ (fun k=>some k=p.blk) u u'→K p' u') :
  c2_ (v:Int) (n:Int) u fun xs u1=>an_ Tryz.prog .sl (Builtin.append_ #[bn_,bn_] ty #[.slice p.A p.n p.c,.slice xs.A xs.n xs.c]) u1 K:=by
 refine pS_ hn hn8 fun s u1 hown1 hg1 hs=>?_
 exact(h.go hg1).app (hown1.rd o_) (by rw[bg_];exact hb) fun p' u' hr' hk=>hK p' u' hr' (g3_ hg1 hk)
theorem h0_ {w:World} {s:Sl} {vs:List Value} (h:Rd w 1 s vs) {i:Nat} (hi:i<vs.length):s.A.isSome=true∧w.cell? ((gA s.A).add (i*1))=some vs[i]:=by
 have hne:vs≠[]:=fun q=>by rw[q] at hi;simp at hi
 obtain⟨a,ha,hc⟩:=h.at_ hne
 rw[ha]
 exact⟨rfl,by rw[Nat.mul_one];exact hc i _ (List.getElem?_eq_getElem hi)⟩
theorem xe_ {α:Type} {f:α→List Value} {z:Nat} {w:World} {s:Sl} {xs:List α} (hf:∀a,(f a).length=z) (hz:0<z) (h:Rd w z s (xs.flatMap f)) {i:Nat} (hi:i<xs.length):s.A.isSome=true∧bY_ w ((gA s.A).add (i*z)) (f xs[i]):=by
 have hn:s.n=xs.length:=by have:=h.len;rw[cY_ hf] at this;exact(Nat.eq_of_mul_eq_mul_right hz this).symm
 obtain⟨a,ha,hc⟩:=h.elem (i:=i) o_ hz
 rw[gC_ hf hi] at hc
 rw[ha]
 exact⟨rfl,hc⟩
end
open Go CF
def jq_ (n:Nat):Nat:=if n/256=41 then 0 else if n=12032 then 1 else if n/256=42∧n≠10753 then 2 else 3
def iu_ (l:List Nat) (c:Nat):List Nat:=if c=10496 then [] else l
def bd_ (l:List Nat) (c:Nat):List Nat:=if c∈iu_ l c then l else if (iu_ l c).length<8 then iu_ l c++[c] else l
def cC_ (l:List Nat):Nat→Option Nat
 | 0=>none
 | k+1=>match cC_ l k with
  | none=>some k
  | some b=>if jq_ (l.getD k 0)<jq_ (l.getD b 0) then some k else some b
def cD_ (l:List Nat):Option Nat:=(cC_ l l.length).map fun i=>l.getD i 0
def fL_ (l:List Nat):List Nat:=match cC_ l l.length with
 | none=>l
 | some i=>l.take i++l.drop (i+1)
theorem kL_ (l:List Nat):∀k b,cC_ l k=some b→b<k
 | 0,b,h=>by cases h
 | k+1,b,h=>by
  unfold cC_ at h
  split at h
  ·injection h with h;omega
  ·rename_i b' hb
   have:=kL_ l k b' hb
   split at h<;>(injection h with h;omega)
theorem wn_ {l:List Nat} {c:Nat} (hl:l.length≤8) (hc:c<65536) (h:∀x∈l,x<65536):(bd_ l c).length≤8∧∀x∈bd_ l c,x<65536:=by
 unfold bd_
 split
 ·exact⟨hl,h⟩
 split
 ·rename_i hb
  refine⟨by rw[List.length_append];simp only[List.length_singleton];omega,fun x hx=>?_⟩
  rcases List.mem_append.1 hx with q|q
  ·unfold iu_ at q
   split at q
   ·cases q
   ·exact h x q
  ·rw[List.mem_singleton.1 q];exact hc
 ·exact⟨hl,h⟩
theorem u8_ {l:List Nat} (hl:l.length≤8) (h:∀x∈l,x<65536):(fL_ l).length≤8∧∀x∈fL_ l,x<65536:=by
 unfold fL_
 split
 ·exact⟨hl,h⟩
 ·refine⟨by rw[List.length_append,List.length_take,List.length_drop];omega,fun x hx=>?_⟩
  rcases List.mem_append.1 hx with q|q
  ·exact h x (List.mem_of_mem_take q)
  ·exact h x (List.mem_of_mem_drop q)
def c8_ (l:List Nat):List Value:=l.map fun n:Nat=>.int .u16 (n:Int)
theorem c9_ (l:List Nat):(c8_ l).length=l.length:=List.length_map ..
theorem kM_ (l:List Nat):∀v∈c8_ l,v.oneCell'=true:=fun v hv=>by
 obtain⟨n,_,rfl⟩:=List.mem_map.1 hv;rfl
theorem jJ_ (a b:List Nat):c8_ (a++b)=c8_ a++c8_ b:=List.map_append ..
def slv (s:Sl):Value:=.slice s.A s.n s.c
def kN_ (t:TypeId):Prop:=t=cq_∨t=ax_∨t=aL_
def a6_ (w:World) (N S:Nat→Prop):Prop:=∀b,b<w.heap.size→S b→N b∨∃cs t,Blk w b cs t∧¬kN_ t
theorem a6_.sub {w:World} {N S:Nat→Prop} (h:∀b,b<w.heap.size→S b→N b):a6_ w N S:=fun b hb q=>.inl (h b hb q)
theorem a6_.none (w:World) (N:Nat→Prop):a6_ w N fun _=>False:=fun _ _ q=>q.elim
structure RdN (w:World) (N:Nat→Prop) (e:TypeId) (z:Nat) (s:Sl) (vs:List Value):Prop where
 own:CF.Own w 0 e z s vs
 small:s.n≤140737488355328
 out:∀b,s.blk=some b→¬N b
theorem RdN.rd {w:World} {N:Nat→Prop} {e:TypeId} {z:Nat} {s:Sl} {vs:List Value} (h:RdN w N e z s vs):Rd w z s vs:=h.own.rd (by have:=h.small;omega)
theorem RdN.nil (w:World) (N:Nat→Prop) (e:TypeId) (z:Nat):RdN w N e z au_ []:=⟨aH_ _ _ _ _,d_,fun b h=>by simp[Sl.blk] at h⟩
theorem RdN.step {S N N':Nat→Prop} {w u:World} {e:TypeId} {z:Nat} {s:Sl} {vs:List Value} (h:RdN w N e z s vs) (he:kN_ e) (k:aa_ S w u) (hS:a6_ w N S) (hN:∀b,N' b→N b∨w.heap.size≤b):RdN u N' e z s vs:=by
 have hlt:∀b,s.blk=some b→b<w.heap.size:=fun b hb=>by obtain⟨cur,hc⟩:=a4_ h.own hb;exact aw_ hc
 refine⟨h.own.keep k fun b hb q=>?_,h.small,fun b hb q=>?_⟩
 ·rcases hS b (hlt b hb) q with r|⟨cs,t,hb2,ht⟩
  ·exact h.out b hb r
  ·obtain⟨cur,hc⟩:=a4_ h.own hb
   exact ht (by rw[bq_ hb2 hc];exact he)
 ·rcases hN _ q with r|r
  ·exact h.out b hb r
  ·have:=hlt b hb;omega
theorem RdN.grow {N:Nat→Prop} {w u:World} {e:TypeId} {z:Nat} {s:Sl} {vs:List Value} (h:RdN w N e z s vs) (k:ab_ w u):RdN u N e z s vs:=⟨h.own.grow k,h.small,h.out⟩
theorem CF.Own.rdN {w v:World} {N:Nat→Prop} {e:TypeId} {z:Nat} {s:Sl} {vs:List Value} (h:CF.Own v w.heap.size e z s vs) (hn:s.n≤140737488355328) (hN:∀b,N b→b<w.heap.size):RdN v N e z s vs:=
 ⟨h.mono (Nat.zero_le _),hn,fun b hb q=>by
  have:=h.ge b hb
  have:=hN _ q;omega⟩
structure IsQ (w:World) (N:Nat→Prop) (qb:Nat) (q:Nat→List Nat):Prop where
 rep:∃ss:List Sl,ss.length=8∧Blk w qb (ss.map slv).toArray gb_∧∀i (h:i<ss.length),RdN w N cq_ 1 ss[i] (c8_ (q i))
 few:∀i,i<8→(q i).length≤8∧∀c∈q i,c<65536
section
variable {w u:World} {N N' S:Nat→Prop} {qb i:Nat} {q:Nat→List Nat}
theorem IsQ.step (h:IsQ w N qb q) (k:aa_ S w u) (hS:a6_ w N S) (hq:¬S qb) (hN:∀b,N' b→N b∨w.heap.size≤b):IsQ u N' qb q:=by
 obtain⟨⟨ss,h1,h2,h3⟩,h4⟩:=h
 exact⟨⟨ss,h1,k.heap h2 hq,fun i hi=>(h3 i hi).step (.inl rfl) k hS hN⟩,h4⟩
theorem IsQ.grow (h:IsQ w N qb q) (k:ab_ w u):IsQ u N qb q:=h.step k (a6_.none _ _) (fun q=>q) fun _ q=>.inl q
theorem yg_ {n:Nat}:bK_ .u16 (n:Int) 8=((n/256:Nat):Int):=shr .u16 n 8 d_
theorem ov_ {n:Nat} {R:Int→W_} (h:R (jq_ n:Int) w):ih_ (n:Int) w R:=by
 refine gV_.calls _ _ _ ?_
 unfold gV_
 rw[yg_]
 unfold jq_ at h
 refine as_ (fun e=>?_) (fun e=>as_ (fun e1=>?_) (fun e1=>?_))
 ·rw[if_pos o_] at h;exact h
 ·rw[if_neg o_,if_pos o_] at h;exact h
 ·rw[if_neg o_,if_neg o_] at h
  by_cases q:n/256=42∧n≠10753
  ·rw[if_pos q] at h
   refine am_ ?_ h
   simp only[Bool.and_eq_true,beq_iff_eq,bne_iff_ne,ne_eq]
   omega
  ·rw[if_neg q] at h
   refine aj_ ?_ h
   rw[Bool.eq_false_iff]
   simp only[ne_eq,Bool.and_eq_true,beq_iff_eq,bne_iff_ne]
   omega
theorem qa_ {R:Bool→W_} (hi:i<8) (h:R true w):e3_ (some ⟨qb,0,none⟩) (i:Int) w R:=by
 refine dx_.calls _ _ _ _ ?_
 unfold dx_
 have e:(((!(some (⟨qb,0,none⟩:Addr)).isNone)&&(decide ((i:Int)≥0)))&&(decide ((i:Int)<8)))=true:=by simp;omega
 rw[e];exact h
theorem lw_ (ss:List Sl) (hb:Blk w qb (ss.map slv).toArray gb_) (hi:i<ss.length):w.cell? (((gA (some (⟨qb,0,none⟩:Addr))).add 0).add ((i:Int).toNat*1))=some (.slice ss[i].A ss[i].n ss[i].c):=by
 rw[gA,aq_,aq_,hb.cell,Int.toNat_natCast]
 simp[hi,slv]
theorem nm_ {R:Int→W_} (h:IsQ w N qb q) (hi:i<8) (hR:∀w',ab_ w w'→R (match cC_ (q i) (q i).length with|none=>-1|some b=>(b:Int)) w'):dl_ (some ⟨qb,0,none⟩) (i:Int) w R:=by
 refine dw_.calls _ _ _ _ (qa_ hi (aj_ rfl ?_))
 obtain⟨⟨ss,h1,h2,h3⟩,h4⟩:=h
 have hi':i<ss.length:=o_
 have hr:=h3 i hi'
 have hlen:(q i).length=ss[i].n:=by have:=hr.rd.len;rw[c9_] at this;omega
 have hsm:=(h4 i hi).1
 refine⟨rfl,⟨o_,o_⟩,ss[i],lw_ ss h2 hi',?_⟩
 refine⟨fun b x v=>∃j:Nat,x=j∧j≤(q i).length∧ab_ w v∧b=(match cC_ (q i) j with|none=>-1|some b=>(b:Int)),fun _ x _=>ss[i].n-x.toNat,⟨0,rfl,Nat.zero_le _,aa_.refl _ _,rfl⟩,?_⟩
 rintro b x v ⟨j,rfl,hj,hg,rfl⟩
 refine bl_ (fun hlt=>?_) (fun hge=>?_)
 ·have hjl:j<(q i).length:=o_
  have hrv:=hr.rd.grow hg
  obtain⟨ha,hc⟩:=h0_ hrv (i:=j) (by rw[c9_];exact hjl)
  have hev:∀{t:Nat} (ht:t<(q i).length),(c8_ (q i))[t]'(by rw[c9_];exact ht)=.int .u16 (((q i).getD t 0:Nat):Int):=fun ht=>by
   unfold c8_;rw[List.getElem_map,List.getD_eq_getElem?_getD,List.getElem?_eq_getElem ht];rfl
  rw[hev hjl] at hc
  have step:∀{b1:Int} {v':World},ab_ v v'→b1=(match cC_ (q i) (j+1) with|none=>-1|some b=>(b:Int))→
    (fun(b:Int) (x:Int) (v:World)=>∃j:Nat,x=j∧j≤(q i).length∧ab_ w v∧b=(match cC_ (q i) j with|none=>-1|some b=>(b:Int))) b1 (IntKind.wrap .i64 ((j:Int)+1)) v'∧ss[i].n-(IntKind.wrap .i64 ((j:Int)+1)).toNat<ss[i].n-(j:Int).toNat:=fun g e=>by
   rw[w64 o_ o_]
   exact⟨⟨j+1,o_,o_,hg.trans g,e⟩,o_⟩
  refine bc_ (fun b1 v'=>ab_ v v'∧b1=(match cC_ (q i) (j+1) with|none=>-1|some b=>(b:Int))) (fun b1 v' hb=>step hb.1 hb.2) (fun J=>?_)
  refine⟨⟨o_,o_,ha⟩,_,by rw[Int.toNat_natCast];exact hc,?_⟩
  rintro v1 rfl
  have hgd:=ak_ v
  have hg1:=hg.trans hgd
  have hb2:Blk v.drew qb (ss.map slv).toArray gb_:=hg1.heap h2 (fun q=>q)
  have hrd:=hr.rd.grow hg1
  generalize v.drew=v1 at *
  cases hb:cC_ (q i) j with
  | none=>
   dsimp only
   have e:cC_ (q i) (j+1)=some j:=by unfold cC_;rw[hb]
   have nb:∀{P:Prop},(!(decide ((-1:Int)<0)))=true→P:=fun q=>by simp at q
   refine⟨fun o=>o=v1,rfl,nb,nb,au_,nb,nb,0,nb,?_⟩
   refine cm_ (fun _ o=>o=v1) ?_ (fun J2=>⟨nb,fun _=>J2 _ _ rfl⟩)
   rintro _ o rfl
   refine⟨rfl,?_⟩
   refine cm_ (fun _ o'=>o'=o) ?_ (fun J2=>⟨nb,fun _=>J2 _ _ rfl⟩)
   rintro _ o' rfl
   exact am_ rfl (J _ _ ⟨hgd,by rw[e]⟩)
  | some b=>
   dsimp only
   have hbj:=kL_ _ _ _ hb
   obtain⟨_,hcb⟩:=h0_ hrd (i:=b) (by rw[c9_];omega)
   rw[hev o_] at hcb
   have nb:(!(decide (((b:Nat):Int)<0)))=true:=by rw[Bool.not_eq_true',decide_eq_false_iff_not];omega
   have nb':∀{P:Prop},(!(decide (((b:Nat):Int)<0)))=false→P:=fun q=>by rw[nb] at q;cases q
   refine⟨fun o=>o=v1,rfl,fun _=>rfl,fun _=>⟨o_,o_⟩,ss[i],fun _ o e=>by rw[e];exact lw_ ss hb2 hi',fun _=>⟨o_,o_,ha⟩,_,fun _ o e=>by rw[e,Int.toNat_natCast];exact hcb,?_⟩
   refine cm_ (fun n o=>o=v1∧n=(jq_ ((q i).getD j 0):Int)) ?_ (fun J2=>⟨fun _=>ov_ (J2 _ _ ⟨rfl,rfl⟩),nb'⟩)
   rintro n2 o ⟨rfl,rfl⟩
   refine⟨rfl,?_⟩
   refine cm_ (fun n o'=>o'=o∧n=(jq_ ((q i).getD b 0):Int)) ?_ (fun J2=>⟨fun _=>ov_ (J2 _ _ ⟨rfl,rfl⟩),nb'⟩)
   rintro n3 o' ⟨rfl,rfl⟩
   by_cases hlt2:jq_ ((q i).getD j 0)<jq_ ((q i).getD b 0)
   ·refine am_ (by rw[Bool.or_eq_true];right;rw[decide_eq_true_eq];omega) (J _ _ ⟨hgd,?_⟩)
    have e:cC_ (q i) (j+1)=some j:=by unfold cC_;rw[hb];exact if_pos hlt2
    rw[e]
   ·refine aj_ (by rw[Bool.or_eq_false_iff];exact⟨by rw[decide_eq_false_iff_not];omega,by rw[decide_eq_false_iff_not];omega⟩) (J _ _ ⟨hgd,?_⟩)
    have e:cC_ (q i) (j+1)=some b:=by unfold cC_;rw[hb];exact if_neg hlt2
    rw[e]
 ·have:j=(q i).length:=o_
  subst this
  exact hR v hg
theorem u9_ {l:List Nat} {s:Sl} (h:Rd w 1 s (c8_ l)) {b:Nat} (hb:b<l.length):s.A.isSome=true∧w.cell? ((gA s.A).add (b*1))=some (.int .u16 ((l.getD b 0:Nat):Int)):=by
 obtain⟨h1,h2⟩:=h0_ h (i:=b) (by rw[c9_];exact hb)
 refine⟨h1,h2.trans ?_⟩
 unfold c8_;rw[List.getElem_map,List.getD_eq_getElem?_getD,List.getElem?_eq_getElem hb];rfl
theorem ow_ {R:Int→Bool→W_} (h:IsQ w N qb q) (hi:i<8) (hR:∀w',ab_ w w'→match cD_ (q i) with|none=>R 0 false w'|some c=>R (c:Int) true w'):fP_ (some ⟨qb,0,none⟩) (i:Int) w R:=by
 refine d3_.calls _ _ _ _ (nm_ h hi fun w' g=>?_)
 have hR:=hR w' g
 unfold cD_ at hR
 have h:=h.grow g
 cases hb:cC_ (q i) (q i).length with
 | none=>rw[hb] at hR;exact am_ rfl hR
 | some b=>
  rw[hb] at hR
  have hbl:=kL_ _ _ _ hb
  refine aj_ (by simp) ?_
  dsimp only
  obtain⟨⟨ss,h1,h2,h3⟩,h4⟩:=h
  have hi':i<ss.length:=o_
  have hr:=h3 i hi'
  have hlen:(q i).length=ss[i].n:=by have:=hr.rd.len;rw[c9_] at this;omega
  obtain⟨ha,hc⟩:=u9_ hr.rd hbl
  exact⟨rfl,⟨o_,o_⟩,ss[i],lw_ ss h2 hi',⟨o_,o_,ha⟩,_,by rw[Int.toNat_natCast];exact hc,hR⟩
theorem IsQ.put (h:IsQ w N qb q) (hi:i<8) (hN:N qb) {s:Sl} {l:List Nat} (hs:RdN w N cq_ 1 s (c8_ l)) (hl:l.length≤8∧∀c∈l,c<65536) {K:W_}
  (hK:∀w',aa_ (fun k=>k=qb) w w'→w'.heap.size=w.heap.size→IsQ w' N qb (fun j=>if j=i then l else q j)→K w'):Put (((gA (some (⟨qb,0,none⟩:Addr))).add 0).add ((i:Int).toNat*1)) (.slice s.A s.n s.c) w K:=by
 obtain⟨⟨ss,h1,h2,h3⟩,h4⟩:=h
 rw[gA,aq_,aq_,Int.toNat_natCast]
 refine a0_ h2 (by simp;omega) rfl fun w1 hb1 hk1 hs1=>hK w1 hk1 hs1 ⟨⟨ss.set i s,by rw[List.length_set];exact h1,?_,fun j hj=>?_⟩,fun j hj=>?_⟩
 ·rw[List.map_set]
  have:(ss.map slv).toArray.setIfInBounds (0+0+i*1) (.slice s.A s.n s.c)=((ss.map slv).set i (slv s)).toArray:=by rw[List.setIfInBounds_toArray];simp[slv]
  rw[←this];exact hb1
 ·have st:∀{s:Sl} {vs:List Value},RdN w N cq_ 1 s vs→RdN w1 N cq_ 1 s vs:=fun r=>r.step (.inl rfl) hk1 (a6_.sub fun b _ q=>by rw[q];exact hN) fun _ q=>.inl q
  by_cases e:j=i
  ·subst e
   rw[List.getElem_set_self,if_pos rfl]
   exact st hs
  ·rw[List.getElem_set_ne (fun q=>e q.symm),if_neg e]
   exact st (h3 j _)
 ·by_cases e:j=i
  ·subst e;rw[if_pos rfl];exact hl
  ·rw[if_neg e];exact h4 j hj
theorem rD_ (w:World) (n:Int):(Instr.buildSlice qQ_ 1 #[(0,.int .u16 n)]).run Tryz.prog w=.ok (.slice (some ⟨w.heap.size,0,none⟩) 1 1) (w.alloc (.cells #[.int .u16 n] cq_)):=k_
theorem kO_ {c:Nat} {R:W_} (h:IsQ w N qb q) (hi:i<8) (hc:c<65536) (hN:N qb) (hNl:∀b,N b→b<w.heap.size)
  (hR:∀w',aa_ (fun k=>k=qb) w w'→IsQ w' N qb (fun j=>if j=i then bd_ (q i) c else q j)→R w'):c4_ (some ⟨qb,0,none⟩) (i:Int) (c:Int) w R:=by
 refine eD_.calls _ _ _ _ _ (qa_ hi (aj_ rfl ?_))
 have hq:=h
 have hok:=wn_ (l:=q i) (c:=c) (h.few i hi).1 hc (h.few i hi).2
 obtain⟨⟨ss,h1,h2,h3⟩,h4⟩:=h
 have hi':i<ss.length:=o_
 have hr:=h3 i hi'
 have hlen:(q i).length=ss[i].n:=by have:=hr.rd.len;rw[c9_] at this;omega
 have hsm:=(h4 i hi).1
 refine⟨rfl,⟨o_,o_⟩,ss[i],lw_ ss h2 hi',?_⟩
 have same:bd_ (q i) c=q i→R w:=fun e=>hR w (aa_.refl _ _) (by
  have:(fun j=>if j=i then bd_ (q i) c else q j)=q:=by
   funext j
   by_cases e':j=i
   ·subst e';rw[if_pos rfl,e]
   ·rw[if_neg e']
  rw[this];exact hq)
 refine bc_ (fun(l:Sl) v=>v=w∧RdN w N cq_ 1 l (c8_ (iu_ (q i) c))) ?_ (fun J=>?_)
 ·rintro l v ⟨rfl,hl⟩
  generalize hB:iu_ (q i) c=B at *
  have hBn:B.length=l.n:=by have:=hl.rd.len;rw[c9_] at this;omega
  have hB8:B.length≤8:=by rw[←hB];unfold iu_;split;exact Nat.zero_le _;exact hsm
  have hA:bd_ (q i) c=if c∈B then q i else if B.length<8 then B++[c] else q i:=by unfold bd_;rw[hB]
  refine⟨fun x u=>∃j:Nat,x=j∧j≤B.length∧u=v∧∀t,t<j→B.getD t 0≠c,fun x _=>l.n-x.toNat,⟨0,rfl,Nat.zero_le _,rfl,fun t ht=>o_⟩,?_⟩
  rintro x u ⟨j,rfl,hj,rfl,hno⟩
  refine bl_ (fun hlt=>?_) (fun hge=>?_)
  ·have hjl:j<B.length:=o_
   obtain⟨ha,hcl⟩:=u9_ hl.rd hjl
   refine⟨⟨o_,o_,ha⟩,_,by rw[Int.toNat_natCast];exact hcl,?_⟩
   refine as_ (fun e=>?_) (fun e=>?_)
   ·refine same ?_
    rw[hA,if_pos]
    have:B.getD j 0=c:=o_
    rw[←this,List.getD_eq_getElem?_getD,List.getElem?_eq_getElem hjl]
    exact List.getElem_mem hjl
   ·rw[w64 o_ o_]
    refine⟨⟨j+1,o_,o_,rfl,fun t ht=>?_⟩,by dsimp only;omega⟩
    by_cases q:t=j
    ·subst q;omega
    ·exact hno t o_
  ·have hnm:¬c∈B:=fun hm=>by
    obtain⟨t,ht,e⟩:=List.getElem_of_mem hm
    refine hno t o_ ?_
    rw[List.getD_eq_getElem?_getD,List.getElem?_eq_getElem ht];exact e
   rw[if_neg hnm] at hA
   have d8:(decide ((l.n:Int)<8))=decide (B.length<8):=by rw[hBn,decide_eq_decide];omega
   rw[d8]
   refine a2_ (fun h8=>?_) (fun h8=>same (by rw[hA,if_neg h8]))
   rw[if_pos h8] at hA
   rintro u1 rfl
   have hgd:=ak_ u
   have hNd:∀b,N b→b<u.drew.heap.size:=fun b hb=>by have:=hNl b hb;have:=hgd.size;omega
   have hqd:=hq.grow hgd
   have hld:RdN u.drew N cq_ 1 l (c8_ B):=hl.grow hgd
   generalize u.drew=u1 at *
   rw[hA] at hR hok
   have fin:∀{u3:World} {x3:Sl},ab_ u1 u3→CF.Own u3 u1.heap.size cq_ 1 x3 (c8_ (B++[c]))→(0≤(i:Int)∧(i:Int)<(8:Int))∧Put (((gA (some (⟨qb,0,none⟩:Addr))).add 0).add ((i:Int).toNat*1)) (.slice x3.A x3.n x3.c) u3 fun w08=>R w08:=fun {u3 x3} g o=>by
    have hx:x3.n=(B++[c]).length:=by have:=o.len;rw[c9_] at this;omega
    refine⟨⟨o_,o_⟩,(hqd.grow g).put hi hN (o.rdN (by rw[hx];simp;omega) hNd) hok fun w' hk hs hq'=>hR w' (g3_ (hgd.trans g) hk) hq'⟩
   refine⟨rfl,?_,?_⟩
   ·refine aZ_ (base:=u1.heap.size) eV_ hd_ rfl d_ d_ (aH_ _ _ _ _) hld.rd (kM_ _) (by show(0+l.n)*2≤_;omega) (Nat.le_refl _) fun x1 v1 hn1 ho1 hk1 _=>?_
    have g1:ab_ u1 v1:=hk1.mono fun i hi q=>by simp[Sl.blk] at q
    refine aN_ (cells:=#[.int .u16 (c:Int)]) (e:=cq_) (z:=1) (base:=v1.heap.size) (rD_ _ _) rfl d_ (Nat.le_refl _) fun v2 ho2 hg2 _=>?_
    refine aZ_ eV_ hd_ rfl d_ d_ (ho1.grow hg2) (ho2.rd (by show 1≤_;decide)) (by simp[Value.oneCell']) (by rw[hn1];show(0+l.n+1)*2≤_;omega) (by have:=g1.size;have:=hg2.size;omega) fun x3 v3 hn3 ho3 hk3 _=>?_
    exact fin (eu_ (g1.trans hg2) (ho1.grow hg2) (Nat.le_refl _) hk3) (by rw[jJ_];exact ho3)
   ·refine aN_ (cells:=#[.int .u16 (c:Int)]) (e:=cq_) (z:=1) (base:=u1.heap.size) (rD_ _ _) rfl d_ (Nat.le_refl _) fun v1 ho1 hg1 _=>?_
    have hl1:Rd v1 1 l (c8_ B):=hld.rd.grow hg1
    refine aZ_ (base:=u1.heap.size) eV_ hd_ rfl d_ d_ (aH_ _ _ _ _) hl1 (kM_ _) (by show(0+l.n)*2≤_;omega) hg1.size fun x2 v2 hn2 ho2 hk2 _=>?_
    have g2:ab_ v1 v2:=hk2.mono fun i hi q=>by simp[Sl.blk] at q
    refine aZ_ eV_ hd_ rfl d_ d_ ho2 ((ho1.grow g2).rd (by show 1≤_;decide)) (by simp[Value.oneCell']) (by rw[hn2];show(0+l.n+1)*2≤_;omega) (by have:=g2.size;have:=hg1.size;omega) fun x3 v3 hn3 ho3 hk3 _=>?_
    exact fin (eu_ (hg1.trans g2) ho2 (Nat.le_refl _) hk3) (by rw[jJ_];exact ho3)
 ·have ec:((c:Int)==10496)=decide (c=10496):=by rw[Bool.eq_iff_iff,beq_iff_eq,decide_eq_true_eq];omega
  rw[ec]
  refine a2_ (fun e=>J _ _ ⟨rfl,by unfold iu_;rw[if_pos e];exact RdN.nil _ _ _ _⟩) (fun e=>J _ _ ⟨rfl,by unfold iu_;rw[if_neg e];exact hr⟩)
end
open Go CF
section
variable {w u:World} {N N' S:Nat→Prop} {qb i:Nat} {q:Nat→List Nat}
theorem va_ {α:Type} (q:Nat→α) (i:Nat) {v:α} (e:v=q i):(fun j=>if j=i then v else q j)=q:=by
 funext j
 by_cases e':j=i
 ·subst e';rw[if_pos rfl,e]
 ·rw[if_neg e']
theorem ox_ (l:List Nat) (k:Nat):(c8_ l).take k=c8_ (l.take k):=List.map_take.symm
theorem tR_ (l:List Nat) (k:Nat):(c8_ l).drop k=c8_ (l.drop k):=List.map_drop.symm
theorem lx_ {R:Int→Bool→W_} (h:IsQ w N qb q) (hi:i<8) (hN:N qb) (hNl:∀b,N b→b<w.heap.size)
  (hR:∀w',aa_ (fun k=>k=qb) w w'→IsQ w' N qb (fun j=>if j=i then fL_ (q i) else q j)→match cD_ (q i) with|none=>R 0 false w'|some c=>R (c:Int) true w'):dS_ (some ⟨qb,0,none⟩) (i:Int) w R:=by
 refine d4_.calls _ _ _ _ (nm_ h hi fun w' g=>?_)
 have hq:=h.grow g
 have hokn:=u8_ (h.few i hi).1 (h.few i hi).2
 unfold cD_ at hR
 cases hb:cC_ (q i) (q i).length with
 | none=>
  rw[hb] at hR
  have e:fL_ (q i)=q i:=by unfold fL_;rw[hb]
  refine am_ rfl (hR w' (g.mono fun _ _ q=>q.elim) ?_)
  rw[va_ q i e];exact hq
 | some b=>
  rw[hb] at hR
  have e:fL_ (q i)=(q i).take b++(q i).drop (b+1):=by unfold fL_;rw[hb]
  rw[e] at hR hokn
  have hbl:=kL_ _ _ _ hb
  refine aj_ (by simp) ?_
  dsimp only
  have hsm:=(h.few i hi).1
  obtain⟨⟨ss,h1,h2,h3⟩,h4⟩:=hq
  have hi':i<ss.length:=o_
  have hr:=h3 i hi'
  have hlen:(q i).length=ss[i].n:=by have:=hr.rd.len;rw[c9_] at this;omega
  have hcap:=hr.rd.cap
  obtain⟨ha,hc⟩:=u9_ hr.rd hbl
  refine⟨rfl,⟨o_,o_⟩,ss[i],lw_ ss h2 hi',⟨o_,o_,ha⟩,_,by rw[Int.toNat_natCast];exact hc,?_⟩
  rintro u1 rfl
  have hgd:=ak_ w'
  have hNd:∀b,N b→b<w'.drew.heap.size:=fun b hb=>by have:=hNl b hb;have:=hgd.size;have:=g.size;omega
  have hqd:=(h.grow g).grow hgd
  have hld:Rd w'.drew 1 ss[i] (c8_ (q i)):=hr.rd.grow hgd
  generalize w'.drew=u1 at *
  have ew:IntKind.wrap .i64 ((b:Int)+1)=((b+1:Nat):Int):=by rw[w64 o_ o_];omega
  rw[ew,Int.toNat_natCast,Int.toNat_natCast,Int.toNat_natCast]
  have c1:Rd u1 1 ⟨aM_ ss[i].A ss[i].c 0 1,b-0,ss[i].c-0⟩ (c8_ ((q i).take b)):=by
   have:=hld.cut (l:=0) (k:=b) (Nat.zero_le _) o_
   simpa [ox_] using this
  have c2:Rd u1 1 ⟨aM_ ss[i].A ss[i].c (b+1) 1,ss[i].n-(b+1),ss[i].c-(b+1)⟩ (c8_ ((q i).drop (b+1))):=by
   have:=hld.cut (l:=b+1) (k:=ss[i].n) o_ (Nat.le_refl _)
   rw[Nat.mul_one,Nat.mul_one,tR_,ox_] at this
   rwa [List.take_of_length_le (by rw[List.length_drop];omega)] at this
  refine⟨⟨o_,o_,o_,hcap⟩,⟨o_,o_,o_,hcap⟩,rfl,?_⟩
  refine aZ_ (base:=u1.heap.size) eV_ hd_ rfl d_ d_ (aH_ _ _ _ _) c1 (kM_ _) (by show(0+(b-0))*2≤_;omega) (Nat.le_refl _) fun x1 v1 hn1 ho1 hk1 _=>?_
  have g1:ab_ u1 v1:=hk1.mono fun i hi q=>by simp[Sl.blk] at q
  refine aZ_ eV_ hd_ rfl d_ d_ ho1 (c2.grow g1) (kM_ _) (by rw[hn1];show(0+(b-0)+(ss[i].n-(b+1)))*2≤_;omega) g1.size fun x3 v3 hn3 ho3 hk3 _=>?_
  have g3:=eu_ g1 ho1 (Nat.le_refl _) hk3
  have ho3:CF.Own v3 u1.heap.size cq_ 1 x3 (c8_ ((q i).take b++(q i).drop (b+1))):=by rw[jJ_];exact ho3
  have hx:x3.n≤8:=by have:=ho3.len;rw[c9_] at this;omega
  refine⟨⟨o_,o_⟩,(hqd.grow g3).put hi hN (ho3.rdN o_ hNd) hokn fun w'' hk hs hq'=>hR w'' (g3_ ((g.trans hgd).trans g3) hk) hq'⟩
theorem q1_ {but:Int} {c:Nat} {R:W_} (h:IsQ w N qb q) (hc:c<65536) (hN:N qb) (hNl:∀b,N b→b<w.heap.size)
  (hR:∀w',aa_ (fun k=>k=qb) w w'→IsQ w' N qb (fun j=>if (j:Int)≠but∧j<8 then bd_ (q j) c else q j)→R w'):co_ (some ⟨qb,0,none⟩) but (c:Int) w R:=by
 refine dc_.calls _ _ _ _ _ ?_
 refine⟨fun x v=>∃j:Nat,x=j∧j≤8∧aa_ (fun k=>k=qb) w v∧IsQ v N qb (fun t:Nat=>if (t:Int)≠but∧t<j then bd_ (q t) c else q t),fun x _=>8-x.toNat,⟨0,rfl,d_,aa_.refl _ _,?_⟩,?_⟩
 ·have:(fun t:Nat=>if (t:Int)≠but∧t<0 then bd_ (q t) c else q t)=q:=by funext t;rw[if_neg o_]
  rw[this];exact h
 rintro x v ⟨j,rfl,hj,hk,hq⟩
 refine bl_ (y:=8) (fun hlt=>?_) (fun hge=>?_)
 ·refine cu_ (fun v'=>aa_ (fun k=>k=qb) w v'∧IsQ v' N qb (fun t=>if (t:Int)≠but∧t<j+1 then bd_ (q t) c else q t)) (fun v' hv=>?_) (fun J=>?_)
  ·rw[w64 o_ o_]
   exact⟨⟨j+1,o_,o_,hv.1,hv.2⟩,by dsimp only;omega⟩
  ·refine hp_ (fun hne=>?_) (fun he=>?_)
   ·refine kO_ hq hlt hc hN (fun b hb=>by have:=hNl b hb;have:=hk.size;omega) fun v' hk' hq'=>J _ ⟨hk.trans hk' fun _ _ q=>q,?_⟩
    have:(fun t:Nat=>if t=j then bd_ (if (j:Int)≠but∧j<j then bd_ (q j) c else q j) c else if (t:Int)≠but∧t<j then bd_ (q t) c else q t)=(fun t:Nat=>if (t:Int)≠but∧t<j+1 then bd_ (q t) c else q t):=by
     funext t
     by_cases e:t=j
     ·subst e;rw[if_pos rfl,if_neg o_,if_pos ⟨hne,o_⟩]
     ·rw[if_neg e]
      by_cases e2:(t:Int)≠but∧t<j
      ·rw[if_pos e2,if_pos ⟨e2.1,o_⟩]
      ·rw[if_neg e2,if_neg o_]
    rw[←this];exact hq'
   ·refine J _ ⟨hk,?_⟩
    have:(fun t:Nat=>if (t:Int)≠but∧t<j then bd_ (q t) c else q t)=(fun t:Nat=>if (t:Int)≠but∧t<j+1 then bd_ (q t) c else q t):=by
     funext t
     by_cases e2:(t:Int)≠but∧t<j
     ·rw[if_pos e2,if_pos ⟨e2.1,o_⟩]
     ·rw[if_neg e2,if_neg o_]
    rw[←this];exact hq
 ·have:j=8:=o_
  subst this
  exact hR v hk hq
end
open Go CF
structure aT_ where
 regs:List (Nat×Nat)
 gen:Nat
 kind:Nat
 holder:Int
 lasts:Bool
def rgc (r:Nat×Nat):List Value:=[.int .i64 (r.1:Int),.int .u64 (r.2:Int)]
theorem rE_ (r:Nat×Nat):(rgc r).length=2:=rfl
def rgv (l:List (Nat×Nat)):List Value:=l.flatMap rgc
def bM_ (s:Sl) (t:aT_):A_:=#[.slice s.A s.n s.c,.int .u32 (t.gen:Int),.int .u8 (t.kind:Int),.int .i64 t.holder,.bool t.lasts]
structure cv_ (t:aT_):Prop where
 few:t.regs.length≤8
 sorted:t.regs.Pairwise fun a b=>a.1<b.1
 regs:∀r∈t.regs,r.1<8∧0<r.2∧r.2<18446744073709551616
 gen:t.gen<4294967296
 kind:t.kind<256
 holder : -1≤t.holder∧t.holder<8
structure IsT (w:World) (N:Nat→Prop) (tb:Nat) (t:aT_):Prop where
 rep:∃s:Sl,Blk w tb (bM_ s t) bQ_∧RdN w N ax_ 2 s (rgv t.regs)
 ok:cv_ t
def t0:aT_:=⟨[],0,0,-1,false⟩
def allK (k:Nat):Bool:=k==7||k==8
def ep_ (k:Nat):Bool:=k==1||k==3||(Nat.ble 5 k&&Nat.ble k 8)
def eq_ (t:aT_) (n:Nat):Option Nat:=(t.regs.find? fun r=>r.1==n).map (·.2)
def cy_ (t:aT_) (n:Nat):Bool:=if t.kind=0 then false else if allK t.kind then(eq_ t n).isSome else decide (t.holder=n)
def bN_ (t:aT_) (n c:Nat):Bool:=
 if t.kind=0∨c=0∨cy_ t n=true then false
 else if t.kind=1 then decide (c≠1) else if t.kind=3 then true else if t.kind=5∨t.kind=7 then decide (c≠1) && !(eq_ t n).isSome else !(eq_ t n).isSome
def aB_ (t:aT_):Nat×Int:=if t.kind=0 then(0,-1) else if allK t.kind then(t.kind,-1) else(t.kind,t.holder)
structure aU_ where
 wce:Bool
 ds:Bool
 swp:Bool
def vlv (v:aU_):List Value:=[.bool v.wce,.bool v.ds,.bool v.swp]
abbrev IsP (w:World) (pb:Nat) (now saved:aU_):Prop:=Blk w pb (vlv now++vlv saved).toArray iN_
def v0:aU_:=⟨true,false,false⟩
def fs_ (k:Nat):Nat:=if k=1∨k=7∨k=10∨k=5 then 1 else if k=8∨k=9∨k=12∨k=13∨k=14∨k=4∨k=11∨k=18 then 2 else 0
def eY_ (k:Nat):Bool:=decide (k=8∨k=9∨k=12∨k=13∨k=14)
section
variable {w u:World} {N N' S:Nat→Prop} {tb n:Nat} {t:aT_}
theorem IsT.step (h:IsT w N tb t) (k:aa_ S w u) (hS:a6_ w N S) (hq:¬S tb) (hN:∀b,N' b→N b∨w.heap.size≤b):IsT u N' tb t:=by
 obtain⟨⟨s,h1,h2⟩,h3⟩:=h
 exact⟨⟨s,k.heap h1 hq,h2.step (.inr (.inl rfl)) k hS hN⟩,h3⟩
theorem IsT.grow (h:IsT w N tb t) (k:ab_ w u):IsT u N tb t:=h.step k (a6_.none _ _) (fun q=>q) fun _ q=>.inl q
theorem IsT.lt (h:IsT w N tb t):tb<w.heap.size:=by obtain⟨⟨s,h1,h2⟩,h3⟩:=h;exact aw_ h1
theorem tS_:cv_ t0:=⟨d_,List.Pairwise.nil,fun r hr=>(by cases hr),d_,d_,d_⟩
theorem cp_ {s:Sl} (h:Blk w tb (bM_ s t) bQ_) {o:Nat} {v:Value} (e:(bM_ s t)[o]?=some v):w.cell? ((gA (some (⟨tb,0,none⟩:Addr))).add o)=some v:=by
 rw[gA,aq_,h.cell,Nat.zero_add];exact e
theorem bG_ (l:List (Nat×Nat)):(rgv l).length=l.length*2:=cY_ rE_ l
theorem nn_ {s:Sl} {l:List (Nat×Nat)} (h:Rd w 2 s (rgv l)) {i:Nat} (hi:i<l.length):∃a,s.A=some a∧bY_ w (a.add (i*2)) (rgc l[i]):=by
 have hn:i<s.n:=by have:=h.len;rw[bG_] at this;omega
 obtain⟨a,ha,hc⟩:=h.elem hn d_
 refine⟨a,ha,?_⟩
 have:=gC_ rE_ (l:=l) hi
 unfold rgv at hc
 rw[this] at hc;exact hc
theorem kP_ {R:Int→Bool→W_} (h:IsT w N tb t) (hR:∀w',ab_ w w'→match eq_ t n with|some k=>R (k:Int) true w'|none=>R 0 false w'):cF_ (some ⟨tb,0,none⟩) (n:Int) w R:=by
 refine eQ_.calls _ _ _ _ ?_
 obtain⟨⟨s,h1,h2⟩,h3⟩:=h
 have hsn:t.regs.length=s.n:=by have:=h2.rd.len;rw[bG_] at this;omega
 have hfew:=h3.few
 refine⟨rfl,s,cp_ h1 rfl,?_⟩
 refine⟨fun x v=>∃j:Nat,x=j∧j≤t.regs.length∧ab_ w v∧(t.regs.find? fun r=>r.1==n)=((t.regs.drop j).find? fun r=>r.1==n),fun x _=>s.n-x.toNat,⟨0,rfl,Nat.zero_le _,aa_.refl _ _,rfl⟩,?_⟩
 rintro x v ⟨j,rfl,hj,hg,he⟩
 refine bl_ (fun hlt=>?_) (fun hge=>?_)
 ·have hjl:j<t.regs.length:=o_
  rw[List.drop_eq_getElem_cons hjl] at he
  obtain⟨a,ha,hc⟩:=nn_ (h2.rd.grow hg) hjl
  refine⟨⟨o_,o_,by rw[ha];rfl⟩,(rgc t.regs[j]).toArray,by rw[ha,Int.toNat_natCast];exact aE_ gG_ cZ_ rfl hc,?_⟩
  refine ag_ fun rb v1 hrb hb1 hg1 hs1=>ap_ (cells:=(rgc t.regs[j]).toArray) hb1 cZ_ rfl rfl (by simp[rgc,Value.oneCell']) fun v2 hb2 hk2 hs2=>?_
  have hg2:ab_ v v2:=hg1.keep hk2 fun i hi q=>o_
  refine⟨(t.regs[j].1:Int),by rw[aq_,hb2.cell];rfl,?_⟩
  refine as_ (fun e=>?_) (fun e=>?_)
  ·refine⟨(t.regs[j].2:Int),by rw[aq_,hb2.cell];rfl,?_⟩
   have hR:=hR v2 (hg.trans hg2)
   have e2:(t.regs[j].1==n)=true:=by rw[beq_iff_eq];omega
   have:eq_ t n=some t.regs[j].2:=by unfold eq_;rw[he,List.find?_cons,e2];rfl
   rw[this] at hR;exact hR
  ·have e2:(t.regs[j].1==n)=false:=by rw[beq_eq_false_iff_ne];omega
   rw[List.find?_cons,e2] at he
   rw[w64 o_ o_]
   exact⟨⟨j+1,o_,o_,hg.trans hg2,he⟩,by dsimp only;omega⟩
 ·have:j=t.regs.length:=o_
  subst this
  rw[List.drop_length] at he
  have hR:=hR v hg
  have:eq_ t n=none:=by unfold eq_;rw[he];rfl
  rw[this] at hR;exact hR
theorem dD_ {k:Nat} {R:Bool→W_} (h:R (allK k) w):eT_ (k:Int) w R:=by
 refine jZ_.calls _ _ _ ?_
 unfold jZ_
 have e:(((k:Int)==7)||((k:Int)==8))=allK k:=by unfold allK;rw[Bool.eq_iff_iff];simp only[Bool.or_eq_true,beq_iff_eq];omega
 rw[e];exact h
theorem iR_ {k:Nat} {R:Bool→W_} (h:R (ep_ k) w):gF_ (k:Int) w R:=by
 refine hX_.calls _ _ _ ?_
 unfold hX_
 have e:(((((k:Int)==1)||((k:Int)==3))||((decide ((k:Int)≥5))&&(decide ((k:Int)≤8)))))=ep_ k:=by
  unfold ep_;rw[Bool.eq_iff_iff];simp only[Bool.or_eq_true,beq_iff_eq,Bool.and_eq_true,decide_eq_true_eq,Nat.ble_eq];omega
 rw[e];exact h
theorem iS_ {R:Bool→W_} (h:IsT w N tb t) (hR:∀w',ab_ w w'→R (cy_ t n) w'):dm_ (some ⟨tb,0,none⟩) (n:Int) w R:=by
 refine e8_.calls _ _ _ _ ?_
 have hT:=h
 obtain⟨⟨s,h1,h2⟩,h3⟩:=h
 refine⟨fun _=>rfl,(t.kind:Int),fun _=>cp_ h1 rfl,?_⟩
 unfold cy_ at hR
 have e0:((some (⟨tb,0,none⟩:Addr)).isNone||((t.kind:Int)==0))=decide (t.kind=0):=by rw[Bool.eq_iff_iff];simp
 rw[e0]
 refine a2_ (fun q=>?_) (fun q=>?_)
 ·have:=hR w (aa_.refl _ _);rw[if_pos q] at this;exact this
 refine⟨rfl,(t.kind:Int),cp_ h1 rfl,dD_ ?_⟩
 cases ha:allK t.kind with
 | true=>
  refine am_ rfl (kP_ hT fun w' g=>?_)
  have:=hR w' g
  rw[if_neg q,ha,if_pos rfl] at this
  cases hk:eq_ t n with
  | some k=>rw[hk] at this;exact this
  | none=>rw[hk] at this;exact this
 | false=>
  refine aj_ rfl ⟨rfl,t.holder,cp_ h1 rfl,?_⟩
  have:=hR w (aa_.refl _ _)
  rw[if_neg q,ha,if_neg d_] at this
  have e:(t.holder==(n:Int))=decide (t.holder=n):=rfl
  rw[e];exact this
theorem k6_ {c:Nat} {R:Bool→W_} (h:IsT w N tb t) (hR:∀w',ab_ w w'→R (bN_ t n c) w'):cw_ (some ⟨tb,0,none⟩) (n:Int) (c:Int) w R:=by
 refine dt_.calls _ _ _ _ _ ?_
 have hT:=h
 obtain⟨⟨s,h1,h2⟩,h3⟩:=h
 refine⟨fun _=>rfl,(t.kind:Int),fun _=>cp_ h1 rfl,?_⟩
 have e0:((((some (⟨tb,0,none⟩:Addr)).isNone)||((t.kind:Int)==0))||((c:Int)==0))=decide (t.kind=0∨c=0):=by rw[Bool.eq_iff_iff];simp
 rw[e0]
 refine cm_ (fun b v=>ab_ w v∧(t.kind=0∨c=0∨b=cy_ t n)) ?_ (fun J=>⟨fun q=>?_,fun q=>?_⟩)
 ·rintro b v ⟨hg,hb⟩
  have hR':=hR
  unfold bN_ at hR'
  by_cases q:t.kind=0∨c=0∨cy_ t n=true
  ·have:=hR' v hg
   rw[if_pos q] at this
   refine am_ ?_ this
   rw[Bool.or_eq_true,decide_eq_true_eq]
   rcases q with q|q|q
   ·exact .inl (.inl q)
   ·exact .inl (.inr q)
   ·rcases hb with hb|hb|hb
    ·exact .inl (.inl hb)
    ·exact .inl (.inr hb)
    ·exact .inr (hb.trans q)
  ·have hk0:t.kind≠0:=fun r=>q (.inl r)
   have hc0:c≠0:=fun r=>q (.inr (.inl r))
   have hb':b=cy_ t n:=by rcases hb with hb|hb|hb;exact absurd hb hk0;exact absurd hb hc0;exact hb
   have hbf:b=false:=by rw[hb'];cases hh:cy_ t n with|true=>exact absurd (.inr (.inr hh)) q|false=>rfl
   refine aj_ (by rw[hbf,Bool.or_false,decide_eq_false_iff_not];omega) ?_
   refine kP_ (hT.grow hg) fun v' g=>?_
   have hf:=hR' v' (hg.trans g)
   rw[if_neg q] at hf
   have h1':Blk v' tb (bM_ s t) bQ_:=(hg.trans g).heap h1 (fun q=>q)
   have ec:((c:Int) != 1)=decide (c≠1):=by rw[Bool.eq_iff_iff,bne_iff_ne,decide_eq_true_eq];omega
   have fin:∀{m:Int} {b1:Bool},b1=(eq_ t n).isSome→(some (⟨tb,0,none⟩:Addr)).isSome=true∧∃n2:Int,v'.cell? ((gA (some (⟨tb,0,none⟩:Addr))).add 2)=some (.int .u8 n2)∧Br (n2==1) (R ((c:Int) != 1) v') (Br (n2==3) (R true v') (Br (n2==5) (Br (n2==5) (R (((c:Int) != 1)&&(!b1)) v') (R (!b1) v')) (Br (n2==7) (R (((c:Int) != 1)&&(!b1)) v') (R (!b1) v')))):=fun {m b1} e=>by
    refine⟨rfl,(t.kind:Int),cp_ h1' rfl,?_⟩
    rw[e,ec]
    refine as_ (fun k=>?_) (fun k1=>as_ (fun k=>?_) (fun k3=>as_ (fun k=>am_ (by rw[beq_iff_eq];exact k) ?_) (fun k5=>as_ (fun k=>?_) (fun k7=>?_))))
    ·rw[if_pos o_] at hf;exact hf
    ·rw[if_neg o_,if_pos o_] at hf;exact hf
    ·rw[if_neg o_,if_neg o_,if_pos o_] at hf;exact hf
    ·rw[if_neg o_,if_neg o_,if_pos o_] at hf;exact hf
    ·rw[if_neg o_,if_neg o_,if_neg o_] at hf;exact hf
   cases hk:eq_ t n with
   | some k=>exact fin (m:=0) (by rw[hk];rfl)
   | none=>exact fin (m:=0) (by rw[hk];rfl)
 ·have q':¬(t.kind=0∨c=0):=by simpa using q
  exact iS_ hT fun v g=>J _ _ ⟨g,.inr (.inr rfl)⟩
 ·have q':t.kind=0∨c=0:=by
   rw[Bool.not_eq_false',decide_eq_true_eq] at q;exact q
  exact J _ _ ⟨aa_.refl _ _,by rcases q' with q'|q';exact .inl q';exact .inr (.inl q')⟩
theorem jr_ {R:Int→Int→W_} (h:IsT w N tb t) (hR:∀w',ab_ w w'→R ((aB_ t).1:Int) (aB_ t).2 w'):dj_ (some ⟨tb,0,none⟩) w R:=by
 refine du_.calls _ _ _ ?_
 obtain⟨⟨s,h1,h2⟩,h3⟩:=h
 refine⟨fun _=>rfl,(t.kind:Int),fun _=>cp_ h1 rfl,?_⟩
 unfold aB_ at hR
 have e0:((some (⟨tb,0,none⟩:Addr)).isNone||((t.kind:Int)==0))=decide (t.kind=0):=by rw[Bool.eq_iff_iff];simp
 rw[e0]
 refine a2_ (fun q=>?_) (fun q=>?_)
 ·have:=hR w (aa_.refl _ _);rw[if_pos q] at this;exact this
 refine⟨rfl,(t.kind:Int),cp_ h1 rfl,dD_ ?_⟩
 cases ha:allK t.kind with
 | true=>
  refine am_ rfl ⟨rfl,(t.kind:Int),cp_ h1 rfl,?_⟩
  have:=hR w (aa_.refl _ _);rw[if_neg q,ha,if_pos rfl] at this;exact this
 | false=>
  refine aj_ rfl ?_
  rintro v rfl
  have hg:=ak_ w
  have h1':Blk w.drew tb (bM_ s t) bQ_:=hg.heap h1 (fun q=>q)
  generalize w.drew=v at *
  refine⟨fun o=>o=v,rfl,rfl,(t.kind:Int),fun o e=>by rw[e];exact cp_ h1' rfl,rfl,t.holder,fun o e=>by rw[e];exact cp_ h1' rfl,?_⟩
  have:=hR v hg;rw[if_neg q,ha,if_neg d_] at this;exact this
theorem rF_ (l:List (Nat×Nat)):∀v∈rgv l,v.oneCell'=true:=fun v hv=>by
 obtain⟨r,_,hr⟩:=List.mem_flatMap.1 hv
 simp[rgc] at hr
 rcases hr with rfl|rfl<;>rfl
theorem q2_ {R:Sl→W_} (h:IsT w N tb t) (hR:∀x w',ab_ w w'→Own w' w.heap.size ax_ 2 x (rgv t.regs)→R x w'):ha_ (some ⟨tb,0,none⟩) w R:=by
 refine fE_.calls _ _ _ (aj_ rfl ?_)
 obtain⟨⟨s,h1,h2⟩,h3⟩:=h
 have hsn:t.regs.length=s.n:=by have:=h2.rd.len;rw[bG_] at this;omega
 have hfew:=h3.few
 refine⟨rfl,s,cp_ h1 rfl,?_⟩
 refine aZ_ (base:=w.heap.size) ln_ cZ_ rfl d_ d_ (aH_ _ _ _ _) h2.rd (rF_ _) (by show(0+s.n)*16≤_;omega) (Nat.le_refl _) fun x w' hn ho hk _=>?_
 exact hR x w' (hk.mono fun i hi q=>by simp[Sl.blk] at q) ho
theorem ly_ {R:Bool→W_} (h:IsT w N tb t) (hR:R t.lasts w):e4_ (some ⟨tb,0,none⟩) w R:=by
 refine fa_.calls _ _ _ ?_
 obtain⟨⟨s,h1,h2⟩,h3⟩:=h
 exact⟨fun _=>rfl,t.lasts,fun _=>cp_ h1 rfl,by show R (true&&t.lasts) w;rw[Bool.true_and];exact hR⟩
theorem g4_ {R:A_→W_} (hR:∀w',ab_ w w'→R (vlv v0).toArray w'):df_ w R:=by
 refine gc_.calls _ _ (ag_ fun ab w1 hab hb1 hg1 hs1=>?_)
 exact ap_ (cells:=(vlv v0).toArray) hb1 a8_ rfl rfl (by simp[vlv,Value.oneCell']) fun w2 hb2 hk2 hs2=>⟨_,aE_ eM_ a8_ rfl (ar_ hb2),hR w2 (hg1.keep hk2 fun i hi q=>o_)⟩
theorem q3_ (u:World) (a b c:Bool):(Instr.build iN_ #[(0,.agg (vlv ⟨a,b,c⟩).toArray),(1,.agg (vlv ⟨a,b,c⟩).toArray)]).run Tryz.prog u=.ok (.agg (vlv ⟨a,b,c⟩++vlv ⟨a,b,c⟩).toArray) u:=k_
theorem gk_ {v:aU_} {R:O_→W_} (hR:∀pb w',ab_ w w'→w.heap.size≤pb→IsP w' pb v v→R (some ⟨pb,0,none⟩) w'):gD_ (vlv v).toArray w R:=by
 refine jf_.calls _ _ _ (ag_ fun ab w1 hab hb1 hg1 hs1=>?_)
 have hl:(loadVar aA_ ⟨ab,0,none⟩).run Tryz.prog w1=.ok (.agg (vlv v).toArray) w1:=aE_ (cs:=vlv v) eM_ a8_ rfl (ar_ hb1)
 refine⟨_,hl,_,hl,_,q3_ _ v.wce v.ds v.swp,ag_ fun pb w2 hpb hb2 hg2 hs2=>?_⟩
 exact hR pb w2 (hg1.trans hg2) o_ hb2
theorem hi_ {pb:Nat} {now saved:aU_} {R:A_→W_} (h:IsP w pb now saved) (hR:∀w',ab_ w w'→R (vlv now).toArray w'):bm_ (some ⟨pb,0,none⟩) w R:=by
 refine e7_.calls _ _ _ (ag_ fun ab w1 hab hb1 hg1 hs1=>aj_ rfl ?_)
 have hp1:Blk w1 pb (vlv now++vlv saved).toArray iN_:=hg1.heap h (fun q=>q)
 refine⟨rfl,(vlv now).toArray,aE_ eM_ a8_ rfl (fun j v hj=>?_),?_⟩
 ·rw[gA,aq_,aq_,hp1.cell,Nat.zero_add,List.getElem?_toArray]
  exact(List.getElem?_append_left (List.getElem?_eq_some_iff.1 hj).1).trans hj
 ·exact ap_ (cells:=(vlv now).toArray) hb1 a8_ rfl rfl (by simp[vlv,Value.oneCell']) fun w2 hb2 hk2 hs2=>⟨_,aE_ eM_ a8_ rfl (ar_ hb2),hR w2 (hg1.keep hk2 fun i hi q=>o_)⟩
end
open Go CF
theorem wo_ {file:ByteArray} {i j:Nat} (hi:i<2) (hj:j<2) (h:nmS file i=nmS file j):i=j:=by
 have h01:=xd_ file
 match i,j,hi,hj with
 | 0,0,_,_=>rfl
 | 0,1,_,_=>exact absurd h h01
 | 1,0,_,_=>exact absurd h.symm h01
 | 1,1,_,_=>rfl
theorem qb_ {F:a7_} {file:ByteArray} {i t o:Nat} {r:L8} (hi:i<2) (ht:t<2) (h:i≠t):bf_ (bF_ F (nmS file t) o r) file i=bf_ F file i:=by
 unfold bf_ bF_ mK_
 rw[if_neg (fun q=>h (wo_ hi ht q))]
theorem sy_ {F:a7_} {file:ByteArray} {t o:Nat} {r:L8}:bf_ (bF_ F (nmS file t) o r) file t=(wr ((F (nmS file t)).getD []) o r).take 4116:=by
 unfold bf_ bF_ mK_
 rw[if_pos rfl];rfl
theorem wp_ (f r:L8):∃x,wr f 0 r=r++x:=⟨_,by unfold wr;rw[List.take_zero,List.nil_append]⟩
theorem q4_ {F:a7_} {file:ByteArray} {t g:Nat} {p:L8} (hp:p.length≤4096):∃x,bf_ (bF_ F (nmS file t) 0 (bw_ g p)) file t=bw_ g p++x:=by
 rw[sy_]
 obtain⟨x,hx⟩:=wp_ ((F (nmS file t)).getD []) (bw_ g p)
 refine⟨x.take (4116-(bw_ g p).length),?_⟩
 rw[hx,List.take_append,List.take_of_length_le (by rw[hh_];omega)]
structure vb_ (F:a7_) (file:ByteArray) (s k:Nat) (p:L8):Prop where
 lt:s<2
 pos:0<k
 is:bV_ (bf_ F file s)=(k,p,0)
 old:(bV_ (bf_ F file (1-s))).2.2≠0∨(bV_ (bf_ F file (1-s))).1<k
def sz_ (F:a7_) (file:ByteArray):Prop:=∀i,i<2→(bV_ (bf_ F file i)).2.2≠0
theorem rG_ (F:a7_) (file:ByteArray):ldN F file 2=cb_ (cb_ (-1,0,[]) 0 (bf_ F file 0)) 1 (bf_ F file 1):=rfl
theorem oy_ {F:a7_} {file:ByteArray} (h:sz_ F file):ldN F file 2=(-1,0,[]):=by
 rw[rG_]
 have h0:=h 0 d_
 have h1:=h 1 d_
 have e:cb_ (-1,0,[]) 0 (bf_ F file 0)=(-1,0,[]):=if_neg (fun q=>h0 q.1)
 rw[e]
 exact if_neg (fun q=>h1 q.1)
theorem vc_ {F:a7_} {file:ByteArray} {s k:Nat} {p:L8} (h:vb_ F file s k p):ldN F file 2=((s:Int),k,p):=by
 rw[rG_]
 obtain⟨hs,hk,hi,ho⟩:=h
 match s,hs with
 | 0,_=>
  have e:cb_ (-1,0,[]) 0 (bf_ F file 0)=(0,k,p):=by
   unfold cb_;rw[hi,if_pos ⟨rfl,.inl d_⟩];rfl
  rw[e]
  refine if_neg fun q=>?_
  have q1:(bV_ (bf_ F file 1)).2.2=0:=q.1
  have q2:=q.2
  rcases ho with ho|ho
  ·exact ho q1
  ·rcases q2 with q2|q2
   ·exact absurd q2 (by show ¬((0:Int)<0);decide)
   ·have q2:k<(bV_ (bf_ F file 1)).1:=q2
    have ho:(bV_ (bf_ F file 1)).1<k:=ho
    omega
 | 1,_=>
  have ho:(bV_ (bf_ F file 0)).2.2≠0∨(bV_ (bf_ F file 0)).1<k:=ho
  have e:cb_ (-1,0,[]) 0 (bf_ F file 0)=(-1,0,[])∨(cb_ (-1,0,[]) 0 (bf_ F file 0)).2.1<k:=by
   unfold cb_
   rcases ho with ho|ho
   ·left;exact if_neg (fun q=>ho q.1)
   ·right
    split
    ·exact ho
    ·exact hk
  unfold cb_ at e ⊢
  rw[hi]
  refine(if_pos ⟨rfl,?_⟩).trans rfl
  rcases e with e|e
  ·rw[e];left;decide
  ·right;exact e
theorem oz_ {F:a7_} {file:ByteArray} {t k:Nat} {p:L8} (ht:t<2) (hp:p.length≤4096) (hk:k+1<18446744073709551616) (ho:(bV_ (bf_ F file (1-t))).2.2≠0∨(bV_ (bf_ F file (1-t))).1<k+1) :
  vb_ (bF_ F (nmS file t) 0 (bw_ (k+1) p)) file t (k+1) p:=by
 obtain⟨x,hx⟩:=q4_ (F:=F) (file:=file) (t:=t) (g:=k+1) hp
 refine⟨ht,o_,by rw[hx,u7_ hk hp],?_⟩
 rw[qb_ o_ ht o_]
 exact ho
theorem oA_ (file:ByteArray):sz_ (fun _=>none) file:=fun i _=>by
 show(bV_ []).2.2≠0
 decide
def AtS (F:a7_) (file:ByteArray) (a:Int) (k:Nat) (p:L8):Prop:=(a = -1∧k=0∧p = []∧sz_ F file)∨∃s:Nat,a=(s:Int)∧vb_ F file s k p
theorem AtS.ld {F:a7_} {file:ByteArray} {a:Int} {k:Nat} {p:L8} (h:AtS F file a k p):ldN F file 2=(a,k,p):=by
 rcases h with⟨rfl,rfl,rfl,h⟩|⟨s,rfl,h⟩
 ·exact oy_ h
 ·exact vc_ h
theorem AtS.save {F:a7_} {file:ByteArray} {a:Int} {k:Nat} {p q:L8} (h:AtS F file a k p) (hq:q.length≤4096) (hk:k+1<18446744073709551616) :
  AtS (bF_ F (nmS file (toS a)) 0 (bw_ (k+1) q)) file (toS a:Int) (k+1) q:=by
 refine .inr ⟨_,rfl,?_⟩
 rcases h with⟨rfl,rfl,rfl,h⟩|⟨s,rfl,h⟩
 ·exact oz_ (t:=0) d_ hq hk (.inl (h 1 d_))
 ·have hs:=h.lt
  have e:toS (s:Int)=1-s:=by unfold toS;split<;>omega
  rw[e]
  refine oz_ o_ hq hk (.inr ?_)
  rw[show 1-(1-s)=s by omega,h.is]
  exact Nat.lt_succ_self k
theorem xf_ (file:ByteArray):AtS (fun _=>none) file (-1) 0 []:=.inl ⟨rfl,rfl,rfl,oA_ _⟩
open Go CF
section
variable {H:Type} {enc:TypeId×Value→H} {w:World} {base:Nat} {spare:Nat→Bool} {held:Bool}
end
open Go CF
theorem no_ (w:World):(callFunc 288 #[]).run Tryz.prog w=.ok (.value (.tuple #[])) w:=run_call_mark0 Tryz.func288 k_ k_ k_ .disable k_ w
theorem oB_ (w:World):(callFunc 290 #[]).run Tryz.prog w=.ok (.value (.tuple #[])) w:=run_call_mark0 Tryz.func290 k_ k_ k_ .enable k_ w
theorem sA_ (a:Addr) (w:World):(callFunc 291 #[.pointer (some a)]).run Tryz.prog w=.ok (.value (.tuple #[])) w:=run_call_marked Tryz.func291 k_ k_ k_ .acquire k_ a w
theorem vd_ (a:Addr) (w:World):(callFunc 293 #[.pointer (some a)]).run Tryz.prog w=.ok (.value (.tuple #[])) w:=run_call_marked Tryz.func293 k_ k_ k_ .releaseMerge k_ a w
theorem ve_ (a:Addr) (x:Value) (u:FrameMode) (w:World) (hc:w.cell? a=some x) (hz:w.frozen? a=false) :
  CallsD Tryz.prog 204 #[.pointer (some a),.bool true] u w fun e u' w'=>u'=u∧(e=.returned (.tuple #[])∧w'=w.drew.setCell a (.int .u32 1)):=by
 have hc':w.drew.cell? a=some x:=by go_simp
 have hz':w.drew.frozen? a=false:=by go_simp
 have hst:=run_call_store (P:=Tryz.prog) Tryz.func260 k_ k_ k_ k_ (k:=.u32) (y:=1) hc' hz'
 go_enter_d Tryz.func204,Tryz.ntmps204
 go_wp2
 go_region_calls
 all_goals (go_end0;exact⟨rfl,rfl⟩)
set_option maxRecDepth 100000 in
theorem tT_ (a:Addr) (u:FrameMode) (w:World) (hc:w.cell? a=some (.int .i32 1)) (hz:w.frozen? a=false) :
  CallsD Tryz.prog 203 #[.pointer (some a)] u w fun e u' w'=>u'=u∧(e=.returned (.tuple #[])∧w'=w.setCell a (.int .i32 0)):=by
 have hd:=no_
 have he:=oB_
 have hr:=vd_
 have hadd:=run_call_add (P:=Tryz.prog) Tryz.func294 k_ k_ k_ .i32 k_ (y:=-1) (s:=0) hc hz (by simp[go_sem];rfl)
 have hcv:=run_convert_to_unsafe (P:=Tryz.prog) (src:=403) (dst:=407) Tryz.underlying403 Tryz.underlying407 k_ hc
 go_enter_d Tryz.func203,Tryz.ntmps203
 go_wp2
 go_end0
 go_wp2
 go_end0
 exact⟨rfl,rfl⟩
set_option maxRecDepth 100000 in
theorem wq_ (a:Addr) (w:World) (hc:w.cell? a=some (.int .i32 0)) (hz:w.frozen? a=false) :
  Calls Tryz.prog 202 #[.pointer (some a)] w fun e w'=>e=.returned (.tuple #[])∧w'=w.setCell a (.int .i32 1):=by
 have hd:=no_
 have he:=oB_
 have ha:=sA_
 have hcas:=run_call_cas_hit (P:=Tryz.prog) Tryz.func289 k_ k_ k_ .i32 k_ (y:=1) hc hz
 have hc':(w.setCell a (.int .i32 1)).cell? a=some (.int .i32 1):=World.cell?_setCell_same w a _ hc
 have hcv:=run_convert_to_unsafe (P:=Tryz.prog) (src:=403) (dst:=407) Tryz.underlying403 Tryz.underlying407 k_ hc'
 go_enter Tryz.func202,Tryz.ntmps202
 go_wp2
 first|go_end0|(simp only[Exit.inBlock,Exit.then];refine bodyPost_ret (results_none rfl _ _ _) rfl ?_)|refine bodyPost_ret (results_none rfl _ _ _) rfl ?_
 go_wp2
 go_end0
 exact⟨rfl,rfl⟩
theorem rH_ (a:Addr) (d:Int) (w:World) (h:w.cell? a=some (.int .u32 d)):Calls Tryz.prog 121 #[.pointer (some a)] w fun e w'=>e=.returned (.bool (d != 0))∧w'=w:=by
 have hl:=run_call_load (P:=Tryz.prog) Tryz.func201 k_ k_ k_ .u32 k_ h
 go_enter Tryz.func121,Tryz.ntmps121
 go_wp2
 go_ret
 exact⟨rfl,rfl⟩
theorem vf_ (a:Addr) (d y s:Int) (w:World) (h:w.cell? a=some (.int .i64 d)) (hz:w.frozen? a=false) (hs:IntKind.wrap .i64 (d+y)=s):Calls Tryz.prog 42 #[.pointer (some a),.int .i64 y] w fun e w'=>e=.returned (.int .i64 s)∧w'=w.setCell a (.int .i64 s):=by
 have hadd:=run_call_add (P:=Tryz.prog) Tryz.func80 k_ k_ k_ .i64 k_ (y:=y) (s:=s) h hz (by rw[←hs];simp[go_sem])
 go_enter Tryz.func42,Tryz.ntmps42
 go_wp2
 go_ret
 exact⟨rfl,rfl⟩
set_option maxRecDepth 100000 in
theorem wr_ (b off:Nat) (pl:Addr) (w:World) (Q:W_)
  (h0:w.cell? ⟨b,off,none⟩=some (.int .u32 0)) (h1:w.cell? ⟨b,off+1,none⟩=some (.int .i32 0)) (f1:w.frozen? ⟨b,off+1,none⟩=false)
  (hf:Calls Tryz.prog 61 #[.pointer (some pl)] (w.setCell ⟨b,off+1,none⟩ (.int .i32 1)) fun e w'=>e=.returned (.tuple #[])∧Q w')
  (hq:∀w',Q w'→w'.cell? ⟨b,off,none⟩=some (.int .u32 0)∧w'.cell? ⟨b,off+1,none⟩=some (.int .i32 1)∧w'.frozen? ⟨b,off,none⟩=false∧w'.frozen? ⟨b,off+1,none⟩=false) :
  Calls Tryz.prog 122 #[.pointer (some ⟨b,off,none⟩),.func (.func 61) #[] #[.pointer (some pl)]] w fun e w'=>e=.returned (.tuple #[])∧
   ∃v,Q v∧w'=(v.drew.setCell ⟨b,off,none⟩ (.int .u32 1)).setCell ⟨b,off+1,none⟩ (.int .i32 0):=by
 have hl:=rH_ ⟨b,off,none⟩ 0 (w.setCell ⟨b,off+1,none⟩ (.int .i32 1)) ((World.cell?_setCell_other _ ⟨b,off+1,none⟩ ⟨b,off,none⟩ _ (by simp)).trans h0)
 have hnot:∀(x:Bool) (w:World),(Op.unary .not (.bool x)).run Tryz.prog w=.ok (.bool (!x)) w:=fun _ _=>rfl
 go_enter_defers Tryz.func122,Tryz.ntmps122
 go_wp2_with (go_at_call 202;refine(wq_ ⟨b,off+1,none⟩ _ (by go_simp) (by go_simp)).mono ?_;rintro e w' ⟨rfl,rfl⟩)
 go_wp2_with (go_at_call 121;refine hl.mono ?_;rintro e w' ⟨rfl,rfl⟩)
 go_wp2_with (go_at_call 61;refine hf.mono ?_;rintro e w' ⟨rfl,hv⟩)
 obtain⟨v0,v1,z0,z1⟩:=hq _ hv
 go_wp2
 refine leaves_cons (f:=204) (args:=#[.pointer (some ⟨b,off,none⟩),.bool true]) (by simp) (by simp[go_sem]) ?_
 refine(ve_ ⟨b,off,none⟩ (.int .u32 0) .returning _ v0 z0).mono ?_
 rintro e u' w'' ⟨rfl,rfl,rfl⟩
 refine leaves_cons (f:=203) (args:=#[.pointer (some ⟨b,off+1,none⟩)]) (by simp[settle]) (by simp[go_sem]) ?_
 refine(tT_ ⟨b,off+1,none⟩ _ _ ?_ (by simp[z1])).mono ?_
 ·refine(World.cell?_setCell_other _ ⟨b,off,none⟩ ⟨b,off+1,none⟩ _ (by simp)).trans ?_
  rw[World.cell?_drew]
  exact v1
 rintro e u' w'' ⟨rfl,rfl,rfl⟩
 simp[Leaves,settle,results,Tryz.results122]
 exact⟨_,hv,rfl⟩
open Go CF
theorem np_ {b o:Nat} {cs:A_} {t:TypeId} {n y s:Int} {w:World} {R:Int→W_} (hb:Blk w b cs t) (h:cs[o]?=some (.int .i64 n)) (hs:IntKind.wrap .i64 (n+y)=s)
  (hR:∀w1,Blk w1 b (cs.setIfInBounds o (.int .i64 s)) t→aa_ (fun k=>k=b) w w1→w1.heap.size=w.heap.size→R s w1):fV_ (some ⟨b,o,none⟩) y w R:=by
 refine(vf_ ⟨b,o,none⟩ n y s w (by rw[hb.cell];exact h) (hb.free o) hs).mono ?_
 rintro e w' ⟨rfl,rfl⟩
 exact⟨s,rfl,hR _ (hb.set o _) (fh_ w ⟨b,o,none⟩ _) (by simp)⟩
theorem j6_ {b o:Nat} {cs:A_} {t:TypeId} {d:Int} {w:World} {R:Bool→W_} (hb:Blk w b cs t) (h:cs[o]?=some (.int .u32 d)) (hR:R (d != 0) w):fW_ (some ⟨b,o,none⟩) w R:=by
 refine(rH_ ⟨b,o,none⟩ d w (by rw[hb.cell];exact h)).mono ?_
 rintro e w' ⟨rfl,rfl⟩
 exact⟨_,rfl,hR⟩
theorem tU_ {b o:Nat} {cs:A_} {t:TypeId} {f:Value} {w:World} {R:W_} (hb:Blk w b cs t) (h:cs[o]?=some (.int .u32 1)) (hR:R w):f6_ (some ⟨b,o,none⟩) f w R:=by
 refine eP_.calls _ _ _ _ ⟨rfl,?_⟩
 rw[show(gA (some (⟨b,o,none⟩:Addr))).add 0=⟨b,o,none⟩ from rfl]
 exact j6_ hb h (aj_ rfl hR)
theorem nq_ {b o:Nat} {cs:A_} {t:TypeId} {pl:Addr} {w:World} {R:W_} (hb:Blk w b cs t) (h0:cs[o]?=some (.int .u32 0)) (h1:cs[o+1]?=some (.int .i32 0))
  (hf:∀w1,Blk w1 b (cs.setIfInBounds (o+1) (.int .i32 1)) t→aa_ (fun k=>k=b) w w1→w1.heap.size=w.heap.size→hU_ pl w1 fun w2=>∃cs2:A_,Blk w2 b cs2 t∧cs2[o]?=some (.int .u32 0)∧cs2[o+1]?=some (.int .i32 1)∧
   ∀w3,Blk w3 b ((cs2.setIfInBounds o (.int .u32 1)).setIfInBounds (o+1) (.int .i32 0)) t→aa_ (fun k=>k=b) w2 w3→w3.heap.size=w2.heap.size→R w3) :
  f6_ (some ⟨b,o,none⟩) (.func (.func 61) #[] #[.pointer (some pl)]) w R:=by
 refine eP_.calls _ _ _ _ ⟨rfl,?_⟩
 rw[show(gA (some (⟨b,o,none⟩:Addr))).add 0=⟨b,o,none⟩ from rfl]
 refine j6_ hb h0 (am_ rfl ?_)
 have hf':=hf _ (hb.set (o+1) _) (fh_ w ⟨b,o+1,none⟩ _) (by simp)
 refine(wr_ b o pl w (fun w2=>∃cs2:A_,Blk w2 b cs2 t∧cs2[o]?=some (.int .u32 0)∧cs2[o+1]?=some (.int .i32 1)∧
   ∀w3,Blk w3 b ((cs2.setIfInBounds o (.int .u32 1)).setIfInBounds (o+1) (.int .i32 0)) t→aa_ (fun k=>k=b) w2 w3→w3.heap.size=w2.heap.size→R w3) (by rw[hb.cell];exact h0) (by rw[hb.cell];exact h1) (hb.free _) hf' ?_).mono ?_
 ·rintro w2 ⟨cs2,b2,c0,c1,_⟩
  exact⟨by rw[b2.cell];exact c0,by rw[b2.cell];exact c1,b2.free _,b2.free _⟩
 ·rintro e w' ⟨rfl,v,⟨cs2,b2,c0,c1,hk⟩,rfl⟩
  refine⟨rfl,hk _ ?_ ?_ (by simp)⟩
  ·have hd:Blk v.drew b cs2 t:=(ak_ v).heap b2 (fun q=>q)
   exact(hd.set o _).set (o+1) _
  ·have k1:=fh_ v.drew ⟨b,o,none⟩ (.int .u32 1)
   have k2:=fh_ (v.drew.setCell ⟨b,o,none⟩ (.int .u32 1)) ⟨b,o+1,none⟩ (.int .i32 0)
   exact(((ak_ v).mono fun _ _ q=>q.elim).trans k1 fun _ _ q=>q).trans k2 fun _ _ q=>q
open Go CF
structure eF_ where
 v:ByteArray
 p:ByteArray
 r:ByteArray
 s:ByteArray
 prot:Nat
def eG_ (i:eF_):List Value:=[.string i.v,.string i.p,.string i.r,.string i.s,.int .u8 (i.prot:Int)]
structure USt where
 inf:eF_
 file:ByteArray
 keepf:ByteArray
 n:Nat
 cache:Bool
 sure:Bool
 at_:Int
 gen:Nat
 now:aU_
 saved:aU_
 tab:aT_
 q:Nat→List Nat
 peers:List Nat
 on:Nat
 lock:Nat
 fault:Nat
 count:Nat
structure UA where
 ub:Nat
 dv:Nat
 ps:Nat
 sl:Nat
 pg:Nat
 tb:Nat
 qb:Nat
def UA.set (a:UA) (k:Nat):Prop:=k=a.ub∨k=a.dv∨k=a.ps∨k=a.sl∨k=a.pg∨k=a.tb∨k=a.qb
def ptr (b:Nat):Value:=.pointer (some ⟨b,0,none⟩)
def cQ_ (a:UA) (P:Sl) (s:USt):A_:=#[.string s.inf.v,.string s.inf.p,.string s.inf.r,.string s.inf.s,.int .u8 (s.inf.prot:Int),ptr a.dv,ptr a.sl,ptr a.pg,ptr a.tb,ptr a.qb,.slice P.A P.n P.c,.int .u32 (s.on:Int),.int .i32 (s.lock:Int),.int .u32 0,.int .i64 (s.fault:Int),.int .i64 (s.count:Int)]
structure IsU (w:World) (N:Nat→Prop) (pw:Nat) (a:UA) (s:USt):Prop where
 unit:∃P:Sl,Blk w a.ub (cQ_ a P s) bi_∧RdN w N aL_ 1 P (s.peers.map ptr)
 dev:Blk w a.dv (eo_ a.ps s.inf.prot) ck_
 store:IsS w a.ps pw s.file s.n s.cache
 slots:bS_ w a.sl pw s.keepf s.sure s.at_ s.gen
 pages:IsP w a.pg s.now s.saved
 tab:IsT w N a.tb s.tab
 q:IsQ w N a.qb s.q
section
variable {w u v:World} {N N' S:Nat→Prop} {pw i:Nat} {a a':UA} {s s':USt} {st st':Wst} {F:Int→Bool} {ℓ ℓ' ℓ'':Nat→Option Nat} {us:List (UA×USt)}
theorem IsU.step (h:IsU w N pw a s) (k:aa_ S w u) (hS:a6_ w N S) (hq:∀b,a.set b→¬S b) (hN:∀b,N' b→N b∨w.heap.size≤b):IsU u N' pw a s:=by
 obtain⟨P,h1,h2⟩:=h.unit
 refine⟨⟨P,k.heap h1 (hq _ (.inl rfl)),h2.step (.inr (.inr rfl)) k hS hN⟩,k.heap h.dev (hq _ (.inr (.inl rfl))),k.heap h.store (hq _ (.inr (.inr (.inl rfl)))),k.heap h.slots (hq _ (.inr (.inr (.inr (.inl rfl))))),k.heap h.pages (hq _ (.inr (.inr (.inr (.inr (.inl rfl)))))),
  h.tab.step k hS (hq _ (.inr (.inr (.inr (.inr (.inr (.inl rfl))))))) hN,h.q.step k hS (hq _ (.inr (.inr (.inr (.inr (.inr (.inr rfl))))))) hN⟩
theorem IsU.grow (h:IsU w N pw a s) (k:ab_ w u):IsU u N pw a s:=h.step k (a6_.none _ _) (fun _ _ q=>q) fun _ q=>.inl q
theorem IsU.typed (h:IsU w N pw a s) {b:Nat} (hb:a.set b):∃cs t,Blk w b cs t∧t≠ae_:=by
 obtain⟨P,h1,h2⟩:=h.unit
 obtain⟨⟨T,t1,_⟩,_⟩:=h.tab
 obtain⟨⟨ss,_,q1,_⟩,_⟩:=h.q
 rcases hb with rfl|rfl|rfl|rfl|rfl|rfl|rfl
 ·exact⟨_,_,h1,d_⟩
 ·exact⟨_,_,h.dev,d_⟩
 ·exact⟨_,_,h.store,d_⟩
 ·exact⟨_,_,h.slots,d_⟩
 ·exact⟨_,_,h.pages,d_⟩
 ·exact⟨_,_,t1,d_⟩
 ·exact⟨_,_,q1,d_⟩
theorem IsU.noBytes (h:IsU w N pw a s) (hS:∀b,b<w.heap.size→S b→a.set b):bR_ w S:=fun g cur hg q=>by
 obtain⟨cs,t,hb,ht⟩:=h.typed (hS g (aw_ hg) q)
 exact ht (bq_ hb hg)
theorem IsU.lt (h:IsU w N pw a s) {b:Nat} (hb:a.set b):b<w.heap.size:=by
 obtain⟨cs,t,hb,_⟩:=h.typed hb
 exact aw_ hb
structure Mv (w u:World) (ℓ ℓ':Nat→Option Nat):Prop where
 keep:aa_ (fun k=>ℓ k≠none) w u
 lab:∀k,k<w.heap.size→ℓ' k=ℓ k
theorem Mv.grow (g:ab_ w u):Mv w u ℓ ℓ:=⟨g.mono fun _ _ q=>q.elim,fun _ _=>rfl⟩
theorem Mv.trans (h:Mv w u ℓ ℓ') (g:Mv u v ℓ' ℓ''):Mv w v ℓ ℓ'':=by
 have hs:=h.keep.size
 exact⟨h.keep.trans g.keep fun k hk q=>by rw[h.lab k hk] at q;exact q,fun k hk=>(g.lab k o_).trans (h.lab k hk)⟩
theorem Mv.go (h:Mv w u ℓ ℓ') (g:ab_ u v):Mv w v ℓ ℓ':=h.trans (Mv.grow g)
structure RdX (w:World) (ℓ:Nat→Option Nat) (z:Nat) (s:Sl) (vs:List Value):Prop where
 rd:Rd w z s vs
 out:vs≠[]→∀a,s.A=some a→a.block<w.heap.size∧ℓ a.block=none
theorem CF.Rd.keepN {S:Nat→Prop} {z:Nat} {p:Sl} {vs:List Value} (h:Rd w z p vs) (k:aa_ S w u) (hn:vs≠[]→∀a,p.A=some a→¬S a.block):Rd u z p vs:=by
 by_cases hv:vs = []
 ·exact⟨h.len,h.cap,h.nb,fun q=>absurd hv q⟩
 ·exact h.keep k fun a ha _=>hn hv a ha
theorem Mv.rdX (h:Mv w u ℓ ℓ') {z:Nat} {p:Sl} {vs:List Value} (hp:RdX w ℓ z p vs):RdX u ℓ' z p vs:=
 ⟨hp.rd.keepN h.keep fun hv a ha q=>q (hp.out hv a ha).2,fun hv a ha=>⟨by have:=(hp.out hv a ha).1;have:=h.keep.size;omega,by rw[h.lab _ (hp.out hv a ha).1];exact(hp.out hv a ha).2⟩⟩
theorem Mv.heap (h:Mv w u ℓ ℓ') {b:Nat} {cs:A_} {t:TypeId} (hb:Blk w b cs t) (hn:ℓ b=none):Blk u b cs t:=h.keep.heap hb fun q=>q hn
structure Sys (w:World) (ℓ:Nat→Option Nat) (pw:Nat) (st:Wst) (F:Int→Bool) (us:List (UA×USt)):Prop where
 W:∃D,ba_ w pw D st F∧∀k,D k→ℓ k=some 0
 U:∀i (h:i<us.length),IsU w (fun k=>ℓ k≠none) pw us[i].1 us[i].2∧∀k,us[i].1.set k→ℓ k=some (i+1)
 lt:∀k,ℓ k≠none→k<w.heap.size
theorem Sys.grow (h:Sys w ℓ pw st F us) (g:ab_ w u):Sys u ℓ pw st F us:=by
 obtain⟨D,h1,h2⟩:=h.W
 exact⟨⟨D,h1.grow g,h2⟩,fun i hi=>⟨(h.U i hi).1.grow g,(h.U i hi).2⟩,fun k hk=>by have:=h.lt k hk;have:=g.size;omega⟩
theorem Sys.put (h:Sys w ℓ pw st F us) (hi:i<us.length) (k:aa_ S w u) (hS:∀b,b<w.heap.size→S b→us[i].1.set b) (hU:IsU u (fun k=>ℓ k≠none) pw us[i].1 s'):Sys u ℓ pw st F (us.set i (us[i].1,s')):=by
 obtain⟨D,h1,h2⟩:=h.W
 have hnb:=(h.U i hi).1.noBytes hS
 have hown:=(h.U i hi).2
 refine⟨⟨D,h1.keep (S:=fun b=>b<w.heap.size∧S b) ⟨k.os,k.tape,k.output,k.size,fun b hb q=>k.block b hb fun r=>q ⟨hb,r⟩⟩ (fun b hb q=>?_) (fun g cur hg q=>hnb g cur hg q.2),h2⟩,fun j hj=>?_,fun b hb=>by have:=h.lt b hb;have:=k.size;omega⟩
 ·have:=hown b (hS b q.1 q.2)
  rw[h2 b hb] at this
  injection this with this
  omega
 ·have hj':j<us.length:=by simpa using hj
  by_cases e:j=i
  ·subst e
   rw[List.getElem_set_self]
   exact⟨hU,hown⟩
  ·rw[List.getElem_set_ne (fun q=>e q.symm)]
   refine⟨(h.U j hj').1.step (S:=fun b=>b<w.heap.size∧S b) ⟨k.os,k.tape,k.output,k.size,fun b hb q=>k.block b hb fun r=>q ⟨hb,r⟩⟩ (a6_.sub fun b hb q=>?_) (fun b hb q=>?_) fun _ q=>.inl q,(h.U j hj').2⟩
   ·rw[hown b (hS b q.1 q.2)];exact Option.some_ne_none _
   ·have h3:=hown b (hS b q.1 q.2)
    rw[(h.U j hj').2 b hb] at h3
    injection h3 with h3
    omega
theorem Sys.mv (h:Sys w ℓ pw st F us) (hi:i<us.length) (k:aa_ S w u) (hS:∀b,b<w.heap.size→S b→us[i].1.set b):Mv w u ℓ ℓ:=
 ⟨⟨k.os,k.tape,k.output,k.size,fun b hb q=>k.block b hb fun r=>q (by rw[(h.U i hi).2 b (hS b hb r)];exact Option.some_ne_none _)⟩,fun _ _=>rfl⟩
open Classical in
theorem Sys.move (h:Sys w ℓ pw st F us) (hi:i<us.length) (k:aa_ S w u) (hS:∀b,b<w.heap.size→S b→us[i].1.set b) (ha:∀b,a'.set b→us[i].1.set b∨w.heap.size≤b)
  (hU:∀N:Nat→Prop,(∀b,N b→ℓ b≠none∨(w.heap.size≤b∧a'.set b))→IsU u N pw a' s'):∃ℓ',Mv w u ℓ ℓ'∧Sys u ℓ' pw st F (us.set i (a',s')):=by
 have hsz:=k.size
 have hown:=(h.U i hi).2
 have hnb:=(h.U i hi).1.noBytes hS
 have hN:∀b,(if w.heap.size≤b∧a'.set b then some (i+1) else ℓ b)≠none→ℓ b≠none∨(w.heap.size≤b∧a'.set b):=fun b hb=>by
  by_cases r:w.heap.size≤b∧a'.set b
  ·exact .inr r
  ·rw[if_neg r] at hb;exact .inl hb
 have hU':=hU (fun b=>(if w.heap.size≤b∧a'.set b then some (i+1) else ℓ b)≠none) hN
 have k':aa_ (fun b=>b<w.heap.size∧S b) w u:=⟨k.os,k.tape,k.output,k.size,fun b hb q=>k.block b hb fun r=>q ⟨hb,r⟩⟩
 obtain⟨D,h1,h2⟩:=h.W
 refine⟨fun b=>if w.heap.size≤b∧a'.set b then some (i+1) else ℓ b,⟨⟨k.os,k.tape,k.output,k.size,fun b hb q=>k.block b hb fun r=>q (by rw[hown b (hS b hb r)];exact Option.some_ne_none _)⟩,fun b hb=>if_neg o_⟩,
  ⟨D,h1.keep k' (fun b hb q=>?_) (fun g cur hg q=>hnb g cur hg q.2),fun b hb=>?_⟩,fun j hj=>?_,fun b hb=>?_⟩
 ·have:=hown b (hS b q.1 q.2)
  rw[h2 b hb] at this
  injection this with this
  omega
 ·have hb2:b<w.heap.size:=h1.lt hb
  show(if w.heap.size≤b∧a'.set b then some (i+1) else ℓ b)=some 0
  rw[if_neg o_];exact h2 b hb
 ·have hj':j<us.length:=by simpa using hj
  by_cases e:j=i
  ·subst e
   rw[List.getElem_set_self]
   refine⟨hU',fun b hb=>?_⟩
   rcases ha b hb with q|q
   ·have:=(h.U j hi).1.lt q
    show(if w.heap.size≤b∧a'.set b then some (j+1) else ℓ b)=_
    rw[if_neg o_];exact hown b q
   ·exact if_pos ⟨q,hb⟩
  ·rw[List.getElem_set_ne (fun q=>e q.symm)]
   refine⟨(h.U j hj').1.step k' (a6_.sub fun b hb q=>?_) (fun b hb q=>?_) (fun b hb=>?_),fun b hb=>?_⟩
   ·rw[hown b (hS b q.1 q.2)];exact Option.some_ne_none _
   ·have h3:=hown b (hS b q.1 q.2)
    rw[(h.U j hj').2 b hb] at h3
    injection h3 with h3
    omega
   ·rcases hN b hb with q|q
    ·exact .inl q
    ·exact .inr q.1
   ·have:=(h.U j hj').1.lt hb
    show(if w.heap.size≤b∧a'.set b then some (i+1) else ℓ b)=_
    rw[if_neg o_];exact(h.U j hj').2 b hb
 ·rcases hN b hb with q|q
  ·have:=h.lt b q;omega
  ·exact hU'.lt q.2
end
open Go CF
section
variable {w u v:World} {N N' S D D':Nat→Prop} {pw i:Nat} {a a':UA} {s s':USt} {st st':Wst} {F F':Int→Bool} {ℓ ℓ' ℓ'':Nat→Option Nat} {us:List (UA×USt)}
theorem mX_ (k:aa_ S w u):aa_ (fun b=>b<w.heap.size∧S b) w u:=⟨k.os,k.tape,k.output,k.size,fun b hb q=>k.block b hb fun r=>q ⟨hb,r⟩⟩
def o8_ (w:World) (ℓ:Nat→Option Nat) (S:Nat→Prop):Prop:=∀b,b<w.heap.size→S b→ℓ b=none∧∃cs t,Blk w b cs t∧¬kN_ t∧t≠ae_
theorem o8_.one {b:Nat} {cs:A_} {t:TypeId} (hb:Blk w b cs t) (hn:ℓ b=none) (h1:¬kN_ t) (h2:t≠ae_):o8_ w ℓ fun k=>k=b:=fun b' _ q=>by subst q;exact⟨hn,cs,t,hb,h1,h2⟩
theorem Sys.loc (h:Sys w ℓ pw st F us) (k:aa_ S w u) (hS:o8_ w ℓ S):Sys u ℓ pw st F us:=by
 obtain⟨D,h1,h2⟩:=h.W
 have hno:∀{b x:Nat},ℓ b=some x→¬(b<w.heap.size∧S b):=fun {b x} e q=>by rw[(hS _ q.1 q.2).1] at e;cases e
 refine⟨⟨D,h1.keep (mX_ k) (fun b hb q=>hno (h2 b hb) q) (fun g cur hg q=>?_),h2⟩,fun j hj=>⟨(h.U j hj).1.step (mX_ k) (fun b hb q=>?_) (fun b hb q=>hno ((h.U j hj).2 b hb) q) fun _ q=>.inl q,(h.U j hj).2⟩,fun b hb=>by have:=h.lt b hb;have:=k.size;omega⟩
 ·obtain⟨_,cs,t,hb,_,ht⟩:=hS g q.1 q.2
  exact ht (bq_ hb hg)
 ·obtain⟨_,cs,t,hb,ht,_⟩:=hS b q.1 q.2
  exact .inr ⟨cs,t,hb,ht⟩
theorem Mv.loc (h:Mv w u ℓ ℓ') (k:aa_ S u v) (hS:∀b,b<w.heap.size→¬S b):Mv w v ℓ ℓ':=by
 have:=h.keep.size
 exact⟨h.keep.trans k fun b hb q=>absurd q (hS b hb),h.lab⟩
open Classical in
theorem Sys.all (h:Sys w ℓ pw st F us) (hi:i<us.length) (hD:∀k,D k→ℓ k=some 0) (k:aa_ S w u) (hS:∀b,b<w.heap.size→S b→D b∨us[i].1.set b) (hw:ba_ u pw D' st' F') (hn:∀k,D' k→D k∨w.heap.size≤k)
  (ha:∀b,a'.set b→us[i].1.set b∨w.heap.size≤b) (hdis:∀b,w.heap.size≤b→D' b→¬a'.set b) (hU:∀N:Nat→Prop,(∀b,N b→ℓ b≠none∨(w.heap.size≤b∧(D' b∨a'.set b)))→IsU u N pw a' s') :
  ∃ℓ',Mv w u ℓ ℓ'∧Sys u ℓ' pw st' F' (us.set i (a',s')):=by
 have hsz:=k.size
 have hown:=(h.U i hi).2
 let L:Nat→Option Nat:=fun b=>if w.heap.size≤b∧D' b then some 0 else if w.heap.size≤b∧a'.set b then some (i+1) else ℓ b
 have hold:∀b,b<w.heap.size→L b=ℓ b:=fun b hb=>by show(if _ then _ else _)=_;rw[if_neg o_,if_neg o_]
 have hN:∀b,L b≠none→ℓ b≠none∨(w.heap.size≤b∧(D' b∨a'.set b)):=fun b hb=>by
  by_cases r:w.heap.size≤b∧D' b
  ·exact .inr ⟨r.1,.inl r.2⟩
  by_cases r2:w.heap.size≤b∧a'.set b
  ·exact .inr ⟨r2.1,.inr r2.2⟩
  ·have:L b=ℓ b:=by show(if _ then _ else _)=_;rw[if_neg r,if_neg r2]
   rw[this] at hb;exact .inl hb
 have hU':=hU (fun b=>L b≠none) hN
 have hSl:∀b,b<w.heap.size→S b→ℓ b≠none:=fun b hb q=>by
  rcases hS b hb q with r|r
  ·rw[hD b r];exact Option.some_ne_none _
  ·rw[hown b r];exact Option.some_ne_none _
 refine⟨L,⟨⟨k.os,k.tape,k.output,k.size,fun b hb q=>k.block b hb fun r=>q (hSl b hb r)⟩,hold⟩,⟨D',hw,fun b hb=>?_⟩,fun j hj=>?_,fun b hb=>?_⟩
 ·by_cases r:w.heap.size≤b
  ·exact if_pos ⟨r,hb⟩
  ·rw[hold b o_]
   rcases hn b hb with q|q
   ·exact hD b q
   ·exact absurd q r
 ·have hj':j<us.length:=by simpa using hj
  by_cases e:j=i
  ·subst e
   rw[List.getElem_set_self]
   refine⟨hU',fun b hb=>?_⟩
   by_cases r:w.heap.size≤b
   ·show(if _ then _ else _)=_
    rw[if_neg (fun q=>hdis b r q.2 hb),if_pos ⟨r,hb⟩]
   ·rw[hold b o_]
    rcases ha b hb with q|q
    ·exact hown b q
    ·exact absurd q r
  ·rw[List.getElem_set_ne (fun q=>e q.symm)]
   refine⟨(h.U j hj').1.step (mX_ k) (a6_.sub fun b hb q=>hSl b q.1 q.2) (fun b hb q=>?_) (fun b hb=>?_),fun b hb=>?_⟩
   ·have h3:=(h.U j hj').2 b hb
    rcases hS b q.1 q.2 with r|r
    ·rw[hD b r] at h3;injection h3 with h3;omega
    ·rw[hown b r] at h3;injection h3 with h3;omega
   ·rcases hN b hb with q|q
    ·exact .inl q
    ·exact .inr q.1
   ·have:=(h.U j hj').1.lt hb
    rw[hold b this];exact(h.U j hj').2 b hb
 ·rcases hN b hb with q|q
  ·have:=h.lt b q;omega
  ·rcases q.2 with r|r
   ·exact hw.lt r
   ·exact hU'.lt r
theorem q5_ (u:World) (s:Sn):(Instr.build ad_ #[(0,.int .u8 2),(1,.agg (snv s).toArray)]).run Tryz.prog u=.ok (.agg (rsv 2 s au_).toArray) u:=by
 obtain⟨a,b,c,d,e,f,g,h⟩:=s
 kernel_rfl
theorem bv_ {s:Sn} {R:A_→W_} (h:∀w',ab_ w w'→R (rsv 2 s au_).toArray w'):aS_ (snv s).toArray w R:=by
 refine hu_.calls _ _ _ (ag_ fun sb w1 hsb hb1 hg1 hs1=>ag_ fun ab w2 hab hb2 hg2 hs2=>?_)
 have hb1':Blk w2 sb (snv s).toArray av_:=hg2.heap hb1 (fun q=>q)
 refine⟨(snv s).toArray,aE_ (cs:=snv s) eU_ aV_ rfl (ar_ hb1'),_,q5_ _ s,?_⟩
 exact bL_ hb2 rfl fun w3 hk3=>h w3 (c6_ (hg1.trans hg2) (by have:=hg1.size;omega) hk3)
theorem sB_ {k:Nat} {R:Int→W_} (h:R (fs_ k:Int) w):fX_ (k:Int) w R:=by
 unfold fs_ at h
 refine bc_ (fun x v=>w=v∧x=decide (k=1∨k=7∨k=10∨k=5)) ?_ (fun J=>?_)
 ·rintro x v ⟨rfl,rfl⟩
  refine a2_ (fun q=>?_) (fun q=>?_)
  ·rw[if_pos q] at h;exact h
  rw[if_neg q] at h
  by_cases z:k=8∨k=9∨k=12∨k=13∨k=14∨k=4∨k=11∨k=18
  ·rw[if_pos z] at h
   refine as_ (fun e=>am_ (by rw[beq_iff_eq];exact e) h) (fun n8=>as_ (fun e=>am_ (by rw[beq_iff_eq];exact e) h) (fun n9=>as_ (fun e=>am_ (by rw[beq_iff_eq];exact e) h) (fun n12=>as_ (fun e=>am_ (by rw[beq_iff_eq];exact e) h) (fun n13=>as_ (fun e=>am_ (by rw[beq_iff_eq];exact e) h) (fun n14=>as_ (fun e=>am_ (by rw[beq_iff_eq];exact e) h) (fun n4=>as_ (fun e=>am_ (by rw[beq_iff_eq];exact e) h) (fun n11=>as_ (fun e=>h) (fun n18=>?_))))))))
   exfalso;omega
  ·rw[if_neg z] at h
   exact as_ (fun e=>by exfalso;omega) (fun _=>as_ (fun e=>by exfalso;omega) (fun _=>as_ (fun e=>by exfalso;omega) (fun _=>as_ (fun e=>by exfalso;omega) (fun _=>as_ (fun e=>by exfalso;omega) (fun _=>as_ (fun e=>by exfalso;omega) (fun _=>as_ (fun e=>by exfalso;omega) (fun _=>as_ (fun e=>by exfalso;omega) (fun _=>h))))))))
 ·by_cases e1:k=1
  ·exact am_ (by rw[beq_iff_eq];omega) (J _ _ ⟨rfl,by rw[Bool.eq_iff_iff,beq_iff_eq,decide_eq_true_eq];omega⟩)
  refine aj_ (by rw[beq_eq_false_iff_ne];omega) ?_
  by_cases e7:k=7
  ·exact am_ (by rw[beq_iff_eq];omega) (J _ _ ⟨rfl,by rw[Bool.eq_iff_iff,beq_iff_eq,decide_eq_true_eq];omega⟩)
  refine aj_ (by rw[beq_eq_false_iff_ne];omega) ?_
  by_cases e10:k=10
  ·exact am_ (by rw[beq_iff_eq];omega) (J _ _ ⟨rfl,by rw[Bool.eq_iff_iff,beq_iff_eq,decide_eq_true_eq];omega⟩)
  exact aj_ (by rw[beq_eq_false_iff_ne];omega) (J _ _ ⟨rfl,by rw[Bool.eq_iff_iff,beq_iff_eq,decide_eq_true_eq];omega⟩)
theorem nr_ {k:Nat} {R:Int→W_} (h:R (fs_ k:Int) w):fU_ (k:Int) w R:=fX_.calls _ _ _ (sB_ h)
theorem ml_ {k:Nat} {R:Bool→W_} (h:R (eY_ k) w):fm_ (k:Int) w R:=by
 refine gS_.calls _ _ _ ?_
 unfold eY_ at h
 by_cases z:k=8∨k=9∨k=12∨k=13∨k=14
 ·rw[decide_eq_true z] at h
  refine as_ (fun e=>am_ (by rw[beq_iff_eq];exact e) h) (fun n8=>as_ (fun e=>am_ (by rw[beq_iff_eq];exact e) h) (fun n9=>as_ (fun e=>am_ (by rw[beq_iff_eq];exact e) h) (fun n12=>as_ (fun e=>am_ (by rw[beq_iff_eq];exact e) h) (fun n13=>as_ (fun e=>h) (fun n14=>?_)))))
  exfalso;omega
 ·rw[decide_eq_false z] at h
  exact as_ (fun e=>by exfalso;omega) (fun _=>as_ (fun e=>by exfalso;omega) (fun _=>as_ (fun e=>by exfalso;omega) (fun _=>as_ (fun e=>by exfalso;omega) (fun _=>as_ (fun e=>by exfalso;omega) (fun _=>h)))))
end
open Go CF
section
variable {w u v:World} {N N' S:Nat→Prop} {pw:Nat} {a:UA} {s:USt}
theorem bu_ {b c:Nat} {x y:A_} {t t':TypeId} (hb:Blk w b x t) (hc:Blk w c y t') (h:t≠t'):b≠c:=fun q=>by subst q;exact h (bq_ hb hc)
theorem IsU.tabB (h:IsU w N pw a s):∃x,Blk w a.tb x bQ_:=by obtain⟨⟨T,t1,_⟩,_⟩:=h.tab;exact⟨_,t1⟩
theorem IsU.queB (h:IsU w N pw a s):∃x,Blk w a.qb x gb_:=by obtain⟨⟨ss,_,q1,_⟩,_⟩:=h.q;exact⟨_,q1⟩
theorem IsU.uniB (h:IsU w N pw a s):∃x,Blk w a.ub x bi_:=by obtain⟨P,h1,_⟩:=h.unit;exact⟨_,h1⟩
theorem IsU.step1 (h:IsU w N pw a s) (k:aa_ S w u) (hS:a6_ w N S) (hN:∀b,N' b→N b∨w.heap.size≤b) :
  (¬S a.ub→∃P:Sl,Blk u a.ub (cQ_ a P s) bi_∧RdN u N' aL_ 1 P (s.peers.map ptr))∧(¬S a.dv→Blk u a.dv (eo_ a.ps s.inf.prot) ck_)∧(¬S a.ps→IsS u a.ps pw s.file s.n s.cache)∧(¬S a.sl→bS_ u a.sl pw s.keepf s.sure s.at_ s.gen)∧
  (¬S a.pg→IsP u a.pg s.now s.saved)∧(¬S a.tb→IsT u N' a.tb s.tab)∧(¬S a.qb→IsQ u N' a.qb s.q):=by
 refine⟨fun q=>?_,fun q=>k.heap h.dev q,fun q=>k.heap h.store q,fun q=>k.heap h.slots q,fun q=>k.heap h.pages q,fun q=>h.tab.step k hS q hN,fun q=>h.q.step k hS q hN⟩
 obtain⟨P,h1,h2⟩:=h.unit
 exact⟨P,k.heap h1 q,h2.step (.inr (.inr rfl)) k hS hN⟩
theorem IsU.ne (h:IsU w N pw a s):a.ub≠a.dv∧a.ub≠a.ps∧a.ub≠a.sl∧a.ub≠a.pg∧a.ub≠a.tb∧a.ub≠a.qb∧a.dv≠a.ps∧a.dv≠a.sl∧a.dv≠a.pg∧a.dv≠a.tb∧a.dv≠a.qb∧a.ps≠a.sl∧a.ps≠a.pg∧a.ps≠a.tb∧a.ps≠a.qb∧
  a.sl≠a.pg∧a.sl≠a.tb∧a.sl≠a.qb∧a.pg≠a.tb∧a.pg≠a.qb∧a.tb≠a.qb:=by
 obtain⟨x,hu⟩:=h.uniB
 obtain⟨y,ht⟩:=h.tabB
 obtain⟨z,hq⟩:=h.queB
 exact⟨bu_ hu h.dev d_,bu_ hu h.store d_,bu_ hu h.slots d_,bu_ hu h.pages d_,bu_ hu ht d_,bu_ hu hq d_,bu_ h.dev h.store d_,bu_ h.dev h.slots d_,bu_ h.dev h.pages d_,bu_ h.dev ht d_,bu_ h.dev hq d_,
  bu_ h.store h.slots d_,bu_ h.store h.pages d_,bu_ h.store ht d_,bu_ h.store hq d_,bu_ h.slots h.pages d_,bu_ h.slots ht d_,bu_ h.slots hq d_,bu_ h.pages ht d_,bu_ h.pages hq d_,bu_ ht hq d_⟩
theorem da_ (a:UA):a.set a.ub∧a.set a.dv∧a.set a.ps∧a.set a.sl∧a.set a.pg∧a.set a.tb∧a.set a.qb:=⟨.inl rfl,.inr (.inl rfl),.inr (.inr (.inl rfl)),.inr (.inr (.inr (.inl rfl))),.inr (.inr (.inr (.inr (.inl rfl)))),.inr (.inr (.inr (.inr (.inr (.inl rfl))))),.inr (.inr (.inr (.inr (.inr (.inr rfl)))))⟩
theorem IsU.que {q':Nat→List Nat} (h:IsU w N pw a s) (k:aa_ S w u) (hS:a6_ w N S) (hq:∀b,a.set b→b≠a.qb→¬S b) (hN:∀b,N' b→N b∨w.heap.size≤b) (hnew:IsQ u N' a.qb q'):IsU u N' pw a {s with q:=q'}:=by
 obtain⟨n1,n2,n3,n4,n5,n6,n7,n8,n9,n10,n11,n12,n13,n14,n15,n16,n17,n18,n19,n20,n21⟩:=h.ne
 obtain⟨z1,z2,z3,z4,z5,z6,z7⟩:=da_ a
 obtain⟨r1,r2,r3,r4,r5,r6,r7⟩:=h.step1 k hS hN
 exact⟨r1 (hq _ z1 n6),r2 (hq _ z2 n11),r3 (hq _ z3 n15),r4 (hq _ z4 n18),r5 (hq _ z5 n20),r6 (hq _ z6 n21),hnew⟩
theorem IsU.slot {su:Bool} {at_:Int} {g:Nat} (h:IsU w N pw a s) (k:aa_ S w u) (hS:a6_ w N S) (hq:∀b,a.set b→b≠a.sl→¬S b) (hN:∀b,N' b→N b∨w.heap.size≤b) (hnew:bS_ u a.sl pw s.keepf su at_ g):IsU u N' pw a {s with sure:=su,at_:=at_,gen:=g}:=by
 obtain⟨n1,n2,n3,n4,n5,n6,n7,n8,n9,n10,n11,n12,n13,n14,n15,n16,n17,n18,n19,n20,n21⟩:=h.ne
 obtain⟨z1,z2,z3,z4,z5,z6,z7⟩:=da_ a
 obtain⟨r1,r2,r3,r4,r5,r6,r7⟩:=h.step1 k hS hN
 exact⟨r1 (hq _ z1 n3),r2 (hq _ z2 n8),r3 (hq _ z3 n12),hnew,r5 (hq _ z5 n16.symm),r6 (hq _ z6 n17.symm),r7 (hq _ z7 n18.symm)⟩
theorem IsU.cach {c:Bool} (h:IsU w N pw a s) (k:aa_ S w u) (hS:a6_ w N S) (hq:∀b,a.set b→b≠a.ps→¬S b) (hN:∀b,N' b→N b∨w.heap.size≤b) (hnew:IsS u a.ps pw s.file s.n c):IsU u N' pw a {s with cache:=c}:=by
 obtain⟨n1,n2,n3,n4,n5,n6,n7,n8,n9,n10,n11,n12,n13,n14,n15,n16,n17,n18,n19,n20,n21⟩:=h.ne
 obtain⟨z1,z2,z3,z4,z5,z6,z7⟩:=da_ a
 obtain⟨r1,r2,r3,r4,r5,r6,r7⟩:=h.step1 k hS hN
 exact⟨r1 (hq _ z1 n2),r2 (hq _ z2 n7),hnew,r4 (hq _ z4 n12.symm),r5 (hq _ z5 n13.symm),r6 (hq _ z6 n14.symm),r7 (hq _ z7 n15.symm)⟩
theorem IsU.pag {n' s':aU_} (h:IsU w N pw a s) (k:aa_ S w u) (hS:a6_ w N S) (hq:∀b,a.set b→b≠a.pg→¬S b) (hN:∀b,N' b→N b∨w.heap.size≤b) (hnew:IsP u a.pg n' s'):IsU u N' pw a {s with now:=n',saved:=s'}:=by
 obtain⟨n1,n2,n3,n4,n5,n6,n7,n8,n9,n10,n11,n12,n13,n14,n15,n16,n17,n18,n19,n20,n21⟩:=h.ne
 obtain⟨z1,z2,z3,z4,z5,z6,z7⟩:=da_ a
 obtain⟨r1,r2,r3,r4,r5,r6,r7⟩:=h.step1 k hS hN
 exact⟨r1 (hq _ z1 n4),r2 (hq _ z2 n9),r3 (hq _ z3 n13),r4 (hq _ z4 n16),hnew,r6 (hq _ z6 n19.symm),r7 (hq _ z7 n20.symm)⟩
theorem IsU.tabl {t':aT_} (h:IsU w N pw a s) (k:aa_ S w u) (hS:a6_ w N S) (hq:∀b,a.set b→b≠a.tb→¬S b) (hN:∀b,N' b→N b∨w.heap.size≤b) (hnew:IsT u N' a.tb t'):IsU u N' pw a {s with tab:=t'}:=by
 obtain⟨n1,n2,n3,n4,n5,n6,n7,n8,n9,n10,n11,n12,n13,n14,n15,n16,n17,n18,n19,n20,n21⟩:=h.ne
 obtain⟨z1,z2,z3,z4,z5,z6,z7⟩:=da_ a
 obtain⟨r1,r2,r3,r4,r5,r6,r7⟩:=h.step1 k hS hN
 exact⟨r1 (hq _ z1 n5),r2 (hq _ z2 n10),r3 (hq _ z3 n14),r4 (hq _ z4 n17),r5 (hq _ z5 n19),hnew,r7 (hq _ z7 n21.symm)⟩
theorem IsU.unitC {on lk fl ct:Nat} {ps:List Nat} (h:IsU w N pw a s) (k:aa_ S w u) (hS:a6_ w N S) (hq:∀b,a.set b→b≠a.ub→¬S b) (hN:∀b,N' b→N b∨w.heap.size≤b)
  (hnew:∃P:Sl,Blk u a.ub (cQ_ a P {s with on:=on,lock:=lk,fault:=fl,count:=ct,peers:=ps}) bi_∧RdN u N' aL_ 1 P (ps.map ptr)):IsU u N' pw a {s with on:=on,lock:=lk,fault:=fl,count:=ct,peers:=ps}:=by
 obtain⟨n1,n2,n3,n4,n5,n6,n7,n8,n9,n10,n11,n12,n13,n14,n15,n16,n17,n18,n19,n20,n21⟩:=h.ne
 obtain⟨z1,z2,z3,z4,z5,z6,z7⟩:=da_ a
 obtain⟨r1,r2,r3,r4,r5,r6,r7⟩:=h.step1 k hS hN
 exact⟨hnew,r2 (hq _ z2 n1.symm),r3 (hq _ z3 n2.symm),r4 (hq _ z4 n3.symm),r5 (hq _ z5 n4.symm),r6 (hq _ z6 n5.symm),r7 (hq _ z7 n6.symm)⟩
end
open Go CF
section
variable {w u v:World} {N N' S:Nat→Prop} {pw i:Nat} {a:UA} {s:USt} {st:Wst} {F:Int→Bool} {ℓ ℓ':Nat→Option Nat} {us:List (UA×USt)}
theorem IsU.cellU (h:IsU w N pw a s) {o:Nat} {x:Value} (e:∀P,(cQ_ a P s)[o]?=some x):w.cell? ((gA (some (⟨a.ub,0,none⟩:Addr))).add o)=some x:=by
 obtain⟨P,h1,_⟩:=h.unit
 rw[gA,aq_,h1.cell,Nat.zero_add];exact e P
def onQ (q:Nat→List Nat):Nat→List Nat:=fun t=>if t<8 then bd_ (q t) 10496 else q t
def lz_ (s:USt):USt:={s with q:=onQ s.q,sure:=true,at_:=-1,gen:=0}
theorem Sys.at (H:Sys w ℓ pw st F us) (hi:i<us.length) (he:us[i]=(a,s)):IsU w (fun k=>ℓ k≠none) pw a s∧∀k,a.set k→ℓ k=some (i+1):=by
 have:=H.U i hi
 rw[he] at this
 exact this
theorem Sys.putA (H:Sys w ℓ pw st F us) (hi:i<us.length) (he:us[i]=(a,s)) {s':USt} (k:aa_ S w u) (hS:∀b,b<w.heap.size→S b→a.set b) (hU:IsU u (fun k=>ℓ k≠none) pw a s'):Mv w u ℓ ℓ∧Sys u ℓ pw st F (us.set i (a,s')):=by
 have e1:us[i].1=a:=by rw[he]
 refine⟨H.mv hi k (by rw[e1];exact hS),?_⟩
 have:=H.put hi k (s':=s') (by rw[e1];exact hS) (by rw[e1];exact hU)
 rw[e1] at this;exact this
theorem ns_ {R:Int→W_} (H:Sys w ℓ pw st aQ_ us) (hi:i<us.length) (he:us[i]=(a,s)) (hk:1≤s.keepf.size∧s.keepf.size≤30) (ho:st.ops<10000000000) (hl:ldN st.seen s.keepf 2=(-1,0,[]))
  (hR:∀u ℓ',Mv w u ℓ ℓ'→Sys u ℓ' pw {st with ops:=st.ops+2} aQ_ (us.set i (a,lz_ s))→R 0 u):dk_ (some ⟨a.ub,0,none⟩) w R:=by
 refine dv_.calls _ _ _ ?_
 obtain⟨hU,hown⟩:=H.at hi he
 have hNl:∀b,ℓ b≠none→b<w.heap.size:=H.lt
 obtain⟨z1,z2,z3,z4,z5,z6,z7⟩:=da_ a
 have own:∀{b},a.set b→ℓ b≠none:=fun hb=>by rw[hown _ hb];exact Option.some_ne_none _
 refine⟨fun x v=>∃j:Nat,x=j∧j≤8∧aa_ (fun k=>k=a.qb) w v∧IsU v (fun k=>ℓ k≠none) pw a {s with q:=fun t=>if t<j then bd_ (s.q t) 10496 else s.q t},fun x _=>8-x.toNat,⟨0,rfl,d_,aa_.refl _ _,?_⟩,?_⟩
 ·have:(fun t=>if t<0 then bd_ (s.q t) 10496 else s.q t)=s.q:=by funext t;rw[if_neg o_]
  rw[this];exact hU
 rintro x v ⟨j,rfl,hj,hkv,hUv⟩
 refine bl_ (y:=8) (fun hlt=>?_) (fun hge=>?_)
 ·refine⟨rfl,some ⟨a.qb,0,none⟩,hUv.cellU fun P=>rfl,?_⟩
  refine kO_ hUv.q hlt d_ (own z7) (fun b hb=>by have:=hNl b hb;have:=hkv.size;omega) fun v' hk' hq'=>?_
  rw[w64 o_ o_]
  refine⟨⟨j+1,o_,o_,hkv.trans hk' fun _ _ q=>q,?_⟩,by dsimp only;omega⟩
  have e:(fun t=>if t=j then bd_ (if j<j then bd_ (s.q j) 10496 else s.q j) 10496 else if t<j then bd_ (s.q t) 10496 else s.q t)=fun t=>if t<j+1 then bd_ (s.q t) 10496 else s.q t:=by
   funext t
   by_cases e:t=j
   ·subst e;rw[if_pos rfl,if_neg o_,if_pos o_]
   ·rw[if_neg e]
    by_cases e2:t<j
    ·rw[if_pos e2,if_pos o_]
    ·rw[if_neg e2,if_neg o_]
  rw[←e]
  exact hUv.que hk' (a6_.sub fun b _ q=>by rw[q];exact own z7) (fun b _ hne q=>hne q) (fun _ q=>.inl q) hq'
 ·have hj8:j=8:=o_
  subst hj8
  obtain⟨hmv,Hv⟩:=H.putA hi he hkv (fun b _ q=>by rw[q];exact z7) hUv
  have hi':i<(us.set i (a,{s with q:=fun t=>if t<8 then bd_ (s.q t) 10496 else s.q t})).length:=by rw[List.length_set];exact hi
  obtain⟨D,hW,hD⟩:=Hv.W
  refine⟨rfl,some ⟨a.sl,0,none⟩,hUv.cellU fun P=>rfl,?_⟩
  refine nl_ hUv.slots (fun q=>by have:=hD _ q;rw[hown _ z4] at this;injection this with this;omega) hW hk o_ fun best u hku hWu hSu hbo=>?_
  rw[hl] at hSu ⊢
  refine am_ rfl ?_
  have hs:=Hv.all (a':=a) (s':=lz_ s) hi' hD hku (fun b _ q=>by
    rcases q with q|q
    ·exact .inl q
    ·refine .inr ?_
     rw[List.getElem_set_self];rw[q];exact z4) hWu (fun _ q=>.inl q) (fun b hb=>.inl (by rw[List.getElem_set_self];exact hb)) (fun b hb q=>by have:=hW.lt q;omega) (fun N' hN'=>?_)
  ·obtain⟨ℓ',m,Hu⟩:=hs
   rw[List.set_set] at Hu
   exact hR u ℓ' (hmv.trans m) Hu
  ·refine hUv.slot hku (a6_.sub fun b _ q=>?_) (fun b hb hne q=>?_) (fun b hb=>?_) hSu
   ·rcases q with q|q
    ·rw[hD b q];exact Option.some_ne_none _
    ·rw[q];exact own z4
   ·rcases q with q|q
    ·have:=hD b q
     rw[hown b hb] at this
     injection this with this
     omega
    ·exact hne q
   ·rcases hN' b hb with q|q
    ·exact .inl q
    ·exact .inr q.1
def b1_ (s:USt):USt:={lz_ s with on:=1,lock:=0,fault:=0}
theorem q6_ {R:Int→W_} (H:Sys w ℓ pw st aQ_ us) (hi:i<us.length) (he:us[i]=(a,s)) (hon:s.on=0) (hlk:s.lock=0) (hk:1≤s.keepf.size∧s.keepf.size≤30) (ho:st.ops<10000000000) (hl:ldN st.seen s.keepf 2=(-1,0,[]))
  (hR:∀u ℓ',Mv w u ℓ ℓ'→Sys u ℓ' pw {st with ops:=st.ops+2} aQ_ (us.set i (a,b1_ s))→R 0 u):bZ_ (some ⟨a.ub,0,none⟩) w R:=by
 refine cr_.calls _ _ _ (ag_ fun fb w1 hfb hb1 hg1 hs1=>?_)
 obtain⟨z1,z2,z3,z4,z5,z6,z7⟩:=da_ a
 have H1:=H.grow hg1
 obtain⟨hU,hown⟩:=H1.at hi he
 have hfn:ℓ fb=none:=by
  cases hq:ℓ fb with
  | none=>rfl
  | some x=>have:=H.lt fb (by rw[hq];exact Option.some_ne_none _);omega
 have cf:∀{v:World},Blk v fb #[.pointer (some ⟨a.ub,0,none⟩)] aL_→v.cell? ⟨fb,0,none⟩=some (.pointer (some ⟨a.ub,0,none⟩)):=fun q=>by rw[Blk.cell q];rfl
 refine⟨some ⟨a.ub,0,none⟩,cf hb1,some ⟨a.ub,0,none⟩,fun _=>cf hb1,fun _=>rfl,some ⟨a.dv,0,none⟩,fun _=>hU.cellU fun P=>rfl,aj_ rfl ⟨some ⟨a.ub,0,none⟩,cf hb1,rfl,?_⟩⟩
 rw[show(gA (some (⟨a.ub,0,none⟩:Addr))).add 11=⟨a.ub,11,none⟩ by rw[gA,aq_]]
 obtain⟨P,hP1,hP2⟩:=hU.unit
 refine nq_ (o:=11) hP1 (by show some (Value.int .u32 (s.on:Int))=_;rw[hon];rfl) (by show some (Value.int .i32 (s.lock:Int))=_;rw[hlk];rfl) fun w2 hb2 hk2 hs2=>?_
 have sfe:∀{S:Nat→Prop} {x:World},(∀b,S b→b=a.ub)→a6_ x (fun k=>ℓ k≠none) S:=fun hS=>a6_.sub fun b _ q=>by rw[hS b q,hown _ z1];exact Option.some_ne_none _
 have hU2:IsU w2 (fun k=>ℓ k≠none) pw a {s with lock:=1}:=hU.unitC (on:=s.on) (lk:=1) (fl:=s.fault) (ct:=s.count) (ps:=s.peers) hk2 (sfe fun _ q=>q) (fun b _ hne q=>hne q) (fun _ q=>.inl q) ⟨P,hb2,hP2.step (.inr (.inr rfl)) hk2 (sfe fun _ q=>q) fun _ q=>.inl q⟩
 obtain⟨m2,H2⟩:=H1.putA hi he hk2 (fun b _ q=>by rw[q];exact z1) hU2
 have hi2:i<(us.set i (a,{s with lock:=1})).length:=by rw[List.length_set];exact hi
 have hf2:Blk w2 fb #[.pointer (some ⟨a.ub,0,none⟩)] aL_:=m2.heap hb1 hfn
 refine cx_.calls _ _ _ ?_
 rintro w3 rfl
 have hg3:=ak_ w2
 have H3:=H2.grow hg3
 have hf3:Blk w2.drew fb _ aL_:=hg3.heap hf2 (fun q=>q)
 generalize w2.drew=w3 at *
 refine⟨fun o=>o.cell? ⟨fb,0,none⟩=some (.pointer (some ⟨a.ub,0,none⟩)),cf hf3,some ⟨a.ub,0,none⟩,fun _ q=>q,some ⟨a.ub,0,none⟩,fun _ q=>q,?_⟩
 refine ns_ H3 hi2 (List.getElem_set_self _) hk ho hl fun w4 ℓ4 m4 H4=>?_
 have hi4:i<((us.set i (a,{s with lock:=1})).set i (a,lz_ {s with lock:=1})).length:=by rw[List.length_set];exact hi2
 obtain⟨hU4,hown4⟩:=H4.at hi4 (List.getElem_set_self _)
 have hf4:Blk w4 fb _ aL_:=m4.heap hf3 hfn
 obtain⟨P4,hP41,hP42⟩:=hU4.unit
 refine⟨cf hf4,rfl,?_⟩
 rw[gA,aq_]
 refine a0_ hP41 (by show 14<16;decide) rfl fun w5 hb5 hk5 hs5=>⟨_,hb5,by show some (Value.int .u32 (s.on:Int))=_;rw[hon];rfl,rfl,fun w6 hb6 hk6 hs6=>?_⟩
 have k46:aa_ (fun b=>b=a.ub) w4 w6:=hk5.trans hk6 fun _ _ q=>q
 have sf4:a6_ w4 (fun k=>ℓ4 k≠none) fun b=>b=a.ub:=a6_.sub fun b _ q=>by rw[q,hown4 _ z1];exact Option.some_ne_none _
 have hU6:IsU w6 (fun k=>ℓ4 k≠none) pw a (b1_ s):=hU4.unitC (on:=1) (lk:=0) (fl:=0) (ct:=s.count) (ps:=s.peers) k46 sf4 (fun b _ hne q=>hne q) (fun _ q=>.inl q) ⟨P4,hb6,hP42.step (.inr (.inr rfl)) k46 sf4 fun _ q=>.inl q⟩
 obtain⟨m6,H6⟩:=H4.putA hi4 (List.getElem_set_self _) k46 (fun b _ q=>by rw[q];exact z1) hU6
 rw[List.set_set,List.set_set] at H6
 have hf6:Blk w6 fb _ aL_:=k46.heap hf4 fun q=>by
  have:=hown4 _ z1
  rw[←q] at this
  have e:=m4.lab fb (by have:=aw_ hf3;exact this)
  rw[e,hfn] at this;cases this
 have hi6:i<(us.set i (a,b1_ s)).length:=by rw[List.length_set];exact hi
 obtain⟨hU6',_⟩:=H6.at hi6 (List.getElem_set_self _)
 refine⟨some ⟨a.ub,0,none⟩,cf hf6,rfl,0,hU6'.cellU fun P=>rfl,?_⟩
 exact hR w6 ℓ4 (((((Mv.grow hg1).trans m2).trans (Mv.grow hg3)).trans m4).trans m6) H6
theorem mm_ {R:Int→W_} (H:Sys w ℓ pw st F us) (hi:i<us.length) (he:us[i]=(a,s)) (hon:s.on=1) (hR:∀u,ab_ w u→R (s.fault:Int) u):bZ_ (some ⟨a.ub,0,none⟩) w R:=by
 refine cr_.calls _ _ _ (ag_ fun fb w1 hfb hb1 hg1 hs1=>?_)
 have H1:=H.grow hg1
 obtain⟨hU,hown⟩:=H1.at hi he
 have cf:∀{v:World},Blk v fb #[.pointer (some ⟨a.ub,0,none⟩)] aL_→v.cell? ⟨fb,0,none⟩=some (.pointer (some ⟨a.ub,0,none⟩)):=fun q=>by rw[Blk.cell q];rfl
 refine⟨some ⟨a.ub,0,none⟩,cf hb1,some ⟨a.ub,0,none⟩,fun _=>cf hb1,fun _=>rfl,some ⟨a.dv,0,none⟩,fun _=>hU.cellU fun P=>rfl,aj_ rfl ⟨some ⟨a.ub,0,none⟩,cf hb1,rfl,?_⟩⟩
 rw[show(gA (some (⟨a.ub,0,none⟩:Addr))).add 11=⟨a.ub,11,none⟩ by rw[gA,aq_]]
 obtain⟨P,hP1,hP2⟩:=hU.unit
 refine tU_ (o:=11) hP1 (by show some (Value.int .u32 (s.on:Int))=_;rw[hon];rfl) ⟨some ⟨a.ub,0,none⟩,cf hb1,rfl,(s.fault:Int),hU.cellU fun P=>rfl,hR w1 hg1⟩
end
end Go.Proofs.YtpmebahhjgkflaaGreatDoor
