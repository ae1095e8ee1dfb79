import Derived.Test.YtpmebahhjgkflaaGreatDoorB10
set_option maxHeartbeats 20000000
namespace Go.Proofs.YtpmebahhjgkflaaGreatDoor
open Go CF
set_option maxRecDepth 100000
theorem zd_ (p:L8) (k:Nat):∀x∈fY_ p k,wt_ x:=by
 intro x hx
 unfold fY_ at hx
 obtain⟨j,_,rfl⟩:=List.mem_map.1 hx
 have nl:∀(x:L8) (a n:Nat),n≤8→num (sub x a n)<18446744073709551616:=fun x a n hn=>by
  have h1:=iY_ (sub x a n)
  have h2:(sub x a n).length≤8:=by unfold sub;rw[List.length_take];omega
  have h3:(256:Nat) ^ (sub x a n).length≤256 ^ 8:=Nat.pow_le_pow_right d_ h2
  have p8:(256:Nat) ^ 8=18446744073709551616:=rfl
  omega
 have n2:∀(x:L8) (a:Nat),num (sub x a 2)<65536:=fun x a=>by
  have h1:=iY_ (sub x a 2)
  have h2:(sub x a 2).length≤2:=by unfold sub;rw[List.length_take];omega
  have h3:(256:Nat) ^ (sub x a 2).length≤256 ^ 2:=Nat.pow_le_pow_right d_ h2
  have p2:(256:Nat) ^ 2=65536:=rfl
  omega
 refine⟨nl _ _ _ d_,nl _ _ _ d_,?_⟩
 have:=n2 (cK_ p j) 10
 show((num (sub (cK_ p j) 10 2):Nat):Int)<_
 omega
theorem wv_ (l:L8):(a5_ l).us.length≤8∧(a5_ l).ss.length≤8∧∀x∈(a5_ l).ss,wt_ x:=by
 unfold a5_
 split
 ·exact⟨Nat.zero_le _,Nat.zero_le _,fun _ h=>by cases h⟩
 cases hh:me_ l with
 | some s=>exact⟨Nat.zero_le _,Nat.zero_le _,fun _ h=>by cases h⟩
 | none=>
  dsimp only
  cases (List.range (nuX l/32)).findSome? (je_ l) with
  | some f=>exact⟨Nat.zero_le _,Nat.zero_le _,fun _ h=>by cases h⟩
  | none=>
   dsimp only
   cases (List.range (nsX l/28)).findSome? (hK_ l) with
   | some f=>exact⟨Nat.zero_le _,Nat.zero_le _,fun _ h=>by cases h⟩
   | none=>
    have hns:nuX l≤256∧nsX l≤224:=by
     unfold me_ at hh
     split at hh
     ·cases hh
     split at hh
     ·cases hh
     split at hh
     ·cases hh
     split at hh
     ·cases hh
     split at hh
     ·cases hh
     split at hh
     ·cases hh
     split at hh
     ·cases hh
     split at hh
     ·cases hh
     ·omega
    refine⟨?_,?_,zd_ _ _⟩
    ·show(dF_ l (nuX l/32)).length≤8
     unfold dF_
     rw[List.length_map,List.length_range]
     omega
    ·show(fY_ l (nsX l/28)).length≤8
     unfold fY_
     rw[List.length_map,List.length_range]
     omega
theorem vm_ {F:Int→Bool} {L:List Dq} {us:List L8}:∀(ss:List eP_) (n:Nat) (st:Wst),(cL_ F L us n ss st).2.1.d = []
 | [],_,_=>rfl
 | x::r,n,st=>by
  unfold cL_
  cases eQ_ F L us st x with
  | mk o st'=>cases o with
   | some c=>rfl
   | none=>exact vm_ r (n+1) st'
def A6_ (us:List (UA×USt)) (nm:List (Nat×Nat)):Prop:=∀x∈nm,x.1<us.length∧x.2<4
theorem ze_ (s:USt) (n:Nat):gG_ s n<4:=by unfold gG_;split<;>split<;>decide
def dqF (us:List (UA×USt)) (x:Nat×Nat):Dq:=match us[x.1]? with
 | some y=>⟨y.2.inf.s,y.1.dv,y.1.ps,y.2.file,y.2.inf.prot,y.2.n,y.2.cache,x.2⟩
 | none=>⟨⟨#[]⟩,0,0,⟨#[]⟩,0,0,false,0⟩
theorem zf_ (us:List (UA×USt)) (x:Nat×Nat):(dqF us x).bare=t3_ (pub us) x:=by
 unfold dqF t3_ pub
 rw[List.getElem?_map]
 cases us[x.1]?<;>rfl
section
variable {w u v z w3:World} {S D D':Nat→Prop} {pw i m n ab cb:Nat} {a:UA} {s:USt} {st st':Wst} {F F':Int→Bool} {ℓ ℓ' ℓ1 ℓ2:Nat→Option Nat} {us us':List (UA×USt)} {R:A_→W_} {out:Sl} {l:L8} {c:Cm}
def jf_ (w:World) (ℓ:Nat→Option Nat) (pw:Nat) (F:Int→Bool) (us:List (UA×USt)) (m:Nat) (X:RsX×Pu×Wst) (R:A_→W_):Prop:=
 ∀v ℓ' d us',Mv w v ℓ ℓ'→Sys v ℓ' pw X.2.2 F us'→SOk X.2.2 us' (m+200000)→dp_ us us'→pub us'=X.2.1→Dat w v ℓ' d X.1.d→R (rsv X.1.st X.1.sn d).toArray v
theorem jf_.ret {X:RsX×Pu×Wst} {d:Sl} (h:jf_ w ℓ pw F us m X R) (mv:Mv w v ℓ ℓ') (H:Sys v ℓ' pw X.2.2 F us') (K:SOk X.2.2 us' (m+200000)) (lk:dp_ us us') (hp:pub us'=X.2.1) (dt:Dat w v ℓ' d X.1.d) (hab:w.heap.size≤ab) (hn:ℓ' ab=none) (hb:Blk v ab z10 aa_):cu_ ab R (rsv X.1.st X.1.sn d).toArray v:=
 aW_ hb rfl fun v' hk=>h v' ℓ' d us' (mv.loc hk fun b hb2 q=>o_) (H.local1 hb hn hk (eO_ d_ d_ d_) d_) K lk hp ⟨dt.1.keep hk fun b hbb q=>bd_ dt.1 hb d_ (by rw[hbb,q]),dt.2⟩
theorem jf_.hand {X:RsX×Pu×Wst} (h:jf_ w ℓ pw F us m X R) (mv:Mv w w3 ℓ ℓ1) (g:w.heap.size≤w3.heap.size) (hab:w.heap.size≤ab) (hn:ℓ1 ab=none) (hb:Blk w3 ab z10 aa_):jf_ w3 ℓ1 pw F us m X (cu_ ab R):=fun v ℓ' d us' mv2 H K lk hp dt=>
 h.ret (mv.trans mv2) H K lk hp (dt.from g) hab (by rw[mv2.lab _ (aw_ hb)];exact hn) (mv2.heap hb hn)
theorem Cal.ging {X:RsX×Pu×Wst} (h:Cal w v ℓ ℓ' cb ab c) (hab:w.heap.size≤ab) (hR:jf_ w ℓ pw F us m X R) (H:Sys v ℓ' pw X.2.2 F us') (K:SOk X.2.2 us' (m+200000)) (lk:dp_ us us') (hp:pub us'=X.2.1) (hd:X.1.d = []):cu_ ab R (rsv X.1.st X.1.sn au_).toArray v:=
 hR.ret h.mv H K lk hp (by rw[hd];exact Dat.nil _ _ _) hab h.nab h.res
theorem jf_.unit {X:lq_} (h:jf_ w ℓ pw F us m (X.x,(pub us).set i (a.ub,X.s),X.w) R) (hi:i<us.length) (he:us[i]=(a,s)) (hs:s.same X.s):fX_ w ℓ pw F us i a m X R:=fun v ℓ' d mv H K dt=>
 h v ℓ' d (us.set i (a,X.s)) mv H K (dp_.set hi he (UA.like.refl a) hs) rA_ dt
theorem zg_ (H:Sys w ℓ pw st F us) (K:SOk st us m) (hm:m≤200000000) (hi:i<us.length) (he:us[i]=(a,s)) (hn:n<8) (hp:RdX w ℓ 1 out (bv l)) (hpe:∀b∈s.peers,∃j,∃h:j<us.length,us[j].1.ub=b) (hpl:s.peers.length≤100) (hR:jf_ w ℓ pw F us m (pc_ F (pub us) st i n c l) R):ed_ (some ⟨a.ub,0,none⟩) (n:Int) (cmv c).toArray out w R:=by
 refine gt_.calls _ _ _ _ _ _ (Cal.start H fun cb ab w1 g1 hcb hab C1=>?_)
 have H1:=H.grow g1
 have hpn:=(b4_ hp.rd).symm
 refine⟨c.alloc,C1.cell rfl,?_⟩
 unfold pc_ at hR
 refine eR_ (fun hne=>?_) (fun hal=>?_)
 ·rw[if_pos o_] at hR
  exact br_ (s:=ci_ 0x1a00) fun y gy=>(C1.go gy).ging (X:=(snX (ci_ 0x1a00),pub us,st)) hab hR (H1.grow gy) (K.mono o_) (dp_.refl _) rfl rfl
 rw[if_neg o_] at hR
 refine wq_ (hp.rd.grow g1) fun U S w2 g2 oU oS=>?_
 have C2:=C1.go g2
 have H2:=H1.grow g2
 have fr:∀{y:World} {b:Nat},ab_ w y→w.heap.size≤b→ℓ b=none:=fun _ hb=>H.fresh hb
 have s1:=g1.size
 refine ag_ fun lb w3 hlb hb3 hg3 hs3=>ag_ fun sb w4 hsb hb4 hg4 hs4=>?_
 have hb3:Blk w4 lb _ a0_:=hg4.heap hb3 (fun q=>q)
 have s2:=g2.size
 refine ap_ (cells:=lsv U S) hb3 lb_ rfl rfl (by simp[lsv,Value.oneCell']) fun w5 hb5 hk5 hs5=>?_
 have hs5b:Blk w5 sb _ ak_:=hk5.heap hb4 o_
 refine ap_ (cells:=(snv (a5_ l).sn).toArray) hs5b aR_ rfl rfl (by simp[snv,Value.oneCell']) fun w6 hb6 hk6 hs6=>?_
 have g26:ab_ w2 w6:=((hg3.trans hg4).keep hk5 fun b hb q=>o_).keep hk6 fun b hb q=>by have:=hk5.size;omega
 have hl6:Blk w6 lb (lsv U S) a0_:=hk6.heap hb5 o_
 have C6:=C2.go g26
 have H6:=H2.grow g26
 refine AF_ ?_
 cases hok:(a5_ l).ok with
 | false=>
  rw[hok,if_pos rfl] at hR
  exact ai_ rfl ⟨_,dM_ (ar_ hb6),br_ fun y gy=>(C6.go gy).ging (X:=(snX (a5_ l).sn,pub us,st)) hab hR (H6.grow gy) (K.mono o_) (dp_.refl _) rfl rfl⟩
 | true=>
 rw[hok,if_neg Bool.noConfusion,m1_ hi,he] at hR
 dsimp only at hR
 refine al_ rfl ?_
 have s6:=g26.size
 refine aJ_ (cells:=#[.pointer (some ⟨a.ub,0,none⟩)]) (e:=aM_) (z:=1) (base:=w6.heap.size) (tJ_ _ _) rfl d_ (Nat.le_refl _) fun w7 o7 g7 hs7=>?_
 have H7:=H6.grow g7
 have hU7:=(H7.at hi he).1
 obtain⟨P7,hub7,hpr7⟩:=hU7.unit
 have prl:P7.n=s.peers.length:=by have:=hpr7.rd.len;rw[List.length_map] at this;omega
 refine⟨rfl,P7,by rw[gA,ao_,hub7.cell];rfl,?_⟩
 refine aN_ k9_ n0_ rfl d_ d_ o7 hpr7.rd (by intro x hx;obtain⟨b,_,rfl⟩:=List.mem_map.1 hx;rfl) (by show(1+P7.n)*8≤_;omega) o_ fun X8 w8 hX8 o8 k8 hat8=>?_
 have g68:ab_ w6 w8:=g7.keep k8 fun b hb q=>by
  have:b=w6.heap.size:=by simpa [Sl.blk] using q
  omega
 have g8:=(g1.trans g2).trans (g26.trans g68)
 have C8:=C6.go g68
 have H8:=H6.grow g68
 have hl8:Blk w8 lb (lsv U S) a0_:=g68.heap hl6 (fun q=>q)
 have oU8:=oU.grow (g26.trans g68)
 have oS8:=oS.grow (g26.trans g68)
 have e8:[Value.pointer (some ⟨a.ub,0,none⟩)]++s.peers.map ptr=(a.ub::s.peers).map ptr:=rfl
 have o8:CF.Own w8 w6.heap.size aM_ 1 X8 ((a.ub::s.peers).map ptr):=o8
 have hX8:X8.n=(a.ub::s.peers).length:=by rw[hX8,prl,List.length_cons];show 1+_=_;omega
 have hall:∀b∈a.ub::s.peers,∃j,∃h:j<us.length,us[j].1.ub=b:=fun b hb=>by
  rcases List.mem_cons.1 hb with r|r
  ·exact⟨i,hi,by rw[he,r]⟩
  ·exact hpe b r
 have hlen:(a.ub::s.peers).length≤101:=by rw[List.length_cons];omega
 generalize a.ub::s.peers=bs at *
 obtain⟨ps0,ps1,ps2⟩:=wv_ l
 have lsz:lb<w8.heap.size:=aw_ hl8
 refine⟨fun devs x v=>∃(k:Nat) (ℓ1:Nat→Option Nat) (us1:List (UA×USt)) (st1:Wst) (nm:List (Nat×Nat)),x=k∧k≤bs.length∧Cal w v ℓ ℓ1 cb ab c∧w8.heap.size≤v.heap.size∧Sys v ℓ1 pw st1 F us1∧SOk st1 us1 (m+2*k)∧dp_ us us1∧A6_ us nm∧nm.length≤k∧
   bP_ F n bs (pub us) st=(nm++(bP_ F n (bs.drop k) (pub us1) st1).1,(bP_ F n (bs.drop k) (pub us1) st1).2)∧LR v ℓ1 w8.heap.size bi_ 3 devs (nm.flatMap (kq_ us))∧LR v ℓ1 w6.heap.size aM_ 1 X8 (bs.map ptr)∧LR v ℓ1 w1.heap.size cG_ 1 U (dO_ (a5_ l).us)∧LR v ℓ1 w1.heap.size ct_ 5 S ((a5_ l).ss.flatMap sgv)∧LB v ℓ1 lb (lsv U S) a0_,
  fun _ x _=>bs.length-x.toNat,⟨0,ℓ,us,st,[],rfl,Nat.zero_le _,C8,Nat.le_refl _,H8,K.mono o_,dp_.refl _,(fun _ h=>by cases h),Nat.le_refl _,rfl,⟨aG_ _ _ _ _,fun b hb=>by simp[Sl.blk] at hb⟩,⟨o8,fun b hb=>H.fresh (by have:=(o8.ge b hb).1;omega)⟩,⟨oU8,fun b hb=>H.fresh (by have:=(oU8.ge b hb).1;omega)⟩,⟨oS8,fun b hb=>H.fresh (by have:=(oS8.ge b hb).1;omega)⟩,⟨hl8,H.fresh o_⟩⟩,?_⟩
 rintro devs x v ⟨k,ℓ1,us1,st1,nm,rfl,hk,Cv,szv,Hv,Kv,lk,hnm,hnk,hnames,rD,rX,rU,rS,bL⟩
 have hdn:devs.n=nm.length:=by have:=rD.own.len;rw[bv_ (za_ us)] at this;omega
 rw[hX8]
 refine ba_ (fun hlt=>?_) (fun hge=>?_)
 ·
  refine aX_ (fun devs' v'=>∃(ℓ2:Nat→Option Nat) (us2:List (UA×USt)) (st2:Wst) (nm2:List (Nat×Nat)),Cal w v' ℓ ℓ2 cb ab c∧w8.heap.size≤v'.heap.size∧Sys v' ℓ2 pw st2 F us2∧SOk st2 us2 (m+2*(k+1))∧dp_ us us2∧A6_ us nm2∧nm2.length≤k+1∧
   bP_ F n bs (pub us) st=(nm2++(bP_ F n (bs.drop (k+1)) (pub us2) st2).1,(bP_ F n (bs.drop (k+1)) (pub us2) st2).2)∧LR v' ℓ2 w8.heap.size bi_ 3 devs' (nm2.flatMap (kq_ us))∧LR v' ℓ2 w6.heap.size aM_ 1 X8 (bs.map ptr)∧LR v' ℓ2 w1.heap.size cG_ 1 U (dO_ (a5_ l).us)∧LR v' ℓ2 w1.heap.size ct_ 5 S ((a5_ l).ss.flatMap sgv)∧LB v' ℓ2 lb (lsv U S) a0_) ?_ (fun J=>?_)
  ·rintro devs' v' ⟨ℓ2,us2,st2,nm2,q⟩
   rw[w64 o_ o_]
   exact⟨⟨k+1,ℓ2,us2,st2,nm2,o_,o_,q⟩,by dsimp only;omega⟩
  obtain⟨hA8,hc8⟩:=ka_ (rX.own.rd o_) (i:=k) (by rw[List.length_map];exact hlt)
  obtain⟨j,hj,ej⟩:=hall bs[k] (List.getElem_mem hlt)
  have hj1:j<us1.length:=by rw[lk.len];exact hj
  have ej1:us1[j].1.ub=bs[k]:=by rw[(lk.all j hj hj1).1.ub,ej]
  refine⟨⟨o_,o_,hA8⟩,some ⟨us1[j].1.ub,0,none⟩,by rw[Int.toNat_natCast,hc8,List.getElem_map,ej1];rfl,?_⟩
  have hpg:=m1_ hj1
  have hidx:=A4_ Hv hj1
  rw[ej1] at hidx
  have hnd:bP_ F n (bs.drop k) (pub us1) st1=if (aC_ F us1[j].2 st1).1≠0 then bP_ F n (bs.drop (k+1)) ((pub us1).set j (us1[j].1.ub,(aC_ F us1[j].2 st1).2.1)) (aC_ F us1[j].2 st1).2.2
    else((j,gG_ (aC_ F us1[j].2 st1).2.1 n)::(bP_ F n (bs.drop (k+1)) ((pub us1).set j (us1[j].1.ub,(aC_ F us1[j].2 st1).2.1)) (aC_ F us1[j].2 st1).2.2).1,(bP_ F n (bs.drop (k+1)) ((pub us1).set j (us1[j].1.ub,(aC_ F us1[j].2 st1).2.1)) (aC_ F us1[j].2 st1).2.2).2):=by
   rw[List.drop_eq_getElem_cons hlt]
   conv=>lhs;unfold bP_
   rw[hidx,hpg]
  obtain⟨a1,s1',e1⟩:∃a1 s1',us1[j]=(a1,s1'):=⟨_,_,rfl⟩
  rw[e1] at hnd ej1 ⊢
  dsimp only at hnd ej1 ⊢
  refine oQ_ (fun _=>p9_ _ _ _) Hv Kv o_ hj1 e1 fun w9 ℓ2 a2 hl2 m2 H9 K9=>?_
  have sm:=jY_ (F:=F) (s:=s1') (st:=st1)
  have lk2:dp_ us (us1.set j (a2,(aC_ F s1' st1).2.1)):=lk.trans (dp_.set hj1 e1 hl2 sm)
  have epub:(pub us1).set j (a1.ub,(aC_ F s1' st1).2.1)=pub (us1.set j (a2,(aC_ F s1' st1).2.1)):=by rw[rA_,hl2.ub]
  rw[epub] at hnd
  have hi2:j<(us1.set j (a2,(aC_ F s1' st1).2.1)).length:=by rw[List.length_set];exact hj1
  have hU9:=(H9.at hi2 (List.getElem_set_self _)).1
  generalize hsu:aC_ F s1' st1=su at *
  have C9:=Cv.step m2
  have sz9:=m2.keep.size
  refine eR_ (fun hne=>?_) (fun hz=>?_)
  ·rw[if_pos o_] at hnd
   exact J devs w9 ⟨ℓ2,_,su.2.2,nm,C9,o_,H9,K9.mono o_,lk2,hnm,o_,by rw[hnames,hnd],rD.mv m2,rX.mv m2,rU.mv m2,rS.mv m2,bL.mv m2⟩
  ·rw[if_neg o_] at hnd
   have rD9:=rD.mv m2
   have eub:a1.ub=a2.ub:=hl2.ub.symm
   rw[eub]
   refine zc_ (n:=n) (ℓ:=ℓ2) (a:=a2) (s:=su.2.1) hU9 rD9.own o_ o_ fun x y z gy hdy hox hk hat hxn=>J x z ⟨ℓ2,_,su.2.2,nm++[(j,gG_ su.2.1 n)],(C9.go gy).keepR hdy d_ d_ g8.size hk,?_,(H9.grow gy).row (rD9.go gy) (eO_ d_ d_ d_) d_ hk,K9.mono o_,lk2,?_,?_,?_,⟨?_,?_⟩,((rX.mv m2).go gy).keepB hdy d_ hk,((rU.mv m2).go gy).keepB hdy d_ hk,((rS.mv m2).go gy).keepB hdy d_ hk,((bL.mv m2).go gy).keepR hdy d_ hk⟩
   ·have:=gy.size;have:=hk.size;omega
   ·intro q hq
    rcases List.mem_append.1 hq with r|r
    ·exact hnm q r
    ·rw[List.mem_singleton.1 r];exact⟨hj,ze_ _ _⟩
   ·rw[List.length_append];show nm.length+1≤_;omega
   ·rw[hnames,hnd,List.append_assoc];rfl
   ·have er:kq_ us (j,gG_ su.2.1 n)=nmv (su.2.1.inf.s,a2.dv,gG_ su.2.1 n):=by
     rw[←sh_ lk2]
     unfold kq_
     rw[List.getElem?_eq_getElem hi2,List.getElem_set_self]
    rw[List.flatMap_append,List.flatMap_singleton,er]
    exact hox
   ·intro b hb
    rcases hat with r|⟨b',r,hb'⟩
    ·exact rD9.no b (by rw[←r];exact hb)
    ·rw[r] at hb
     injection hb with hb
     exact H9.fresh (by have:=gy.size;omega)
 ·
  have hkb:k=bs.length:=o_
  have hnames:bP_ F n bs (pub us) st=(nm,pub us1,st1):=by
   rw[hnames,hkb,List.drop_length]
   show(nm++[],pub us1,st1)=_
   rw[List.append_nil]
  rw[hnames] at hR
  dsimp only at hR
  have ecg:cL_ F (nm.map (t3_ (pub us1))) (a5_ l).us 0 (a5_ l).ss st1=cL_ F (nm.map (dqF us1)) (a5_ l).us 0 (a5_ l).ss st1:=by
   rw[←q2_ F (nm.map (dqF us1)),List.map_map]
   congr 1
   exact List.map_congr_left fun x _=>(zf_ us1 x).symm
  rw[ecg] at hR
  obtain⟨D,hW,hD⟩:=Hv.W
  have nD:∀{x:Sl} {base q:Nat} {e:TypeId} {vs:List Value},LR v ℓ1 base e q x vs→∀a,x.A=some a→¬D a.block:=fun hx a ha q=>by
   have h1:=hD _ q
   rw[hx.no a.block (by unfold Sl.blk;rw[ha];rfl)] at h1
   cases h1
  have hT:Dvs v pw D st1 (m+2*k) F (nm.map (dqF us1)):=⟨hW,Kv.wok,Kv.few,fun d hd=>by
   obtain⟨x,hx,rfl⟩:=List.mem_map.1 hd
   have hx1:x.1<us1.length:=by rw[lk.len];exact(hnm x hx).1
   have:dqF us1 x=⟨us1[x.1].2.inf.s,us1[x.1].1.dv,us1[x.1].1.ps,us1[x.1].2.file,us1[x.1].2.inf.prot,us1[x.1].2.n,us1[x.1].2.cache,x.2⟩:=by unfold dqF;rw[List.getElem?_eq_getElem hx1]
   rw[this]
   exact Hv.devD Kv hW hD hx1 rfl⟩
  have erow:nm.flatMap (kq_ us)=((nm.map (dqF us1)).map fun d=>(d.serial,d.dv,d.shut)).flatMap nmv:=by
   rw[List.map_map,List.flatMap_map]
   refine wr_ fun x hx=>?_
   rw[←sh_ lk]
   have hx1:x.1<us1.length:=by rw[lk.len];exact(hnm x hx).1
   unfold kq_ dqF
   simp only[Function.comp,List.getElem?_eq_getElem hx1]
  have hrD:Rd v 3 devs (nm.flatMap (kq_ us)):=rD.own.rd o_
  rw[erow] at hrD
  have hUn:U.n=(a5_ l).us.length:=by have:=rU.own.len;unfold dO_ at this;rw[List.length_map] at this;omega
  have hSn:S.n=(a5_ l).ss.length:=by have:=rS.own.len;rw[bv_ pb_] at this;omega
  refine⟨lsv U S,wp_ bL.blk,?_⟩
  refine Aq_ hT o_ (rU.own.rd o_) (rS.own.rd o_) hrD (nD rU) (nD rS) (nD rD) ps1 ps2 (fun d hd=>by
   obtain⟨x,hx,rfl⟩:=List.mem_map.1 hd
   unfold dqF
   split
   ·exact(hnm x hx).2
   ·show 0<4;decide) fun v2 D2 hk2 hD2 T2=>?_
  have hcd:=vm_ (F:=F) (L:=nm.map (dqF us1)) (us:=(a5_ l).us) (a5_ l).ss 0 st1
  have hcs:=fun(f:ByteArray) (h:∀d∈nm.map (dqF us1),f≠d.file)=>q3_ (F:=F) (us:=(a5_ l).us) h (a5_ l).ss 0 st1
  generalize cL_ F (nm.map (dqF us1)) (a5_ l).us 0 (a5_ l).ss st1=cg at *
  obtain⟨ℓ3,m3,H3,_⟩:=Hv.worldN hD hk2 T2.isW hD2
  have C3:=Cv.step m3
  refine An_ fun rb v3 hrb g3 hbr=>⟨_,i0_ (ar_ hbr),?_⟩
  refine(C3.go g3).ging (X:=(cg.2.1,pub us1,cg.2.2)) hab hR (H3.grow g3) ⟨T2.ok,⟨by have:=T2.few;show cg.2.2.ops≤_;omega,by have:=T2.few;show cg.2.2.waits.length≤_;omega⟩,fun x hx=>?_⟩ lk rfl hcd
  have ok:=Kv.units x hx
  refine ok.same ?_ rfl rfl rfl rfl rfl rfl
  by_cases q:∃d∈nm.map (dqF us1),x.2.file=d.file
  ·obtain⟨d,hd,e⟩:=q
   rw[e];exact(T2.all d hd).tells.1
  ·rw[ma_ (hcs x.2.file fun d hd e=>q ⟨d,hd,e⟩)];exact ok.good
end
open Go CF
section
variable {w u v:World} {N N' S:Nat→Prop} {pw i n:Nat} {a:UA} {s s1:USt} {st st1:Wst} {F:Int→Bool} {ℓ ℓ':Nat→Option Nat} {us:List (UA×USt)} {p out:Sl} {l:L8}
theorem A7_ {e:Nat} {R:A_→W_} (H:Sys w ℓ pw st F us) (hi:i<us.length) (he:us[i]=(a,s)) (hn:n<8) (hct:s.count<1000000000000) (hp:RdX w ℓ 1 p (bv l))
  (hstart:∀u,Mv w u ℓ ℓ→Sys u ℓ pw st F (us.set i (a,aO_ s))→∀K:Int→W_,(∀u' ℓ' a2,a.like a2→Mv u u' ℓ ℓ'→Sys u' ℓ' pw st1 F (us.set i (a2,s1))→K (e:Int) u')→bA_ (some ⟨a.ub,0,none⟩) u K)
  (hbad:e≠0→∀ℓ1 a2,a.like a2→∀u,Mv w u ℓ ℓ1→Sys u ℓ1 pw st1 F (us.set i (a2,s1))→R (rsv 2 ⟨2,0,0,false,0,0,false,false⟩ au_).toArray u)
  (hR:e=0→∀ℓ1 a2,a.like a2→match d4_ s1 n l with
   | .bad sn=>∀u,Mv w u ℓ ℓ1→Sys u ℓ1 pw st1 F (us.set i (a2,s1))→R (rsv 2 sn au_).toArray u
   | .told c=>∀u,Mv w u ℓ ℓ1→Sys u ℓ1 pw st1 F (us.set i (a2,fk_ s1 n))→R (rsv 2 ⟨6,c,0,false,0,0,false,false⟩ au_).toArray u
   | .conflict=>∀u,Mv w u ℓ ℓ1→Sys u ℓ1 pw st1 F (us.set i (a2,s1))→R (rsv 24 sn0 au_).toArray u
   | .prot=>∀u,Mv w u ℓ ℓ1→Sys u ℓ1 pw st1 F (us.set i (a2,s1))→R (rsv 2 ⟨7,9984,0,false,0,0,false,false⟩ au_).toArray u
   | .run c=>∀u ab,Mv w u ℓ ℓ1→Sys u ℓ1 pw st1 F (us.set i (a2,s1))→Blk u ab z10 aa_→w.heap.size≤ab→ℓ1 ab=none→bs_ (some ⟨a2.ub,0,none⟩) (n:Int) (cmv c).toArray out u (dN_ ab R)):aL_ (some ⟨a.ub,0,none⟩) (n:Int) p out w R:=by
 refine d8_.calls _ _ _ _ _ _ (ag_ fun ab w0 hab hb0 hg0 hs0=>?_)
 have hb0:Blk w0 ab z10 aa_:=hb0
 have hab':w.heap.size≤ab:=o_
 have hfab:ℓ ab=none:=H.fresh hab'
 have H0:=H.grow hg0
 obtain⟨hU,hown⟩:=H0.at hi he
 obtain⟨z1,z2,z3,z4,z5,z6,z7⟩:=de_ a
 refine⟨fun _=>rfl,some ⟨a.dv,0,none⟩,fun _=>hU.cellU fun P=>rfl,ai_ (by simp;omega) ⟨rfl,?_⟩⟩
 rw[show(gA (some (⟨a.ub,0,none⟩:Addr))).add 15=⟨a.ub,15,none⟩ by rw[gA,ao_]]
 obtain⟨P,hP1,hP2⟩:=hU.unit
 refine qE_ (o:=15) (n:=(s.count:Int)) (s:=((s.count+1:Nat):Int)) hP1 rfl (by rw[w64 o_ o_];omega) fun w1 hb1 hk1 hs1=>?_
 have sf:a9_ w0 (fun k=>ℓ k≠none) fun b=>b=a.ub:=a9_.sub fun b _ q=>by rw[q,hown _ z1];exact Option.some_ne_none _
 have hU1:IsU w1 (fun k=>ℓ k≠none) pw a (aO_ s):=hU.unitC (on:=s.on) (lk:=s.lock) (fl:=s.fault) (ct:=s.count+1) (ps:=s.peers) hk1 sf (fun b _ hne q=>hne q) (fun _ q=>.inl q) ⟨P,hb1,hP2.step (.inr (.inr rfl)) hk1 sf fun _ q=>.inl q⟩
 obtain⟨m1,H1⟩:=H0.putA hi he hk1 (fun b _ q=>by rw[q];exact z1) hU1
 have hi1:i<(us.set i (a,aO_ s)).length:=by rw[List.length_set];exact hi
 have m01:Mv w w1 ℓ ℓ:=(Mv.grow hg0).trans m1
 refine hstart w1 m01 H1 _ fun w2 ℓ2 a2 hl2 m12 H2=>?_
 have m02:=m01.trans m12
 have hab2:Blk w2 ab z10 aa_:=(m1.trans m12).heap hb0 hfab
 have hfab:ℓ2 ab=none:=(m12.lab ab (aw_ (m1.heap hb0 hfab))).trans hfab
 refine eR_ (fun hne=>br_ (s:=⟨2,0,0,false,0,0,false,false⟩) fun w3 hg3=>dN_.sys (H2.grow hg3) (m02.go hg3) hab' hfab (hg3.heap hab2 (fun q=>q)) rfl fun v k hm hs=>hbad o_ ℓ2 a2 hl2 v hm hs) (fun hz=>?_)
 have hR:=hR o_ ℓ2 a2 hl2
 rw[←hl2.ub]
 obtain⟨z1,z2,z3,z4,z5,z6,z7⟩:=de_ a2
 have hi1:i<(us.set i (a2,s1)).length:=by rw[List.length_set];exact hi
 refine r2_ (m02.rdX hp).rd fun w3 hg3=>?_
 have m03:=m02.go hg3
 have H3:=H2.grow hg3
 have hab3:Blk w3 ab z10 aa_:=hg3.heap hab2 (fun q=>q)
 generalize hX:df_ l=X
 obtain⟨c,sn,ok⟩:=X
 unfold d4_ at hR
 rw[hX] at hR
 dsimp only
 refine ag_ fun cb w4 hcb hb4 hg4 hs4=>ag_ fun sb w5 hsb hb5 hg5 hs5=>?_
 have hcn:ab≠cb∧ab≠sb:=by
  have:=aw_ hab3
  have:=hg4.size
  omega
 refine ap_ (cells:=(cmv c).toArray) (hg5.heap hb4 (fun q=>q)) ix_ rfl rfl (by simp[cmv,Value.oneCell']) fun w6 hb6 hk6 hs6=>?_
 have hb56:=hk6.heap hb5 (fun q=>o_)
 refine ap_ (cells:=(snv sn).toArray) hb56 aR_ rfl rfl (by simp[snv,Value.oneCell']) fun w7 hb7 hk7 hs7=>?_
 have hg37:ab_ w3 w7:=(((hg4.trans hg5).keep hk6 fun i hi q=>o_).keep hk7 fun i hi q=>by have:=hg4.size;omega)
 have hb67:Blk w7 cb (cmv c).toArray az_:=hk7.heap hb6 (fun q=>o_)
 have m07:=m03.go hg37
 have H7:=H3.grow hg37
 have hab7:Blk w7 ab z10 aa_:=hg37.heap hab3 (fun q=>q)
 have c0:∀{v:World},Blk v cb (cmv c).toArray az_→v.cell? ((⟨cb,0,none⟩:Addr).add 0)=some (.int .u8 (c.kind:Int)):=fun q=>by rw[ao_,q.cell];rfl
 cases ok with
 | false=>
  refine al_ rfl ⟨(snv sn).toArray,aD_ (cs:=snv sn) f9_ aR_ rfl (ar_ hb7),br_ fun w8 hg8=>?_⟩
  rw[if_pos rfl] at hR
  exact dN_.sys (H7.grow hg8) (m07.go hg8) hab' hfab (hg8.heap hab7 (fun q=>q)) rfl fun v k hm hs=>hR v hm hs
 | true=>
  rw[if_neg (fun q=>Bool.noConfusion q)] at hR
  dsimp only at hR
  refine ai_ rfl ⟨(c.kind:Int),c0 hb67,(c.kind:Int),fun _=>c0 hb67,(c.kind:Int),fun _=>c0 hb67,rfl,?_⟩
  obtain⟨hU7,hown7⟩:=H7.at hi1 (List.getElem_set_self _)
  refine⟨some ⟨a2.qb,0,none⟩,hU7.cellU fun P=>rfl,?_⟩
  have efree:(!((((c.kind:Int)==3)||((c.kind:Int)==17))||((c.kind:Int)==2))) = !kT_ c.kind:=by
   unfold kT_
   congr 1
   rw[Bool.eq_iff_iff]
   simp only[Bool.or_eq_true,beq_iff_eq]
   omega
  refine rZ_ hU7.q hn fun w8 hg8=>?_
  have H8:=H7.grow hg8
  have m08:=m07.go hg8
  have hab8:Blk w8 ab z10 aa_:=hg8.heap hab7 (fun q=>q)
  have hb8:Blk w8 cb (cmv c).toArray az_:=hg8.heap hb67 (fun q=>q)
  have rest:∀{n5:Int} {b1:Bool},(b1 && !kT_ c.kind)=false→
    (match (if be_ s1.tab n (hG_ c.kind)=true then sF_.conflict else if (gf_ c.kind&&s1.now.swp)=true then .prot else .run c) with
     | .bad sn=>∀u,Mv w u ℓ ℓ2→Sys u ℓ2 pw st1 F (us.set i (a2,s1))→R (rsv 2 sn au_).toArray u
     | .told c=>∀u,Mv w u ℓ ℓ2→Sys u ℓ2 pw st1 F (us.set i (a2,fk_ s1 n))→R (rsv 2 ⟨6,c,0,false,0,0,false,false⟩ au_).toArray u
     | .conflict=>∀u,Mv w u ℓ ℓ2→Sys u ℓ2 pw st1 F (us.set i (a2,s1))→R (rsv 24 sn0 au_).toArray u
     | .prot=>∀u,Mv w u ℓ ℓ2→Sys u ℓ2 pw st1 F (us.set i (a2,s1))→R (rsv 2 ⟨7,9984,0,false,0,0,false,false⟩ au_).toArray u
     | .run c=>∀u ab,Mv w u ℓ ℓ2→Sys u ℓ2 pw st1 F (us.set i (a2,s1))→Blk u ab z10 aa_→w.heap.size≤ab→ℓ2 ab=none→bs_ (some ⟨a2.ub,0,none⟩) (n:Int) (cmv c).toArray out u (dN_ ab R))→
    ∀w018,w018=w8.drew→∃S:W_,S w018∧(some (⟨a2.ub,0,none⟩:Addr)).isSome=true∧∃p3:O_,(∀u1,S u1→u1.cell? ((gA (some (⟨a2.ub,0,none⟩:Addr))).add 8)=some (.pointer p3))∧∃n7:Int,(∀u2,S u2→u2.cell? ((⟨cb,0,none⟩:Addr).add 0)=some (.int .u8 n7))∧hz_ n7 w018 fun n8 w019=>S w019∧bz_ p3 (n:Int) n8 w019 fun b3 w020=>
     Br b3 (af_ Tryz.prog (storeVar aa_ ⟨ab,0,none⟩ (.agg #[.int .u8 24,.int .u8 0,.int .u16 0,.int .u64 0,.bool false,.int .i64 0,.int .i64 0,.bool false,.bool false,.slice none 0 0])) w020 fun w021=>∃res4:A_,(loadVar aa_ ⟨ab,0,none⟩).run Tryz.prog w021=.ok (.agg res4) w021∧R res4 w021)
     (∃n9:Int,w020.cell? ((⟨cb,0,none⟩:Addr).add 0)=some (.int .u8 n9)∧gP_ n9 w020 fun b4 w022=>(b4=true→(some (⟨a2.ub,0,none⟩:Addr)).isSome=true)∧∃p4:O_,(b4=true→w022.cell? ((gA (some (⟨a2.ub,0,none⟩:Addr))).add 7)=some (.pointer p4))∧bL_ (fun(g7:A_) (w023:World)=>∃b5:Bool,(b4=true→g7[2]?=some (.bool b5))∧Br (b4&&b5)
      (aT_ #[.int .u8 7,.int .u16 9984,.int .u64 0,.bool false,.int .i64 0,.int .i64 0,.bool false,.bool false] w023 fun g8 w024=>af_ Tryz.prog (storeVar aa_ ⟨ab,0,none⟩ (.agg g8)) w024 fun w025=>∃res5:A_,(loadVar aa_ ⟨ab,0,none⟩).run Tryz.prog w025=.ok (.agg res5) w025∧R res5 w025)
      (∃g9:A_,(loadVar az_ ⟨cb,0,none⟩).run Tryz.prog w023=.ok (.agg g9) w023∧bs_ (some ⟨a2.ub,0,none⟩) (n:Int) g9 out w023 fun g10 w026=>af_ Tryz.prog (storeVar aa_ ⟨ab,0,none⟩ (.agg g10)) w026 fun w027=>∃res6:A_,(loadVar aa_ ⟨ab,0,none⟩).run Tryz.prog w027=.ok (.agg res6) w027∧R res6 w027)) fun J_=>(b4=true→bh_ p4 w022 J_)∧(b4=false→J_ (Kd.dflt .ag) w022)):=by
   intro n5 b1 _ hR w9 e9
   subst e9
   have hg9:=am_ w8
   have H9:=H8.grow hg9
   have m09:=m08.go hg9
   have hab9:Blk w8.drew ab z10 aa_:=hg9.heap hab8 (fun q=>q)
   have hb9:Blk w8.drew cb (cmv c).toArray az_:=hg9.heap hb8 (fun q=>q)
   generalize w8.drew=w9 at *
   obtain⟨hU9,hown9⟩:=H9.at hi1 (List.getElem_set_self _)
   refine⟨fun o=>o=w9,rfl,rfl,some ⟨a2.tb,0,none⟩,fun o e=>by rw[e];exact hU9.cellU fun P=>rfl,(c.kind:Int),fun o e=>by rw[e];exact c0 hb9,qG_ ⟨rfl,ia_ hU9.tab fun w10 hg10=>?_⟩⟩
   have H10:=H9.grow hg10
   have m10:=m09.go hg10
   have hab10:Blk w10 ab z10 aa_:=hg10.heap hab9 (fun q=>q)
   have hb10:Blk w10 cb (cmv c).toArray az_:=hg10.heap hb9 (fun q=>q)
   have hU10:=hU9.grow hg10
   cases hc:be_ s1.tab n (hG_ c.kind) with
   | true=>
    rw[hc,if_pos rfl] at hR
    exact al_ rfl (dN_.sys (sn:=sn0) (d:=au_) H10 m10 hab' hfab hab10 rfl fun v k hm hs=>hR v hm hs)
   | false=>
    rw[hc,if_neg d_] at hR
    refine ai_ rfl ⟨(c.kind:Int),c0 hb10,pw_ ⟨fun _=>rfl,some ⟨a2.pg,0,none⟩,fun _=>hU10.cellU fun P=>rfl,?_⟩⟩
    refine cI_ (fun(g7:A_) v=>ab_ w10 v∧(gf_ c.kind=true→g7=(vlv s1.now).toArray)) ?_ (fun J=>⟨fun _=>ik_ hU10.pages fun v hg=>J _ _ ⟨hg,fun _=>rfl⟩,fun q=>J _ _ ⟨ac_.refl _ _,fun r=>by rw[q] at r;cases r⟩⟩)
    rintro g7 v ⟨hgv,hg7⟩
    have Hv:=H10.grow hgv
    have mv:=m10.go hgv
    have habv:Blk v ab z10 aa_:=hgv.heap hab10 (fun q=>q)
    have hbv:Blk v cb (cmv c).toArray az_:=hgv.heap hb10 (fun q=>q)
    refine⟨s1.now.swp,fun q=>by rw[hg7 q];rfl,?_⟩
    cases hal:gf_ c.kind&&s1.now.swp with
    | true=>
     rw[hal,if_pos rfl] at hR
     exact al_ rfl (br_ (s:=⟨7,9984,0,false,0,0,false,false⟩) fun v' hg'=>dN_.sys (Hv.grow hg') (mv.go hg') hab' hfab (hg'.heap habv (fun q=>q)) rfl fun v k hm hs=>hR v hm hs)
    | false=>
     rw[hal,if_neg d_] at hR
     exact ai_ rfl ⟨_,jO_ (c:=c) (ar_ hbv),hR v ab mv Hv habv hab' hfab⟩
  cases hpk:i6_ (s1.q n) with
  | none=>
   rw[hpk] at hR
   exact ai_ rfl (rest (n5:=0) (b1:=false) rfl hR)
  | some code=>
   rw[hpk] at hR
   dsimp only
   rw[efree]
   cases hfk:kT_ c.kind with
   | true=>
    rw[hfk] at hR
    exact ai_ rfl (rest (n5:=(code:Int)) (b1:=true) (by rw[hfk];rfl) hR)
   | false=>
    rw[hfk] at hR
    dsimp only at hR
    refine al_ rfl ⟨rfl,?_⟩
    obtain⟨hU8,hown8⟩:=H8.at hi1 (List.getElem_set_self _)
    refine⟨some ⟨a2.qb,0,none⟩,hU8.cellU fun P=>rfl,?_⟩
    refine oA_ hU8.q hn (by rw[hown8 _ z7];exact Option.some_ne_none _) H8.lt fun w9 hk9 hq9=>?_
    rw[hpk]
    dsimp only
    have sfq:a9_ w8 (fun k=>ℓ2 k≠none) fun b=>b=a2.qb:=a9_.sub fun b _ q=>by rw[q,hown8 _ z7];exact Option.some_ne_none _
    have hU9:IsU w9 (fun k=>ℓ2 k≠none) pw a2 (fk_ s1 n):=hU8.que hk9 sfq (fun b _ hne q=>hne q) (fun _ q=>.inl q) hq9
    obtain⟨m9,H9⟩:=H8.putA hi1 (List.getElem_set_self _) hk9 (fun b _ q=>by rw[q];exact z7) hU9
    rw[List.set_set] at H9
    refine br_ (s:=⟨6,code,0,false,0,0,false,false⟩) fun w10 hg10=>?_
    have hab10:Blk w10 ab z10 aa_:=(m9.go hg10).heap hab8 hfab
    exact dN_.sys (H9.grow hg10) ((m08.trans m9).go hg10) hab' hfab hab10 rfl fun v k hm hs=>hR v hm hs
end
open Go CF
theorem q4_ {a b:Nat} {k:Nat} (h:a<k):a &&& b<k:=Nat.lt_of_le_of_lt Nat.and_le_left h
theorem xP_ (k:Nat):lr_ {c0C with kind:=k}:=⟨by show 0<_;decide,by show 0<_;decide,by show 0<_;decide,by show 0<_;decide,by show 0<_;decide,fun _=>by show(0:Int)≤_;decide⟩
theorem As_ {c:Cm} {p:L8} {sv:Nat} (h:lr_ c) (hs:sv<256) (ha:c.alloc≤1000000):lr_ (jT_ c p sv).1:=by
 obtain⟨h1,h2,h3,h4,h5,h6⟩:=h
 have b:=o5_ p
 have n1:=nu1 p
 have n2:=nu2 p
 have n3:=nu3 p
 have n4:=nu4 p
 have n8:=nu8 p
 have sp:lr_ (gE_ c p).1∧(gE_ c p).1.kind=c.kind:=by
  unfold gE_
  split
  ·refine⟨⟨?_,?_,h3,h4,h5,h6⟩,rfl⟩
   ·show nuN p 1 3 &&& 2097151<_
    exact q4_ (by have:=n3 1;omega)
   ·show(if nuN p 4 1=0 then 256 else nuN p 4 1)<_
    have:=n1 4
    split<;>omega
  split
  ·exact⟨⟨by have:=n4 2;show nuN p 2 4<_;omega,by have:=n2 7;show nuN p 7 2<_;omega,h3,h4,h5,h6⟩,rfl⟩
  ·exact⟨⟨n8 2,by have:=n4 10;show nuN p 10 4<_;omega,h3,h4,h5,h6⟩,rfl⟩
 unfold jT_
 by_cases k2:c.kind=2
 ·rw[if_pos k2]
  exact⟨h1,h2,h3,h4,h5,fun q=>by have q:c.kind=4:=q;omega⟩
 rw[if_neg k2]
 by_cases k3:c.kind=3
 ·rw[if_pos k3]
  exact⟨h1,h2,b 2,h4,h5,fun q=>by have q:c.kind=4:=q;omega⟩
 rw[if_neg k3]
 by_cases k4:c.kind=4
 ·rw[if_pos k4]
  refine⟨h1,h2,h3,h4,h5,fun _=>?_⟩
  show(if p.length=10 then(nuN p 7 2:Int) else(bN p 4:Int))≤_
  have:=n2 7
  have:=b 4
  split<;>omega
 rw[if_neg k4]
 by_cases k5:c.kind=5
 ·rw[if_pos k5]
  exact⟨h1,h2,q4_ (b 2),h4,h5,fun q=>by have q:c.kind=4:=q;omega⟩
 rw[if_neg k5]
 by_cases k6:c.kind=6
 ·rw[if_pos k6]
  exact⟨h1,h2,h3,h4,h5,fun q=>by have q:c.kind=4:=q;omega⟩
 rw[if_neg k6]
 by_cases k7:7≤c.kind∧c.kind≤12
 ·rw[if_pos k7]
  show lr_ (id_ c p)
  unfold id_
  by_cases q6:6<p.length
  ·rw[if_pos q6]
   obtain⟨⟨g1,g2,g3,g4,g5,g6⟩,_⟩:=sp
   generalize (gE_ c p).1=d at *
   unfold o6_
   by_cases w1:d.kind=7∨d.kind=8
   ·rw[if_pos w1];exact⟨g1,g2,g3,g4,g5,g6⟩
   rw[if_neg w1]
   by_cases w2:d.kind=10
   ·rw[if_pos w2];exact⟨g1,g2,g3,g4,g5,g6⟩
   rw[if_neg w2]
   by_cases w3:d.kind=12
   ·rw[if_pos w3];exact⟨g1,g2,g3,g4,g5,g6⟩
   rw[if_neg w3]
   by_cases w4:d.kind=11
   ·rw[if_pos w4];exact⟨g1,g2,g3,g4,g5,g6⟩
   rw[if_neg w4];exact⟨g1,g2,g3,g4,g5,g6⟩
  ·rw[if_neg q6];exact sp.1
 rw[if_neg k7]
 by_cases k13:c.kind=13
 ·rw[if_pos k13]
  exact⟨h1,h2,h3,h4,h5,fun q=>by have q:c.kind=4:=q;omega⟩
 rw[if_neg k13]
 by_cases k14:c.kind=14
 ·rw[if_pos k14]
  exact⟨n8 2,by have:=b 13;show bN p 13<_;omega,h3,h4,h5,h6⟩
 rw[if_neg k14]
 by_cases k15:c.kind=15
 ·rw[if_pos k15]
  exact⟨h1,h2,h3,hs,h5,fun q=>by have q:c.kind=4:=q;omega⟩
 rw[if_neg k15]
 by_cases k16:c.kind=16
 ·rw[if_pos k16]
  exact⟨h1,h2,h3,hs,q4_ (b 2),fun q=>by have q:c.kind=4:=q;omega⟩
 rw[if_neg k16]
 by_cases k17:c.kind=17
 ·rw[if_pos k17]
  exact⟨h1,h2,b 2,h4,h5,fun q=>by have q:c.kind=4:=q;omega⟩
 rw[if_neg k17]
 by_cases k18:c.kind=18
 ·rw[if_pos k18]
  exact⟨h1,h2,h3,h4,h5,fun q=>by have q:c.kind=4:=q;omega⟩
 rw[if_neg k18]
 exact⟨h1,h2,h3,h4,h5,h6⟩
theorem zh_ (l:L8):lr_ (df_ l).1:=by
 have z:=xP_ 0
 have sv:ll_ l<256:=by
  unfold ll_
  split
  ·exact q4_ (o5_ l 1)
  ·decide
 unfold df_
 split
 ·exact z
 split
 ·exact z
 split
 ·exact z
 split
 ·exact z
 split
 ·exact z
 split
 ·exact z
 ·unfold sE_
  split
  ·exact z
  ·exact As_ (xP_ _) sv (by show(0:Int)≤_;decide)
def t4_ (F:Int→Bool) (P:Pu) (st:Wst) (i n:Nat) (c:Cm) (l:L8):RsX×Pu×Wst:=
 if c.kind=18 then pc_ F P st i n c l
 else match P[i]? with
  | none=>(snX sn0,P,st)
  | some x=>if c.kind=4 then((kp_ F x.2 st n c l).x,P.set i (x.1,(kp_ F x.2 st n c l).s),(kp_ F x.2 st n c l).w)
   else if c.kind=16 then((mz_ F x.2 st n c l).x,P.set i (x.1,(mz_ F x.2 st n c l).s),(mz_ F x.2 st n c l).w)
   else((my_ F x.2 st n c l).x,P.set i (x.1,(my_ F x.2 st n c l).s),(my_ F x.2 st n c l).w)
abbrev nrS:Sn:=⟨2,0,0,false,0,0,false,false⟩
abbrev BB_:Sn:=⟨7,9984,0,false,0,0,false,false⟩
def b5_ (F:Int→Bool) (P:Pu) (st:Wst) (i n:Nat) (l out:L8):RsX×Pu×Wst:=
 match P[i]? with
 | none=>(snX sn0,P,st)
 | some x=>
  if (aC_ F (aO_ x.2) st).1≠0 then(snX nrS,P.set i (x.1,(aC_ F (aO_ x.2) st).2.1),(aC_ F (aO_ x.2) st).2.2)
  else match d4_ (aC_ F (aO_ x.2) st).2.1 n l with
   | .bad sn=>(snX sn,P.set i (x.1,(aC_ F (aO_ x.2) st).2.1),(aC_ F (aO_ x.2) st).2.2)
   | .told c=>(snX (uaS c),P.set i (x.1,fk_ (aC_ F (aO_ x.2) st).2.1 n),(aC_ F (aO_ x.2) st).2.2)
   | .conflict=>(⟨24,sn0,[]⟩,P.set i (x.1,(aC_ F (aO_ x.2) st).2.1),(aC_ F (aO_ x.2) st).2.2)
   | .prot=>(snX BB_,P.set i (x.1,(aC_ F (aO_ x.2) st).2.1),(aC_ F (aO_ x.2) st).2.2)
   | .run c=>t4_ F (P.set i (x.1,(aC_ F (aO_ x.2) st).2.1)) (aC_ F (aO_ x.2) st).2.2 i n c out
theorem q5_ {F:Int→Bool} {b:Bool} {s:USt} {st:Wst}:s.same (kW_ F b s st).s:=by
 unfold kW_
 split<;>exact⟨rfl,rfl,rfl,rfl,rfl,rfl⟩
theorem xQ_ {F:Int→Bool} {s:USt} {st:Wst} {n:Nat} {c:Cm} {l:L8}:s.same (kp_ F s st n c l).s:=by
 unfold kp_
 split
 ·exact USt.same.refl s
 split
 ·exact USt.same.refl s
 ·refine USt.same.trans ?_ q5_
  split<;>exact⟨rfl,rfl,rfl,rfl,rfl,rfl⟩
theorem xR_ {F:Int→Bool} {s:USt} {st:Wst} {n:Nat} {c:Cm} {l:L8}:s.same (mz_ F s st n c l).s:=by
 unfold mz_
 generalize cV_ s.tab n (g3_ c l)=d
 generalize evQ s.q d.ev=q
 split
 ·exact USt.same.refl s
 split
 ·exact USt.same.refl s
 split
 ·exact⟨rfl,rfl,rfl,rfl,rfl,rfl⟩
 ·have h1:s.same {s with tab:=d.t,q:=q}:=⟨rfl,rfl,rfl,rfl,rfl,rfl⟩
  exact h1.trans q5_
theorem xS_ {F:Int→Bool} {s:USt} {st:Wst} {n:Nat} {c:Cm} {l:L8}:s.same (my_ F s st n c l).s:=by
 unfold my_
 split
 ·exact USt.same.refl s
 unfold jW_
 split
 ·exact USt.same.refl s
 split
 ·exact⟨rfl,rfl,rfl,rfl,rfl,rfl⟩
 split
 ·split<;>exact USt.same.refl s
 split
 ·exact USt.same.refl s
 split
 ·split<;>exact USt.same.refl s
 ·exact USt.same.refl s
section
variable {w u v:World} {N N' S:Nat→Prop} {pw i n m:Nat} {a:UA} {s s1:USt} {st st1:Wst} {F:Int→Bool} {ℓ ℓ':Nat→Option Nat} {us:List (UA×USt)} {p out:Sl} {l lo:L8} {c:Cm} {R:A_→W_}
structure nZ_ (k:Nat):Prop where
 base:k≠4→k≠16→k≠18→jX_ k
 sel:k=4→∀{w:World} {pw i m n:Nat} {a:UA} {s:USt} {st:Wst} {F:Int→Bool} {ℓ:Nat→Option Nat} {us:List (UA×USt)} {R:A_→W_} {out:Sl} {l:L8} {c:Cm},Sys w ℓ pw st F us→SOk st us m→m≤400000000→i<us.length→us[i]?=some (a,s)→n<8→RdX w ℓ 1 out (bv l)→c.alloc≤1000000→fX_ w ℓ pw F us i a m (kp_ F s st n c l) R→fo_ (some ⟨a.ub,0,none⟩) (n:Int) (cmv c).toArray out w R
 out:k=16→∀{w:World} {pw i m n:Nat} {a:UA} {s:USt} {st:Wst} {F:Int→Bool} {ℓ:Nat→Option Nat} {us:List (UA×USt)} {R:A_→W_} {out:Sl} {l:L8} {c:Cm},Sys w ℓ pw st F us→SOk st us m→m≤400000000→i<us.length→us[i]?=some (a,s)→n<8→RdX w ℓ 1 out (bv l)→lr_ c→fX_ w ℓ pw F us i a m (mz_ F s st n c l) R→fp_ (some ⟨a.ub,0,none⟩) (n:Int) (cmv c).toArray out w R
 copy:k=18→∀{w:World} {pw i m n:Nat} {a:UA} {s:USt} {st:Wst} {F:Int→Bool} {ℓ:Nat→Option Nat} {us:List (UA×USt)} {R:A_→W_} {out:Sl} {l:L8} {c:Cm},Sys w ℓ pw st F us→SOk st us m→m≤200000000→i<us.length→us[i]?=some (a,s)→n<8→RdX w ℓ 1 out (bv l)→(∀b∈s.peers,∃j,∃h:j<us.length,us[j].1.ub=b)→s.peers.length≤100→jf_ w ℓ pw F us m (pc_ F (pub us) st i n c l) R→ed_ (some ⟨a.ub,0,none⟩) (n:Int) (cmv c).toArray out w R
theorem xT_ (hN:nZ_ c.kind) (H:Sys w ℓ pw st F us) (K:SOk st us m) (hm:m≤200000000) (hi:i<us.length) (he:us[i]=(a,s)) (hn:n<8) (hp:RdX w ℓ 1 out (bv l)) (hb:out.n≤140737488351232) (hc:lr_ c) (hpe:∀b∈s.peers,∃j,∃h:j<us.length,us[j].1.ub=b) (hpl:s.peers.length≤100) (hR:jf_ w ℓ pw F us m (t4_ F (pub us) st i n c l) R):bs_ (some ⟨a.ub,0,none⟩) (n:Int) (cmv c).toArray out w R:=by
 have hpg:=m1_ hi
 rw[he] at hpg
 unfold t4_ at hR
 rw[hpg] at hR
 refine yX_ hN.base H K o_ hi he hn hp hb hc (fun k4 k16 k18=>?_) ⟨fun k4 w2 ab g hab hbk=>?_,fun k16 w2 ab g hab hbk=>?_,fun k18 w2 ab g hab hbk=>?_⟩
 ·rw[if_neg k18] at hR
  dsimp only at hR
  rw[if_neg k4,if_neg k16] at hR
  exact jf_.unit hR hi he xS_
 ·rw[if_neg o_] at hR
  dsimp only at hR
  rw[if_pos k4] at hR
  exact hN.sel k4 (H.grow g) K o_ hi (by rw[List.getElem?_eq_getElem hi,he]) hn ((Mv.grow g).rdX hp) (hc.alloc k4) ((jf_.unit hR hi he xQ_).hand (Mv.grow g) g.size hab (H.fresh hab) hbk)
 ·rw[if_neg o_] at hR
  dsimp only at hR
  rw[if_neg o_,if_pos k16] at hR
  exact hN.out k16 (H.grow g) K o_ hi (by rw[List.getElem?_eq_getElem hi,he]) hn ((Mv.grow g).rdX hp) hc ((jf_.unit hR hi he xR_).hand (Mv.grow g) g.size hab (H.fresh hab) hbk)
 ·rw[if_pos k18] at hR
  exact hN.copy k18 (H.grow g) K hm hi (by rw[List.getElem?_eq_getElem hi,he]) hn ((Mv.grow g).rdX hp) hpe hpl (hR.hand (Mv.grow g) g.size hab (H.fresh hab) hbk)
theorem zi_ (hL:s.on≠1→pa_ F {aO_ s with lock:=1} st) (hN:∀c,(aC_ F (aO_ s) st).1=0→d4_ (aC_ F (aO_ s) st).2.1 n l=.run c→nZ_ c.kind) (H:Sys w ℓ pw st F us) (K:SOk st us m) (hm:m≤100000000) (hi:i<us.length) (he:us[i]=(a,s)) (hn:n<8) (hct:s.count<1000000000000) (hp:RdX w ℓ 1 p (bv l)) (ho:RdX w ℓ 1 out (bv lo)) (hb:out.n≤140737488351232) (hpe:∀b∈s.peers,∃j,∃h:j<us.length,us[j].1.ub=b) (hpl:s.peers.length≤100)
  (hR:∀v ℓ' d us',Mv w v ℓ ℓ'→Sys v ℓ' pw (b5_ F (pub us) st i n l lo).2.2 F us'→SOk (b5_ F (pub us) st i n l lo).2.2 us' (m+200002)→us'.length=us.length→(∀k (h:k<us.length) (h':k<us'.length),us[k].1.like us'[k].1∧us'[k].2.peers=us[k].2.peers∧us'[k].2.count=us[k].2.count+if k=i then 1 else 0)→pub us'=(b5_ F (pub us) st i n l lo).2.1→Dat w v ℓ' d (b5_ F (pub us) st i n l lo).1.d→R (rsv (b5_ F (pub us) st i n l lo).1.st (b5_ F (pub us) st i n l lo).1.sn d).toArray v):aL_ (some ⟨a.ub,0,none⟩) (n:Int) p out w R:=by
 have hpg:=m1_ hi
 rw[he] at hpg
 unfold b5_ at hR
 rw[hpg] at hR
 dsimp only at hR
 have KU:=K.at hi he
 have Kb:∀a',SOk st (us.set i (a',aO_ s)) m:=fun a'=>K.put (x:=(a',aO_ s)) (KU.same KU.good rfl rfl rfl rfl rfl rfl)
 have hib:∀y,i<(us.set i y).length:=fun y=>by rw[List.length_set];exact hi
 have K1:∀a',SOk (aC_ F (aO_ s) st).2.2 (us.set i (a',(aC_ F (aO_ s) st).2.1)) (m+2):=fun a'=>by
  have K2:=(Kb a).near (qZ_ (F:=F) (s:=aO_ s) (st:=st))
  have KU2:=K2.at (hib _) (List.getElem_set_self _)
  have sm:=jY_ (F:=F) (s:=aO_ s) (st:=st)
  have:=K2.put (i:=i) (x:=(a',(aC_ F (aO_ s) st).2.1)) ⟨by rw[sm.n];exact KU2.n,by rw[sm.inf];exact KU2.form,by rw[sm.file,sm.keepf];exact KU2.name,by rw[sm.file];exact KU2.good,.inl (mA_ (by exact KU.once))⟩
  rwa [List.set_set] at this
 have lik:∀{a2 s'},a.like a2→s'.peers=s.peers→s'.count=s.count+1→∀k (h:k<us.length) (h':k<(us.set i (a2,s')).length),us[k].1.like (us.set i (a2,s'))[k].1∧(us.set i (a2,s'))[k].2.peers=us[k].2.peers∧(us.set i (a2,s'))[k].2.count=us[k].2.count+if k=i then 1 else 0:=fun {a2 s'} hl h1 h2 k h h'=>by
  rw[List.getElem_set]
  split
  ·rename_i e
   subst e
   rw[he,if_pos rfl];exact⟨hl,h1,h2⟩
  ·rename_i e
   rw[if_neg (fun q=>e q.symm)]
   exact⟨UA.like.refl _,rfl,rfl⟩
 have sm0:=jY_ (F:=F) (s:=aO_ s) (st:=st)
 have epub:∀{a2 s'},a.like a2→pub (us.set i (a2,s'))=(pub us).set i (a.ub,s'):=fun {a2 s'} hl=>by rw[rA_,hl.ub]
 refine A7_ (e:=(aC_ F (aO_ s) st).1) (s1:=(aC_ F (aO_ s) st).2.1) (st1:=(aC_ F (aO_ s) st).2.2) H hi he hn hct hp (fun u mv Hu Kc hk=>?_) (fun hne ℓ1 a2 hl u mv Hu=>?_) (fun hz ℓ1 a2 hl=>?_)
 ·refine oQ_ hL Hu (Kb a) o_ (hib _) (List.getElem_set_self _) fun u' ℓ' a2 hl m2 H2 _=>hk u' ℓ' a2 hl m2 ?_
  rwa [List.set_set] at H2
 ·rw[if_pos hne] at hR
  exact hR u ℓ1 au_ _ mv Hu ((K1 a2).mono o_) (by rw[List.length_set]) (lik hl sm0.peers sm0.count) (epub hl) (Dat.nil _ _ _)
 ·rw[if_neg o_] at hR
  have hN:=fun c=>hN c hz
  have K1:=K1 a2
  have hpe1:(aC_ F (aO_ s) st).2.1.peers=s.peers:=sm0.peers
  have hct1:(aC_ F (aO_ s) st).2.1.count=s.count+1:=sm0.count
  clear sm0
  generalize aC_ F (aO_ s) st=S at *
  have hcm:∀c,d4_ S.2.1 n l=.run c→lr_ c:=fun c h=>by
   have:c=(df_ l).1:=by
    unfold d4_ at h
    split at h
    ·cases h
    ·split at h
     ·cases h
     ·split at h
      ·cases h
      ·split at h
       ·cases h
       ·injection h with h;exact h.symm
   rw[this];exact zh_ l
  cases hh:d4_ S.2.1 n l with
  | bad sn=>
   rw[hh] at hR
   exact fun u mv Hu=>hR u ℓ1 au_ _ mv Hu (K1.mono o_) (by rw[List.length_set]) (lik hl hpe1 hct1) (epub hl) (Dat.nil _ _ _)
  | told c=>
   rw[hh] at hR
   refine fun u mv Hu=>hR u ℓ1 au_ _ mv Hu ?_ (by rw[List.length_set]) (lik hl hpe1 hct1) (epub hl) (Dat.nil _ _ _)
   have KU1:=K1.at (hib _) (List.getElem_set_self _)
   have:=(K1.put (i:=i) (x:=(a2,fk_ S.2.1 n)) (KU1.same KU1.good rfl rfl rfl rfl rfl rfl)).mono (m':=m+200002) o_
   rwa [List.set_set] at this
  | conflict=>
   rw[hh] at hR
   exact fun u mv Hu=>hR u ℓ1 au_ _ mv Hu (K1.mono o_) (by rw[List.length_set]) (lik hl hpe1 hct1) (epub hl) (Dat.nil _ _ _)
  | prot=>
   rw[hh] at hR
   exact fun u mv Hu=>hR u ℓ1 au_ _ mv Hu (K1.mono o_) (by rw[List.length_set]) (lik hl hpe1 hct1) (epub hl) (Dat.nil _ _ _)
  | run c=>
   rw[hh] at hR
   intro u ab mv Hu hbk hab hn1
   dsimp only at hR
   rw[←epub hl] at hR
   refine xT_ (hN c hh) Hu K1 o_ (hib _) (List.getElem_set_self _) hn (mv.rdX ho) hb (hcm c hh) (fun b hb2=>?_) (by rw[hpe1];exact hpl) ?_
   ·rw[hpe1] at hb2
    obtain⟨j,hj,ej⟩:=hpe b hb2
    have hj2:j<(us.set i (a2,S.2.1)).length:=by rw[List.length_set];exact hj
    exact⟨j,hj2,(lik hl hpe1 hct1 j hj hj2).1.ub.trans ej⟩
   ·intro v ℓ' d us' mv2 Hv Kv lk hpub dt
    have mvv:=mv.trans mv2
    have hbv:=mv2.heap hbk hn1
    have hnv:ℓ' ab=none:=by rw[mv2.lab ab (aw_ hbk)];exact hn1
    have dt2:=dt.from mv.keep.size
    refine dN_.sys Hv mvv hab hnv hbv rfl fun v' hk hm' hs=>hR v' ℓ' d us' hm' hs (Kv.mono o_) (lk.len.trans (by rw[List.length_set])) (fun k h h'=>?_) hpub ⟨dt2.1.keep hk fun b hbb q=>bd_ dt2.1 hbv d_ (by rw[hbb,q]),dt2.2⟩
    have h2:k<(us.set i (a2,S.2.1)).length:=by rw[List.length_set];exact h
    obtain⟨r1,r2,r3⟩:=lik hl hpe1 hct1 k h h2
    obtain⟨t1,t2⟩:=lk.all k h2 h'
    exact⟨r1.trans t1,t2.peers.trans r2,t2.count.trans r3⟩
end
open Go CF
theorem uP_:jX_ 1:=⟨fun q=>o_,fun q=>o_,fun q=>o_,fun q=>o_,fun q=>o_,fun q=>o_,fun q=>o_,fun q=>o_,fun q=>o_⟩
theorem xU_:jX_ 2:=⟨fun _=>v8_,fun _=>xy_,fun q=>o_,fun q=>o_,fun q=>o_,fun q=>o_,fun q=>o_,fun q=>o_,fun _ q=>o_⟩
theorem xV_:jX_ 3:=⟨fun q=>o_,fun q=>o_,fun _=>yP_,fun _=>xv_,fun q=>o_,fun q=>o_,fun q=>o_,fun q=>o_,fun _ _ q=>o_⟩
theorem ww_:jX_ 17:=⟨fun q=>o_,fun q=>o_,fun q=>o_,fun q=>o_,fun _=>xw_,fun q=>o_,fun q=>o_,fun q=>o_,fun _ _ _ q=>o_⟩
theorem zj_:jX_ 5:=⟨fun q=>o_,fun q=>o_,fun q=>o_,fun q=>o_,fun q=>o_,fun _=>uG_,fun q=>o_,fun q=>o_,fun _ _ _ _ q=>o_⟩
theorem wx_:jX_ 15:=⟨fun q=>o_,fun q=>o_,fun q=>o_,fun q=>o_,fun q=>o_,fun q=>o_,fun _=>Ae_,fun _=>Ab_,fun _ _ _ _ _ _ q=>o_⟩
theorem xW_ {k:Nat} (h2:k≠2) (h3:k≠3) (h17:k≠17) (h5:k≠5) (h15:k≠15) (h:pZ_ k):jX_ k:=⟨fun q=>o_,fun q=>o_,fun q=>o_,fun q=>o_,fun q=>o_,fun q=>o_,fun q=>o_,fun q=>o_,fun _ _ _ _ _ _ _ _ _=>h⟩
theorem g4_ {k:Nat} (h4:k≠4) (h16:k≠16) (h18:k≠18) (h:jX_ k):nZ_ k:=⟨fun _ _ _=>h,fun q=>o_,fun q=>o_,fun q=>o_⟩
theorem zk_:nZ_ 4:=⟨fun q=>o_,fun _ _ _ _ _ _ _ _ _ _ _ _ _ _ _ _ H K hm hi he hn hp hb hR=>Ah_ H K hm hi (List.getElem?_eq_some_iff.1 he).2 hn hp hb hR,fun q=>o_,fun q=>o_⟩
theorem zl_:nZ_ 16:=⟨fun _ q=>o_,fun q=>o_,fun _ _ _ _ _ _ _ _ _ _ _ _ _ _ _ _ H K hm hi he hn hp hc hR=>xI_ H K hm hi (List.getElem?_eq_some_iff.1 he).2 hn hp hc hR,fun q=>o_⟩
theorem xX_:nZ_ 18:=⟨fun _ _ q=>o_,fun q=>o_,fun q=>o_,fun _ _ _ _ _ _ _ _ _ _ _ _ _ _ _ _ H K hm hi he hn hp hpe hpl hR=>zg_ H K hm hi (List.getElem?_eq_some_iff.1 he).2 hn hp hpe hpl hR⟩
theorem zm_ (k:Nat):nZ_ k:=by
 by_cases h1:k=1
 ·rw[h1];exact g4_ d_ d_ d_ uP_
 by_cases h2:k=2
 ·rw[h2];exact g4_ d_ d_ d_ xU_
 by_cases h3:k=3
 ·rw[h3];exact g4_ d_ d_ d_ xV_
 by_cases h17:k=17
 ·rw[h17];exact g4_ d_ d_ d_ ww_
 by_cases h5:k=5
 ·rw[h5];exact g4_ d_ d_ d_ zj_
 by_cases h15:k=15
 ·rw[h15];exact g4_ d_ d_ d_ wx_
 by_cases h4:k=4
 ·rw[h4];exact zk_
 by_cases h16:k=16
 ·rw[h16];exact zl_
 by_cases h18:k=18
 ·rw[h18];exact xX_
 exact g4_ h4 h16 h18 (xW_ h2 h3 h17 h5 h15 (yB_ k))
theorem wy_ {s:USt} {st:Wst} (hl:ldN st.seen s.keepf 2=(-1,0,[])):cC_ dl_ s st=(0,oC_ s,more st 2):=by
 have e:aP_ dl_ st s.keepf ⟨s.sure,s.at_,s.gen⟩=(8,[],0,⟨true,-1,0⟩,more st 2):=by
  unfold aP_
  rw[uw_]
  dsimp only
  rw[hl]
  rfl
 unfold cC_ hr_ jd_
 rw[e]
 rfl
open Go CF
section
variable {w u v:World} {N N' S D:Nat→Prop} {pw i n:Nat} {a:UA} {s:USt} {st st':Wst} {F:Int→Bool} {ℓ ℓ':Nat→Option Nat} {us us':List (UA×USt)}
def z6:L8:=List.replicate 6 0
theorem q6_ {R:Sl→W_} (h:∀xs w',ab_ w w'→Own w' w.heap.size ae_ 1 xs (bv z6)→R xs w'):bb_ w R:=by
 refine ek_.calls _ _ ?_
 exact cy_ (n:=6) aE_ a6_ rfl d_ d_ (base:=w.heap.size) (Nat.le_refl _) fun w' hown hg hs=>h _ w' hg hown
theorem xY_ {c:Cm} {out:Sl} {up:O_} {ab:Nat} {R:A_→W_} (hk:c.kind=1) (hR:∀v,ab_ w v→dN_ ab R (rsv 0 sn0 au_).toArray v):bs_ up (n:Int) (cmv c).toArray out w (dN_ ab R):=by
 refine fr_.calls _ _ _ _ _ _ (ag_ fun cb w1 hcb hb1 hg1 hs1=>ag_ fun rb w2 hrb hb2 hg2 hs2=>?_)
 have hb1':Blk w2 cb (cmv c).toArray az_:=hg2.heap hb1 (fun q=>q)
 refine⟨(c.kind:Int),by rw[ao_,hb1'.cell];rfl,al_ (by rw[hk];rfl) ?_⟩
 refine aW_ (st:=0) (s:=sn0) (d:=au_) hb2 rfl fun w3 hk3=>hR w3 ((hg1.trans hg2).keep hk3 fun i hi q=>by have:=hg1.size;omega)
theorem t5_:df_ z6=({c0C with kind:=1},sn0,true):=k_
theorem At_:i6_ (bG_ [] 10496)=some 10496:=k_
theorem Au_:jQ_ (bG_ [] 10496) = []:=k_
theorem rB_ {st:Wst} {i prot:Nat} {ps:List Nat} (hs:st.seen=fun _=>none):ldN st.seen (cB_ i prot ps).keepf 2=(-1,0,[]):=by
 rw[hs]
 exact xi_ (xj_ _)
theorem t6_ {i:Nat} (hi:i<2):(nmL i).size=1:=by
 have:∀i:Fin 2,(nmL i.val).size=1:=by decide +kernel
 exact this ⟨i,hi⟩
theorem wz_ {i prot:Nat} {ps:List Nat} (hi:i<2):1≤(cB_ i prot ps).keepf.size∧(cB_ i prot ps).keepf.size≤30:=by
 show 1≤(nmL i++gM_).size∧(nmL i++gM_).size≤30
 rw[ln_,t6_ hi]
 have:gM_.size=2:=d_
 omega
abbrev poS:Sn:=⟨6,10496,0,false,0,0,false,false⟩
def Bp_ (s:USt) (n:Nat):USt:=fk_ (dx_ (aO_ s)) n
theorem Av_ {p out:Sl} {ps:List Nat} {k prot:Nat} {R:A_→W_} (H:Sys w ℓ pw st dl_ us) (hi:i<us.length) (hk:k<2) (he:us[i]=(a,cB_ k prot ps)) (hs:st.seen=fun _=>none) (ho:st.ops<1000000) (hn:n<8) (hp:RdX w ℓ 1 p (bv z6))
  (hR:∀u ℓ',Mv w u ℓ ℓ'→Sys u ℓ' pw {st with ops:=st.ops+2} dl_ (us.set i (a,Bp_ (cB_ k prot ps) n))→R (rsv 2 poS au_).toArray u):aL_ (some ⟨a.ub,0,none⟩) (n:Int) p out w R:=by
 refine yM_ H hi he rfl rfl (wz_ hk) o_ (rB_ hs) hn (by show 0<1000000000000;decide) hp fun ℓ1=>?_
 have hq:(dx_ (aO_ (cB_ k prot ps))).q n=bG_ [] 10496:=by
  show(if n<8 then bG_ [] 10496 else [])=_
  rw[if_pos hn]
 have:d4_ (dx_ (aO_ (cB_ k prot ps))) n z6=.told 10496:=by
  unfold d4_
  rw[t5_,hq,At_]
  rfl
 rw[this]
 exact fun u m Hu=>hR u ℓ1 m Hu
theorem zn_ {p out:Sl} {R:A_→W_} (H:Sys w ℓ pw st F us) (hi:i<us.length) (he:us[i]=(a,s)) (hon:s.on=1) (hfl:s.fault=0) (hn:n<8) (hct:s.count<1000000000000) (hq:s.q n = []) (ht:s.tab.kind=0) (hp:RdX w ℓ 1 p (bv z6))
  (hR:∀u ℓ',Mv w u ℓ ℓ'→Sys u ℓ' pw st F (us.set i (a,aO_ s))→R (rsv 0 sn0 au_).toArray u):aL_ (some ⟨a.ub,0,none⟩) (n:Int) p out w R:=by
 refine v5_ H hi he hon hfl hn hct hp fun ℓ1=>?_
 have:d4_ (aO_ s) n z6=.run {c0C with kind:=1}:=by
  unfold d4_
  rw[t5_,show(aO_ s).q n = [] from hq]
  have hc:be_ (aO_ s).tab n (hG_ ({c0C with kind:=1}:Cm).kind)=false:=if_pos (.inl ht)
  show(if be_ (aO_ s).tab n (hG_ ({c0C with kind:=1}:Cm).kind)=true then sF_.conflict else if (gf_ 1&&(aO_ s).now.swp)=true then .prot else .run _)=_
  rw[hc]
  rfl
 rw[this]
 refine fun u ab m Hu hb hw hn1=>xY_ rfl fun v g=>?_
 exact dN_.sys (Hu.grow g) (m.go g) hw hn1 (g.heap hb (fun q=>q)) rfl fun v' k hm hs=>hR v' ℓ1 hm hs
end
open Go CF
section
variable {w u v:World} {N N' S D:Nat→Prop} {pw i n:Nat} {a:UA} {s:USt} {st st':Wst} {F:Int→Bool} {ℓ ℓ':Nat→Option Nat} {us us':List (UA×USt)}
theorem si_ {S:W_} {p:O_} {K:Addr→W_} {x:Nat} {sn:Sn} (H:Sys w ℓ pw st F us) (hS:∀v ℓ',Mv w v ℓ ℓ'→S v)
  (hD:∀v xs,ab_ w v→RdX v ℓ 1 xs (bv z6)→∀R:A_→W_,(∀u ℓ',Mv v u ℓ ℓ'→Sys u ℓ' pw st' F us'→R (rsv x sn au_).toArray u)→aL_ p 0 xs ⟨none,0,0⟩ v R)
  (hK:∀ab u ℓ',Mv w u ℓ ℓ'→Sys u ℓ' pw st' F us'→Blk u ab (rsv x sn au_).toArray aa_→ℓ' ab=none→w.heap.size≤ab→K ⟨ab,0,none⟩ u) :
  (bb_ w fun xs w05=>S w05∧(aL_ p 0 xs ⟨none,0,0⟩ w05 fun g1 w06=>New (.cells z10 aa_) w06 fun ab w07=>S w07∧af_ Tryz.prog (storeVar aa_ ab (.agg g1)) w07 fun w08=>K ab w08)∧
   New (.cells z10 aa_) w05 fun ab w07=>S w07∧aL_ p 0 xs ⟨none,0,0⟩ w07 fun g w08=>af_ Tryz.prog (storeVar aa_ ab (.agg g)) w08 fun w09=>K ab w09)∧
  New (.cells z10 aa_) w fun ab w05=>S w05∧bb_ w05 fun xs w06=>S w06∧aL_ p 0 xs ⟨none,0,0⟩ w06 fun g w07=>af_ Tryz.prog (storeVar aa_ ab (.agg g)) w07 fun w08=>K ab w08:=by
 have rx:∀{v0 v:World} {xs:Sl},ab_ w v0→Own v v0.heap.size ae_ 1 xs (bv z6)→RdX v ℓ 1 xs (bv z6):=fun {v0 v xs} g ho=>⟨ho.rd (by have:=ho.len;rw[ax_] at this;have e:z6.length=6:=rfl;omega),fun _ b hb=>by
  have:=ho.ge b.block (by simp[Sl.blk,hb])
  have:=g.size
  exact⟨o_,H.fresh o_⟩⟩
 have lay:∀{u:World} {ℓ':Nat→Option Nat} {ab:Nat} {cs:A_},Mv w u ℓ ℓ'→Sys u ℓ' pw st' F us'→Blk u ab cs aa_→cs.size=10→ℓ' ab=none→w.heap.size≤ab→af_ Tryz.prog (storeVar aa_ ⟨ab,0,none⟩ (.agg (rsv x sn au_).toArray)) u fun w08=>K ⟨ab,0,none⟩ w08:=fun {u ℓ' ab cs} m Hu hb hc hn hw=>
  bF_ hb hc fun u' hb' hk' hs'=>hK ab u' ℓ' (m.loc hk' fun b hb q=>o_) (Hu.local1 hb hn hk' (eO_ d_ d_ d_) d_) hb' hn hw
 refine⟨q6_ fun xs w1 hg1 ho1=>⟨hS _ _ (Mv.grow hg1),?_,?_⟩,?_⟩
 ·refine hD w1 xs hg1 (rx (ac_.refl _ _) ho1) _ fun u ℓ' m Hu=>ag_ fun ab u2 hab hb2 hg2 hs2=>?_
  have m1:=((Mv.grow hg1).trans m)
  exact⟨hS _ _ (m1.go hg2),lay (m1.go hg2) (Hu.grow hg2) hb2 rfl (Hu.fresh o_) (by have:=m1.keep.size;omega)⟩
 ·refine ag_ fun ab w2 hab hb2 hg2 hs2=>⟨hS _ _ (Mv.grow (hg1.trans hg2)),?_⟩
  refine hD w2 xs (hg1.trans hg2) ⟨(rx (ac_.refl _ _) ho1).rd.grow hg2,fun hv b hb=>⟨by have:=((rx (ac_.refl _ _) ho1).out hv b hb).1;have:=hg2.size;omega,((rx (ac_.refl _ _) ho1).out hv b hb).2⟩⟩ _ fun u ℓ' m Hu=>?_
  have hfn:ℓ ab=none:=H.fresh (by have:=hg1.size;omega)
  exact lay ((Mv.grow (hg1.trans hg2)).trans m) Hu (m.heap hb2 hfn) rfl ((m.lab _ (aw_ hb2)).trans hfn) (by have:=hg1.size;omega)
 ·refine ag_ fun ab w1 hab hb1 hg1 hs1=>⟨hS _ _ (Mv.grow hg1),q6_ fun xs w2 hg2 ho2=>⟨hS _ _ (Mv.grow (hg1.trans hg2)),?_⟩⟩
  refine hD w2 xs (hg1.trans hg2) (rx hg1 ho2) _ fun u ℓ' m Hu=>?_
  have hfn:ℓ ab=none:=H.fresh o_
  exact lay ((Mv.grow (hg1.trans hg2)).trans m) Hu (m.heap (hg2.heap hb1 (fun q=>q)) hfn) rfl ((m.lab _ (by have:=aw_ hb1;have:=hg2.size;omega)).trans hfn) o_
theorem t7_ {R:Bool→W_} (h:∀w',ab_ w w'→R true w'):gN_ w R:=by
 refine ei_.calls _ _ (mP_ fun pw D w1 hg1 hW hD=>?_)
 obtain⟨ℓ,H1,hℓ⟩:=Sys.world0 hW
 have old:∀b,b<w.heap.size→ℓ b=none:=fun b hb=>hℓ b fun q=>by have:=hD b q;omega
 refine qK_ (prot:=0) H1 d_ fun w2 ℓ2 a0 a1 m2 H2=>ag_ fun ub w3 hub hb3 hg3 hs3=>?_
 refine ap_ (cells:=#[.pointer (some ⟨a0.ub,0,none⟩),.pointer (some ⟨a1.ub,0,none⟩)]) hb3 gq_ rfl rfl (by simp[Value.oneCell']) fun w4 hb4 hk4 hs4=>?_
 have hg24:ab_ w2 w4:=hg3.keep hk4 fun i hi q=>o_
 have H4:=H2.grow hg24
 have hun:ℓ2 ub=none:=H2.fresh o_
 have cu:∀{v:World},Blk v ub #[.pointer (some ⟨a0.ub,0,none⟩),.pointer (some ⟨a1.ub,0,none⟩)] cH_→v.cell? ((⟨ub,0,none⟩:Addr).add ((0:Int).toNat*1))=some (.pointer (some ⟨a0.ub,0,none⟩)):=fun q=>by rw[ao_,Blk.cell q];rfl
 refine⟨⟨d_,d_⟩,_,cu hb4,ai_ rfl ?_⟩
 rintro w5 rfl
 have hg5:=am_ w4
 have H5:=H4.grow hg5
 have hb5:Blk w4.drew ub _ cH_:=hg5.heap hb4 (fun q=>q)
 have hgu:∀{u:World} {ℓ':Nat→Option Nat},Mv w4.drew u ℓ2 ℓ'→ab_ w u:=fun m=>hg1.keep ((m2.go (hg24.trans hg5)).trans m).keep fun b hb q=>q (old b hb)
 have cS:∀{v:World} {ℓ':Nat→Option Nat},Mv w4.drew v ℓ2 ℓ'→v.cell? ((⟨ub,0,none⟩:Addr).add ((0:Int).toNat*1))=some (.pointer (some ⟨a0.ub,0,none⟩)):=fun m=>cu (m.heap hb5 hun)
 generalize w4.drew=w5 at *
 refine⟨fun o=>o.cell? ((⟨ub,0,none⟩:Addr).add ((0:Int).toNat*1))=some (.pointer (some ⟨a0.ub,0,none⟩)),cu hb5,⟨d_,d_⟩,_,fun o q=>q,?_⟩
 refine si_ (x:=2) (sn:=poS) H5 (fun v ℓ' m=>cS m) (fun v xs g hx R hR=>Av_ (i:=0) (k:=0) (n:=0) (prot:=0) (H5.grow g) (by show 0<2;decide) d_ rfl rfl (by show 0<1000000;decide) d_ hx hR) fun ab u ℓ3 m3 H3 hab hna lab=>?_
 rintro w6 rfl
 have hg6:=am_ u
 have m6:=m3.go hg6
 have H6:=H3.grow hg6
 have hab6:Blk u.drew ab _ aa_:=hg6.heap hab (fun q=>q)
 generalize u.drew=w6 at *
 refine⟨fun o=>o.cell? ((⟨ub,0,none⟩:Addr).add ((0:Int).toNat*1))=some (.pointer (some ⟨a0.ub,0,none⟩)),cS m6,⟨d_,d_⟩,_,fun o q=>q,?_⟩
 refine si_ (x:=0) (sn:=sn0) H6 (fun v ℓ' m=>cS (m6.trans m)) (fun v xs g hx R hR=>zn_ (i:=0) (n:=0) (H6.grow g) (by show 0<2;decide) rfl rfl rfl d_ (by show 1<1000000000000;decide) Au_ rfl hx hR) fun bb u2 ℓ4 m4 H4' hbb hnb lbb=>?_
 rintro w7 rfl
 have hg7:=am_ u2
 have hab7:Blk u2.drew ab (rsv 2 poS au_).toArray aa_:=(m4.go hg7).heap hab6 hna
 have hbb7:Blk u2.drew bb (rsv 0 sn0 au_).toArray aa_:=hg7.heap hbb (fun q=>q)
 have gw7:=hgu ((m6.trans m4).go hg7)
 generalize u2.drew=w7 at *
 refine⟨fun o=>Blk o ab (rsv 2 poS au_).toArray aa_∧Blk o bb (rsv 0 sn0 au_).toArray aa_,⟨hab7,hbb7⟩,(rsv 2 poS au_).toArray,fun o q=>i0_ (ar_ q.1),?_⟩
 refine uv_ (key:=6) (code:=10496) fun w8 hg8=>?_
 have st8:∀{o:World},ab_ w7 o→Blk o ab (rsv 2 poS au_).toArray aa_∧Blk o bb (rsv 0 sn0 au_).toArray aa_:=fun g=>⟨g.heap hab7 (fun q=>q),g.heap hbb7 (fun q=>q)⟩
 refine⟨st8 hg8,pu_ (kY_ _) (kY_ _) fun w9 hg9=>?_⟩
 have hs9:=st8 (hg8.trans hg9)
 refine⟨hs9,fun o=>Blk o ab (rsv 2 poS au_).toArray aa_∧Blk o bb (rsv 0 sn0 au_).toArray aa_,hs9,fun _ q=>q,(rsv 0 sn0 au_).toArray,fun _ o q=>i0_ (ar_ q.2),fun o=>Blk o ab (rsv 2 poS au_).toArray aa_∧Blk o bb (rsv 0 sn0 au_).toArray aa_,hs9,fun _ q=>q,?_⟩
 refine cI_ (fun(b2:Bool) o=>b2=true∧ab_ w9 o) ?_ (fun J=>⟨fun _=>pu_ (sn:=sn0) (d2:=au_) (kY_ _) (kY_ _) fun w10 hg10=>J _ _ ⟨rfl,hg10⟩,fun q=>by cases q⟩)
 rintro b2 o ⟨rfl,hgo⟩
 exact h o (((gw7.trans hg8).trans hg9).trans hgo)
end
open Go CF
theorem oR_ {us:List (UA×USt)} {k:Nat} (h:k<us.length) (h':k<(pub us).length):(pub us)[k]=(us[k].1.ub,us[k].2):=(List.getElem?_eq_some_iff.1 (m1_ h)).2
section
variable {w u v:World} {N N' S:Nat→Prop} {pw i n m:Nat} {a:UA} {s s1:USt} {st st1:Wst} {F:Int→Bool} {ℓ ℓ':Nat→Option Nat} {us:List (UA×USt)} {p out:Sl} {l lo:L8} {c:Cm} {R:A_→W_} {P P':Pu}
structure Tw (w v:World) (ℓ:Nat→Option Nat) (pw:Nat) (F:Int→Bool) (P:Pu) (st:Wst) (m:Nat):Prop where
 ex:∃us,Sys v ℓ pw st F us∧SOk st us m∧pub us=P
 grow:ab_ w v
 old:∀b,b<w.heap.size→ℓ b=none
 peers:∀x∈P,x.2.peers.length≤100∧∀b∈x.2.peers,∃y∈P,y.1=b
 count:∀x∈P,x.2.count≤m
theorem Tw.go (h:Tw w v ℓ pw F P st m) (g:ab_ v u):Tw w u ℓ pw F P st m:=by
 obtain⟨us,h1,h2,h3⟩:=h.ex
 exact⟨⟨us,h1.grow g,h2,h3⟩,h.grow.trans g,h.old,h.peers,h.count⟩
theorem Tw.mono {m':Nat} (h:Tw w v ℓ pw F P st m) (hm:m≤m'):Tw w v ℓ pw F P st m':=by
 obtain⟨us,h1,h2,h3⟩:=h.ex
 exact⟨⟨us,h1,h2.mono hm,h3⟩,h.grow,h.old,h.peers,fun x hx=>Nat.le_trans (h.count x hx) hm⟩
theorem Tw.fresh (h:Tw w v ℓ pw F P st m) {b:Nat} (hb:v.heap.size≤b):ℓ b=none:=by
 obtain⟨us,h1,_,_⟩:=h.ex
 exact h1.fresh hb
theorem Tw.arg (h:Tw w v ℓ pw F P st m) {x:Sl} {l:L8} (hx:Rd w 1 x (bv l)):RdX v ℓ 1 x (bv l):=
 ⟨hx.grow h.grow,fun hv a ha=>by
  obtain⟨b,hb,hc⟩:=hx.at_ hv
  rw[ha] at hb
  injection hb with hb
  subst hb
  have hlt:a.block<w.heap.size:=by
   generalize bv l=vs at *
   cases vs with
   | nil=>exact absurd rfl hv
   | cons y r=>have:=mH_ (hc 0 y rfl);rwa [ir_] at this
  exact⟨by have:=h.grow.size;omega,h.old _ hlt⟩⟩
theorem Mv.tw (h:Tw w v ℓ pw F P st m) (mv:Mv v u ℓ ℓ'):ab_ w u∧∀b,b<w.heap.size→ℓ' b=none:=by
 have sz:=h.grow.size
 refine⟨h.grow.keep mv.keep fun b hb q=>q (h.old b hb),fun b hb=>?_⟩
 rw[mv.lab b o_];exact h.old b hb
theorem Tw.dos {x:Nat×USt} (hL:x.2.on≠1→pa_ F {aO_ x.2 with lock:=1} st) (hN:∀c,(aC_ F (aO_ x.2) st).1=0→d4_ (aC_ F (aO_ x.2) st).2.1 n l=.run c→nZ_ c.kind) (h:Tw w v ℓ pw F P st m) (hm:m≤100000000) (hi:i<P.length) (he:P[i]=x) (hn:n<8) (hp:RdX v ℓ 1 p (bv l)) (ho:RdX v ℓ 1 out (bv lo)) (hb:out.n≤140737488351232)
  (hR:∀v' ℓ' d,Mv v v' ℓ ℓ'→Tw w v' ℓ' pw F (b5_ F P st i n l lo).2.1 (b5_ F P st i n l lo).2.2 (m+200002)→Dat v v' ℓ' d (b5_ F P st i n l lo).1.d→(b5_ F P st i n l lo).2.1.length=P.length→(∀k (h:k<P.length) (h':k<(b5_ F P st i n l lo).2.1.length),(b5_ F P st i n l lo).2.1[k].1=P[k].1∧(b5_ F P st i n l lo).2.1[k].2.count=P[k].2.count+if k=i then 1 else 0)→R (rsv (b5_ F P st i n l lo).1.st (b5_ F P st i n l lo).1.sn d).toArray v'):aL_ (some ⟨x.1,0,none⟩) (n:Int) p out v R:=by
 obtain⟨us,H,K,rfl⟩:=h.ex
 have hlen:(pub us).length=us.length:=by unfold pub;rw[List.length_map]
 have hiu:i<us.length:=o_
 have ex:x=(us[i].1.ub,us[i].2):=by rw[←he,oR_ hiu]
 subst ex
 have hmem:∀k (hk:k<us.length),(us[k].1.ub,us[k].2)∈pub us:=fun k hk=>List.mem_map.2 ⟨us[k],List.getElem_mem hk,rfl⟩
 have hpe:=h.peers _ (hmem i hiu)
 have hct:=h.count _ (hmem i hiu)
 have gp:∀{us:List (UA×USt)} {k:Nat} (h:k<us.length) (h':k<(pub us).length),(pub us)[k]=(us[k].1.ub,us[k].2):=fun {us k} h h'=>oR_ h h'
 refine zi_ (a:=us[i].1) (s:=us[i].2) hL hN H K hm hiu rfl hn (by dsimp only at hct;omega) hp ho hb (fun b hb2=>?_) hpe.1 fun v' ℓ' d us' mv Hv Kv hl hlk hpub dt=>?_
 ·obtain⟨y,hy,rfl⟩:=hpe.2 b hb2
  obtain⟨z,hz,rfl⟩:=List.mem_map.1 hy
  obtain⟨j,hj,rfl⟩:=List.getElem_of_mem hz
  exact⟨j,hj,rfl⟩
 ·obtain⟨g1,g2⟩:=Mv.tw h mv
  rw[←hpub] at hR
  have hlen':(pub us').length=us'.length:=by unfold pub;rw[List.length_map]
  refine hR v' ℓ' d mv ⟨⟨us',Hv,Kv,rfl⟩,g1,g2,fun y hy=>?_,fun y hy=>?_⟩ dt o_ fun k h1 h2=>?_
  ·obtain⟨z,hz,rfl⟩:=List.mem_map.1 hy
   obtain⟨k,hk,rfl⟩:=List.getElem_of_mem hz
   obtain⟨_,q2,_⟩:=hlk k o_ hk
   have:=h.peers _ (hmem k o_)
   dsimp only at this ⊢
   rw[q2]
   refine⟨this.1,fun b hb=>?_⟩
   obtain⟨y,hy,rfl⟩:=this.2 b hb
   obtain⟨z,hz,rfl⟩:=List.mem_map.1 hy
   obtain⟨j,hj,rfl⟩:=List.getElem_of_mem hz
   have hj':j<us'.length:=o_
   exact⟨(us'[j].1.ub,us'[j].2),List.mem_map.2 ⟨us'[j],List.getElem_mem hj',rfl⟩,(hlk j hj hj').1.ub⟩
  ·obtain⟨z,hz,rfl⟩:=List.mem_map.1 hy
   obtain⟨k,hk,rfl⟩:=List.getElem_of_mem hz
   obtain⟨_,_,q3⟩:=hlk k o_ hk
   have:=h.count _ (hmem k o_)
   dsimp only at this ⊢
   rw[q3]
   split<;>omega
  ·have k1:k<us.length:=o_
   have k2:k<us'.length:=o_
   rw[gp k1 h1,gp k2 h2]
   exact⟨(hlk k k1 k2).1.ub,(hlk k k1 k2).2.2⟩
def BC_ (b0 b1 prot:Nat):Pu:=[(b0,cB_ 0 prot [b1]),(b1,cB_ 1 prot [b0])]
end
open Go CF
section
variable {w u v:World} {N N' S D:Nat→Prop} {pw i n m:Nat} {a:UA} {s s1:USt} {st st1:Wst} {F:Int→Bool} {ℓ ℓ':Nat→Option Nat} {us:List (UA×USt)} {p out:Sl} {l lo:L8} {c:Cm} {P P':Pu}
theorem t8_ {k prot:Nat} {ps:List Nat} (hk:k<2) (hpr:prot≤3) (hg:Good (ch_ st (nmL k++fn_))):UOk st (cB_ k prot ps):=by
 have:=t6_ hk
 exact⟨⟨by show 1≤24;decide,by show 24≤4096;decide⟩,r3_ hk hpr,⟨nmL k,o_,o_,rfl,rfl⟩,hg,.inr ⟨rfl,rfl⟩⟩
theorem Tw.units {prot:Nat} {R:A_→W_} (H:Sys v ℓ pw st F []) (g:ab_ w v) (old:∀b,b<w.heap.size→ℓ b=none) (hpr:prot≤3) (hok:Wok st) (few:st.ops≤m∧st.waits.length≤m) (hg:∀k,k<2→Good (ch_ st (nmL k++fn_)))
  (hR:∀u ℓ' b0 b1,Mv v u ℓ ℓ'→Tw w u ℓ' pw F (BC_ b0 b1 prot) st m→R #[.pointer (some ⟨b0,0,none⟩),.pointer (some ⟨b1,0,none⟩)] u):c8_ (some ⟨pw,0,none⟩) (prot:Int) v R:=by
 refine qK_ H hpr fun u ℓ' a0 a1 mv Hu=>?_
 have sz:=g.size
 refine hR u ℓ' a0.ub a1.ub mv ⟨⟨_,Hu,⟨hok,few,fun x hx=>?_⟩,rfl⟩,g.keep mv.keep fun b hb q=>q (old b hb),fun b hb=>?_,fun x hx=>?_,fun x hx=>?_⟩
 ·rcases List.mem_cons.1 hx with r|r
  ·rw[r];exact t8_ d_ hpr (hg 0 d_)
  ·rw[List.mem_singleton.1 r];exact t8_ d_ hpr (hg 1 d_)
 ·rw[mv.lab b o_];exact old b hb
 ·rcases List.mem_cons.1 hx with r|r
  ·rw[r];exact⟨by show 1≤100;decide,fun b hb=>⟨(a1.ub,cB_ 1 prot [a0.ub]),List.mem_cons_of_mem _ (List.mem_singleton.2 rfl),(List.mem_singleton.1 hb).symm⟩⟩
  ·rw[List.mem_singleton.1 r];exact⟨by show 1≤100;decide,fun b hb=>⟨(a0.ub,cB_ 0 prot [a1.ub]),List.mem_cons_self,(List.mem_singleton.1 hb).symm⟩⟩
 ·rcases List.mem_cons.1 hx with r|r
  ·rw[r];exact Nat.zero_le _
  ·rw[List.mem_singleton.1 r];exact Nat.zero_le _
end
open Go CF
structure dP_ (s s':USt):Prop where
 on:s'.on=s.on
 fault:s'.fault=s.fault
theorem dP_.refl (s:USt):dP_ s s:=⟨rfl,rfl⟩
theorem dP_.trans {a b c:USt} (h:dP_ a b) (g:dP_ b c):dP_ a c:=⟨g.on.trans h.on,g.fault.trans h.fault⟩
theorem q7_ {F:Int→Bool} {b:Bool} {s:USt} {st:Wst}:dP_ s (kW_ F b s st).s:=by
 unfold kW_
 split<;>exact⟨rfl,rfl⟩
theorem xZ_ {F:Int→Bool} {s:USt} {st:Wst} {n:Nat} {c:Cm} {l:L8}:dP_ s (kp_ F s st n c l).s:=by
 unfold kp_
 split
 ·exact dP_.refl s
 split
 ·exact dP_.refl s
 ·refine dP_.trans ?_ q7_
  split<;>exact⟨rfl,rfl⟩
theorem x0_ {F:Int→Bool} {s:USt} {st:Wst} {n:Nat} {c:Cm} {l:L8}:dP_ s (mz_ F s st n c l).s:=by
 unfold mz_
 generalize cV_ s.tab n (g3_ c l)=d
 generalize evQ s.q d.ev=q
 split
 ·exact dP_.refl s
 split
 ·exact dP_.refl s
 split
 ·exact⟨rfl,rfl⟩
 ·have h1:dP_ s {s with tab:=d.t,q:=q}:=⟨rfl,rfl⟩
  exact h1.trans q7_
theorem x1_ {F:Int→Bool} {s:USt} {st:Wst} {n:Nat} {c:Cm} {l:L8}:dP_ s (my_ F s st n c l).s:=by
 unfold my_
 split
 ·exact dP_.refl s
 unfold jW_
 split
 ·exact dP_.refl s
 split
 ·exact⟨rfl,rfl⟩
 split
 ·split<;>exact dP_.refl s
 split
 ·exact dP_.refl s
 split
 ·split<;>exact dP_.refl s
 ·exact dP_.refl s
theorem mg_ {F:Int→Bool} {n j:Nat} {x:Nat×USt} (hx:x.2.on=1):∀(bs:List Nat) (P:Pu) (st:Wst),P[j]?=some x→(bP_ F n bs P st).2.1[j]?=some x
 | [],_,_,h=>h
 | b::r,P,st,h=>by
  unfold bP_
  cases hk:P[mB_ P b]? with
  | none=>exact mg_ hx r P st h
  | some y=>
   have hP:(P.set (mB_ P b) (y.1,(aC_ F y.2 st).2.1))[j]?=some x:=by
    by_cases e:mB_ P b=j
    ·rw[e] at hk ⊢
     rw[h] at hk
     injection hk with hk
     subst hk
     have hj:=(List.getElem?_eq_some_iff.1 h).1
     rw[List.getElem?_set_self hj]
     unfold aC_
     rw[if_pos hx]
    ·rw[List.getElem?_set_ne e];exact h
   dsimp only
   split
   ·exact mg_ hx r _ _ hP
   ·exact mg_ hx r _ _ hP
theorem zo_ {F:Int→Bool} {P:Pu} {st:Wst} {i n j:Nat} {c:Cm} {l:L8} {x:Nat×USt} (hx:x.2.on=1) (h:P[j]?=some x):(pc_ F P st i n c l).2.1[j]?=some x:=by
 unfold pc_
 split
 ·exact h
 split
 ·exact h
 split
 ·exact h
 ·exact mg_ hx _ P st h
theorem Aw_ {F:Int→Bool} {P:Pu} {st:Wst} {i n:Nat} {c:Cm} {l:L8} {x:Nat×USt} (hx:x.2.on=1) (h:P[i]?=some x):∃s',(t4_ F P st i n c l).2.1[i]?=some (x.1,s')∧dP_ x.2 s':=by
 have hi:=(List.getElem?_eq_some_iff.1 h).1
 unfold t4_
 rw[h]
 dsimp only
 split
 ·exact⟨x.2,zo_ hx h,dP_.refl _⟩
 split
 ·exact⟨_,List.getElem?_set_self hi,xZ_⟩
 split
 ·exact⟨_,List.getElem?_set_self hi,x0_⟩
 ·exact⟨_,List.getElem?_set_self hi,x1_⟩
theorem t9_ {F:Int→Bool} {s:USt} {st:Wst}:(aC_ F s st).2.1.fault=(aC_ F s st).1:=by
 unfold aC_
 split<;>rfl
theorem zp_ {F:Int→Bool} {P:Pu} {st:Wst} {i n:Nat} {l out:L8} {x:Nat×USt} (hx:x.2.on=1∨(x.2.on=0∧x.2.lock=0)) (h:P[i]?=some x) :
  (∃s',(b5_ F P st i n l out).2.1[i]?=some (x.1,s')∧s'.on=1∧s'.fault=(aC_ F (aO_ x.2) st).1)∧((aC_ F (aO_ x.2) st).1≠0→(b5_ F P st i n l out).1=snX nrS):=by
 have hi:=(List.getElem?_eq_some_iff.1 h).1
 have hon:(aC_ F (aO_ x.2) st).2.1.on=1:=mA_ hx
 have hft:=t9_ (F:=F) (s:=aO_ x.2) (st:=st)
 unfold b5_
 rw[h]
 dsimp only
 generalize aC_ F (aO_ x.2) st=S at *
 by_cases h0:S.1≠0
 ·rw[if_pos h0]
  exact⟨⟨_,List.getElem?_set_self hi,hon,hft⟩,fun _=>rfl⟩
 ·rw[if_neg h0]
  refine⟨?_,fun q=>absurd q h0⟩
  cases hh:d4_ S.2.1 n l with
  | bad sn=>exact⟨_,List.getElem?_set_self hi,hon,hft⟩
  | told c=>exact⟨_,List.getElem?_set_self hi,hon,hft⟩
  | conflict=>exact⟨_,List.getElem?_set_self hi,hon,hft⟩
  | prot=>exact⟨_,List.getElem?_set_self hi,hon,hft⟩
  | run c=>
   obtain⟨s',q1,q2⟩:=Aw_ (F:=F) (P:=P.set i (x.1,S.2.1)) (st:=S.2.2) (i:=i) (n:=n) (c:=c) (l:=out) (x:=(x.1,S.2.1)) hon (List.getElem?_set_self hi)
   exact⟨s',q1,q2.on.trans hon,q2.fault.trans hft⟩
open Go CF
def Bq_ (F:Int→Bool) (P:Pu) (st:Wst) (i n:Nat) (l:L8):Prop:=∀x,P[i]?=some x→(x.2.on≠1→pa_ F {aO_ x.2 with lock:=1} st)∧∀c,(aC_ F (aO_ x.2) st).1=0→d4_ (aC_ F (aO_ x.2) st).2.1 n l=.run c→nZ_ c.kind
def Sh (i:Nat) (P P':Pu):Prop:=P'.length=P.length∧∀k x,P[k]?=some x→∃s',P'[k]?=some (x.1,s')∧s'.count=x.2.count+if k=i then 1 else 0
section
variable {w u v v0:World} {N N' S D:Nat→Prop} {pw i n m:Nat} {st st1:Wst} {F:Int→Bool} {ℓ ℓ':Nat→Option Nat} {p out:Sl} {l lo:L8} {P P':Pu}
theorem Tw.dosN {x:Nat×USt} {R:A_→W_} (N:Bq_ F P st i n l) (h:Tw w v ℓ pw F P st m) (hm:m≤100000000) (he:P[i]?=some x) (hn:n<8) (hp:RdX v ℓ 1 p (bv l)) (ho:RdX v ℓ 1 out (bv lo)) (hb:out.n≤140737488351232)
  (hR:∀v' ℓ' d,Mv v v' ℓ ℓ'→Tw w v' ℓ' pw F (b5_ F P st i n l lo).2.1 (b5_ F P st i n l lo).2.2 (m+200002)→Dat v v' ℓ' d (b5_ F P st i n l lo).1.d→Sh i P (b5_ F P st i n l lo).2.1→R (rsv (b5_ F P st i n l lo).1.st (b5_ F P st i n l lo).1.sn d).toArray v'):aL_ (some ⟨x.1,0,none⟩) (n:Int) p out v R:=by
 obtain⟨hi,hx⟩:=List.getElem?_eq_some_iff.1 he
 obtain⟨n1,n2⟩:=N x he
 refine Tw.dos n1 n2 h hm hi hx hn hp ho hb fun v' ℓ' d mv T dt hl hk=>hR v' ℓ' d mv T dt ⟨hl,fun k y hy=>?_⟩
 obtain⟨h1,h2⟩:=List.getElem?_eq_some_iff.1 hy
 have h3:k<(b5_ F P st i n l lo).2.1.length:=o_
 obtain⟨q1,q2⟩:=hk k h1 h3
 rw[h2] at q1 q2
 exact⟨(b5_ F P st i n l lo).2.1[k].2,List.getElem?_eq_some_iff.2 ⟨h3,Prod.ext q1 rfl⟩,q2⟩
theorem Tw.local1 {b:Nat} {cs:A_} {t:TypeId} (h:Tw w v ℓ pw F P st m) (hb:Blk v b cs t) (hn:ℓ b=none) (k:ac_ (fun k=>k=b) v u) (ht:¬mt_ t) (ht2:t≠ae_) (hw:w.heap.size≤b):Tw w u ℓ pw F P st m:=by
 obtain⟨us,q1,q2,q3⟩:=h.ex
 exact⟨⟨us,q1.local1 hb hn k ht ht2,q2,q3⟩,h.grow.keep k fun b' hb' q=>o_,h.old,h.peers,h.count⟩
theorem Tw.res1 {b:Nat} {cs:A_} (h:Tw w v ℓ pw F P st m) (hb:LB v ℓ b cs aa_) (k:ac_ (fun k=>k=b) v u) (hw:w.heap.size≤b):Tw w u ℓ pw F P st m:=h.local1 hb.blk hb.no k (eO_ d_ d_ d_) d_ hw
end
open Go CF
section
variable {w u v:World}
end
open Go CF
section
variable {H:Type} {enc:TypeId×Value→H} {w:World} {base:Nat} {spare:Nat→Bool} {held:Bool}
end
open Go CF
section
variable {w u v:World} {pw n m:Nat} {ℓ ℓ':Nat→Option Nat} {P:Pu} {st:Wst}
abbrev stN:Wst:=⟨fun _=>none,fun _=>none,[],0⟩
theorem ua_ {F:Int→Bool} {s:USt} {st:Wst} (h:s.on=1):aC_ F s st=(s.fault,s,st):=by unfold aC_;rw[if_pos h]
end
open Go CF
section
variable {F:Int→Bool} {b0 n:Nat} {s S:USt} {st st':Wst} {r:Pu} {l out:L8} {c:Cm}
end
open Go CF
section
variable {w u v z:World} {pw n m b0 b1:Nat} {ℓ ℓ':Nat→Option Nat} {P:Pu} {st:Wst} {s:USt} {r:Pu} {F:Int→Bool}
end
open Go CF
structure pd_ where
 kind:Int
 other:Bool
 nx:Int
 c:Sl
 cl:L8
 o:Sl
 ol:L8
 a:Int
 n:Int
def rC_ (x:pd_):List Value:=[.int .u8 x.kind,.bool x.other,.int .i64 x.nx,.slice x.c.A x.c.n x.c.c,.slice x.o.A x.o.n x.o.c,.int .i64 x.a,.int .i64 x.n]
theorem qa_ (x:pd_):(rC_ x).length=7:=rfl
def sM_ (w:World) (x:pd_):Prop:=Rd w 1 x.c (bv x.cl)∧Rd w 1 x.o (bv x.ol)∧x.o.n≤140737488351232
section
variable {H:Type} {enc:TypeId×Value→H} {w:World} {base:Nat} {spare:Nat→Bool} {held:Bool}
theorem Ax_:Tryz.prog.underlying kr_=some (.struct #[⟨"Kind",ae_,0,false,"","",0⟩,⟨"Other",qk_,1,false,"","",1⟩,⟨"Nexus",hb_,2,false,"","",8⟩,⟨"CDB",aB_,3,false,"","",16⟩,⟨"Out",aB_,4,false,"","",40⟩,⟨"A",hb_,5,false,"","",64⟩,⟨"N",hb_,6,false,"","",72⟩]):=k_
theorem Br_:∀{cs:List Value},cs.length=7→∃c0 c1 c2 c3 c4 c5 c6,cs = [c0,c1,c2,c3,c4,c5,c6]
 | [a,b,c,d,e,f,g],_=>⟨a,b,c,d,e,f,g,rfl⟩
theorem uQ_:gA_ enc Tryz.prog w base spare held kr_ fun cs=>∃x:pd_,cs=rC_ x∧sM_ w x:=by
 have byt:gA_ enc Tryz.prog w base spare held aB_ fun cs=>∃s:Sl,cs = [.slice s.A s.n s.c]∧∃l:L8,Rd w 1 s (bv l)∧l.length=s.n∧s.n≤140737488351232:=ul_ aE_ hc_ k_ k_
 refine(tm_ Ax_ (Φ:=[fun cs=>∃n,cs = [.int .u8 n]∧(Lit.int .u8 n).wf=true,fun cs=>∃b,cs = [.bool b],fun cs=>∃n,cs = [.int .i64 n]∧(Lit.int .i64 n).wf=true,
  fun cs=>∃s:Sl,cs = [.slice s.A s.n s.c]∧∃l:L8,Rd w 1 s (bv l)∧l.length=s.n∧s.n≤140737488351232,fun cs=>∃s:Sl,cs = [.slice s.A s.n s.c]∧∃l:L8,Rd w 1 s (bv l)∧l.length=s.n∧s.n≤140737488351232,
  fun cs=>∃n,cs = [.int .i64 n]∧(Lit.int .i64 n).wf=true,fun cs=>∃n,cs = [.int .i64 n]∧(Lit.int .i64 n).wf=true]) rfl ?_).mono ?_
 ·intro i f φ hf hφ
  match i with
  | 0=>injection hf with hf;injection hφ with hφ;subst hf;subst hφ;exact j8_ hc_
  | 1=>injection hf with hf;injection hφ with hφ;subst hf;subst hφ;exact vD_ AG_
  | 2=>injection hf with hf;injection hφ with hφ;subst hf;subst hφ;exact j8_ lF_
  | 3=>injection hf with hf;injection hφ with hφ;subst hf;subst hφ;exact byt
  | 4=>injection hf with hf;injection hφ with hφ;subst hf;subst hφ;exact byt
  | 5=>injection hf with hf;injection hφ with hφ;subst hf;subst hφ;exact j8_ lF_
  | 6=>injection hf with hf;injection hφ with hφ;subst hf;subst hφ;exact j8_ lF_
  | i+7=>simp at hφ
 ·rintro cs ⟨hl,h⟩
  have hl:cs.length=7:=hl.trans k_
  obtain⟨k,hk,_⟩:=h 0 _ _ rfl rfl
  obtain⟨b,hb⟩:=h 1 _ _ rfl rfl
  obtain⟨nx,hnx,_⟩:=h 2 _ _ rfl rfl
  obtain⟨c,hc,cl,hc1,_,_⟩:=h 3 _ _ rfl rfl
  obtain⟨o,ho,ol,ho1,_,ho2⟩:=h 4 _ _ rfl rfl
  obtain⟨a,ha,_⟩:=h 5 _ _ rfl rfl
  obtain⟨n,hn,_⟩:=h 6 _ _ rfl rfl
  have e1:Tryz.prog.cellsOf ae_=1:=k_
  have e2:Tryz.prog.cellsOf hb_=1:=k_
  have e3:Tryz.prog.cellsOf aB_=1:=k_
  have e4:Tryz.prog.cellsOf qk_=1:=k_
  change (cs.drop 0).take (Tryz.prog.cellsOf ae_)=_ at hk
  change (cs.drop 1).take (Tryz.prog.cellsOf qk_)=_ at hb
  change (cs.drop 2).take (Tryz.prog.cellsOf hb_)=_ at hnx
  change (cs.drop 3).take (Tryz.prog.cellsOf aB_)=_ at hc
  change (cs.drop 4).take (Tryz.prog.cellsOf aB_)=_ at ho
  change (cs.drop 5).take (Tryz.prog.cellsOf hb_)=_ at ha
  change (cs.drop 6).take (Tryz.prog.cellsOf hb_)=_ at hn
  rw[e1] at hk
  rw[e2] at hnx ha hn
  rw[e3] at hc ho
  rw[e4] at hb
  obtain⟨c0,c1,c2,c3,c4,c5,c6,rfl⟩:=Br_ hl
  simp only[List.drop_zero,List.take_succ_cons,List.take_zero,List.drop_succ_cons,List.cons.injEq,and_true] at hk hb hnx hc ho ha hn
  exact⟨⟨k,b,nx,c,cl,o,ol,a,n⟩,by rw[hk,hb,hnx,hc,ho,ha,hn];rfl,hc1,ho1,ho2⟩
theorem ub_:gA_ enc Tryz.prog w base spare held nn_ fun cs=>∃s:Sl,cs = [.slice s.A s.n s.c]∧∃xs:List pd_,Rd w 7 s (xs.flatMap rC_)∧∀x∈xs,sM_ w x:=
 (pq_ (f:=rC_) (Q:=sM_ w) (z:=7) (bytes:=80) k_ k_ k_ d_ qa_ uQ_).mono fun _ ⟨s,h1,xs,h2,_,h4,_⟩=>⟨s,h1,xs,h2,h4⟩
end
section
variable {w u v z:World} {pw i n m b0 b1:Nat} {ℓ ℓ':Nat→Option Nat} {P:Pu} {st:Wst} {s:USt} {r:Pu} {F:Int→Bool} {a:UA} {us:List (UA×USt)}
theorem A8_ {x:Nat×USt} {nx:Int} {p out:Sl} {R:A_→W_} (T:Tw w v ℓ pw F P st m) (he:P[i]?=some x) (hx:nx<0∨8≤nx) (hR:∀v',ab_ v v'→R (rsv 2 ⟨5,9472,0,false,0,0,false,false⟩ au_).toArray v'):aL_ (some ⟨x.1,0,none⟩) nx p out v R:=by
 obtain⟨us,H,K,rfl⟩:=T.ex
 refine d8_.calls _ _ _ _ _ _ (ag_ fun ab w0 hab hb0 hg0 hs0=>?_)
 obtain⟨hi,hx0⟩:=List.getElem?_eq_some_iff.1 he
 have hlen:(pub us).length=us.length:=by unfold pub;rw[List.length_map]
 have hiu:i<us.length:=o_
 have ex:x=(us[i].1.ub,us[i].2):=by rw[←hx0,oR_ hiu]
 subst ex
 obtain⟨hU,_⟩:=(H.grow hg0).at (a:=us[i].1) (s:=us[i].2) hiu rfl
 refine⟨fun _=>rfl,some ⟨us[i].1.dv,0,none⟩,fun _=>hU.cellU fun P=>rfl,al_ (by simp;omega) (br_ (s:=⟨5,9472,0,false,0,0,false,false⟩) fun w1 g1=>?_)⟩
 exact aW_ (g1.heap hb0 (fun q=>q)) rfl fun w2 hk=>hR w2 ((hg0.trans g1).keep hk fun b hb q=>o_)
theorem Tw.counts {x:Nat×USt} {R:Int→W_} (T:Tw w v ℓ pw F P st m) (he:P[i]?=some x) (hR:R (x.2.count:Int) v):dS_ (some ⟨x.1,0,none⟩) v R:=by
 obtain⟨us,H,K,rfl⟩:=T.ex
 obtain⟨hi,hx0⟩:=List.getElem?_eq_some_iff.1 he
 have hlen:(pub us).length=us.length:=by unfold pub;rw[List.length_map]
 have hiu:i<us.length:=o_
 have ex:x=(us[i].1.ub,us[i].2):=by rw[←hx0,oR_ hiu]
 subst ex
 obtain⟨hU,_⟩:=H.at (a:=us[i].1) (s:=us[i].2) hiu rfl
 obtain⟨P,hP1,_⟩:=hU.unit
 refine fN_.calls _ _ _ (ai_ rfl ⟨rfl,?_⟩)
 rw[show(gA (some (⟨us[i].1.ub,0,none⟩:Addr))).add 15=⟨us[i].1.ub,15,none⟩ by rw[gA,ao_]]
 exact uA_ hP1 rfl hR
theorem Tw.starts {x:Nat×USt} {R:Int→W_} (hL:x.2.on≠1→pa_ F {x.2 with lock:=1} st) (T:Tw w v ℓ pw F P st m) (hm:m≤500000000) (he:P[i]?=some x) (hR:∀v',ab_ w v'→R (((aC_ F x.2 st).1:Nat):Int) v'):bA_ (some ⟨x.1,0,none⟩) v R:=by
 obtain⟨us,H,K,rfl⟩:=T.ex
 obtain⟨hi,hx0⟩:=List.getElem?_eq_some_iff.1 he
 have hlen:(pub us).length=us.length:=by unfold pub;rw[List.length_map]
 have hiu:i<us.length:=o_
 have ex:x=(us[i].1.ub,us[i].2):=by rw[←hx0,oR_ hiu]
 subst ex
 exact oQ_ (a:=us[i].1) (s:=us[i].2) hL H K hm hiu rfl fun v' ℓ' a' _ mv _ _=>hR v' (Mv.tw T mv).1
end
open Go CF
theorem x2_ {w':World} {b:Nat} (h:w'.heap[b]?=some (.map #[] 0)):mo_ w' b fun _=>none:=⟨#[],0,h,fun e he=>by simp at he,fun s=>rfl⟩
def m2_ (ns:List Int):Int→Bool:=fun n=>decide (n∈ns)
theorem x3_ {w:World} {pw:Nat} {D:Nat→Prop} {st:Wst} {F:Int→Bool} {xs:Sl} {ns:List Int} {R:W_} (hw:aZ_ w pw D st F) (hx:∀u,ac_ D w u→Rd u 1 xs (ns.map fun n=>.int .i64 n))
  (h:∀w' D',ac_ D w w'→aZ_ w' pw D' {st with ops:=0} (m2_ ns)→(∀k,D' k→D k∨w.heap.size≤k)→R w'):hu_ (some ⟨pw,0,none⟩) xs (-1) w R:=by
 obtain⟨pl,_,mb,md,ws,cs,hw⟩:=hw
 refine e2_.calls _ _ _ _ _ ?_
 refine ai_ rfl ?_
 refine ag_ fun b0 w0 hb0e hb0 hg0 hsz0=>⟨rfl,?_⟩
 have hw0:=hw.keep hg0 (fun _ _ q=>q) (b6_ w)
 have hpb:pw≠b0:=fun q=>by have:=aw_ hw.blk;omega
 rw[gA,ao_]
 refine aU_ hw0.blk (by show 3<7;decide) rfl fun w1 hb1 hk1 hs1=>⟨rfl,?_⟩
 rw[ao_]
 refine aU_ hb1 (by show 5<7;decide) rfl fun w2 hb2 hk2 hs2=>⟨rfl,?_⟩
 rw[ao_]
 refine aU_ hb2 (by show 4<7;decide) rfl fun w3 hb3 hk3 hs3=>?_
 have hb3:Blk w3 pw (gV_ (some b0) mb md ws 0) cb_:=hb3
 have k03:ac_ (fun k=>k=pw) w0 w3:=(hk1.trans hk2 fun _ _ q=>q).trans hk3 fun _ _ q=>q
 have hm3:mo_ w3 b0 fun _=>none:=x2_ (k03.heap hb0 (fun q=>hpb q.symm))
 have kw3:ac_ D w w3:=(hg0.mono (S':=D) fun _ _ q=>q.elim).trans k03 fun _ _ q=>(by subst q;exact hw.dw)
 have hlen:ns.length=xs.n:=by have:=(hx w (ac_.mono (ac_.refl (fun _=>False) w) fun _ _ q=>q.elim)).len;simpa using this
 have hnb:=(hx w (ac_.mono (ac_.refl (fun _=>False) w) fun _ _ q=>q.elim)).nb
 refine⟨fun x u=>∃j:Nat,x=j∧j≤ns.length∧ac_ (fun k=>k=b0) w3 u∧∃m,mo_ u b0 m∧∀n,(m n).getD (.bool false)=.bool (decide (n∈ns.take j)),fun x _=>ns.length-x.toNat,
  ⟨0,rfl,Nat.zero_le _,ac_.mono (ac_.refl (fun _=>False) w3) (fun _ _ q=>q.elim),_,hm3,fun n=>by simp⟩,?_⟩
 rintro x u ⟨j,rfl,hj,hku,m,hm,hmj⟩
 have hbu:Blk u pw (gV_ (some b0) mb md ws 0) cb_:=hku.heap hb3 hpb
 have sw3:=kw3.size
 have keepD:ac_ D w u:=kw3.trans hku fun i hi q=>o_
 rw[←hlen]
 refine ba_ (fun hlt=>?_) (fun hge=>?_)
 ·obtain⟨a,ha,hc⟩:=(hx u keepD).at_ (by intro q;rw[List.map_eq_nil_iff.1 q] at hlt;exact absurd hlt (Nat.not_lt_zero _))
  refine⟨⟨o_,o_,by rw[ha];rfl⟩,ns[j],?_,rfl,some b0,by rw[hbu.cell];rfl,?_⟩
  ·rw[ha]
   show u.cell? (a.add _)=_
   rw[Int.toNat_natCast,Nat.mul_one]
   exact hc j _ (by simp[hlt])
  ·refine wY_ (P:=Tryz.prog) jm_ lF_ hm ns[j] (.bool true) fun u1 hm1 hk1' hs1'=>?_
   rw[w64 o_ o_]
   refine⟨⟨j+1,o_,hlt,hku.trans hk1' fun _ _ q=>q,_,hm1,fun n=>?_⟩,(by omega:ns.length-((j:Int)+1).toNat<ns.length-(j:Int).toNat)⟩
   rw[List.take_succ_eq_append_getElem hlt]
   unfold vB_
   by_cases q:n=ns[j]
   ·rw[if_pos q,decide_eq_true (List.mem_append.2 (.inr (List.mem_singleton.2 q)))];rfl
   ·rw[if_neg q,hmj n]
    have e:n∈ns.take j↔n∈ns.take j++[ns[j]]:=⟨fun r=>List.mem_append.2 (.inl r),fun r=>(List.mem_append.1 r).elim id (fun r=>absurd (List.mem_singleton.1 r) q)⟩
    exact congrArg Value.bool (decide_eq_decide.2 e)
 ·rw[List.take_of_length_le o_] at hmj
  have kall:ac_ (fun k=>k=pw∨k=b0) w0 u:=(k03.mono fun _ _ q=>.inl q).trans hku fun _ _ q=>.inr q
  have nbs:b1_ w0 fun k=>k=pw∨k=b0:=fun g cur hg q=>by
   rcases q with q|q
   ·subst q;exact absurd (bj_ hw0.blk hg) d_
   ·subst q;rw[hb0] at hg;cases hg
  have lt:=hw.lt
  have mb0:mb<b0:=by have:=ql_ hw.seen;omega
  have md0:md<b0:=by have:=ql_ hw.dur;omega
  refine h u (fun k=>D k∨k=b0) keepD ⟨⟨some b0,m2_ ns⟩,rfl,mb,md,ws,cs,hbu,hw0.seen.keep kall (fun q=>by rcases q with q|q;exact hw0.pm.1 q;omega) nbs,hw0.dur.keep kall (fun q=>by rcases q with q|q;exact hw0.pm.2 q;omega) nbs,hw.ne,
   hw0.own.keep kall fun b hb q=>?_,hw.waits,fun c hc=>(hw0.rows c hc).keep kall fun b hb q=>?_,.inl hw.dw,.inl hw.db,.inl hw.dd,fun g hg=>.inl (hw.ds g hg),fun k hk=>?_,fun g cur hg q=>?_,⟨m,hm,hmj⟩,fun b hb=>.inr (by cases hb;rfl),⟨fun q=>by cases q;omega,fun q=>by cases q;omega⟩⟩ fun k hk=>?_
  ·rcases q with q|q
   ·exact hw0.wm.2.2 (by rw[hb,q])
   ·obtain⟨cur,hc⟩:=aS_ hw0.own hb
    subst q;rw[hb0] at hc;cases hc
  ·obtain⟨cur,hc⟩:=aS_ (hw0.rows c hc) hb
   exact nbs b cur hc q
  ·have:=kall.size
   rcases hk with q|q
   ·have:=lt k q;omega
   ·omega
  ·rcases q with q|q
   ·by_cases e:g=pw
    ·subst e;exact absurd (bj_ hbu hg) d_
    ·have hlt:=lt g q
     exact hw0.nb g cur (by rw[←kall.block g o_ (fun r=>by rcases r with r|r;exact e r;omega)];exact hg) q
   ·subst q
    obtain⟨es,c,hmm,_⟩:=hm
    rw[hmm] at hg;cases hg
  ·rcases hk with q|q
   ·exact .inl q
   ·exact .inr o_
open Go CF
def plF (b:Bool):Int→Bool:=if b then m2_ [0] else dl_
def plE (b:Bool):Nat:=if b then 6 else 0
section
variable {w u v z:World} {pw i n m b0 b1 c:Nat} {ℓ ℓ':Nat→Option Nat} {P:Pu} {st:Wst} {s:USt} {r:Pu} {sp:Bool}
theorem q8_ (hon:s.on=0) (hl:ldN stN.seen s.keepf 2=(-1,0,[])):(aC_ (plF sp) s stN).1=plE sp:=by
 unfold aC_
 rw[if_neg o_]
 dsimp only
 cases sp with
 | false=>show(cC_ dl_ s stN).1=0;rw[wy_ hl]
 | true=>
  show(cC_ (m2_ [0]) s stN).1=6
  have e:aP_ (m2_ [0]) stN s.keepf ⟨s.sure,s.at_,s.gen⟩=(6,[],0,⟨false,s.at_,s.gen⟩,more stN 1):=by
   unfold aP_
   rw[show gC_ (m2_ [0]) stN.ops 2=some 0 by decide]
  unfold cC_ hr_
  rw[e]
  rfl
def Cn (sp:Bool) (b0 b1 c:Nat) (P:Pu) (st:Wst):Prop:=∃s r,P=(b0,s)::r∧s.count=c∧((s=cB_ 0 0 [b1]∧st=stN)∨(s.on=1∧s.fault=plE sp))
theorem Cn.start (h:Cn sp b0 b1 c P st):∃x,P[0]?=some x∧x.1=b0∧x.2.count=c∧(aC_ (plF sp) x.2 st).1=plE sp∧(aC_ (plF sp) (aO_ x.2) st).1=plE sp∧(x.2.on=1∨(x.2.on=0∧x.2.lock=0)):=by
 obtain⟨s,r,rfl,hc,h⟩:=h
 refine⟨(b0,s),rfl,rfl,hc,?_⟩
 rcases h with⟨rfl,rfl⟩|⟨h1,h2⟩
 ·exact⟨q8_ rfl (rB_ rfl),q8_ (s:=aO_ (cB_ 0 0 [b1])) rfl (show ldN stN.seen (cB_ 0 0 [b1]).keepf 2=_ from rB_ rfl),.inr ⟨rfl,rfl⟩⟩
 ·refine⟨?_,?_,.inl h1⟩
  ·rw[ua_ h1];exact h2
  ·rw[ua_ (show(aO_ s).on=1 from h1)];exact h2
theorem Cn.do {nx:Int} {q o:Sl} {l lo:L8} {R:A_→W_} (h:Cn sp b0 b1 c P st) (T:Tw w v ℓ pw (plF sp) P st m) (hm:m≤100000000) (hq:RdX v ℓ 1 q (bv l)) (ho:RdX v ℓ 1 o (bv lo)) (hb:o.n≤140737488351232)
  (hR:∀v' ℓ' c' X d P' st',Mv v v' ℓ ℓ'→Tw w v' ℓ' pw (plF sp) P' st' (m+200002)→Cn sp b0 b1 c' P' st'→(0≤nx∧nx<8→c'=c+1∧(sp=true→X=snX nrS))→(¬(0≤nx∧nx<8)→c'=c)→R (rsv X.st X.sn d).toArray v'):aL_ (some ⟨b0,0,none⟩) nx q o v R:=by
 obtain⟨x,hx,rfl,hc,h1,h2,h3⟩:=h.start
 by_cases hr:0≤nx∧nx<8
 ·obtain⟨k,rfl⟩:=Int.eq_ofNat_of_zero_le hr.1
  refine T.dosN (x:=x) (fun x hx=>⟨fun _=>p9_ _ _ _,fun c _ _=>zm_ _⟩) hm hx o_ hq ho hb fun v' ℓ' d mv T' dt sh=>?_
  obtain⟨⟨s',e1,e2,e3⟩,e4⟩:=zp_ (F:=plF sp) (st:=st) (n:=k) (l:=l) (out:=lo) h3 hx
  obtain⟨s2,f1,f2⟩:=sh.2 0 x hx
  rw[e1] at f1
  injection f1 with f1
  injection f1 with _ f1
  subst f1
  refine hR v' ℓ' (c+1) _ d _ _ mv T' ?_ (fun _=>⟨rfl,fun q=>e4 (by rw[h2,q];decide)⟩) (fun q=>absurd hr q)
  generalize (b5_ (plF sp) P st 0 k l lo).2.1=P' at *
  cases P' with
  | nil=>cases e1
  | cons y r'=>
   injection e1 with e1
   subst e1
   exact⟨s',r',rfl,by rw[f2,hc];rfl,.inr ⟨e2,e3.trans h2⟩⟩
 ·exact A8_ T hx o_ fun v' g=>hR v' ℓ c (snX ⟨5,9472,0,false,0,0,false,false⟩) au_ P st (Mv.grow g) ((T.go g).mono o_) h (fun q=>absurd q hr) fun _=>rfl
end
section
variable {w:World}
theorem q9_ {lst:Sl} {xs:List pd_} {sp:Bool} {R:Bool→W_} (hx:Rd w 7 lst (xs.flatMap rC_)) (hok:∀x∈xs,sM_ w x) (h:∀w',ab_ w w'→R true w'):hs_ lst sp w R:=by
 refine cU_.calls _ _ _ _ (t7_ fun w1 g1=>ai_ rfl (mP_ fun pw D w2 g2 hW hD=>?_))
 have s1:=g1.size
 have hlen:xs.length=lst.n:=by have:=hx.len;rw[bv_ qa_] at this;omega
 refine bR_ (fun v=>ab_ w v∧∃D',aZ_ v pw D' stN (plF sp)∧∀k,D' k→w.heap.size≤k) ?_ (fun J=>?_)
 rotate_left
 ·cases sp with
  | false=>exact ai_ rfl (J w2 ⟨g1.trans g2,D,hW,fun k q=>by have:=hD k q;omega⟩)
  | true=>
   refine al_ rfl (aJ_ (cells:=#[.int .i64 0]) (e:=hb_) (z:=1) (base:=w2.heap.size) k_ rfl d_ (Nat.le_refl _) fun w3 o3 g3 _=>?_)
   have lD:∀k,D k→k<w2.heap.size:=fun k q=>hW.lt q
   refine x3_ (ns:=[0]) (hW.grow g3) (fun u k=>?_) fun w4 D' k4 hW4 hD4=>J w4 ⟨((g1.trans g2).trans g3).keep k4 fun b hb q=>by have:=hD b q;omega,D',hW4,fun k q=>?_⟩
   ·have o3:CF.Own w3 w2.heap.size hb_ 1 ⟨some ⟨w2.heap.size,0,none⟩,1,1⟩ ([0].map fun n=>.int .i64 n):=o3
    exact(o3.keep k fun b hb q=>by have:=lD b q;have:=(o3.ge b hb).1;omega).rd (by show 1≤_;decide)
   ·rcases hD4 k q with q|q
    ·have:=hD k q;omega
    ·have:=g2.size;have:=g3.size;omega
 rintro v2 ⟨gv2,D',hW',hD'⟩
 obtain⟨ℓ0,H0,hℓ0⟩:=Sys.world0 hW'
 have old:∀b,b<w.heap.size→ℓ0 b=none:=fun b hb=>hℓ0 b fun q=>by have:=hD' b q;omega
 refine Tw.units (m:=0) H0 gv2 old d_ (fun c hc=>by cases hc) ⟨Nat.le_refl _,Nat.le_refl _⟩ (fun k _=>yq_) fun w3 ℓ3 b0 b1 m3 T3=>?_
 refine⟨some ⟨b0,0,none⟩,⟨⟨d_,d_⟩,rfl⟩,?_⟩
 refine⟨fun n i v=>∃(c j:Nat) (ℓ':Nat→Option Nat) (P:Pu) (st:Wst),n=c∧i=j∧c≤j∧j≤40∧Tw w v ℓ' pw (plF sp) P st (200002*j)∧Cn sp b0 b1 c P st,fun _ i _=>40-i.toNat,
  ⟨0,0,ℓ3,_,_,rfl,rfl,Nat.le_refl _,d_,T3,_,_,rfl,rfl,.inl ⟨rfl,rfl⟩⟩,?_⟩
 rintro n i v ⟨c,j,ℓ',P,st,rfl,rfl,hcj,hj,T,hC⟩
 by_cases hlt:j<xs.length∧j<40
 rotate_left
 ·refine ai_ (by rw[Bool.and_eq_false_iff,decide_eq_false_iff_not,decide_eq_false_iff_not];omega) ?_
  obtain⟨x,hx0,rfl,_,e1,_,_⟩:=hC.start
  refine aX_ (fun(want:Int) y=>want=((plE sp:Nat):Int)∧y=v) ?_ (fun J=>by
   cases sp with
   | false=>exact ai_ rfl (J _ _ ⟨rfl,rfl⟩)
   | true=>exact al_ rfl (J _ _ ⟨rfl,rfl⟩))
  rintro want y ⟨rfl,e⟩
  rw[e]
  refine T.starts (fun _=>p9_ _ _ _) o_ hx0 fun v' g'=>?_
  rw[e1]
  have:((((plE sp:Nat):Int))==((plE sp:Nat):Int))=true:=by rw[beq_iff_eq]
  rw[this]
  exact h v' g'
 refine al_ (by rw[Bool.and_eq_true,decide_eq_true_eq,decide_eq_true_eq];omega) ?_
 refine aX_ (fun(n1:Int) y=>∃(c':Nat) (ℓ2:Nat→Option Nat) (P':Pu) (st':Wst),n1=c'∧c'≤j+1∧Tw w y ℓ2 pw (plF sp) P' st' (200002*(j+1))∧Cn sp b0 b1 c' P' st') ?_ (fun J=>?_)
 ·rintro n1 y ⟨c',ℓ2,P',st',rfl,hc',Ty,Cy⟩
  rw[w64 o_ o_]
  exact⟨⟨c',j+1,ℓ2,P',st',rfl,o_,hc',o_,Ty,Cy⟩,by dsimp only;omega⟩
 rintro w6 rfl
 have g6:=am_ v
 have T6:=T.go g6
 generalize v.drew=w6 at *
 obtain⟨k1,k2,k3⟩:=hok xs[j] (List.getElem_mem hlt.1)
 have hjn:j<lst.n:=o_
 obtain⟨la,hla,hce⟩:=hx.elem hjn d_
 rw[gJ_ qa_ hlt.1] at hce
 have hin:(0:Int)≤(j:Int)∧(j:Int)<(lst.n:Int)∧lst.A.isSome=true:=⟨o_,o_,by rw[hla];rfl⟩
 have cel:∀{o:World} {k:Nat} {x:Value},ab_ w o→(rC_ xs[j])[k]?=some x→o.cell? (((gA lst.A).add ((j:Int).toNat*7)).add k)=some x:=fun {o k x} g e=>by
  rw[hla,gA,Int.toNat_natCast]
  exact(hce.keep g (fun q=>q)) k x e
 generalize xs[j]=X at *
 have tail:∀(K:Int→W_),(∀(n1:Int) (y:World),(∃(c':Nat) (ℓ2:Nat→Option Nat) (P':Pu) (st':Wst),n1=c'∧c'≤j+1∧Tw w y ℓ2 pw (plF sp) P' st' (200002*(j+1))∧Cn sp b0 b1 c' P' st')→K n1 y)→∀(rb:Nat) (y:World) (c':Nat) (x:RsX) (d:Sl) (ℓ2:Nat→Option Nat) (P':Pu) (st':Wst),Tw w y ℓ2 pw (plF sp) P' st' (200002*(j+1))→Cn sp b0 b1 c' P' st'→(0≤X.nx∧X.nx<8→c'=c+1∧(sp=true→x=snX nrS))→(¬(0≤X.nx∧X.nx<8)→c'=c)→Blk y rb (rsv x.st x.sn d).toArray aa_→
   (0≤(j:Int)∧(j:Int)<(lst.n:Int)∧lst.A.isSome=true)∧∃n3:Int,y.cell? (((gA lst.A).add ((j:Int).toNat*7)).add 2)=some (.int .i64 n3)∧(decide (n3≥0)=true→(0≤(j:Int)∧(j:Int)<(lst.n:Int)∧lst.A.isSome=true))∧∃n4:Int,(decide (n3≥0)=true→y.cell? (((gA lst.A).add ((j:Int).toNat*7)).add 2)=some (.int .i64 n4))∧aK_ (fun(n5:Int) (w010:World)=>dS_ (some ⟨b0,0,none⟩) w010 fun n6 w011=>Br (n6 != n5) (R false w011) (K n5 w011)) fun J_1=>Br ((decide (n3≥0))&&(decide (n4<8))) (∃n7:Int,(sp=true→y.cell? ((⟨rb,0,none⟩:Addr).add 0)=some (.int .u8 n7))∧∃n8:Int,(((!(n7 != 2))&&sp)=true→y.cell? (((⟨rb,0,none⟩:Addr).add 1).add 0)=some (.int .u8 n8))∧Br (sp&&((n7 != 2)||(n8 != 2))) (R false y) (J_1 (IntKind.wrap .i64 ((c:Int)+1)) y)) (J_1 (c:Int) y):=fun K hK rb y c' x d ℓ2 P' st' Ty Cy h1 h2 hb=>by
  refine⟨hin,X.nx,cel Ty.grow rfl,fun _=>hin,X.nx,fun _=>cel Ty.grow rfl,?_⟩
  refine aX_ (fun n5 z=>n5=((c':Nat):Int)∧z=y) ?_ (fun J2=>?_)
  ·rintro n5 z ⟨rfl,e⟩
   rw[e]
   obtain⟨x0,hx0,rfl,hc0,_⟩:=Cy.start
   refine Ty.counts hx0 (ai_ (by rw[hc0];exact bne_self_eq_false _) (hK _ _ ⟨c',ℓ2,P',st',rfl,?_,Ty,Cy⟩))
   by_cases q:0≤X.nx∧X.nx<8
   ·have:=(h1 q).1;omega
   ·have:=h2 q;omega
  ·by_cases q:0≤X.nx∧X.nx<8
   ·obtain⟨e1,e2⟩:=h1 q
    refine al_ (by rw[Bool.and_eq_true,decide_eq_true_eq,decide_eq_true_eq];omega) ⟨(x.st:Int),fun _=>by rw[ao_,Blk.cell hb];rfl,(x.sn.key:Int),fun _=>by rw[ao_,ao_,Blk.cell hb];rfl,?_⟩
    rw[w64 o_ o_]
    refine ai_ ?_ (J2 _ _ ⟨o_,rfl⟩)
    cases sp with
    | false=>rfl
    | true=>rw[e2 rfl];rfl
   ·exact ai_ (by rw[Bool.and_eq_false_iff,decide_eq_false_iff_not,decide_eq_false_iff_not];omega) (J2 _ _ ⟨by rw[h2 q],rfl⟩)
 have tail:=tail _ J
 refine⟨ab_ w,T6.grow,hin,X.nx,fun o g=>cel g rfl,hin,X.c,fun o g=>cel g rfl,hin,X.o,fun o g=>cel g rfl,?_,?_⟩
 ·refine hC.do T6 o_ (T6.arg k1) (T6.arg k2) k3 fun v' ℓ2 c' x d P' st' mv T' C' q1 q2=>ag_ fun rb v3 hrb hb3 g3 hs3=>⟨(T'.go g3).grow,bF_ hb3 rfl fun v4 hb4 hk4 hs4=>tail rb v4 c' x d ℓ2 P' st' ?_ C' q1 q2 hb4⟩
  exact((T'.go g3).res1 ⟨hb3,T'.fresh o_⟩ hk4 (by have:=T'.grow.size;omega)).mono o_
 ·refine ag_ fun rb v3 hrb hb3 g3 hs3=>⟨(T6.go g3).grow,?_⟩
  have T3:=T6.go g3
  have nrb:ℓ' rb=none:=T6.fresh o_
  refine hC.do T3 o_ (T3.arg k1) (T3.arg k2) k3 fun v' ℓ2 c' x d P' st' mv T' C' q1 q2=>?_
  have hb':=mv.heap hb3 nrb
  refine bF_ hb' rfl fun v4 hb4 hk4 hs4=>tail rb v4 c' x d ℓ2 P' st' ?_ C' q1 q2 hb4
  exact(T'.res1 ⟨hb',(mv.lab _ (aw_ hb3)).trans nrb⟩ hk4 (by have:=T6.grow.size;omega)).mono o_
end
end Go.Proofs.YtpmebahhjgkflaaGreatDoor
