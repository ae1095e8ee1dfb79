import Derived.MapKept
import Derived.Test.YtpmebahhjgkflaaGreatDoorB2
set_option maxHeartbeats 20000000
namespace Go.Proofs.YtpmebahhjgkflaaGreatDoor
open Go CF
set_option linter.unusedVariables false
set_option maxRecDepth 100000
def ji_ (c:O_) (p:Sl) (service:Int) (w:World) (R:Int→Int→W_):Prop:=
 c.isSome=true∧∃n:Int,w.cell? ((gA c).add 0)=some (.int .u8 n)∧Br (n==2) ((0≤(4:Int)∧(4:Int)<(p.n:Int)∧p.A.isSome=true)∧∃n1:Int,w.cell? ((gA p.A).add ((4:Int).toNat*1))=some (.int .u8 n1)∧c.isSome=true∧Put ((gA c).add 4) (.int .i64 (IntKind.wrap .i64 n1)) w fun w02=>(0≤(1:Int)∧(1:Int)<(p.n:Int)∧p.A.isSome=true)∧∃n2:Int,w02.cell? ((gA p.A).add ((1:Int).toNat*1))=some (.int .u8 n2)∧c.isSome=true∧Put ((gA c).add 1) (.bool ((bz_ .u8 n2 1)==1)) w02 fun w03=>R (-1) 0 w03) (Br (n==3) (∀w05,w05=w.drew→∃S:W_,S w05∧(0≤(1:Int)∧(1:Int)<(p.n:Int)∧p.A.isSome=true)∧∃n3:Int,(∀u,S u→u.cell? ((gA p.A).add ((1:Int).toNat*1))=some (.int .u8 n3))∧(0≤(2:Int)∧(2:Int)<(p.n:Int)∧p.A.isSome=true)∧∃n4:Int,(∀u1,S u1→u1.cell? ((gA p.A).add ((2:Int).toNat*1))=some (.int .u8 n4))∧bh_ p 3 2 w05 fun n5 w06=>S w06∧c.isSome=true∧Put ((gA c).add 8) (.bool ((bz_ .u8 n3 1)==1)) w06 fun w07=>c.isSome=true∧Put ((gA c).add 9) (.int .u8 n4) w07 fun w08=>c.isSome=true∧Put ((gA c).add 4) (.int .i64 (IntKind.wrap .i64 n5)) w08 fun w09=>c.isSome=true∧∃b:Bool,w09.cell? ((gA c).add 8)=some (.bool b)∧((!b)=true→c.isSome=true)∧∃n6:Int,((!b)=true→w09.cell? ((gA c).add 9)=some (.int .u8 n6))∧Br ((!b)&&(n6 != 0)) (R 2 7 w09) (R (-1) 0 w09)) (aR_ (fun(x:Bool) (w010:World)=>Br x (c.isSome=true∧Put ((gA c).add 1) (.bool ((p.n:Int)==10)) w010 fun w012=>(0≤(4:Int)∧(4:Int)<(p.n:Int)∧p.A.isSome=true)∧∃n7:Int,w012.cell? ((gA p.A).add ((4:Int).toNat*1))=some (.int .u8 n7)∧c.isSome=true∧Put ((gA c).add 4) (.int .i64 (IntKind.wrap .i64 n7)) w012 fun w013=>c.isSome=true∧∃b1:Bool,w013.cell? ((gA c).add 1)=some (.bool b1)∧aR_ (fun(w014:World)=>c.isSome=true∧∃n8:Int,w014.cell? ((gA c).add 0)=some (.int .u8 n8)∧Br (n8==5) (∀w016,w016=w014.drew→∃S1:W_,S1 w016∧(0≤(2:Int)∧(2:Int)<(p.n:Int)∧p.A.isSome=true)∧∃n9:Int,(∀u2,S1 u2→u2.cell? ((gA p.A).add ((2:Int).toNat*1))=some (.int .u8 n9))∧(0≤(2:Int)∧(2:Int)<(p.n:Int)∧p.A.isSome=true)∧∃n10:Int,(∀u3,S1 u3→u3.cell? ((gA p.A).add ((2:Int).toNat*1))=some (.int .u8 n10))∧c.isSome=true∧Put ((gA c).add 10) (.int .u8 (bK_ .u8 n9 6)) w016 fun w017=>c.isSome=true∧Put ((gA c).add 9) (.int .u8 (bz_ .u8 n10 63)) w017 fun w018=>R (-1) 0 w018) ((0≤(1:Int)∧(1:Int)<(p.n:Int)∧p.A.isSome=true)∧∃n11:Int,w014.cell? ((gA p.A).add ((1:Int).toNat*1))=some (.int .u8 n11)∧c.isSome=true∧Put ((gA c).add 11) (.bool ((bz_ .u8 n11 1)==1)) w014 fun w019=>(0≤(1:Int)∧(1:Int)<(p.n:Int)∧p.A.isSome=true)∧∃n12:Int,w019.cell? ((gA p.A).add ((1:Int).toNat*1))=some (.int .u8 n12)∧Br ((bz_ .u8 n12 16)==0) (R 1 4 w019) (R (-1) 0 w019))) fun J_=>Br b1 (bh_ p 7 2 w013 fun n13 w020=>c.isSome=true∧Put ((gA c).add 4) (.int .i64 (IntKind.wrap .i64 n13)) w020 fun w021=>J_ w021) (J_ w013)) (Br (n==6) (c.isSome=true∧Put ((gA c).add 1) (.bool ((p.n:Int)==16)) w010 fun w023=>c.isSome=true∧∃b2:Bool,w023.cell? ((gA c).add 1)=some (.bool b2)∧Br b2 (bh_ p 10 4 w023 fun n14 w025=>c.isSome=true∧Put ((gA c).add 4) (.int .i64 (IntKind.wrap .i64 n14)) w025 fun w026=>R (-1) 0 w026) (R (-1) 0 w023)) (aR_ (fun(x1:Bool) (w027:World)=>Br x1 (jC_ c p w027 fun n15 n16 w029=>R n15 n16 w029) (Br (n==13) (bh_ p 7 2 w027 fun n17 w031=>c.isSome=true∧Put ((gA c).add 4) (.int .i64 (IntKind.wrap .i64 n17)) w031 fun w032=>R (-1) 0 w032) (Br (n==14) (∀w034,w034=w027.drew→∃S2:W_,S2 w034∧(0≤(13:Int)∧(13:Int)<(p.n:Int)∧p.A.isSome=true)∧∃n18:Int,(∀u4,S2 u4→u4.cell? ((gA p.A).add ((13:Int).toNat*1))=some (.int .u8 n18))∧bh_ p 2 8 w034 fun n19 w035=>S2 w035∧c.isSome=true∧Put ((gA c).add 2) (.int .u64 n19) w035 fun w036=>c.isSome=true∧Put ((gA c).add 3) (.int .u64 (IntKind.wrap .u64 n18)) w036 fun w037=>∀w038,w038=w037.drew→∃S3:W_,S3 w038∧(0≤(1:Int)∧(1:Int)<(p.n:Int)∧p.A.isSome=true)∧∃n20:Int,(∀u5,S3 u5→u5.cell? ((gA p.A).add ((1:Int).toNat*1))=some (.int .u8 n20))∧(0≤(1:Int)∧(1:Int)<(p.n:Int)∧p.A.isSome=true)∧∃n21:Int,(∀u6,S3 u6→u6.cell? ((gA p.A).add ((1:Int).toNat*1))=some (.int .u8 n21))∧c.isSome=true∧Put ((gA c).add 6) (.int .u8 (bK_ .u8 n20 5)) w038 fun w039=>c.isSome=true∧Put ((gA c).add 5) (.bool ((bz_ .u8 n21 8) != 0)) w039 fun w040=>R (-1) 0 w040) (Br (n==15) (bh_ p 7 2 w027 fun n22 w042=>c.isSome=true∧Put ((gA c).add 12) (.int .u8 service) w042 fun w043=>c.isSome=true∧Put ((gA c).add 4) (.int .i64 (IntKind.wrap .i64 n22)) w043 fun w044=>R (-1) 0 w044) (Br (n==16) (∀w046,w046=w027.drew→∃S4:W_,S4 w046∧(0≤(2:Int)∧(2:Int)<(p.n:Int)∧p.A.isSome=true)∧∃n23:Int,(∀u7,S4 u7→u7.cell? ((gA p.A).add ((2:Int).toNat*1))=some (.int .u8 n23))∧bh_ p 5 4 w046 fun n24 w047=>S4 w047∧c.isSome=true∧Put ((gA c).add 12) (.int .u8 service) w047 fun w048=>c.isSome=true∧Put ((gA c).add 13) (.int .u8 (bz_ .u8 n23 15)) w048 fun w049=>c.isSome=true∧Put ((gA c).add 4) (.int .i64 (IntKind.wrap .i64 n24)) w049 fun w050=>R (-1) 0 w050) (Br (n==17) (∀w052,w052=w027.drew→∃S5:W_,S5 w052∧(0≤(2:Int)∧(2:Int)<(p.n:Int)∧p.A.isSome=true)∧∃n25:Int,(∀u8,S5 u8→u8.cell? ((gA p.A).add ((2:Int).toNat*1))=some (.int .u8 n25))∧bh_ p 6 4 w052 fun n26 w053=>S5 w053∧c.isSome=true∧Put ((gA c).add 9) (.int .u8 n25) w053 fun w054=>c.isSome=true∧Put ((gA c).add 4) (.int .i64 (IntKind.wrap .i64 n26)) w054 fun w055=>c.isSome=true∧∃n27:Int,w055.cell? ((gA c).add 9)=some (.int .u8 n27)∧Br (n27==3) (R 2 1 w055) (R (-1) 0 w055)) (Br (n==18) (bh_ p 10 4 w027 fun n28 w057=>c.isSome=true∧Put ((gA c).add 4) (.int .i64 (IntKind.wrap .i64 n28)) w057 fun w058=>R (-1) 0 w058) (R (-1) 0 w027)))))))) fun J_1=>Br (n==7) (J_1 (n==7) w010) (Br (n==8) (J_1 (n==8) w010) (Br (n==9) (J_1 (n==9) w010) (Br (n==10) (J_1 (n==10) w010) (Br (n==11) (J_1 (n==11) w010) (J_1 (n==12) w010)))))))) fun J_2=>Br (n==4) (J_2 (n==4) w) (J_2 (n==5) w)))
theorem ji_.calls (c:O_) (p:Sl) (service:Int) (w:World) (R:Int→Int→W_) (h:ji_ c p service w R):lj_ c p service w R:=
 ac_ (ai_ af_) ay_ Tryz.func85 [(46,⟨[],[0,1]⟩),(79,⟨[(140,.b)],[0,1,2,14]⟩),(34,⟨[(66,.b)],[0,1,2,8,14]⟩)] [.i .i64,.i .i64] [.pointer c,.slice p.A p.n p.c,.int .u8 service] w R (Eq.mp (show ji_ c p service w R=vcF Tryz.prog G Tryz.f85 [(46,⟨[],[0,1]⟩),(79,⟨[(140,.b)],[0,1,2,14]⟩),(34,⟨[(66,.b)],[0,1,2,8,14]⟩)] [.i .i64,.i .i64] [.pointer c,.slice p.A p.n p.c,.int .u8 service] w R by kernel_rfl) h)
def dw_ (q:O_) (nexus:Int) (w:World) (R:Int→W_):Prop:=
 e3_ q nexus w fun b w0=>Br (!b) (R (-1) w0) (q.isSome=true∧(0≤nexus∧nexus<(8:Int))∧∃xs:Sl,w0.cell? (((gA q).add 0).add (nexus.toNat*1))=some (.slice xs.A xs.n xs.c)∧∃(I:Int→Int→W_) (μ:Int→Int→World→Nat),I (-1) 0 w0∧∀(best:Int) (x:Int) (w01:World),I best x w01→Br (decide (x<(xs.n:Int))) (aR_ (fun(best1:Int) (w02:World)=>I best1 (IntKind.wrap .i64 (x+1)) w02∧μ best1 (IntKind.wrap .i64 (x+1)) w02<μ best x w01) fun J_=>(0≤x∧x<(xs.n:Int)∧xs.A.isSome=true)∧∃n:Int,w01.cell? ((gA xs.A).add (x.toNat*1))=some (.int .u16 n)∧∀w03,w03=w01.drew→∃S:W_,S w03∧((!(decide (best<0)))=true→q.isSome=true)∧((!(decide (best<0)))=true→(0≤nexus∧nexus<(8:Int)))∧∃xs1:Sl,((!(decide (best<0)))=true→(∀u,S u→u.cell? (((gA q).add 0).add (nexus.toNat*1))=some (.slice xs1.A xs1.n xs1.c)))∧((!(decide (best<0)))=true→(0≤best∧best<(xs1.n:Int)∧xs1.A.isSome=true))∧∃n1:Int,((!(decide (best<0)))=true→(∀u1,S u1→u1.cell? ((gA xs1.A).add (best.toNat*1))=some (.int .u16 n1)))∧bB_ (fun(n2:Int) (w04:World)=>S w04∧bB_ (fun(n3:Int) (w05:World)=>Br ((decide (best<0))||(decide (n2<n3))) (J_ x w05) (J_ best w05)) fun J_1=>((!(decide (best<0)))=true→ih_ n1 w04 J_1)∧((!(decide (best<0)))=false→J_1 (Kd.dflt (.i .i64)) w04)) fun J_2=>((!(decide (best<0)))=true→ih_ n w03 J_2)∧((!(decide (best<0)))=false→J_2 (Kd.dflt (.i .i64)) w03)) (R best w01))
theorem dw_.calls (q:O_) (nexus:Int) (w:World) (R:Int→W_) (h:dw_ q nexus w R):dl_ q nexus w R:=
 ac_ (ai_ af_) ay_ Tryz.func86 [(15,⟨[(5,.i .i64),(20,.i .i64)],[0,1,18,19]⟩),(5,⟨[(5,.i .i64)],[0,1,18,19,20]⟩)] [.i .i64] [.pointer q,.int .i64 nexus] w R (Eq.mp (show dw_ q nexus w R=vcF Tryz.prog G Tryz.f86 [(15,⟨[(5,.i .i64),(20,.i .i64)],[0,1,18,19]⟩),(5,⟨[(5,.i .i64)],[0,1,18,19,20]⟩)] [.i .i64] [.pointer q,.int .i64 nexus] w R by kernel_rfl) h)
def e8_ (t:O_) (nexus:Int) (w:World) (R:Bool→W_):Prop:=
 ((!((t).isNone))=true→t.isSome=true)∧∃n:Int,((!((t).isNone))=true→w.cell? ((gA t).add 2)=some (.int .u8 n))∧Br (((t).isNone)||(n==0)) (R false w) (t.isSome=true∧∃n1:Int,w.cell? ((gA t).add 2)=some (.int .u8 n1)∧eT_ n1 w fun b w0=>Br b (cF_ t nexus w0 fun n2 b1 w01=>R b1 w01) (t.isSome=true∧∃n3:Int,w0.cell? ((gA t).add 3)=some (.int .i64 n3)∧R (n3==nexus) w0))
theorem e8_.calls (t:O_) (nexus:Int) (w:World) (R:Bool→W_) (h:e8_ t nexus w R):dm_ t nexus w R:=
 ac_ (ai_ af_) ay_ Tryz.func87 [] [.b] [.pointer t,.int .i64 nexus] w R (Eq.mp (show e8_ t nexus w R=vcF Tryz.prog G Tryz.f87 [] [.b] [.pointer t,.int .i64 nexus] w R by kernel_rfl) h)
def eQ_ (t:O_) (nexus:Int) (w:World) (R:Int→Bool→W_):Prop:=
 t.isSome=true∧∃xs:Sl,w.cell? ((gA t).add 0)=some (.slice xs.A xs.n xs.c)∧∃(I:Int→W_) (μ:Int→World→Nat),I 0 w∧∀(x:Int) (w0:World),I x w0→Br (decide (x<(xs.n:Int))) ((0≤x∧x<(xs.n:Int)∧xs.A.isSome=true)∧∃g:A_,(loadVar 97 ((gA xs.A).add (x.toNat*2))).run Tryz.prog w0=.ok (.agg g) w0∧New (.cells #[.int .i64 0,.int .u64 0] 97) w0 fun r w01=>ah_ Tryz.prog (storeVar 97 r (.agg g)) w01 fun w02=>∃n:Int,w02.cell? (r.add 0)=some (.int .i64 n)∧Br (n==nexus) (∃n1:Int,w02.cell? (r.add 1)=some (.int .u64 n1)∧R n1 true w02) (I (IntKind.wrap .i64 (x+1)) w02∧μ (IntKind.wrap .i64 (x+1)) w02<μ x w0)) (R 0 false w0)
theorem eQ_.calls (t:O_) (nexus:Int) (w:World) (R:Int→Bool→W_) (h:eQ_ t nexus w R):cF_ t nexus w R:=
 ac_ (ai_ af_) ay_ Tryz.func88 [(6,⟨[(13,.i .i64)],[1,11,12]⟩)] [.i .u64,.b] [.pointer t,.int .i64 nexus] w R (Eq.mp (show eQ_ t nexus w R=vcF Tryz.prog G Tryz.f88 [(6,⟨[(13,.i .i64)],[1,11,12]⟩)] [.i .u64,.b] [.pointer t,.int .i64 nexus] w R by kernel_rfl) h)
def kw_ (p:Sl) (alloc:Int) (w:World) (R:Sl→W_):Prop:=
 (0≤(0:Int)∧(0:Int)≤(mn (mx alloc 0) (p.n:Int))∧(mn (mx alloc 0) (p.n:Int))≤(p.c:Int)∧p.n≤p.c)∧an_ Tryz.prog .sl (Builtin.append_ #[33,33] 33 #[.slice none 0 0,.slice (aM_ p.A p.c 0 1) ((mn (mx alloc 0) (p.n:Int)).toNat-0) (p.c-0)]) w fun xs w0=>R xs w0
theorem kw_.calls (p:Sl) (alloc:Int) (w:World) (R:Sl→W_) (h:kw_ p alloc w R):cG_ p alloc w R:=
 ac_ (ai_ af_) ay_ Tryz.func89 [] [.sl] [.slice p.A p.n p.c,.int .i64 alloc] w R (Eq.mp (show kw_ p alloc w R=vcF Tryz.prog G Tryz.f89 [] [.sl] [.slice p.A p.n p.c,.int .i64 alloc] w R by kernel_rfl) h)
def d5_ (m:O_) (c:A_) (w:World) (R:Sl→(A_)→Bool→W_):Prop:=
 New (.cells c 135) w fun c1 w0=>New (.cells #[.int .u8 0,.int .u16 0,.int .u64 0,.bool false,.int .i64 0,.int .i64 0,.bool false,.bool false] 32) w0 fun a w01=>bm_ m w01 fun g w02=>New (.cells #[.bool false,.bool false,.bool false] 142) w02 fun v w03=>ah_ Tryz.prog (storeVar 142 v (.agg g)) w03 fun w04=>∃n:Int,w04.cell? (c1.add 10)=some (.int .u8 n)∧aR_ (fun(w05:World)=>∃n1:Int,w05.cell? (c1.add 9)=some (.int .u8 n1)∧∃n2:Int,((!(n1==8))=true→w05.cell? (c1.add 9)=some (.int .u8 n2))∧aR_ (fun(body:Sl) (w06:World)=>∃n3:Int,w06.cell? (c1.add 9)=some (.int .u8 n3)∧∃n4:Int,((!(n3==10))=true→w06.cell? (c1.add 9)=some (.int .u8 n4))∧aR_ (fun(body1:Sl) (w07:World)=>Br body1.A.isNone (et_ 2 5 true w07 fun g1 w08=>ah_ Tryz.prog (storeVar 32 a (.agg g1)) w08 fun w09=>∃res:A_,(loadVar 32 a).run Tryz.prog w09=.ok (.agg res) w09∧R (⟨none,0,0⟩:Sl) res false w09) (bm_ m w07 fun g2 w010=>∃b:Bool,g2[2]?=some (.bool b)∧aR_ (fun(dev:Int) (w011:World)=>an_ Tryz.prog .sl (Instr.buildSlice 33 4 #[(0,.int .u8 (IntKind.wrap .u8 (IntKind.wrap .i64 (3+(body1.n:Int))))),(1,.int .u8 0),(2,.int .u8 dev),(3,.int .u8 0)]) w011 fun xs w012=>∃b1:Bool,w012.cell? (c1.add 1)=some (.bool b1)∧aR_ (fun(head:Sl) (w013:World)=>an_ Tryz.prog .sl (Builtin.append_ #[33,33] 33 #[.slice head.A head.n head.c,.slice body1.A body1.n body1.c]) w013 fun xs1 w014=>ah_ Tryz.prog (storeVar 32 a (.agg #[.int .u8 0,.int .u16 0,.int .u64 0,.bool false,.int .i64 0,.int .i64 0,.bool false,.bool false])) w014 fun w015=>∃res1:A_,(loadVar 32 a).run Tryz.prog w015=.ok (.agg res1) w015∧R xs1 res1 true w015) fun J_=>Br b1 (an_ Tryz.prog .sl (Instr.buildSlice 33 8 #[(0,.int .u8 0),(1,.int .u8 (IntKind.wrap .u8 (IntKind.wrap .i64 (6+(body1.n:Int))))),(2,.int .u8 0),(3,.int .u8 dev),(4,.int .u8 0),(5,.int .u8 0),(6,.int .u8 0),(7,.int .u8 0)]) w012 fun xs2 w016=>J_ xs2 w016) (J_ xs w012)) fun J_1=>Br b (J_1 (bOr .u8 16 128) w010) (J_1 16 w010))) fun J_2=>Br ((n3==10)||(n4==63)) (∃g3:A_,(loadVar 142 v).run Tryz.prog w06=.ok (.agg g3) w06∧f8_ g3 w06 fun xs3 w017=>an_ Tryz.prog .sl (Builtin.append_ #[33,33] 33 #[.slice body.A body.n body.c,.slice xs3.A xs3.n xs3.c]) w017 fun xs4 w018=>J_2 xs4 w018) (J_2 body w06)) fun J_3=>Br ((n1==8)||(n2==63)) (∃g4:A_,(loadVar 142 v).run Tryz.prog w05=.ok (.agg g4) w05∧f7_ g4 w05 fun xs5 w019=>an_ Tryz.prog .sl (Builtin.append_ #[33,33] 33 #[.slice none 0 0,.slice xs5.A xs5.n xs5.c]) w019 fun xs6 w020=>J_3 xs6 w020) (J_3 (⟨none,0,0⟩:Sl) w05)) fun J_4=>Br (n==1) (ah_ Tryz.prog (storeVar 142 v (.agg #[.bool true,.bool true,.bool true])) w04 fun w022=>J_4 w022) (Br (n==2) (df_  w04 fun g5 w024=>ah_ Tryz.prog (storeVar 142 v (.agg g5)) w024 fun w025=>J_4 w025) (Br (n==3) (dT_ m w04 fun g6 w027=>ah_ Tryz.prog (storeVar 142 v (.agg g6)) w027 fun w028=>J_4 w028) (J_4 w04)))
theorem d5_.calls (m:O_) (c:A_) (w:World) (R:Sl→(A_)→Bool→W_) (h:d5_ m c w R):cJ_ m c w R:=
 ac_ (ai_ af_) ay_ Tryz.func93 [(64,⟨[(10,.sl)],[5,8]⟩),(55,⟨[(9,.i .u8)],[3,5,8]⟩),(40,⟨[(8,.sl)],[0,3,5]⟩),(34,⟨[(8,.sl)],[0,3,5,7]⟩),(2,⟨[],[0,3,5,7]⟩)] [.sl,.ag,.b] [.pointer m,.agg c] w R (Eq.mp (show d5_ m c w R=vcF Tryz.prog G Tryz.f93 [(64,⟨[(10,.sl)],[5,8]⟩),(55,⟨[(9,.i .u8)],[3,5,8]⟩),(40,⟨[(8,.sl)],[0,3,5]⟩),(34,⟨[(8,.sl)],[0,3,5,7]⟩),(2,⟨[],[0,3,5,7]⟩)] [.sl,.ag,.b] [.pointer m,.agg c] w R by kernel_rfl) h)
def fF_ (u:O_) (nexus:Int) (c:A_) (p:Sl) (w:World) (R:(A_)→W_):Prop:=
 New (.cells c 135) w fun c1 w0=>New (.cells #[.int .u8 0,.int .u8 0,.int .u16 0,.int .u64 0,.bool false,.int .i64 0,.int .i64 0,.bool false,.bool false,.slice none 0 0] 35) w0 fun a w01=>∃n:Int,w01.cell? (c1.add 4)=some (.int .i64 n)∧Br ((p.n:Int) != n) (aS_ #[.int .u8 5,.int .u16 6656,.int .u64 0,.bool false,.int .i64 0,.int .i64 0,.bool false,.bool false] w01 fun g w02=>ah_ Tryz.prog (storeVar 35 a (.agg g)) w02 fun w03=>∃res:A_,(loadVar 35 a).run Tryz.prog w03=.ok (.agg res) w03∧R res w03) (∀w04,w04=w01.drew→∃S:W_,S w04∧u.isSome=true∧∃p1:O_,(∀u1,S u1→u1.cell? ((gA u).add 7)=some (.pointer p1))∧∃g1:A_,(∀u2,S u2→(loadVar 135 c1).run Tryz.prog u2=.ok (.agg g1) u2)∧(dn_ p1 g1 p w04 fun b g2 b1 w05=>New (.cells #[.int .u8 0,.int .u16 0,.int .u64 0,.bool false,.int .i64 0,.int .i64 0,.bool false,.bool false] 32) w05 fun s w06=>S w06∧ah_ Tryz.prog (storeVar 32 s (.agg g2)) w06 fun w07=>Br (!b1) (∃g3:A_,(loadVar 32 s).run Tryz.prog w07=.ok (.agg g3) w07∧aS_ g3 w07 fun g4 w08=>ah_ Tryz.prog (storeVar 35 a (.agg g4)) w08 fun w09=>∃res1:A_,(loadVar 35 a).run Tryz.prog w09=.ok (.agg res1) w09∧R res1 w09) (∀w010,w010=w07.drew→∃S1:W_,S1 w010∧u.isSome=true∧∃p2:O_,(∀u3,S1 u3→u3.cell? ((gA u).add 5)=some (.pointer p2))∧p2.isSome=true∧∃p3:O_,(∀u4,S1 u4→u4.cell? ((gA p2).add 0)=some (.pointer p3))∧u.isSome=true∧∃p4:O_,(∀u5,S1 u5→u5.cell? ((gA u).add 7)=some (.pointer p4))∧bm_ p4 w010 fun g5 w011=>S1 w011∧∃S2:W_,S2 w011∧(∀u6,S2 u6→S1 u6)∧∃b2:Bool,(∀u7,S2 u7→g5[0]?=some (.bool b2))∧bD_ p3 b2 w011 fun w012=>aR_ (fun(w013:World)=>∃b3:Bool,w013.cell? (c1.add 11)=some (.bool b3)∧bB_ (fun(b4:Bool) (w014:World)=>Br ((b3&&(decide ((p.n:Int)>0)))&&(!b4)) (aS_ #[.int .u8 3,.int .u16 3072,.int .u64 0,.bool false,.int .i64 0,.int .i64 0,.bool false,.bool false] w014 fun g6 w015=>ah_ Tryz.prog (storeVar 35 a (.agg g6)) w015 fun w016=>∃res2:A_,(loadVar 35 a).run Tryz.prog w016=.ok (.agg res2) w016∧R res2 w016) (ah_ Tryz.prog (storeVar 35 a (.agg #[.int .u8 0,.int .u8 0,.int .u16 0,.int .u64 0,.bool false,.int .i64 0,.int .i64 0,.bool false,.bool false,.slice none 0 0])) w014 fun w017=>∃res3:A_,(loadVar 35 a).run Tryz.prog w017=.ok (.agg res3) w017∧R res3 w017)) fun J_=>((b3&&(decide ((p.n:Int)>0)))=true→bW_ u w013 J_)∧((b3&&(decide ((p.n:Int)>0)))=false→J_ (Kd.dflt .b) w013)) fun J_1=>Br b (u.isSome=true∧∃p5:O_,w012.cell? ((gA u).add 9)=some (.pointer p5)∧co_ p5 nexus 10753 w012 fun w018=>J_1 w018) (J_1 w012)))∧New (.cells #[.int .u8 0,.int .u16 0,.int .u64 0,.bool false,.int .i64 0,.int .i64 0,.bool false,.bool false] 32) w04 fun s1 w019=>S w019∧dn_ p1 g1 p w019 fun b5 g7 b6 w020=>ah_ Tryz.prog (storeVar 32 s1 (.agg g7)) w020 fun w021=>Br (!b6) (∃g8:A_,(loadVar 32 s1).run Tryz.prog w021=.ok (.agg g8) w021∧aS_ g8 w021 fun g9 w022=>ah_ Tryz.prog (storeVar 35 a (.agg g9)) w022 fun w023=>∃res4:A_,(loadVar 35 a).run Tryz.prog w023=.ok (.agg res4) w023∧R res4 w023) (∀w024,w024=w021.drew→∃S3:W_,S3 w024∧u.isSome=true∧∃p6:O_,(∀u8,S3 u8→u8.cell? ((gA u).add 5)=some (.pointer p6))∧p6.isSome=true∧∃p7:O_,(∀u9,S3 u9→u9.cell? ((gA p6).add 0)=some (.pointer p7))∧u.isSome=true∧∃p8:O_,(∀u10,S3 u10→u10.cell? ((gA u).add 7)=some (.pointer p8))∧bm_ p8 w024 fun g10 w025=>S3 w025∧∃S4:W_,S4 w025∧(∀u11,S4 u11→S3 u11)∧∃b7:Bool,(∀u12,S4 u12→g10[0]?=some (.bool b7))∧bD_ p7 b7 w025 fun w026=>aR_ (fun(w027:World)=>∃b8:Bool,w027.cell? (c1.add 11)=some (.bool b8)∧bB_ (fun(b9:Bool) (w028:World)=>Br ((b8&&(decide ((p.n:Int)>0)))&&(!b9)) (aS_ #[.int .u8 3,.int .u16 3072,.int .u64 0,.bool false,.int .i64 0,.int .i64 0,.bool false,.bool false] w028 fun g11 w029=>ah_ Tryz.prog (storeVar 35 a (.agg g11)) w029 fun w030=>∃res5:A_,(loadVar 35 a).run Tryz.prog w030=.ok (.agg res5) w030∧R res5 w030) (ah_ Tryz.prog (storeVar 35 a (.agg #[.int .u8 0,.int .u8 0,.int .u16 0,.int .u64 0,.bool false,.int .i64 0,.int .i64 0,.bool false,.bool false,.slice none 0 0])) w028 fun w031=>∃res6:A_,(loadVar 35 a).run Tryz.prog w031=.ok (.agg res6) w031∧R res6 w031)) fun J_2=>((b8&&(decide ((p.n:Int)>0)))=true→bW_ u w027 J_2)∧((b8&&(decide ((p.n:Int)>0)))=false→J_2 (Kd.dflt .b) w027)) fun J_3=>Br b5 (u.isSome=true∧∃p9:O_,w026.cell? ((gA u).add 9)=some (.pointer p9)∧co_ p9 nexus 10753 w026 fun w032=>J_3 w032) (J_3 w026)))
theorem fF_.calls (u:O_) (nexus:Int) (c:A_) (p:Sl) (w:World) (R:(A_)→W_) (h:fF_ u nexus c p w R):ei_ u nexus c p w R:=
 ac_ (ai_ af_) ay_ Tryz.func94 [(25,⟨[],[0,3,6,8]⟩),(25,⟨[],[0,3,6,8]⟩)] [.ag] [.pointer u,.int .i64 nexus,.agg c,.slice p.A p.n p.c] w R (Eq.mp (show fF_ u nexus c p w R=vcF Tryz.prog G Tryz.f94 [(25,⟨[],[0,3,6,8]⟩),(25,⟨[],[0,3,6,8]⟩)] [.ag] [.pointer u,.int .i64 nexus,.agg c,.slice p.A p.n p.c] w R by kernel_rfl) h)
def fG_ (u:O_) (nexus:Int) (c:A_) (p:Sl) (w:World) (R:(A_)→W_):Prop:=
 New (.cells c 135) w fun c1 w0=>New (.cells #[.int .u8 0,.int .u8 0,.int .u16 0,.int .u64 0,.bool false,.int .i64 0,.int .i64 0,.bool false,.bool false,.slice none 0 0] 35) w0 fun a w01=>∃n:Int,w01.cell? (c1.add 4)=some (.int .i64 n)∧Br ((n != 24)||((p.n:Int) != 24)) (aS_ #[.int .u8 5,.int .u16 6656,.int .u64 0,.bool false,.int .i64 0,.int .i64 0,.bool false,.bool false] w01 fun g w02=>ah_ Tryz.prog (storeVar 35 a (.agg g)) w02 fun w03=>∃res:A_,(loadVar 35 a).run Tryz.prog w03=.ok (.agg res) w03∧R res w03) (an_ Tryz.prog .sl (Instr.buildSlice 33 21 #[(0,.int .u8 255),(1,.int .u8 255),(2,.int .u8 255),(3,.int .u8 255),(4,.int .u8 255),(5,.int .u8 255),(6,.int .u8 255),(7,.int .u8 255),(8,.int .u8 255),(9,.int .u8 255),(10,.int .u8 255),(11,.int .u8 255),(12,.int .u8 255),(13,.int .u8 255),(14,.int .u8 255),(15,.int .u8 255),(16,.int .u8 0),(17,.int .u8 0),(18,.int .u8 0),(19,.int .u8 0),(20,.int .u8 1)]) w01 fun xs w04=>lQ_ p xs w04 fun n1 n2 w05=>Br (decide (n1≥0)) (aS_ #[.int .u8 5,.int .u16 9728,.int .u64 0,.bool false,.int .i64 n1,.int .i64 n2,.bool true,.bool false] w05 fun g1 w06=>ah_ Tryz.prog (storeVar 35 a (.agg g1)) w06 fun w07=>∃res1:A_,(loadVar 35 a).run Tryz.prog w07=.ok (.agg res1) w07∧R res1 w07) (∀w08,w08=w05.drew→∃S:W_,S w08∧∃n3:Int,(∀u1,S u1→u1.cell? (c1.add 12)=some (.int .u8 n3))∧∃n4:Int,(∀u2,S u2→u2.cell? (c1.add 13)=some (.int .u8 n4))∧(0≤(20:Int)∧(20:Int)<(p.n:Int)∧p.A.isSome=true)∧∃n5:Int,(∀u3,S u3→u3.cell? ((gA p.A).add ((20:Int).toNat*1))=some (.int .u8 n5))∧New (.cells #[.int .u8 0,.int .u8 0,.int .u64 0,.int .u64 0,.bool false] 260) w08 fun o w09=>S w09∧ah_ Tryz.prog (storeVar 260 o (.agg #[.int .u8 n3,.int .u8 n4,.int .u64 0,.int .u64 0,.bool (n5==1)])) w09 fun w010=>fB_ p 0 8 w010 fun n6 n7 w011=>Put (o.add 2) (.int .u64 n6) w011 fun w012=>fB_ p 8 8 w012 fun n8 n9 w013=>Put (o.add 3) (.int .u64 n8) w013 fun w014=>u.isSome=true∧∃p1:O_,w014.cell? ((gA u).add 8)=some (.pointer p1)∧e4_ p1 w014 fun b w015=>∀w016,w016=w015.drew→∃S1:W_,S1 w016∧u.isSome=true∧∃p2:O_,(∀u4,S1 u4→u4.cell? ((gA u).add 8)=some (.pointer p2))∧∃g2:A_,(∀u5,S1 u5→(loadVar 260 o).run Tryz.prog u5=.ok (.agg g2) u5)∧iK_ p2 nexus g2 w016 fun n10 n11 xs1 w017=>Br (n10 != 0) (New (.cells #[.int .u8 0,.int .u8 0,.int .u16 0,.int .u64 0,.bool false,.int .i64 0,.int .i64 0,.bool false,.bool false,.slice none 0 0] 35) w017 fun r w018=>ah_ Tryz.prog (storeVar 35 r (.agg #[.int .u8 n10,.int .u8 0,.int .u16 0,.int .u64 0,.bool false,.int .i64 0,.int .i64 0,.bool false,.bool false,.slice none 0 0])) w018 fun w019=>aR_ (fun(w020:World)=>∃g3:A_,(loadVar 35 r).run Tryz.prog w020=.ok (.agg g3) w020∧ah_ Tryz.prog (storeVar 35 a (.agg g3)) w020 fun w021=>∃res2:A_,(loadVar 35 a).run Tryz.prog w021=.ok (.agg res2) w021∧R res2 w021) fun J_=>Br (n10==2) (ah_ Tryz.prog (storeVar 32 (r.add 1) (.agg #[.int .u8 5,.int .u16 n11,.int .u64 0,.bool false,.int .i64 0,.int .i64 0,.bool false,.bool false])) w019 fun w022=>J_ w022) (J_ w019)) (∃(I:Int→W_) (μ:Int→World→Nat),I 0 w017∧∀(x:Int) (w023:World),I x w023→Br (decide (x<(xs1.n:Int))) ((0≤x∧x<(xs1.n:Int)∧xs1.A.isSome=true)∧∃g4:A_,(loadVar 265 ((gA xs1.A).add (x.toNat*2))).run Tryz.prog w023=.ok (.agg g4) w023∧New (.cells #[.int .i64 0,.int .u16 0] 265) w023 fun e w024=>ah_ Tryz.prog (storeVar 265 e (.agg g4)) w024 fun w025=>∀w026,w026=w025.drew→∃S2:W_,S2 w026∧u.isSome=true∧∃p3:O_,(∀u6,S2 u6→u6.cell? ((gA u).add 9)=some (.pointer p3))∧∃n12:Int,(∀u7,S2 u7→u7.cell? (e.add 0)=some (.int .i64 n12))∧∃n13:Int,(∀u8,S2 u8→u8.cell? (e.add 1)=some (.int .u16 n13))∧c4_ p3 n12 n13 w026 fun w027=>I (IntKind.wrap .i64 (x+1)) w027∧μ (IntKind.wrap .i64 (x+1)) w027<μ x w023) (((!b)=true→u.isSome=true)∧∃p4:O_,((!b)=true→w023.cell? ((gA u).add 8)=some (.pointer p4))∧bB_ (fun(b1:Bool) (w028:World)=>bB_ (fun(b2:Bool) (w029:World)=>Br ((b||b1)&&(!b2)) (aS_ #[.int .u8 3,.int .u16 3072,.int .u64 0,.bool false,.int .i64 0,.int .i64 0,.bool false,.bool false] w029 fun g5 w030=>ah_ Tryz.prog (storeVar 35 a (.agg g5)) w030 fun w031=>∃res3:A_,(loadVar 35 a).run Tryz.prog w031=.ok (.agg res3) w031∧R res3 w031) (ah_ Tryz.prog (storeVar 35 a (.agg #[.int .u8 0,.int .u8 0,.int .u16 0,.int .u64 0,.bool false,.int .i64 0,.int .i64 0,.bool false,.bool false,.slice none 0 0])) w029 fun w032=>∃res4:A_,(loadVar 35 a).run Tryz.prog w032=.ok (.agg res4) w032∧R res4 w032)) fun J_1=>((b||b1)=true→bW_ u w028 J_1)∧((b||b1)=false→J_1 (Kd.dflt .b) w028)) fun J_2=>((!b)=true→e4_ p4 w023 J_2)∧((!b)=false→J_2 (Kd.dflt .b) w023)))))
theorem fG_.calls (u:O_) (nexus:Int) (c:A_) (p:Sl) (w:World) (R:(A_)→W_) (h:fG_ u nexus c p w R):ej_ u nexus c p w R:=
 ac_ (ai_ af_) ay_ Tryz.func96 [(46,⟨[],[8,17]⟩),(54,⟨[(92,.i .i64)],[0,8,13,90,91]⟩)] [.ag] [.pointer u,.int .i64 nexus,.agg c,.slice p.A p.n p.c] w R (Eq.mp (show fG_ u nexus c p w R=vcF Tryz.prog G Tryz.f96 [(46,⟨[],[8,17]⟩),(54,⟨[(92,.i .i64)],[0,8,13,90,91]⟩)] [.ag] [.pointer u,.int .i64 nexus,.agg c,.slice p.A p.n p.c] w R by kernel_rfl) h)
def hx_ (d:O_) (c:A_) (p:Sl) (w:World) (R:(A_)→W_):Prop:=
 New (.cells c 135) w fun c1 w0=>New (.cells #[.int .u8 0,.int .u8 0,.int .u16 0,.int .u64 0,.bool false,.int .i64 0,.int .i64 0,.bool false,.bool false,.slice none 0 0] 35) w0 fun a w01=>((!((d).isNone))=true→d.isSome=true)∧∃p1:O_,((!((d).isNone))=true→w01.cell? ((gA d).add 0)=some (.pointer p1))∧Br (((d).isNone)||((p1).isNone)) (do_ #[.int .u8 5,.int .u16 9472,.int .u64 0,.bool false,.int .i64 0,.int .i64 0,.bool false,.bool false] w01 fun g w02=>ah_ Tryz.prog (storeVar 35 a (.agg g)) w02 fun w03=>∃res:A_,(loadVar 35 a).run Tryz.prog w03=.ok (.agg res) w03∧R res w03) (∀w04,w04=w01.drew→∃S:W_,S w04∧d.isSome=true∧∃n:Int,(∀u,S u→u.cell? ((gA d).add 1)=some (.int .u8 n))∧∃n1:Int,(∀u1,S u1→u1.cell? (c1.add 6)=some (.int .u8 n1))∧lk_ n n1 w04 fun b w05=>Br (!b) (do_ #[.int .u8 5,.int .u16 9216,.int .u64 0,.bool false,.int .i64 1,.int .i64 7,.bool true,.bool true] w05 fun g1 w06=>ah_ Tryz.prog (storeVar 35 a (.agg g1)) w06 fun w07=>∃res1:A_,(loadVar 35 a).run Tryz.prog w07=.ok (.agg res1) w07∧R res1 w07) (∀w08,w08=w05.drew→∃S1:W_,S1 w08∧∃n2:Int,(∀u2,S1 u2→u2.cell? (c1.add 2)=some (.int .u64 n2))∧∃n3:Int,(∀u3,S1 u3→u3.cell? (c1.add 3)=some (.int .u64 n3))∧gO_ d w08 fun n4 w09=>S1 w09∧kn_ n2 n3 n4 w09 fun b1 w010=>S1 w010∧∃S2:W_,S2 w010∧(∀u4,S2 u4→S1 u4)∧∃n5:Int,((!b1)=true→(∀u5,S2 u5→u5.cell? (c1.add 0)=some (.int .u8 n5)))∧∃S3:W_,S3 w010∧(∀u6,S3 u6→S2 u6)∧∃n6:Int,(((!b1)&&(n5 != 13))=true→(∀u7,S3 u7→u7.cell? (c1.add 0)=some (.int .u8 n6)))∧Br (((!b1)&&(n5 != 13))&&(n6 != 6)) (∃n7:Int,w010.cell? (c1.add 2)=some (.int .u64 n7)∧lR_ 5 8448 n7 w010 fun g2 w011=>ah_ Tryz.prog (storeVar 35 a (.agg g2)) w011 fun w012=>∃res2:A_,(loadVar 35 a).run Tryz.prog w012=.ok (.agg res2) w012∧R res2 w012) (∃n8:Int,w010.cell? (c1.add 0)=some (.int .u8 n8)∧aR_ (fun(w013:World)=>do_ #[.int .u8 5,.int .u16 8192,.int .u64 0,.bool false,.int .i64 0,.int .i64 7,.bool true,.bool true] w013 fun g3 w014=>ah_ Tryz.prog (storeVar 35 a (.agg g3)) w014 fun w015=>∃res3:A_,(loadVar 35 a).run Tryz.prog w015=.ok (.agg res3) w015∧R res3 w015) fun J_=>Br (n8==7) (∃g4:A_,(loadVar 135 c1).run Tryz.prog w010=.ok (.agg g4) w010∧k3_ d g4 w010 fun xs g5 b2 w017=>New (.cells #[.int .u8 0,.int .u8 0,.int .u16 0,.int .u64 0,.bool false,.int .i64 0,.int .i64 0,.bool false,.bool false,.slice none 0 0] 35) w017 fun r w018=>ah_ Tryz.prog (storeVar 35 r (.agg g5)) w018 fun w019=>Br (!b2) (∃g6:A_,(loadVar 35 r).run Tryz.prog w019=.ok (.agg g6) w019∧ah_ Tryz.prog (storeVar 35 a (.agg g6)) w019 fun w020=>∃res4:A_,(loadVar 35 a).run Tryz.prog w020=.ok (.agg res4) w020∧R res4 w020) (∃n9:Int,w019.cell? (c1.add 6)=some (.int .u8 n9)∧mG_ xs (n9 != 0) w019 fun xs1 w021=>ja_ xs1 w021 fun g7 w022=>ah_ Tryz.prog (storeVar 35 a (.agg g7)) w022 fun w023=>∃res5:A_,(loadVar 35 a).run Tryz.prog w023=.ok (.agg res5) w023∧R res5 w023)) (aR_ (fun(x:Bool) (w024:World)=>Br x (∃g8:A_,(loadVar 135 c1).run Tryz.prog w024=.ok (.agg g8) w024∧∃n10:Int,w024.cell? (c1.add 3)=some (.int .u64 n10)∧f9_ d g8 p n10 w024 fun xs2 g9 b3 w025=>New (.cells #[.int .u8 0,.int .u8 0,.int .u16 0,.int .u64 0,.bool false,.int .i64 0,.int .i64 0,.bool false,.bool false,.slice none 0 0] 35) w025 fun r1 w026=>ah_ Tryz.prog (storeVar 35 r1 (.agg g9)) w026 fun w027=>Br (!b3) (∃g10:A_,(loadVar 35 r1).run Tryz.prog w027=.ok (.agg g10) w027∧ah_ Tryz.prog (storeVar 35 a (.agg g10)) w027 fun w028=>∃res6:A_,(loadVar 35 a).run Tryz.prog w028=.ok (.agg res6) w028∧R res6 w028) (∃n11:Int,w027.cell? (c1.add 2)=some (.int .u64 n11)∧∃b4:Bool,w027.cell? (c1.add 5)=some (.bool b4)∧∃n12:Int,((!b4)=true→w027.cell? (c1.add 0)=some (.int .u8 n12))∧jS_ d n11 xs2 (b4||(n12==9)) w027 fun g11 w029=>ah_ Tryz.prog (storeVar 35 a (.agg g11)) w029 fun w030=>∃res7:A_,(loadVar 35 a).run Tryz.prog w030=.ok (.agg res7) w030∧R res7 w030)) (Br (n8==10) (∃g12:A_,(loadVar 135 c1).run Tryz.prog w024=.ok (.agg g12) w024∧jb_ d g12 p w024 fun g13 w031=>ah_ Tryz.prog (storeVar 35 a (.agg g13)) w031 fun w032=>∃res8:A_,(loadVar 35 a).run Tryz.prog w032=.ok (.agg res8) w032∧R res8 w032) (Br (n8==11) (d.isSome=true∧∃p2:O_,w024.cell? ((gA d).add 0)=some (.pointer p2)∧fQ_ p2 w024 fun n13 w033=>Br (n13 != 0) (do_ #[.int .u8 3,.int .u16 3072,.int .u64 0,.bool false,.int .i64 0,.int .i64 0,.bool false,.bool false] w033 fun g14 w034=>ah_ Tryz.prog (storeVar 35 a (.agg g14)) w034 fun w035=>∃res9:A_,(loadVar 35 a).run Tryz.prog w035=.ok (.agg res9) w035∧R res9 w035) (ja_ ⟨none,0,0⟩ w033 fun g15 w036=>ah_ Tryz.prog (storeVar 35 a (.agg g15)) w036 fun w037=>∃res10:A_,(loadVar 35 a).run Tryz.prog w037=.ok (.agg res10) w037∧R res10 w037)) (Br (n8==12) (∃g16:A_,(loadVar 135 c1).run Tryz.prog w024=.ok (.agg g16) w024∧k4_ d g16 p w024 fun g17 w038=>ah_ Tryz.prog (storeVar 35 a (.agg g17)) w038 fun w039=>∃res11:A_,(loadVar 35 a).run Tryz.prog w039=.ok (.agg res11) w039∧R res11 w039) (Br (n8==13) (jT_ d p w024 fun g18 w040=>ah_ Tryz.prog (storeVar 35 a (.agg g18)) w040 fun w041=>∃res12:A_,(loadVar 35 a).run Tryz.prog w041=.ok (.agg res12) w041∧R res12 w041) (Br (n8==14) (∃g19:A_,(loadVar 135 c1).run Tryz.prog w024=.ok (.agg g19) w024∧iL_ d g19 p w024 fun g20 w042=>ah_ Tryz.prog (storeVar 35 a (.agg g20)) w042 fun w043=>∃res13:A_,(loadVar 35 a).run Tryz.prog w043=.ok (.agg res13) w043∧R res13 w043) (Br (n8==6) (∃g21:A_,(loadVar 135 c1).run Tryz.prog w024=.ok (.agg g21) w024∧ia_ d g21 w024 fun g22 w044=>ah_ Tryz.prog (storeVar 35 a (.agg g22)) w044 fun w045=>∃res14:A_,(loadVar 35 a).run Tryz.prog w045=.ok (.agg res14) w045∧R res14 w045) (J_ w024)))))))) fun J_1=>Br (n8==8) (J_1 (n8==8) w010) (J_1 (n8==9) w010)))))
theorem hx_.calls (d:O_) (c:A_) (p:Sl) (w:World) (R:(A_)→W_) (h:hx_ d c p w R):hr_ d c p w R:=
 ac_ (ai_ af_) ay_ Tryz.func98 [(2,⟨[],[6]⟩),(43,⟨[(75,.b)],[0,2,4,6,56]⟩)] [.ag] [.pointer d,.agg c,.slice p.A p.n p.c] w R (Eq.mp (show hx_ d c p w R=vcF Tryz.prog G Tryz.f98 [(2,⟨[],[6]⟩),(43,⟨[(75,.b)],[0,2,4,6,56]⟩)] [.ag] [.pointer d,.agg c,.slice p.A p.n p.c] w R by kernel_rfl) h)
open Go CF
set_option linter.unusedVariables false
set_option maxRecDepth 100000
open Go CF
set_option linter.unusedVariables false
set_option maxRecDepth 100000
def jZ_ (kind:Int) (w:World) (R:Bool→W_):Prop:=
 R ((kind==7)||(kind==8)) w
theorem jZ_.calls (kind:Int) (w:World) (R:Bool→W_) (h:jZ_ kind w R):eT_ kind w R:=
 ac_ (ai_ af_) ay_ Tryz.func119 [] [.b] [.int .u8 kind] w R (Eq.mp (show jZ_ kind w R=vcF Tryz.prog G Tryz.f119 [] [.b] [.int .u8 kind] w R by kernel_rfl) h)
def eD_ (q:O_) (nexus:Int) (code:Int) (w:World) (R:W_):Prop:=
 e3_ q nexus w fun b w0=>Br (!b) (R w0) (q.isSome=true∧(0≤nexus∧nexus<(8:Int))∧∃xs:Sl,w0.cell? (((gA q).add 0).add (nexus.toNat*1))=some (.slice xs.A xs.n xs.c)∧aR_ (fun(l:Sl) (w01:World)=>∃(I:Int→W_) (μ:Int→World→Nat),I 0 w01∧∀(x:Int) (w02:World),I x w02→Br (decide (x<(l.n:Int))) ((0≤x∧x<(l.n:Int)∧l.A.isSome=true)∧∃n:Int,w02.cell? ((gA l.A).add (x.toNat*1))=some (.int .u16 n)∧Br (n==code) (R w02) (I (IntKind.wrap .i64 (x+1)) w02∧μ (IntKind.wrap .i64 (x+1)) w02<μ x w02)) (Br (decide ((l.n:Int)<8)) (∀w04,w04=w02.drew→q.isSome=true∧(an_ Tryz.prog .sl (Builtin.append_ #[196,196] 196 #[.slice none 0 0,.slice l.A l.n l.c]) w04 fun xs1 w05=>an_ Tryz.prog .sl (Instr.buildSlice 196 1 #[(0,.int .u16 code)]) w05 fun xs2 w06=>an_ Tryz.prog .sl (Builtin.append_ #[196,196] 196 #[.slice xs1.A xs1.n xs1.c,.slice xs2.A xs2.n xs2.c]) w06 fun xs3 w07=>(0≤nexus∧nexus<(8:Int))∧Put (((gA q).add 0).add (nexus.toNat*1)) (.slice xs3.A xs3.n xs3.c) w07 fun w08=>R w08)∧an_ Tryz.prog .sl (Instr.buildSlice 196 1 #[(0,.int .u16 code)]) w04 fun xs4 w09=>an_ Tryz.prog .sl (Builtin.append_ #[196,196] 196 #[.slice none 0 0,.slice l.A l.n l.c]) w09 fun xs5 w010=>an_ Tryz.prog .sl (Builtin.append_ #[196,196] 196 #[.slice xs5.A xs5.n xs5.c,.slice xs4.A xs4.n xs4.c]) w010 fun xs6 w011=>(0≤nexus∧nexus<(8:Int))∧Put (((gA q).add 0).add (nexus.toNat*1)) (.slice xs6.A xs6.n xs6.c) w011 fun w012=>R w012) (R w02))) fun J_=>Br (code==10496) (J_ (⟨none,0,0⟩:Sl) w0) (J_ xs w0))
theorem eD_.calls (q:O_) (nexus:Int) (code:Int) (w:World) (R:W_) (h:eD_ q nexus code w R):c4_ q nexus code w R:=
 ac_ (ai_ af_) ay_ Tryz.func123 [(15,⟨[(23,.i .i64)],[0,1,2,6,21,22]⟩),(10,⟨[(6,.sl)],[0,1,2]⟩)] [] [.pointer q,.int .i64 nexus,.int .u16 code] w R (Eq.mp (show eD_ q nexus code w R=vcF Tryz.prog G Tryz.f123 [(15,⟨[(23,.i .i64)],[0,1,2,6,21,22]⟩),(10,⟨[(6,.sl)],[0,1,2]⟩)] [] [.pointer q,.int .i64 nexus,.int .u16 code] w R by kernel_rfl) h)
def cN_ (s:O_) (w:World) (R:Sl→Int→Int→W_):Prop:=
 Br ((s).isNone) (R (⟨none,0,0⟩:Sl) 0 8 w) (s.isSome=true∧Put ((gA s).add 2) (.bool false) w fun w0=>∃(I:Sl→Int→Int→Int→W_) (μ:Sl→Int→Int→Int→World→Nat),I (⟨none,0,0⟩:Sl) (-1) 0 0 w0∧∀(best:Sl) (at_:Int) (most:Int) (x:Int) (w01:World),I best at_ most x w01→Br (decide (x<2)) (aR_ (fun(best1:Sl) (at_1:Int) (most1:Int) (w02:World)=>I best1 at_1 most1 (IntKind.wrap .i64 (x+1)) w02∧μ best1 at_1 most1 (IntKind.wrap .i64 (x+1)) w02<μ best at_ most x w01) fun J_=>∀w03,w03=w01.drew→∃S:W_,S w03∧s.isSome=true∧∃p:O_,(∀u,S u→u.cell? ((gA s).add 0)=some (.pointer p))∧dU_ s x w03 fun s1 w04=>S w04∧cL_ p s1 0 4116 w04 fun xs n w05=>Br ((n != 0)&&(n != 8)) (R (⟨none,0,0⟩:Sl) 0 n w05) (h5_ xs w05 fun n1 xs1 n2 w06=>Br ((n2==0)&&((decide (at_<0))||(decide (n1>most)))) (J_ xs1 x n1 w06) (J_ best at_ most w06))) (s.isSome=true∧Put ((gA s).add 3) (.int .i64 at_) w01 fun w08=>s.isSome=true∧Put ((gA s).add 4) (.int .u64 most) w08 fun w09=>s.isSome=true∧Put ((gA s).add 2) (.bool true) w09 fun w010=>Br (decide (at_<0)) (R (⟨none,0,0⟩:Sl) 0 8 w010) (R best most 0 w010)))
theorem cN_.calls (s:O_) (w:World) (R:Sl→Int→Int→W_) (h:cN_ s w R):cK_ s w R:=
 ac_ (ai_ af_) ay_ Tryz.func124 [(21,⟨[(5,.sl),(6,.i .i64),(7,.i .u64),(19,.i .i64)],[0]⟩),(5,⟨[(5,.sl),(6,.i .i64),(7,.i .u64)],[0,19]⟩)] [.sl,.i .u64,.i .i64] [.pointer s] w R (Eq.mp (show cN_ s w R=vcF Tryz.prog G Tryz.f124 [(21,⟨[(5,.sl),(6,.i .i64),(7,.i .u64),(19,.i .i64)],[0]⟩),(5,⟨[(5,.sl),(6,.i .i64),(7,.i .u64)],[0,19]⟩)] [.sl,.i .u64,.i .i64] [.pointer s] w R by kernel_rfl) h)
def kx_ (p:Sl) (w:World) (R:(O_)→Int→W_):Prop:=
 hb_  w fun p1 w0=>Br ((p.n:Int)==0) (R p1 0 w0) (((!(decide ((p.n:Int)<5)))=true→(0≤(0:Int)∧(0:Int)<(p.n:Int)∧p.A.isSome=true))∧∃n:Int,((!(decide ((p.n:Int)<5)))=true→w0.cell? ((gA p.A).add ((0:Int).toNat*1))=some (.int .u8 n))∧((!((decide ((p.n:Int)<5))||(n != 80)))=true→(0≤(1:Int)∧(1:Int)<(p.n:Int)∧p.A.isSome=true))∧∃n1:Int,((!((decide ((p.n:Int)<5))||(n != 80)))=true→w0.cell? ((gA p.A).add ((1:Int).toNat*1))=some (.int .u8 n1))∧((!(((decide ((p.n:Int)<5))||(n != 80))||(n1 != 82)))=true→(0≤(4:Int)∧(4:Int)<(p.n:Int)∧p.A.isSome=true))∧∃n2:Int,((!(((decide ((p.n:Int)<5))||(n != 80))||(n1 != 82)))=true→w0.cell? ((gA p.A).add ((4:Int).toNat*1))=some (.int .u8 n2))∧Br ((((decide ((p.n:Int)<5))||(n != 80))||(n1 != 82))||((p.n:Int) != (IntKind.wrap .i64 (5+(IntKind.wrap .i64 (9*(IntKind.wrap .i64 n2))))))) (R none 3 w0) ((0≤(2:Int)∧(2:Int)<(p.n:Int)∧p.A.isSome=true)∧∃n3:Int,w0.cell? ((gA p.A).add ((2:Int).toNat*1))=some (.int .u8 n3)∧p1.isSome=true∧Put ((gA p1).add 2) (.int .u8 n3) w0 fun w01=>p1.isSome=true∧Put ((gA p1).add 4) (.bool true) w01 fun w02=>∃(I:Int→Int→W_) (μ:Int→Int→World→Nat),I (-1) 5 w02∧∀(last:Int) (at_:Int) (w03:World),I last at_ w03→Br (decide (at_<(p.n:Int))) ((0≤at_∧at_<(p.n:Int)∧p.A.isSome=true)∧∃n4:Int,w03.cell? ((gA p.A).add (at_.toNat*1))=some (.int .u8 n4)∧fB_ p (IntKind.wrap .i64 (at_+1)) 8 w03 fun n5 n6 w04=>Br (((decide ((IntKind.wrap .i64 n4)≤last))||(decide ((IntKind.wrap .i64 n4)≥8)))||(n5==0)) (R none 3 w04) (p1.isSome=true∧∃xs:Sl,w04.cell? ((gA p1).add 0)=some (.slice xs.A xs.n xs.c)∧an_ Tryz.prog .sl (Instr.buildSlice 67 1 #[(0,.agg #[.int .i64 (IntKind.wrap .i64 n4),.int .u64 n5])]) w04 fun xs1 w05=>an_ Tryz.prog .sl (Builtin.append_ #[67,67] 67 #[.slice xs.A xs.n xs.c,.slice xs1.A xs1.n xs1.c]) w05 fun xs2 w06=>p1.isSome=true∧Put ((gA p1).add 0) (.slice xs2.A xs2.n xs2.c) w06 fun w07=>I (IntKind.wrap .i64 n4) (IntKind.wrap .i64 (at_+9)) w07∧μ (IntKind.wrap .i64 n4) (IntKind.wrap .i64 (at_+9)) w07<μ last at_ w03)) ((0≤(3:Int)∧(3:Int)<(p.n:Int)∧p.A.isSome=true)∧∃n7:Int,w03.cell? ((gA p.A).add ((3:Int).toNat*1))=some (.int .u8 n7)∧p1.isSome=true∧Put ((gA p1).add 3) (.int .i64 (IntKind.wrap .i64 (IntKind.wrap .i8 n7))) w03 fun w08=>p1.isSome=true∧∃n8:Int,w08.cell? ((gA p1).add 2)=some (.int .u8 n8)∧((!(n8==0))=true→p1.isSome=true)∧∃n9:Int,((!(n8==0))=true→w08.cell? ((gA p1).add 2)=some (.int .u8 n9))∧bB_ (fun(b:Bool) (w09:World)=>Br ((n8==0)||b) (p1.isSome=true∧∃n10:Int,w09.cell? ((gA p1).add 3)=some (.int .i64 n10)∧((!(n10 != (-1)))=true→p1.isSome=true)∧∃n11:Int,((!(n10 != (-1)))=true→w09.cell? ((gA p1).add 2)=some (.int .u8 n11))∧bB_ (fun(b1:Bool) (w010:World)=>((b1&&(!(n10 != (-1))))=true→p1.isSome=true)∧∃xs3:Sl,((b1&&(!(n10 != (-1))))=true→w010.cell? ((gA p1).add 0)=some (.slice xs3.A xs3.n xs3.c))∧Br ((n10 != (-1))||(b1&&((xs3.n:Int)==0))) (R none 3 w010) (R p1 0 w010)) fun J_=>((!(n10 != (-1)))=true→eT_ n11 w09 J_)∧((!(n10 != (-1)))=false→J_ (Kd.dflt .b) w09)) (p1.isSome=true∧∃n12:Int,w09.cell? ((gA p1).add 3)=some (.int .i64 n12)∧cF_ p1 n12 w09 fun n13 b2 w011=>((!(!b2))=true→p1.isSome=true)∧∃n14:Int,((!(!b2))=true→w011.cell? ((gA p1).add 2)=some (.int .u8 n14))∧bB_ (fun(b3:Bool) (w012:World)=>Br ((!b2)||(!b3)) (R none 3 w012) (R p1 0 w012)) fun J_1=>((!(!b2))=true→gF_ n14 w011 J_1)∧((!(!b2))=false→J_1 (Kd.dflt .b) w011))) fun J_2=>((!(n8==0))=true→eT_ n9 w08 J_2)∧((!(n8==0))=false→J_2 (Kd.dflt .b) w08))))
theorem kx_.calls (p:Sl) (w:World) (R:(O_)→Int→W_) (h:kx_ p w R):mF_ p w R:=
 ac_ (ai_ af_) ay_ Tryz.func125 [(27,⟨[(5,.i .i64),(6,.i .i64)],[0,4]⟩)] [.p,.i .i64] [.slice p.A p.n p.c] w R (Eq.mp (show kx_ p w R=vcF Tryz.prog G Tryz.f125 [(27,⟨[(5,.i .i64),(6,.i .i64)],[0,4]⟩)] [.p,.i .i64] [.slice p.A p.n p.c] w R by kernel_rfl) h)
def gU_ (b:Int) (w:World) (R:(A_)→W_):Prop:=
 New (.cells #[.bool false,.bool false,.bool false] 142) w fun a w0=>ah_ Tryz.prog (storeVar 142 a (.agg #[.bool ((bz_ .u8 b 1) != 0),.bool ((bz_ .u8 b 2) != 0),.bool ((bz_ .u8 b 4) != 0)])) w0 fun w01=>∃res:A_,(loadVar 142 a).run Tryz.prog w01=.ok (.agg res) w01∧R res w01
theorem gU_.calls (b:Int) (w:World) (R:(A_)→W_) (h:gU_ b w R):iJ_ b w R:=
 ac_ (ai_ af_) ay_ Tryz.func126 [] [.ag] [.int .u8 b] w R (Eq.mp (show gU_ b w R=vcF Tryz.prog G Tryz.f126 [] [.ag] [.int .u8 b] w R by kernel_rfl) h)
def cB_ (s:O_) (on:Bool) (w:World) (R:W_):Prop:=
 Br (!(s).isNone) (s.isSome=true∧Put ((gA s).add 3) (.bool on) w fun w01=>R w01) (R w)
theorem cB_.calls (s:O_) (on:Bool) (w:World) (R:W_) (h:cB_ s on w R):bD_ s on w R:=
 ac_ (ai_ af_) ay_ Tryz.func127 [] [] [.pointer s,.bool on] w R (Eq.mp (show cB_ s on w R=vcF Tryz.prog G Tryz.f127 [] [] [.pointer s,.bool on] w R by kernel_rfl) h)
def jj_ (s:ByteArray) (least:Int) (most:Int) (w:World) (R:Bool→W_):Prop:=
 ∃(I:Int→W_) (μ:Int→World→Nat),I 0 w∧∀(x:Int) (w0:World),I x w0→Br (decide (x<(s.size:Int))) ((0≤x∧x<(s.size:Int))∧((!(decide ((bt s x)<32)))=true→(0≤x∧x<(s.size:Int)))∧Br ((decide ((bt s x)<32))||(decide ((bt s x)>126))) (R false w0) (I (IntKind.wrap .i64 (x+1)) w0∧μ (IntKind.wrap .i64 (x+1)) w0<μ x w0)) (R ((decide ((s.size:Int)≥least))&&(decide ((s.size:Int)≤most))) w0)
theorem jj_.calls (s:ByteArray) (least:Int) (most:Int) (w:World) (R:Bool→W_) (h:jj_ s least most w R):gE_ s least most w R:=
 ac_ (ai_ af_) ay_ Tryz.func128 [(6,⟨[(10,.i .i64)],[0,1,2,9]⟩)] [.b] [.string s,.int .i64 least,.int .i64 most] w R (Eq.mp (show jj_ s least most w R=vcF Tryz.prog G Tryz.f128 [(6,⟨[(10,.i .i64)],[0,1,2,9]⟩)] [.b] [.string s,.int .i64 least,.int .i64 most] w R by kernel_rfl) h)
def hV_ (p:Sl) (at_:Int) (n:Int) (w:World) (R:Int→W_):Prop:=
 Br ((decide (n<1))||(decide (n>8))) (R 1 w) (Br ((decide (at_<0))||(decide (at_>(IntKind.wrap .i64 ((p.n:Int)-n))))) (R 4 w) (R 0 w))
theorem hV_.calls (p:Sl) (at_:Int) (n:Int) (w:World) (R:Int→W_) (h:hV_ p at_ n w R):i9_ p at_ n w R:=
 ac_ (ai_ af_) ay_ Tryz.func130 [] [.i .i64] [.slice p.A p.n p.c,.int .i64 at_,.int .i64 n] w R (Eq.mp (show hV_ p at_ n w R=vcF Tryz.prog G Tryz.f130 [] [.i .i64] [.slice p.A p.n p.c,.int .i64 at_,.int .i64 n] w R by kernel_rfl) h)
def lU_ (p:Sl) (at_:Int) (n:Int) (v:Int) (w:World) (R:Sl→Int→W_):Prop:=
 i9_ p at_ n w fun n1 w0=>(((n1 != 1)&&(decide (n<8)))=true→(0≤(IntKind.wrap .i64 (8*n))))∧Br (((n1 != 1)&&(decide (n<8)))&&((bK_ .u64 v (IntKind.wrap .i64 (8*n)).toNat) != 0)) (R (⟨none,0,0⟩:Sl) 3 w0) (Br (n1 != 0) (R (⟨none,0,0⟩:Sl) n1 w0) (an_ Tryz.prog .sl (Builtin.append_ #[33,33] 33 #[.slice none 0 0,.slice p.A p.n p.c]) w0 fun xs w01=>∃(I:Int→Int→W_) (μ:Int→Int→World→Nat),I v (IntKind.wrap .i64 (n-1)) w01∧∀(v1:Int) (i:Int) (w02:World),I v1 i w02→Br (decide (i≥0)) ((0≤(IntKind.wrap .i64 (at_+i))∧(IntKind.wrap .i64 (at_+i))<(xs.n:Int)∧xs.A.isSome=true)∧Put ((gA xs.A).add ((IntKind.wrap .i64 (at_+i)).toNat*1)) (.int .u8 (IntKind.wrap .u8 v1)) w02 fun w03=>I (bK_ .u64 v1 8) (IntKind.wrap .i64 (i-1)) w03∧μ (bK_ .u64 v1 8) (IntKind.wrap .i64 (i-1)) w03<μ v1 i w02) (R xs 0 w02)))
theorem lU_.calls (p:Sl) (at_:Int) (n:Int) (v:Int) (w:World) (R:Sl→Int→W_) (h:lU_ p at_ n v w R):jR_ p at_ n v w R:=
 ac_ (ai_ af_) ay_ Tryz.func132 [(24,⟨[(3,.i .u64),(12,.i .i64)],[1,11]⟩)] [.sl,.i .i64] [.slice p.A p.n p.c,.int .i64 at_,.int .i64 n,.int .u64 v] w R (Eq.mp (show lU_ p at_ n v w R=vcF Tryz.prog G Tryz.f132 [(24,⟨[(3,.i .u64),(12,.i .i64)],[1,11]⟩)] [.sl,.i .i64] [.slice p.A p.n p.c,.int .i64 at_,.int .i64 n,.int .u64 v] w R by kernel_rfl) h)
def hy_ (p:Sl) (at_:Int) (n:Int) (w:World) (R:Int→W_):Prop:=
 fB_ p at_ n w fun n1 n2 w0=>R n1 w0
theorem hy_.calls (p:Sl) (at_:Int) (n:Int) (w:World) (R:Int→W_) (h:hy_ p at_ n w R):bh_ p at_ n w R:=
 ac_ (ai_ af_) ay_ Tryz.func134 [] [.i .u64] [.slice p.A p.n p.c,.int .i64 at_,.int .i64 n] w R (Eq.mp (show hy_ p at_ n w R=vcF Tryz.prog G Tryz.f134 [] [.i .u64] [.slice p.A p.n p.c,.int .i64 at_,.int .i64 n] w R by kernel_rfl) h)
def hz_ (c:O_) (p:Sl) (w:World) (R:Int→Int→W_):Prop:=
 ll_ c p w fun n w0=>aR_ (fun(w01:World)=>c.isSome=true∧∃n1:Int,w01.cell? ((gA c).add 0)=some (.int .u8 n1)∧((n1 != 11)=true→c.isSome=true)∧∃n2:Int,((n1 != 11)=true→w01.cell? ((gA c).add 0)=some (.int .u8 n2))∧(((n1 != 11)&&(n2 != 12))=true→c.isSome=true)∧∃n3:Int,(((n1 != 11)&&(n2 != 12))=true→w01.cell? ((gA c).add 3)=some (.int .u64 n3))∧Br (((n1 != 11)&&(n2 != 12))&&(decide (n3>256))) (R n 7 w01) (R (-1) 0 w01)) fun J_=>Br (decide ((p.n:Int)>6)) ((0≤(1:Int)∧(1:Int)<(p.n:Int)∧p.A.isSome=true)∧∃n4:Int,w0.cell? ((gA p.A).add ((1:Int).toNat*1))=some (.int .u8 n4)∧c.isSome=true∧Put ((gA c).add 6) (.int .u8 (bK_ .u8 n4 5)) w0 fun w02=>c.isSome=true∧∃n5:Int,w02.cell? ((gA c).add 0)=some (.int .u8 n5)∧aR_ (fun(x:Bool) (w04:World)=>Br x ((0≤(1:Int)∧(1:Int)<(p.n:Int)∧p.A.isSome=true)∧∃n6:Int,w04.cell? ((gA p.A).add ((1:Int).toNat*1))=some (.int .u8 n6)∧c.isSome=true∧Put ((gA c).add 5) (.bool ((bz_ .u8 n6 8) != 0)) w04 fun w06=>J_ w06) (Br (n5==10) ((0≤(1:Int)∧(1:Int)<(p.n:Int)∧p.A.isSome=true)∧∃n7:Int,w04.cell? ((gA p.A).add ((1:Int).toNat*1))=some (.int .u8 n7)∧c.isSome=true∧Put ((gA c).add 14) (.bool ((bz_ .u8 n7 2) != 0)) w04 fun w08=>J_ w08) (Br (n5==12) ((0≤(1:Int)∧(1:Int)<(p.n:Int)∧p.A.isSome=true)∧∃n8:Int,w04.cell? ((gA p.A).add ((1:Int).toNat*1))=some (.int .u8 n8)∧c.isSome=true∧Put ((gA c).add 7) (.bool ((bz_ .u8 n8 8) != 0)) w04 fun w010=>J_ w010) (Br (n5==11) (c.isSome=true∧Put ((gA c).add 6) (.int .u8 0) w04 fun w012=>J_ w012) (J_ w04))))) fun J_1=>Br (n5==7) (J_1 (n5==7) w02) (J_1 (n5==8) w02)) (J_ w0)
theorem hz_.calls (c:O_) (p:Sl) (w:World) (R:Int→Int→W_) (h:hz_ c p w R):jC_ c p w R:=
 ac_ (ai_ af_) ay_ Tryz.func135 [(10,⟨[],[0,6]⟩),(19,⟨[(24,.b)],[0,1,6,23]⟩)] [.i .i64,.i .i64] [.pointer c,.slice p.A p.n p.c] w R (Eq.mp (show hz_ c p w R=vcF Tryz.prog G Tryz.f135 [(10,⟨[],[0,6]⟩),(19,⟨[(24,.b)],[0,1,6,23]⟩)] [.i .i64,.i .i64] [.pointer c,.slice p.A p.n p.c] w R by kernel_rfl) h)
def dx_ (q:O_) (nexus:Int) (w:World) (R:Bool→W_):Prop:=
 R (((!(q).isNone)&&(decide (nexus≥0)))&&(decide (nexus<8))) w
theorem dx_.calls (q:O_) (nexus:Int) (w:World) (R:Bool→W_) (h:dx_ q nexus w R):e3_ q nexus w R:=
 ac_ (ai_ af_) ay_ Tryz.func136 [] [.b] [.pointer q,.int .i64 nexus] w R (Eq.mp (show dx_ q nexus w R=vcF Tryz.prog G Tryz.f136 [] [.b] [.pointer q,.int .i64 nexus] w R by kernel_rfl) h)
def gV_ (code:Int) (w:World) (R:Int→W_):Prop:=
 Br ((bK_ .u16 code 8)==41) (R 0 w) (Br (code==12032) (R 1 w) (Br (((bK_ .u16 code 8)==42)&&(code != 10753)) (R 2 w) (R 3 w)))
theorem gV_.calls (code:Int) (w:World) (R:Int→W_) (h:gV_ code w R):ih_ code w R:=
 ac_ (ai_ af_) ay_ Tryz.func137 [] [.i .i64] [.int .u16 code] w R (Eq.mp (show gV_ code w R=vcF Tryz.prog G Tryz.f137 [] [.i .i64] [.int .u16 code] w R by kernel_rfl) h)
def d6_ (m:O_) (w:World) (R:(A_)→W_):Prop:=
 New (.cells #[.bool false,.bool false,.bool false] 142) w fun a w0=>Br ((m).isNone) (ah_ Tryz.prog (storeVar 142 a (.agg #[.bool false,.bool false,.bool false])) w0 fun w01=>∃res:A_,(loadVar 142 a).run Tryz.prog w01=.ok (.agg res) w01∧R res w01) (m.isSome=true∧∃g:A_,(loadVar 142 ((gA m).add 3)).run Tryz.prog w0=.ok (.agg g) w0∧ah_ Tryz.prog (storeVar 142 a (.agg g)) w0 fun w02=>∃res1:A_,(loadVar 142 a).run Tryz.prog w02=.ok (.agg res1) w02∧R res1 w02)
theorem d6_.calls (m:O_) (w:World) (R:(A_)→W_) (h:d6_ m w R):dT_ m w R:=
 ac_ (ai_ af_) ay_ Tryz.func139 [] [.ag] [.pointer m] w R (Eq.mp (show d6_ m w R=vcF Tryz.prog G Tryz.f139 [] [.ag] [.pointer m] w R by kernel_rfl) h)
def gd_ (v:A_) (w:World) (R:Sl→W_):Prop:=
 New (.cells v 142) w fun v1 w0=>an_ Tryz.prog .sl (Instr.makeSlice 33 (.int .i64 20) (.int .i64 20)) w0 fun xs w01=>(0≤(0:Int)∧(0:Int)<(xs.n:Int)∧xs.A.isSome=true)∧Put ((gA xs.A).add ((0:Int).toNat*1)) (.int .u8 8) w01 fun w02=>(0≤(1:Int)∧(1:Int)<(xs.n:Int)∧xs.A.isSome=true)∧Put ((gA xs.A).add ((1:Int).toNat*1)) (.int .u8 18) w02 fun w03=>∃b:Bool,w03.cell? (v1.add 0)=some (.bool b)∧Br b ((0≤(2:Int)∧(2:Int)<(xs.n:Int)∧xs.A.isSome=true)∧Put ((gA xs.A).add ((2:Int).toNat*1)) (.int .u8 4) w03 fun w05=>R xs w05) (R xs w03)
theorem gd_.calls (v:A_) (w:World) (R:Sl→W_) (h:gd_ v w R):f7_ v w R:=
 ac_ (ai_ af_) ay_ Tryz.func140 [] [.sl] [.agg v] w R (Eq.mp (show gd_ v w R=vcF Tryz.prog G Tryz.f140 [] [.sl] [.agg v] w R by kernel_rfl) h)
def ge_ (v:A_) (w:World) (R:Sl→W_):Prop:=
 New (.cells v 142) w fun v1 w0=>an_ Tryz.prog .sl (Instr.makeSlice 33 (.int .i64 12) (.int .i64 12)) w0 fun xs w01=>(0≤(0:Int)∧(0:Int)<(xs.n:Int)∧xs.A.isSome=true)∧Put ((gA xs.A).add ((0:Int).toNat*1)) (.int .u8 10) w01 fun w02=>(0≤(1:Int)∧(1:Int)<(xs.n:Int)∧xs.A.isSome=true)∧Put ((gA xs.A).add ((1:Int).toNat*1)) (.int .u8 10) w02 fun w03=>∃b:Bool,w03.cell? (v1.add 1)=some (.bool b)∧aR_ (fun(w04:World)=>∃b1:Bool,w04.cell? (v1.add 2)=some (.bool b1)∧Br b1 ((0≤(4:Int)∧(4:Int)<(xs.n:Int)∧xs.A.isSome=true)∧Put ((gA xs.A).add ((4:Int).toNat*1)) (.int .u8 8) w04 fun w06=>R xs w06) (R xs w04)) fun J_=>Br b ((0≤(2:Int)∧(2:Int)<(xs.n:Int)∧xs.A.isSome=true)∧Put ((gA xs.A).add ((2:Int).toNat*1)) (.int .u8 4) w03 fun w07=>J_ w07) (J_ w03)
theorem ge_.calls (v:A_) (w:World) (R:Sl→W_) (h:ge_ v w R):f8_ v w R:=
 ac_ (ai_ af_) ay_ Tryz.func141 [(13,⟨[],[1,3]⟩)] [.sl] [.agg v] w R (Eq.mp (show ge_ v w R=vcF Tryz.prog G Tryz.f141 [(13,⟨[],[1,3]⟩)] [.sl] [.agg v] w R by kernel_rfl) h)
def jk_ (field:Int) (bit:Int) (cmd:Bool) (w:World) (R:(A_)→W_):Prop:=
 New (.cells #[.int .u8 0,.int .u16 0,.int .u64 0,.bool false,.int .i64 0,.int .i64 0,.bool false,.bool false] 32) w fun a w0=>aR_ (fun(code:Int) (w01:World)=>ah_ Tryz.prog (storeVar 32 a (.agg #[.int .u8 5,.int .u16 code,.int .u64 0,.bool false,.int .i64 field,.int .i64 bit,.bool true,.bool cmd])) w01 fun w02=>∃res:A_,(loadVar 32 a).run Tryz.prog w02=.ok (.agg res) w02∧R res w02) fun J_=>Br cmd (J_ 9216 w0) (J_ 9728 w0)
theorem jk_.calls (field:Int) (bit:Int) (cmd:Bool) (w:World) (R:(A_)→W_) (h:jk_ field bit cmd w R):et_ field bit cmd w R:=
 ac_ (ai_ af_) ay_ Tryz.func142 [(10,⟨[(7,.i .u16)],[0,1,2,6]⟩)] [.ag] [.int .i64 field,.int .i64 bit,.bool cmd] w R (Eq.mp (show jk_ field bit cmd w R=vcF Tryz.prog G Tryz.f142 [(10,⟨[(7,.i .u16)],[0,1,2,6]⟩)] [.ag] [.int .i64 field,.int .i64 bit,.bool cmd] w R by kernel_rfl) h)
def dy_ (m:O_) (c:A_) (p:Sl) (w:World) (R:Bool→(A_)→Bool→W_):Prop:=
 New (.cells c 135) w fun c1 w0=>New (.cells #[.int .u8 0,.int .u16 0,.int .u64 0,.bool false,.int .i64 0,.int .i64 0,.bool false,.bool false] 32) w0 fun a w01=>Br (((m).isNone)||((p.n:Int)==0)) (ah_ Tryz.prog (storeVar 32 a (.agg #[.int .u8 0,.int .u16 0,.int .u64 0,.bool false,.int .i64 0,.int .i64 0,.bool false,.bool false])) w01 fun w02=>∃res:A_,(loadVar 32 a).run Tryz.prog w02=.ok (.agg res) w02∧R false res true w02) (∃b:Bool,w01.cell? (c1.add 1)=some (.bool b)∧aR_ (fun(head:Int) (device:Int) (w03:World)=>Br (decide ((p.n:Int)<head)) (ah_ Tryz.prog (storeVar 32 a (.agg #[.int .u8 5,.int .u16 6656,.int .u64 0,.bool false,.int .i64 0,.int .i64 0,.bool false,.bool false])) w03 fun w04=>∃res1:A_,(loadVar 32 a).run Tryz.prog w04=.ok (.agg res1) w04∧R false res1 false w04) (∃(I:Int→W_) (μ:Int→World→Nat),I 0 w03∧∀(x:Int) (w05:World),I x w05→Br (decide (x<head)) ((0≤x∧x<(p.n:Int)∧p.A.isSome=true)∧∃n:Int,w05.cell? ((gA p.A).add (x.toNat*1))=some (.int .u8 n)∧Br ((n != 0)&&(x != device)) (et_ x (-1) false w05 fun g w06=>ah_ Tryz.prog (storeVar 32 a (.agg g)) w06 fun w07=>∃res2:A_,(loadVar 32 a).run Tryz.prog w07=.ok (.agg res2) w07∧R false res2 false w07) (I (IntKind.wrap .i64 (x+1)) w05∧μ (IntKind.wrap .i64 (x+1)) w05<μ x w05)) (m.isSome=true∧∃g1:A_,(loadVar 142 ((gA m).add 0)).run Tryz.prog w05=.ok (.agg g1) w05∧New (.cells #[.bool false,.bool false,.bool false] 142) w05 fun v w08=>ah_ Tryz.prog (storeVar 142 v (.agg g1)) w08 fun w09=>∃(I1:Int→W_) (μ1:Int→World→Nat),I1 head w09∧∀(at_:Int) (w010:World),I1 at_ w010→Br (decide (at_<(p.n:Int))) (∃g2:A_,(loadVar 142 v).run Tryz.prog w010=.ok (.agg g2) w010∧ko_ p at_ g2 w010 fun g3 n1 g4 b1 w011=>New (.cells #[.bool false,.bool false,.bool false] 142) w011 fun to w012=>New (.cells #[.int .u8 0,.int .u16 0,.int .u64 0,.bool false,.int .i64 0,.int .i64 0,.bool false,.bool false] 32) w012 fun s w013=>ah_ Tryz.prog (storeVar 142 to (.agg g3)) w013 fun w014=>ah_ Tryz.prog (storeVar 32 s (.agg g4)) w014 fun w015=>Br (!b1) (∀w016,w016=w015.drew→∃S:W_,S w016∧∃g5:A_,(∀u,S u→(loadVar 32 s).run Tryz.prog u=.ok (.agg g5) u)∧ah_ Tryz.prog (storeVar 32 a (.agg g5)) w016 fun w017=>∃res3:A_,(loadVar 32 a).run Tryz.prog w017=.ok (.agg res3) w017∧R false res3 false w017) (∃g6:A_,(loadVar 142 to).run Tryz.prog w015=.ok (.agg g6) w015∧ah_ Tryz.prog (storeVar 142 v (.agg g6)) w015 fun w018=>I1 (IntKind.wrap .i64 (at_+n1)) w018∧μ1 (IntKind.wrap .i64 (at_+n1)) w018<μ1 at_ w010)) (∀w019,w019=w010.drew→∃S1:W_,S1 w019∧∃g7:A_,(∀u1,S1 u1→(loadVar 142 v).run Tryz.prog u1=.ok (.agg g7) u1)∧m.isSome=true∧∃g8:A_,(∀u2,S1 u2→(loadVar 142 ((gA m).add 0)).run Tryz.prog u2=.ok (.agg g8) u2)∧∃b2:Bool,(∀u3,S1 u3→(do eqGuard .neq 142 (.tmp 76) (.tmp 80) (.agg g7) (.agg g8);binOp .neq 142 (.agg g7) (.agg g8):Sem Value).run Tryz.prog u3=.ok (.bool b2) u3)∧∃g9:A_,(loadVar 142 v).run Tryz.prog w019=.ok (.agg g9) w019∧m.isSome=true∧ah_ Tryz.prog (storeVar 142 ((gA m).add 0) (.agg g9)) w019 fun w020=>∃b3:Bool,w020.cell? (c1.add 11)=some (.bool b3)∧aR_ (fun(w021:World)=>ah_ Tryz.prog (storeVar 32 a (.agg #[.int .u8 0,.int .u16 0,.int .u64 0,.bool false,.int .i64 0,.int .i64 0,.bool false,.bool false])) w021 fun w022=>∃res4:A_,(loadVar 32 a).run Tryz.prog w022=.ok (.agg res4) w022∧R b2 res4 true w022) fun J_=>Br b3 (∃g10:A_,(loadVar 142 v).run Tryz.prog w020=.ok (.agg g10) w020∧m.isSome=true∧ah_ Tryz.prog (storeVar 142 ((gA m).add 3) (.agg g10)) w020 fun w023=>J_ w023) (J_ w020))))) fun J_1=>Br b (J_1 8 3 w01) (J_1 4 2 w01))
theorem dy_.calls (m:O_) (c:A_) (p:Sl) (w:World) (R:Bool→(A_)→Bool→W_) (h:dy_ m c p w R):dn_ m c p w R:=
 ac_ (ai_ af_) ay_ Tryz.func143 [(27,⟨[(35,.i .i64)],[0,2,4,7,9,10,34]⟩),(48,⟨[(13,.i .i64)],[0,2,4,7,12]⟩),(76,⟨[],[7,18]⟩),(16,⟨[(9,.i .i64),(10,.i .i64)],[0,2,4,7]⟩)] [.b,.ag,.b] [.pointer m,.agg c,.slice p.A p.n p.c] w R (Eq.mp (show dy_ m c p w R=vcF Tryz.prog G Tryz.f143 [(27,⟨[(35,.i .i64)],[0,2,4,7,9,10,34]⟩),(48,⟨[(13,.i .i64)],[0,2,4,7,12]⟩),(76,⟨[],[7,18]⟩),(16,⟨[(9,.i .i64),(10,.i .i64)],[0,2,4,7]⟩)] [.b,.ag,.b] [.pointer m,.agg c,.slice p.A p.n p.c] w R by kernel_rfl) h)
def e9_ (u:O_) (w:World) (R:Bool→W_):Prop:=
 ∀w0,w0=w.drew→∃S:W_,S w0∧u.isSome=true∧∃p:O_,(∀u1,S u1→u1.cell? ((gA u).add 6)=some (.pointer p))∧u.isSome=true∧∃p1:O_,(∀u2,S u2→u2.cell? ((gA u).add 7)=some (.pointer p1))∧u.isSome=true∧∃p2:O_,(∀u3,S u3→u3.cell? ((gA u).add 8)=some (.pointer p2))∧dT_ p1 w0 fun g w01=>S w01∧jD_ g w01 fun n w02=>S w02∧(an_ Tryz.prog .sl (Instr.buildSlice 33 1 #[(0,.int .u8 n)]) w02 fun xs w03=>S w03∧fC_ p2 w03 fun xs1 w04=>S w04∧an_ Tryz.prog .sl (Builtin.append_ #[33,33] 33 #[.slice xs.A xs.n xs.c,.slice xs1.A xs1.n xs1.c]) w04 fun xs2 w05=>S w05∧cg_ p xs2 w05 fun n1 n2 w06=>R (n2==0) w06)∧fC_ p2 w02 fun xs3 w07=>S w07∧an_ Tryz.prog .sl (Instr.buildSlice 33 1 #[(0,.int .u8 n)]) w07 fun xs4 w08=>S w08∧an_ Tryz.prog .sl (Builtin.append_ #[33,33] 33 #[.slice xs4.A xs4.n xs4.c,.slice xs3.A xs3.n xs3.c]) w08 fun xs5 w09=>S w09∧cg_ p xs5 w09 fun n3 n4 w010=>R (n4==0) w010
theorem e9_.calls (u:O_) (w:World) (R:Bool→W_) (h:e9_ u w R):bW_ u w R:=
 ac_ (ai_ af_) ay_ Tryz.func144 [] [.b] [.pointer u] w R (Eq.mp (show e9_ u w R=vcF Tryz.prog G Tryz.f144 [] [.b] [.pointer u] w R by kernel_rfl) h)
def fa_ (t:O_) (w:World) (R:Bool→W_):Prop:=
 ((!(t).isNone)=true→t.isSome=true)∧∃b:Bool,((!(t).isNone)=true→w.cell? ((gA t).add 4)=some (.bool b))∧R ((!(t).isNone)&&b) w
theorem fa_.calls (t:O_) (w:World) (R:Bool→W_) (h:fa_ t w R):e4_ t w R:=
 ac_ (ai_ af_) ay_ Tryz.func146 [] [.b] [.pointer t] w R (Eq.mp (show fa_ t w R=vcF Tryz.prog G Tryz.f146 [] [.b] [.pointer t] w R by kernel_rfl) h)
def gW_ (t:O_) (nexus:Int) (o:A_) (w:World) (R:Int→Int→Sl→W_):Prop:=
 New (.cells o 260) w fun o1 w0=>∃n:Int,((!((((t).isNone)||(decide (nexus<0)))||(decide (nexus≥8))))=true→w0.cell? (o1.add 0)=some (.int .u8 n))∧Br (((((t).isNone)||(decide (nexus<0)))||(decide (nexus≥8)))||(decide (n>6))) (R 2 9216 (⟨none,0,0⟩:Sl) w0) (cF_ t nexus w0 fun n1 b w01=>∃n2:Int,w01.cell? (o1.add 0)=some (.int .u8 n2)∧Br (n2==6) (∃g:A_,(loadVar 260 o1).run Tryz.prog w01=.ok (.agg g) w01∧b5_ t nexus g b w01 fun xs w02=>R 0 0 xs w02) (Br (n2==0) (∃n3:Int,w01.cell? (o1.add 2)=some (.int .u64 n3)∧Br (n3 != n1) (R 24 0 (⟨none,0,0⟩:Sl) w01) (∃g1:A_,(loadVar 260 o1).run Tryz.prog w01=.ok (.agg g1) w01∧b5_ t nexus g1 b w01 fun xs1 w03=>R 0 0 xs1 w03)) (∃n4:Int,((!(!b))=true→w01.cell? (o1.add 2)=some (.int .u64 n4))∧Br ((!b)||(n4 != n1)) (R 24 0 (⟨none,0,0⟩:Sl) w01) (∃n5:Int,w01.cell? (o1.add 0)=some (.int .u8 n5)∧Br (n5==1) (∃g2:A_,(loadVar 260 o1).run Tryz.prog w01=.ok (.agg g2) w01∧dV_ t nexus g2 w01 fun n6 n7 xs2 w04=>R n6 n7 xs2 w04) (Br (n5==2) (∃g3:A_,(loadVar 260 o1).run Tryz.prog w01=.ok (.agg g3) w01∧dW_ t nexus g3 w01 fun n8 n9 xs3 w05=>R n8 n9 xs3 w05) (Br (n5==3) (e5_ t nexus w01 fun xs4 w06=>R 0 0 xs4 w06) (∃g4:A_,(loadVar 260 o1).run Tryz.prog w01=.ok (.agg g4) w01∧dX_ t nexus g4 w01 fun n10 n11 xs5 w07=>R n10 n11 xs5 w07)))))))
theorem gW_.calls (t:O_) (nexus:Int) (o:A_) (w:World) (R:Int→Int→Sl→W_) (h:gW_ t nexus o w R):iK_ t nexus o w R:=
 ac_ (ai_ af_) ay_ Tryz.func147 [] [.i .u8,.i .u16,.sl] [.pointer t,.int .i64 nexus,.agg o] w R (Eq.mp (show gW_ t nexus o w R=vcF Tryz.prog G Tryz.f147 [] [.i .u8,.i .u16,.sl] [.pointer t,.int .i64 nexus,.agg o] w R by kernel_rfl) h)
open Go CF
set_option linter.unusedVariables false
set_option maxRecDepth 100000
def in_ (s:A_) (w:World) (R:(A_)→W_):Prop:=
 New (.cells s 32) w fun s1 w0=>New (.cells #[.int .u8 0,.int .u8 0,.int .u16 0,.int .u64 0,.bool false,.int .i64 0,.int .i64 0,.bool false,.bool false,.slice none 0 0] 35) w0 fun a w01=>∃g:A_,(loadVar 32 s1).run Tryz.prog w01=.ok (.agg g) w01∧∃g1:A_,(Instr.build 35 #[(0,.int .u8 2),(1,.agg g)]).run Tryz.prog w01=.ok (.agg g1) w01∧ah_ Tryz.prog (storeVar 35 a (.agg g1)) w01 fun w02=>∃res:A_,(loadVar 35 a).run Tryz.prog w02=.ok (.agg res) w02∧R res w02
theorem in_.calls (s:A_) (w:World) (R:(A_)→W_) (h:in_ s w R):do_ s w R:=
 ac_ (ai_ af_) ay_ Tryz.func150 [] [.ag] [.agg s] w R (Eq.mp (show in_ s w R=vcF Tryz.prog G Tryz.f150 [] [.ag] [.agg s] w R by kernel_rfl) h)
def hW_ (kind:Int) (prot:Int) (w:World) (R:Bool→W_):Prop:=
 R ((decide (kind≤3))&&((prot==0)||((decide (kind>0))&&(decide (prot≤4))))) w
theorem hW_.calls (kind:Int) (prot:Int) (w:World) (R:Bool→W_) (h:hW_ kind prot w R):lk_ kind prot w R:=
 ac_ (ai_ af_) ay_ Tryz.func151 [] [.b] [.int .u8 kind,.int .u8 prot] w R (Eq.mp (show hW_ kind prot w R=vcF Tryz.prog G Tryz.f151 [] [.b] [.int .u8 kind,.int .u8 prot] w R by kernel_rfl) h)
def gX_ (lba:Int) (n:Int) (blocks:Int) (w:World) (R:Bool→W_):Prop:=
 R ((decide (lba≤blocks))&&(decide (n≤(IntKind.wrap .u64 (blocks-lba))))) w
theorem gX_.calls (lba:Int) (n:Int) (blocks:Int) (w:World) (R:Bool→W_) (h:gX_ lba n blocks w R):kn_ lba n blocks w R:=
 ac_ (ai_ af_) ay_ Tryz.func152 [] [.b] [.int .u64 lba,.int .u64 n,.int .u64 blocks] w R (Eq.mp (show gX_ lba n blocks w R=vcF Tryz.prog G Tryz.f152 [] [.b] [.int .u64 lba,.int .u64 n,.int .u64 blocks] w R by kernel_rfl) h)
def fb_ (d:O_) (w:World) (R:Int→W_):Prop:=
 d.isSome=true∧∃p:O_,w.cell? ((gA d).add 0)=some (.pointer p)∧g8_ p w fun n w0=>R (IntKind.wrap .u64 n) w0
theorem fb_.calls (d:O_) (w:World) (R:Int→W_) (h:fb_ d w R):gO_ d w R:=
 ac_ (ai_ af_) ay_ Tryz.func153 [] [.i .u64] [.pointer d] w R (Eq.mp (show fb_ d w R=vcF Tryz.prog G Tryz.f153 [] [.i .u64] [.pointer d] w R by kernel_rfl) h)
def lV_ (key:Int) (code:Int) (info:Int) (w:World) (R:(A_)→W_):Prop:=
 New (.cells #[.int .u8 0,.int .u8 0,.int .u16 0,.int .u64 0,.bool false,.int .i64 0,.int .i64 0,.bool false,.bool false,.slice none 0 0] 35) w fun a w0=>do_ #[.int .u8 key,.int .u16 code,.int .u64 info,.bool true,.int .i64 0,.int .i64 0,.bool false,.bool false] w0 fun g w01=>ah_ Tryz.prog (storeVar 35 a (.agg g)) w01 fun w02=>∃res:A_,(loadVar 35 a).run Tryz.prog w02=.ok (.agg res) w02∧R res w02
theorem lV_.calls (key:Int) (code:Int) (info:Int) (w:World) (R:(A_)→W_) (h:lV_ key code info w R):lR_ key code info w R:=
 ac_ (ai_ af_) ay_ Tryz.func154 [] [.ag] [.int .u8 key,.int .u16 code,.int .u64 info] w R (Eq.mp (show lV_ key code info w R=vcF Tryz.prog G Tryz.f154 [] [.ag] [.int .u8 key,.int .u16 code,.int .u64 info] w R by kernel_rfl) h)
def jl_ (data:Sl) (w:World) (R:(A_)→W_):Prop:=
 New (.cells #[.int .u8 0,.int .u8 0,.int .u16 0,.int .u64 0,.bool false,.int .i64 0,.int .i64 0,.bool false,.bool false,.slice none 0 0] 35) w fun a w0=>ah_ Tryz.prog (storeVar 35 a (.agg #[.int .u8 0,.int .u8 0,.int .u16 0,.int .u64 0,.bool false,.int .i64 0,.int .i64 0,.bool false,.bool false,.slice data.A data.n data.c])) w0 fun w01=>∃res:A_,(loadVar 35 a).run Tryz.prog w01=.ok (.agg res) w01∧R res w01
theorem jl_.calls (data:Sl) (w:World) (R:(A_)→W_) (h:jl_ data w R):ja_ data w R:=
 ac_ (ai_ af_) ay_ Tryz.func156 [] [.ag] [.slice data.A data.n data.c] w R (Eq.mp (show jl_ data w R=vcF Tryz.prog G Tryz.f156 [] [.ag] [.slice data.A data.n data.c] w R by kernel_rfl) h)
def ky_ (list:Sl) (with_:Bool) (w:World) (R:Sl→W_):Prop:=
 ∃(I:Sl→Int→W_) (μ:Sl→Int→World→Nat),I (⟨none,0,0⟩:Sl) 0 w∧∀(p:Sl) (x:Int) (w0:World),I p x w0→Br (decide (x<(list.n:Int))) (aR_ (fun(p1:Sl) (w01:World)=>I p1 (IntKind.wrap .i64 (x+1)) w01∧μ p1 (IntKind.wrap .i64 (x+1)) w01<μ p x w0) fun J_=>(0≤x∧x<(list.n:Int)∧list.A.isSome=true)∧∃g:A_,(loadVar 348 ((gA list.A).add (x.toNat*19))).run Tryz.prog w0=.ok (.agg g) w0∧New (.cells #[.int .u8 0,.int .u8 0,.int .u8 0,.int .u8 0,.int .u8 0,.int .u8 0,.int .u8 0,.int .u8 0,.int .u8 0,.int .u8 0,.int .u8 0,.int .u8 0,.int .u8 0,.int .u8 0,.int .u8 0,.int .u8 0,.int .u16 0,.int .u16 0,.int .u32 0] 348) w0 fun b w02=>ah_ Tryz.prog (storeVar 348 b (.agg g)) w02 fun w03=>(0≤(0:Int)∧(0:Int)≤(16:Int)∧(16:Int)≤(16:Int))∧an_ Tryz.prog .sl (Builtin.append_ #[33,33] 33 #[.slice p.A p.n p.c,.slice (some (if 16=0 then(b.add 0) else(b.add 0).add (0*1))) (16-0) (16-0)]) w03 fun xs w04=>Br with_ (∃g1:A_,(loadVar 346 (b.add 16)).run Tryz.prog w04=.ok (.agg g1) w04∧New (.cells #[.int .u16 0,.int .u16 0,.int .u32 0] 346) w04 fun t w06=>ah_ Tryz.prog (storeVar 346 t (.agg g1)) w06 fun w07=>∃n:Int,w07.cell? (t.add 0)=some (.int .u16 n)∧∃n1:Int,w07.cell? (t.add 0)=some (.int .u16 n1)∧∃n2:Int,w07.cell? (t.add 1)=some (.int .u16 n2)∧∃n3:Int,w07.cell? (t.add 1)=some (.int .u16 n3)∧∃n4:Int,w07.cell? (t.add 2)=some (.int .u32 n4)∧∃n5:Int,w07.cell? (t.add 2)=some (.int .u32 n5)∧∃n6:Int,w07.cell? (t.add 2)=some (.int .u32 n6)∧∃n7:Int,w07.cell? (t.add 2)=some (.int .u32 n7)∧an_ Tryz.prog .sl (Instr.buildSlice 33 8 #[(0,.int .u8 (IntKind.wrap .u8 (bK_ .u16 n 8))),(1,.int .u8 (IntKind.wrap .u8 n1)),(2,.int .u8 (IntKind.wrap .u8 (bK_ .u16 n2 8))),(3,.int .u8 (IntKind.wrap .u8 n3)),(4,.int .u8 (IntKind.wrap .u8 (bK_ .u32 n4 24))),(5,.int .u8 (IntKind.wrap .u8 (bK_ .u32 n5 16))),(6,.int .u8 (IntKind.wrap .u8 (bK_ .u32 n6 8))),(7,.int .u8 (IntKind.wrap .u8 n7))]) w07 fun xs1 w08=>an_ Tryz.prog .sl (Builtin.append_ #[33,33] 33 #[.slice xs.A xs.n xs.c,.slice xs1.A xs1.n xs1.c]) w08 fun xs2 w09=>J_ xs2 w09) (J_ xs w04)) (R p w0)
theorem ky_.calls (list:Sl) (with_:Bool) (w:World) (R:Sl→W_) (h:ky_ list with_ w R):mG_ list with_ w R:=
 ac_ (ai_ af_) ay_ Tryz.func157 [(9,⟨[(5,.sl),(11,.i .i64)],[1,9,10]⟩),(5,⟨[(5,.sl)],[1,9,10,11]⟩)] [.sl] [.slice list.A list.n list.c,.bool with_] w R (Eq.mp (show ky_ list with_ w R=vcF Tryz.prog G Tryz.f157 [(9,⟨[(5,.sl),(11,.i .i64)],[1,9,10]⟩),(5,⟨[(5,.sl)],[1,9,10,11]⟩)] [.sl] [.slice list.A list.n list.c,.bool with_] w R by kernel_rfl) h)
def gf_ (d:O_) (c:A_) (p:Sl) (n:Int) (w:World) (R:Sl→(A_)→Bool→W_):Prop:=
 New (.cells c 135) w fun c1 w0=>New (.cells #[.int .u8 0,.int .u8 0,.int .u16 0,.int .u64 0,.bool false,.int .i64 0,.int .i64 0,.bool false,.bool false,.slice none 0 0] 35) w0 fun a w01=>∃n1:Int,w01.cell? (c1.add 6)=some (.int .u8 n1)∧kp_ p (n1 != 0) w01 fun xs b w02=>Br ((!b)||((IntKind.wrap .u64 (xs.n:Int)) != n)) (jE_  w02 fun g w03=>ah_ Tryz.prog (storeVar 35 a (.agg g)) w03 fun w04=>∃res:A_,(loadVar 35 a).run Tryz.prog w04=.ok (.agg res) w04∧R (⟨none,0,0⟩:Sl) res false w04) (∃(I:Int→W_) (μ:Int→World→Nat),I 0 w02∧∀(x:Int) (w05:World),I x w05→Br (decide (x<(xs.n:Int))) (aR_ (fun(w06:World)=>I (IntKind.wrap .i64 (x+1)) w06∧μ (IntKind.wrap .i64 (x+1)) w06<μ x w05) fun J_=>∃n2:Int,w05.cell? (c1.add 2)=some (.int .u64 n2)∧Br (!(n1 != 0)) (∀w07,w07=w05.drew→∃S:W_,S w07∧d.isSome=true∧∃n3:Int,(∀u,S u→u.cell? ((gA d).add 1)=some (.int .u8 n3))∧(0≤x∧x<(xs.n:Int)∧xs.A.isSome=true)∧∃g1:A_,(∀u1,S u1→(loadVar 344 (((gA xs.A).add (x.toNat*19)).add 0)).run Tryz.prog u1=.ok (.agg g1) u1)∧mH_ n3 (IntKind.wrap .u64 (n2+(IntKind.wrap .u64 x))) g1 0 w07 fun g2 w08=>(0≤x∧x<(xs.n:Int)∧xs.A.isSome=true)∧ah_ Tryz.prog (storeVar 346 (((gA xs.A).add (x.toNat*19)).add 16) (.agg g2)) w08 fun w09=>J_ w09) (∀w010,w010=w05.drew→∃S1:W_,S1 w010∧d.isSome=true∧∃n4:Int,(∀u2,S1 u2→u2.cell? ((gA d).add 1)=some (.int .u8 n4))∧∃n5:Int,(∀u3,S1 u3→u3.cell? (c1.add 6)=some (.int .u8 n5))∧(0≤x∧x<(xs.n:Int)∧xs.A.isSome=true)∧∃g3:A_,(∀u4,S1 u4→(loadVar 348 ((gA xs.A).add (x.toNat*19))).run Tryz.prog u4=.ok (.agg g3) u4)∧lm_ n4 n5 (IntKind.wrap .u64 (n2+(IntKind.wrap .u64 x))) g3 w010 fun n6 w011=>Br (n6 != 0) (lR_ 11 n6 (IntKind.wrap .u64 (n2+(IntKind.wrap .u64 x))) w011 fun g4 w012=>ah_ Tryz.prog (storeVar 35 a (.agg g4)) w012 fun w013=>∃res1:A_,(loadVar 35 a).run Tryz.prog w013=.ok (.agg res1) w013∧R (⟨none,0,0⟩:Sl) res1 false w013) (J_ w011))) (ah_ Tryz.prog (storeVar 35 a (.agg #[.int .u8 0,.int .u8 0,.int .u16 0,.int .u64 0,.bool false,.int .i64 0,.int .i64 0,.bool false,.bool false,.slice none 0 0])) w05 fun w014=>∃res2:A_,(loadVar 35 a).run Tryz.prog w014=.ok (.agg res2) w014∧R xs res2 true w014))
theorem gf_.calls (d:O_) (c:A_) (p:Sl) (n:Int) (w:World) (R:Sl→(A_)→Bool→W_) (h:gf_ d c p n w R):f9_ d c p n w R:=
 ac_ (ai_ af_) ay_ Tryz.func158 [(18,⟨[(38,.i .i64)],[0,5,9,11,12,37]⟩),(5,⟨[],[0,5,9,11,12,37,38]⟩)] [.sl,.ag,.b] [.pointer d,.agg c,.slice p.A p.n p.c,.int .u64 n] w R (Eq.mp (show gf_ d c p n w R=vcF Tryz.prog G Tryz.f158 [(18,⟨[(38,.i .i64)],[0,5,9,11,12,37]⟩),(5,⟨[],[0,5,9,11,12,37,38]⟩)] [.sl,.ag,.b] [.pointer d,.agg c,.slice p.A p.n p.c,.int .u64 n] w R by kernel_rfl) h)
def d7_ (s:O_) (w:World) (R:Int→W_):Prop:=
 Br ((s).isNone) (R 8 w) (s.isSome=true∧∃p:O_,w.cell? ((gA s).add 0)=some (.pointer p)∧dY_ p w fun n w0=>R n w0)
theorem d7_.calls (s:O_) (w:World) (R:Int→W_) (h:d7_ s w R):fQ_ s w R:=
 ac_ (ai_ af_) ay_ Tryz.func161 [] [.i .i64] [.pointer s] w R (Eq.mp (show d7_ s w R=vcF Tryz.prog G Tryz.f161 [] [.i .i64] [.pointer s] w R by kernel_rfl) h)
open Go CF
set_option linter.unusedVariables false
set_option maxRecDepth 100000
open Go CF
set_option linter.unusedVariables false
set_option maxRecDepth 100000
def d8_ (w_:O_) (file:ByteArray) (off:Int) (n:Int) (w:World) (R:Sl→Int→W_):Prop:=
 hs_ file w fun b w0=>Br (((!b)||(decide (off<0)))||(decide (n<0))) (R (⟨none,0,0⟩:Sl) 1 w0) (Br ((w_).isNone) (R (⟨none,0,0⟩:Sl) 8 w0) (w_.isSome=true∧∃m:Option Nat,w0.cell? ((gA w_).add 0)=some (.map m)∧∃r:Sl×Bool,(Instr.lookup 106 (.map m) (.string file) true).run Tryz.prog w0=.ok (.tuple #[.slice r.1.A r.1.n r.1.c,.bool r.2]) w0∧cM_ w_ w0 fun n1 w01=>Br (n1 != 0) (R (⟨none,0,0⟩:Sl) n1 w01) (Br (!r.2) (R (⟨none,0,0⟩:Sl) 8 w01) (Br (decide (off≥(r.1.n:Int))) (R (⟨none,0,0⟩:Sl) 0 w01) ((0≤off∧off≤(IntKind.wrap .i64 (off+(mn n (IntKind.wrap .i64 ((r.1.n:Int)-off)))))∧(IntKind.wrap .i64 (off+(mn n (IntKind.wrap .i64 ((r.1.n:Int)-off)))))≤(r.1.c:Int)∧r.1.n≤r.1.c)∧an_ Tryz.prog .sl (Builtin.append_ #[33,33] 33 #[.slice none 0 0,.slice (aM_ r.1.A r.1.c off.toNat 1) ((IntKind.wrap .i64 (off+(mn n (IntKind.wrap .i64 ((r.1.n:Int)-off))))).toNat-off.toNat) (r.1.c-off.toNat)]) w01 fun xs w02=>R xs 0 w02)))))
theorem d8_.calls (w_:O_) (file:ByteArray) (off:Int) (n:Int) (w:World) (R:Sl→Int→W_) (h:d8_ w_ file off n w R):cL_ w_ file off n w R:=
 ac_ (ai_ af_) ay_ Tryz.func205 [] [.sl,.i .i64] [.pointer w_,.string file,.int .i64 off,.int .i64 n] w R (Eq.mp (show d8_ w_ file off n w R=vcF Tryz.prog G Tryz.f205 [] [.sl,.i .i64] [.pointer w_,.string file,.int .i64 off,.int .i64 n] w R by kernel_rfl) h)
def d9_ (s:O_) (i:Int) (w:World) (R:ByteArray→W_):Prop:=
 ∀w0,w0=w.drew→∃S:W_,S w0∧s.isSome=true∧∃s1:ByteArray,(∀u,S u→u.cell? ((gA s).add 1)=some (.string s1))∧(s1.size+lP_.size≤9223372036854775807)∧an_ Tryz.prog .sl (Instr.buildSlice 33 1 #[(0,.int .u8 (IntKind.wrap .u8 (IntKind.wrap .i64 (48+i))))]) w0 fun xs w01=>S w01∧∃S1:W_,S1 w01∧(∀u1,S1 u1→S u1)∧∃s2:ByteArray,(∀u2,S1 u2→(convert 33 9 (.slice xs.A xs.n xs.c)).run Tryz.prog u2=.ok (.string s2) u2)∧((s1++lP_).size+s2.size≤9223372036854775807)∧R ((s1++lP_)++s2) w01
theorem d9_.calls (s:O_) (i:Int) (w:World) (R:ByteArray→W_) (h:d9_ s i w R):dU_ s i w R:=
 ac_ (ai_ af_) ay_ Tryz.func206 [] [.s] [.pointer s,.int .i64 i] w R (Eq.mp (show d9_ s i w R=vcF Tryz.prog G Tryz.f206 [] [.s] [.pointer s,.int .i64 i] w R by kernel_rfl) h)
def gg_ (p:Sl) (w:World) (R:Int→Sl→Int→W_):Prop:=
 ((!(decide ((p.n:Int)<20)))=true→(0≤(0:Int)∧(0:Int)≤(4:Int)∧(4:Int)≤(p.c:Int)∧p.n≤p.c))∧∃s:ByteArray,((!(decide ((p.n:Int)<20)))=true→(convert 33 9 (.slice (aM_ p.A p.c 0 1) (4-0) (p.c-0))).run Tryz.prog w=.ok (.string s) w)∧Br ((decide ((p.n:Int)<20))||(!(sEq s ts_))) (R 0 (⟨none,0,0⟩:Sl) 3 w) (fB_ p 4 8 w fun n n1 w0=>fB_ p 12 4 w0 fun n2 n3 w01=>Br ((decide (n2>4096))||(decide ((IntKind.wrap .i64 n2)>(IntKind.wrap .i64 ((p.n:Int)-20))))) (R 0 (⟨none,0,0⟩:Sl) 3 w01) (fB_ p (IntKind.wrap .i64 (16+(IntKind.wrap .i64 n2))) 4 w01 fun n4 n5 w02=>(0≤(0:Int)∧(0:Int)≤(IntKind.wrap .u64 (16+n2))∧(IntKind.wrap .u64 (16+n2))≤(p.c:Int)∧p.n≤p.c)∧kq_ ⟨(aM_ p.A p.c 0 1),((IntKind.wrap .u64 (16+n2)).toNat-0),(p.c-0)⟩ w02 fun n6 w03=>Br ((IntKind.wrap .u32 n4) != n6) (R 0 (⟨none,0,0⟩:Sl) 5 w03) ((0≤(16:Int)∧(16:Int)≤(IntKind.wrap .u64 (16+n2))∧(IntKind.wrap .u64 (16+n2))≤(p.c:Int)∧p.n≤p.c)∧an_ Tryz.prog .sl (Builtin.append_ #[33,33] 33 #[.slice none 0 0,.slice (aM_ p.A p.c 16 1) ((IntKind.wrap .u64 (16+n2)).toNat-16) (p.c-16)]) w03 fun xs w04=>R n xs 0 w04)))
theorem gg_.calls (p:Sl) (w:World) (R:Int→Sl→Int→W_) (h:gg_ p w R):h5_ p w R:=
 ac_ (ai_ af_) ay_ Tryz.func207 [] [.i .u64,.sl,.i .i64] [.slice p.A p.n p.c] w R (Eq.mp (show gg_ p w R=vcF Tryz.prog G Tryz.f207 [] [.i .u64,.sl,.i .i64] [.slice p.A p.n p.c] w R by kernel_rfl) h)
def hX_ (kind:Int) (w:World) (R:Bool→W_):Prop:=
 R (((kind==1)||(kind==3))||((decide (kind≥5))&&(decide (kind≤8)))) w
theorem hX_.calls (kind:Int) (w:World) (R:Bool→W_) (h:hX_ kind w R):gF_ kind w R:=
 ac_ (ai_ af_) ay_ Tryz.func208 [] [.b] [.int .u8 kind] w R (Eq.mp (show hX_ kind w R=vcF Tryz.prog G Tryz.f208 [] [.b] [.int .u8 kind] w R by kernel_rfl) h)
def hY_ (c:O_) (p:Sl) (w:World) (R:Int→W_):Prop:=
 Br ((p.n:Int)==6) (bh_ p 1 3 w fun n w0=>bh_ p 4 1 w0 fun n1 w01=>c.isSome=true∧Put ((gA c).add 2) (.int .u64 (bz_ .u64 n 2097151)) w01 fun w02=>c.isSome=true∧Put ((gA c).add 3) (.int .u64 n1) w02 fun w03=>c.isSome=true∧∃n2:Int,w03.cell? ((gA c).add 3)=some (.int .u64 n2)∧Br (n2==0) (c.isSome=true∧Put ((gA c).add 3) (.int .u64 256) w03 fun w05=>R 4 w05) (R 4 w03)) (Br ((p.n:Int)==10) (bh_ p 2 4 w fun n3 w06=>bh_ p 7 2 w06 fun n4 w07=>c.isSome=true∧Put ((gA c).add 2) (.int .u64 n3) w07 fun w08=>c.isSome=true∧Put ((gA c).add 3) (.int .u64 n4) w08 fun w09=>R 7 w09) (bh_ p 2 8 w fun n5 w010=>bh_ p 10 4 w010 fun n6 w011=>c.isSome=true∧Put ((gA c).add 2) (.int .u64 n5) w011 fun w012=>c.isSome=true∧Put ((gA c).add 3) (.int .u64 n6) w012 fun w013=>R 10 w013))
theorem hY_.calls (c:O_) (p:Sl) (w:World) (R:Int→W_) (h:hY_ c p w R):ll_ c p w R:=
 ac_ (ai_ af_) ay_ Tryz.func209 [] [.i .i64] [.pointer c,.slice p.A p.n p.c] w R (Eq.mp (show hY_ c p w R=vcF Tryz.prog G Tryz.f209 [] [.i .i64] [.pointer c,.slice p.A p.n p.c] w R by kernel_rfl) h)
def io_ (p:Sl) (at_:Int) (v:A_) (w:World) (R:(A_)→Int→(A_)→Bool→W_):Prop:=
 New (.cells v 142) w fun v1 w0=>New (.cells #[.bool false,.bool false,.bool false] 142) w0 fun a w01=>New (.cells #[.int .u8 0,.int .u16 0,.int .u64 0,.bool false,.int .i64 0,.int .i64 0,.bool false,.bool false] 32) w01 fun a1 w02=>(0≤at_∧at_≤(p.n:Int)∧(p.n:Int)≤(p.c:Int)∧p.n≤p.c)∧(0≤(0:Int)∧(0:Int)<(((((p.n:Int)).toNat-at_.toNat):Nat):Int)∧(aM_ p.A p.c at_.toNat 1).isSome=true)∧∃n:Int,w02.cell? ((gA (aM_ p.A p.c at_.toNat 1)).add ((0:Int).toNat*1))=some (.int .u8 n)∧aR_ (fun(want:Sl) (w03:World)=>∀w04,w04=w03.drew→∃S:W_,S w04∧(((decide ((((((p.n:Int)).toNat-at_.toNat):Nat):Int)<(want.n:Int)))&&(!(decide ((((((p.n:Int)).toNat-at_.toNat):Nat):Int)<2))))=true→(0≤(1:Int)∧(1:Int)<(((((p.n:Int)).toNat-at_.toNat):Nat):Int)∧(aM_ p.A p.c at_.toNat 1).isSome=true))∧∃n1:Int,(((decide ((((((p.n:Int)).toNat-at_.toNat):Nat):Int)<(want.n:Int)))&&(!(decide ((((((p.n:Int)).toNat-at_.toNat):Nat):Int)<2))))=true→(∀u,S u→u.cell? ((gA (aM_ p.A p.c at_.toNat 1)).add ((1:Int).toNat*1))=some (.int .u8 n1)))∧(((decide ((((((p.n:Int)).toNat-at_.toNat):Nat):Int)<(want.n:Int)))&&(!(decide ((((((p.n:Int)).toNat-at_.toNat):Nat):Int)<2))))=true→(0≤(1:Int)∧(1:Int)<(want.n:Int)∧want.A.isSome=true))∧∃n2:Int,(((decide ((((((p.n:Int)).toNat-at_.toNat):Nat):Int)<(want.n:Int)))&&(!(decide ((((((p.n:Int)).toNat-at_.toNat):Nat):Int)<2))))=true→(∀u1,S u1→u1.cell? ((gA want.A).add ((1:Int).toNat*1))=some (.int .u8 n2)))∧Br ((decide ((((((p.n:Int)).toNat-at_.toNat):Nat):Int)<2))||((decide ((((((p.n:Int)).toNat-at_.toNat):Nat):Int)<(want.n:Int)))&&(n1==n2))) (∃g:A_,(loadVar 142 v1).run Tryz.prog w04=.ok (.agg g) w04∧ah_ Tryz.prog (storeVar 142 a (.agg g)) w04 fun w05=>ah_ Tryz.prog (storeVar 32 a1 (.agg #[.int .u8 5,.int .u16 6656,.int .u64 0,.bool false,.int .i64 0,.int .i64 0,.bool false,.bool false])) w05 fun w06=>∃res:A_,(loadVar 142 a).run Tryz.prog w06=.ok (.agg res) w06∧∃res1:A_,(loadVar 32 a1).run Tryz.prog w06=.ok (.agg res1) w06∧R res 0 res1 false w06) (∀w07,w07=w04.drew→∃S1:W_,S1 w07∧(0≤(1:Int)∧(1:Int)<(((((p.n:Int)).toNat-at_.toNat):Nat):Int)∧(aM_ p.A p.c at_.toNat 1).isSome=true)∧∃n3:Int,(∀u2,S1 u2→u2.cell? ((gA (aM_ p.A p.c at_.toNat 1)).add ((1:Int).toNat*1))=some (.int .u8 n3))∧(0≤(1:Int)∧(1:Int)<(want.n:Int)∧want.A.isSome=true)∧∃n4:Int,(∀u3,S1 u3→u3.cell? ((gA want.A).add ((1:Int).toNat*1))=some (.int .u8 n4))∧Br (n3 != n4) (∀w08,w08=w07.drew→∃S2:W_,S2 w08∧∃g1:A_,(∀u4,S2 u4→(loadVar 142 v1).run Tryz.prog u4=.ok (.agg g1) u4)∧et_ (IntKind.wrap .i64 (at_+1)) (-1) false w08 fun g2 w09=>S2 w09∧ah_ Tryz.prog (storeVar 142 a (.agg g1)) w09 fun w010=>ah_ Tryz.prog (storeVar 32 a1 (.agg g2)) w010 fun w011=>∃res2:A_,(loadVar 142 a).run Tryz.prog w011=.ok (.agg res2) w011∧∃res3:A_,(loadVar 32 a1).run Tryz.prog w011=.ok (.agg res3) w011∧R res2 0 res3 false w011) (∃(I:Int→W_) (μ:Int→World→Nat),I 2 w07∧∀(i:Int) (w012:World),I i w012→Br (decide (i<(want.n:Int))) (aR_ (fun(w013:World)=>I (IntKind.wrap .i64 (i+1)) w013∧μ (IntKind.wrap .i64 (i+1)) w013<μ i w012) fun J_=>aR_ (fun(can:Int) (w014:World)=>∃(I1:Int→W_) (μ1:Int→World→Nat),I1 7 w014∧∀(bit:Int) (w015:World),I1 bit w015→Br (decide (bit≥0)) ((0≤i∧i<(((((p.n:Int)).toNat-at_.toNat):Nat):Int)∧(aM_ p.A p.c at_.toNat 1).isSome=true)∧∃n5:Int,w015.cell? ((gA (aM_ p.A p.c at_.toNat 1)).add (i.toNat*1))=some (.int .u8 n5)∧(0≤bit)∧Br ((bz_ .u8 (bK_ .u8 (px_ .u8 n5 can) bit.toNat) 1)==1) (∀w016,w016=w015.drew→∃S3:W_,S3 w016∧∃g3:A_,(∀u5,S3 u5→(loadVar 142 v1).run Tryz.prog u5=.ok (.agg g3) u5)∧et_ (IntKind.wrap .i64 (at_+i)) bit false w016 fun g4 w017=>S3 w017∧ah_ Tryz.prog (storeVar 142 a (.agg g3)) w017 fun w018=>ah_ Tryz.prog (storeVar 32 a1 (.agg g4)) w018 fun w019=>∃res4:A_,(loadVar 142 a).run Tryz.prog w019=.ok (.agg res4) w019∧∃res5:A_,(loadVar 32 a1).run Tryz.prog w019=.ok (.agg res5) w019∧R res4 0 res5 false w019) (I1 (IntKind.wrap .i64 (bit-1)) w015∧μ1 (IntKind.wrap .i64 (bit-1)) w015<μ1 bit w015)) (J_ w015)) fun J_1=>Br (i==2) (J_1 4 w012) (((i==4)=true→(0≤(0:Int)∧(0:Int)<(((((p.n:Int)).toNat-at_.toNat):Nat):Int)∧(aM_ p.A p.c at_.toNat 1).isSome=true))∧∃n6:Int,((i==4)=true→w012.cell? ((gA (aM_ p.A p.c at_.toNat 1)).add ((0:Int).toNat*1))=some (.int .u8 n6))∧Br ((i==4)&&(n6==10)) (J_1 8 w012) (J_1 0 w012))) ((0≤(0:Int)∧(0:Int)<(((((p.n:Int)).toNat-at_.toNat):Nat):Int)∧(aM_ p.A p.c at_.toNat 1).isSome=true)∧∃n7:Int,w012.cell? ((gA (aM_ p.A p.c at_.toNat 1)).add ((0:Int).toNat*1))=some (.int .u8 n7)∧aR_ (fun(w022:World)=>∃g5:A_,(loadVar 142 v1).run Tryz.prog w022=.ok (.agg g5) w022∧ah_ Tryz.prog (storeVar 142 a (.agg g5)) w022 fun w023=>ah_ Tryz.prog (storeVar 32 a1 (.agg #[.int .u8 0,.int .u16 0,.int .u64 0,.bool false,.int .i64 0,.int .i64 0,.bool false,.bool false])) w023 fun w024=>∃res6:A_,(loadVar 142 a).run Tryz.prog w024=.ok (.agg res6) w024∧∃res7:A_,(loadVar 32 a1).run Tryz.prog w024=.ok (.agg res7) w024∧R res6 (want.n:Int) res7 true w024) fun J_2=>Br (n7==8) ((0≤(2:Int)∧(2:Int)<(((((p.n:Int)).toNat-at_.toNat):Nat):Int)∧(aM_ p.A p.c at_.toNat 1).isSome=true)∧∃n8:Int,w012.cell? ((gA (aM_ p.A p.c at_.toNat 1)).add ((2:Int).toNat*1))=some (.int .u8 n8)∧Put (v1.add 0) (.bool (n8 != 0)) w012 fun w025=>J_2 w025) (∀w026,w026=w012.drew→∃S4:W_,S4 w026∧(0≤(2:Int)∧(2:Int)<(((((p.n:Int)).toNat-at_.toNat):Nat):Int)∧(aM_ p.A p.c at_.toNat 1).isSome=true)∧∃n9:Int,(∀u6,S4 u6→u6.cell? ((gA (aM_ p.A p.c at_.toNat 1)).add ((2:Int).toNat*1))=some (.int .u8 n9))∧(0≤(4:Int)∧(4:Int)<(((((p.n:Int)).toNat-at_.toNat):Nat):Int)∧(aM_ p.A p.c at_.toNat 1).isSome=true)∧∃n10:Int,(∀u7,S4 u7→u7.cell? ((gA (aM_ p.A p.c at_.toNat 1)).add ((4:Int).toNat*1))=some (.int .u8 n10))∧Put (v1.add 1) (.bool (n9 != 0)) w026 fun w027=>S4 w027∧Put (v1.add 2) (.bool (n10 != 0)) w027 fun w028=>J_2 w028))))) fun J_3=>Br (n==8) (f7_ #[.bool false,.bool false,.bool false] w02 fun xs w030=>J_3 xs w030) (Br (n==10) (f8_ #[.bool false,.bool false,.bool false] w02 fun xs1 w031=>J_3 xs1 w031) (∀w032,w032=w02.drew→∃S5:W_,S5 w032∧∃g6:A_,(∀u8,S5 u8→(loadVar 142 v1).run Tryz.prog u8=.ok (.agg g6) u8)∧et_ at_ (-1) false w032 fun g7 w033=>S5 w033∧ah_ Tryz.prog (storeVar 142 a (.agg g6)) w033 fun w034=>ah_ Tryz.prog (storeVar 32 a1 (.agg g7)) w034 fun w035=>∃res8:A_,(loadVar 142 a).run Tryz.prog w035=.ok (.agg res8) w035∧∃res9:A_,(loadVar 32 a1).run Tryz.prog w035=.ok (.agg res9) w035∧R res8 0 res9 false w035))
theorem io_.calls (p:Sl) (at_:Int) (v:A_) (w:World) (R:(A_)→Int→(A_)→Bool→W_) (h:io_ p at_ v w R):ko_ p at_ v w R:=
 ac_ (ai_ af_) ay_ Tryz.func210 [(42,⟨[(12,.i .i64)],[1,5,6,8,10,11]⟩),(8,⟨[],[1,5,6,8,10,11,12]⟩),(66,⟨[(14,.i .i64)],[1,5,6,8,10,11,12,13]⟩),(11,⟨[(13,.i .u8)],[1,5,6,8,10,11,12]⟩),(82,⟨[],[5,6,8,11]⟩),(2,⟨[(11,.sl)],[1,5,6,8,10]⟩)] [.ag,.i .i64,.ag,.b] [.slice p.A p.n p.c,.int .i64 at_,.agg v] w R (Eq.mp (show io_ p at_ v w R=vcF Tryz.prog G Tryz.f210 [(42,⟨[(12,.i .i64)],[1,5,6,8,10,11]⟩),(8,⟨[],[1,5,6,8,10,11,12]⟩),(66,⟨[(14,.i .i64)],[1,5,6,8,10,11,12,13]⟩),(11,⟨[(13,.i .u8)],[1,5,6,8,10,11,12]⟩),(82,⟨[],[5,6,8,11]⟩),(2,⟨[(11,.sl)],[1,5,6,8,10]⟩)] [.ag,.i .i64,.ag,.b] [.slice p.A p.n p.c,.int .i64 at_,.agg v] w R by kernel_rfl) h)
def cO_ (s:O_) (payload:Sl) (w:World) (R:Int→Int→W_):Prop:=
 Br (decide ((payload.n:Int)>4096)) (R 0 2 w) (Br ((s).isNone) (R 0 8 w) (s.isSome=true∧∃b:Bool,w.cell? ((gA s).add 2)=some (.bool b)∧aR_ (fun(w0:World)=>s.isSome=true∧Put ((gA s).add 2) (.bool false) w0 fun w01=>s.isSome=true∧∃n:Int,w01.cell? ((gA s).add 3)=some (.int .i64 n)∧aR_ (fun(to:Int) (w02:World)=>s.isSome=true∧∃n1:Int,w02.cell? ((gA s).add 4)=some (.int .u64 n1)∧h6_ (IntKind.wrap .u64 (n1+1)) payload w02 fun xs n2 w03=>∀w04,w04=w03.drew→∃S:W_,S w04∧s.isSome=true∧∃p:O_,(∀u,S u→u.cell? ((gA s).add 0)=some (.pointer p))∧dU_ s to w04 fun s1 w05=>S w05∧fo_ p s1 0 xs w05 fun n3 w06=>aR_ (fun(e:Int) (w07:World)=>Br (e != 0) (R 0 e w07) (s.isSome=true∧∃n4:Int,w07.cell? ((gA s).add 4)=some (.int .u64 n4)∧s.isSome=true∧Put ((gA s).add 3) (.int .i64 to) w07 fun w08=>s.isSome=true∧Put ((gA s).add 4) (.int .u64 (IntKind.wrap .u64 (n4+1))) w08 fun w09=>s.isSome=true∧Put ((gA s).add 2) (.bool true) w09 fun w010=>s.isSome=true∧∃n5:Int,w010.cell? ((gA s).add 4)=some (.int .u64 n5)∧R n5 0 w010)) fun J_=>Br (n3==0) (s.isSome=true∧∃p1:O_,w06.cell? ((gA s).add 0)=some (.pointer p1)∧dY_ p1 w06 fun n6 w011=>J_ n6 w011) (J_ n3 w06)) fun J_1=>Br (n==0) (J_1 1 w01) (J_1 0 w01)) fun J_2=>Br (!b) (cK_ s w fun xs1 n7 n8 w012=>Br ((n8 != 0)&&(n8 != 8)) (R 0 n8 w012) (J_2 w012)) (J_2 w)))
theorem cO_.calls (s:O_) (payload:Sl) (w:World) (R:Int→Int→W_) (h:cO_ s payload w R):cg_ s payload w R:=
 ac_ (ai_ af_) ay_ Tryz.func211 [(49,⟨[(12,.i .i64)],[0,9]⟩),(37,⟨[(9,.i .i64)],[0,1]⟩),(19,⟨[],[0,1]⟩)] [.i .u64,.i .i64] [.pointer s,.slice payload.A payload.n payload.c] w R (Eq.mp (show cO_ s payload w R=vcF Tryz.prog G Tryz.f211 [(49,⟨[(12,.i .i64)],[0,9]⟩),(37,⟨[(9,.i .i64)],[0,1]⟩),(19,⟨[],[0,1]⟩)] [.i .u64,.i .i64] [.pointer s,.slice payload.A payload.n payload.c] w R by kernel_rfl) h)
def hA_ (v:A_) (w:World) (R:Int→W_):Prop:=
 New (.cells v 142) w fun v1 w0=>∃b:Bool,w0.cell? (v1.add 0)=some (.bool b)∧∃b1:Bool,w0.cell? (v1.add 1)=some (.bool b1)∧∃b2:Bool,w0.cell? (v1.add 2)=some (.bool b2)∧an_ Tryz.prog .sl (Instr.buildSlice 387 3 #[(0,.bool b),(1,.bool b1),(2,.bool b2)]) w0 fun xs w01=>∃(I:Int→Int→W_) (μ:Int→Int→World→Nat),I 0 0 w01∧∀(b3:Int) (x:Int) (w02:World),I b3 x w02→Br (decide (x<(xs.n:Int))) (aR_ (fun(b4:Int) (w03:World)=>I b4 (IntKind.wrap .i64 (x+1)) w03∧μ b4 (IntKind.wrap .i64 (x+1)) w03<μ b3 x w02) fun J_=>(0≤x∧x<(xs.n:Int)∧xs.A.isSome=true)∧∃b5:Bool,w02.cell? ((gA xs.A).add (x.toNat*1))=some (.bool b5)∧Br b5 ((0≤x)∧J_ (bOr .u8 b3 (cl_ .u8 1 x.toNat)) w02) (J_ b3 w02)) (R b3 w02)
theorem hA_.calls (v:A_) (w:World) (R:Int→W_) (h:hA_ v w R):jD_ v w R:=
 ac_ (ai_ af_) ay_ Tryz.func212 [(9,⟨[(3,.i .u8),(14,.i .i64)],[12,13]⟩),(5,⟨[(3,.i .u8)],[12,13,14]⟩)] [.i .u8] [.agg v] w R (Eq.mp (show hA_ v w R=vcF Tryz.prog G Tryz.f212 [(9,⟨[(3,.i .u8),(14,.i .i64)],[12,13]⟩),(5,⟨[(3,.i .u8)],[12,13,14]⟩)] [.i .u8] [.agg v] w R by kernel_rfl) h)
def fH_ (t:O_) (w:World) (R:Sl→W_):Prop:=
 ((!((t).isNone))=true→t.isSome=true)∧∃b:Bool,((!((t).isNone))=true→w.cell? ((gA t).add 4)=some (.bool b))∧Br (((t).isNone)||(!b)) (R (⟨none,0,0⟩:Sl) w) (dj_ t w fun n n1 w0=>t.isSome=true∧∃xs:Sl,w0.cell? ((gA t).add 0)=some (.slice xs.A xs.n xs.c)∧an_ Tryz.prog .sl (Instr.buildSlice 33 5 #[(0,.int .u8 80),(1,.int .u8 82),(2,.int .u8 n),(3,.int .u8 (IntKind.wrap .u8 n1)),(4,.int .u8 (IntKind.wrap .u8 (xs.n:Int)))]) w0 fun xs1 w01=>t.isSome=true∧∃xs2:Sl,w01.cell? ((gA t).add 0)=some (.slice xs2.A xs2.n xs2.c)∧∃(I:Sl→Int→W_) (μ:Sl→Int→World→Nat),I xs1 0 w01∧∀(p:Sl) (x:Int) (w02:World),I p x w02→Br (decide (x<(xs2.n:Int))) ((0≤x∧x<(xs2.n:Int)∧xs2.A.isSome=true)∧∃g:A_,(loadVar 97 ((gA xs2.A).add (x.toNat*2))).run Tryz.prog w02=.ok (.agg g) w02∧New (.cells #[.int .i64 0,.int .u64 0] 97) w02 fun r w03=>ah_ Tryz.prog (storeVar 97 r (.agg g)) w03 fun w04=>∀w05,w05=w04.drew→∃S:W_,S w05∧∃n2:Int,(∀u,S u→u.cell? (r.add 1)=some (.int .u64 n2))∧an_ Tryz.prog .sl (Instr.makeSlice 33 (.int .i64 9) (.int .i64 9)) w05 fun xs3 w06=>S w06∧jR_ xs3 1 8 n2 w06 fun xs4 n3 w07=>∃n4:Int,w07.cell? (r.add 0)=some (.int .i64 n4)∧(0≤(0:Int)∧(0:Int)<(xs4.n:Int)∧xs4.A.isSome=true)∧Put ((gA xs4.A).add ((0:Int).toNat*1)) (.int .u8 (IntKind.wrap .u8 n4)) w07 fun w08=>an_ Tryz.prog .sl (Builtin.append_ #[33,33] 33 #[.slice p.A p.n p.c,.slice xs4.A xs4.n xs4.c]) w08 fun xs5 w09=>I xs5 (IntKind.wrap .i64 (x+1)) w09∧μ xs5 (IntKind.wrap .i64 (x+1)) w09<μ p x w02) (R p w02))
theorem fH_.calls (t:O_) (w:World) (R:Sl→W_) (h:fH_ t w R):fC_ t w R:=
 ac_ (ai_ af_) ay_ Tryz.func213 [(18,⟨[(5,.sl),(39,.i .i64)],[37,38]⟩)] [.sl] [.pointer t] w R (Eq.mp (show fH_ t w R=vcF Tryz.prog G Tryz.f213 [(18,⟨[(5,.sl),(39,.i .i64)],[37,38]⟩)] [.sl] [.pointer t] w R by kernel_rfl) h)
def dz_ (t:O_) (nexus:Int) (o:A_) (known:Bool) (w:World) (R:Sl→W_):Prop:=
 New (.cells o 260) w fun o1 w0=>∃n:Int,w0.cell? (o1.add 3)=some (.int .u64 n)∧aR_ (fun(out:Sl) (w01:World)=>∃b:Bool,w01.cell? (o1.add 4)=some (.bool b)∧t.isSome=true∧Put ((gA t).add 4) (.bool b) w01 fun w02=>t.isSome=true∧∃n1:Int,w02.cell? ((gA t).add 1)=some (.int .u32 n1)∧t.isSome=true∧Put ((gA t).add 1) (.int .u32 (IntKind.wrap .u32 (n1+1))) w02 fun w03=>R out w03) fun J_=>Br ((n==0)&&known) (t.isSome=true∧∃n2:Int,w0.cell? ((gA t).add 2)=some (.int .u8 n2)∧eT_ n2 w0 fun b1 w04=>(b1=true→t.isSome=true)∧∃xs:Sl,(b1=true→w04.cell? ((gA t).add 0)=some (.slice xs.A xs.n xs.c))∧t.isSome=true∧∃n3:Int,w04.cell? ((gA t).add 2)=some (.int .u8 n3)∧((n3 != 0)=true→t.isSome=true)∧∃n4:Int,((n3 != 0)=true→w04.cell? ((gA t).add 3)=some (.int .i64 n4))∧ga_ t nexus 0 w04 fun w05=>((((n3 != 0)&&(n4==nexus))&&(!(b1&&((xs.n:Int)==1))))=true→t.isSome=true)∧∃n5:Int,((((n3 != 0)&&(n4==nexus))&&(!(b1&&((xs.n:Int)==1))))=true→w05.cell? ((gA t).add 2)=some (.int .u8 n5))∧bB_ (fun(b2:Bool) (w06:World)=>Br ((b1&&((xs.n:Int)==1))||(((n3 != 0)&&(n4==nexus))&&(!b2))) (fD_ t nexus w06 fun xs1 w08=>J_ xs1 w08) (J_ (⟨none,0,0⟩:Sl) w06)) fun J_1=>((((n3 != 0)&&(n4==nexus))&&(!(b1&&((xs.n:Int)==1))))=true→eT_ n5 w05 J_1)∧((((n3 != 0)&&(n4==nexus))&&(!(b1&&((xs.n:Int)==1))))=false→J_1 (Kd.dflt .b) w05)) (∃n6:Int,w0.cell? (o1.add 3)=some (.int .u64 n6)∧Br (n6 != 0) (∃n7:Int,w0.cell? (o1.add 3)=some (.int .u64 n7)∧ga_ t nexus n7 w0 fun w010=>J_ (⟨none,0,0⟩:Sl) w010) (J_ (⟨none,0,0⟩:Sl) w0))
theorem dz_.calls (t:O_) (nexus:Int) (o:A_) (known:Bool) (w:World) (R:Sl→W_) (h:dz_ t nexus o known w R):b5_ t nexus o known w R:=
 ac_ (ai_ af_) ay_ Tryz.func214 [(10,⟨[(9,.sl)],[0,6]⟩)] [.sl] [.pointer t,.int .i64 nexus,.agg o,.bool known] w R (Eq.mp (show dz_ t nexus o known w R=vcF Tryz.prog G Tryz.f214 [(10,⟨[(9,.sl)],[0,6]⟩)] [.sl] [.pointer t,.int .i64 nexus,.agg o,.bool known] w R by kernel_rfl) h)
def ea_ (t:O_) (nexus:Int) (o:A_) (w:World) (R:Int→Int→Sl→W_):Prop:=
 New (.cells o 260) w fun o1 w0=>∃n:Int,w0.cell? (o1.add 1)=some (.int .u8 n)∧gF_ n w0 fun b w01=>Br (!b) (R 2 9216 (⟨none,0,0⟩:Sl) w01) (t.isSome=true∧∃n1:Int,w01.cell? ((gA t).add 2)=some (.int .u8 n1)∧Br (n1==0) (∃n2:Int,w01.cell? (o1.add 1)=some (.int .u8 n2)∧t.isSome=true∧Put ((gA t).add 2) (.int .u8 n2) w01 fun w02=>t.isSome=true∧Put ((gA t).add 3) (.int .i64 nexus) w02 fun w03=>R 0 0 (⟨none,0,0⟩:Sl) w03) (∀w04,w04=w01.drew→∃S:W_,S w04∧dm_ t nexus w04 fun b1 w05=>S w05∧(b1=true→t.isSome=true)∧∃S1:W_,S1 w05∧(∀u,S1 u→S u)∧∃n3:Int,(b1=true→(∀u1,S1 u1→u1.cell? ((gA t).add 2)=some (.int .u8 n3)))∧∃S2:W_,S2 w05∧(∀u2,S2 u2→S1 u2)∧∃n4:Int,(b1=true→(∀u3,S2 u3→u3.cell? (o1.add 1)=some (.int .u8 n4)))∧Br (b1&&(n3==n4)) (R 0 0 (⟨none,0,0⟩:Sl) w05) (R 24 0 (⟨none,0,0⟩:Sl) w05)))
theorem ea_.calls (t:O_) (nexus:Int) (o:A_) (w:World) (R:Int→Int→Sl→W_) (h:ea_ t nexus o w R):dV_ t nexus o w R:=
 ac_ (ai_ af_) ay_ Tryz.func215 [] [.i .u8,.i .u16,.sl] [.pointer t,.int .i64 nexus,.agg o] w R (Eq.mp (show ea_ t nexus o w R=vcF Tryz.prog G Tryz.f215 [] [.i .u8,.i .u16,.sl] [.pointer t,.int .i64 nexus,.agg o] w R by kernel_rfl) h)
def eb_ (t:O_) (nexus:Int) (o:A_) (w:World) (R:Int→Int→Sl→W_):Prop:=
 New (.cells o 260) w fun o1 w0=>dm_ t nexus w0 fun b w01=>Br (!b) (R 0 0 (⟨none,0,0⟩:Sl) w01) (∀w02,w02=w01.drew→∃S:W_,S w02∧t.isSome=true∧∃n:Int,(∀u,S u→u.cell? ((gA t).add 2)=some (.int .u8 n))∧∃n1:Int,(∀u1,S u1→u1.cell? (o1.add 1)=some (.int .u8 n1))∧Br (n != n1) (R 2 9216 (⟨none,0,0⟩:Sl) w02) (fD_ t nexus w02 fun xs w03=>R 0 0 xs w03))
theorem eb_.calls (t:O_) (nexus:Int) (o:A_) (w:World) (R:Int→Int→Sl→W_) (h:eb_ t nexus o w R):dW_ t nexus o w R:=
 ac_ (ai_ af_) ay_ Tryz.func216 [] [.i .u8,.i .u16,.sl] [.pointer t,.int .i64 nexus,.agg o] w R (Eq.mp (show eb_ t nexus o w R=vcF Tryz.prog G Tryz.f216 [] [.i .u8,.i .u16,.sl] [.pointer t,.int .i64 nexus,.agg o] w R by kernel_rfl) h)
def fc_ (t:O_) (nexus:Int) (w:World) (R:Sl→W_):Prop:=
 t.isSome=true∧∃xs:Sl,w.cell? ((gA t).add 0)=some (.slice xs.A xs.n xs.c)∧∃(I:Sl→Int→W_) (μ:Sl→Int→World→Nat),I (⟨none,0,0⟩:Sl) 0 w∧∀(out:Sl) (x:Int) (w0:World),I out x w0→Br (decide (x<(xs.n:Int))) (aR_ (fun(out1:Sl) (w01:World)=>I out1 (IntKind.wrap .i64 (x+1)) w01∧μ out1 (IntKind.wrap .i64 (x+1)) w01<μ out x w0) fun J_=>(0≤x∧x<(xs.n:Int)∧xs.A.isSome=true)∧∃g:A_,(loadVar 97 ((gA xs.A).add (x.toNat*2))).run Tryz.prog w0=.ok (.agg g) w0∧New (.cells #[.int .i64 0,.int .u64 0] 97) w0 fun r w02=>ah_ Tryz.prog (storeVar 97 r (.agg g)) w02 fun w03=>∃n:Int,w03.cell? (r.add 0)=some (.int .i64 n)∧Br (n != nexus) (∃n1:Int,w03.cell? (r.add 0)=some (.int .i64 n1)∧an_ Tryz.prog .sl (Instr.buildSlice 261 1 #[(0,.agg #[.int .i64 n1,.int .u16 10755])]) w03 fun xs1 w05=>an_ Tryz.prog .sl (Builtin.append_ #[261,261] 261 #[.slice out.A out.n out.c,.slice xs1.A xs1.n xs1.c]) w05 fun xs2 w06=>J_ xs2 w06) (J_ out w03)) (t.isSome=true∧Put ((gA t).add 0) (.slice none 0 0) w0 fun w07=>t.isSome=true∧Put ((gA t).add 2) (.int .u8 0) w07 fun w08=>t.isSome=true∧Put ((gA t).add 3) (.int .i64 (-1)) w08 fun w09=>t.isSome=true∧∃n2:Int,w09.cell? ((gA t).add 1)=some (.int .u32 n2)∧t.isSome=true∧Put ((gA t).add 1) (.int .u32 (IntKind.wrap .u32 (n2+1))) w09 fun w010=>R out w010)
theorem fc_.calls (t:O_) (nexus:Int) (w:World) (R:Sl→W_) (h:fc_ t nexus w R):e5_ t nexus w R:=
 ac_ (ai_ af_) ay_ Tryz.func217 [(9,⟨[(5,.sl),(13,.i .i64)],[0,1,11,12]⟩),(5,⟨[(5,.sl)],[0,1,11,12,13]⟩)] [.sl] [.pointer t,.int .i64 nexus] w R (Eq.mp (show fc_ t nexus w R=vcF Tryz.prog G Tryz.f217 [(9,⟨[(5,.sl),(13,.i .i64)],[0,1,11,12]⟩),(5,⟨[(5,.sl)],[0,1,11,12,13]⟩)] [.sl] [.pointer t,.int .i64 nexus] w R by kernel_rfl) h)
open Go CF
set_option linter.unusedVariables false
set_option maxRecDepth 100000
def ec_ (t:O_) (nexus:Int) (o:A_) (w:World) (R:Int→Int→Sl→W_):Prop:=
 New (.cells o 260) w fun o1 w0=>∀w01,w01=w0.drew→∃S:W_,S w01∧t.isSome=true∧∃n:Int,(∀u,S u→u.cell? ((gA t).add 2)=some (.int .u8 n))∧eT_ n w01 fun b w02=>S w02∧∃S1:W_,S1 w02∧(∀u1,S1 u1→S u1)∧∃n1:Int,(b=true→(∀u2,S1 u2→u2.cell? (o1.add 3)=some (.int .u64 n1)))∧t.isSome=true∧∃xs:Sl,w02.cell? ((gA t).add 0)=some (.slice xs.A xs.n xs.c)∧∃(I:Bool→Int→W_) (μ:Bool→Int→World→Nat),I false 0 w02∧∀(held:Bool) (x:Int) (w03:World),I held x w03→Br (decide (x<(xs.n:Int))) ((0≤x∧x<(xs.n:Int)∧xs.A.isSome=true)∧∃g:A_,(loadVar 97 ((gA xs.A).add (x.toNat*2))).run Tryz.prog w03=.ok (.agg g) w03∧New (.cells #[.int .i64 0,.int .u64 0] 97) w03 fun r w04=>ah_ Tryz.prog (storeVar 97 r (.agg g)) w04 fun w05=>∀w06,w06=w05.drew→∃S2:W_,S2 w06∧((!held)=true→t.isSome=true)∧∃n2:Int,((!held)=true→(∀u3,S2 u3→u3.cell? ((gA t).add 2)=some (.int .u8 n2)))∧(((n2 != 0)&&(!held))=true→t.isSome=true)∧∃n3:Int,(((n2 != 0)&&(!held))=true→(∀u4,S2 u4→u4.cell? ((gA t).add 2)=some (.int .u8 n3)))∧bB_ (fun(b1:Bool) (w07:World)=>S2 w07∧∃S3:W_,S3 w07∧(∀u5,S3 u5→S2 u5)∧∃n4:Int,((((n2 != 0)&&(!b1))&&(!held))=true→(∀u6,S3 u6→u6.cell? (r.add 0)=some (.int .i64 n4)))∧((((n2 != 0)&&(!b1))&&(!held))=true→t.isSome=true)∧∃S4:W_,S4 w07∧(∀u7,S4 u7→S3 u7)∧∃n5:Int,((((n2 != 0)&&(!b1))&&(!held))=true→(∀u8,S4 u8→u8.cell? ((gA t).add 3)=some (.int .i64 n5)))∧∃S5:W_,S5 w07∧(∀u9,S5 u9→S4 u9)∧∃n6:Int,(((((n2 != 0)&&(!b1))&&(n4==n5))&&(!held))=true→(∀u10,S5 u10→u10.cell? (r.add 1)=some (.int .u64 n6)))∧∃S6:W_,S6 w07∧(∀u11,S6 u11→S5 u11)∧∃n7:Int,(((((n2 != 0)&&(!b1))&&(n4==n5))&&(!held))=true→(∀u12,S6 u12→u12.cell? (o1.add 3)=some (.int .u64 n7)))∧I (held||((((n2 != 0)&&(!b1))&&(n4==n5))&&(n6==n7))) (IntKind.wrap .i64 (x+1)) w07∧μ (held||((((n2 != 0)&&(!b1))&&(n4==n5))&&(n6==n7))) (IntKind.wrap .i64 (x+1)) w07<μ held x w03) fun J_=>(((n2 != 0)&&(!held))=true→eT_ n3 w06 J_)∧(((n2 != 0)&&(!held))=false→J_ (Kd.dflt .b) w06)) (∃n8:Int,w03.cell? (o1.add 3)=some (.int .u64 n8)∧Br ((n8==0)&&(!(b&&(n1==0)))) (R 2 9728 (⟨none,0,0⟩:Sl) w03) (∃n9:Int,((held||(b&&(n1==0)))=true→w03.cell? (o1.add 1)=some (.int .u8 n9))∧bB_ (fun(b2:Bool) (w08:World)=>Br ((held||(b&&(n1==0)))&&(!b2)) (R 2 9216 (⟨none,0,0⟩:Sl) w08) (t.isSome=true∧∃xs1:Sl,w08.cell? ((gA t).add 0)=some (.slice xs1.A xs1.n xs1.c)∧∃(I1:Sl→Sl→Int→W_) (μ1:Sl→Sl→Int→World→Nat),I1 (⟨none,0,0⟩:Sl) (⟨none,0,0⟩:Sl) 0 w08∧∀(out:Sl) (left_:Sl) (x1:Int) (w09:World),I1 out left_ x1 w09→Br (decide (x1<(xs1.n:Int))) (aR_ (fun(out1:Sl) (left_1:Sl) (w010:World)=>I1 out1 left_1 (IntKind.wrap .i64 (x1+1)) w010∧μ1 out1 left_1 (IntKind.wrap .i64 (x1+1)) w010<μ1 out left_ x1 w09) fun J_1=>(0≤x1∧x1<(xs1.n:Int)∧xs1.A.isSome=true)∧∃g1:A_,(loadVar 97 ((gA xs1.A).add (x1.toNat*2))).run Tryz.prog w09=.ok (.agg g1) w09∧New (.cells #[.int .i64 0,.int .u64 0] 97) w09 fun r1 w011=>ah_ Tryz.prog (storeVar 97 r1 (.agg g1)) w011 fun w012=>∃n10:Int,w012.cell? (r1.add 0)=some (.int .i64 n10)∧aR_ (fun(x2:Bool) (w014:World)=>Br x2 (∃g2:A_,(loadVar 97 r1).run Tryz.prog w014=.ok (.agg g2) w014∧an_ Tryz.prog .sl (Instr.buildSlice 67 1 #[(0,.agg g2)]) w014 fun xs2 w016=>an_ Tryz.prog .sl (Builtin.append_ #[67,67] 67 #[.slice left_.A left_.n left_.c,.slice xs2.A xs2.n xs2.c]) w016 fun xs3 w017=>J_1 out xs3 w017) (∃n11:Int,w014.cell? (r1.add 0)=some (.int .i64 n11)∧an_ Tryz.prog .sl (Instr.buildSlice 261 1 #[(0,.agg #[.int .i64 n11,.int .u16 10757])]) w014 fun xs4 w018=>an_ Tryz.prog .sl (Builtin.append_ #[261,261] 261 #[.slice out.A out.n out.c,.slice xs4.A xs4.n xs4.c]) w018 fun xs5 w019=>J_1 xs5 left_ w019)) fun J_2=>Br (n10==nexus) (J_2 (n10==nexus) w012) (∃n12:Int,w012.cell? (r1.add 1)=some (.int .u64 n12)∧∃n13:Int,w012.cell? (o1.add 3)=some (.int .u64 n13)∧J_2 ((n12 != n13)&&(!(b&&(n1==0)))) w012)) (t.isSome=true∧∃xs6:Sl,w09.cell? ((gA t).add 0)=some (.slice xs6.A xs6.n xs6.c)∧∃(I2:Bool→Int→W_) (μ2:Bool→Int→World→Nat),I2 false 0 w09∧∀(hit:Bool) (x3:Int) (w020:World),I2 hit x3 w020→Br (decide (x3<(xs6.n:Int))) ((0≤x3∧x3<(xs6.n:Int)∧xs6.A.isSome=true)∧∃g3:A_,(loadVar 97 ((gA xs6.A).add (x3.toNat*2))).run Tryz.prog w020=.ok (.agg g3) w020∧New (.cells #[.int .i64 0,.int .u64 0] 97) w020 fun r2 w021=>ah_ Tryz.prog (storeVar 97 r2 (.agg g3)) w021 fun w022=>∃n14:Int,((!hit)=true→w022.cell? (r2.add 1)=some (.int .u64 n14))∧∃n15:Int,((!hit)=true→w022.cell? (o1.add 3)=some (.int .u64 n15))∧I2 (hit||(n14==n15)) (IntKind.wrap .i64 (x3+1)) w022∧μ2 (hit||(n14==n15)) (IntKind.wrap .i64 (x3+1)) w022<μ2 hit x3 w020) (Br ((!hit)&&(!(b&&(n1==0)))) (R 24 0 (⟨none,0,0⟩:Sl) w020) (t.isSome=true∧∃n16:Int,w020.cell? ((gA t).add 2)=some (.int .u8 n16)∧t.isSome=true∧Put ((gA t).add 0) (.slice left_.A left_.n left_.c) w020 fun w023=>aR_ (fun(out4:Sl) (w024:World)=>t.isSome=true∧∃n17:Int,w024.cell? ((gA t).add 1)=some (.int .u32 n17)∧t.isSome=true∧Put ((gA t).add 1) (.int .u32 (IntKind.wrap .u32 (n17+1))) w024 fun w025=>R 0 0 out4 w025) fun J_3=>Br (held||(b&&(n1==0))) (∃n18:Int,w023.cell? (o1.add 1)=some (.int .u8 n18)∧t.isSome=true∧Put ((gA t).add 2) (.int .u8 n18) w023 fun w026=>t.isSome=true∧Put ((gA t).add 3) (.int .i64 nexus) w026 fun w027=>∃n19:Int,(decide (n16≥5)=true→w027.cell? (o1.add 1)=some (.int .u8 n19))∧Br ((decide (n16≥5))&&(n16 != n19)) (∃(I3:Sl→Int→W_) (μ3:Sl→Int→World→Nat),I3 out 0 w027∧∀(out6:Sl) (x4:Int) (w029:World),I3 out6 x4 w029→Br (decide (x4<(left_.n:Int))) (aR_ (fun(out7:Sl) (w030:World)=>I3 out7 (IntKind.wrap .i64 (x4+1)) w030∧μ3 out7 (IntKind.wrap .i64 (x4+1)) w030<μ3 out6 x4 w029) fun J_4=>(0≤x4∧x4<(left_.n:Int)∧left_.A.isSome=true)∧∃g4:A_,(loadVar 97 ((gA left_.A).add (x4.toNat*2))).run Tryz.prog w029=.ok (.agg g4) w029∧New (.cells #[.int .i64 0,.int .u64 0] 97) w029 fun r3 w031=>ah_ Tryz.prog (storeVar 97 r3 (.agg g4)) w031 fun w032=>∃n20:Int,w032.cell? (r3.add 0)=some (.int .i64 n20)∧Br (n20 != nexus) (∃n21:Int,w032.cell? (r3.add 0)=some (.int .i64 n21)∧an_ Tryz.prog .sl (Instr.buildSlice 261 1 #[(0,.agg #[.int .i64 n21,.int .u16 10756])]) w032 fun xs7 w034=>an_ Tryz.prog .sl (Builtin.append_ #[261,261] 261 #[.slice out6.A out6.n out6.c,.slice xs7.A xs7.n xs7.c]) w034 fun xs8 w035=>J_4 xs8 w035) (J_4 out6 w032)) (J_3 out6 w029)) (J_3 out w027)) (J_3 out w023)))))) fun J_5=>((held||(b&&(n1==0)))=true→gF_ n9 w03 J_5)∧((held||(b&&(n1==0)))=false→J_5 (Kd.dflt .b) w03)))
theorem ec_.calls (t:O_) (nexus:Int) (o:A_) (w:World) (R:Int→Int→Sl→W_) (h:ec_ t nexus o w R):dX_ t nexus o w R:=
 ac_ (ai_ af_) ay_ Tryz.func218 [(9,⟨[(9,.b),(38,.i .i64)],[0,1,5,10,36,37]⟩),(42,⟨[(13,.sl),(14,.sl),(99,.i .i64)],[0,1,5,9,10,97,98]⟩),(14,⟨[(13,.sl),(14,.sl)],[0,1,5,9,10,97,98,99]⟩),(55,⟨[(109,.b)],[0,1,5,9,10,13,14,16,97,98,99]⟩),(69,⟨[(17,.b),(133,.i .i64)],[0,1,5,9,10,13,14,131,132]⟩),(97,⟨[(13,.sl)],[0]⟩),(105,⟨[(13,.sl),(183,.i .i64)],[0,1,181,182]⟩),(29,⟨[(13,.sl)],[0,1,181,182,183]⟩)] [.i .u8,.i .u16,.sl] [.pointer t,.int .i64 nexus,.agg o] w R (Eq.mp (show ec_ t nexus o w R=vcF Tryz.prog G Tryz.f218 [(9,⟨[(9,.b),(38,.i .i64)],[0,1,5,10,36,37]⟩),(42,⟨[(13,.sl),(14,.sl),(99,.i .i64)],[0,1,5,9,10,97,98]⟩),(14,⟨[(13,.sl),(14,.sl)],[0,1,5,9,10,97,98,99]⟩),(55,⟨[(109,.b)],[0,1,5,9,10,13,14,16,97,98,99]⟩),(69,⟨[(17,.b),(133,.i .i64)],[0,1,5,9,10,13,14,131,132]⟩),(97,⟨[(13,.sl)],[0]⟩),(105,⟨[(13,.sl),(183,.i .i64)],[0,1,181,182]⟩),(29,⟨[(13,.sl)],[0,1,181,182,183]⟩)] [.i .u8,.i .u16,.sl] [.pointer t,.int .i64 nexus,.agg o] w R by kernel_rfl) h)
def ip_ (p:Sl) (with_:Bool) (w:World) (R:Sl→Bool→W_):Prop:=
 mI_ with_ w fun n w0=>(n≠0)∧Br (((p.n:Int).tmod n) != 0) (R (⟨none,0,0⟩:Sl) false w0) (∃(I:Sl→Sl→W_) (μ:Sl→Sl→World→Nat),I p (⟨none,0,0⟩:Sl) w0∧∀(p1:Sl) (out:Sl) (w01:World),I p1 out w01→Br (decide ((p1.n:Int)>0)) (aR_ (fun(out1:Sl) (w02:World)=>(0≤n∧n≤(p1.n:Int)∧(p1.n:Int)≤(p1.c:Int)∧p1.n≤p1.c)∧I (⟨(aM_ p1.A p1.c n.toNat 1),(((p1.n:Int)).toNat-n.toNat),(p1.c-n.toNat)⟩:Sl) out1 w02∧μ (⟨(aM_ p1.A p1.c n.toNat 1),(((p1.n:Int)).toNat-n.toNat),(p1.c-n.toNat)⟩:Sl) out1 w02<μ p1 out w01) fun J_=>New (.cells #[.int .u8 0,.int .u8 0,.int .u8 0,.int .u8 0,.int .u8 0,.int .u8 0,.int .u8 0,.int .u8 0,.int .u8 0,.int .u8 0,.int .u8 0,.int .u8 0,.int .u8 0,.int .u8 0,.int .u8 0,.int .u8 0,.int .u16 0,.int .u16 0,.int .u32 0] 348) w01 fun b w03=>(0≤(0:Int)∧(0:Int)≤(16:Int)∧(16:Int)≤(16:Int))∧an_ Tryz.prog (.i .i64) (Builtin.copy_ #[33,33] 3 #[.slice (some (if 16=0 then(b.add 0) else(b.add 0).add (0*1))) (16-0) (16-0),.slice p1.A p1.n p1.c]) w03 fun n1 w04=>aR_ (fun(w05:World)=>∃g:A_,(loadVar 348 b).run Tryz.prog w05=.ok (.agg g) w05∧an_ Tryz.prog .sl (Instr.buildSlice 280 1 #[(0,.agg g)]) w05 fun xs w06=>an_ Tryz.prog .sl (Builtin.append_ #[280,280] 280 #[.slice out.A out.n out.c,.slice xs.A xs.n xs.c]) w06 fun xs1 w07=>J_ xs1 w07) fun J_1=>Br with_ ((0≤(16:Int)∧(16:Int)≤(p1.n:Int)∧(p1.n:Int)≤(p1.c:Int)∧p1.n≤p1.c)∧∀w08,w08=w04.drew→∃S:W_,S w08∧(0≤(0:Int)∧(0:Int)<(((((p1.n:Int)).toNat-16):Nat):Int)∧(aM_ p1.A p1.c 16 1).isSome=true)∧∃n2:Int,(∀u,S u→u.cell? ((gA (aM_ p1.A p1.c 16 1)).add ((0:Int).toNat*1))=some (.int .u8 n2))∧(0≤(1:Int)∧(1:Int)<(((((p1.n:Int)).toNat-16):Nat):Int)∧(aM_ p1.A p1.c 16 1).isSome=true)∧∃n3:Int,(∀u1,S u1→u1.cell? ((gA (aM_ p1.A p1.c 16 1)).add ((1:Int).toNat*1))=some (.int .u8 n3))∧(0≤(2:Int)∧(2:Int)<(((((p1.n:Int)).toNat-16):Nat):Int)∧(aM_ p1.A p1.c 16 1).isSome=true)∧∃n4:Int,(∀u2,S u2→u2.cell? ((gA (aM_ p1.A p1.c 16 1)).add ((2:Int).toNat*1))=some (.int .u8 n4))∧(0≤(3:Int)∧(3:Int)<(((((p1.n:Int)).toNat-16):Nat):Int)∧(aM_ p1.A p1.c 16 1).isSome=true)∧∃n5:Int,(∀u3,S u3→u3.cell? ((gA (aM_ p1.A p1.c 16 1)).add ((3:Int).toNat*1))=some (.int .u8 n5))∧(0≤(4:Int)∧(4:Int)<(((((p1.n:Int)).toNat-16):Nat):Int)∧(aM_ p1.A p1.c 16 1).isSome=true)∧∃n6:Int,(∀u4,S u4→u4.cell? ((gA (aM_ p1.A p1.c 16 1)).add ((4:Int).toNat*1))=some (.int .u8 n6))∧(0≤(5:Int)∧(5:Int)<(((((p1.n:Int)).toNat-16):Nat):Int)∧(aM_ p1.A p1.c 16 1).isSome=true)∧∃n7:Int,(∀u5,S u5→u5.cell? ((gA (aM_ p1.A p1.c 16 1)).add ((5:Int).toNat*1))=some (.int .u8 n7))∧(0≤(6:Int)∧(6:Int)<(((((p1.n:Int)).toNat-16):Nat):Int)∧(aM_ p1.A p1.c 16 1).isSome=true)∧∃n8:Int,(∀u6,S u6→u6.cell? ((gA (aM_ p1.A p1.c 16 1)).add ((6:Int).toNat*1))=some (.int .u8 n8))∧(0≤(7:Int)∧(7:Int)<(((((p1.n:Int)).toNat-16):Nat):Int)∧(aM_ p1.A p1.c 16 1).isSome=true)∧∃n9:Int,(∀u7,S u7→u7.cell? ((gA (aM_ p1.A p1.c 16 1)).add ((7:Int).toNat*1))=some (.int .u8 n9))∧ah_ Tryz.prog (storeVar 346 (b.add 16) (.agg #[.int .u16 (bOr .u16 (cl_ .u16 (IntKind.wrap .u16 n2) 8) (IntKind.wrap .u16 n3)),.int .u16 (bOr .u16 (cl_ .u16 (IntKind.wrap .u16 n4) 8) (IntKind.wrap .u16 n5)),.int .u32 (bOr .u32 (bOr .u32 (bOr .u32 (cl_ .u32 (IntKind.wrap .u32 n6) 24) (cl_ .u32 (IntKind.wrap .u32 n7) 16)) (cl_ .u32 (IntKind.wrap .u32 n8) 8)) (IntKind.wrap .u32 n9))])) w08 fun w09=>J_1 w09) (J_1 w04)) (R out true w01))
theorem ip_.calls (p:Sl) (with_:Bool) (w:World) (R:Sl→Bool→W_) (h:ip_ p with_ w R):kp_ p with_ w R:=
 ac_ (ai_ af_) ay_ Tryz.func223 [(15,⟨[(0,.sl),(7,.sl)],[1,6]⟩),(5,⟨[(7,.sl)],[0,1,6]⟩),(31,⟨[],[0,1,6,7,8]⟩)] [.sl,.b] [.slice p.A p.n p.c,.bool with_] w R (Eq.mp (show ip_ p with_ w R=vcF Tryz.prog G Tryz.f223 [(15,⟨[(0,.sl),(7,.sl)],[1,6]⟩),(5,⟨[(7,.sl)],[0,1,6]⟩),(31,⟨[],[0,1,6,7,8]⟩)] [.sl,.b] [.slice p.A p.n p.c,.bool with_] w R by kernel_rfl) h)
def dd_ (s:O_) (w:World) (R:Int→W_):Prop:=
 Br ((s).isNone) (R 0 w) (s.isSome=true∧∃n:Int,w.cell? ((gA s).add 2)=some (.int .i64 n)∧R n w)
theorem dd_.calls (s:O_) (w:World) (R:Int→W_) (h:dd_ s w R):g8_ s w R:=
 ac_ (ai_ af_) ay_ Tryz.func224 [] [.i .i64] [.pointer s] w R (Eq.mp (show dd_ s w R=vcF Tryz.prog G Tryz.f224 [] [.i .i64] [.pointer s] w R by kernel_rfl) h)
def jm_ (kind:Int) (prot:Int) (lba:Int) (b:A_) (w:World) (R:Int→W_):Prop:=
 New (.cells b 348) w fun b1 w0=>∃g:A_,((!((((kind==0)||(decide (kind>3)))||(prot==3))||(decide (prot>4))))=true→(loadVar 346 (b1.add 16)).run Tryz.prog w0=.ok (.agg g) w0)∧bB_ (fun(b2:Bool) (w01:World)=>Br (((((kind==0)||(decide (kind>3)))||(prot==3))||(decide (prot>4)))||b2) (R 0 w01) (∀w02,w02=w01.drew→∃S:W_,S w02∧∃n:Int,((prot != 2)=true→(∀u,S u→u.cell? ((b1.add 16).add 0)=some (.int .u16 n)))∧((prot != 2)=true→(0≤(0:Int)∧(0:Int)≤(16:Int)∧(16:Int)≤(16:Int)))∧bB_ (fun(n1:Int) (w03:World)=>S w03∧Br ((prot != 2)&&(n != n1)) (R 4097 w03) (∃n2:Int,(((prot != 4)&&(kind != 3))=true→w03.cell? ((b1.add 16).add 2)=some (.int .u32 n2))∧Br (((prot != 4)&&(kind != 3))&&(n2 != (IntKind.wrap .u32 lba))) (R 4099 w03) (R 0 w03))) fun J_=>((prot != 2)=true→kr_ ⟨(some (if 16=0 then(b1.add 0) else(b1.add 0).add (0*1))),(16-0),(16-0)⟩ w02 J_)∧((prot != 2)=false→J_ (Kd.dflt (.i .u16)) w02))) fun J_1=>((!((((kind==0)||(decide (kind>3)))||(prot==3))||(decide (prot>4))))=true→jF_ kind g w0 J_1)∧((!((((kind==0)||(decide (kind>3)))||(prot==3))||(decide (prot>4))))=false→J_1 (Kd.dflt .b) w0)
theorem jm_.calls (kind:Int) (prot:Int) (lba:Int) (b:A_) (w:World) (R:Int→W_) (h:jm_ kind prot lba b w R):lm_ kind prot lba b w R:=
 ac_ (ai_ af_) ay_ Tryz.func226 [] [.i .u16] [.int .u8 kind,.int .u8 prot,.int .u64 lba,.agg b] w R (Eq.mp (show jm_ kind prot lba b w R=vcF Tryz.prog G Tryz.f226 [] [.i .u16] [.int .u8 kind,.int .u8 prot,.int .u64 lba,.agg b] w R by kernel_rfl) h)
def hB_ (w:World) (R:(A_)→W_):Prop:=
 New (.cells #[.int .u8 0,.int .u8 0,.int .u16 0,.int .u64 0,.bool false,.int .i64 0,.int .i64 0,.bool false,.bool false,.slice none 0 0] 35) w fun a w0=>do_ #[.int .u8 5,.int .u16 6656,.int .u64 0,.bool false,.int .i64 0,.int .i64 0,.bool false,.bool false] w0 fun g w01=>ah_ Tryz.prog (storeVar 35 a (.agg g)) w01 fun w02=>∃res:A_,(loadVar 35 a).run Tryz.prog w02=.ok (.agg res) w02∧R res w02
theorem hB_.calls (w:World) (R:(A_)→W_) (h:hB_ w R):jE_ w R:=
 ac_ (ai_ af_) ay_ Tryz.func227 [] [.ag] [] w R (Eq.mp (show hB_ w R=vcF Tryz.prog G Tryz.f227 [] [.ag] [] w R by kernel_rfl) h)
def kz_ (kind:Int) (lba:Int) (data:A_) (app:Int) (w:World) (R:(A_)→W_):Prop:=
 New (.cells data 344) w fun data1 w0=>New (.cells #[.int .u16 0,.int .u16 0,.int .u32 0] 346) w0 fun a w01=>(0≤(0:Int)∧(0:Int)≤(16:Int)∧(16:Int)≤(16:Int))∧kr_ ⟨(some (if 16=0 then data1 else data1.add (0*1))),(16-0),(16-0)⟩ w01 fun n w02=>New (.cells #[.int .u16 0,.int .u16 0,.int .u32 0] 346) w02 fun t w03=>ah_ Tryz.prog (storeVar 346 t (.agg #[.int .u16 n,.int .u16 app,.int .u32 0])) w03 fun w04=>aR_ (fun(w05:World)=>∃g:A_,(loadVar 346 t).run Tryz.prog w05=.ok (.agg g) w05∧ah_ Tryz.prog (storeVar 346 a (.agg g)) w05 fun w06=>∃res:A_,(loadVar 346 a).run Tryz.prog w06=.ok (.agg res) w06∧R res w06) fun J_=>Br ((kind==1)||(kind==2)) (Put (t.add 2) (.int .u32 (IntKind.wrap .u32 lba)) w04 fun w07=>J_ w07) (J_ w04)
theorem kz_.calls (kind:Int) (lba:Int) (data:A_) (app:Int) (w:World) (R:(A_)→W_) (h:kz_ kind lba data app w R):mH_ kind lba data app w R:=
 ac_ (ai_ af_) ay_ Tryz.func228 [(10,⟨[],[8,9]⟩)] [.ag] [.int .u8 kind,.int .u64 lba,.agg data,.int .u16 app] w R (Eq.mp (show kz_ kind lba data app w R=vcF Tryz.prog G Tryz.f228 [(10,⟨[],[8,9]⟩)] [.ag] [.int .u8 kind,.int .u64 lba,.agg data,.int .u16 app] w R by kernel_rfl) h)
def ed_ (w_:O_) (w:World) (R:Int→W_):Prop:=
 Br ((w_).isNone) (R 8 w) (cM_ w_ w fun n w0=>Br (n != 0) (R n w0) (w_.isSome=true∧∃xs:Sl,w0.cell? ((gA w_).add 2)=some (.slice xs.A xs.n xs.c)∧∃(I:Int→W_) (μ:Int→World→Nat),I 0 w0∧∀(x:Int) (w01:World),I x w01→Br (decide (x<(xs.n:Int))) ((0≤x∧x<(xs.n:Int)∧xs.A.isSome=true)∧∃g:A_,(loadVar 173 ((gA xs.A).add (x.toNat*5))).run Tryz.prog w01=.ok (.agg g) w01∧New (.cells #[.int .u8 0,.string ⟨#[]⟩,.string ⟨#[]⟩,.int .i64 0,.slice none 0 0] 173) w01 fun c w02=>ah_ Tryz.prog (storeVar 173 c (.agg g)) w02 fun w03=>∀w04,w04=w03.drew→∃S:W_,S w04∧w_.isSome=true∧∃m:Option Nat,(∀u,S u→u.cell? ((gA w_).add 1)=some (.map m))∧∃g1:A_,(∀u1,S u1→(loadVar 173 c).run Tryz.prog u1=.ok (.agg g1) u1)∧∃xs1:Sl,(∀u2,S u2→u2.cell? (c.add 4)=some (.slice xs1.A xs1.n xs1.c))∧c3_ m g1 (xs1.n:Int) w04 fun w05=>I (IntKind.wrap .i64 (x+1)) w05∧μ (IntKind.wrap .i64 (x+1)) w05<μ x w01) (w_.isSome=true∧Put ((gA w_).add 2) (.slice none 0 0) w01 fun w06=>R 0 w06)))
theorem ed_.calls (w_:O_) (w:World) (R:Int→W_) (h:ed_ w_ w R):dY_ w_ w R:=
 ac_ (ai_ af_) ay_ Tryz.func231 [(21,⟨[(18,.i .i64)],[0,16,17]⟩)] [.i .i64] [.pointer w_] w R (Eq.mp (show ed_ w_ w R=vcF Tryz.prog G Tryz.f231 [(21,⟨[(18,.i .i64)],[0,16,17]⟩)] [.i .i64] [.pointer w_] w R by kernel_rfl) h)
def kA_ (with_:Bool) (w:World) (R:Int→W_):Prop:=
 Br with_ (R 24 w) (R 16 w)
theorem kA_.calls (with_:Bool) (w:World) (R:Int→W_) (h:kA_ with_ w R):mI_ with_ w R:=
 ac_ (ai_ af_) ay_ Tryz.func233 [] [.i .i64] [.bool with_] w R (Eq.mp (show kA_ with_ w R=vcF Tryz.prog G Tryz.f233 [] [.i .i64] [.bool with_] w R by kernel_rfl) h)
open Go CF
set_option linter.unusedVariables false
set_option maxRecDepth 100000
def fY_ (s:ByteArray) (w:World) (R:Bool→W_):Prop:=
 R ((decide ((s.size:Int)≥1))&&(decide ((s.size:Int)≤32))) w
theorem fY_.calls (s:ByteArray) (w:World) (R:Bool→W_) (h:fY_ s w R):hs_ s w R:=
 ac_ (ai_ af_) ay_ Tryz.func262 [] [.b] [.string s] w R (Eq.mp (show fY_ s w R=vcF Tryz.prog G Tryz.f262 [] [.b] [.string s] w R by kernel_rfl) h)
def ee_ (w_:O_) (w:World) (R:Int→W_):Prop:=
 w_.isSome=true∧∃b:Bool,w.cell? ((gA w_).add 6)=some (.bool b)∧Br b (R 7 w) (w_.isSome=true∧∃n:Int,w.cell? ((gA w_).add 3)=some (.int .i64 n)∧w_.isSome=true∧∃n1:Int,w.cell? ((gA w_).add 3)=some (.int .i64 n1)∧w_.isSome=true∧Put ((gA w_).add 3) (.int .i64 (IntKind.wrap .i64 (n1+1))) w fun w0=>w_.isSome=true∧∃n2:Int,w0.cell? ((gA w_).add 5)=some (.int .i64 n2)∧Br (n==n2) (w_.isSome=true∧Put ((gA w_).add 6) (.bool true) w0 fun w01=>R 7 w01) (w_.isSome=true∧∃m:Option Nat,w0.cell? ((gA w_).add 4)=some (.map m)∧∃b1:Bool,(Instr.lookup 108 (.map m) (.int .i64 n) false).run Tryz.prog w0=.ok (.bool b1) w0∧Br b1 (R 6 w0) (R 0 w0)))
theorem ee_.calls (w_:O_) (w:World) (R:Int→W_) (h:ee_ w_ w R):cM_ w_ w R:=
 ac_ (ai_ af_) ay_ Tryz.func263 [] [.i .i64] [.pointer w_] w R (Eq.mp (show ee_ w_ w R=vcF Tryz.prog G Tryz.f263 [] [.i .i64] [.pointer w_] w R by kernel_rfl) h)
def kB_ (p:Sl) (w:World) (R:Int→W_):Prop:=
 ks_ 0 p w fun n w0=>R n w0
theorem kB_.calls (p:Sl) (w:World) (R:Int→W_) (h:kB_ p w R):kq_ p w R:=
 ac_ (ai_ af_) ay_ Tryz.func264 [] [.i .u32] [.slice p.A p.n p.c] w R (Eq.mp (show kB_ p w R=vcF Tryz.prog G Tryz.f264 [] [.i .u32] [.slice p.A p.n p.c] w R by kernel_rfl) h)
def gh_ (gen:Int) (payload:Sl) (w:World) (R:Sl→Int→W_):Prop:=
 Br (decide ((payload.n:Int)>4096)) (R (⟨none,0,0⟩:Sl) 2 w) (an_ Tryz.prog .sl (Instr.buildSlice 33 4 #[(0,.int .u8 83),(1,.int .u8 76),(2,.int .u8 79),(3,.int .u8 84)]) w fun xs w0=>an_ Tryz.prog .sl (convert 33 33 (.slice xs.A xs.n xs.c)) w0 fun xs1 w01=>an_ Tryz.prog .sl (Builtin.append_ #[33,3] 33 #[.slice xs1.A xs1.n xs1.c,.int .i64 12]) w01 fun xs2 w02=>jR_ xs2 4 8 gen w02 fun xs3 n w03=>jR_ xs3 12 4 (IntKind.wrap .u64 (payload.n:Int)) w03 fun xs4 n1 w04=>an_ Tryz.prog .sl (Builtin.append_ #[33,33] 33 #[.slice xs4.A xs4.n xs4.c,.slice payload.A payload.n payload.c]) w04 fun xs5 w05=>kq_ xs5 w05 fun n2 w06=>an_ Tryz.prog .sl (Instr.buildSlice 33 4 #[(0,.int .u8 (IntKind.wrap .u8 (bK_ .u32 n2 24))),(1,.int .u8 (IntKind.wrap .u8 (bK_ .u32 n2 16))),(2,.int .u8 (IntKind.wrap .u8 (bK_ .u32 n2 8))),(3,.int .u8 (IntKind.wrap .u8 n2))]) w06 fun xs6 w07=>an_ Tryz.prog .sl (Builtin.append_ #[33,33] 33 #[.slice xs5.A xs5.n xs5.c,.slice xs6.A xs6.n xs6.c]) w07 fun xs7 w08=>R xs7 0 w08)
theorem gh_.calls (gen:Int) (payload:Sl) (w:World) (R:Sl→Int→W_) (h:gh_ gen payload w R):h6_ gen payload w R:=
 ac_ (ai_ af_) ay_ Tryz.func265 [] [.sl,.i .i64] [.int .u64 gen,.slice payload.A payload.n payload.c] w R (Eq.mp (show gh_ gen payload w R=vcF Tryz.prog G Tryz.f265 [] [.sl,.i .i64] [.int .u64 gen,.slice payload.A payload.n payload.c] w R by kernel_rfl) h)
def dA_ (w_:O_) (file:ByteArray) (off:Int) (p:Sl) (w:World) (R:Int→W_):Prop:=
 hs_ file w fun b w0=>Br ((!b)||(decide (off<0))) (R 1 w0) (Br ((decide (off>1048576))||(decide ((p.n:Int)>(IntKind.wrap .i64 (1048576-off))))) (R 2 w0) (Br ((w_).isNone) (R 8 w0) (an_ Tryz.prog .sl (Builtin.append_ #[33,33] 33 #[.slice none 0 0,.slice p.A p.n p.c]) w0 fun xs w01=>gP_ w_ #[.int .u8 119,.string file,.string ⟨#[]⟩,.int .i64 off,.slice xs.A xs.n xs.c] w01 fun n w02=>R n w02)))
theorem dA_.calls (w_:O_) (file:ByteArray) (off:Int) (p:Sl) (w:World) (R:Int→W_) (h:dA_ w_ file off p w R):fo_ w_ file off p w R:=
 ac_ (ai_ af_) ay_ Tryz.func266 [] [.i .i64] [.pointer w_,.string file,.int .i64 off,.slice p.A p.n p.c] w R (Eq.mp (show dA_ w_ file off p w R=vcF Tryz.prog G Tryz.f266 [] [.i .i64] [.pointer w_,.string file,.int .i64 off,.slice p.A p.n p.c] w R by kernel_rfl) h)
def gi_ (t:O_) (nexus:Int) (key:Int) (w:World) (R:W_):Prop:=
 t.isSome=true∧∃xs:Sl,w.cell? ((gA t).add 0)=some (.slice xs.A xs.n xs.c)∧∃(I:Sl→Int→W_) (μ:Sl→Int→World→Nat),I (⟨none,0,0⟩:Sl) 0 w∧∀(left_:Sl) (x:Int) (w0:World),I left_ x w0→Br (decide (x<(xs.n:Int))) (aR_ (fun(left_1:Sl) (w01:World)=>I left_1 (IntKind.wrap .i64 (x+1)) w01∧μ left_1 (IntKind.wrap .i64 (x+1)) w01<μ left_ x w0) fun J_=>(0≤x∧x<(xs.n:Int)∧xs.A.isSome=true)∧∃g:A_,(loadVar 97 ((gA xs.A).add (x.toNat*2))).run Tryz.prog w0=.ok (.agg g) w0∧New (.cells #[.int .i64 0,.int .u64 0] 97) w0 fun r w02=>ah_ Tryz.prog (storeVar 97 r (.agg g)) w02 fun w03=>∃n:Int,w03.cell? (r.add 0)=some (.int .i64 n)∧Br (decide (n<nexus)) (∃g1:A_,(loadVar 97 r).run Tryz.prog w03=.ok (.agg g1) w03∧an_ Tryz.prog .sl (Instr.buildSlice 67 1 #[(0,.agg g1)]) w03 fun xs1 w05=>an_ Tryz.prog .sl (Builtin.append_ #[67,67] 67 #[.slice left_.A left_.n left_.c,.slice xs1.A xs1.n xs1.c]) w05 fun xs2 w06=>J_ xs2 w06) (J_ left_ w03)) (aR_ (fun(left_3:Sl) (w07:World)=>t.isSome=true∧∃xs3:Sl,w07.cell? ((gA t).add 0)=some (.slice xs3.A xs3.n xs3.c)∧∃(I1:Sl→Int→W_) (μ1:Sl→Int→World→Nat),I1 left_3 0 w07∧∀(left_4:Sl) (x1:Int) (w08:World),I1 left_4 x1 w08→Br (decide (x1<(xs3.n:Int))) (aR_ (fun(left_5:Sl) (w09:World)=>I1 left_5 (IntKind.wrap .i64 (x1+1)) w09∧μ1 left_5 (IntKind.wrap .i64 (x1+1)) w09<μ1 left_4 x1 w08) fun J_1=>(0≤x1∧x1<(xs3.n:Int)∧xs3.A.isSome=true)∧∃g2:A_,(loadVar 97 ((gA xs3.A).add (x1.toNat*2))).run Tryz.prog w08=.ok (.agg g2) w08∧New (.cells #[.int .i64 0,.int .u64 0] 97) w08 fun r1 w010=>ah_ Tryz.prog (storeVar 97 r1 (.agg g2)) w010 fun w011=>∃n1:Int,w011.cell? (r1.add 0)=some (.int .i64 n1)∧Br (decide (n1>nexus)) (∃g3:A_,(loadVar 97 r1).run Tryz.prog w011=.ok (.agg g3) w011∧an_ Tryz.prog .sl (Instr.buildSlice 67 1 #[(0,.agg g3)]) w011 fun xs4 w013=>an_ Tryz.prog .sl (Builtin.append_ #[67,67] 67 #[.slice left_4.A left_4.n left_4.c,.slice xs4.A xs4.n xs4.c]) w013 fun xs5 w014=>J_1 xs5 w014) (J_1 left_4 w011)) (t.isSome=true∧Put ((gA t).add 0) (.slice left_4.A left_4.n left_4.c) w08 fun w015=>R w015)) fun J_2=>Br (key != 0) (an_ Tryz.prog .sl (Instr.buildSlice 67 1 #[(0,.agg #[.int .i64 nexus,.int .u64 key])]) w0 fun xs6 w016=>an_ Tryz.prog .sl (Builtin.append_ #[67,67] 67 #[.slice left_.A left_.n left_.c,.slice xs6.A xs6.n xs6.c]) w016 fun xs7 w017=>J_2 xs7 w017) (J_2 left_ w0))
theorem gi_.calls (t:O_) (nexus:Int) (key:Int) (w:World) (R:W_) (h:gi_ t nexus key w R):ga_ t nexus key w R:=
 ac_ (ai_ af_) ay_ Tryz.func267 [(6,⟨[(6,.sl),(16,.i .i64)],[0,1,2,14,15]⟩),(5,⟨[(6,.sl)],[0,1,2,14,15,16]⟩),(30,⟨[(6,.sl),(42,.i .i64)],[0,1,40,41]⟩),(11,⟨[(6,.sl)],[0,1,40,41,42]⟩),(25,⟨[(6,.sl)],[0,1]⟩)] [] [.pointer t,.int .i64 nexus,.int .u64 key] w R (Eq.mp (show gi_ t nexus key w R=vcF Tryz.prog G Tryz.f267 [(6,⟨[(6,.sl),(16,.i .i64)],[0,1,2,14,15]⟩),(5,⟨[(6,.sl)],[0,1,2,14,15,16]⟩),(30,⟨[(6,.sl),(42,.i .i64)],[0,1,40,41]⟩),(11,⟨[(6,.sl)],[0,1,40,41,42]⟩),(25,⟨[(6,.sl)],[0,1]⟩)] [] [.pointer t,.int .i64 nexus,.int .u64 key] w R by kernel_rfl) h)
def fI_ (t:O_) (but:Int) (w:World) (R:Sl→W_):Prop:=
 t.isSome=true∧∃n:Int,w.cell? ((gA t).add 2)=some (.int .u8 n)∧aR_ (fun(out:Sl) (w0:World)=>t.isSome=true∧Put ((gA t).add 2) (.int .u8 0) w0 fun w01=>t.isSome=true∧Put ((gA t).add 3) (.int .i64 (-1)) w01 fun w02=>R out w02) fun J_=>Br (decide (n≥5)) (t.isSome=true∧∃xs:Sl,w.cell? ((gA t).add 0)=some (.slice xs.A xs.n xs.c)∧∃(I:Sl→Int→W_) (μ:Sl→Int→World→Nat),I (⟨none,0,0⟩:Sl) 0 w∧∀(out1:Sl) (x:Int) (w03:World),I out1 x w03→Br (decide (x<(xs.n:Int))) (aR_ (fun(out2:Sl) (w04:World)=>I out2 (IntKind.wrap .i64 (x+1)) w04∧μ out2 (IntKind.wrap .i64 (x+1)) w04<μ out1 x w03) fun J_1=>(0≤x∧x<(xs.n:Int)∧xs.A.isSome=true)∧∃g:A_,(loadVar 97 ((gA xs.A).add (x.toNat*2))).run Tryz.prog w03=.ok (.agg g) w03∧New (.cells #[.int .i64 0,.int .u64 0] 97) w03 fun r w05=>ah_ Tryz.prog (storeVar 97 r (.agg g)) w05 fun w06=>∃n1:Int,w06.cell? (r.add 0)=some (.int .i64 n1)∧Br (n1 != but) (∃n2:Int,w06.cell? (r.add 0)=some (.int .i64 n2)∧an_ Tryz.prog .sl (Instr.buildSlice 261 1 #[(0,.agg #[.int .i64 n2,.int .u16 10756])]) w06 fun xs1 w08=>an_ Tryz.prog .sl (Builtin.append_ #[261,261] 261 #[.slice out1.A out1.n out1.c,.slice xs1.A xs1.n xs1.c]) w08 fun xs2 w09=>J_1 xs2 w09) (J_1 out1 w06)) (J_ out1 w03)) (J_ (⟨none,0,0⟩:Sl) w)
theorem fI_.calls (t:O_) (but:Int) (w:World) (R:Sl→W_) (h:fI_ t but w R):fD_ t but w R:=
 ac_ (ai_ af_) ay_ Tryz.func268 [(10,⟨[(5,.sl)],[0]⟩),(12,⟨[(5,.sl),(18,.i .i64)],[0,1,16,17]⟩),(5,⟨[(5,.sl)],[0,1,16,17,18]⟩)] [.sl] [.pointer t,.int .i64 but] w R (Eq.mp (show fI_ t but w R=vcF Tryz.prog G Tryz.f268 [(10,⟨[(5,.sl)],[0]⟩),(12,⟨[(5,.sl),(18,.i .i64)],[0,1,16,17]⟩),(5,⟨[(5,.sl)],[0,1,16,17,18]⟩)] [.sl] [.pointer t,.int .i64 but] w R by kernel_rfl) h)
def hC_ (kind:Int) (t:A_) (w:World) (R:Bool→W_):Prop:=
 New (.cells t 346) w fun t1 w0=>∃n:Int,w0.cell? (t1.add 1)=some (.int .u16 n)∧Br (n != 65535) (R false w0) (∃n1:Int,((!(kind != 3))=true→w0.cell? (t1.add 2)=some (.int .u32 n1))∧R ((kind != 3)||(n1==4294967295)) w0)
theorem hC_.calls (kind:Int) (t:A_) (w:World) (R:Bool→W_) (h:hC_ kind t w R):jF_ kind t w R:=
 ac_ (ai_ af_) ay_ Tryz.func272 [] [.b] [.int .u8 kind,.agg t] w R (Eq.mp (show hC_ kind t w R=vcF Tryz.prog G Tryz.f272 [] [.b] [.int .u8 kind,.agg t] w R by kernel_rfl) h)
def kC_ (p:Sl) (w:World) (R:Int→W_):Prop:=
 m9_ 0 p w fun n w0=>R n w0
theorem kC_.calls (p:Sl) (w:World) (R:Int→W_) (h:kC_ p w R):kr_ p w R:=
 ac_ (ai_ af_) ay_ Tryz.func273 [] [.i .u16] [.slice p.A p.n p.c] w R (Eq.mp (show kC_ p w R=vcF Tryz.prog G Tryz.f273 [] [.i .u16] [.slice p.A p.n p.c] w R by kernel_rfl) h)
def iq_ (sum:Int) (p:Sl) (w:World) (R:Int→W_):Prop:=
 ∃(I:Int→Int→W_) (μ:Int→Int→World→Nat),I (nT_ .u32 sum) 0 w∧∀(sum1:Int) (x:Int) (w0:World),I sum1 x w0→Br (decide (x<(p.n:Int))) ((0≤x∧x<(p.n:Int)∧p.A.isSome=true)∧∃n:Int,w0.cell? ((gA p.A).add (x.toNat*1))=some (.int .u8 n)∧∃(I1:Int→Int→W_) (μ1:Int→Int→World→Nat),I1 (g9_ .u32 sum1 (IntKind.wrap .u32 n)) 0 w0∧∀(sum2:Int) (x1:Int) (w01:World),I1 sum2 x1 w01→Br (decide (x1<8)) (aR_ (fun(sum3:Int) (w02:World)=>I1 sum3 (IntKind.wrap .i64 (x1+1)) w02∧μ1 sum3 (IntKind.wrap .i64 (x1+1)) w02<μ1 sum2 x1 w01) fun J_=>Br ((bz_ .u32 sum2 1)==1) (J_ (g9_ .u32 (bK_ .u32 sum2 1) 2197175160) w01) (J_ (bK_ .u32 sum2 1) w01)) (I sum2 (IntKind.wrap .i64 (x+1)) w01∧μ sum2 (IntKind.wrap .i64 (x+1)) w01<μ sum1 x w0)) (R (nT_ .u32 sum1) w0)
theorem iq_.calls (sum:Int) (p:Sl) (w:World) (R:Int→W_) (h:iq_ sum p w R):ks_ sum p w R:=
 ac_ (ai_ af_) ay_ Tryz.func296 [(9,⟨[(0,.i .u32),(12,.i .i64)],[10,11]⟩),(21,⟨[(0,.i .u32),(20,.i .i64)],[10,11,12]⟩),(11,⟨[(0,.i .u32)],[10,11,12,20]⟩)] [.i .u32] [.int .u32 sum,.slice p.A p.n p.c] w R (Eq.mp (show iq_ sum p w R=vcF Tryz.prog G Tryz.f296 [(9,⟨[(0,.i .u32),(12,.i .i64)],[10,11]⟩),(21,⟨[(0,.i .u32),(20,.i .i64)],[10,11,12]⟩),(11,⟨[(0,.i .u32)],[10,11,12,20]⟩)] [.i .u32] [.int .u32 sum,.slice p.A p.n p.c] w R by kernel_rfl) h)
open Go CF
set_option linter.unusedVariables false
set_option maxRecDepth 100000
def fd_ (w_:O_) (c:A_) (w:World) (R:Int→W_):Prop:=
 New (.cells c 173) w fun c1 w0=>cM_ w_ w0 fun n w01=>Br (n != 0) (R n w01) (∀w02,w02=w01.drew→∃S:W_,S w02∧w_.isSome=true∧∃m:Option Nat,(∀u,S u→u.cell? ((gA w_).add 0)=some (.map m))∧∃g:A_,(∀u1,S u1→(loadVar 173 c1).run Tryz.prog u1=.ok (.agg g) u1)∧∃xs:Sl,(∀u2,S u2→u2.cell? (c1.add 4)=some (.slice xs.A xs.n xs.c))∧c3_ m g (xs.n:Int) w02 fun w03=>∀w04,w04=w03.drew→∃S1:W_,S1 w04∧w_.isSome=true∧∃xs1:Sl,(∀u3,S1 u3→u3.cell? ((gA w_).add 2)=some (.slice xs1.A xs1.n xs1.c))∧∃g1:A_,(∀u4,S1 u4→(loadVar 173 c1).run Tryz.prog u4=.ok (.agg g1) u4)∧an_ Tryz.prog .sl (Instr.buildSlice 107 1 #[(0,.agg g1)]) w04 fun xs2 w05=>S1 w05∧an_ Tryz.prog .sl (Builtin.append_ #[107,107] 107 #[.slice xs1.A xs1.n xs1.c,.slice xs2.A xs2.n xs2.c]) w05 fun xs3 w06=>w_.isSome=true∧Put ((gA w_).add 2) (.slice xs3.A xs3.n xs3.c) w06 fun w07=>R 0 w07)
theorem fd_.calls (w_:O_) (c:A_) (w:World) (R:Int→W_) (h:fd_ w_ c w R):gP_ w_ c w R:=
 ac_ (ai_ af_) ay_ Tryz.func297 [] [.i .i64] [.pointer w_,.agg c] w R (Eq.mp (show fd_ w_ c w R=vcF Tryz.prog G Tryz.f297 [] [.i .i64] [.pointer w_,.agg c] w R by kernel_rfl) h)
def ir_ (sum:Int) (p:Sl) (w:World) (R:Int→W_):Prop:=
 ∃(I:Int→Int→W_) (μ:Int→Int→World→Nat),I sum 0 w∧∀(sum1:Int) (x:Int) (w0:World),I sum1 x w0→Br (decide (x<(p.n:Int))) ((0≤x∧x<(p.n:Int)∧p.A.isSome=true)∧∃n:Int,w0.cell? ((gA p.A).add (x.toNat*1))=some (.int .u8 n)∧∃(I1:Int→Int→W_) (μ1:Int→Int→World→Nat),I1 (g9_ .u16 sum1 (cl_ .u16 (IntKind.wrap .u16 n) 8)) 0 w0∧∀(sum2:Int) (x1:Int) (w01:World),I1 sum2 x1 w01→Br (decide (x1<8)) (aR_ (fun(sum3:Int) (w02:World)=>I1 sum3 (IntKind.wrap .i64 (x1+1)) w02∧μ1 sum3 (IntKind.wrap .i64 (x1+1)) w02<μ1 sum2 x1 w01) fun J_=>Br ((bK_ .u16 sum2 15)==1) (J_ (g9_ .u16 (cl_ .u16 sum2 1) 35767) w01) (J_ (cl_ .u16 sum2 1) w01)) (I sum2 (IntKind.wrap .i64 (x+1)) w01∧μ sum2 (IntKind.wrap .i64 (x+1)) w01<μ sum1 x w0)) (R sum1 w0)
theorem ir_.calls (sum:Int) (p:Sl) (w:World) (R:Int→W_) (h:ir_ sum p w R):m9_ sum p w R:=
 ac_ (ai_ af_) ay_ Tryz.func303 [(6,⟨[(0,.i .u16),(10,.i .i64)],[8,9]⟩),(18,⟨[(0,.i .u16),(19,.i .i64)],[8,9,10]⟩),(11,⟨[(0,.i .u16)],[8,9,10,19]⟩)] [.i .u16] [.int .u16 sum,.slice p.A p.n p.c] w R (Eq.mp (show ir_ sum p w R=vcF Tryz.prog G Tryz.f303 [(6,⟨[(0,.i .u16),(10,.i .i64)],[8,9]⟩),(18,⟨[(0,.i .u16),(19,.i .i64)],[8,9,10]⟩),(11,⟨[(0,.i .u16)],[8,9,10,19]⟩)] [.i .u16] [.int .u16 sum,.slice p.A p.n p.c] w R by kernel_rfl) h)
open Go CF
abbrev a7_:=ByteArray→Option L8
def wr (f:L8) (o:Nat) (p:L8):L8:=
 (f++List.replicate (o+p.length-f.length) 0).take o++p++(f++List.replicate (o+p.length-f.length) 0).drop (o+p.length)
def mK_ (F:a7_) (s:ByteArray) (v:Option L8):a7_:=fun t=>if t=s then v else F t
def bF_ (F:a7_) (s:ByteArray) (o:Nat) (p:L8):a7_:=mK_ F s (some (wr ((F s).getD []) o p))
theorem wV_ (f:L8) (o:Nat) (p:L8):(wr f o p).length=max f.length (o+p.length):=by
 unfold wr
 simp only[List.length_append,List.length_take,List.length_drop,List.length_replicate]
 omega
theorem tu_ (a b:Nat):mn (a:Int) (b:Int)=((min a b:Nat):Int):=by
 unfold mn;split<;>omega
def iO_ (w:World) (v:Option Value):Option L8→Prop
 | none=>v=none
 | some l=>∃s:Sl,v=some (.slice s.A s.n s.c)∧Own w 0 ae_ 1 s (bv l)∧l.length≤1048576
def IsF (w:World) (mb:Nat) (F:a7_):Prop:=∃m,kk_ w mb m∧∀s,iO_ w (m s) (F s)
theorem a4_ {w:World} {base:Nat} {e:TypeId} {z:Nat} {s:Sl} {vs:List Value} (h:Own w base e z s vs) {g:Nat} (hg:s.blk=some g):∃cur,w.heap[g]?=some (.cells cur e (0,0)):=by
 rcases h.2 with⟨h2,_⟩|⟨g',cap,cur,hv,_,hh,_⟩
 ·injection h2 with hA;simp[Sl.blk,hA] at hg
 ·injection hv with hA
  simp[Sl.blk,hA] at hg
  subst hg
  exact⟨cur,hh⟩
def bR_ (w:World) (S:Nat→Prop):Prop:=∀g cur,w.heap[g]?=some (.cells cur ae_ (0,0))→¬S g
theorem iO_.keep {S:Nat→Prop} {w w':World} {v:Option Value} {l:Option L8} (h:iO_ w v l) (k:aa_ S w w') (hn:bR_ w S):iO_ w' v l:=by
 cases l with
 | none=>exact h
 | some l=>
  obtain⟨s,h1,h2,h3⟩:=h
  refine⟨s,h1,h2.keep k fun b hb=>?_,h3⟩
  obtain⟨cur,hc⟩:=a4_ h2 hb
  exact hn b cur hc
theorem IsF.keep {S:Nat→Prop} {w w':World} {mb:Nat} {F:a7_} (h:IsF w mb F) (k:aa_ S w w') (hm:¬S mb) (hn:bR_ w S):IsF w' mb F:=by
 obtain⟨m,h1,h2⟩:=h
 exact⟨m,h1.keep k hm,fun s=>(h2 s).keep k hn⟩
theorem bo_ (w:World):bR_ w fun _=>False:=fun _ _ _ q=>q
theorem IsF.grow {w w':World} {mb:Nat} {F:a7_} (h:IsF w mb F) (k:ab_ w w'):IsF w' mb F:=h.keep k (fun q=>q) (bo_ w)
theorem rs_ (w:World):IsF (w.alloc (.map #[] 0)) w.heap.size fun _=>none:=⟨_,uE_ w,fun _=>rfl⟩
theorem pO_ {w:World} {mb:Nat} {F:a7_} (h:IsF w mb F):mb<w.heap.size:=by
 obtain⟨m,⟨es,c,hb,_⟩,_⟩:=h
 exact aw_ hb
theorem bX_ {w:World} {mb:Nat} {F:a7_} (h:IsF w mb F) (cur:A_) (t:TypeId) (fr:Nat×Nat):w.heap[mb]?≠some (.cells cur t fr):=by
 obtain⟨m,⟨es,c,hb,_⟩,_⟩:=h
 rw[hb];intro q;cases q
theorem hD_ {w:World} {mb:Nat} {F:a7_} (h:IsF w mb F):bR_ w fun k=>k=mb:=fun g cur hg q=>by
 subst q;exact bX_ h _ _ _ hg
theorem lo_ {P:Program} {w:World} {e:TypeId} {zv:Value} {z bytes:Nat} (hinfo:(P.info? e).map (fun i=>(i.zero,i.size,i.bytes))=some (some zv,z,bytes)):(zeroValue e).run P w=.ok zv w:=by
 obtain⟨i,hi,hzz⟩:=Option.map_eq_some_iff.1 hinfo
 simp only[Prod.mk.injEq] at hzz
 simp[zeroValue,typeInfo,hi,hzz.1]
theorem on_ {w:World} {mb:Nat} {F:a7_} (h:IsF w mb F) (s:ByteArray) :
  ∃r:Sl×Bool,(Instr.lookup ek_ (.map (some mb)) (.string s) true).run Tryz.prog w=.ok (.tuple #[.slice r.1.A r.1.n r.1.c,.bool r.2]) w∧
   (Instr.lookup ek_ (.map (some mb)) (.string s) false).run Tryz.prog w=.ok (.slice r.1.A r.1.n r.1.c) w∧Own w 0 ae_ 1 r.1 (bv ((F s).getD []))∧r.2=(F s).isSome∧((F s).getD []).length≤1048576:=by
 obtain⟨m,hm,hf⟩:=h
 obtain⟨l1,l2⟩:=tq_ gH_ hc_ (lo_ r7_) hm s
 have hs:=hf s
 cases hF:F s with
 | none=>
  rw[hF] at hs
  have hs:m s=none:=hs
  rw[hs] at l1 l2
  exact⟨(⟨none,0,0⟩,false),l1,l2,aH_ _ _ _ _,rfl,by simp⟩
 | some l=>
  rw[hF] at hs
  obtain⟨sl,h1,h2,h3⟩:=hs
  rw[h1] at l1 l2
  exact⟨(sl,true),l1,l2,h2,rfl,h3⟩
theorem uJ_ {w:World} {mb:Nat} {F:a7_} (h:IsF w mb F) (s:ByteArray) {f:Sl} {l:L8} (hf:Own w 0 ae_ 1 f (bv l)) (hl:l.length≤1048576)
  {K:W_} (hK:∀w',IsF w' mb (mK_ F s (some l))→aa_ (fun k=>k=mb) w w'→K w'):ah_ Tryz.prog (Instr.mapUpdate ek_ (.map (some mb)) (.string s) (.slice f.A f.n f.c)) w K:=by
 have hnb:=hD_ h
 obtain⟨m,hm,hs⟩:=h
 refine uF_ gH_ hc_ hm s _ fun w1 hm1 hk1 _=>hK w1 ⟨_,hm1,fun t=>?_⟩ hk1
 unfold upd mK_
 by_cases q:t=s
 ·rw[if_pos q,if_pos q]
  refine⟨f,rfl,hf.keep hk1 fun b hb=>?_,hl⟩
  obtain⟨cur,hc⟩:=a4_ hf hb
  exact hnb b cur hc
 ·rw[if_neg q,if_neg q]
  exact(hs t).keep hk1 hnb
theorem wW_ (j:Nat):bv (List.replicate j 0)++[.int .u8 0]=bv (List.replicate (j+1) 0):=by
 rw[List.replicate_succ',b3_];rfl
theorem iP_ {w:World} {mb:Nat} {F:a7_} {name to:ByteArray} {off k:Nat} {p:Sl} {bs:L8} {R:W_} (hF:IsF w mb F) (hp:Rd w 1 p (bv bs)) (hb:off+bs.length≤1048576)
  (h:∀w',aa_ (fun k=>k=mb) w w'→IsF w' mb (bF_ F name off (bs.take k))→R w') :
  c3_ (some mb) #[.int .u8 119,.string name,.string to,.int .i64 (off:Int),.slice p.A p.n p.c] (k:Int) w R:=by
 refine gT_.calls _ _ _ _ _ ?_
 refine ag_ fun cb w0 hcb hb0 hg0 hsz0=>?_
 have hb0:Blk w0 cb #[.int .u8 119,.string name,.string to,.int .i64 (off:Int),.slice p.A p.n p.c] aK_:=hb0
 have c0:∀{u:World},Blk u cb #[.int .u8 119,.string name,.string to,.int .i64 (off:Int),.slice p.A p.n p.c] aK_→u.cell? ((⟨cb,0,none⟩:Addr).add 0)=some (.int .u8 119):=fun q=>by rw[aq_,q.cell];rfl
 have c1:∀{u:World},Blk u cb #[.int .u8 119,.string name,.string to,.int .i64 (off:Int),.slice p.A p.n p.c] aK_→u.cell? ((⟨cb,0,none⟩:Addr).add 1)=some (.string name):=fun q=>by rw[aq_,q.cell];rfl
 have c3:∀{u:World},Blk u cb #[.int .u8 119,.string name,.string to,.int .i64 (off:Int),.slice p.A p.n p.c] aK_→u.cell? ((⟨cb,0,none⟩:Addr).add 3)=some (.int .i64 (off:Int)):=fun q=>by rw[aq_,q.cell];rfl
 have c4:∀{u:World},Blk u cb #[.int .u8 119,.string name,.string to,.int .i64 (off:Int),.slice p.A p.n p.c] aK_→u.cell? ((⟨cb,0,none⟩:Addr).add 4)=some (.slice p.A p.n p.c):=fun q=>by rw[aq_,q.cell];rfl
 have hpn:bs.length=p.n:=by have:=hp.len;rw[az_] at this;omega
 have hcap:=hp.cap
 refine⟨119,c0 hb0,am_ rfl ?_⟩
 have hmn:=tu_ k p.n
 refine⟨p,c4 hb0,p,c4 hb0,⟨o_,o_,o_,o_⟩,name,c1 hb0,?_⟩
 rw[hmn]
 obtain⟨r,_,hlk,hown,_,hol⟩:=on_ (hF.grow hg0) name
 generalize hold:(F name).getD []=old at *
 have hrn:old.length=r.1.n:=by have:=hown.len;rw[az_] at this;omega
 refine⟨r.1,hlk,?_⟩
 refine aZ_ (s:=⟨none,0,0⟩) (vs:=[]) (base:=w0.heap.size) aX_ bE_ rfl d_ d_ (aH_ _ _ _ _) (hown.rd o_) (by intro u hu;simp only[bv,List.mem_map] at hu;obtain⟨_,_,rfl⟩:=hu;rfl) (by show(0+r.1.n)*1≤_;omega) (Nat.le_refl _) fun s1 w1 hn1 hown1 hk1 _=>?_
 have hg1:ab_ w0 w1:=hk1.mono fun i hi q=>by cases q
 rw[List.nil_append] at hown1
 simp only[Int.toNat_natCast,Nat.sub_zero]
 generalize hL:(bs.take k).length=L at *
 have hLm:min k p.n=L:=by rw[←hL,List.length_take];omega
 rw[hLm]
 have hLb:off+L≤1048576:=by rw[←hL,List.length_take];omega
 refine⟨fun f w'=>∃j:Nat,ab_ w0 w'∧Own w' w0.heap.size ae_ 1 f (bv (old++List.replicate j 0))∧(j=0∨old.length+j≤off+L),fun f _=>off+L-f.n,⟨0,hg1,by simpa using hown1,.inl rfl⟩,?_⟩
 rintro f w2 ⟨j,hg2,hown2,hj⟩
 have hfn:old.length+j=f.n:=by have:=hown2.len;rw[az_,List.length_append,List.length_replicate] at this;omega
 have hb2:=hg2.heap hb0 (fun q=>q)
 refine⟨(off:Int),c3 hb2,?_⟩
 have hwp:IntKind.wrap .i64 ((off:Int)+(L:Int))=((off+L:Nat):Int):=by rw[w64 o_ o_];omega
 refine a2_ (fun hlt=>?_) (fun hge=>?_)
 ·rw[hwp] at hlt
  refine aN_ (cells:=#[.int .u8 0]) (e:=ae_) (z:=1) (base:=w0.heap.size) k_ rfl d_ hg2.size fun w3 hlit3 hg3 _=>?_
  refine aZ_ aX_ bE_ rfl d_ d_ (hown2.grow hg3) (hlit3.rd (by show 1≤_;decide)) (by simp[Value.oneCell']) (by show(f.n+1)*1≤_;omega) (hg2.trans hg3).size fun f4 w4 hn4 hown4 hk4 _=>?_
  refine⟨⟨j+1,(hg2.trans hg3).keep hk4 fun i hi q=>by have:=(hown2.ge i q.symm).1;omega,?_,.inr o_⟩,?_⟩
  ·have e:bv (old++List.replicate (j+1) 0)=bv (old++List.replicate j 0)++[.int .u8 0]:=by
    rw[b3_,b3_,List.append_assoc,wW_]
   rw[e];exact hown4
  ·have:f4.n=f.n+1:=hn4
   dsimp only
   omega
 ·rw[hwp] at hge
  have hjv:j=off+L-old.length:=o_
  have hfr:=hown2.rd o_
  have hfc:=hfr.cap
  refine⟨(off:Int),c3 hb2,⟨o_,o_,o_,o_⟩,?_⟩
  simp only[Int.toNat_natCast]
  have hx:=(hp.grow (hg0.trans hg2)).cutB (l:=0) (k:=L) (Nat.zero_le _) o_
  simp only[List.drop_zero,Nat.sub_zero] at hx
  have hxt:bs.take L=bs.take k:=by
   rw[←hL,List.length_take]
   rcases Nat.le_total k bs.length with q|q
   ·rw[Nat.min_eq_left q]
   ·rw[Nat.min_eq_right q,List.take_length,List.take_of_length_le q]
  rw[hxt] at hx
  refine tr_ (x:=⟨aM_ p.A p.c 0 1,L,p.c⟩) (o:=off) aX_ bE_ hown2 hx (by intro u hu;simp only[bv,List.mem_map] at hu;obtain⟨_,_,rfl⟩:=hu;rfl) (by show off+L≤f.n;omega) fun w3 hown3 hk3 _=>?_
  have hcf:f.blk≠some cb:=fun q=>by have:=(hown2.ge cb q).1;omega
  have hb3:=hk3.heap hb2 (fun q=>hcf q.symm)
  refine⟨name,c1 hb3,?_⟩
  have hg3:ab_ w0 w3:=hg2.keep hk3 fun i hi q=>by have:=(hown2.ge i q.symm).1;omega
  have hgw:ab_ w w3:=hg0.trans hg3
  have hres:Own w3 0 ae_ 1 f (bv (wr old off (bs.take k))):=by
   refine Own.mono (base:=w0.heap.size) ?_ (Nat.zero_le _)
   have e:bv (wr old off (bs.take k))=(bv (old++List.replicate j 0)).take off++bv (bs.take k)++(bv (old++List.replicate j 0)).drop (off+L):=by
    unfold wr
    rw[hL,←hjv,b3_,b3_,nU_,rr_]
   rw[e]
   exact hown3
  refine uJ_ (hF.grow hgw) name hres (by rw[wV_,hL];omega) fun w4 hF4 hk4=>?_
  refine h w4 (aa_.trans (hgw.mono fun _ _ q=>q.elim) hk4 fun _ _ q=>q) ?_
  unfold bF_
  rw[hold]
  exact hF4
end Go.Proofs.YtpmebahhjgkflaaGreatDoor
namespace Go.Proofs.YtpmebahhjgkflaaGreatDoor.CF
open Go Go.RowKit
set_option maxRecDepth 100000
def o3_ (es:List MapEntry):Prop:=∀e∈es,∃s,e.key=.int .i64 s
def lp_:List MapEntry→Int→Nat→Option (Nat×Value)
 | [],_,_=>none
 | e::r,s,i=>match e.key with
  | .int .i64 t=>if s=t then some (i,e.val) else lp_ r s (i+1)
  | _=>lp_ r s (i+1)
def wX_ (es:List MapEntry) (s:Int):Option Value:=(lp_ es s 0).map (·.2)
theorem mg_ {s:Int}:∀{es:List MapEntry} (i:Nat),o3_ es→Instr.findNow (.int .i64) (.int .i64 s) es i=some (lp_ es s i)
 | [],_,_=>rfl
 | e::r,i,h=>by
  obtain⟨t,ht⟩:=h e (by simp)
  have ih:=mg_ (s:=s) (i+1) (fun x hx=>h x (by simp[hx]):o3_ r)
  unfold Instr.findNow lp_
  rw[ht]
  simp only[Instr.sameNow]
  by_cases e:s=t
  ·have:(s==t)=true:=beq_iff_eq.2 e
   simp only[if_true,this]
   simp only[if_pos e]
  ·have:(s==t)=false:=Bool.eq_false_iff.2 fun q=>e (beq_iff_eq.1 q)
   simp only[if_true,this]
   simp only[if_neg e]
   exact ih
def pP_ (w:World) (b:Nat) (m:Int→Option Value):Prop:=
 ∃es clock,w.heap[b]?=some (.map es clock)∧o3_ es.toList∧∀s,wX_ es.toList s=m s
theorem pP_.keep {S:Nat→Prop} {w w':World} {b:Nat} {m:Int→Option Value} (h:pP_ w b m) (k:aa_ S w w') (hn:¬S b):pP_ w' b m:=by
 obtain⟨es,c,h1,h2⟩:=h
 exact⟨es,c,k.heap h1 hn,h2⟩
section
variable {P:Program} {w:World} {b:Nat} {m:Int→Option Value} {t k e:TypeId}
theorem hE_ {es:Array MapEntry} {clock:Nat} (h:w.heap[b]?=some (.map es clock)):(getObj b).run P w=.ok (.map es clock) w:=by
 simp[getObj,Sem.run,h]
theorem is_ (ek:Bool) (n:Nat) (hk:P.underlying k=some (.int .i64)) (s:Int):(Instr.checkKey ek (n+1) k (.int .i64 s)).run P w=.ok () w:=by
 unfold Instr.checkKey
 simp[run_underlying hk]
theorem hF_ {es:List MapEntry} (hk:P.underlying k=some (.int .i64)) (hs:o3_ es) (s:Int):(Instr.findKey k (.int .i64 s) es).run P w=.ok (lp_ es s 0) w:=by
 unfold Instr.findKey
 simp[run_underlying hk,mg_ 0 hs]
theorem sb_ (ht:P.underlying t=some (.map k e)) (hk:P.underlying k=some (.int .i64)) {zv:Value} (hz:(zeroValue e).run P w=.ok zv w) (h:pP_ w b m) (s:Int) :
  (Instr.lookup t (.map (some b)) (.int .i64 s) true).run P w=.ok (.tuple #[(m s).getD zv,.bool (m s).isSome]) w∧
  (Instr.lookup t (.map (some b)) (.int .i64 s) false).run P w=.ok ((m s).getD zv) w:=by
 obtain⟨es,c,hb,hs,hm⟩:=h
 have:=hm s
 unfold wX_ at this
 unfold Instr.lookup
 constructor
 ·cases hi:lp_ es.toList s 0 with
  | none=>
   rw[hi] at this
   simp only[Option.map_none] at this
   rw[←this]
   simp[run_underlying ht,hE_ hb,is_ _ _ hk,hF_ hk hs,hi,hz]
  | some p=>
   rw[hi] at this
   simp only[Option.map_some] at this
   rw[←this]
   simp[run_underlying ht,hE_ hb,is_ _ _ hk,hF_ hk hs,hi]
 ·cases hi:lp_ es.toList s 0 with
  | none=>
   rw[hi] at this
   simp only[Option.map_none] at this
   rw[←this]
   simp[run_underlying ht,hE_ hb,is_ _ _ hk,hF_ hk hs,hi,hz]
  | some p=>
   rw[hi] at this
   simp only[Option.map_some] at this
   rw[←this]
   simp[run_underlying ht,hE_ hb,is_ _ _ hk,hF_ hk hs,hi]
end
end Go.Proofs.YtpmebahhjgkflaaGreatDoor.CF
namespace Go.Proofs.YtpmebahhjgkflaaGreatDoor
open Go CF
set_option maxRecDepth 100000
structure Cg where
 kind:Int
 name:ByteArray
 to:ByteArray
 off:Nat
 p:L8
def cgv (x:Cg×Sl):List Value:=[.int .u8 x.1.kind,.string x.1.name,.string x.1.to,.int .i64 (x.1.off:Int),.slice x.2.A x.2.n x.2.c]
theorem nY_ (x:Cg×Sl):(cgv x).length=5:=rfl
structure Wst where
 seen:a7_
 dur:a7_
 waits:List Cg
 ops:Nat
structure Pl where
 mf:Option Nat
 F:Int→Bool
def iQ_ (w:World) (pl:Pl):Prop:=match pl.mf with
 | none=>∀n,pl.F n=false
 | some b=>∃m,pP_ w b m∧∀n,(m n).getD (.bool false)=.bool (pl.F n)
def tv_:Pl:=⟨none,fun _=>false⟩
theorem iQ_.keep {S:Nat→Prop} {w w':World} {pl:Pl} (h:iQ_ w pl) (k:aa_ S w w') (hn:∀b,pl.mf=some b→¬S b):iQ_ w' pl:=by
 obtain⟨mf,F⟩:=pl
 cases mf with
 | none=>exact h
 | some b=>
  obtain⟨m,h1,h2⟩:=h
  exact⟨m,h1.keep k (hn b rfl),h2⟩
theorem iQ_.map {w:World} {pl:Pl} (h:iQ_ w pl) {b:Nat} (hb:pl.mf=some b):∃es c,w.heap[b]?=some (.map es c):=by
 obtain⟨mf,F⟩:=pl
 simp only at hb
 subst hb
 obtain⟨m,⟨es,c,h1,_⟩,_⟩:=h
 exact⟨es,c,h1⟩
def em_ (mf:Option Nat) (mb md:Nat) (ws:Sl) (ops:Nat):A_:=#[.map (some mb),.map (some md),.slice ws.A ws.n ws.c,.int .i64 (ops:Int),.map mf,.int .i64 (-1),.bool false]
structure ca_ (w:World) (pw:Nat) (D:Nat→Prop) (st:Wst) (pl:Pl) (mb md:Nat) (ws:Sl) (cs:List (Cg×Sl)):Prop where
 blk:Blk w pw (em_ pl.mf mb md ws st.ops) bs_
 seen:IsF w mb st.seen
 dur:IsF w md st.dur
 ne:mb≠md
 own:Own w 0 aK_ 5 ws (cs.flatMap cgv)
 waits:cs.map (·.1)=st.waits
 rows:∀c∈cs,Own w 0 ae_ 1 c.2 (bv c.1.p)
 dw:D pw
 db:D mb
 dd:D md
 ds:∀g,ws.blk=some g→D g
 lt:∀k,D k→k<w.heap.size
 nb:bR_ w D
 plan:iQ_ w pl
 dp:∀b,pl.mf=some b→D b
 np:pl.mf≠some mb∧pl.mf≠some md
def ba_ (w:World) (pw:Nat) (D:Nat→Prop) (st:Wst) (F:Int→Bool):Prop:=∃pl,pl.F=F∧∃mb md ws cs,ca_ w pw D st pl mb md ws cs
def aQ_:Int→Bool:=fun _=>false
abbrev IsW (w:World) (pw:Nat) (D:Nat→Prop) (st:Wst):Prop:=ba_ w pw D st aQ_
theorem ca_.keep {S:Nat→Prop} {w w':World} {pw:Nat} {D:Nat→Prop} {st:Wst} {pl:Pl} {mb md:Nat} {ws:Sl} {cs:List (Cg×Sl)} (h:ca_ w pw D st pl mb md ws cs) (k:aa_ S w w') (hd:∀k,D k→¬S k) (hs:bR_ w S) :
  ca_ w' pw D st pl mb md ws cs:=by
 have hsz:=k.size
 refine⟨k.heap h.blk (hd _ h.dw),h.seen.keep k (hd _ h.db) hs,h.dur.keep k (hd _ h.dd) hs,h.ne,h.own.keep k fun b hb=>hd _ (h.ds b hb),h.waits,fun c hc=>(h.rows c hc).keep k fun b hb=>?_,h.dw,h.db,h.dd,h.ds,fun k hk=>by have:=h.lt k hk;omega,fun g cur hg q=>?_,h.plan.keep k fun b hb=>hd _ (h.dp b hb),h.dp,h.np⟩
 ·obtain⟨cur,hcur⟩:=a4_ (h.rows c hc) hb
  exact hs b cur hcur
 ·have hlt:=h.lt g q
  have:=k.block g hlt (hd g q)
  exact h.nb g cur (by rw[←this];exact hg) q
theorem IsW.q {w:World} {pw:Nat} {D:Nat→Prop} {st:Wst} (h:IsW w pw D st):ba_ w pw D st aQ_:=h
theorem ba_.isW {w:World} {pw:Nat} {D:Nat→Prop} {st:Wst} (h:ba_ w pw D st aQ_):IsW w pw D st:=h
theorem ba_.keep {S:Nat→Prop} {w w':World} {pw:Nat} {D:Nat→Prop} {st:Wst} {F:Int→Bool} (h:ba_ w pw D st F) (k:aa_ S w w') (hd:∀k,D k→¬S k) (hs:bR_ w S):ba_ w' pw D st F:=by
 obtain⟨pl,hq,mb,md,ws,cs,h⟩:=h
 exact⟨pl,hq,mb,md,ws,cs,h.keep k hd hs⟩
theorem ba_.grow {w w':World} {pw:Nat} {D:Nat→Prop} {st:Wst} {F:Int→Bool} (h:ba_ w pw D st F) (k:ab_ w w'):ba_ w' pw D st F:=h.keep k (fun _ _ q=>q) (bo_ w)
theorem j0_ {w:World} {R:O_→W_}
  (h:∀pw D w',ab_ w w'→IsW w' pw D ⟨fun _=>none,fun _=>none,[],0⟩→(∀k,D k→w.heap.size≤k)→R (some ⟨pw,0,none⟩) w'):ig_ w R:=by
 refine ij_.calls _ _ ?_
 rintro mb w1 rfl rfl
 rintro md w2 rfl rfl
 refine ag_ fun pw w3 hpw hb3 hg3 hsz3=>?_
 have hg1:=dh_ w (.map #[] 0)
 have hg2:=dh_ (w.alloc (.map #[] 0)) (.map #[] 0)
 have s1:(w.alloc (.map #[] 0)).heap.size=w.heap.size+1:=by simp
 have s2:((w.alloc (.map #[] 0)).alloc (.map #[] 0)).heap.size=w.heap.size+2:=by simp
 have f1:IsF w3 w.heap.size fun _=>none:=((rs_ w).grow hg2).grow hg3
 have f2:IsF w3 (w.alloc (.map #[] 0)).heap.size fun _=>none:=(rs_ _).grow hg3
 refine h pw (fun k=>k=pw∨k=w.heap.size∨k=(w.alloc (.map #[] 0)).heap.size) w3 ((hg1.trans hg2).trans hg3) ⟨tv_,rfl,w.heap.size,(w.alloc (.map #[] 0)).heap.size,⟨none,0,0⟩,[],?_⟩ fun k hk=>o_
 refine⟨hb3,f1,f2,o_,aH_ _ _ _ _,rfl,fun c hc=>(by cases hc),.inl rfl,.inr (.inl rfl),.inr (.inr rfl),fun g hg=>(by simp[Sl.blk] at hg),fun k hk=>o_,fun g cur hg q=>?_,fun _=>rfl,fun b hb=>(by cases hb),⟨fun q=>(by cases q),fun q=>(by cases q)⟩⟩
 rcases q with rfl|rfl|rfl
 ·rw[hb3] at hg
  injection hg with hg
  injection hg with _ ht
  exact absurd ht d_
 ·exact bX_ f1 _ _ _ hg
 ·exact bX_ f2 _ _ _ hg
theorem pQ_ {P:Program} {w:World} {k:TypeId} {q:IntKind} (ek:Bool) (n:Nat) (hk:P.underlying k=some (.int q)) (z:Int):(Instr.checkKey ek (n+1) k (.int q z)).run P w=.ok () w:=by
 unfold Instr.checkKey
 simp[run_underlying hk]
theorem uK_ (w:World) (n:Int):(Instr.lookup jV_ (.map none) (.int .i64 n) false).run Tryz.prog w=.ok (.bool false) w:=by
 have hf:(Instr.findKey 3 (.int .i64 n) []).run Tryz.prog w=.ok none w:=by
  unfold Instr.findKey
  simp[run_underlying na_,Instr.findNow]
 unfold Instr.lookup
 simp[run_underlying jW_,pQ_ _ _ na_,hf,lo_ tt_]
theorem tw_ {w:World} {pl:Pl} (h:iQ_ w pl) (n:Int):(Instr.lookup jV_ (.map pl.mf) (.int .i64 n) false).run Tryz.prog w=.ok (.bool (pl.F n)) w:=by
 obtain⟨mf,F⟩:=pl
 cases mf with
 | none=>
  have e:F n=false:=h n
  show _=Result.ok (Value.bool (F n)) w
  rw[e];exact uK_ _ _
 | some b=>
  obtain⟨m,h1,h2⟩:=h
  have:=(sb_ (P:=Tryz.prog) jW_ na_ (lo_ tt_ (w:=w)) h1 n).2
  rw[h2 n] at this
  exact this
theorem mL_ {w:World} {pw:Nat} {D:Nat→Prop} {st:Wst} {pl:Pl} {mb md:Nat} {ws:Sl} {cs:List (Cg×Sl)} {R:Int→W_} (hw:ca_ w pw D st pl mb md ws cs) (ho:st.ops<1000000000000)
  (h:∀w',aa_ (fun k=>k=pw) w w'→ca_ w' pw D {st with ops:=st.ops+1} pl mb md ws cs→R (if pl.F (st.ops:Int) then 6 else 0) w'):cM_ (some ⟨pw,0,none⟩) w R:=by
 refine ee_.calls _ _ _ ?_
 have hb:=hw.blk
 refine⟨rfl,false,by rw[gA,aq_,hb.cell];rfl,aj_ rfl ⟨rfl,(st.ops:Int),by rw[gA,aq_,hb.cell];rfl,rfl,(st.ops:Int),by rw[gA,aq_,hb.cell];rfl,rfl,?_⟩⟩
 rw[w64 o_ o_]
 rw[gA,aq_]
 refine a0_ hb (by show 3<7;decide) rfl fun w1 hb1 hk1 hsz1=>?_
 have hb1:Blk w1 pw (em_ pl.mf mb md ws (st.ops+1)) bs_:=hb1
 have fin:ca_ w1 pw D {st with ops:=st.ops+1} pl mb md ws cs:=by
  have nbp:bR_ w fun k=>k=pw:=fun g cur hg q=>hw.nb g cur hg (by subst q;exact hw.dw)
  have nm:mb≠pw:=fun q=>bX_ hw.seen _ _ _ (by rw[q];exact hb)
  have nd:md≠pw:=fun q=>bX_ hw.dur _ _ _ (by rw[q];exact hb)
  refine⟨hb1,hw.seen.keep hk1 nm nbp,hw.dur.keep hk1 nd nbp,hw.ne,hw.own.keep hk1 fun b hb2 q=>?_,hw.waits,fun c hc=>(hw.rows c hc).keep hk1 fun b hb2=>?_,hw.dw,hw.db,hw.dd,hw.ds,fun k hk=>by have:=hw.lt k hk;omega,fun g cur hg q=>?_,
   hw.plan.keep hk1 fun b hb2 q=>?_,hw.dp,hw.np⟩
  ·obtain⟨cur,hc⟩:=a4_ hw.own hb2
   subst q
   rw[hb] at hc
   injection hc with hc
   injection hc with _ ht
   exact absurd ht d_
  ·obtain⟨cur,hc2⟩:=a4_ (hw.rows c hc) hb2
   exact nbp b cur hc2
  ·by_cases e:g=pw
   ·subst e
    rw[hb1] at hg
    injection hg with hg
    injection hg with _ ht
    exact absurd ht d_
   ·exact hw.nb g cur (by rw[←hk1.block g (hw.lt g q) e];exact hg) q
  ·subst q
   obtain⟨es,c,hm⟩:=hw.plan.map hb2
   rw[hb] at hm
   cases hm
 refine⟨rfl,-1,by rw[aq_,hb1.cell];rfl,aj_ (by rw[beq_eq_false_iff_ne];omega) ⟨rfl,pl.mf,by rw[aq_,hb1.cell];rfl,pl.F (st.ops:Int),tw_ fin.plan _,?_⟩⟩
 have:=h w1 hk1 fin
 cases hf:pl.F (st.ops:Int) with
 | false=>rw[hf] at this;exact aj_ rfl this
 | true=>rw[hf] at this;exact am_ rfl this
end Go.Proofs.YtpmebahhjgkflaaGreatDoor
