import Derived.MapKept
import Derived.WalkKit
import Derived.ProofKit
import Derived.OpenShut
import Derived.ShutString
import Derived.ChangeOld
import Derived.Below
import Derived.SizedLaws
import Derived.Test.YtpmebahhjgkflaaGreatDoorB3
set_option maxHeartbeats 20000000
namespace Go.Proofs.YtpmebahhjgkflaaGreatDoor
open Go CF
set_option linter.unusedVariables false
set_option maxRecDepth 100000
def fa_ (w_:O_) (file:ByteArray) (off:Int) (n:Int) (w:World) (R:Sl→Int→W_):Prop:=
 jx_ file w fun b w0=>Br (((!b)||(decide (off<0)))||(decide (n<0))) (R (⟨none,0,0⟩:Sl) 1 w0) (Br ((w_).isNone) (R (⟨none,0,0⟩:Sl) 8 w0) (w_.isSome=true∧∃m:Option Nat,w0.cell? ((gA w_).add 0)=some (.map m)∧∃r:Sl×Bool,(Instr.lookup 106 (.map m) (.string file) true).run Tryz.prog w0=.ok (.tuple #[.slice r.1.A r.1.n r.1.c,.bool r.2]) w0∧dA_ w_ w0 fun n1 w01=>Br (n1 != 0) (R (⟨none,0,0⟩:Sl) n1 w01) (Br (!r.2) (R (⟨none,0,0⟩:Sl) 8 w01) (Br (decide (off≥(r.1.n:Int))) (R (⟨none,0,0⟩:Sl) 0 w01) ((0≤off∧off≤(IntKind.wrap .i64 (off+(mn n (IntKind.wrap .i64 ((r.1.n:Int)-off)))))∧(IntKind.wrap .i64 (off+(mn n (IntKind.wrap .i64 ((r.1.n:Int)-off)))))≤(r.1.c:Int)∧r.1.n≤r.1.c)∧an_ Tryz.prog .sl (Builtin.append_ #[33,33] 33 #[.slice none 0 0,.slice (aI_ r.1.A r.1.c off.toNat 1) ((IntKind.wrap .i64 (off+(mn n (IntKind.wrap .i64 ((r.1.n:Int)-off))))).toNat-off.toNat) (r.1.c-off.toNat)]) w01 fun xs w02=>R xs 0 w02)))))
theorem fa_.calls (w_:O_) (file:ByteArray) (off:Int) (n:Int) (w:World) (R:Sl→Int→W_) (h:fa_ w_ file off n w R):cN_ w_ file off n w R:=
 ad_ (aj_ ah_) aA_ Tryz.func205 [] [.sl,.i .i64] [.pointer w_,.string file,.int .i64 off,.int .i64 n] w R (Eq.mp (show fa_ w_ file off n w R=vcF Tryz.prog G Tryz.f205 [] [.sl,.i .i64] [.pointer w_,.string file,.int .i64 off,.int .i64 n] w R by kernel_rfl) h)
def fb_ (s:O_) (i:Int) (w:World) (R:ByteArray→W_):Prop:=
 ∀w0,w0=w.drew→∃S:W_,S w0∧s.isSome=true∧∃s1:ByteArray,(∀u,S u→u.cell? ((gA s).add 1)=some (.string s1))∧(s1.size+oX_.size≤9223372036854775807)∧an_ Tryz.prog .sl (Instr.buildSlice 33 1 #[(0,.int .u8 (IntKind.wrap .u8 (IntKind.wrap .i64 (48+i))))]) w0 fun xs w01=>S w01∧∃S1:W_,S1 w01∧(∀u1,S1 u1→S u1)∧∃s2:ByteArray,(∀u2,S1 u2→(convert 33 9 (.slice xs.A xs.n xs.c)).run Tryz.prog u2=.ok (.string s2) u2)∧((s1++oX_).size+s2.size≤9223372036854775807)∧R ((s1++oX_)++s2) w01
theorem fb_.calls (s:O_) (i:Int) (w:World) (R:ByteArray→W_) (h:fb_ s i w R):eW_ s i w R:=
 ad_ (aj_ ah_) aA_ Tryz.func206 [] [.s] [.pointer s,.int .i64 i] w R (Eq.mp (show fb_ s i w R=vcF Tryz.prog G Tryz.f206 [] [.s] [.pointer s,.int .i64 i] w R by kernel_rfl) h)
def h3_ (p:Sl) (w:World) (R:Int→Sl→Int→W_):Prop:=
 ((!(decide ((p.n:Int)<20)))=true→(0≤(0:Int)∧(0:Int)≤(4:Int)∧(4:Int)≤(p.c:Int)∧p.n≤p.c))∧∃s:ByteArray,((!(decide ((p.n:Int)<20)))=true→(convert 33 9 (.slice (aI_ p.A p.c 0 1) (4-0) (p.c-0))).run Tryz.prog w=.ok (.string s) w)∧Br ((decide ((p.n:Int)<20))||(!(sEq s wU_))) (R 0 (⟨none,0,0⟩:Sl) 3 w) (bJ_ p 4 8 w fun n n1 w0=>bJ_ p 12 4 w0 fun n2 n3 w01=>Br ((decide (n2>4096))||(decide ((IntKind.wrap .i64 n2)>(IntKind.wrap .i64 ((p.n:Int)-20))))) (R 0 (⟨none,0,0⟩:Sl) 3 w01) (bJ_ p (IntKind.wrap .i64 (16+(IntKind.wrap .i64 n2))) 4 w01 fun n4 n5 w02=>(0≤(0:Int)∧(0:Int)≤(IntKind.wrap .u64 (16+n2))∧(IntKind.wrap .u64 (16+n2))≤(p.c:Int)∧p.n≤p.c)∧nk_ ⟨(aI_ p.A p.c 0 1),((IntKind.wrap .u64 (16+n2)).toNat-0),(p.c-0)⟩ w02 fun n6 w03=>Br ((IntKind.wrap .u32 n4) != n6) (R 0 (⟨none,0,0⟩:Sl) 5 w03) ((0≤(16:Int)∧(16:Int)≤(IntKind.wrap .u64 (16+n2))∧(IntKind.wrap .u64 (16+n2))≤(p.c:Int)∧p.n≤p.c)∧an_ Tryz.prog .sl (Builtin.append_ #[33,33] 33 #[.slice none 0 0,.slice (aI_ p.A p.c 16 1) ((IntKind.wrap .u64 (16+n2)).toNat-16) (p.c-16)]) w03 fun xs w04=>R n xs 0 w04)))
theorem h3_.calls (p:Sl) (w:World) (R:Int→Sl→Int→W_) (h:h3_ p w R):kf_ p w R:=
 ad_ (aj_ ah_) aA_ Tryz.func207 [] [.i .u64,.sl,.i .i64] [.slice p.A p.n p.c] w R (Eq.mp (show h3_ p w R=vcF Tryz.prog G Tryz.f207 [] [.i .u64,.sl,.i .i64] [.slice p.A p.n p.c] w R by kernel_rfl) h)
def j6_ (kind:Int) (w:World) (R:Bool→W_):Prop:=
 R (((kind==1)||(kind==3))||((decide (kind≥5))&&(decide (kind≤8)))) w
theorem j6_.calls (kind:Int) (w:World) (R:Bool→W_) (h:j6_ kind w R):iv_ kind w R:=
 ad_ (aj_ ah_) aA_ Tryz.func208 [] [.b] [.int .u8 kind] w R (Eq.mp (show j6_ kind w R=vcF Tryz.prog G Tryz.f208 [] [.b] [.int .u8 kind] w R by kernel_rfl) h)
def j7_ (c:O_) (p:Sl) (w:World) (R:Int→W_):Prop:=
 Br ((p.n:Int)==6) (bo_ p 1 3 w fun n w0=>bo_ p 4 1 w0 fun n1 w01=>c.isSome=true∧Put ((gA c).add 2) (.int .u64 (bm_ .u64 n 2097151)) w01 fun w02=>c.isSome=true∧Put ((gA c).add 3) (.int .u64 n1) w02 fun w03=>c.isSome=true∧∃n2:Int,w03.cell? ((gA c).add 3)=some (.int .u64 n2)∧Br (n2==0) (c.isSome=true∧Put ((gA c).add 3) (.int .u64 256) w03 fun w05=>R 4 w05) (R 4 w03)) (Br ((p.n:Int)==10) (bo_ p 2 4 w fun n3 w06=>bo_ p 7 2 w06 fun n4 w07=>c.isSome=true∧Put ((gA c).add 2) (.int .u64 n3) w07 fun w08=>c.isSome=true∧Put ((gA c).add 3) (.int .u64 n4) w08 fun w09=>R 7 w09) (bo_ p 2 8 w fun n5 w010=>bo_ p 10 4 w010 fun n6 w011=>c.isSome=true∧Put ((gA c).add 2) (.int .u64 n5) w011 fun w012=>c.isSome=true∧Put ((gA c).add 3) (.int .u64 n6) w012 fun w013=>R 10 w013))
theorem j7_.calls (c:O_) (p:Sl) (w:World) (R:Int→W_) (h:j7_ c p w R):oh_ c p w R:=
 ad_ (aj_ ah_) aA_ Tryz.func209 [] [.i .i64] [.pointer c,.slice p.A p.n p.c] w R (Eq.mp (show j7_ c p w R=vcF Tryz.prog G Tryz.f209 [] [.i .i64] [.pointer c,.slice p.A p.n p.c] w R by kernel_rfl) h)
def kH_ (p:Sl) (at_:Int) (v:A_) (w:World) (R:(A_)→Int→(A_)→Bool→W_):Prop:=
 New (.cells v 142) w fun v1 w0=>New (.cells #[.bool false,.bool false,.bool false] 142) w0 fun a w01=>New (.cells #[.int .u8 0,.int .u16 0,.int .u64 0,.bool false,.int .i64 0,.int .i64 0,.bool false,.bool false] 32) w01 fun a1 w02=>(0≤at_∧at_≤(p.n:Int)∧(p.n:Int)≤(p.c:Int)∧p.n≤p.c)∧(0≤(0:Int)∧(0:Int)<(((((p.n:Int)).toNat-at_.toNat):Nat):Int)∧(aI_ p.A p.c at_.toNat 1).isSome=true)∧∃n:Int,w02.cell? ((gA (aI_ p.A p.c at_.toNat 1)).add ((0:Int).toNat*1))=some (.int .u8 n)∧aK_ (fun(want:Sl) (w03:World)=>∀w04,w04=w03.drew→∃S:W_,S w04∧(((decide ((((((p.n:Int)).toNat-at_.toNat):Nat):Int)<(want.n:Int)))&&(!(decide ((((((p.n:Int)).toNat-at_.toNat):Nat):Int)<2))))=true→(0≤(1:Int)∧(1:Int)<(((((p.n:Int)).toNat-at_.toNat):Nat):Int)∧(aI_ p.A p.c at_.toNat 1).isSome=true))∧∃n1:Int,(((decide ((((((p.n:Int)).toNat-at_.toNat):Nat):Int)<(want.n:Int)))&&(!(decide ((((((p.n:Int)).toNat-at_.toNat):Nat):Int)<2))))=true→(∀u,S u→u.cell? ((gA (aI_ p.A p.c at_.toNat 1)).add ((1:Int).toNat*1))=some (.int .u8 n1)))∧(((decide ((((((p.n:Int)).toNat-at_.toNat):Nat):Int)<(want.n:Int)))&&(!(decide ((((((p.n:Int)).toNat-at_.toNat):Nat):Int)<2))))=true→(0≤(1:Int)∧(1:Int)<(want.n:Int)∧want.A.isSome=true))∧∃n2:Int,(((decide ((((((p.n:Int)).toNat-at_.toNat):Nat):Int)<(want.n:Int)))&&(!(decide ((((((p.n:Int)).toNat-at_.toNat):Nat):Int)<2))))=true→(∀u1,S u1→u1.cell? ((gA want.A).add ((1:Int).toNat*1))=some (.int .u8 n2)))∧Br ((decide ((((((p.n:Int)).toNat-at_.toNat):Nat):Int)<2))||((decide ((((((p.n:Int)).toNat-at_.toNat):Nat):Int)<(want.n:Int)))&&(n1==n2))) (∃g:A_,(loadVar 142 v1).run Tryz.prog w04=.ok (.agg g) w04∧af_ Tryz.prog (storeVar 142 a (.agg g)) w04 fun w05=>af_ Tryz.prog (storeVar 32 a1 (.agg #[.int .u8 5,.int .u16 6656,.int .u64 0,.bool false,.int .i64 0,.int .i64 0,.bool false,.bool false])) w05 fun w06=>∃res:A_,(loadVar 142 a).run Tryz.prog w06=.ok (.agg res) w06∧∃res1:A_,(loadVar 32 a1).run Tryz.prog w06=.ok (.agg res1) w06∧R res 0 res1 false w06) (∀w07,w07=w04.drew→∃S1:W_,S1 w07∧(0≤(1:Int)∧(1:Int)<(((((p.n:Int)).toNat-at_.toNat):Nat):Int)∧(aI_ p.A p.c at_.toNat 1).isSome=true)∧∃n3:Int,(∀u2,S1 u2→u2.cell? ((gA (aI_ p.A p.c at_.toNat 1)).add ((1:Int).toNat*1))=some (.int .u8 n3))∧(0≤(1:Int)∧(1:Int)<(want.n:Int)∧want.A.isSome=true)∧∃n4:Int,(∀u3,S1 u3→u3.cell? ((gA want.A).add ((1:Int).toNat*1))=some (.int .u8 n4))∧Br (n3 != n4) (∀w08,w08=w07.drew→∃S2:W_,S2 w08∧∃g1:A_,(∀u4,S2 u4→(loadVar 142 v1).run Tryz.prog u4=.ok (.agg g1) u4)∧fy_ (IntKind.wrap .i64 (at_+1)) (-1) false w08 fun g2 w09=>S2 w09∧af_ Tryz.prog (storeVar 142 a (.agg g1)) w09 fun w010=>af_ Tryz.prog (storeVar 32 a1 (.agg g2)) w010 fun w011=>∃res2:A_,(loadVar 142 a).run Tryz.prog w011=.ok (.agg res2) w011∧∃res3:A_,(loadVar 32 a1).run Tryz.prog w011=.ok (.agg res3) w011∧R res2 0 res3 false w011) (∃(I:Int→W_) (μ:Int→World→Nat),I 2 w07∧∀(i:Int) (w012:World),I i w012→Br (decide (i<(want.n:Int))) (aK_ (fun(w013:World)=>I (IntKind.wrap .i64 (i+1)) w013∧μ (IntKind.wrap .i64 (i+1)) w013<μ i w012) fun J_=>aK_ (fun(can:Int) (w014:World)=>∃(I1:Int→W_) (μ1:Int→World→Nat),I1 7 w014∧∀(bit:Int) (w015:World),I1 bit w015→Br (decide (bit≥0)) ((0≤i∧i<(((((p.n:Int)).toNat-at_.toNat):Nat):Int)∧(aI_ p.A p.c at_.toNat 1).isSome=true)∧∃n5:Int,w015.cell? ((gA (aI_ p.A p.c at_.toNat 1)).add (i.toNat*1))=some (.int .u8 n5)∧(0≤bit)∧Br ((bm_ .u8 (bu_ .u8 (s2_ .u8 n5 can) bit.toNat) 1)==1) (∀w016,w016=w015.drew→∃S3:W_,S3 w016∧∃g3:A_,(∀u5,S3 u5→(loadVar 142 v1).run Tryz.prog u5=.ok (.agg g3) u5)∧fy_ (IntKind.wrap .i64 (at_+i)) bit false w016 fun g4 w017=>S3 w017∧af_ Tryz.prog (storeVar 142 a (.agg g3)) w017 fun w018=>af_ Tryz.prog (storeVar 32 a1 (.agg g4)) w018 fun w019=>∃res4:A_,(loadVar 142 a).run Tryz.prog w019=.ok (.agg res4) w019∧∃res5:A_,(loadVar 32 a1).run Tryz.prog w019=.ok (.agg res5) w019∧R res4 0 res5 false w019) (I1 (IntKind.wrap .i64 (bit-1)) w015∧μ1 (IntKind.wrap .i64 (bit-1)) w015<μ1 bit w015)) (J_ w015)) fun J_1=>Br (i==2) (J_1 4 w012) (((i==4)=true→(0≤(0:Int)∧(0:Int)<(((((p.n:Int)).toNat-at_.toNat):Nat):Int)∧(aI_ p.A p.c at_.toNat 1).isSome=true))∧∃n6:Int,((i==4)=true→w012.cell? ((gA (aI_ p.A p.c at_.toNat 1)).add ((0:Int).toNat*1))=some (.int .u8 n6))∧Br ((i==4)&&(n6==10)) (J_1 8 w012) (J_1 0 w012))) ((0≤(0:Int)∧(0:Int)<(((((p.n:Int)).toNat-at_.toNat):Nat):Int)∧(aI_ p.A p.c at_.toNat 1).isSome=true)∧∃n7:Int,w012.cell? ((gA (aI_ p.A p.c at_.toNat 1)).add ((0:Int).toNat*1))=some (.int .u8 n7)∧aK_ (fun(w022:World)=>∃g5:A_,(loadVar 142 v1).run Tryz.prog w022=.ok (.agg g5) w022∧af_ Tryz.prog (storeVar 142 a (.agg g5)) w022 fun w023=>af_ Tryz.prog (storeVar 32 a1 (.agg #[.int .u8 0,.int .u16 0,.int .u64 0,.bool false,.int .i64 0,.int .i64 0,.bool false,.bool false])) w023 fun w024=>∃res6:A_,(loadVar 142 a).run Tryz.prog w024=.ok (.agg res6) w024∧∃res7:A_,(loadVar 32 a1).run Tryz.prog w024=.ok (.agg res7) w024∧R res6 (want.n:Int) res7 true w024) fun J_2=>Br (n7==8) ((0≤(2:Int)∧(2:Int)<(((((p.n:Int)).toNat-at_.toNat):Nat):Int)∧(aI_ p.A p.c at_.toNat 1).isSome=true)∧∃n8:Int,w012.cell? ((gA (aI_ p.A p.c at_.toNat 1)).add ((2:Int).toNat*1))=some (.int .u8 n8)∧Put (v1.add 0) (.bool (n8 != 0)) w012 fun w025=>J_2 w025) (∀w026,w026=w012.drew→∃S4:W_,S4 w026∧(0≤(2:Int)∧(2:Int)<(((((p.n:Int)).toNat-at_.toNat):Nat):Int)∧(aI_ p.A p.c at_.toNat 1).isSome=true)∧∃n9:Int,(∀u6,S4 u6→u6.cell? ((gA (aI_ p.A p.c at_.toNat 1)).add ((2:Int).toNat*1))=some (.int .u8 n9))∧(0≤(4:Int)∧(4:Int)<(((((p.n:Int)).toNat-at_.toNat):Nat):Int)∧(aI_ p.A p.c at_.toNat 1).isSome=true)∧∃n10:Int,(∀u7,S4 u7→u7.cell? ((gA (aI_ p.A p.c at_.toNat 1)).add ((4:Int).toNat*1))=some (.int .u8 n10))∧Put (v1.add 1) (.bool (n9 != 0)) w026 fun w027=>S4 w027∧Put (v1.add 2) (.bool (n10 != 0)) w027 fun w028=>J_2 w028))))) fun J_3=>Br (n==8) (hP_ #[.bool false,.bool false,.bool false] w02 fun xs w030=>J_3 xs w030) (Br (n==10) (hQ_ #[.bool false,.bool false,.bool false] w02 fun xs1 w031=>J_3 xs1 w031) (∀w032,w032=w02.drew→∃S5:W_,S5 w032∧∃g6:A_,(∀u8,S5 u8→(loadVar 142 v1).run Tryz.prog u8=.ok (.agg g6) u8)∧fy_ at_ (-1) false w032 fun g7 w033=>S5 w033∧af_ Tryz.prog (storeVar 142 a (.agg g6)) w033 fun w034=>af_ Tryz.prog (storeVar 32 a1 (.agg g7)) w034 fun w035=>∃res8:A_,(loadVar 142 a).run Tryz.prog w035=.ok (.agg res8) w035∧∃res9:A_,(loadVar 32 a1).run Tryz.prog w035=.ok (.agg res9) w035∧R res8 0 res9 false w035))
theorem kH_.calls (p:Sl) (at_:Int) (v:A_) (w:World) (R:(A_)→Int→(A_)→Bool→W_) (h:kH_ p at_ v w R):nh_ p at_ v w R:=
 ad_ (aj_ ah_) aA_ Tryz.func210 [(42,⟨[(12,.i .i64)],[1,5,6,8,10,11]⟩),(8,⟨[],[1,5,6,8,10,11,12]⟩),(66,⟨[(14,.i .i64)],[1,5,6,8,10,11,12,13]⟩),(11,⟨[(13,.i .u8)],[1,5,6,8,10,11,12]⟩),(82,⟨[],[5,6,8,11]⟩),(2,⟨[(11,.sl)],[1,5,6,8,10]⟩)] [.ag,.i .i64,.ag,.b] [.slice p.A p.n p.c,.int .i64 at_,.agg v] w R (Eq.mp (show kH_ p at_ v w R=vcF Tryz.prog G Tryz.f210 [(42,⟨[(12,.i .i64)],[1,5,6,8,10,11]⟩),(8,⟨[],[1,5,6,8,10,11,12]⟩),(66,⟨[(14,.i .i64)],[1,5,6,8,10,11,12,13]⟩),(11,⟨[(13,.i .u8)],[1,5,6,8,10,11,12]⟩),(82,⟨[],[5,6,8,11]⟩),(2,⟨[(11,.sl)],[1,5,6,8,10]⟩)] [.ag,.i .i64,.ag,.b] [.slice p.A p.n p.c,.int .i64 at_,.agg v] w R by kernel_rfl) h)
def dC_ (s:O_) (payload:Sl) (w:World) (R:Int→Int→W_):Prop:=
 Br (decide ((payload.n:Int)>4096)) (R 0 2 w) (Br ((s).isNone) (R 0 8 w) (s.isSome=true∧∃b:Bool,w.cell? ((gA s).add 2)=some (.bool b)∧aK_ (fun(w0:World)=>s.isSome=true∧Put ((gA s).add 2) (.bool false) w0 fun w01=>s.isSome=true∧∃n:Int,w01.cell? ((gA s).add 3)=some (.int .i64 n)∧aK_ (fun(to:Int) (w02:World)=>s.isSome=true∧∃n1:Int,w02.cell? ((gA s).add 4)=some (.int .u64 n1)∧kg_ (IntKind.wrap .u64 (n1+1)) payload w02 fun xs n2 w03=>∀w04,w04=w03.drew→∃S:W_,S w04∧s.isSome=true∧∃p:O_,(∀u,S u→u.cell? ((gA s).add 0)=some (.pointer p))∧eW_ s to w04 fun s1 w05=>S w05∧eh_ p s1 0 xs w05 fun n3 w06=>aK_ (fun(e:Int) (w07:World)=>Br (e != 0) (R 0 e w07) (s.isSome=true∧∃n4:Int,w07.cell? ((gA s).add 4)=some (.int .u64 n4)∧s.isSome=true∧Put ((gA s).add 3) (.int .i64 to) w07 fun w08=>s.isSome=true∧Put ((gA s).add 4) (.int .u64 (IntKind.wrap .u64 (n4+1))) w08 fun w09=>s.isSome=true∧Put ((gA s).add 2) (.bool true) w09 fun w010=>s.isSome=true∧∃n5:Int,w010.cell? ((gA s).add 4)=some (.int .u64 n5)∧R n5 0 w010)) fun J_=>Br (n3==0) (s.isSome=true∧∃p1:O_,w06.cell? ((gA s).add 0)=some (.pointer p1)∧cn_ p1 w06 fun n6 w011=>J_ n6 w011) (J_ n3 w06)) fun J_1=>Br (n==0) (J_1 1 w01) (J_1 0 w01)) fun J_2=>Br (!b) (dz_ s w fun xs1 n7 n8 w012=>Br ((n8 != 0)&&(n8 != 8)) (R 0 n8 w012) (J_2 w012)) (J_2 w)))
theorem dC_.calls (s:O_) (payload:Sl) (w:World) (R:Int→Int→W_) (h:dC_ s payload w R):cO_ s payload w R:=
 ad_ (aj_ ah_) aA_ Tryz.func211 [(49,⟨[(12,.i .i64)],[0,9]⟩),(37,⟨[(9,.i .i64)],[0,1]⟩),(19,⟨[],[0,1]⟩)] [.i .u64,.i .i64] [.pointer s,.slice payload.A payload.n payload.c] w R (Eq.mp (show dC_ s payload w R=vcF Tryz.prog G Tryz.f211 [(49,⟨[(12,.i .i64)],[0,9]⟩),(37,⟨[(9,.i .i64)],[0,1]⟩),(19,⟨[],[0,1]⟩)] [.i .u64,.i .i64] [.pointer s,.slice payload.A payload.n payload.c] w R by kernel_rfl) h)
def jG_ (v:A_) (w:World) (R:Int→W_):Prop:=
 New (.cells v 142) w fun v1 w0=>∃b:Bool,w0.cell? (v1.add 0)=some (.bool b)∧∃b1:Bool,w0.cell? (v1.add 1)=some (.bool b1)∧∃b2:Bool,w0.cell? (v1.add 2)=some (.bool b2)∧an_ Tryz.prog .sl (Instr.buildSlice 387 3 #[(0,.bool b),(1,.bool b1),(2,.bool b2)]) w0 fun xs w01=>∃(I:Int→Int→W_) (μ:Int→Int→World→Nat),I 0 0 w01∧∀(b3:Int) (x:Int) (w02:World),I b3 x w02→Br (decide (x<(xs.n:Int))) (aK_ (fun(b4:Int) (w03:World)=>I b4 (IntKind.wrap .i64 (x+1)) w03∧μ b4 (IntKind.wrap .i64 (x+1)) w03<μ b3 x w02) fun J_=>(0≤x∧x<(xs.n:Int)∧xs.A.isSome=true)∧∃b5:Bool,w02.cell? ((gA xs.A).add (x.toNat*1))=some (.bool b5)∧Br b5 ((0≤x)∧J_ (bOr .u8 b3 (cD_ .u8 1 x.toNat)) w02) (J_ b3 w02)) (R b3 w02)
theorem jG_.calls (v:A_) (w:World) (R:Int→W_) (h:jG_ v w R):ml_ v w R:=
 ad_ (aj_ ah_) aA_ Tryz.func212 [(9,⟨[(3,.i .u8),(14,.i .i64)],[12,13]⟩),(5,⟨[(3,.i .u8)],[12,13,14]⟩)] [.i .u8] [.agg v] w R (Eq.mp (show jG_ v w R=vcF Tryz.prog G Tryz.f212 [(9,⟨[(3,.i .u8),(14,.i .i64)],[12,13]⟩),(5,⟨[(3,.i .u8)],[12,13,14]⟩)] [.i .u8] [.agg v] w R by kernel_rfl) h)
def hj_ (t:O_) (w:World) (R:Sl→W_):Prop:=
 ((!((t).isNone))=true→t.isSome=true)∧∃b:Bool,((!((t).isNone))=true→w.cell? ((gA t).add 4)=some (.bool b))∧Br (((t).isNone)||(!b)) (R (⟨none,0,0⟩:Sl) w) (ea_ t w fun n n1 w0=>t.isSome=true∧∃xs:Sl,w0.cell? ((gA t).add 0)=some (.slice xs.A xs.n xs.c)∧an_ Tryz.prog .sl (Instr.buildSlice 33 5 #[(0,.int .u8 80),(1,.int .u8 82),(2,.int .u8 n),(3,.int .u8 (IntKind.wrap .u8 n1)),(4,.int .u8 (IntKind.wrap .u8 (xs.n:Int)))]) w0 fun xs1 w01=>t.isSome=true∧∃xs2:Sl,w01.cell? ((gA t).add 0)=some (.slice xs2.A xs2.n xs2.c)∧∃(I:Sl→Int→W_) (μ:Sl→Int→World→Nat),I xs1 0 w01∧∀(p:Sl) (x:Int) (w02:World),I p x w02→Br (decide (x<(xs2.n:Int))) ((0≤x∧x<(xs2.n:Int)∧xs2.A.isSome=true)∧∃g:A_,(loadVar 97 ((gA xs2.A).add (x.toNat*2))).run Tryz.prog w02=.ok (.agg g) w02∧New (.cells #[.int .i64 0,.int .u64 0] 97) w02 fun r w03=>af_ Tryz.prog (storeVar 97 r (.agg g)) w03 fun w04=>∀w05,w05=w04.drew→∃S:W_,S w05∧∃n2:Int,(∀u,S u→u.cell? (r.add 1)=some (.int .u64 n2))∧an_ Tryz.prog .sl (Instr.makeSlice 33 (.int .i64 9) (.int .i64 9)) w05 fun xs3 w06=>S w06∧bt_ xs3 1 8 n2 w06 fun xs4 n3 w07=>∃n4:Int,w07.cell? (r.add 0)=some (.int .i64 n4)∧(0≤(0:Int)∧(0:Int)<(xs4.n:Int)∧xs4.A.isSome=true)∧Put ((gA xs4.A).add ((0:Int).toNat*1)) (.int .u8 (IntKind.wrap .u8 n4)) w07 fun w08=>an_ Tryz.prog .sl (Builtin.append_ #[33,33] 33 #[.slice p.A p.n p.c,.slice xs4.A xs4.n xs4.c]) w08 fun xs5 w09=>I xs5 (IntKind.wrap .i64 (x+1)) w09∧μ xs5 (IntKind.wrap .i64 (x+1)) w09<μ p x w02) (R p w02))
theorem hj_.calls (t:O_) (w:World) (R:Sl→W_) (h:hj_ t w R):g9_ t w R:=
 ad_ (aj_ ah_) aA_ Tryz.func213 [(18,⟨[(5,.sl),(39,.i .i64)],[37,38]⟩)] [.sl] [.pointer t] w R (Eq.mp (show hj_ t w R=vcF Tryz.prog G Tryz.f213 [(18,⟨[(5,.sl),(39,.i .i64)],[37,38]⟩)] [.sl] [.pointer t] w R by kernel_rfl) h)
def er_ (t:O_) (nexus:Int) (o:A_) (known:Bool) (w:World) (R:Sl→W_):Prop:=
 New (.cells o 260) w fun o1 w0=>∃n:Int,w0.cell? (o1.add 3)=some (.int .u64 n)∧aK_ (fun(out:Sl) (w01:World)=>∃b:Bool,w01.cell? (o1.add 4)=some (.bool b)∧t.isSome=true∧Put ((gA t).add 4) (.bool b) w01 fun w02=>t.isSome=true∧∃n1:Int,w02.cell? ((gA t).add 1)=some (.int .u32 n1)∧t.isSome=true∧Put ((gA t).add 1) (.int .u32 (IntKind.wrap .u32 (n1+1))) w02 fun w03=>R out w03) fun J_=>Br ((n==0)&&known) (t.isSome=true∧∃n2:Int,w0.cell? ((gA t).add 2)=some (.int .u8 n2)∧f7_ n2 w0 fun b1 w04=>(b1=true→t.isSome=true)∧∃xs:Sl,(b1=true→w04.cell? ((gA t).add 0)=some (.slice xs.A xs.n xs.c))∧t.isSome=true∧∃n3:Int,w04.cell? ((gA t).add 2)=some (.int .u8 n3)∧((n3 != 0)=true→t.isSome=true)∧∃n4:Int,((n3 != 0)=true→w04.cell? ((gA t).add 3)=some (.int .i64 n4))∧hS_ t nexus 0 w04 fun w05=>((((n3 != 0)&&(n4==nexus))&&(!(b1&&((xs.n:Int)==1))))=true→t.isSome=true)∧∃n5:Int,((((n3 != 0)&&(n4==nexus))&&(!(b1&&((xs.n:Int)==1))))=true→w05.cell? ((gA t).add 2)=some (.int .u8 n5))∧bL_ (fun(b2:Bool) (w06:World)=>Br ((b1&&((xs.n:Int)==1))||(((n3 != 0)&&(n4==nexus))&&(!b2))) (ha_ t nexus w06 fun xs1 w08=>J_ xs1 w08) (J_ (⟨none,0,0⟩:Sl) w06)) fun J_1=>((((n3 != 0)&&(n4==nexus))&&(!(b1&&((xs.n:Int)==1))))=true→f7_ n5 w05 J_1)∧((((n3 != 0)&&(n4==nexus))&&(!(b1&&((xs.n:Int)==1))))=false→J_1 (Kd.dflt .b) w05)) (∃n6:Int,w0.cell? (o1.add 3)=some (.int .u64 n6)∧Br (n6 != 0) (∃n7:Int,w0.cell? (o1.add 3)=some (.int .u64 n7)∧hS_ t nexus n7 w0 fun w010=>J_ (⟨none,0,0⟩:Sl) w010) (J_ (⟨none,0,0⟩:Sl) w0))
theorem er_.calls (t:O_) (nexus:Int) (o:A_) (known:Bool) (w:World) (R:Sl→W_) (h:er_ t nexus o known w R):cx_ t nexus o known w R:=
 ad_ (aj_ ah_) aA_ Tryz.func214 [(10,⟨[(9,.sl)],[0,6]⟩)] [.sl] [.pointer t,.int .i64 nexus,.agg o,.bool known] w R (Eq.mp (show er_ t nexus o known w R=vcF Tryz.prog G Tryz.f214 [(10,⟨[(9,.sl)],[0,6]⟩)] [.sl] [.pointer t,.int .i64 nexus,.agg o,.bool known] w R by kernel_rfl) h)
def fc_ (t:O_) (nexus:Int) (o:A_) (w:World) (R:Int→Int→Sl→W_):Prop:=
 New (.cells o 260) w fun o1 w0=>∃n:Int,w0.cell? (o1.add 1)=some (.int .u8 n)∧iv_ n w0 fun b w01=>Br (!b) (R 2 9216 (⟨none,0,0⟩:Sl) w01) (t.isSome=true∧∃n1:Int,w01.cell? ((gA t).add 2)=some (.int .u8 n1)∧Br (n1==0) (∃n2:Int,w01.cell? (o1.add 1)=some (.int .u8 n2)∧t.isSome=true∧Put ((gA t).add 2) (.int .u8 n2) w01 fun w02=>t.isSome=true∧Put ((gA t).add 3) (.int .i64 nexus) w02 fun w03=>R 0 0 (⟨none,0,0⟩:Sl) w03) (∀w04,w04=w01.drew→∃S:W_,S w04∧dj_ t nexus w04 fun b1 w05=>S w05∧(b1=true→t.isSome=true)∧∃S1:W_,S1 w05∧(∀u,S1 u→S u)∧∃n3:Int,(b1=true→(∀u1,S1 u1→u1.cell? ((gA t).add 2)=some (.int .u8 n3)))∧∃S2:W_,S2 w05∧(∀u2,S2 u2→S1 u2)∧∃n4:Int,(b1=true→(∀u3,S2 u3→u3.cell? (o1.add 1)=some (.int .u8 n4)))∧Br (b1&&(n3==n4)) (R 0 0 (⟨none,0,0⟩:Sl) w05) (R 24 0 (⟨none,0,0⟩:Sl) w05)))
theorem fc_.calls (t:O_) (nexus:Int) (o:A_) (w:World) (R:Int→Int→Sl→W_) (h:fc_ t nexus o w R):eX_ t nexus o w R:=
 ad_ (aj_ ah_) aA_ Tryz.func215 [] [.i .u8,.i .u16,.sl] [.pointer t,.int .i64 nexus,.agg o] w R (Eq.mp (show fc_ t nexus o w R=vcF Tryz.prog G Tryz.f215 [] [.i .u8,.i .u16,.sl] [.pointer t,.int .i64 nexus,.agg o] w R by kernel_rfl) h)
def fd_ (t:O_) (nexus:Int) (o:A_) (w:World) (R:Int→Int→Sl→W_):Prop:=
 New (.cells o 260) w fun o1 w0=>dj_ t nexus w0 fun b w01=>Br (!b) (R 0 0 (⟨none,0,0⟩:Sl) w01) (∀w02,w02=w01.drew→∃S:W_,S w02∧t.isSome=true∧∃n:Int,(∀u,S u→u.cell? ((gA t).add 2)=some (.int .u8 n))∧∃n1:Int,(∀u1,S u1→u1.cell? (o1.add 1)=some (.int .u8 n1))∧Br (n != n1) (R 2 9216 (⟨none,0,0⟩:Sl) w02) (ha_ t nexus w02 fun xs w03=>R 0 0 xs w03))
theorem fd_.calls (t:O_) (nexus:Int) (o:A_) (w:World) (R:Int→Int→Sl→W_) (h:fd_ t nexus o w R):eY_ t nexus o w R:=
 ad_ (aj_ ah_) aA_ Tryz.func216 [] [.i .u8,.i .u16,.sl] [.pointer t,.int .i64 nexus,.agg o] w R (Eq.mp (show fd_ t nexus o w R=vcF Tryz.prog G Tryz.f216 [] [.i .u8,.i .u16,.sl] [.pointer t,.int .i64 nexus,.agg o] w R by kernel_rfl) h)
def gy_ (t:O_) (nexus:Int) (w:World) (R:Sl→W_):Prop:=
 t.isSome=true∧∃xs:Sl,w.cell? ((gA t).add 0)=some (.slice xs.A xs.n xs.c)∧∃(I:Sl→Int→W_) (μ:Sl→Int→World→Nat),I (⟨none,0,0⟩:Sl) 0 w∧∀(out:Sl) (x:Int) (w0:World),I out x w0→Br (decide (x<(xs.n:Int))) (aK_ (fun(out1:Sl) (w01:World)=>I out1 (IntKind.wrap .i64 (x+1)) w01∧μ out1 (IntKind.wrap .i64 (x+1)) w01<μ out x w0) fun J_=>(0≤x∧x<(xs.n:Int)∧xs.A.isSome=true)∧∃g:A_,(loadVar 97 ((gA xs.A).add (x.toNat*2))).run Tryz.prog w0=.ok (.agg g) w0∧New (.cells #[.int .i64 0,.int .u64 0] 97) w0 fun r w02=>af_ Tryz.prog (storeVar 97 r (.agg g)) w02 fun w03=>∃n:Int,w03.cell? (r.add 0)=some (.int .i64 n)∧Br (n != nexus) (∃n1:Int,w03.cell? (r.add 0)=some (.int .i64 n1)∧an_ Tryz.prog .sl (Instr.buildSlice 261 1 #[(0,.agg #[.int .i64 n1,.int .u16 10755])]) w03 fun xs1 w05=>an_ Tryz.prog .sl (Builtin.append_ #[261,261] 261 #[.slice out.A out.n out.c,.slice xs1.A xs1.n xs1.c]) w05 fun xs2 w06=>J_ xs2 w06) (J_ out w03)) (t.isSome=true∧Put ((gA t).add 0) (.slice none 0 0) w0 fun w07=>t.isSome=true∧Put ((gA t).add 2) (.int .u8 0) w07 fun w08=>t.isSome=true∧Put ((gA t).add 3) (.int .i64 (-1)) w08 fun w09=>t.isSome=true∧∃n2:Int,w09.cell? ((gA t).add 1)=some (.int .u32 n2)∧t.isSome=true∧Put ((gA t).add 1) (.int .u32 (IntKind.wrap .u32 (n2+1))) w09 fun w010=>R out w010)
theorem gy_.calls (t:O_) (nexus:Int) (w:World) (R:Sl→W_) (h:gy_ t nexus w R):gp_ t nexus w R:=
 ad_ (aj_ ah_) aA_ Tryz.func217 [(9,⟨[(5,.sl),(13,.i .i64)],[0,1,11,12]⟩),(5,⟨[(5,.sl)],[0,1,11,12,13]⟩)] [.sl] [.pointer t,.int .i64 nexus] w R (Eq.mp (show gy_ t nexus w R=vcF Tryz.prog G Tryz.f217 [(9,⟨[(5,.sl),(13,.i .i64)],[0,1,11,12]⟩),(5,⟨[(5,.sl)],[0,1,11,12,13]⟩)] [.sl] [.pointer t,.int .i64 nexus] w R by kernel_rfl) h)
open Go CF
set_option linter.unusedVariables false
set_option maxRecDepth 100000
def fe_ (t:O_) (nexus:Int) (o:A_) (w:World) (R:Int→Int→Sl→W_):Prop:=
 New (.cells o 260) w fun o1 w0=>∀w01,w01=w0.drew→∃S:W_,S w01∧t.isSome=true∧∃n:Int,(∀u,S u→u.cell? ((gA t).add 2)=some (.int .u8 n))∧f7_ n w01 fun b w02=>S w02∧∃S1:W_,S1 w02∧(∀u1,S1 u1→S u1)∧∃n1:Int,(b=true→(∀u2,S1 u2→u2.cell? (o1.add 3)=some (.int .u64 n1)))∧t.isSome=true∧∃xs:Sl,w02.cell? ((gA t).add 0)=some (.slice xs.A xs.n xs.c)∧∃(I:Bool→Int→W_) (μ:Bool→Int→World→Nat),I false 0 w02∧∀(held:Bool) (x:Int) (w03:World),I held x w03→Br (decide (x<(xs.n:Int))) ((0≤x∧x<(xs.n:Int)∧xs.A.isSome=true)∧∃g:A_,(loadVar 97 ((gA xs.A).add (x.toNat*2))).run Tryz.prog w03=.ok (.agg g) w03∧New (.cells #[.int .i64 0,.int .u64 0] 97) w03 fun r w04=>af_ Tryz.prog (storeVar 97 r (.agg g)) w04 fun w05=>∀w06,w06=w05.drew→∃S2:W_,S2 w06∧((!held)=true→t.isSome=true)∧∃n2:Int,((!held)=true→(∀u3,S2 u3→u3.cell? ((gA t).add 2)=some (.int .u8 n2)))∧(((n2 != 0)&&(!held))=true→t.isSome=true)∧∃n3:Int,(((n2 != 0)&&(!held))=true→(∀u4,S2 u4→u4.cell? ((gA t).add 2)=some (.int .u8 n3)))∧bL_ (fun(b1:Bool) (w07:World)=>S2 w07∧∃S3:W_,S3 w07∧(∀u5,S3 u5→S2 u5)∧∃n4:Int,((((n2 != 0)&&(!b1))&&(!held))=true→(∀u6,S3 u6→u6.cell? (r.add 0)=some (.int .i64 n4)))∧((((n2 != 0)&&(!b1))&&(!held))=true→t.isSome=true)∧∃S4:W_,S4 w07∧(∀u7,S4 u7→S3 u7)∧∃n5:Int,((((n2 != 0)&&(!b1))&&(!held))=true→(∀u8,S4 u8→u8.cell? ((gA t).add 3)=some (.int .i64 n5)))∧∃S5:W_,S5 w07∧(∀u9,S5 u9→S4 u9)∧∃n6:Int,(((((n2 != 0)&&(!b1))&&(n4==n5))&&(!held))=true→(∀u10,S5 u10→u10.cell? (r.add 1)=some (.int .u64 n6)))∧∃S6:W_,S6 w07∧(∀u11,S6 u11→S5 u11)∧∃n7:Int,(((((n2 != 0)&&(!b1))&&(n4==n5))&&(!held))=true→(∀u12,S6 u12→u12.cell? (o1.add 3)=some (.int .u64 n7)))∧I (held||((((n2 != 0)&&(!b1))&&(n4==n5))&&(n6==n7))) (IntKind.wrap .i64 (x+1)) w07∧μ (held||((((n2 != 0)&&(!b1))&&(n4==n5))&&(n6==n7))) (IntKind.wrap .i64 (x+1)) w07<μ held x w03) fun J_=>(((n2 != 0)&&(!held))=true→f7_ n3 w06 J_)∧(((n2 != 0)&&(!held))=false→J_ (Kd.dflt .b) w06)) (∃n8:Int,w03.cell? (o1.add 3)=some (.int .u64 n8)∧Br ((n8==0)&&(!(b&&(n1==0)))) (R 2 9728 (⟨none,0,0⟩:Sl) w03) (∃n9:Int,((held||(b&&(n1==0)))=true→w03.cell? (o1.add 1)=some (.int .u8 n9))∧bL_ (fun(b2:Bool) (w08:World)=>Br ((held||(b&&(n1==0)))&&(!b2)) (R 2 9216 (⟨none,0,0⟩:Sl) w08) (t.isSome=true∧∃xs1:Sl,w08.cell? ((gA t).add 0)=some (.slice xs1.A xs1.n xs1.c)∧∃(I1:Sl→Sl→Int→W_) (μ1:Sl→Sl→Int→World→Nat),I1 (⟨none,0,0⟩:Sl) (⟨none,0,0⟩:Sl) 0 w08∧∀(out:Sl) (left_:Sl) (x1:Int) (w09:World),I1 out left_ x1 w09→Br (decide (x1<(xs1.n:Int))) (aK_ (fun(out1:Sl) (left_1:Sl) (w010:World)=>I1 out1 left_1 (IntKind.wrap .i64 (x1+1)) w010∧μ1 out1 left_1 (IntKind.wrap .i64 (x1+1)) w010<μ1 out left_ x1 w09) fun J_1=>(0≤x1∧x1<(xs1.n:Int)∧xs1.A.isSome=true)∧∃g1:A_,(loadVar 97 ((gA xs1.A).add (x1.toNat*2))).run Tryz.prog w09=.ok (.agg g1) w09∧New (.cells #[.int .i64 0,.int .u64 0] 97) w09 fun r1 w011=>af_ Tryz.prog (storeVar 97 r1 (.agg g1)) w011 fun w012=>∃n10:Int,w012.cell? (r1.add 0)=some (.int .i64 n10)∧aK_ (fun(x2:Bool) (w014:World)=>Br x2 (∃g2:A_,(loadVar 97 r1).run Tryz.prog w014=.ok (.agg g2) w014∧an_ Tryz.prog .sl (Instr.buildSlice 67 1 #[(0,.agg g2)]) w014 fun xs2 w016=>an_ Tryz.prog .sl (Builtin.append_ #[67,67] 67 #[.slice left_.A left_.n left_.c,.slice xs2.A xs2.n xs2.c]) w016 fun xs3 w017=>J_1 out xs3 w017) (∃n11:Int,w014.cell? (r1.add 0)=some (.int .i64 n11)∧an_ Tryz.prog .sl (Instr.buildSlice 261 1 #[(0,.agg #[.int .i64 n11,.int .u16 10757])]) w014 fun xs4 w018=>an_ Tryz.prog .sl (Builtin.append_ #[261,261] 261 #[.slice out.A out.n out.c,.slice xs4.A xs4.n xs4.c]) w018 fun xs5 w019=>J_1 xs5 left_ w019)) fun J_2=>Br (n10==nexus) (J_2 (n10==nexus) w012) (∃n12:Int,w012.cell? (r1.add 1)=some (.int .u64 n12)∧∃n13:Int,w012.cell? (o1.add 3)=some (.int .u64 n13)∧J_2 ((n12 != n13)&&(!(b&&(n1==0)))) w012)) (t.isSome=true∧∃xs6:Sl,w09.cell? ((gA t).add 0)=some (.slice xs6.A xs6.n xs6.c)∧∃(I2:Bool→Int→W_) (μ2:Bool→Int→World→Nat),I2 false 0 w09∧∀(hit:Bool) (x3:Int) (w020:World),I2 hit x3 w020→Br (decide (x3<(xs6.n:Int))) ((0≤x3∧x3<(xs6.n:Int)∧xs6.A.isSome=true)∧∃g3:A_,(loadVar 97 ((gA xs6.A).add (x3.toNat*2))).run Tryz.prog w020=.ok (.agg g3) w020∧New (.cells #[.int .i64 0,.int .u64 0] 97) w020 fun r2 w021=>af_ Tryz.prog (storeVar 97 r2 (.agg g3)) w021 fun w022=>∃n14:Int,((!hit)=true→w022.cell? (r2.add 1)=some (.int .u64 n14))∧∃n15:Int,((!hit)=true→w022.cell? (o1.add 3)=some (.int .u64 n15))∧I2 (hit||(n14==n15)) (IntKind.wrap .i64 (x3+1)) w022∧μ2 (hit||(n14==n15)) (IntKind.wrap .i64 (x3+1)) w022<μ2 hit x3 w020) (Br ((!hit)&&(!(b&&(n1==0)))) (R 24 0 (⟨none,0,0⟩:Sl) w020) (t.isSome=true∧∃n16:Int,w020.cell? ((gA t).add 2)=some (.int .u8 n16)∧t.isSome=true∧Put ((gA t).add 0) (.slice left_.A left_.n left_.c) w020 fun w023=>aK_ (fun(out4:Sl) (w024:World)=>t.isSome=true∧∃n17:Int,w024.cell? ((gA t).add 1)=some (.int .u32 n17)∧t.isSome=true∧Put ((gA t).add 1) (.int .u32 (IntKind.wrap .u32 (n17+1))) w024 fun w025=>R 0 0 out4 w025) fun J_3=>Br (held||(b&&(n1==0))) (∃n18:Int,w023.cell? (o1.add 1)=some (.int .u8 n18)∧t.isSome=true∧Put ((gA t).add 2) (.int .u8 n18) w023 fun w026=>t.isSome=true∧Put ((gA t).add 3) (.int .i64 nexus) w026 fun w027=>∃n19:Int,(decide (n16≥5)=true→w027.cell? (o1.add 1)=some (.int .u8 n19))∧Br ((decide (n16≥5))&&(n16 != n19)) (∃(I3:Sl→Int→W_) (μ3:Sl→Int→World→Nat),I3 out 0 w027∧∀(out6:Sl) (x4:Int) (w029:World),I3 out6 x4 w029→Br (decide (x4<(left_.n:Int))) (aK_ (fun(out7:Sl) (w030:World)=>I3 out7 (IntKind.wrap .i64 (x4+1)) w030∧μ3 out7 (IntKind.wrap .i64 (x4+1)) w030<μ3 out6 x4 w029) fun J_4=>(0≤x4∧x4<(left_.n:Int)∧left_.A.isSome=true)∧∃g4:A_,(loadVar 97 ((gA left_.A).add (x4.toNat*2))).run Tryz.prog w029=.ok (.agg g4) w029∧New (.cells #[.int .i64 0,.int .u64 0] 97) w029 fun r3 w031=>af_ Tryz.prog (storeVar 97 r3 (.agg g4)) w031 fun w032=>∃n20:Int,w032.cell? (r3.add 0)=some (.int .i64 n20)∧Br (n20 != nexus) (∃n21:Int,w032.cell? (r3.add 0)=some (.int .i64 n21)∧an_ Tryz.prog .sl (Instr.buildSlice 261 1 #[(0,.agg #[.int .i64 n21,.int .u16 10756])]) w032 fun xs7 w034=>an_ Tryz.prog .sl (Builtin.append_ #[261,261] 261 #[.slice out6.A out6.n out6.c,.slice xs7.A xs7.n xs7.c]) w034 fun xs8 w035=>J_4 xs8 w035) (J_4 out6 w032)) (J_3 out6 w029)) (J_3 out w027)) (J_3 out w023)))))) fun J_5=>((held||(b&&(n1==0)))=true→iv_ n9 w03 J_5)∧((held||(b&&(n1==0)))=false→J_5 (Kd.dflt .b) w03)))
theorem fe_.calls (t:O_) (nexus:Int) (o:A_) (w:World) (R:Int→Int→Sl→W_) (h:fe_ t nexus o w R):eZ_ t nexus o w R:=
 ad_ (aj_ ah_) aA_ Tryz.func218 [(9,⟨[(9,.b),(38,.i .i64)],[0,1,5,10,36,37]⟩),(42,⟨[(13,.sl),(14,.sl),(99,.i .i64)],[0,1,5,9,10,97,98]⟩),(14,⟨[(13,.sl),(14,.sl)],[0,1,5,9,10,97,98,99]⟩),(55,⟨[(109,.b)],[0,1,5,9,10,13,14,16,97,98,99]⟩),(69,⟨[(17,.b),(133,.i .i64)],[0,1,5,9,10,13,14,131,132]⟩),(97,⟨[(13,.sl)],[0]⟩),(105,⟨[(13,.sl),(183,.i .i64)],[0,1,181,182]⟩),(29,⟨[(13,.sl)],[0,1,181,182,183]⟩)] [.i .u8,.i .u16,.sl] [.pointer t,.int .i64 nexus,.agg o] w R (Eq.mp (show fe_ t nexus o w R=vcF Tryz.prog G Tryz.f218 [(9,⟨[(9,.b),(38,.i .i64)],[0,1,5,10,36,37]⟩),(42,⟨[(13,.sl),(14,.sl),(99,.i .i64)],[0,1,5,9,10,97,98]⟩),(14,⟨[(13,.sl),(14,.sl)],[0,1,5,9,10,97,98,99]⟩),(55,⟨[(109,.b)],[0,1,5,9,10,13,14,16,97,98,99]⟩),(69,⟨[(17,.b),(133,.i .i64)],[0,1,5,9,10,13,14,131,132]⟩),(97,⟨[(13,.sl)],[0]⟩),(105,⟨[(13,.sl),(183,.i .i64)],[0,1,181,182]⟩),(29,⟨[(13,.sl)],[0,1,181,182,183]⟩)] [.i .u8,.i .u16,.sl] [.pointer t,.int .i64 nexus,.agg o] w R by kernel_rfl) h)
def iS_ (code:Int) (field:Int) (w:World) (R:(A_)→W_):Prop:=
 New (.cells #[.int .u8 0,.int .u16 0,.int .u64 0,.bool false,.int .i64 0,.int .i64 0,.bool false,.bool false] 32) w fun a w0=>New (.cells #[.int .u8 0,.int .u16 0,.int .u64 0,.bool false,.int .i64 0,.int .i64 0,.bool false,.bool false] 32) w0 fun s w01=>af_ Tryz.prog (storeVar 32 s (.agg #[.int .u8 5,.int .u16 code,.int .u64 0,.bool false,.int .i64 0,.int .i64 0,.bool false,.bool false])) w01 fun w02=>aK_ (fun(w03:World)=>∃g:A_,(loadVar 32 s).run Tryz.prog w03=.ok (.agg g) w03∧af_ Tryz.prog (storeVar 32 a (.agg g)) w03 fun w04=>∃res:A_,(loadVar 32 a).run Tryz.prog w04=.ok (.agg res) w04∧R res w04) fun J_=>Br (decide (field≥0)) (Put (s.add 4) (.int .i64 field) w02 fun w05=>Put (s.add 5) (.int .i64 (-1)) w05 fun w06=>Put (s.add 6) (.bool true) w06 fun w07=>J_ w07) (J_ w02)
theorem iS_.calls (code:Int) (field:Int) (w:World) (R:(A_)→W_) (h:iS_ code field w R):bn_ code field w R:=
 ad_ (aj_ ah_) aA_ Tryz.func219 [(10,⟨[],[4,5]⟩)] [.ag] [.int .u16 code,.int .i64 field] w R (Eq.mp (show iS_ code field w R=vcF Tryz.prog G Tryz.f219 [(10,⟨[],[4,5]⟩)] [.ag] [.int .u16 code,.int .i64 field] w R by kernel_rfl) h)
def h4_ (p:Sl) (at_:Int) (n:Int) (w:World) (R:Int→W_):Prop:=
 bJ_ p at_ n w fun n1 n2 w0=>R (IntKind.wrap .i64 n1) w0
theorem h4_.calls (p:Sl) (at_:Int) (n:Int) (w:World) (R:Int→W_) (h:h4_ p at_ n w R):bw_ p at_ n w R:=
 ad_ (aj_ ah_) aA_ Tryz.func220 [] [.i .i64] [.slice p.A p.n p.c,.int .i64 at_,.int .i64 n] w R (Eq.mp (show h4_ p at_ n w R=vcF Tryz.prog G Tryz.f220 [] [.i .i64] [.slice p.A p.n p.c,.int .i64 at_,.int .i64 n] w R by kernel_rfl) h)
def jH_ (p:Sl) (w:World) (R:ByteArray→Int→W_):Prop:=
 an_ Tryz.prog .sl (Instr.buildSlice 33 8 #[(0,.int .u8 228),(1,.int .u8 0),(2,.int .u8 0),(3,.int .u8 0),(4,.int .u8 2),(5,.int .u8 1),(6,.int .u8 0),(7,.int .u8 20)]) w fun xs w0=>∃(I:Int→W_) (μ:Int→World→Nat),I 0 w0∧∀(x:Int) (w01:World),I x w01→Br (decide (x<(xs.n:Int))) ((0≤x∧x<(xs.n:Int)∧xs.A.isSome=true)∧∃n:Int,w01.cell? ((gA xs.A).add (x.toNat*1))=some (.int .u8 n)∧(0≤x∧x<(p.n:Int)∧p.A.isSome=true)∧∃n1:Int,w01.cell? ((gA p.A).add (x.toNat*1))=some (.int .u8 n1)∧Br (n1 != n) (R ⟨#[]⟩ x w01) (I (IntKind.wrap .i64 (x+1)) w01∧μ (IntKind.wrap .i64 (x+1)) w01<μ x w01)) (bw_ p 28 1 w01 fun n2 w02=>Br (n2 != 0) (R ⟨#[]⟩ 28 w02) (bw_ p 29 3 w02 fun n3 w03=>Br (n3 != 16) (R ⟨#[]⟩ 29 w03) ((0≤(8:Int)∧(8:Int)≤(28:Int)∧(28:Int)≤(p.c:Int)∧p.n≤p.c)∧∃s:ByteArray,(convert 33 9 (.slice (aI_ p.A p.c 8 1) (28-8) (p.c-8))).run Tryz.prog w03=.ok (.string s) w03∧gT_ s oW_ w03 fun s1 w04=>R s1 (-1) w04)))
theorem jH_.calls (p:Sl) (w:World) (R:ByteArray→Int→W_) (h:jH_ p w R):mm_ p w R:=
 ad_ (aj_ ah_) aA_ Tryz.func221 [(9,⟨[(10,.i .i64)],[0,8,9]⟩)] [.s,.i .i64] [.slice p.A p.n p.c] w R (Eq.mp (show jH_ p w R=vcF Tryz.prog G Tryz.f221 [(9,⟨[(10,.i .i64)],[0,8,9]⟩)] [.s,.i .i64] [.slice p.A p.n p.c] w R by kernel_rfl) h)
def iT_ (i:Int) (fv:Addr) (fv1:Addr) (w:World) (R:(O_)→W_):Prop:=
 ∃xs:Sl,w.cell? fv=some (.slice xs.A xs.n xs.c)∧∃(I:Int→W_) (μ:Int→World→Nat),I 0 w∧∀(x:Int) (w0:World),I x w0→Br (decide (x<(xs.n:Int))) (∀w01,w01=w0.drew→∃S:W_,S w01∧∃xs1:Sl,(∀u,S u→u.cell? (fv1.add 0)=some (.slice xs1.A xs1.n xs1.c))∧∃xs2:Sl,(((decide (i<(xs1.n:Int)))&&(decide (i≥0)))=true→(∀u1,S u1→u1.cell? fv=some (.slice xs2.A xs2.n xs2.c)))∧(((decide (i<(xs1.n:Int)))&&(decide (i≥0)))=true→(0≤x∧x<(xs2.n:Int)∧xs2.A.isSome=true))∧∃s:ByteArray,(((decide (i<(xs1.n:Int)))&&(decide (i≥0)))=true→(∀u2,S u2→u2.cell? (((gA xs2.A).add (x.toNat*3)).add 0)=some (.string s)))∧∃xs3:Sl,(((decide (i<(xs1.n:Int)))&&(decide (i≥0)))=true→(∀u3,S u3→u3.cell? (fv1.add 0)=some (.slice xs3.A xs3.n xs3.c)))∧(((decide (i<(xs1.n:Int)))&&(decide (i≥0)))=true→(0≤i∧i<(xs3.n:Int)∧xs3.A.isSome=true))∧∃s1:ByteArray,(((decide (i<(xs1.n:Int)))&&(decide (i≥0)))=true→(∀u4,S u4→u4.cell? ((gA xs3.A).add (i.toNat*1))=some (.string s1)))∧Br (((decide (i<(xs1.n:Int)))&&(decide (i≥0)))&&(sEq s s1)) (∃xs4:Sl,w01.cell? fv=some (.slice xs4.A xs4.n xs4.c)∧(0≤x∧x<(xs4.n:Int)∧xs4.A.isSome=true)∧R (some ((gA xs4.A).add (x.toNat*3))) w01) (I (IntKind.wrap .i64 (x+1)) w01∧μ (IntKind.wrap .i64 (x+1)) w01<μ x w0)) (R none w0)
theorem iT_.calls (i:Int) (fv:Addr) (fv1:Addr) (w:World) (R:(O_)→W_) (h:iT_ i fv fv1 w R):gS_ i fv fv1 w R:=
 ad_ (aj_ ah_) aA_ Tryz.func222 [(6,⟨[(8,.i .i64)],[0,1,2,7]⟩)] [.p] [.int .i64 i,.pointer (some fv),.pointer (some fv1)] w R (Eq.mp (show iT_ i fv fv1 w R=vcF Tryz.prog G Tryz.f222 [(6,⟨[(8,.i .i64)],[0,1,2,7]⟩)] [.p] [.int .i64 i,.pointer (some fv),.pointer (some fv1)] w R by kernel_rfl) h)
def kI_ (p:Sl) (with_:Bool) (w:World) (R:Sl→Bool→W_):Prop:=
 nj_ with_ w fun n w0=>(n≠0)∧Br (((p.n:Int).tmod n) != 0) (R (⟨none,0,0⟩:Sl) false w0) (∃(I:Sl→Sl→W_) (μ:Sl→Sl→World→Nat),I p (⟨none,0,0⟩:Sl) w0∧∀(p1:Sl) (out:Sl) (w01:World),I p1 out w01→Br (decide ((p1.n:Int)>0)) (aK_ (fun(out1:Sl) (w02:World)=>(0≤n∧n≤(p1.n:Int)∧(p1.n:Int)≤(p1.c:Int)∧p1.n≤p1.c)∧I (⟨(aI_ p1.A p1.c n.toNat 1),(((p1.n:Int)).toNat-n.toNat),(p1.c-n.toNat)⟩:Sl) out1 w02∧μ (⟨(aI_ p1.A p1.c n.toNat 1),(((p1.n:Int)).toNat-n.toNat),(p1.c-n.toNat)⟩:Sl) out1 w02<μ p1 out w01) fun J_=>New (.cells #[.int .u8 0,.int .u8 0,.int .u8 0,.int .u8 0,.int .u8 0,.int .u8 0,.int .u8 0,.int .u8 0,.int .u8 0,.int .u8 0,.int .u8 0,.int .u8 0,.int .u8 0,.int .u8 0,.int .u8 0,.int .u8 0,.int .u16 0,.int .u16 0,.int .u32 0] 348) w01 fun b w03=>(0≤(0:Int)∧(0:Int)≤(16:Int)∧(16:Int)≤(16:Int))∧an_ Tryz.prog (.i .i64) (Builtin.copy_ #[33,33] 3 #[.slice (some (if 16=0 then(b.add 0) else(b.add 0).add (0*1))) (16-0) (16-0),.slice p1.A p1.n p1.c]) w03 fun n1 w04=>aK_ (fun(w05:World)=>∃g:A_,(loadVar 348 b).run Tryz.prog w05=.ok (.agg g) w05∧an_ Tryz.prog .sl (Instr.buildSlice 280 1 #[(0,.agg g)]) w05 fun xs w06=>an_ Tryz.prog .sl (Builtin.append_ #[280,280] 280 #[.slice out.A out.n out.c,.slice xs.A xs.n xs.c]) w06 fun xs1 w07=>J_ xs1 w07) fun J_1=>Br with_ ((0≤(16:Int)∧(16:Int)≤(p1.n:Int)∧(p1.n:Int)≤(p1.c:Int)∧p1.n≤p1.c)∧∀w08,w08=w04.drew→∃S:W_,S w08∧(0≤(0:Int)∧(0:Int)<(((((p1.n:Int)).toNat-16):Nat):Int)∧(aI_ p1.A p1.c 16 1).isSome=true)∧∃n2:Int,(∀u,S u→u.cell? ((gA (aI_ p1.A p1.c 16 1)).add ((0:Int).toNat*1))=some (.int .u8 n2))∧(0≤(1:Int)∧(1:Int)<(((((p1.n:Int)).toNat-16):Nat):Int)∧(aI_ p1.A p1.c 16 1).isSome=true)∧∃n3:Int,(∀u1,S u1→u1.cell? ((gA (aI_ p1.A p1.c 16 1)).add ((1:Int).toNat*1))=some (.int .u8 n3))∧(0≤(2:Int)∧(2:Int)<(((((p1.n:Int)).toNat-16):Nat):Int)∧(aI_ p1.A p1.c 16 1).isSome=true)∧∃n4:Int,(∀u2,S u2→u2.cell? ((gA (aI_ p1.A p1.c 16 1)).add ((2:Int).toNat*1))=some (.int .u8 n4))∧(0≤(3:Int)∧(3:Int)<(((((p1.n:Int)).toNat-16):Nat):Int)∧(aI_ p1.A p1.c 16 1).isSome=true)∧∃n5:Int,(∀u3,S u3→u3.cell? ((gA (aI_ p1.A p1.c 16 1)).add ((3:Int).toNat*1))=some (.int .u8 n5))∧(0≤(4:Int)∧(4:Int)<(((((p1.n:Int)).toNat-16):Nat):Int)∧(aI_ p1.A p1.c 16 1).isSome=true)∧∃n6:Int,(∀u4,S u4→u4.cell? ((gA (aI_ p1.A p1.c 16 1)).add ((4:Int).toNat*1))=some (.int .u8 n6))∧(0≤(5:Int)∧(5:Int)<(((((p1.n:Int)).toNat-16):Nat):Int)∧(aI_ p1.A p1.c 16 1).isSome=true)∧∃n7:Int,(∀u5,S u5→u5.cell? ((gA (aI_ p1.A p1.c 16 1)).add ((5:Int).toNat*1))=some (.int .u8 n7))∧(0≤(6:Int)∧(6:Int)<(((((p1.n:Int)).toNat-16):Nat):Int)∧(aI_ p1.A p1.c 16 1).isSome=true)∧∃n8:Int,(∀u6,S u6→u6.cell? ((gA (aI_ p1.A p1.c 16 1)).add ((6:Int).toNat*1))=some (.int .u8 n8))∧(0≤(7:Int)∧(7:Int)<(((((p1.n:Int)).toNat-16):Nat):Int)∧(aI_ p1.A p1.c 16 1).isSome=true)∧∃n9:Int,(∀u7,S u7→u7.cell? ((gA (aI_ p1.A p1.c 16 1)).add ((7:Int).toNat*1))=some (.int .u8 n9))∧af_ Tryz.prog (storeVar 346 (b.add 16) (.agg #[.int .u16 (bOr .u16 (cD_ .u16 (IntKind.wrap .u16 n2) 8) (IntKind.wrap .u16 n3)),.int .u16 (bOr .u16 (cD_ .u16 (IntKind.wrap .u16 n4) 8) (IntKind.wrap .u16 n5)),.int .u32 (bOr .u32 (bOr .u32 (bOr .u32 (cD_ .u32 (IntKind.wrap .u32 n6) 24) (cD_ .u32 (IntKind.wrap .u32 n7) 16)) (cD_ .u32 (IntKind.wrap .u32 n8) 8)) (IntKind.wrap .u32 n9))])) w08 fun w09=>J_1 w09) (J_1 w04)) (R out true w01))
theorem kI_.calls (p:Sl) (with_:Bool) (w:World) (R:Sl→Bool→W_) (h:kI_ p with_ w R):fJ_ p with_ w R:=
 ad_ (aj_ ah_) aA_ Tryz.func223 [(15,⟨[(0,.sl),(7,.sl)],[1,6]⟩),(5,⟨[(7,.sl)],[0,1,6]⟩),(31,⟨[],[0,1,6,7,8]⟩)] [.sl,.b] [.slice p.A p.n p.c,.bool with_] w R (Eq.mp (show kI_ p with_ w R=vcF Tryz.prog G Tryz.f223 [(15,⟨[(0,.sl),(7,.sl)],[1,6]⟩),(5,⟨[(7,.sl)],[0,1,6]⟩),(31,⟨[],[0,1,6,7,8]⟩)] [.sl,.b] [.slice p.A p.n p.c,.bool with_] w R by kernel_rfl) h)
def d2_ (s:O_) (w:World) (R:Int→W_):Prop:=
 Br ((s).isNone) (R 0 w) (s.isSome=true∧∃n:Int,w.cell? ((gA s).add 2)=some (.int .i64 n)∧R n w)
theorem d2_.calls (s:O_) (w:World) (R:Int→W_) (h:d2_ s w R):jg_ s w R:=
 ad_ (aj_ ah_) aA_ Tryz.func224 [] [.i .i64] [.pointer s] w R (Eq.mp (show d2_ s w R=vcF Tryz.prog G Tryz.f224 [] [.i .i64] [.pointer s] w R by kernel_rfl) h)
def ff_ (s:O_) (lba:Int) (n:Int) (w:World) (R:Sl→Int→Int→W_):Prop:=
 da_ s lba n w fun n1 w0=>Br (n1 != 0) (R (⟨none,0,0⟩:Sl) 0 n1 w0) (∃(I:Sl→Int→W_) (μ:Sl→Int→World→Nat),I (⟨none,0,0⟩:Sl) 0 w0∧∀(out:Sl) (x:Int) (w01:World),I out x w01→Br (decide (x<n)) (∀w02,w02=w01.drew→∃S:W_,S w02∧s.isSome=true∧∃p:O_,(∀u,S u→u.cell? ((gA s).add 0)=some (.pointer p))∧s.isSome=true∧∃s1:ByteArray,(∀u1,S u1→u1.cell? ((gA s).add 1)=some (.string s1))∧cN_ p s1 (IntKind.wrap .i64 ((IntKind.wrap .i64 (lba+x))*25)) 25 w02 fun xs n2 w03=>Br ((n2 != 0)&&(n2 != 8)) (R (⟨none,0,0⟩:Sl) x n2 w03) (k6_ xs w03 fun g w04=>an_ Tryz.prog .sl (Instr.buildSlice 280 1 #[(0,.agg g)]) w04 fun xs1 w05=>an_ Tryz.prog .sl (Builtin.append_ #[280,280] 280 #[.slice out.A out.n out.c,.slice xs1.A xs1.n xs1.c]) w05 fun xs2 w06=>I xs2 (IntKind.wrap .i64 (x+1)) w06∧μ xs2 (IntKind.wrap .i64 (x+1)) w06<μ out x w01)) (R out n 0 w01))
theorem ff_.calls (s:O_) (lba:Int) (n:Int) (w:World) (R:Sl→Int→Int→W_) (h:ff_ s lba n w R):hx_ s lba n w R:=
 ad_ (aj_ ah_) aA_ Tryz.func225 [(18,⟨[(10,.sl),(22,.i .i64)],[0,1,2,21]⟩)] [.sl,.i .i64,.i .i64] [.pointer s,.int .i64 lba,.int .i64 n] w R (Eq.mp (show ff_ s lba n w R=vcF Tryz.prog G Tryz.f225 [(18,⟨[(10,.sl),(22,.i .i64)],[0,1,2,21]⟩)] [.sl,.i .i64,.i .i64] [.pointer s,.int .i64 lba,.int .i64 n] w R by kernel_rfl) h)
def lU_ (kind:Int) (prot:Int) (lba:Int) (b:A_) (w:World) (R:Int→W_):Prop:=
 New (.cells b 348) w fun b1 w0=>∃g:A_,((!((((kind==0)||(decide (kind>3)))||(prot==3))||(decide (prot>4))))=true→(loadVar 346 (b1.add 16)).run Tryz.prog w0=.ok (.agg g) w0)∧bL_ (fun(b2:Bool) (w01:World)=>Br (((((kind==0)||(decide (kind>3)))||(prot==3))||(decide (prot>4)))||b2) (R 0 w01) (∀w02,w02=w01.drew→∃S:W_,S w02∧∃n:Int,((prot != 2)=true→(∀u,S u→u.cell? ((b1.add 16).add 0)=some (.int .u16 n)))∧((prot != 2)=true→(0≤(0:Int)∧(0:Int)≤(16:Int)∧(16:Int)≤(16:Int)))∧bL_ (fun(n1:Int) (w03:World)=>S w03∧Br ((prot != 2)&&(n != n1)) (R 4097 w03) (∃n2:Int,(((prot != 4)&&(kind != 3))=true→w03.cell? ((b1.add 16).add 2)=some (.int .u32 n2))∧Br (((prot != 4)&&(kind != 3))&&(n2 != (IntKind.wrap .u32 lba))) (R 4099 w03) (R 0 w03))) fun J_=>((prot != 2)=true→nl_ ⟨(some (if 16=0 then(b1.add 0) else(b1.add 0).add (0*1))),(16-0),(16-0)⟩ w02 J_)∧((prot != 2)=false→J_ (Kd.dflt (.i .u16)) w02))) fun J_1=>((!((((kind==0)||(decide (kind>3)))||(prot==3))||(decide (prot>4))))=true→mn_ kind g w0 J_1)∧((!((((kind==0)||(decide (kind>3)))||(prot==3))||(decide (prot>4))))=false→J_1 (Kd.dflt .b) w0)
theorem lU_.calls (kind:Int) (prot:Int) (lba:Int) (b:A_) (w:World) (R:Int→W_) (h:lU_ kind prot lba b w R):lE_ kind prot lba b w R:=
 ad_ (aj_ ah_) aA_ Tryz.func226 [] [.i .u16] [.int .u8 kind,.int .u8 prot,.int .u64 lba,.agg b] w R (Eq.mp (show lU_ kind prot lba b w R=vcF Tryz.prog G Tryz.f226 [] [.i .u16] [.int .u8 kind,.int .u8 prot,.int .u64 lba,.agg b] w R by kernel_rfl) h)
def jI_ (w:World) (R:(A_)→W_):Prop:=
 New (.cells #[.int .u8 0,.int .u8 0,.int .u16 0,.int .u64 0,.bool false,.int .i64 0,.int .i64 0,.bool false,.bool false,.slice none 0 0] 35) w fun a w0=>dH_ #[.int .u8 5,.int .u16 6656,.int .u64 0,.bool false,.int .i64 0,.int .i64 0,.bool false,.bool false] w0 fun g w01=>af_ Tryz.prog (storeVar 35 a (.agg g)) w01 fun w02=>∃res:A_,(loadVar 35 a).run Tryz.prog w02=.ok (.agg res) w02∧R res w02
theorem jI_.calls (w:World) (R:(A_)→W_) (h:jI_ w R):eH_ w R:=
 ad_ (aj_ ah_) aA_ Tryz.func227 [] [.ag] [] w R (Eq.mp (show jI_ w R=vcF Tryz.prog G Tryz.f227 [] [.ag] [] w R by kernel_rfl) h)
def ns_ (kind:Int) (lba:Int) (data:A_) (app:Int) (w:World) (R:(A_)→W_):Prop:=
 New (.cells data 344) w fun data1 w0=>New (.cells #[.int .u16 0,.int .u16 0,.int .u32 0] 346) w0 fun a w01=>(0≤(0:Int)∧(0:Int)≤(16:Int)∧(16:Int)≤(16:Int))∧nl_ ⟨(some (if 16=0 then data1 else data1.add (0*1))),(16-0),(16-0)⟩ w01 fun n w02=>New (.cells #[.int .u16 0,.int .u16 0,.int .u32 0] 346) w02 fun t w03=>af_ Tryz.prog (storeVar 346 t (.agg #[.int .u16 n,.int .u16 app,.int .u32 0])) w03 fun w04=>aK_ (fun(w05:World)=>∃g:A_,(loadVar 346 t).run Tryz.prog w05=.ok (.agg g) w05∧af_ Tryz.prog (storeVar 346 a (.agg g)) w05 fun w06=>∃res:A_,(loadVar 346 a).run Tryz.prog w06=.ok (.agg res) w06∧R res w06) fun J_=>Br ((kind==1)||(kind==2)) (Put (t.add 2) (.int .u32 (IntKind.wrap .u32 lba)) w04 fun w07=>J_ w07) (J_ w04)
theorem ns_.calls (kind:Int) (lba:Int) (data:A_) (app:Int) (w:World) (R:(A_)→W_) (h:ns_ kind lba data app w R):ni_ kind lba data app w R:=
 ad_ (aj_ ah_) aA_ Tryz.func228 [(10,⟨[],[8,9]⟩)] [.ag] [.int .u8 kind,.int .u64 lba,.agg data,.int .u16 app] w R (Eq.mp (show ns_ kind lba data app w R=vcF Tryz.prog G Tryz.f228 [(10,⟨[],[8,9]⟩)] [.ag] [.int .u8 kind,.int .u64 lba,.agg data,.int .u16 app] w R by kernel_rfl) h)
def es_ (s:O_) (lba:Int) (list:Sl) (fua:Bool) (w:World) (R:Int→Int→W_):Prop:=
 New (.cells #[.slice list.A list.n list.c] 280) w fun list1 w0=>∃xs:Sl,w0.cell? list1=some (.slice xs.A xs.n xs.c)∧da_ s lba (xs.n:Int) w0 fun n w01=>Br (n != 0) (R 0 n w01) (∃xs1:Sl,w01.cell? list1=some (.slice xs1.A xs1.n xs1.c)∧fK_ s lba (xs1.n:Int) (.func (.func 275) #[] #[.pointer (some list1)]) fua w01 fun n1 n2 w02=>R n1 n2 w02)
theorem es_.calls (s:O_) (lba:Int) (list:Sl) (fua:Bool) (w:World) (R:Int→Int→W_) (h:es_ s lba list fua w R):eg_ s lba list fua w R:=
 ad_ (aj_ ah_) aA_ Tryz.func229 [] [.i .i64,.i .i64] [.pointer s,.int .i64 lba,.slice list.A list.n list.c,.bool fua] w R (Eq.mp (show es_ s lba list fua w R=vcF Tryz.prog G Tryz.f229 [] [.i .i64,.i .i64] [.pointer s,.int .i64 lba,.slice list.A list.n list.c,.bool fua] w R by kernel_rfl) h)
def jJ_ (a:Sl) (b:Sl) (w:World) (R:Int→W_):Prop:=
 k5_ a false w fun xs w0=>k5_ b false w0 fun xs1 w01=>∃(I:Int→W_) (μ:Int→World→Nat),I 0 w01∧∀(x:Int) (w02:World),I x w02→Br (decide (x<(xs.n:Int))) (∀w03,w03=w02.drew→∃S:W_,S w03∧(0≤x∧x<(xs.n:Int)∧xs.A.isSome=true)∧∃n:Int,(∀u,S u→u.cell? ((gA xs.A).add (x.toNat*1))=some (.int .u8 n))∧(0≤x∧x<(xs1.n:Int)∧xs1.A.isSome=true)∧∃n1:Int,(∀u1,S u1→u1.cell? ((gA xs1.A).add (x.toNat*1))=some (.int .u8 n1))∧Br (n != n1) (R x w03) (I (IntKind.wrap .i64 (x+1)) w03∧μ (IntKind.wrap .i64 (x+1)) w03<μ x w02)) (R (-1) w02)
theorem jJ_.calls (a:Sl) (b:Sl) (w:World) (R:Int→W_) (h:jJ_ a b w R):f8_ a b w R:=
 ad_ (aj_ ah_) aA_ Tryz.func230 [(9,⟨[(14,.i .i64)],[5,6,13]⟩)] [.i .i64] [.slice a.A a.n a.c,.slice b.A b.n b.c] w R (Eq.mp (show jJ_ a b w R=vcF Tryz.prog G Tryz.f230 [(9,⟨[(14,.i .i64)],[5,6,13]⟩)] [.i .i64] [.slice a.A a.n a.c,.slice b.A b.n b.c] w R by kernel_rfl) h)
def fg_ (w_:O_) (w:World) (R:Int→W_):Prop:=
 Br ((w_).isNone) (R 8 w) (dA_ w_ w fun n w0=>Br (n != 0) (R n w0) (w_.isSome=true∧∃xs:Sl,w0.cell? ((gA w_).add 2)=some (.slice xs.A xs.n xs.c)∧∃(I:Int→W_) (μ:Int→World→Nat),I 0 w0∧∀(x:Int) (w01:World),I x w01→Br (decide (x<(xs.n:Int))) ((0≤x∧x<(xs.n:Int)∧xs.A.isSome=true)∧∃g:A_,(loadVar 173 ((gA xs.A).add (x.toNat*5))).run Tryz.prog w01=.ok (.agg g) w01∧New (.cells #[.int .u8 0,.string ⟨#[]⟩,.string ⟨#[]⟩,.int .i64 0,.slice none 0 0] 173) w01 fun c w02=>af_ Tryz.prog (storeVar 173 c (.agg g)) w02 fun w03=>∀w04,w04=w03.drew→∃S:W_,S w04∧w_.isSome=true∧∃m:Option Nat,(∀u,S u→u.cell? ((gA w_).add 1)=some (.map m))∧∃g1:A_,(∀u1,S u1→(loadVar 173 c).run Tryz.prog u1=.ok (.agg g1) u1)∧∃xs1:Sl,(∀u2,S u2→u2.cell? (c.add 4)=some (.slice xs1.A xs1.n xs1.c))∧iD_ m g1 (xs1.n:Int) w04 fun w05=>I (IntKind.wrap .i64 (x+1)) w05∧μ (IntKind.wrap .i64 (x+1)) w05<μ x w01) (w_.isSome=true∧Put ((gA w_).add 2) (.slice none 0 0) w01 fun w06=>R 0 w06)))
theorem fg_.calls (w_:O_) (w:World) (R:Int→W_) (h:fg_ w_ w R):cn_ w_ w R:=
 ad_ (aj_ ah_) aA_ Tryz.func231 [(21,⟨[(18,.i .i64)],[0,16,17]⟩)] [.i .i64] [.pointer w_] w R (Eq.mp (show fg_ w_ w R=vcF Tryz.prog G Tryz.f231 [(21,⟨[(18,.i .i64)],[0,16,17]⟩)] [.i .i64] [.pointer w_] w R by kernel_rfl) h)
def et_ (s:O_) (lba:Int) (n:Int) (w:World) (R:Int→Int→W_):Prop:=
 da_ s lba n w fun n1 w0=>Br (n1 != 0) (R 0 n1 w0) (fK_ s lba n (.func (.func 277) #[] #[]) false w0 fun n2 n3 w01=>R n2 n3 w01)
theorem et_.calls (s:O_) (lba:Int) (n:Int) (w:World) (R:Int→Int→W_) (h:et_ s lba n w R):c9_ s lba n w R:=
 ad_ (aj_ ah_) aA_ Tryz.func232 [] [.i .i64,.i .i64] [.pointer s,.int .i64 lba,.int .i64 n] w R (Eq.mp (show et_ s lba n w R=vcF Tryz.prog G Tryz.f232 [] [.i .i64,.i .i64] [.pointer s,.int .i64 lba,.int .i64 n] w R by kernel_rfl) h)
def nt_ (with_:Bool) (w:World) (R:Int→W_):Prop:=
 Br with_ (R 24 w) (R 16 w)
theorem nt_.calls (with_:Bool) (w:World) (R:Int→W_) (h:nt_ with_ w R):nj_ with_ w R:=
 ad_ (aj_ ah_) aA_ Tryz.func233 [] [.i .i64] [.bool with_] w R (Eq.mp (show nt_ with_ w R=vcF Tryz.prog G Tryz.f233 [] [.i .i64] [.bool with_] w R by kernel_rfl) h)
open Go CF
set_option linter.unusedVariables false
set_option maxRecDepth 100000
def hE_ (s:ByteArray) (w:World) (R:Bool→W_):Prop:=
 R ((decide ((s.size:Int)≥1))&&(decide ((s.size:Int)≤32))) w
theorem hE_.calls (s:ByteArray) (w:World) (R:Bool→W_) (h:hE_ s w R):jx_ s w R:=
 ad_ (aj_ ah_) aA_ Tryz.func262 [] [.b] [.string s] w R (Eq.mp (show hE_ s w R=vcF Tryz.prog G Tryz.f262 [] [.b] [.string s] w R by kernel_rfl) h)
def fh_ (w_:O_) (w:World) (R:Int→W_):Prop:=
 w_.isSome=true∧∃b:Bool,w.cell? ((gA w_).add 6)=some (.bool b)∧Br b (R 7 w) (w_.isSome=true∧∃n:Int,w.cell? ((gA w_).add 3)=some (.int .i64 n)∧w_.isSome=true∧∃n1:Int,w.cell? ((gA w_).add 3)=some (.int .i64 n1)∧w_.isSome=true∧Put ((gA w_).add 3) (.int .i64 (IntKind.wrap .i64 (n1+1))) w fun w0=>w_.isSome=true∧∃n2:Int,w0.cell? ((gA w_).add 5)=some (.int .i64 n2)∧Br (n==n2) (w_.isSome=true∧Put ((gA w_).add 6) (.bool true) w0 fun w01=>R 7 w01) (w_.isSome=true∧∃m:Option Nat,w0.cell? ((gA w_).add 4)=some (.map m)∧∃b1:Bool,(Instr.lookup 108 (.map m) (.int .i64 n) false).run Tryz.prog w0=.ok (.bool b1) w0∧Br b1 (R 6 w0) (R 0 w0)))
theorem fh_.calls (w_:O_) (w:World) (R:Int→W_) (h:fh_ w_ w R):dA_ w_ w R:=
 ad_ (aj_ ah_) aA_ Tryz.func263 [] [.i .i64] [.pointer w_] w R (Eq.mp (show fh_ w_ w R=vcF Tryz.prog G Tryz.f263 [] [.i .i64] [.pointer w_] w R by kernel_rfl) h)
def nu_ (p:Sl) (w:World) (R:Int→W_):Prop:=
 nm_ 0 p w fun n w0=>R n w0
theorem nu_.calls (p:Sl) (w:World) (R:Int→W_) (h:nu_ p w R):nk_ p w R:=
 ad_ (aj_ ah_) aA_ Tryz.func264 [] [.i .u32] [.slice p.A p.n p.c] w R (Eq.mp (show nu_ p w R=vcF Tryz.prog G Tryz.f264 [] [.i .u32] [.slice p.A p.n p.c] w R by kernel_rfl) h)
def h5_ (gen:Int) (payload:Sl) (w:World) (R:Sl→Int→W_):Prop:=
 Br (decide ((payload.n:Int)>4096)) (R (⟨none,0,0⟩:Sl) 2 w) (an_ Tryz.prog .sl (Instr.buildSlice 33 4 #[(0,.int .u8 83),(1,.int .u8 76),(2,.int .u8 79),(3,.int .u8 84)]) w fun xs w0=>an_ Tryz.prog .sl (convert 33 33 (.slice xs.A xs.n xs.c)) w0 fun xs1 w01=>an_ Tryz.prog .sl (Builtin.append_ #[33,3] 33 #[.slice xs1.A xs1.n xs1.c,.int .i64 12]) w01 fun xs2 w02=>bt_ xs2 4 8 gen w02 fun xs3 n w03=>bt_ xs3 12 4 (IntKind.wrap .u64 (payload.n:Int)) w03 fun xs4 n1 w04=>an_ Tryz.prog .sl (Builtin.append_ #[33,33] 33 #[.slice xs4.A xs4.n xs4.c,.slice payload.A payload.n payload.c]) w04 fun xs5 w05=>nk_ xs5 w05 fun n2 w06=>an_ Tryz.prog .sl (Instr.buildSlice 33 4 #[(0,.int .u8 (IntKind.wrap .u8 (bu_ .u32 n2 24))),(1,.int .u8 (IntKind.wrap .u8 (bu_ .u32 n2 16))),(2,.int .u8 (IntKind.wrap .u8 (bu_ .u32 n2 8))),(3,.int .u8 (IntKind.wrap .u8 n2))]) w06 fun xs6 w07=>an_ Tryz.prog .sl (Builtin.append_ #[33,33] 33 #[.slice xs5.A xs5.n xs5.c,.slice xs6.A xs6.n xs6.c]) w07 fun xs7 w08=>R xs7 0 w08)
theorem h5_.calls (gen:Int) (payload:Sl) (w:World) (R:Sl→Int→W_) (h:h5_ gen payload w R):kg_ gen payload w R:=
 ad_ (aj_ ah_) aA_ Tryz.func265 [] [.sl,.i .i64] [.int .u64 gen,.slice payload.A payload.n payload.c] w R (Eq.mp (show h5_ gen payload w R=vcF Tryz.prog G Tryz.f265 [] [.sl,.i .i64] [.int .u64 gen,.slice payload.A payload.n payload.c] w R by kernel_rfl) h)
def eu_ (w_:O_) (file:ByteArray) (off:Int) (p:Sl) (w:World) (R:Int→W_):Prop:=
 jx_ file w fun b w0=>Br ((!b)||(decide (off<0))) (R 1 w0) (Br ((decide (off>1048576))||(decide ((p.n:Int)>(IntKind.wrap .i64 (1048576-off))))) (R 2 w0) (Br ((w_).isNone) (R 8 w0) (an_ Tryz.prog .sl (Builtin.append_ #[33,33] 33 #[.slice none 0 0,.slice p.A p.n p.c]) w0 fun xs w01=>iH_ w_ #[.int .u8 119,.string file,.string ⟨#[]⟩,.int .i64 off,.slice xs.A xs.n xs.c] w01 fun n w02=>R n w02)))
theorem eu_.calls (w_:O_) (file:ByteArray) (off:Int) (p:Sl) (w:World) (R:Int→W_) (h:eu_ w_ file off p w R):eh_ w_ file off p w R:=
 ad_ (aj_ ah_) aA_ Tryz.func266 [] [.i .i64] [.pointer w_,.string file,.int .i64 off,.slice p.A p.n p.c] w R (Eq.mp (show eu_ w_ file off p w R=vcF Tryz.prog G Tryz.f266 [] [.i .i64] [.pointer w_,.string file,.int .i64 off,.slice p.A p.n p.c] w R by kernel_rfl) h)
def h6_ (t:O_) (nexus:Int) (key:Int) (w:World) (R:W_):Prop:=
 t.isSome=true∧∃xs:Sl,w.cell? ((gA t).add 0)=some (.slice xs.A xs.n xs.c)∧∃(I:Sl→Int→W_) (μ:Sl→Int→World→Nat),I (⟨none,0,0⟩:Sl) 0 w∧∀(left_:Sl) (x:Int) (w0:World),I left_ x w0→Br (decide (x<(xs.n:Int))) (aK_ (fun(left_1:Sl) (w01:World)=>I left_1 (IntKind.wrap .i64 (x+1)) w01∧μ left_1 (IntKind.wrap .i64 (x+1)) w01<μ left_ x w0) fun J_=>(0≤x∧x<(xs.n:Int)∧xs.A.isSome=true)∧∃g:A_,(loadVar 97 ((gA xs.A).add (x.toNat*2))).run Tryz.prog w0=.ok (.agg g) w0∧New (.cells #[.int .i64 0,.int .u64 0] 97) w0 fun r w02=>af_ Tryz.prog (storeVar 97 r (.agg g)) w02 fun w03=>∃n:Int,w03.cell? (r.add 0)=some (.int .i64 n)∧Br (decide (n<nexus)) (∃g1:A_,(loadVar 97 r).run Tryz.prog w03=.ok (.agg g1) w03∧an_ Tryz.prog .sl (Instr.buildSlice 67 1 #[(0,.agg g1)]) w03 fun xs1 w05=>an_ Tryz.prog .sl (Builtin.append_ #[67,67] 67 #[.slice left_.A left_.n left_.c,.slice xs1.A xs1.n xs1.c]) w05 fun xs2 w06=>J_ xs2 w06) (J_ left_ w03)) (aK_ (fun(left_3:Sl) (w07:World)=>t.isSome=true∧∃xs3:Sl,w07.cell? ((gA t).add 0)=some (.slice xs3.A xs3.n xs3.c)∧∃(I1:Sl→Int→W_) (μ1:Sl→Int→World→Nat),I1 left_3 0 w07∧∀(left_4:Sl) (x1:Int) (w08:World),I1 left_4 x1 w08→Br (decide (x1<(xs3.n:Int))) (aK_ (fun(left_5:Sl) (w09:World)=>I1 left_5 (IntKind.wrap .i64 (x1+1)) w09∧μ1 left_5 (IntKind.wrap .i64 (x1+1)) w09<μ1 left_4 x1 w08) fun J_1=>(0≤x1∧x1<(xs3.n:Int)∧xs3.A.isSome=true)∧∃g2:A_,(loadVar 97 ((gA xs3.A).add (x1.toNat*2))).run Tryz.prog w08=.ok (.agg g2) w08∧New (.cells #[.int .i64 0,.int .u64 0] 97) w08 fun r1 w010=>af_ Tryz.prog (storeVar 97 r1 (.agg g2)) w010 fun w011=>∃n1:Int,w011.cell? (r1.add 0)=some (.int .i64 n1)∧Br (decide (n1>nexus)) (∃g3:A_,(loadVar 97 r1).run Tryz.prog w011=.ok (.agg g3) w011∧an_ Tryz.prog .sl (Instr.buildSlice 67 1 #[(0,.agg g3)]) w011 fun xs4 w013=>an_ Tryz.prog .sl (Builtin.append_ #[67,67] 67 #[.slice left_4.A left_4.n left_4.c,.slice xs4.A xs4.n xs4.c]) w013 fun xs5 w014=>J_1 xs5 w014) (J_1 left_4 w011)) (t.isSome=true∧Put ((gA t).add 0) (.slice left_4.A left_4.n left_4.c) w08 fun w015=>R w015)) fun J_2=>Br (key != 0) (an_ Tryz.prog .sl (Instr.buildSlice 67 1 #[(0,.agg #[.int .i64 nexus,.int .u64 key])]) w0 fun xs6 w016=>an_ Tryz.prog .sl (Builtin.append_ #[67,67] 67 #[.slice left_.A left_.n left_.c,.slice xs6.A xs6.n xs6.c]) w016 fun xs7 w017=>J_2 xs7 w017) (J_2 left_ w0))
theorem h6_.calls (t:O_) (nexus:Int) (key:Int) (w:World) (R:W_) (h:h6_ t nexus key w R):hS_ t nexus key w R:=
 ad_ (aj_ ah_) aA_ Tryz.func267 [(6,⟨[(6,.sl),(16,.i .i64)],[0,1,2,14,15]⟩),(5,⟨[(6,.sl)],[0,1,2,14,15,16]⟩),(30,⟨[(6,.sl),(42,.i .i64)],[0,1,40,41]⟩),(11,⟨[(6,.sl)],[0,1,40,41,42]⟩),(25,⟨[(6,.sl)],[0,1]⟩)] [] [.pointer t,.int .i64 nexus,.int .u64 key] w R (Eq.mp (show h6_ t nexus key w R=vcF Tryz.prog G Tryz.f267 [(6,⟨[(6,.sl),(16,.i .i64)],[0,1,2,14,15]⟩),(5,⟨[(6,.sl)],[0,1,2,14,15,16]⟩),(30,⟨[(6,.sl),(42,.i .i64)],[0,1,40,41]⟩),(11,⟨[(6,.sl)],[0,1,40,41,42]⟩),(25,⟨[(6,.sl)],[0,1]⟩)] [] [.pointer t,.int .i64 nexus,.int .u64 key] w R by kernel_rfl) h)
def hk_ (t:O_) (but:Int) (w:World) (R:Sl→W_):Prop:=
 t.isSome=true∧∃n:Int,w.cell? ((gA t).add 2)=some (.int .u8 n)∧aK_ (fun(out:Sl) (w0:World)=>t.isSome=true∧Put ((gA t).add 2) (.int .u8 0) w0 fun w01=>t.isSome=true∧Put ((gA t).add 3) (.int .i64 (-1)) w01 fun w02=>R out w02) fun J_=>Br (decide (n≥5)) (t.isSome=true∧∃xs:Sl,w.cell? ((gA t).add 0)=some (.slice xs.A xs.n xs.c)∧∃(I:Sl→Int→W_) (μ:Sl→Int→World→Nat),I (⟨none,0,0⟩:Sl) 0 w∧∀(out1:Sl) (x:Int) (w03:World),I out1 x w03→Br (decide (x<(xs.n:Int))) (aK_ (fun(out2:Sl) (w04:World)=>I out2 (IntKind.wrap .i64 (x+1)) w04∧μ out2 (IntKind.wrap .i64 (x+1)) w04<μ out1 x w03) fun J_1=>(0≤x∧x<(xs.n:Int)∧xs.A.isSome=true)∧∃g:A_,(loadVar 97 ((gA xs.A).add (x.toNat*2))).run Tryz.prog w03=.ok (.agg g) w03∧New (.cells #[.int .i64 0,.int .u64 0] 97) w03 fun r w05=>af_ Tryz.prog (storeVar 97 r (.agg g)) w05 fun w06=>∃n1:Int,w06.cell? (r.add 0)=some (.int .i64 n1)∧Br (n1 != but) (∃n2:Int,w06.cell? (r.add 0)=some (.int .i64 n2)∧an_ Tryz.prog .sl (Instr.buildSlice 261 1 #[(0,.agg #[.int .i64 n2,.int .u16 10756])]) w06 fun xs1 w08=>an_ Tryz.prog .sl (Builtin.append_ #[261,261] 261 #[.slice out1.A out1.n out1.c,.slice xs1.A xs1.n xs1.c]) w08 fun xs2 w09=>J_1 xs2 w09) (J_1 out1 w06)) (J_ out1 w03)) (J_ (⟨none,0,0⟩:Sl) w)
theorem hk_.calls (t:O_) (but:Int) (w:World) (R:Sl→W_) (h:hk_ t but w R):ha_ t but w R:=
 ad_ (aj_ ah_) aA_ Tryz.func268 [(10,⟨[(5,.sl)],[0]⟩),(12,⟨[(5,.sl),(18,.i .i64)],[0,1,16,17]⟩),(5,⟨[(5,.sl)],[0,1,16,17,18]⟩)] [.sl] [.pointer t,.int .i64 but] w R (Eq.mp (show hk_ t but w R=vcF Tryz.prog G Tryz.f268 [(10,⟨[(5,.sl)],[0]⟩),(12,⟨[(5,.sl),(18,.i .i64)],[0,1,16,17]⟩),(5,⟨[(5,.sl)],[0,1,16,17,18]⟩)] [.sl] [.pointer t,.int .i64 but] w R by kernel_rfl) h)
def ev_ (s:ByteArray) (cutset:ByteArray) (w:World) (R:ByteArray→W_):Prop:=
 Br ((sEq s ⟨#[]⟩)||(sEq cutset ⟨#[]⟩)) (R s w) ((((cutset.size:Int)==1)=true→(0≤(0:Int)∧(0:Int)<(cutset.size:Int)))∧Br (((cutset.size:Int)==1)&&(decide ((bt cutset 0)<128))) ((0≤(0:Int)∧(0:Int)<(cutset.size:Int))∧eI_ s (bt cutset 0) w fun s1 w0=>R s1 w0) (mI_ cutset w fun g b w01=>New (.cells #[.bool false,.bool false,.bool false,.bool false,.bool false,.bool false,.bool false,.bool false,.bool false,.bool false,.bool false,.bool false,.bool false,.bool false,.bool false,.bool false,.bool false,.bool false,.bool false,.bool false,.bool false,.bool false,.bool false,.bool false,.bool false,.bool false,.bool false,.bool false,.bool false,.bool false,.bool false,.bool false,.bool false,.bool false,.bool false,.bool false,.bool false,.bool false,.bool false,.bool false,.bool false,.bool false,.bool false,.bool false,.bool false,.bool false,.bool false,.bool false,.bool false,.bool false,.bool false,.bool false,.bool false,.bool false,.bool false,.bool false,.bool false,.bool false,.bool false,.bool false,.bool false,.bool false,.bool false,.bool false,.bool false,.bool false,.bool false,.bool false,.bool false,.bool false,.bool false,.bool false,.bool false,.bool false,.bool false,.bool false,.bool false,.bool false,.bool false,.bool false,.bool false,.bool false,.bool false,.bool false,.bool false,.bool false,.bool false,.bool false,.bool false,.bool false,.bool false,.bool false,.bool false,.bool false,.bool false,.bool false,.bool false,.bool false,.bool false,.bool false,.bool false,.bool false,.bool false,.bool false,.bool false,.bool false,.bool false,.bool false,.bool false,.bool false,.bool false,.bool false,.bool false,.bool false,.bool false,.bool false,.bool false,.bool false,.bool false,.bool false,.bool false,.bool false,.bool false,.bool false,.bool false,.bool false,.bool false,.bool false,.bool false,.bool false,.bool false,.bool false,.bool false,.bool false,.bool false,.bool false,.bool false,.bool false,.bool false,.bool false,.bool false,.bool false,.bool false,.bool false,.bool false,.bool false,.bool false,.bool false,.bool false,.bool false,.bool false,.bool false,.bool false,.bool false,.bool false,.bool false,.bool false,.bool false,.bool false,.bool false,.bool false,.bool false,.bool false,.bool false,.bool false,.bool false,.bool false,.bool false,.bool false,.bool false,.bool false,.bool false,.bool false,.bool false,.bool false,.bool false,.bool false,.bool false,.bool false,.bool false,.bool false,.bool false,.bool false,.bool false,.bool false,.bool false,.bool false,.bool false,.bool false,.bool false,.bool false,.bool false,.bool false,.bool false,.bool false,.bool false,.bool false,.bool false,.bool false,.bool false,.bool false,.bool false,.bool false,.bool false,.bool false,.bool false,.bool false,.bool false,.bool false,.bool false,.bool false,.bool false,.bool false,.bool false,.bool false,.bool false,.bool false,.bool false,.bool false,.bool false,.bool false,.bool false,.bool false,.bool false,.bool false,.bool false,.bool false,.bool false,.bool false,.bool false,.bool false,.bool false,.bool false,.bool false,.bool false,.bool false,.bool false,.bool false,.bool false,.bool false,.bool false,.bool false,.bool false,.bool false,.bool false,.bool false,.bool false,.bool false,.bool false,.bool false,.bool false,.bool false,.bool false,.bool false,.bool false,.bool false] 413) w01 fun as_ w02=>af_ Tryz.prog (storeVar 413 as_ (.agg g)) w02 fun w03=>Br b (lw_ s (some as_) w03 fun s2 w04=>R s2 w04) (ky_ s cutset w03 fun s3 w05=>R s3 w05)))
theorem ev_.calls (s:ByteArray) (cutset:ByteArray) (w:World) (R:ByteArray→W_) (h:ev_ s cutset w R):gT_ s cutset w R:=
 ad_ (aj_ ah_) aA_ Tryz.func269 [] [.s] [.string s,.string cutset] w R (Eq.mp (show ev_ s cutset w R=vcF Tryz.prog G Tryz.f269 [] [.s] [.string s,.string cutset] w R by kernel_rfl) h)
def ew_ (s:O_) (lba:Int) (n:Int) (w:World) (R:Int→W_):Prop:=
 Br ((s).isNone) (R 8 w) (((!((decide (lba<0))||(decide (n<0))))=true→s.isSome=true)∧∃n1:Int,((!((decide (lba<0))||(decide (n<0))))=true→w.cell? ((gA s).add 2)=some (.int .i64 n1))∧((!(((decide (lba<0))||(decide (n<0)))||(decide (lba>n1))))=true→s.isSome=true)∧∃n2:Int,((!(((decide (lba<0))||(decide (n<0)))||(decide (lba>n1))))=true→w.cell? ((gA s).add 2)=some (.int .i64 n2))∧Br ((((decide (lba<0))||(decide (n<0)))||(decide (lba>n1)))||(decide (n>(IntKind.wrap .i64 (n2-lba))))) (R 4 w) (R 0 w))
theorem ew_.calls (s:O_) (lba:Int) (n:Int) (w:World) (R:Int→W_) (h:ew_ s lba n w R):da_ s lba n w R:=
 ad_ (aj_ ah_) aA_ Tryz.func270 [] [.i .i64] [.pointer s,.int .i64 lba,.int .i64 n] w R (Eq.mp (show ew_ s lba n w R=vcF Tryz.prog G Tryz.f270 [] [.i .i64] [.pointer s,.int .i64 lba,.int .i64 n] w R by kernel_rfl) h)
def iU_ (p:Sl) (w:World) (R:(A_)→W_):Prop:=
 New (.cells #[.int .u8 0,.int .u8 0,.int .u8 0,.int .u8 0,.int .u8 0,.int .u8 0,.int .u8 0,.int .u8 0,.int .u8 0,.int .u8 0,.int .u8 0,.int .u8 0,.int .u8 0,.int .u8 0,.int .u8 0,.int .u8 0,.int .u16 0,.int .u16 0,.int .u32 0] 348) w fun a w0=>((!(decide ((p.n:Int)<25)))=true→(0≤(0:Int)∧(0:Int)<(p.n:Int)∧p.A.isSome=true))∧∃n:Int,((!(decide ((p.n:Int)<25)))=true→w0.cell? ((gA p.A).add ((0:Int).toNat*1))=some (.int .u8 n))∧Br ((decide ((p.n:Int)<25))||(n != 1)) (k7_  w0 fun g w01=>af_ Tryz.prog (storeVar 348 a (.agg g)) w01 fun w02=>∃res:A_,(loadVar 348 a).run Tryz.prog w02=.ok (.agg res) w02∧R res w02) (New (.cells #[.int .u8 0,.int .u8 0,.int .u8 0,.int .u8 0,.int .u8 0,.int .u8 0,.int .u8 0,.int .u8 0,.int .u8 0,.int .u8 0,.int .u8 0,.int .u8 0,.int .u8 0,.int .u8 0,.int .u8 0,.int .u8 0,.int .u16 0,.int .u16 0,.int .u32 0] 348) w0 fun b w03=>∀w04,w04=w03.drew→(0≤(0:Int)∧(0:Int)≤(16:Int)∧(16:Int)≤(16:Int))∧(0≤(1:Int)∧(1:Int)≤(p.n:Int)∧(p.n:Int)≤(p.c:Int)∧p.n≤p.c)∧an_ Tryz.prog (.i .i64) (Builtin.copy_ #[33,33] 3 #[.slice (some (if 16=0 then(b.add 0) else(b.add 0).add (0*1))) (16-0) (16-0),.slice (aI_ p.A p.c 1 1) (((p.n:Int)).toNat-1) (p.c-1)]) w04 fun n1 w05=>bJ_ p 17 2 w05 fun n2 n3 w06=>bJ_ p 19 2 w06 fun n4 n5 w07=>bJ_ p 21 4 w07 fun n6 n7 w08=>af_ Tryz.prog (storeVar 346 (b.add 16) (.agg #[.int .u16 (IntKind.wrap .u16 n2),.int .u16 (IntKind.wrap .u16 n4),.int .u32 (IntKind.wrap .u32 n6)])) w08 fun w09=>∃g1:A_,(loadVar 348 b).run Tryz.prog w09=.ok (.agg g1) w09∧af_ Tryz.prog (storeVar 348 a (.agg g1)) w09 fun w010=>∃res1:A_,(loadVar 348 a).run Tryz.prog w010=.ok (.agg res1) w010∧R res1 w010)
theorem iU_.calls (p:Sl) (w:World) (R:(A_)→W_) (h:iU_ p w R):k6_ p w R:=
 ad_ (aj_ ah_) aA_ Tryz.func271 [] [.ag] [.slice p.A p.n p.c] w R (Eq.mp (show iU_ p w R=vcF Tryz.prog G Tryz.f271 [] [.ag] [.slice p.A p.n p.c] w R by kernel_rfl) h)
def jK_ (kind:Int) (t:A_) (w:World) (R:Bool→W_):Prop:=
 New (.cells t 346) w fun t1 w0=>∃n:Int,w0.cell? (t1.add 1)=some (.int .u16 n)∧Br (n != 65535) (R false w0) (∃n1:Int,((!(kind != 3))=true→w0.cell? (t1.add 2)=some (.int .u32 n1))∧R ((kind != 3)||(n1==4294967295)) w0)
theorem jK_.calls (kind:Int) (t:A_) (w:World) (R:Bool→W_) (h:jK_ kind t w R):mn_ kind t w R:=
 ad_ (aj_ ah_) aA_ Tryz.func272 [] [.b] [.int .u8 kind,.agg t] w R (Eq.mp (show jK_ kind t w R=vcF Tryz.prog G Tryz.f272 [] [.b] [.int .u8 kind,.agg t] w R by kernel_rfl) h)
def nv_ (p:Sl) (w:World) (R:Int→W_):Prop:=
 qj_ 0 p w fun n w0=>R n w0
theorem nv_.calls (p:Sl) (w:World) (R:Int→W_) (h:nv_ p w R):nl_ p w R:=
 ad_ (aj_ ah_) aA_ Tryz.func273 [] [.i .u16] [.slice p.A p.n p.c] w R (Eq.mp (show nv_ p w R=vcF Tryz.prog G Tryz.f273 [] [.i .u16] [.slice p.A p.n p.c] w R by kernel_rfl) h)
def fR_ (s:O_) (lba:Int) (n:Int) (one:Value) (fua:Bool) (w:World) (R:Int→Int→W_):Prop:=
 ∃(I:Int→W_) (μ:Int→World→Nat),I 0 w∧∀(x:Int) (w0:World),I x w0→Br (decide (x<n)) (∀w01,w01=w0.drew→∃S:W_,S w01∧s.isSome=true∧∃p:O_,(∀u,S u→u.cell? ((gA s).add 0)=some (.pointer p))∧s.isSome=true∧∃s1:ByteArray,(∀u1,S u1→u1.cell? ((gA s).add 1)=some (.string s1))∧lz_ Tryz.prog cs one #[.int .i64 x] w01 [.sl] fun xs w02=>S w02∧eh_ p s1 (IntKind.wrap .i64 ((IntKind.wrap .i64 (lba+x))*25)) xs w02 fun n1 w03=>Br (n1 != 0) (R x n1 w03) (I (IntKind.wrap .i64 (x+1)) w03∧μ (IntKind.wrap .i64 (x+1)) w03<μ x w0)) ((((!fua)&&(decide (n>0)))=true→s.isSome=true)∧∃b:Bool,(((!fua)&&(decide (n>0)))=true→w0.cell? ((gA s).add 3)=some (.bool b))∧Br ((decide (n>0))&&(fua||(!b))) (s.isSome=true∧∃p1:O_,w0.cell? ((gA s).add 0)=some (.pointer p1)∧cn_ p1 w0 fun n2 w04=>R n n2 w04) (R n 0 w0))
theorem fR_.calls (s:O_) (lba:Int) (n:Int) (one:Value) (fua:Bool) (w:World) (R:Int→Int→W_) (h:fR_ s lba n one fua w R):fK_ s lba n one fua w R:=
 ad_ (aj_ ah_) aA_ Tryz.func274 [(6,⟨[(15,.i .i64)],[0,1,2,3,4,14]⟩)] [.i .i64,.i .i64] [.pointer s,.int .i64 lba,.int .i64 n,one,.bool fua] w R (Eq.mp (show fR_ s lba n one fua w R=vcF Tryz.prog G Tryz.f274 [(6,⟨[(15,.i .i64)],[0,1,2,3,4,14]⟩)] [.i .i64,.i .i64] [.pointer s,.int .i64 lba,.int .i64 n,one,.bool fua] w R by kernel_rfl) h)
def dI_ (i:Int) (fv:Addr) (w:World) (R:Sl→W_):Prop:=
 ∃xs:Sl,w.cell? fv=some (.slice xs.A xs.n xs.c)∧(0≤i∧i<(xs.n:Int)∧xs.A.isSome=true)∧∃g:A_,(loadVar 348 ((gA xs.A).add (i.toNat*19))).run Tryz.prog w=.ok (.agg g) w∧kh_ g w fun xs1 w0=>R xs1 w0
theorem dI_.calls (i:Int) (fv:Addr) (w:World) (R:Sl→W_) (h:dI_ i fv w R):iF_ i fv w R:=
 ad_ (aj_ ah_) aA_ Tryz.func275 [] [.sl] [.int .i64 i,.pointer (some fv)] w R (Eq.mp (show dI_ i fv w R=vcF Tryz.prog G Tryz.f275 [] [.sl] [.int .i64 i,.pointer (some fv)] w R by kernel_rfl) h)
def h7_ (b:A_) (w:World) (R:Sl→W_):Prop:=
 New (.cells b 348) w fun b1 w0=>an_ Tryz.prog .sl (Instr.buildSlice 33 1 #[(0,.int .u8 1)]) w0 fun xs w01=>(0≤(0:Int)∧(0:Int)≤(16:Int)∧(16:Int)≤(16:Int))∧an_ Tryz.prog .sl (Builtin.append_ #[33,33] 33 #[.slice xs.A xs.n xs.c,.slice (some (if 16=0 then(b1.add 0) else(b1.add 0).add (0*1))) (16-0) (16-0)]) w01 fun xs1 w02=>∃n:Int,w02.cell? ((b1.add 16).add 0)=some (.int .u16 n)∧∃n1:Int,w02.cell? ((b1.add 16).add 0)=some (.int .u16 n1)∧∃n2:Int,w02.cell? ((b1.add 16).add 1)=some (.int .u16 n2)∧∃n3:Int,w02.cell? ((b1.add 16).add 1)=some (.int .u16 n3)∧an_ Tryz.prog .sl (Instr.buildSlice 33 4 #[(0,.int .u8 (IntKind.wrap .u8 (bu_ .u16 n 8))),(1,.int .u8 (IntKind.wrap .u8 n1)),(2,.int .u8 (IntKind.wrap .u8 (bu_ .u16 n2 8))),(3,.int .u8 (IntKind.wrap .u8 n3))]) w02 fun xs2 w03=>an_ Tryz.prog .sl (Builtin.append_ #[33,33] 33 #[.slice xs1.A xs1.n xs1.c,.slice xs2.A xs2.n xs2.c]) w03 fun xs3 w04=>∃n4:Int,w04.cell? ((b1.add 16).add 2)=some (.int .u32 n4)∧∃n5:Int,w04.cell? ((b1.add 16).add 2)=some (.int .u32 n5)∧∃n6:Int,w04.cell? ((b1.add 16).add 2)=some (.int .u32 n6)∧∃n7:Int,w04.cell? ((b1.add 16).add 2)=some (.int .u32 n7)∧an_ Tryz.prog .sl (Instr.buildSlice 33 4 #[(0,.int .u8 (IntKind.wrap .u8 (bu_ .u32 n4 24))),(1,.int .u8 (IntKind.wrap .u8 (bu_ .u32 n5 16))),(2,.int .u8 (IntKind.wrap .u8 (bu_ .u32 n6 8))),(3,.int .u8 (IntKind.wrap .u8 n7))]) w04 fun xs4 w05=>an_ Tryz.prog .sl (Builtin.append_ #[33,33] 33 #[.slice xs3.A xs3.n xs3.c,.slice xs4.A xs4.n xs4.c]) w05 fun xs5 w06=>R xs5 w06
theorem h7_.calls (b:A_) (w:World) (R:Sl→W_) (h:h7_ b w R):kh_ b w R:=
 ad_ (aj_ ah_) aA_ Tryz.func276 [] [.sl] [.agg b] w R (Eq.mp (show h7_ b w R=vcF Tryz.prog G Tryz.f276 [] [.sl] [.agg b] w R by kernel_rfl) h)
def dJ_ (p:Int) (w:World) (R:Sl→W_):Prop:=
 an_ Tryz.prog .sl (Instr.buildSlice 33 1 #[(0,.int .u8 0)]) w fun xs w0=>R xs w0
theorem dJ_.calls (p:Int) (w:World) (R:Sl→W_) (h:dJ_ p w R):iG_ p w R:=
 ad_ (aj_ ah_) aA_ Tryz.func277 [] [.sl] [.int .i64 p] w R (Eq.mp (show dJ_ p w R=vcF Tryz.prog G Tryz.f277 [] [.sl] [.int .i64 p] w R by kernel_rfl) h)
def kJ_ (sum:Int) (p:Sl) (w:World) (R:Int→W_):Prop:=
 ∃(I:Int→Int→W_) (μ:Int→Int→World→Nat),I (rf_ .u32 sum) 0 w∧∀(sum1:Int) (x:Int) (w0:World),I sum1 x w0→Br (decide (x<(p.n:Int))) ((0≤x∧x<(p.n:Int)∧p.A.isSome=true)∧∃n:Int,w0.cell? ((gA p.A).add (x.toNat*1))=some (.int .u8 n)∧∃(I1:Int→Int→W_) (μ1:Int→Int→World→Nat),I1 (ji_ .u32 sum1 (IntKind.wrap .u32 n)) 0 w0∧∀(sum2:Int) (x1:Int) (w01:World),I1 sum2 x1 w01→Br (decide (x1<8)) (aK_ (fun(sum3:Int) (w02:World)=>I1 sum3 (IntKind.wrap .i64 (x1+1)) w02∧μ1 sum3 (IntKind.wrap .i64 (x1+1)) w02<μ1 sum2 x1 w01) fun J_=>Br ((bm_ .u32 sum2 1)==1) (J_ (ji_ .u32 (bu_ .u32 sum2 1) 2197175160) w01) (J_ (bu_ .u32 sum2 1) w01)) (I sum2 (IntKind.wrap .i64 (x+1)) w01∧μ sum2 (IntKind.wrap .i64 (x+1)) w01<μ sum1 x w0)) (R (rf_ .u32 sum1) w0)
theorem kJ_.calls (sum:Int) (p:Sl) (w:World) (R:Int→W_) (h:kJ_ sum p w R):nm_ sum p w R:=
 ad_ (aj_ ah_) aA_ Tryz.func296 [(9,⟨[(0,.i .u32),(12,.i .i64)],[10,11]⟩),(21,⟨[(0,.i .u32),(20,.i .i64)],[10,11,12]⟩),(11,⟨[(0,.i .u32)],[10,11,12,20]⟩)] [.i .u32] [.int .u32 sum,.slice p.A p.n p.c] w R (Eq.mp (show kJ_ sum p w R=vcF Tryz.prog G Tryz.f296 [(9,⟨[(0,.i .u32),(12,.i .i64)],[10,11]⟩),(21,⟨[(0,.i .u32),(20,.i .i64)],[10,11,12]⟩),(11,⟨[(0,.i .u32)],[10,11,12,20]⟩)] [.i .u32] [.int .u32 sum,.slice p.A p.n p.c] w R by kernel_rfl) h)
open Go CF
set_option linter.unusedVariables false
set_option maxRecDepth 100000
def gz_ (w_:O_) (c:A_) (w:World) (R:Int→W_):Prop:=
 New (.cells c 173) w fun c1 w0=>dA_ w_ w0 fun n w01=>Br (n != 0) (R n w01) (∀w02,w02=w01.drew→∃S:W_,S w02∧w_.isSome=true∧∃m:Option Nat,(∀u,S u→u.cell? ((gA w_).add 0)=some (.map m))∧∃g:A_,(∀u1,S u1→(loadVar 173 c1).run Tryz.prog u1=.ok (.agg g) u1)∧∃xs:Sl,(∀u2,S u2→u2.cell? (c1.add 4)=some (.slice xs.A xs.n xs.c))∧iD_ m g (xs.n:Int) w02 fun w03=>∀w04,w04=w03.drew→∃S1:W_,S1 w04∧w_.isSome=true∧∃xs1:Sl,(∀u3,S1 u3→u3.cell? ((gA w_).add 2)=some (.slice xs1.A xs1.n xs1.c))∧∃g1:A_,(∀u4,S1 u4→(loadVar 173 c1).run Tryz.prog u4=.ok (.agg g1) u4)∧an_ Tryz.prog .sl (Instr.buildSlice 107 1 #[(0,.agg g1)]) w04 fun xs2 w05=>S1 w05∧an_ Tryz.prog .sl (Builtin.append_ #[107,107] 107 #[.slice xs1.A xs1.n xs1.c,.slice xs2.A xs2.n xs2.c]) w05 fun xs3 w06=>w_.isSome=true∧Put ((gA w_).add 2) (.slice xs3.A xs3.n xs3.c) w06 fun w07=>R 0 w07)
theorem gz_.calls (w_:O_) (c:A_) (w:World) (R:Int→W_) (h:gz_ w_ c w R):iH_ w_ c w R:=
 ad_ (aj_ ah_) aA_ Tryz.func297 [] [.i .i64] [.pointer w_,.agg c] w R (Eq.mp (show gz_ w_ c w R=vcF Tryz.prog G Tryz.f297 [] [.i .i64] [.pointer w_,.agg c] w R by kernel_rfl) h)
def c5_ (s:ByteArray) (c:Int) (w:World) (R:ByteArray→W_):Prop:=
 ∃(I:ByteArray→W_) (μ:ByteArray→World→Nat),I s w∧∀(s1:ByteArray) (w0:World),I s1 w0→(decide ((s1.size:Int)>0)=true→(0≤(IntKind.wrap .i64 ((s1.size:Int)-1))∧(IntKind.wrap .i64 ((s1.size:Int)-1))<(s1.size:Int)))∧Br ((decide ((s1.size:Int)>0))&&((bt s1 (IntKind.wrap .i64 ((s1.size:Int)-1)))==c)) ((0≤(0:Int)∧(0:Int)≤(IntKind.wrap .i64 ((s1.size:Int)-1))∧(IntKind.wrap .i64 ((s1.size:Int)-1))≤(s1.size:Int))∧I (s1.extract 0 (IntKind.wrap .i64 ((s1.size:Int)-1)).toNat) w0∧μ (s1.extract 0 (IntKind.wrap .i64 ((s1.size:Int)-1)).toNat) w0<μ s1 w0) (R s1 w0)
theorem c5_.calls (s:ByteArray) (c:Int) (w:World) (R:ByteArray→W_) (h:c5_ s c w R):eI_ s c w R:=
 ad_ (aj_ ah_) aA_ Tryz.func298 [(3,⟨[(0,.s)],[1]⟩)] [.s] [.string s,.int .u8 c] w R (Eq.mp (show c5_ s c w R=vcF Tryz.prog G Tryz.f298 [(3,⟨[(0,.s)],[1]⟩)] [.s] [.string s,.int .u8 c] w R by kernel_rfl) h)
def iV_ (w:World) (R:(A_)→W_):Prop:=
 New (.cells #[.int .u8 0,.int .u8 0,.int .u8 0,.int .u8 0,.int .u8 0,.int .u8 0,.int .u8 0,.int .u8 0,.int .u8 0,.int .u8 0,.int .u8 0,.int .u8 0,.int .u8 0,.int .u8 0,.int .u8 0,.int .u8 0,.int .u16 0,.int .u16 0,.int .u32 0] 348) w fun a w0=>∃g:A_,(Instr.build 348 #[(1,.agg #[.int .u16 65535,.int .u16 65535,.int .u32 4294967295])]).run Tryz.prog w0=.ok (.agg g) w0∧af_ Tryz.prog (storeVar 348 a (.agg g)) w0 fun w01=>∃res:A_,(loadVar 348 a).run Tryz.prog w01=.ok (.agg res) w01∧R res w01
theorem iV_.calls (w:World) (R:(A_)→W_) (h:iV_ w R):k7_ w R:=
 ad_ (aj_ ah_) aA_ Tryz.func302 [] [.ag] [] w R (Eq.mp (show iV_ w R=vcF Tryz.prog G Tryz.f302 [] [.ag] [] w R by kernel_rfl) h)
def kK_ (sum:Int) (p:Sl) (w:World) (R:Int→W_):Prop:=
 ∃(I:Int→Int→W_) (μ:Int→Int→World→Nat),I sum 0 w∧∀(sum1:Int) (x:Int) (w0:World),I sum1 x w0→Br (decide (x<(p.n:Int))) ((0≤x∧x<(p.n:Int)∧p.A.isSome=true)∧∃n:Int,w0.cell? ((gA p.A).add (x.toNat*1))=some (.int .u8 n)∧∃(I1:Int→Int→W_) (μ1:Int→Int→World→Nat),I1 (ji_ .u16 sum1 (cD_ .u16 (IntKind.wrap .u16 n) 8)) 0 w0∧∀(sum2:Int) (x1:Int) (w01:World),I1 sum2 x1 w01→Br (decide (x1<8)) (aK_ (fun(sum3:Int) (w02:World)=>I1 sum3 (IntKind.wrap .i64 (x1+1)) w02∧μ1 sum3 (IntKind.wrap .i64 (x1+1)) w02<μ1 sum2 x1 w01) fun J_=>Br ((bu_ .u16 sum2 15)==1) (J_ (ji_ .u16 (cD_ .u16 sum2 1) 35767) w01) (J_ (cD_ .u16 sum2 1) w01)) (I sum2 (IntKind.wrap .i64 (x+1)) w01∧μ sum2 (IntKind.wrap .i64 (x+1)) w01<μ sum1 x w0)) (R sum1 w0)
theorem kK_.calls (sum:Int) (p:Sl) (w:World) (R:Int→W_) (h:kK_ sum p w R):qj_ sum p w R:=
 ad_ (aj_ ah_) aA_ Tryz.func303 [(6,⟨[(0,.i .u16),(10,.i .i64)],[8,9]⟩),(18,⟨[(0,.i .u16),(19,.i .i64)],[8,9,10]⟩),(11,⟨[(0,.i .u16)],[8,9,10,19]⟩)] [.i .u16] [.int .u16 sum,.slice p.A p.n p.c] w R (Eq.mp (show kK_ sum p w R=vcF Tryz.prog G Tryz.f303 [(6,⟨[(0,.i .u16),(10,.i .i64)],[8,9]⟩),(18,⟨[(0,.i .u16),(19,.i .i64)],[8,9,10]⟩),(11,⟨[(0,.i .u16)],[8,9,10,19]⟩)] [.i .u16] [.int .u16 sum,.slice p.A p.n p.c] w R by kernel_rfl) h)
open Go CF
abbrev bD_:=ByteArray→Option L8
def wr (f:L8) (o:Nat) (p:L8):L8:=
 (f++List.replicate (o+p.length-f.length) 0).take o++p++(f++List.replicate (o+p.length-f.length) 0).drop (o+p.length)
def rl_ (F:bD_) (s:ByteArray) (v:Option L8):bD_:=fun t=>if t=s then v else F t
def fs_ (F:bD_) (s:ByteArray) (o:Nat) (p:L8):bD_:=rl_ F s (some (wr ((F s).getD []) o p))
theorem ti_ (f:L8) (o:Nat) (p:L8):(wr f o p).length=max f.length (o+p.length):=by
 unfold wr
 simp only[List.length_append,List.length_take,List.length_drop,List.length_replicate]
 omega
theorem wW_ (a b:Nat):mn (a:Int) (b:Int)=((min a b:Nat):Int):=by
 unfold mn;split<;>omega
def lc_ (w:World) (v:Option Value):Option L8→Prop
 | none=>v=none
 | some l=>∃s:Sl,v=some (.slice s.A s.n s.c)∧Own w 0 ae_ 1 s (bv l)∧l.length≤1048576
def IsF (w:World) (mb:Nat) (F:bD_):Prop:=∃m,nd_ w mb m∧∀s,lc_ w (m s) (F s)
theorem aS_ {w:World} {base:Nat} {e:TypeId} {z:Nat} {s:Sl} {vs:List Value} (h:Own w base e z s vs) {g:Nat} (hg:s.blk=some g):∃cur,w.heap[g]?=some (.cells cur e (0,0)):=by
 rcases h.2 with⟨h2,_⟩|⟨g',cap,cur,hv,_,hh,_⟩
 ·injection h2 with hA;simp[Sl.blk,hA] at hg
 ·injection hv with hA
  simp[Sl.blk,hA] at hg
  subst hg
  exact⟨cur,hh⟩
def b1_ (w:World) (S:Nat→Prop):Prop:=∀g cur,w.heap[g]?=some (.cells cur ae_ (0,0))→¬S g
theorem lc_.keep {S:Nat→Prop} {w w':World} {v:Option Value} {l:Option L8} (h:lc_ w v l) (k:ac_ S w w') (hn:b1_ w S):lc_ w' v l:=by
 cases l with
 | none=>exact h
 | some l=>
  obtain⟨s,h1,h2,h3⟩:=h
  refine⟨s,h1,h2.keep k fun b hb=>?_,h3⟩
  obtain⟨cur,hc⟩:=aS_ h2 hb
  exact hn b cur hc
theorem IsF.keep {S:Nat→Prop} {w w':World} {mb:Nat} {F:bD_} (h:IsF w mb F) (k:ac_ S w w') (hm:¬S mb) (hn:b1_ w S):IsF w' mb F:=by
 obtain⟨m,h1,h2⟩:=h
 exact⟨m,h1.keep k hm,fun s=>(h2 s).keep k hn⟩
theorem b6_ (w:World):b1_ w fun _=>False:=fun _ _ _ q=>q
theorem IsF.grow {w w':World} {mb:Nat} {F:bD_} (h:IsF w mb F) (k:ab_ w w'):IsF w' mb F:=h.keep k (fun q=>q) (b6_ w)
theorem uZ_ (w:World):IsF (w.alloc (.map #[] 0)) w.heap.size fun _=>none:=⟨_,yd_ w,fun _=>rfl⟩
theorem ql_ {w:World} {mb:Nat} {F:bD_} (h:IsF w mb F):mb<w.heap.size:=by
 obtain⟨m,⟨es,c,hb,_⟩,_⟩:=h
 exact aw_ hb
theorem cP_ {w:World} {mb:Nat} {F:bD_} (h:IsF w mb F) (cur:A_) (t:TypeId) (fr:Nat×Nat):w.heap[mb]?≠some (.cells cur t fr):=by
 obtain⟨m,⟨es,c,hb,_⟩,_⟩:=h
 rw[hb];intro q;cases q
theorem jL_ {w:World} {mb:Nat} {F:bD_} (h:IsF w mb F):b1_ w fun k=>k=mb:=fun g cur hg q=>by
 subst q;exact cP_ h _ _ _ hg
theorem oj_ {P:Program} {w:World} {e:TypeId} {zv:Value} {z bytes:Nat} (hinfo:(P.info? e).map (fun i=>(i.zero,i.size,i.bytes))=some (some zv,z,bytes)):(zeroValue e).run P w=.ok zv w:=by
 obtain⟨i,hi,hzz⟩:=Option.map_eq_some_iff.1 hinfo
 simp only[Prod.mk.injEq] at hzz
 simp[zeroValue,typeInfo,hi,hzz.1]
theorem rL_ {w:World} {mb:Nat} {F:bD_} (h:IsF w mb F) (s:ByteArray) :
  ∃r:Sl×Bool,(Instr.lookup fq_ (.map (some mb)) (.string s) true).run Tryz.prog w=.ok (.tuple #[.slice r.1.A r.1.n r.1.c,.bool r.2]) w∧
   (Instr.lookup fq_ (.map (some mb)) (.string s) false).run Tryz.prog w=.ok (.slice r.1.A r.1.n r.1.c) w∧Own w 0 ae_ 1 r.1 (bv ((F s).getD []))∧r.2=(F s).isSome∧((F s).getD []).length≤1048576:=by
 obtain⟨m,hm,hf⟩:=h
 obtain⟨l1,l2⟩:=wT_ iw_ eJ_ (oj_ vx_) hm s
 have hs:=hf s
 cases hF:F s with
 | none=>
  rw[hF] at hs
  have hs:m s=none:=hs
  rw[hs] at l1 l2
  exact⟨(⟨none,0,0⟩,false),l1,l2,aG_ _ _ _ _,rfl,by simp⟩
 | some l=>
  rw[hF] at hs
  obtain⟨sl,h1,h2,h3⟩:=hs
  rw[h1] at l1 l2
  exact⟨(sl,true),l1,l2,h2,rfl,h3⟩
theorem yj_ {w:World} {mb:Nat} {F:bD_} (h:IsF w mb F) (s:ByteArray) {f:Sl} {l:L8} (hf:Own w 0 ae_ 1 f (bv l)) (hl:l.length≤1048576)
  {K:W_} (hK:∀w',IsF w' mb (rl_ F s (some l))→ac_ (fun k=>k=mb) w w'→K w'):af_ Tryz.prog (Instr.mapUpdate fq_ (.map (some mb)) (.string s) (.slice f.A f.n f.c)) w K:=by
 have hnb:=jL_ h
 obtain⟨m,hm,hs⟩:=h
 refine ye_ iw_ eJ_ hm s _ fun w1 hm1 hk1 _=>hK w1 ⟨_,hm1,fun t=>?_⟩ hk1
 unfold upd rl_
 by_cases q:t=s
 ·rw[if_pos q,if_pos q]
  refine⟨f,rfl,hf.keep hk1 fun b hb=>?_,hl⟩
  obtain⟨cur,hc⟩:=aS_ hf hb
  exact hnb b cur hc
 ·rw[if_neg q,if_neg q]
  exact(hs t).keep hk1 hnb
theorem AH_ (j:Nat):bv (List.replicate j 0)++[.int .u8 0]=bv (List.replicate (j+1) 0):=by
 rw[List.replicate_succ',bg_];rfl
theorem ok_ {w:World} {mb:Nat} {F:bD_} {name to:ByteArray} {off k:Nat} {p:Sl} {bs:L8} {R:W_} (hF:IsF w mb F) (hp:Rd w 1 p (bv bs)) (hb:off+bs.length≤1048576)
  (h:∀w',ac_ (fun k=>k=mb) w w'→IsF w' mb (fs_ F name off (bs.take k))→R w') :
  iD_ (some mb) #[.int .u8 119,.string name,.string to,.int .i64 (off:Int),.slice p.A p.n p.c] (k:Int) w R:=by
 refine iL_.calls _ _ _ _ _ ?_
 refine ag_ fun cb w0 hcb hb0 hg0 hsz0=>?_
 have hb0:Blk w0 cb #[.int .u8 119,.string name,.string to,.int .i64 (off:Int),.slice p.A p.n p.c] aY_:=hb0
 have c0:∀{u:World},Blk u cb #[.int .u8 119,.string name,.string to,.int .i64 (off:Int),.slice p.A p.n p.c] aY_→u.cell? ((⟨cb,0,none⟩:Addr).add 0)=some (.int .u8 119):=fun q=>by rw[ao_,q.cell];rfl
 have c1:∀{u:World},Blk u cb #[.int .u8 119,.string name,.string to,.int .i64 (off:Int),.slice p.A p.n p.c] aY_→u.cell? ((⟨cb,0,none⟩:Addr).add 1)=some (.string name):=fun q=>by rw[ao_,q.cell];rfl
 have c3:∀{u:World},Blk u cb #[.int .u8 119,.string name,.string to,.int .i64 (off:Int),.slice p.A p.n p.c] aY_→u.cell? ((⟨cb,0,none⟩:Addr).add 3)=some (.int .i64 (off:Int)):=fun q=>by rw[ao_,q.cell];rfl
 have c4:∀{u:World},Blk u cb #[.int .u8 119,.string name,.string to,.int .i64 (off:Int),.slice p.A p.n p.c] aY_→u.cell? ((⟨cb,0,none⟩:Addr).add 4)=some (.slice p.A p.n p.c):=fun q=>by rw[ao_,q.cell];rfl
 have hpn:bs.length=p.n:=by have:=hp.len;rw[ax_] at this;omega
 have hcap:=hp.cap
 refine⟨119,c0 hb0,al_ rfl ?_⟩
 have hmn:=wW_ k p.n
 refine⟨p,c4 hb0,p,c4 hb0,⟨o_,o_,o_,o_⟩,name,c1 hb0,?_⟩
 rw[hmn]
 obtain⟨r,_,hlk,hown,_,hol⟩:=rL_ (hF.grow hg0) name
 generalize hold:(F name).getD []=old at *
 have hrn:old.length=r.1.n:=by have:=hown.len;rw[ax_] at this;omega
 refine⟨r.1,hlk,?_⟩
 refine aN_ (s:=⟨none,0,0⟩) (vs:=[]) (base:=w0.heap.size) aE_ a6_ rfl d_ d_ (aG_ _ _ _ _) (hown.rd o_) (by intro u hu;simp only[bv,List.mem_map] at hu;obtain⟨_,_,rfl⟩:=hu;rfl) (by show(0+r.1.n)*1≤_;omega) (Nat.le_refl _) fun s1 w1 hn1 hown1 hk1 _=>?_
 have hg1:ab_ w0 w1:=hk1.mono fun i hi q=>by cases q
 rw[List.nil_append] at hown1
 simp only[Int.toNat_natCast,Nat.sub_zero]
 generalize hL:(bs.take k).length=L at *
 have hLm:min k p.n=L:=by rw[←hL,List.length_take];omega
 rw[hLm]
 have hLb:off+L≤1048576:=by rw[←hL,List.length_take];omega
 refine⟨fun f w'=>∃j:Nat,ab_ w0 w'∧Own w' w0.heap.size ae_ 1 f (bv (old++List.replicate j 0))∧(j=0∨old.length+j≤off+L),fun f _=>off+L-f.n,⟨0,hg1,by simpa using hown1,.inl rfl⟩,?_⟩
 rintro f w2 ⟨j,hg2,hown2,hj⟩
 have hfn:old.length+j=f.n:=by have:=hown2.len;rw[ax_,List.length_append,List.length_replicate] at this;omega
 have hb2:=hg2.heap hb0 (fun q=>q)
 refine⟨(off:Int),c3 hb2,?_⟩
 have hwp:IntKind.wrap .i64 ((off:Int)+(L:Int))=((off+L:Nat):Int):=by rw[w64 o_ o_];omega
 refine a8_ (fun hlt=>?_) (fun hge=>?_)
 ·rw[hwp] at hlt
  refine aJ_ (cells:=#[.int .u8 0]) (e:=ae_) (z:=1) (base:=w0.heap.size) k_ rfl d_ hg2.size fun w3 hlit3 hg3 _=>?_
  refine aN_ aE_ a6_ rfl d_ d_ (hown2.grow hg3) (hlit3.rd (by show 1≤_;decide)) (by simp[Value.oneCell']) (by show(f.n+1)*1≤_;omega) (hg2.trans hg3).size fun f4 w4 hn4 hown4 hk4 _=>?_
  refine⟨⟨j+1,(hg2.trans hg3).keep hk4 fun i hi q=>by have:=(hown2.ge i q.symm).1;omega,?_,.inr o_⟩,?_⟩
  ·have e:bv (old++List.replicate (j+1) 0)=bv (old++List.replicate j 0)++[.int .u8 0]:=by
    rw[bg_,bg_,List.append_assoc,AH_]
   rw[e];exact hown4
  ·have:f4.n=f.n+1:=hn4
   dsimp only
   omega
 ·rw[hwp] at hge
  have hjv:j=off+L-old.length:=o_
  have hfr:=hown2.rd o_
  have hfc:=hfr.cap
  refine⟨(off:Int),c3 hb2,⟨o_,o_,o_,o_⟩,?_⟩
  simp only[Int.toNat_natCast]
  have hx:=(hp.grow (hg0.trans hg2)).cutB (l:=0) (k:=L) (Nat.zero_le _) o_
  simp only[List.drop_zero,Nat.sub_zero] at hx
  have hxt:bs.take L=bs.take k:=by
   rw[←hL,List.length_take]
   rcases Nat.le_total k bs.length with q|q
   ·rw[Nat.min_eq_left q]
   ·rw[Nat.min_eq_right q,List.take_length,List.take_of_length_le q]
  rw[hxt] at hx
  refine rJ_ (x:=⟨aI_ p.A p.c 0 1,L,p.c⟩) (o:=off) aE_ a6_ hown2 hx (by intro u hu;simp only[bv,List.mem_map] at hu;obtain⟨_,_,rfl⟩:=hu;rfl) (by show off+L≤f.n;omega) fun w3 hown3 hk3 _=>?_
  have hcf:f.blk≠some cb:=fun q=>by have:=(hown2.ge cb q).1;omega
  have hb3:=hk3.heap hb2 (fun q=>hcf q.symm)
  refine⟨name,c1 hb3,?_⟩
  have hg3:ab_ w0 w3:=hg2.keep hk3 fun i hi q=>by have:=(hown2.ge i q.symm).1;omega
  have hgw:ab_ w w3:=hg0.trans hg3
  have hres:Own w3 0 ae_ 1 f (bv (wr old off (bs.take k))):=by
   refine Own.mono (base:=w0.heap.size) ?_ (Nat.zero_le _)
   have e:bv (wr old off (bs.take k))=(bv (old++List.replicate j 0)).take off++bv (bs.take k)++(bv (old++List.replicate j 0)).drop (off+L):=by
    unfold wr
    rw[hL,←hjv,bg_,bg_,jj_,rg_]
   rw[e]
   exact hown3
  refine yj_ (hF.grow hgw) name hres (by rw[ti_,hL];omega) fun w4 hF4 hk4=>?_
  refine h w4 (ac_.trans (hgw.mono fun _ _ q=>q.elim) hk4 fun _ _ q=>q) ?_
  unfold fs_
  rw[hold]
  exact hF4
end Go.Proofs.YtpmebahhjgkflaaGreatDoor
namespace Go.Proofs.YtpmebahhjgkflaaGreatDoor.CF
open Go Go.RowKit
set_option maxRecDepth 100000
def kL_ (es:List MapEntry):Prop:=∀e∈es,∃s,e.key=.int .i64 s
def gU_:List MapEntry→Int→Nat→Option (Nat×Value)
 | [],_,_=>none
 | e::r,s,i=>match e.key with
  | .int .i64 t=>if s=t then some (i,e.val) else gU_ r s (i+1)
  | _=>gU_ r s (i+1)
def kk_ (es:List MapEntry) (s:Int):Option Value:=(gU_ es s 0).map (·.2)
theorem pn_ {s:Int}:∀{es:List MapEntry} (i:Nat),kL_ es→Instr.findNow (.int .i64) (.int .i64 s) es i=some (gU_ es s i)
 | [],_,_=>rfl
 | e::r,i,h=>by
  obtain⟨t,ht⟩:=h e (by simp)
  have ih:=pn_ (s:=s) (i+1) (fun x hx=>h x (by simp[hx]):kL_ r)
  unfold Instr.findNow gU_
  rw[ht]
  simp only[Instr.sameNow]
  by_cases e:s=t
  ·have:(s==t)=true:=beq_iff_eq.2 e
   simp only[if_true,this]
   simp only[if_pos e]
  ·have:(s==t)=false:=Bool.eq_false_iff.2 fun q=>e (beq_iff_eq.1 q)
   simp only[if_true,this]
   simp only[if_neg e]
   exact ih
theorem kM_ {s:Int}:∀(es:List MapEntry) (i j:Nat),gU_ es s (i+j)=(gU_ es s i).map fun p=>(p.1+j,p.2)
 | [],_,_=>rfl
 | e::r,i,j=>by
  unfold gU_
  have:=kM_ (s:=s) r (i+1) j
  rw[show i+1+j=i+j+1 by omega] at this
  cases e.key with
  | int k t=>
   cases k with
   | i64=>by_cases q:s=t<;>simp[q,this]
   | _=>simpa using this
  | _=>simpa using this
theorem fA_ {e:MapEntry} {r:List MapEntry} {t:Int} (h:e.key=.int .i64 t) (s:Int):kk_ (e::r) s=if s=t then some e.val else kk_ r s:=by
 unfold kk_
 conv=>lhs;unfold gU_
 rw[h]
 by_cases q:s=t
 ·simp[q]
 ·simp only[if_neg q]
  rw[kM_ r 0 1,Option.map_map]
  rfl
theorem wX_ {es:List MapEntry} {s:Int} {e:MapEntry} (hk:kL_ es) (he:e.key=.int .i64 s) (hn:kk_ es s=none) (t:Int) :
  kk_ (es++[e]) t=if t=s then some e.val else kk_ es t:=by
 induction es with
 | nil=>rw[List.nil_append,fA_ he]
 | cons x r ih=>
  obtain⟨u,hu⟩:=hk x (by simp)
  rw[fA_ hu] at hn
  rw[List.cons_append,fA_ hu,fA_ hu]
  by_cases q:s=u
  ·rw[if_pos q] at hn;cases hn
  ·rw[if_neg q] at hn
   rw[ih (fun x hx=>hk x (by simp[hx])) hn]
   by_cases q1:t=u
   ·by_cases q2:t=s
    ·exact absurd (q2.symm.trans q1) q
    ·rw[if_pos q1,if_neg q2,if_pos q1]
   ·simp only[if_neg q1]
theorem uk_ {es:List MapEntry} {s:Int} {i:Nat} {v v':Value} (hk:kL_ es) (hn:gU_ es s 0=some (i,v)) (t:Int) :
  kk_ (es.modify i fun e=>{e with key:=.int .i64 s,val:=v'}) t=if t=s then some v' else kk_ es t:=by
 induction es generalizing i with
 | nil=>cases hn
 | cons x r ih=>
  obtain⟨u,hu⟩:=hk x (by simp)
  unfold gU_ at hn
  rw[hu] at hn
  by_cases q:s=u
  ·simp only[if_pos q,Option.some.injEq,Prod.mk.injEq] at hn
   obtain⟨rfl,_⟩:=hn
   rw[List.modify_zero_cons,fA_ (t:=s) rfl,fA_ hu]
   by_cases q1:t=s
   ·simp[q1]
   ·have q2:t≠u:=fun e=>q1 (e.trans q.symm)
    simp[q1,q2]
  ·simp only[if_neg q] at hn
   rw[kM_ r 0 1] at hn
   obtain⟨p,hp,hpe⟩:=Option.map_eq_some_iff.1 hn
   simp only[Prod.mk.injEq] at hpe
   obtain⟨rfl,hp2⟩:=hpe
   rw[List.modify_succ_cons,fA_ hu,fA_ hu,ih (i:=p.1) (fun x hx=>hk x (by simp[hx])) (by rw[hp,←hp2])]
   by_cases q1:t=u
   ·have q2:t≠s:=fun e=>q (e.symm.trans q1)
    simp[q1,q2]
    exact fun e=>absurd e.symm q
   ·simp[q1]
theorem tj_ {es:List MapEntry} {s:Int} {i:Nat} {v':Value} (hk:kL_ es):kL_ (es.modify i fun e=>{e with key:=.int .i64 s,val:=v'}):=by
 intro e he
 obtain⟨j,hj,rfl⟩:=List.getElem_of_mem he
 rw[List.getElem_modify]
 split
 ·exact⟨s,rfl⟩
 ·exact hk _ (List.getElem_mem _)
theorem zH_ {es:Array MapEntry} {s:Int} {i j:Nat} {v:Value} (hs:kL_ es.toList) (h:gU_ es.toList s j=some (j+i,v)):∃e0,es[i]?=some e0∧e0.key=.int .i64 s:=by
 rw[←Array.getElem?_toList]
 generalize es.toList=l at *
 induction l generalizing i j with
 | nil=>cases h
 | cons x r ih=>
  obtain⟨u,hu⟩:=hs x (by simp)
  unfold gU_ at h
  rw[hu] at h
  by_cases q:s=u
  ·simp only[if_pos q,Option.some.injEq,Prod.mk.injEq] at h
   have:i=0:=o_
   subst this
   exact⟨x,rfl,by rw[hu,q]⟩
  ·simp only[if_neg q] at h
   have hi:0<i:=by
    rw[show j+1=0+(j+1) by omega,kM_] at h
    obtain⟨p,_,hp⟩:=Option.map_eq_some_iff.1 h
    simp only[Prod.mk.injEq] at hp
    omega
   obtain⟨i',rfl⟩:∃i',i=i'+1:=⟨i-1,o_⟩
   rw[List.getElem?_cons_succ]
   exact ih (j:=j+1) (fun y hy=>hs y (by simp[hy])) (by rw[h];congr 2;omega)
def mo_ (w:World) (b:Nat) (m:Int→Option Value):Prop:=
 ∃es clock,w.heap[b]?=some (.map es clock)∧kL_ es.toList∧∀s,kk_ es.toList s=m s
def vB_ (m:Int→Option Value) (s:Int) (v:Value):Int→Option Value:=fun t=>if t=s then some v else m t
theorem mo_.keep {S:Nat→Prop} {w w':World} {b:Nat} {m:Int→Option Value} (h:mo_ w b m) (k:ac_ S w w') (hn:¬S b):mo_ w' b m:=by
 obtain⟨es,c,h1,h2⟩:=h
 exact⟨es,c,k.heap h1 hn,h2⟩
section
variable {P:Program} {w:World} {b:Nat} {m:Int→Option Value} {t k e:TypeId}
theorem gc_ {es:Array MapEntry} {clock:Nat} (h:w.heap[b]?=some (.map es clock)):(getObj b).run P w=.ok (.map es clock) w:=by
 simp[getObj,Sem.run,h]
theorem hl_ (ek:Bool) (n:Nat) (hk:P.underlying k=some (.int .i64)) (s:Int):(Instr.checkKey ek (n+1) k (.int .i64 s)).run P w=.ok () w:=by
 unfold Instr.checkKey
 simp[run_underlying hk]
theorem gd_ {es:List MapEntry} (hk:P.underlying k=some (.int .i64)) (hs:kL_ es) (s:Int):(Instr.findKey k (.int .i64 s) es).run P w=.ok (gU_ es s 0) w:=by
 unfold Instr.findKey
 simp[run_underlying hk,pn_ 0 hs]
theorem vC_ (ht:P.underlying t=some (.map k e)) (hk:P.underlying k=some (.int .i64)) {zv:Value} (hz:(zeroValue e).run P w=.ok zv w) (h:mo_ w b m) (s:Int) :
  (Instr.lookup t (.map (some b)) (.int .i64 s) true).run P w=.ok (.tuple #[(m s).getD zv,.bool (m s).isSome]) w∧
  (Instr.lookup t (.map (some b)) (.int .i64 s) false).run P w=.ok ((m s).getD zv) w:=by
 obtain⟨es,c,hb,hs,hm⟩:=h
 have:=hm s
 unfold kk_ at this
 unfold Instr.lookup
 constructor
 ·cases hi:gU_ es.toList s 0 with
  | none=>
   rw[hi] at this
   simp only[Option.map_none] at this
   rw[←this]
   simp[run_underlying ht,gc_ hb,hl_ _ _ hk,gd_ hk hs,hi,hz]
  | some p=>
   rw[hi] at this
   simp only[Option.map_some] at this
   rw[←this]
   simp[run_underlying ht,gc_ hb,hl_ _ _ hk,gd_ hk hs,hi]
 ·cases hi:gU_ es.toList s 0 with
  | none=>
   rw[hi] at this
   simp only[Option.map_none] at this
   rw[←this]
   simp[run_underlying ht,gc_ hb,hl_ _ _ hk,gd_ hk hs,hi,hz]
  | some p=>
   rw[hi] at this
   simp only[Option.map_some] at this
   rw[←this]
   simp[run_underlying ht,gc_ hb,hl_ _ _ hk,gd_ hk hs,hi]
theorem po_ {o:Obj} {es:Array MapEntry} {c:Nat} (h:w.heap[b]?=some (.map es c)):(setObj b o).run P w=.ok () {w with heap:=w.heap.setIfInBounds b o}:=by
 simp[setObj,Sem.run,h]
theorem wY_ (ht:P.underlying t=some (.map k e)) (hk:P.underlying k=some (.int .i64)) (h:mo_ w b m) (s:Int) (v:Value)
  {K:W_} (hK:∀w1,mo_ w1 b (vB_ m s v)→ac_ (fun k=>k=b) w w1→w1.heap.size=w.heap.size→K w1):af_ P (Instr.mapUpdate t (.map (some b)) (.int .i64 s) v) w K:=by
 obtain⟨es,c,hb,hs,hm⟩:=h
 have hlt:=aw_ hb
 have hget:∀(o:Obj),({w with heap:=w.heap.setIfInBounds b o}:World).heap[b]?=some o:=fun o=>by
  simp[hlt]
 have hkeep:∀(o:Obj),ac_ (fun k=>k=b) w {w with heap:=w.heap.setIfInBounds b o}:=fun o=>
  ⟨rfl,rfl,rfl,by simp,fun k _ hn=>by simp[Array.getElem?_setIfInBounds,Ne.symm hn]⟩
 cases hi:gU_ es.toList s 0 with
 | none=>
  have hn:kk_ es.toList s=none:=by unfold kk_;rw[hi];rfl
  refine⟨_,?_,hK {w with heap:=w.heap.setIfInBounds b (.map (es.push {key:=.int .i64 s,val:=v,born:=c}) (c+1))} ⟨_,_,hget _,?_,fun t=>?_⟩ (hkeep _) (by simp)⟩
  ·unfold Instr.mapUpdate
   simp[run_underlying ht,gc_ hb,hl_ _ _ hk,gd_ hk hs,hi,po_ hb]
  ·intro e he
   rw[Array.toList_push,List.mem_append,List.mem_singleton] at he
   rcases he with he|rfl
   ·exact hs e he
   ·exact⟨s,rfl⟩
  ·rw[Array.toList_push,wX_ hs rfl hn]
   unfold vB_
   rw[hm]
 | some p=>
  obtain⟨i,v0⟩:=p
  have hold:∃e0,es[i]?=some e0∧e0.key=.int .i64 s:=zH_ (j:=0) hs (by rw[hi,Nat.zero_add])
  obtain⟨e0,he0,hk0⟩:=hold
  refine⟨_,?_,hK {w with heap:=w.heap.setIfInBounds b (.map (es.modify i fun e=>{e with key:=.int .i64 s,val:=v}) c)} ⟨_,_,hget _,?_,fun t=>?_⟩ (hkeep _) (by simp)⟩
  ·unfold Instr.mapUpdate
   simp[run_underlying ht,gc_ hb,hl_ _ _ hk,gd_ hk hs,hi,po_ hb,he0,hk0,Instr.keyThatStays,Instr.sameBits]
  ·rw[Array.toList_modify];exact tj_ hs
  ·rw[Array.toList_modify,uk_ hs hi]
   unfold vB_
   rw[hm]
end
end Go.Proofs.YtpmebahhjgkflaaGreatDoor.CF
namespace Go.Proofs.YtpmebahhjgkflaaGreatDoor
open Go CF
set_option maxRecDepth 100000
structure Cg where
 kind:Int
 name:ByteArray
 to:ByteArray
 off:Nat
 p:L8
def cgv (x:Cg×Sl):List Value:=[.int .u8 x.1.kind,.string x.1.name,.string x.1.to,.int .i64 (x.1.off:Int),.slice x.2.A x.2.n x.2.c]
theorem u0_ (x:Cg×Sl):(cgv x).length=5:=rfl
structure Wst where
 seen:bD_
 dur:bD_
 waits:List Cg
 ops:Nat
structure Pl where
 mf:Option Nat
 F:Int→Bool
def ld_ (w:World) (pl:Pl):Prop:=match pl.mf with
 | none=>∀n,pl.F n=false
 | some b=>∃m,mo_ w b m∧∀n,(m n).getD (.bool false)=.bool (pl.F n)
def AI_:Pl:=⟨none,fun _=>false⟩
theorem ld_.keep {S:Nat→Prop} {w w':World} {pl:Pl} (h:ld_ w pl) (k:ac_ S w w') (hn:∀b,pl.mf=some b→¬S b):ld_ w' pl:=by
 obtain⟨mf,F⟩:=pl
 cases mf with
 | none=>exact h
 | some b=>
  obtain⟨m,h1,h2⟩:=h
  exact⟨m,h1.keep k (hn b rfl),h2⟩
theorem ld_.map {w:World} {pl:Pl} (h:ld_ w pl) {b:Nat} (hb:pl.mf=some b):∃es c,w.heap[b]?=some (.map es c):=by
 obtain⟨mf,F⟩:=pl
 simp only at hb
 subst hb
 obtain⟨m,⟨es,c,h1,_⟩,_⟩:=h
 exact⟨es,c,h1⟩
def gV_ (mf:Option Nat) (mb md:Nat) (ws:Sl) (ops:Nat):A_:=#[.map (some mb),.map (some md),.slice ws.A ws.n ws.c,.int .i64 (ops:Int),.map mf,.int .i64 (-1),.bool false]
structure du_ (w:World) (pw:Nat) (D:Nat→Prop) (st:Wst) (pl:Pl) (mb md:Nat) (ws:Sl) (cs:List (Cg×Sl)):Prop where
 blk:Blk w pw (gV_ pl.mf mb md ws st.ops) cb_
 seen:IsF w mb st.seen
 dur:IsF w md st.dur
 ne:mb≠md
 own:Own w 0 aY_ 5 ws (cs.flatMap cgv)
 waits:cs.map (·.1)=st.waits
 rows:∀c∈cs,Own w 0 ae_ 1 c.2 (bv c.1.p)
 dw:D pw
 db:D mb
 dd:D md
 ds:∀g,ws.blk=some g→D g
 lt:∀k,D k→k<w.heap.size
 nb:b1_ w D
 plan:ld_ w pl
 dp:∀b,pl.mf=some b→D b
 np:pl.mf≠some mb∧pl.mf≠some md
def aZ_ (w:World) (pw:Nat) (D:Nat→Prop) (st:Wst) (F:Int→Bool):Prop:=∃pl,pl.F=F∧∃mb md ws cs,du_ w pw D st pl mb md ws cs
def dl_:Int→Bool:=fun _=>false
abbrev IsW (w:World) (pw:Nat) (D:Nat→Prop) (st:Wst):Prop:=aZ_ w pw D st dl_
theorem du_.keep {S:Nat→Prop} {w w':World} {pw:Nat} {D:Nat→Prop} {st:Wst} {pl:Pl} {mb md:Nat} {ws:Sl} {cs:List (Cg×Sl)} (h:du_ w pw D st pl mb md ws cs) (k:ac_ S w w') (hd:∀k,D k→¬S k) (hs:b1_ w S) :
  du_ w' pw D st pl mb md ws cs:=by
 have hsz:=k.size
 refine⟨k.heap h.blk (hd _ h.dw),h.seen.keep k (hd _ h.db) hs,h.dur.keep k (hd _ h.dd) hs,h.ne,h.own.keep k fun b hb=>hd _ (h.ds b hb),h.waits,fun c hc=>(h.rows c hc).keep k fun b hb=>?_,h.dw,h.db,h.dd,h.ds,fun k hk=>by have:=h.lt k hk;omega,fun g cur hg q=>?_,h.plan.keep k fun b hb=>hd _ (h.dp b hb),h.dp,h.np⟩
 ·obtain⟨cur,hcur⟩:=aS_ (h.rows c hc) hb
  exact hs b cur hcur
 ·have hlt:=h.lt g q
  have:=k.block g hlt (hd g q)
  exact h.nb g cur (by rw[←this];exact hg) q
theorem IsW.q {w:World} {pw:Nat} {D:Nat→Prop} {st:Wst} (h:IsW w pw D st):aZ_ w pw D st dl_:=h
theorem aZ_.isW {w:World} {pw:Nat} {D:Nat→Prop} {st:Wst} (h:aZ_ w pw D st dl_):IsW w pw D st:=h
theorem aZ_.keep {S:Nat→Prop} {w w':World} {pw:Nat} {D:Nat→Prop} {st:Wst} {F:Int→Bool} (h:aZ_ w pw D st F) (k:ac_ S w w') (hd:∀k,D k→¬S k) (hs:b1_ w S):aZ_ w' pw D st F:=by
 obtain⟨pl,hq,mb,md,ws,cs,h⟩:=h
 exact⟨pl,hq,mb,md,ws,cs,h.keep k hd hs⟩
theorem aZ_.grow {w w':World} {pw:Nat} {D:Nat→Prop} {st:Wst} {F:Int→Bool} (h:aZ_ w pw D st F) (k:ab_ w w'):aZ_ w' pw D st F:=h.keep k (fun _ _ q=>q) (b6_ w)
theorem mP_ {w:World} {R:O_→W_}
  (h:∀pw D w',ab_ w w'→IsW w' pw D ⟨fun _=>none,fun _=>none,[],0⟩→(∀k,D k→w.heap.size≤k)→R (some ⟨pw,0,none⟩) w'):kw_ w R:=by
 refine kA_.calls _ _ ?_
 rintro mb w1 rfl rfl
 rintro md w2 rfl rfl
 refine ag_ fun pw w3 hpw hb3 hg3 hsz3=>?_
 have hg1:=fG_ w (.map #[] 0)
 have hg2:=fG_ (w.alloc (.map #[] 0)) (.map #[] 0)
 have s1:(w.alloc (.map #[] 0)).heap.size=w.heap.size+1:=by simp
 have s2:((w.alloc (.map #[] 0)).alloc (.map #[] 0)).heap.size=w.heap.size+2:=by simp
 have f1:IsF w3 w.heap.size fun _=>none:=((uZ_ w).grow hg2).grow hg3
 have f2:IsF w3 (w.alloc (.map #[] 0)).heap.size fun _=>none:=(uZ_ _).grow hg3
 refine h pw (fun k=>k=pw∨k=w.heap.size∨k=(w.alloc (.map #[] 0)).heap.size) w3 ((hg1.trans hg2).trans hg3) ⟨AI_,rfl,w.heap.size,(w.alloc (.map #[] 0)).heap.size,⟨none,0,0⟩,[],?_⟩ fun k hk=>o_
 refine⟨hb3,f1,f2,o_,aG_ _ _ _ _,rfl,fun c hc=>(by cases hc),.inl rfl,.inr (.inl rfl),.inr (.inr rfl),fun g hg=>(by simp[Sl.blk] at hg),fun k hk=>o_,fun g cur hg q=>?_,fun _=>rfl,fun b hb=>(by cases hb),⟨fun q=>(by cases q),fun q=>(by cases q)⟩⟩
 rcases q with rfl|rfl|rfl
 ·rw[hb3] at hg
  injection hg with hg
  injection hg with _ ht
  exact absurd ht d_
 ·exact cP_ f1 _ _ _ hg
 ·exact cP_ f2 _ _ _ hg
theorem tk_ {P:Program} {w:World} {k:TypeId} {q:IntKind} (ek:Bool) (n:Nat) (hk:P.underlying k=some (.int q)) (z:Int):(Instr.checkKey ek (n+1) k (.int q z)).run P w=.ok () w:=by
 unfold Instr.checkKey
 simp[run_underlying hk]
theorem yk_ (w:World) (n:Int):(Instr.lookup mJ_ (.map none) (.int .i64 n) false).run Tryz.prog w=.ok (.bool false) w:=by
 have hf:(Instr.findKey 3 (.int .i64 n) []).run Tryz.prog w=.ok none w:=by
  unfold Instr.findKey
  simp[run_underlying lF_,Instr.findNow]
 unfold Instr.lookup
 simp[run_underlying jm_,tk_ _ _ lF_,hf,oj_ wV_]
theorem wZ_ {w:World} {pl:Pl} (h:ld_ w pl) (n:Int):(Instr.lookup mJ_ (.map pl.mf) (.int .i64 n) false).run Tryz.prog w=.ok (.bool (pl.F n)) w:=by
 obtain⟨mf,F⟩:=pl
 cases mf with
 | none=>
  have e:F n=false:=h n
  show _=Result.ok (Value.bool (F n)) w
  rw[e];exact yk_ _ _
 | some b=>
  obtain⟨m,h1,h2⟩:=h
  have:=(vC_ (P:=Tryz.prog) jm_ lF_ (oj_ wV_ (w:=w)) h1 n).2
  rw[h2 n] at this
  exact this
theorem pP_ {w:World} {pw:Nat} {D:Nat→Prop} {st:Wst} {pl:Pl} {mb md:Nat} {ws:Sl} {cs:List (Cg×Sl)} {R:Int→W_} (hw:du_ w pw D st pl mb md ws cs) (ho:st.ops<1000000000000)
  (h:∀w',ac_ (fun k=>k=pw) w w'→du_ w' pw D {st with ops:=st.ops+1} pl mb md ws cs→R (if pl.F (st.ops:Int) then 6 else 0) w'):dA_ (some ⟨pw,0,none⟩) w R:=by
 refine fh_.calls _ _ _ ?_
 have hb:=hw.blk
 refine⟨rfl,false,by rw[gA,ao_,hb.cell];rfl,ai_ rfl ⟨rfl,(st.ops:Int),by rw[gA,ao_,hb.cell];rfl,rfl,(st.ops:Int),by rw[gA,ao_,hb.cell];rfl,rfl,?_⟩⟩
 rw[w64 o_ o_]
 rw[gA,ao_]
 refine aU_ hb (by show 3<7;decide) rfl fun w1 hb1 hk1 hsz1=>?_
 have hb1:Blk w1 pw (gV_ pl.mf mb md ws (st.ops+1)) cb_:=hb1
 have fin:du_ w1 pw D {st with ops:=st.ops+1} pl mb md ws cs:=by
  have nbp:b1_ w fun k=>k=pw:=fun g cur hg q=>hw.nb g cur hg (by subst q;exact hw.dw)
  have nm:mb≠pw:=fun q=>cP_ hw.seen _ _ _ (by rw[q];exact hb)
  have nd:md≠pw:=fun q=>cP_ hw.dur _ _ _ (by rw[q];exact hb)
  refine⟨hb1,hw.seen.keep hk1 nm nbp,hw.dur.keep hk1 nd nbp,hw.ne,hw.own.keep hk1 fun b hb2 q=>?_,hw.waits,fun c hc=>(hw.rows c hc).keep hk1 fun b hb2=>?_,hw.dw,hw.db,hw.dd,hw.ds,fun k hk=>by have:=hw.lt k hk;omega,fun g cur hg q=>?_,
   hw.plan.keep hk1 fun b hb2 q=>?_,hw.dp,hw.np⟩
  ·obtain⟨cur,hc⟩:=aS_ hw.own hb2
   subst q
   rw[hb] at hc
   injection hc with hc
   injection hc with _ ht
   exact absurd ht d_
  ·obtain⟨cur,hc2⟩:=aS_ (hw.rows c hc) hb2
   exact nbp b cur hc2
  ·by_cases e:g=pw
   ·subst e
    rw[hb1] at hg
    injection hg with hg
    injection hg with _ ht
    exact absurd ht d_
   ·exact hw.nb g cur (by rw[←hk1.block g (hw.lt g q) e];exact hg) q
  ·subst q
   obtain⟨es,c,hm⟩:=hw.plan.map hb2
   rw[hb] at hm
   cases hm
 refine⟨rfl,-1,by rw[ao_,hb1.cell];rfl,ai_ (by rw[beq_eq_false_iff_ne];omega) ⟨rfl,pl.mf,by rw[ao_,hb1.cell];rfl,pl.F (st.ops:Int),wZ_ fin.plan _,?_⟩⟩
 have:=h w1 hk1 fin
 cases hf:pl.F (st.ops:Int) with
 | false=>rw[hf] at this;exact ai_ rfl this
 | true=>rw[hf] at this;exact al_ rfl this
open Go CF
theorem ar_ {w:World} {b:Nat} {l:List Value} {t:TypeId} (h:Blk w b l.toArray t):bQ_ w ⟨b,0,none⟩ l:=fun j v hj=>by
 rw[ao_,h.cell];simpa using hj
theorem bj_ {w:World} {b:Nat} {cs cs':A_} {t t':TypeId} {f:Nat×Nat} (h:Blk w b cs t) (h':w.heap[b]?=some (.cells cs' t' f)):t=t':=by
 rw[h] at h'
 injection h' with h'
 injection h'
theorem bd_ {w:World} {base:Nat} {e:TypeId} {z:Nat} {s:Sl} {vs:List Value} (h:Own w base e z s vs) {b:Nat} {cs:A_} {t:TypeId} (hb:Blk w b cs t) (hne:t≠e):s.blk≠some b:=fun q=>by
 obtain⟨cur,hc⟩:=aS_ h q
 exact hne (bj_ hb hc)
section
variable {w w':World} {pw:Nat} {D:Nat→Prop} {st:Wst} {pl:Pl} {mb md:Nat} {ws:Sl} {cs:List (Cg×Sl)}
theorem du_.pm (h:du_ w pw D st pl mb md ws cs):mb≠pw∧md≠pw:=⟨fun q=>cP_ h.seen _ _ _ (by rw[q];exact h.blk),fun q=>cP_ h.dur _ _ _ (by rw[q];exact h.blk)⟩
theorem du_.wm (h:du_ w pw D st pl mb md ws cs):ws.blk≠some mb∧ws.blk≠some md∧ws.blk≠some pw:=by
 refine⟨fun q=>?_,fun q=>?_,bd_ h.own h.blk d_⟩
 ·obtain⟨cur,hc⟩:=aS_ h.own q;exact cP_ h.seen _ _ _ hc
 ·obtain⟨cur,hc⟩:=aS_ h.own q;exact cP_ h.dur _ _ _ hc
theorem w0_ {S:Nat→Prop} (h:b1_ w D) (hl:∀k,D k→k<w.heap.size) (k:ac_ S w w') (hs:∀g cur,S g→w'.heap[g]?≠some (.cells cur ae_ (0,0))):b1_ w' D:=fun g cur hg q=>by
 by_cases e:S g
 ·exact hs g cur e hg
 ·exact h g cur (by rw[←k.block g (hl g q) e];exact hg) q
theorem du_.setSeen {F:bD_} (h:du_ w pw D st pl mb md ws cs) (k:ac_ (fun k=>k=mb) w w') (hF:IsF w' mb F):du_ w' pw D {st with seen:=F} pl mb md ws cs:=by
 have hsz:=k.size
 have nb:=jL_ h.seen
 refine⟨k.heap h.blk (fun q=>h.pm.1 q.symm),hF,h.dur.keep k (fun q=>h.ne q.symm) nb,h.ne,h.own.keep k fun b hb q=>h.wm.1 (by rw[hb,q]),h.waits,fun c hc=>(h.rows c hc).keep k fun b hb=>?_,h.dw,h.db,h.dd,h.ds,fun k hk=>(by have:=h.lt k hk;omega),w0_ h.nb h.lt k fun g cur q hg=>?_,h.plan.keep k fun b hb q=>h.np.1 (by rw[hb,q]),h.dp,h.np⟩
 ·obtain⟨cur,hcur⟩:=aS_ (h.rows c hc) hb
  exact nb b cur hcur
 ·subst q;exact cP_ hF _ _ _ hg
theorem du_.setDur {F:bD_} (h:du_ w pw D st pl mb md ws cs) (k:ac_ (fun k=>k=md) w w') (hF:IsF w' md F):du_ w' pw D {st with dur:=F} pl mb md ws cs:=by
 have hsz:=k.size
 have nb:=jL_ h.dur
 refine⟨k.heap h.blk (fun q=>h.pm.2 q.symm),h.seen.keep k (fun q=>h.ne q) nb,hF,h.ne,h.own.keep k fun b hb q=>h.wm.2.1 (by rw[hb,q]),h.waits,fun c hc=>(h.rows c hc).keep k fun b hb=>?_,h.dw,h.db,h.dd,h.ds,fun k hk=>(by have:=h.lt k hk;omega),w0_ h.nb h.lt k fun g cur q hg=>?_,h.plan.keep k fun b hb q=>h.np.2 (by rw[hb,q]),h.dp,h.np⟩
 ·obtain⟨cur,hcur⟩:=aS_ (h.rows c hc) hb
  exact nb b cur hcur
 ·subst q;exact cP_ hF _ _ _ hg
theorem du_.setWaits {w1 w2:World} {ws':Sl} {cs':List (Cg×Sl)} (h:du_ w pw D st pl mb md ws cs) (k:ac_ (fun k=>some k=ws.blk) w w1) (hown:Own w1 0 aY_ 5 ws' (cs'.flatMap cgv)) (hat:ws'.blk=ws.blk∨ws'.blk=some w.heap.size∨ws'.blk=none)
  (hr:∀c∈cs',Own w 0 ae_ 1 c.2 (bv c.1.p)) (hb:Blk w2 pw (gV_ pl.mf mb md ws' st.ops) cb_) (k2:ac_ (fun k=>k=pw) w1 w2) :
  du_ w2 pw (fun k=>((k=pw∨k=mb∨k=md)∨some k=ws'.blk)∨pl.mf=some k) {st with waits:=cs'.map (·.1)} pl mb md ws' cs'∧ac_ D w w2∧∀k,(((k=pw∨k=mb∨k=md)∨some k=ws'.blk)∨pl.mf=some k)→D k∨w.heap.size≤k:=by
 have hsz:=k.size
 have hsz2:=k2.size
 have nb1:b1_ w fun k=>some k=ws.blk:=fun g cur hg q=>h.nb g cur hg (h.ds g q.symm)
 have hb1:Blk w1 pw (gV_ pl.mf mb md ws st.ops) cb_:=k.heap h.blk fun q=>h.wm.2.2 q.symm
 have hwp:ws'.blk≠some pw:=bd_ hown hb1 d_
 have f1:=h.seen.keep k (fun q=>h.wm.1 q.symm) nb1
 have d1:=h.dur.keep k (fun q=>h.wm.2.1 q.symm) nb1
 have nb2:b1_ w1 fun k=>k=pw:=fun g cur hg q=>by
  subst q;exact absurd (bj_ hb1 hg) d_
 have f2:=f1.keep k2 h.pm.1 nb2
 have d2:=d1.keep k2 h.pm.2 nb2
 have o2:Own w2 0 aY_ 5 ws' (cs'.flatMap cgv):=hown.keep k2 fun b hb3 q=>hwp (by rw[hb3,q])
 refine⟨⟨hb,f2,d2,h.ne,o2,rfl,fun c hc=>((hr c hc).keep k fun b hb3=>?_).keep k2 fun b hb3=>?_,.inl (.inl (.inl rfl)),.inl (.inl (.inr (.inl rfl))),.inl (.inl (.inr (.inr rfl))),fun g hg=>.inl (.inr hg.symm),fun j hj=>?_,fun g cur hg q=>?_,(h.plan.keep k fun b hb3 q=>?_).keep k2 fun b hb3 q=>?_,fun b hb3=>.inr hb3,h.np⟩,
  (k.mono fun i _ q=>h.ds i q.symm).trans k2 fun i _ q=>(by subst q;exact h.dw),fun j hj=>?_⟩
 ·obtain⟨cur,hcur⟩:=aS_ (hr c hc) hb3
  exact nb1 b cur hcur
 ·have hc1:Own w1 0 ae_ 1 c.2 (bv c.1.p):=(hr c hc).keep k fun b hb4=>by
   obtain⟨cur,hcur⟩:=aS_ (hr c hc) hb4
   exact nb1 b cur hcur
  obtain⟨cur,hcur⟩:=aS_ hc1 hb3
  exact nb2 b cur hcur
 ·rcases hj with((q|q|q)|q)|q
  ·have:=aw_ h.blk;omega
  ·have:=ql_ f2;omega
  ·have:=ql_ d2;omega
  ·have:=(hown.ge j q.symm).2;omega
  ·obtain⟨es,c,hm⟩:=h.plan.map q
   have:=aw_ hm;omega
 ·rcases q with((q|q|q)|q)|q
  ·subst q;exact absurd (bj_ hb hg) d_
  ·subst q;exact cP_ f2 _ _ _ hg
  ·subst q;exact cP_ d2 _ _ _ hg
  ·obtain⟨cur',hc'⟩:=aS_ o2 q.symm
   rw[hc'] at hg
   injection hg with hg
   injection hg with _ ht
   exact absurd ht d_
  ·obtain⟨es,c,hm⟩:=h.plan.map q
   have hg2:w2.heap[g]?=w.heap[g]?:=by
    have hlt:=aw_ hm
    rw[k2.block g o_ (fun e=>by subst e;rw[h.blk] at hm;cases hm),k.block g hlt (fun e=>by
     obtain⟨cur',hc'⟩:=aS_ h.own e.symm
     rw[hc'] at hm;cases hm)]
   rw[hg2,hm] at hg
   cases hg
 ·obtain⟨es,c,hm⟩:=h.plan.map hb3
  obtain⟨cur',hc'⟩:=aS_ h.own q.symm
  rw[hc'] at hm;cases hm
 ·obtain⟨es,c,hm⟩:=h.plan.map hb3
  subst q
  rw[h.blk] at hm;cases hm
 ·rcases hj with((q|q|q)|q)|q
  ·exact .inl (q▸h.dw)
  ·exact .inl (q▸h.db)
  ·exact .inl (q▸h.dd)
  ·rcases hat with r|r|r
   ·exact .inl (h.ds j (by rw[←r];exact q.symm))
   ·rw[r] at q;injection q with q;exact .inr o_
   ·rw[r] at q;cases q
  ·exact .inl (h.dp j q)
end
theorem tl_ (l:List (Cg×Sl)):(l.flatMap cgv).length=l.length*5:=bv_ u0_ l
theorem yl_ {w:World} {pw:Nat} {D:Nat→Prop} {st:Wst} {F:Int→Bool} {name:ByteArray} {off:Nat} {p:Sl} {bs:L8} {R:Int→W_} (hw:aZ_ w pw D st F) (hp:Own w 0 ae_ 1 p (bv bs)) (hb:off+bs.length≤1048576)
  (ho:st.ops<1000000000000) (hn:st.waits.length<1000000000)
  (h:F (st.ops:Int)=false→∀w' D',ac_ D w w'→aZ_ w' pw D' ⟨fs_ st.seen name off bs,st.dur,st.waits++[⟨119,name,⟨#[]⟩,off,bs⟩],st.ops+1⟩ F→(∀k,D' k→D k∨w.heap.size≤k)→R 0 w')
  (hbad:F (st.ops:Int)=true→∀w',ac_ D w w'→aZ_ w' pw D {st with ops:=st.ops+1} F→R 6 w') :
  iH_ (some ⟨pw,0,none⟩) #[.int .u8 119,.string name,.string ⟨#[]⟩,.int .i64 (off:Int),.slice p.A p.n p.c] w R:=by
 obtain⟨pl,hF,mb,md,ws,cs,hw⟩:=hw
 subst hF
 refine gz_.calls _ _ _ _ ?_
 generalize hx:((⟨119,name,⟨#[]⟩,off,bs⟩,p):Cg×Sl)=x
 have hxv:(#[.int .u8 119,.string name,.string ⟨#[]⟩,.int .i64 (off:Int),.slice p.A p.n p.c]:A_)=(cgv x).toArray:=by subst hx;rfl
 refine ag_ fun cb w0 hcb hb0 hg0 hsz0=>?_
 rw[hxv] at hb0
 have hb0:Blk w0 cb (cgv x).toArray aY_:=hb0
 have hw0:=hw.keep hg0 (fun _ _ q=>q) (b6_ w)
 refine pP_ hw0 ho fun w1 hk1 hw1=>?_
 cases hfl:pl.F (st.ops:Int) with
 | true=>exact al_ rfl (hbad hfl w1 ((hg0.mono (S':=D) fun _ _ q=>q.elim).trans hk1 fun _ _ q=>(by subst q;exact hw.dw)) ⟨pl,rfl,mb,md,ws,cs,hw1⟩)
 | false=>
 refine ai_ rfl ?_
 have hcp:cb≠pw:=fun q=>by have:=aw_ hw.blk;omega
 have hb1:=hk1.heap hb0 hcp
 rintro w2 rfl
 have hg2:ab_ w1 w1.drew:=am_ w1
 have hw2:=hw1.keep hg2 (fun _ _ q=>q) (b6_ w1)
 have hb2:=hg2.heap hb1 (fun q=>q)
 have c4:∀{u:World},Blk u cb (cgv x).toArray aY_→u.cell? ((⟨cb,0,none⟩:Addr).add 4)=some (.slice p.A p.n p.c):=fun q=>by subst hx;rw[ao_,q.cell];rfl
 have lv:∀{u:World},Blk u cb (cgv x).toArray aY_→(loadVar aY_ ⟨cb,0,none⟩).run Tryz.prog u=.ok (.agg (cgv x).toArray) u:=fun q=>aD_ mK_ hd_ rfl (ar_ q)
 have hpn:bs.length=p.n:=by have:=hp.len;rw[ax_] at this;omega
 have hp0:Own w0 0 ae_ 1 p (bv bs):=hp.grow hg0
 have nbp:∀{u:World} {st':Wst} {ws':Sl} {cs':List (Cg×Sl)} {D':Nat→Prop},du_ u pw D' st' pl mb md ws' cs'→b1_ u fun k=>k=pw:=fun q g cur hg e=>by subst e;exact absurd (bj_ q.blk hg) d_
 have okeep:∀{u u':World} {S:Nat→Prop},Own u 0 ae_ 1 p (bv bs)→ac_ S u u'→b1_ u S→Own u' 0 ae_ 1 p (bv bs):=fun q k nb=>q.keep k fun b hb3=>by
  obtain⟨cur,hc⟩:=aS_ q hb3
  exact nb b cur hc
 have hp2:Own w1.drew 0 ae_ 1 p (bv bs):=(okeep hp0 hk1 (nbp hw0)).grow hg2
 refine⟨fun u=>Blk u pw (gV_ pl.mf mb md ws (st.ops+1)) cb_∧Blk u cb (cgv x).toArray aY_,⟨hw2.blk,hb2⟩,rfl,some mb,fun u hu=>by rw[gA,ao_,hu.1.cell];rfl,(cgv x).toArray,fun u hu=>lv hu.2,p,fun u hu=>c4 hu.2,?_⟩
 rw[←hxv]
 refine ok_ hw2.seen (hp2.rd o_) hb fun w3 hk3 hF3=>?_
 have hw3:=hw2.setSeen hk3 hF3
 rw[List.take_of_length_le o_] at hw3 hF3
 have hb3:Blk w3 cb (cgv x).toArray aY_:=hk3.heap hb2 fun q=>cP_ hw2.seen _ _ _ (by rw[←q];exact hb2)
 have hp3:=okeep hp2 hk3 (jL_ hw2.seen)
 rintro w4 rfl
 have hg4:ab_ w3 w3.drew:=am_ w3
 have hw4:=hw3.keep hg4 (fun _ _ q=>q) (b6_ w3)
 have hb4:=hg4.heap hb3 (fun q=>q)
 have hlen:cs.length=st.waits.length:=by rw[←hw.waits,List.length_map]
 have hwn:ws.n=cs.length:=by have:=hw.own.len;rw[tl_] at this;omega
 refine⟨fun u=>Blk u pw (gV_ pl.mf mb md ws (st.ops+1)) cb_∧Blk u cb (cgv x).toArray aY_,⟨hw4.blk,hb4⟩,rfl,ws,fun u hu=>by rw[gA,ao_,hu.1.cell];rfl,(cgv x).toArray,fun u hu=>lv hu.2,?_⟩
 refine aJ_ (cells:=(cgv x).toArray) (e:=aY_) (z:=5) (base:=0) (by subst hx;kernel_rfl) rfl d_ (Nat.zero_le _) fun w5 hlit5 hg5 _=>⟨⟨hg5.heap hw4.blk (fun q=>q),hg5.heap hb4 (fun q=>q)⟩,?_⟩
 have hw5:=hw4.keep hg5 (fun _ _ q=>q) (b6_ _)
 refine aN_ pf_ hd_ rfl d_ d_ hw5.own (hlit5.rd (by show 1≤_;decide)) (by subst hx;simp[cgv,Value.oneCell']) (by show(ws.n+1)*72≤_;omega) (Nat.zero_le _) fun ws' w6 hn6 hown6 hk6 hat6=>?_
 have hb6:Blk w6 pw (gV_ pl.mf mb md ws (st.ops+1)) cb_:=hk6.heap hw5.blk fun q=>hw5.wm.2.2 q.symm
 refine⟨rfl,?_⟩
 rw[gA,ao_]
 refine aU_ hb6 (by show 2<7;decide) rfl fun w7 hb7 hk7 hsz7=>?_
 have hrows:∀c∈cs++[x],Own w5 0 ae_ 1 c.2 (bv c.1.p):=fun c hc=>by
  rcases List.mem_append.1 hc with q|q
  ·exact hw5.rows c q
  ·rw[List.mem_singleton.1 q];subst hx;exact(hp3.grow hg4).grow hg5
 have hown6':Own w6 0 aY_ 5 ws' ((cs++[x]).flatMap cgv):=by
  rw[List.flatMap_append]
  simpa using hown6
 have hfin:=hw5.setWaits (w1:=w6) (w2:=w7) (ws':=ws') (cs':=cs++[x]) hk6 hown6' (hat6.imp id .inl) hrows hb7 hk7
 have hKD:ac_ D w w7:=by
  have k1:ac_ D w w1.drew:=((hg0.mono (S':=D) fun _ _ q=>q.elim).trans hk1 fun _ _ q=>(by subst q;exact hw.dw)).trans hg2 fun _ _ q=>q.elim
  have k2:ac_ D w w5:=((k1.trans hk3 fun _ _ q=>(by subst q;exact hw.db)).trans hg4 fun _ _ q=>q.elim).trans hg5 fun _ _ q=>q.elim
  exact k2.trans hfin.2.1 fun _ _ q=>q
 refine h hfl w7 (fun k=>((k=pw∨k=mb∨k=md)∨some k=ws'.blk)∨pl.mf=some k) hKD ⟨pl,rfl,mb,md,ws',cs++[x],?_⟩ fun k hk=>?_
 ·have:=hfin.1
  rw[List.map_append,hw.waits] at this
  subst hx
  exact this
 ·rcases hfin.2.2 k hk with q|q
  ·exact .inl q
  ·have h1:=hg0.size
   have h2:=hk1.size
   have h3:=hg2.size
   have h4:=hk3.size
   have h5:=hg4.size
   have h6:=hg5.size
   exact .inr o_
open Go CF
def nw_ (w:World) (S:Nat→Prop) (B:Nat):Prop:=∀g cur,w.heap[g]?=some (.cells cur ae_ (0,0))→S g→B≤g
theorem b1_.b {w:World} {S:Nat→Prop} (h:b1_ w S) (B:Nat):nw_ w S B:=fun g cur hg q=>absurd q (h g cur hg)
def mQ_ (w:World) (B:Nat) (v:Option Value) (l:Option L8):Prop:=lc_ w v l∧∀s:Sl,v=some (.slice s.A s.n s.c)→∀b,s.blk=some b→b<B
theorem mQ_.keep {S:Nat→Prop} {w w':World} {B:Nat} {v:Option Value} {l:Option L8} (h:mQ_ w B v l) (k:ac_ S w w') (hn:nw_ w S B):mQ_ w' B v l:=by
 refine⟨?_,h.2⟩
 cases l with
 | none=>exact h.1
 | some l=>
  obtain⟨⟨s,h1,h2,h3⟩,hB⟩:=h
  refine⟨s,h1,h2.keep k fun b hb q=>?_,h3⟩
  obtain⟨cur,hc⟩:=aS_ h2 hb
  have:=hn b cur hc q
  have:=hB s h1 b hb
  omega
theorem lc_.toB {w:World} {v:Option Value} {l:Option L8} (h:lc_ w v l):mQ_ w w.heap.size v l:=by
 refine⟨h,fun s hs b hb=>?_⟩
 cases l with
 | none=>rw[show v=none from h] at hs;cases hs
 | some l=>
  obtain⟨s',h1,h2,_⟩:=h
  rw[h1] at hs
  injection hs with hs
  injection hs with hA hn hc
  have:s'.blk=some b:=by rw[←hb];simp[Sl.blk,hA]
  obtain⟨cur,hc⟩:=aS_ h2 this
  exact aw_ hc
def ol_ (w:World) (mb:Nat) (F:bD_) (B:Nat):Prop:=∃m,nd_ w mb m∧∀s,mQ_ w B (m s) (F s)
theorem ol_.keep {S:Nat→Prop} {w w':World} {mb B:Nat} {F:bD_} (h:ol_ w mb F B) (k:ac_ S w w') (hm:¬S mb) (hn:nw_ w S B):ol_ w' mb F B:=by
 obtain⟨m,h1,h2⟩:=h
 exact⟨m,h1.keep k hm,fun s=>(h2 s).keep k hn⟩
theorem ol_.isF {w:World} {mb B:Nat} {F:bD_} (h:ol_ w mb F B):IsF w mb F:=by
 obtain⟨m,h1,h2⟩:=h
 exact⟨m,h1,fun s=>(h2 s).1⟩
theorem IsF.toB {w:World} {mb:Nat} {F:bD_} (h:IsF w mb F):ol_ w mb F w.heap.size:=by
 obtain⟨m,h1,h2⟩:=h
 exact⟨m,h1,fun s=>(h2 s).toB⟩
def iW_ (w:World) (pw:Nat) (D:Nat→Prop) (st:Wst) (F:Int→Bool) (B:Nat):Prop:=∃pl,pl.F=F∧∃mb md ws cs,du_ w pw D st pl mb md ws cs∧ol_ w mb st.seen B∧ol_ w md st.dur B∧∀c∈cs,∀b,c.2.blk=some b→b<B
section
variable {w u v:World} {pw B:Nat} {D S:Nat→Prop} {st:Wst} {F:Int→Bool} {k:Nat}
theorem iW_.isWq (h:iW_ w pw D st F B):aZ_ w pw D st F:=by
 obtain⟨pl,hF,mb,md,ws,cs,h,_⟩:=h
 exact⟨pl,hF,mb,md,ws,cs,h⟩
theorem aZ_.toB (h:aZ_ w pw D st F):iW_ w pw D st F w.heap.size:=by
 obtain⟨pl,hF,mb,md,ws,cs,h⟩:=h
 refine⟨pl,hF,mb,md,ws,cs,h,h.seen.toB,h.dur.toB,fun c hc b hb=>?_⟩
 obtain⟨cur,hcur⟩:=aS_ (h.rows c hc) hb
 exact aw_ hcur
theorem iW_.keep (h:iW_ w pw D st F B) (k:ac_ S w u) (hd:∀k,D k→¬S k) (hs:nw_ w S B):iW_ u pw D st F B:=by
 obtain⟨pl,hF,mb,md,ws,cs,h,f1,f2,f3⟩:=h
 have hsz:=k.size
 have g1:=f1.keep k (hd _ h.db) hs
 have g2:=f2.keep k (hd _ h.dd) hs
 refine⟨pl,hF,mb,md,ws,cs,⟨k.heap h.blk (hd _ h.dw),g1.isF,g2.isF,h.ne,h.own.keep k fun b hb=>hd _ (h.ds b hb),h.waits,fun c hc=>(h.rows c hc).keep k fun b hb q=>?_,h.dw,h.db,h.dd,h.ds,fun k hk=>by have:=h.lt k hk;omega,fun g cur hg q=>?_,
  h.plan.keep k fun b hb=>hd _ (h.dp b hb),h.dp,h.np⟩,g1,g2,f3⟩
 ·obtain⟨cur,hcur⟩:=aS_ (h.rows c hc) hb
  have:=hs b cur hcur q
  have:=f3 c hc b hb
  omega
 ·have hlt:=h.lt g q
  have:=k.block g hlt (hd g q)
  exact h.nb g cur (by rw[←this];exact hg) q
theorem iW_.grow (h:iW_ w pw D st F B) (k:ab_ w u):iW_ u pw D st F B:=h.keep k (fun _ _ q=>q) ((b6_ w).b B)
def RdW (w u:World) (pw:Nat) (D:Nat→Prop) (st:Wst) (k:Nat):Prop:=∀F B,iW_ w pw D st F B→iW_ u pw D {st with ops:=st.ops+k} F B
theorem RdW.isWq (h:RdW w u pw D st k) (hw:aZ_ w pw D st F):aZ_ u pw D {st with ops:=st.ops+k} F:=(h _ _ hw.toB).isWq
theorem RdW.isW (h:RdW w u pw D st k) (hw:IsW w pw D st):IsW u pw D {st with ops:=st.ops+k}:=(h.isWq hw.q).isW
theorem RdW.refl (w:World) (pw:Nat) (D:Nat→Prop) (st:Wst):RdW w w pw D st 0:=fun _ _ h=>h
theorem RdW.grow (h:RdW w u pw D st k) (g:ab_ u v):RdW w v pw D st k:=fun F B hB=>(h F B hB).grow g
theorem RdW.pre (h:RdW u v pw D st k) (g:ab_ w u):RdW w v pw D st k:=fun F B hB=>h F B (hB.grow g)
theorem RdW.keep (h:RdW w u pw D st k) (g:ac_ S u v) (hd:∀k,D k→¬S k) (hs:b1_ u S):RdW w v pw D st k:=fun F B hB=>(h F B hB).keep g hd (hs.b B)
theorem RdW.trans {j:Nat} (h:RdW w u pw D st k) (g:RdW u v pw D {st with ops:=st.ops+k} j):RdW w v pw D st (k+j):=fun F B hB=>by
 have:=g F B (h F B hB)
 rw[←Nat.add_assoc];exact this
theorem ym_ {pl:Pl} {mb md:Nat} {ws:Sl} {cs:List (Cg×Sl)} (hw:du_ w pw D st pl mb md ws cs) (hk:ac_ (fun k=>k=pw) w u) (hw1:du_ u pw D {st with ops:=st.ops+1} pl mb md ws cs):RdW w u pw D st 1:=fun F B hB=>by
 obtain⟨pl',hF,mb',md',ws',cs',h,f1,f2,f3⟩:=hB
 have nbp:b1_ w fun k=>k=pw:=fun g cur hg q=>hw.nb g cur hg (by subst q;exact hw.dw)
 have e:=h.blk.symm.trans hw.blk
 injection e with e
 injection e with e
 have e:=congrArg Array.toList e
 simp only[gV_,List.cons.injEq,Value.map.injEq,Option.some.injEq,Value.slice.injEq,true_and,and_true] at e
 obtain⟨rfl,rfl,⟨eA,en,ec⟩,em⟩:=e
 obtain⟨A,n,c⟩:=ws
 obtain⟨A',n',c'⟩:=ws'
 dsimp only at eA en ec
 subst eA en ec
 have nm:mb'≠pw:=fun q=>cP_ hw.seen _ _ _ (by rw[q];exact hw.blk)
 have nd:md'≠pw:=fun q=>cP_ hw.dur _ _ _ (by rw[q];exact hw.blk)
 refine⟨pl',hF,mb',md',_,cs',⟨by rw[em];exact hw1.blk,hw1.seen,hw1.dur,hw1.ne,h.own.keep hk fun b hb2 q=>?_,h.waits,fun c hc=>(h.rows c hc).keep hk fun b hb2=>?_,hw1.dw,hw1.db,hw1.dd,h.ds,hw1.lt,hw1.nb,h.plan.keep hk fun b hb2 q=>?_,h.dp,h.np⟩,f1.keep hk nm (nbp.b B),f2.keep hk nd (nbp.b B),f3⟩
 ·obtain⟨cur,hc⟩:=aS_ h.own hb2
  subst q
  exact absurd (bj_ hw.blk hc) d_
 ·obtain⟨cur,hc2⟩:=aS_ (h.rows c hc) hb2
  exact nbp b cur hc2
 ·obtain⟨es,c,hm⟩:=h.plan.map hb2
  subst q
  rw[h.blk] at hm;cases hm
end
open Go CF
theorem cg_ (l:L8):∀u∈bv l,u.oneCell'=true:=by
 intro u hu
 simp only[bv,List.mem_map] at hu
 obtain⟨p,_,rfl⟩:=hu;rfl
theorem rM_ {s:ByteArray} {w:World} {R:Bool→W_} (h:R (decide (1≤s.size∧s.size≤32)) w):jx_ s w R:=by
 refine hE_.calls _ _ _ ?_
 have e:((decide ((s.size:Int)≥1))&&(decide ((s.size:Int)≤32)))=decide (1≤s.size∧s.size≤32):=by
  rw[Bool.eq_iff_iff,Bool.and_eq_true,decide_eq_true_eq,decide_eq_true_eq,decide_eq_true_eq]
  omega
 unfold hE_
 rw[e]
 exact h
theorem lV_ {w:World} {pw:Nat} {D:Nat→Prop} {st:Wst} {F:Int→Bool} {file:ByteArray} {off:Nat} {p:Sl} {bs:L8} {R:Int→W_} (hw:aZ_ w pw D st F) (hs:1≤file.size∧file.size≤32) (hp:Rd w 1 p (bv bs)) (hb:off+bs.length≤1048576)
  (ho:st.ops<1000000000000) (hn:st.waits.length<1000000000)
  (h:F (st.ops:Int)=false→∀w' D',ac_ D w w'→aZ_ w' pw D' ⟨fs_ st.seen file off bs,st.dur,st.waits++[⟨119,file,⟨#[]⟩,off,bs⟩],st.ops+1⟩ F→(∀k,D' k→D k∨w.heap.size≤k)→R 0 w')
  (hbad:F (st.ops:Int)=true→∀w',ac_ D w w'→aZ_ w' pw D {st with ops:=st.ops+1} F→R 6 w') :
  eh_ (some ⟨pw,0,none⟩) file (off:Int) p w R:=by
 refine eu_.calls _ _ _ _ _ _ ?_
 have hpn:bs.length=p.n:=by have:=hp.len;rw[ax_] at this;omega
 refine rM_ ?_
 rw[decide_eq_true hs]
 refine ai_ (by rw[Bool.or_eq_false_iff,decide_eq_false_iff_not];exact⟨rfl,o_⟩) ?_
 have hwp:IntKind.wrap .i64 (1048576-(off:Int))=1048576-(off:Int):=w64 o_ o_
 refine ai_ (by rw[Bool.or_eq_false_iff,decide_eq_false_iff_not,decide_eq_false_iff_not,hwp];omega) (ai_ rfl ?_)
 refine aN_ (s:=⟨none,0,0⟩) (vs:=[]) (base:=0) aE_ a6_ rfl d_ d_ (aG_ _ _ _ _) hp (cg_ _) (by show(0+p.n)*1≤_;omega) (Nat.zero_le _) fun s1 w1 hn1 hown1 hk1 _=>?_
 have hg1:ab_ w w1:=hk1.mono fun i hi q=>by cases q
 rw[List.nil_append] at hown1
 have hsz:=hg1.size
 refine yl_ (hw.grow hg1) hown1 hb ho hn (fun hf w2 D' hk2 hw2 hD=>h hf w2 D' ((hg1.mono fun _ _ q=>q.elim).trans hk2 fun _ _ q=>q) hw2 fun k hk=>?_) (fun hf w2 hk2 hw2=>hbad hf w2 ((hg1.mono fun _ _ q=>q.elim).trans hk2 fun _ _ q=>q) hw2)
 rcases hD k hk with q|q
 ·exact .inl q
 ·exact .inr o_
theorem iX_ {w:World} {pw:Nat} {D:Nat→Prop} {st:Wst} {F:Int→Bool} {file:ByteArray} {off n:Nat} {R:Sl→Int→W_} (hw:aZ_ w pw D st F) (hs:1≤file.size∧file.size≤32) (hb:off≤1000000000) (hb2:n≤1000000000)
  (ho:st.ops<1000000000000)
  (h:F (st.ops:Int)=false→∀s w',ac_ D w w'→RdW w w' pw D st 1→Own w' w.heap.size ae_ 1 s (bv ((((st.seen file).getD []).drop off).take n))→s.n≤1048576→R s (if (st.seen file).isSome then 0 else 8) w')
  (hbad:F (st.ops:Int)=true→∀w',ac_ D w w'→RdW w w' pw D st 1→R ⟨none,0,0⟩ 6 w') :
  cN_ (some ⟨pw,0,none⟩) file (off:Int) (n:Int) w R:=by
 obtain⟨pl,hF,mb,md,ws,cs,hw⟩:=hw
 subst hF
 refine fa_.calls _ _ _ _ _ _ ?_
 refine rM_ ?_
 rw[decide_eq_true hs]
 refine ai_ (by rw[Bool.or_eq_false_iff,Bool.or_eq_false_iff,decide_eq_false_iff_not,decide_eq_false_iff_not];exact⟨⟨rfl,o_⟩,o_⟩) (ai_ rfl ⟨rfl,some mb,by rw[gA,ao_,hw.blk.cell];rfl,?_⟩)
 obtain⟨r,hlk,_,hown,hr2,hol⟩:=rL_ hw.seen file
 refine⟨r,hlk,?_⟩
 refine pP_ hw ho fun w1 hk1 hw1=>?_
 have hkD:ac_ D w w1:=hk1.mono fun _ _ q=>by subst q;exact hw.dw
 have hw1':RdW w w1 pw D st 1:=ym_ hw hk1 hw1
 have hsz:=hk1.size
 cases hfl:pl.F (st.ops:Int) with
 | true=>exact al_ rfl (hbad hfl w1 hkD hw1')
 | false=>
 have h:=h hfl
 refine ai_ rfl ?_
 cases hF:st.seen file with
 | none=>
  rw[hF] at hr2
  refine al_ (by rw[hr2];rfl) ?_
  have:=h ⟨none,0,0⟩ w1 hkD hw1'
  rw[hF] at this
  exact this (by simp only[Option.getD_none,List.drop_nil,List.take_nil];exact aG_ _ _ _ _) (Nat.zero_le _)
 | some l=>
  rw[hF] at hr2 hown hol h
  simp only[Option.getD_some,Option.isSome_some,if_true] at hr2 hown hol h
  refine ai_ (by rw[hr2];rfl) ?_
  have hln:l.length=r.1.n:=by have:=hown.len;rw[ax_] at this;omega
  have hown1:Own w1 0 ae_ 1 r.1 (bv l):=hown.keep hk1 fun b hb3 q=>by
   obtain⟨cur,hc⟩:=aS_ hown hb3
   subst q
   exact absurd (bj_ hw.blk hc) d_
  refine a8_ (fun hge=>?_) (fun hlt=>?_)
  ·have:=h ⟨none,0,0⟩ w1 hkD hw1'
   rw[List.drop_of_length_le o_,List.take_nil] at this
   exact this (aG_ w1 w.heap.size ae_ 1) (Nat.zero_le _)
  ·have hrd:=hown1.rd o_
   have hcap:=hrd.cap
   have e1:IntKind.wrap .i64 ((r.1.n:Int)-(off:Int))=((r.1.n-off:Nat):Int):=by rw[w64 o_ o_];omega
   have e2:IntKind.wrap .i64 ((off:Int)+(mn (n:Int) (IntKind.wrap .i64 ((r.1.n:Int)-(off:Int)))))=((off+min n (r.1.n-off):Nat):Int):=by
    rw[e1,wW_,w64 o_ o_];omega
   rw[e2]
   refine⟨⟨o_,o_,o_,hcap⟩,?_⟩
   simp only[Int.toNat_natCast]
   have hx:=hrd.cutB (l:=off) (k:=off+min n (r.1.n-off)) o_ o_
   refine aN_ (s:=⟨none,0,0⟩) (vs:=[]) (base:=w.heap.size) aE_ a6_ rfl d_ d_ (aG_ _ _ _ _) hx (cg_ _) (by show(0+(off+min n (r.1.n-off)-off))*1≤_;omega) hsz fun s2 w2 hn2 hown2 hk2 _=>?_
   have hg2:ab_ w1 w2:=hk2.mono fun i hi q=>by cases q
   rw[List.nil_append] at hown2
   have e3:(l.drop off).take (off+min n (r.1.n-off)-off)=(l.drop off).take n:=by
    rw[show off+min n (r.1.n-off)-off=min n (l.drop off).length by rw[List.length_drop];omega]
    rcases Nat.le_total n (l.drop off).length with q|q
    ·rw[Nat.min_eq_left q]
    ·rw[Nat.min_eq_right q,List.take_length,List.take_of_length_le q]
   rw[e3] at hown2
   refine h s2 w2 (hkD.grow hg2) (hw1'.grow hg2) hown2 ?_
   have:s2.n=0+(off+min n (r.1.n-off)-off):=hn2
   omega
theorem pQ_ {w:World} {pw:Nat} {D:Nat→Prop} {st:Wst} {file:ByteArray} {off n:Nat} {R:Sl→Int→W_} (hw:IsW w pw D st) (hs:1≤file.size∧file.size≤32) (hb:off≤1000000000) (hb2:n≤1000000000)
  (ho:st.ops<1000000000000)
  (h:∀s w',ac_ D w w'→RdW w w' pw D st 1→Own w' w.heap.size ae_ 1 s (bv ((((st.seen file).getD []).drop off).take n))→s.n≤1048576→R s (if (st.seen file).isSome then 0 else 8) w') :
  cN_ (some ⟨pw,0,none⟩) file (off:Int) (n:Int) w R:=
 iX_ hw.q hs hb hb2 ho (fun _ s w' k r=>h s w' k r) (fun q=>by cases q)
theorem qm_ {w:World} {pw:Nat} {D:Nat→Prop} {st:Wst} {file:ByteArray} {off n:Nat} {R:Sl→Int→W_} (hw:IsW w pw D st) (hs:1≤file.size∧file.size≤32) (hb:off≤1000000000) (hb2:n≤1000000000)
  (ho:st.ops<1000000000000)
  (h:∀s w',ac_ D w w'→IsW w' pw D {st with ops:=st.ops+1}→Own w' w.heap.size ae_ 1 s (bv ((((st.seen file).getD []).drop off).take n))→s.n≤1048576→R s (if (st.seen file).isSome then 0 else 8) w') :
  cN_ (some ⟨pw,0,none⟩) file (off:Int) (n:Int) w R:=pQ_ hw hs hb hb2 ho fun s w' k r=>h s w' k (r.isW hw)
end Go.Proofs.YtpmebahhjgkflaaGreatDoor
namespace Go.Proofs.YtpmebahhjgkflaaGreatDoor.CF
open Go Go.RowKit
set_option maxRecDepth 100000
section
variable {H:Type} {enc:TypeId×Value→H} {P:Program} {w:World} {base:Nat} {spare:Nat→Bool} {held:Bool}
def Bc_ (P:Program) (t:TypeId) (d:DataW H):Prop:=∀m∈d.weights P t,m≤reachBytes
def gA_ (enc:TypeId×Value→H) (P:Program) (w:World) (base:Nat) (spare:Nat→Bool) (held:Bool) (t:TypeId) (Φ:List Value→Prop):Prop:=
 ∀n cs x,DataW.trod enc P w base spare held n t cs=some x→Bc_ P t x.1→Φ cs
theorem mR_ {e:TypeId}:∀{ds:List (DataW H)} {d:DataW H},d∈ds→∀m∈d.weights P e,m∈DataW.weightsAll P e ds
 | d0::ds,d,hd,m,hm=>by
  simp only[DataW.weightsAll,List.mem_append]
  rcases List.mem_cons.1 hd with rfl|h
  ·exact .inl hm
  ·exact .inr (mR_ h m hm)
theorem yn_ {a:Addr} {n:Nat} {vs:List Value} (h:w.cells? base a n=some vs):vs.length=n∧bQ_ w a vs:=by
 unfold World.cells? at h
 split at h
 ·have hl:=mapM_some_length h
  simp at hl
  refine⟨hl,fun j v hj=>?_⟩
  have hjn:j<n:=by have:=(List.getElem?_eq_some_iff.1 hj).1;omega
  have:=mapM_some_get h j j (by simp[hjn])
  rw[this,hj]
 ·cases h
theorem vD_ {t:TypeId} (ht:P.underlying t=some .bool):gA_ enc P w base spare held t fun cs=>∃b,cs = [.bool b]:=fun _ _ _ h _=>by
 obtain⟨b,hb,_⟩:=DataW.trod_bool ht h;exact⟨b,hb⟩
theorem j8_ {t:TypeId} {k:IntKind} (ht:P.underlying t=some (.int k)):gA_ enc P w base spare held t fun cs=>∃n,cs = [.int k n]∧(Lit.int k n).wf=true:=fun _ _ _ h _=>by
 obtain⟨n,hn,_,hw⟩:=DataW.trod_int ht h;exact⟨n,hn,hw⟩
theorem yo_ {t:TypeId} (ht:P.underlying t=some (.int .u8)):gA_ enc P w base spare held t fun cs=>∃b:UInt8,cs = [.int .u8 (b.toNat:Int)]:=fun n cs x h hl=>by
 obtain⟨z,hz,hw⟩:=j8_ ht n cs x h hl
 simp[Lit.wf,IntKind.min,IntKind.max,IntKind.signed,IntKind.bits] at hw
 refine⟨UInt8.ofNat z.toNat,?_⟩
 rw[hz]
 congr 2
 rw[UInt8.toNat_ofNat']
 omega
theorem tm_ {t:TypeId} {fs:Array Field} (ht:P.underlying t=some (.struct fs)) {Φ:List (List Value→Prop)}
  (hl:fs.size=Φ.length) (hf:∀(i:Nat) (f:Field) (φ:List Value→Prop),fs[i]?=some f→Φ[i]?=some φ→gA_ enc P w base spare held f.type φ) :
  gA_ enc P w base spare held t fun cs=>cs.length=P.cellsOf t∧∀(i:Nat) (f:Field) (φ:List Value→Prop),fs[i]?=some f→Φ[i]?=some φ→φ ((cs.drop f.offset).take (P.cellsOf f.type)):=fun n cs x h hw=>by
 obtain⟨xs,n',_,hx,hcl,hxl,heach⟩:=DataW.trod_struct ht h
 refine⟨hcl,fun i f φ hfi hφ=>?_⟩
 have hi:i<xs.length:=by rw[hxl];exact(Array.getElem?_eq_some_iff.1 hfi).1
 have he:=heach i f hfi
 rw[List.getElem?_eq_getElem hi] at he
 refine hf i f φ hfi hφ n' _ _ he fun m hm=>hw m ?_
 rw[hx]
 show m∈DataW.weights P t (.agg (xs.map (·.1)))
 rw[DataW.weights,ht]
 refine DataW.weights_mem_each (j:=i) (t:=f.type) (d:=xs[i].1) ?_ ?_ m hm
 ·rw[List.getElem?_map,←Array.getElem?_toList] at *;rw[hfi];rfl
 ·rw[List.getElem?_map,List.getElem?_eq_getElem hi];rfl
theorem pp_ {α:Type} {Q:Nat→α→Prop}:∀(n:Nat),(∀i,i<n→∃a,Q i a)→∃al:List α,al.length=n∧∀i (h:i<al.length),Q i al[i]
 | 0,_=>⟨[],rfl,fun i h=>absurd h (Nat.not_lt_zero i)⟩
 | n+1,h=>by
  obtain⟨al,hl,ha⟩:=pp_ n fun i hi=>h i o_
  obtain⟨a,hq⟩:=h n o_
  refine⟨al++[a],by simp[hl],fun i hi=>?_⟩
  rcases Nat.lt_or_ge i al.length with q|q
  ·rw[List.getElem_append_left q];exact ha i q
  ·have:i=n:=by simp at hi;omega
   subst this
   rw[List.getElem_append_right q]
   simpa [hl] using hq
theorem pq_ {α:Type} {t e:TypeId} {z bytes:Nat} {f:α→List Value} {Q:α→Prop} (ht:P.underlying t=some (.slice e)) (hz:P.cellsOf e=z) (hb:P.bytesOf e=bytes) (hb1:1≤bytes)
  (hf:∀a,(f a).length=z) (hel:gA_ enc P w base spare held e fun cs=>∃a,cs=f a∧Q a) :
  gA_ enc P w base spare held t fun cs=>∃s:Sl,cs = [.slice s.A s.n s.c]∧∃al:List α,Rd w z s (al.flatMap f)∧al.length=s.n∧(∀a∈al,Q a)∧s.n*bytes≤140737488351232:=fun fuel cs x h hw=>by
 rcases DataW.trod_slice ht h with⟨hcs,_⟩|⟨a,len,cap,elems,rest,n,_,hcs,hx,_,hlc,hmc,hlen,heach,_,_⟩
 ·exact⟨⟨none,0,0⟩,hcs,[],by simpa using wQ_ w z,rfl,by simp,by simp⟩
 ·have hwt:(elems.length+rest.length)*bytes≤140737488351232:=by
   have:=hw ((elems.length+rest.length)*bytes) (by rw[hx];simp[DataW.weights,ht,hb])
   exact this
  have hsz:len*bytes≤140737488351232:=by
   refine Nat.le_trans (Nat.mul_le_mul_right _ ?_) hwt
   omega
  have hln:len≤140737488351232:=by
   have:len*1≤len*bytes:=Nat.mul_le_mul_left _ hb1
   omega
  obtain⟨al,hal,has⟩:=pp_ (α:=α) (Q:=fun i b=>Q b∧bQ_ w (a.add (i*z)) (f b)) len fun i hi=>by
   have hi':i<elems.length:=o_
   have he:=heach i hi
   rw[List.getElem?_eq_getElem hi',hz] at he
   obtain⟨vs,hvs,hr⟩:=Option.bind_eq_some_iff.1 he
   obtain⟨hvl,hvc⟩:=yn_ hvs
   obtain⟨b,hb1,hb2⟩:=hel n vs _ hr fun m hm=>hw m (by
    rw[hx]
    simp only[DataW.weights,ht,List.mem_cons,List.mem_append]
    exact .inr (.inl (mR_ (List.mem_map.2 ⟨elems[i],List.getElem_mem hi',rfl⟩) m hm)))
   exact⟨b,hb2,hb1▸hvc⟩
  refine⟨⟨some a,len,cap⟩,hcs,al,⟨by rw[bv_ hf,hal],hlc,by show len≤_;omega,fun _=>⟨a,rfl,fun j v hj=>?_⟩⟩,hal,fun b hbm=>?_,hsz⟩
  ·have hz0:0<z:=by
    rcases Nat.eq_zero_or_pos z with e0|e0
    ·exfalso
     have:=(List.getElem?_eq_some_iff.1 hj).1
     rw[bv_ hf,e0] at this
     omega
    ·exact e0
   have hjl:j<al.length*z:=by rw[←bv_ hf];exact(List.getElem?_eq_some_iff.1 hj).1
   have hq:j/z<al.length:=Nat.div_lt_of_lt_mul (by rw[Nat.mul_comm];exact hjl)
   have hfe:=gJ_ hf hq
   have hjz:j/z*z+j%z=j:=by rw[Nat.mul_comm];exact Nat.div_add_mod j z
   have hcell:=(has (j/z) hq).2 (j%z) v (by
    rw[←hfe,List.getElem?_take,if_pos (Nat.mod_lt _ hz0),List.getElem?_drop,hjz];exact hj)
   rw[gI_,hjz] at hcell
   exact hcell
  ·obtain⟨i,hi,rfl⟩:=List.getElem_of_mem hbm
   exact(has i hi).1
theorem gA_.mono {t:TypeId} {Φ Ψ:List Value→Prop} (h:gA_ enc P w base spare held t Φ) (hi:∀cs,Φ cs→Ψ cs):gA_ enc P w base spare held t Ψ:=fun n cs x ht hl=>hi cs (h n cs x ht hl)
theorem zI_ (l:L8):l.flatMap (fun b=>[Value.int .u8 (b.toNat:Int)])=bv l:=by
 unfold bv
 induction l with
 | nil=>rfl
 | cons a r ih=>simp only[List.flatMap_cons,ih,List.map_cons,List.singleton_append]
theorem ul_ {t e:TypeId} (ht:P.underlying t=some (.slice e)) (he:P.underlying e=some (.int .u8)) (hz:P.cellsOf e=1) (hb:P.bytesOf e=1) :
  gA_ enc P w base spare held t fun cs=>∃s:Sl,cs = [.slice s.A s.n s.c]∧∃l:L8,Rd w 1 s (bv l)∧l.length=s.n∧s.n≤140737488351232:=by
 refine(pq_ (f:=fun b:UInt8=>[Value.int .u8 (b.toNat:Int)]) (Q:=fun _=>True) ht hz hb (Nat.le_refl _) (fun _=>rfl) ((yo_ he).mono fun cs ⟨b,h⟩=>⟨b,h,trivial⟩)).mono ?_
 rintro cs ⟨s,h1,al,h2,h3,_,h4⟩
 exact⟨s,h1,al,by rw[←zI_];exact h2,h3,o_⟩
end
theorem sm_ {P:Program} {f:FuncId} {args:A_} {w:World} (h:aq_ P f args w [.b] fun b w'=>b=true∧ab_ w w') :
  Calls P f args w fun e w'=>e=.returned (.bool true)∧Below w.heap.size w w':=
 h.mono fun e w' hx=>by
  obtain⟨x,hx,hb,hg⟩:=hx
  have hb:x=true:=hb
  subst hb
  exact⟨hx,ac_.below hg⟩
end Go.Proofs.YtpmebahhjgkflaaGreatDoor.CF
namespace Go.Proofs.YtpmebahhjgkflaaGreatDoor
open Go CF
set_option maxRecDepth 100000
def num (l:L8):Nat:=l.foldl (fun v b=>v*256+b.toNat) 0
theorem yp_ (l:L8) (b:UInt8):num (l++[b])=num l*256+b.toNat:=by simp[num,List.foldl_append]
theorem iY_ (l:L8):num l<256 ^ l.length:=by
 have key:∀(l:L8) (v:Nat),l.foldl (fun v b=>v*256+b.toNat) v<(v+1)*256 ^ l.length:=by
  intro l
  induction l with
  | nil=>intro v;simp
  | cons b r ih=>
   intro v
   rw[List.foldl_cons,List.length_cons,Nat.pow_succ]
   have h1:=ih (v*256+b.toNat)
   have h2:=b.toNat_lt
   have h3:(v*256+b.toNat+1)*256 ^ r.length≤(v+1)*256*256 ^ r.length:=Nat.mul_le_mul_right _ o_
   have h4:(v+1)*256*256 ^ r.length=(v+1)*(256 ^ r.length*256):=by rw[Nat.mul_assoc,Nat.mul_comm 256]
   omega
 have:=key l 0
 rw[Nat.zero_add,Nat.one_mul] at this
 exact this
theorem zJ_ {a b:Nat} (ha:a<72057594037927936) (hb:b<256):bOr .u64 ((a*256:Nat):Int) (b:Int)=((a*256+b:Nat):Int):=by
 unfold bOr
 show IntKind.wrap .u64 (((BitVec.ofInt 64 ((a*256:Nat):Int) ||| BitVec.ofInt 64 (b:Int)).toNat:Nat):Int)=_
 rw[BitVec.ofInt_natCast,BitVec.ofInt_natCast,BitVec.toNat_or,BitVec.toNat_ofNat,BitVec.toNat_ofNat,Nat.mod_eq_of_lt o_,Nat.mod_eq_of_lt o_]
 have e:a*256 ||| b=a*256+b:=by
  have:=Nat.shiftLeft_add_eq_or_of_lt (i:=8) (b:=b) o_ a
  rw[Nat.shiftLeft_eq] at this
  exact this.symm
 rw[e]
 exact bZ_ o_ o_
theorem Bs_ {a:Nat} (ha:a<72057594037927936):cD_ .u64 (a:Int) 8=((a*256:Nat):Int):=by
 unfold cD_
 have e:(min 8 (IntKind.bits .u64))=8:=d_
 rw[e,bZ_ o_ o_]
 omega
theorem bX_ {p:Sl} {l:L8} {at_ n:Nat} {w:World} {R:Int→Int→W_} (hp:Rd w 1 p (bv l)) (hb:p.n≤140737489403904) (hn:1≤n) (hn8:n≤8) (hat:at_+n≤l.length)
  (h:R ((num ((l.drop at_).take n):Nat):Int) 0 w):bJ_ p (at_:Int) (n:Int) w R:=by
 refine mN_.calls _ _ _ _ _ ?_
 have hln:l.length=p.n:=by have:=hp.len;rw[ax_] at this;omega
 have hcap:=hp.cap
 refine iy_.calls _ _ _ _ _ ?_
 have e1:IntKind.wrap .i64 ((p.n:Int)-(n:Int))=(p.n:Int)-(n:Int):=w64 o_ o_
 refine ai_ (by rw[Bool.or_eq_false_iff,decide_eq_false_iff_not,decide_eq_false_iff_not];omega) (ai_ (by rw[Bool.or_eq_false_iff,decide_eq_false_iff_not,decide_eq_false_iff_not,e1];omega) (ai_ rfl ?_))
 have e2:IntKind.wrap .i64 ((at_:Int)+(n:Int))=((at_+n:Nat):Int):=by rw[w64 o_ o_];omega
 rw[e2]
 simp only[Int.toNat_natCast]
 refine⟨⟨o_,o_,o_,hcap⟩,?_⟩
 have hx:=hp.cutB (l:=at_) (k:=at_+n) o_ o_
 rw[show at_+n-at_=n by omega] at hx
 generalize hseg:(l.drop at_).take n=seg at *
 have hsl:seg.length=n:=by rw[←hseg,List.length_take,List.length_drop];omega
 refine⟨fun v x w'=>w'=w∧∃j:Nat,x=j∧j≤n∧v=((num (seg.take j):Nat):Int),fun _ x _=>n-x.toNat,⟨rfl,0,rfl,Nat.zero_le _,rfl⟩,?_⟩
 rintro v x w0 ⟨rfl,j,rfl,hj,rfl⟩
 refine ba_ (fun hlt=>?_) (fun hge=>?_)
 ·obtain⟨a,ha,hc⟩:=hx.byte (i:=j) (by show j<n;omega)
  have ha:aI_ p.A p.c at_ 1=some a:=ha
  have hjs:j<seg.length:=o_
  refine⟨⟨o_,o_,by rw[ha];rfl⟩,((seg[j]).toNat:Int),by rw[ha];exact hc,?_⟩
  have hnl:=iY_ (seg.take j)
  have hb8:=seg[j].toNat_lt
  have hsm:num (seg.take j)<72057594037927936:=by
   refine Nat.lt_of_lt_of_le hnl ?_
   rw[List.length_take,Nat.min_eq_left o_]
   calc 256 ^ j≤256 ^ 7:=Nat.pow_le_pow_right d_ o_
    _=72057594037927936:=d_
  rw[Bs_ hsm,bZ_ o_ o_,zJ_ hsm o_,w64 o_ o_]
  refine⟨⟨rfl,j+1,o_,o_,?_⟩,by dsimp only;omega⟩
  rw[List.take_succ_eq_append_getElem hjs,yp_]
 ·have:j=n:=o_
  subst this
  rw[List.take_of_length_le o_]
  exact h
structure Bk where
 d:L8
 g:Nat
 a:Nat
 r:Nat
 hd:d.length=16
 hg:g<65536
 ha:a<65536
 hr:r<4294967296
def bc (b:Bk):List Value:=bv b.d++[.int .u16 (b.g:Int),.int .u16 (b.a:Int),.int .u32 (b.r:Int)]
theorem bN_ (b:Bk):(bc b).length=19:=by simp[bc,ax_,b.hd]
theorem AJ_ {a b:L8} (h:bv a=bv b):a=b:=by
 induction a generalizing b with
 | nil=>cases b with
  | nil=>rfl
  | cons _ _=>simp[bv] at h
 | cons x r ih=>
  cases b with
  | nil=>simp[bv] at h
  | cons y s=>
   simp only[bv,List.map_cons,List.cons.injEq,Value.int.injEq] at h
   have e:x=y:=UInt8.toNat_inj.1 o_
   rw[e,ih h.2]
theorem om_:∀(l:L8) (n:Nat),l.length=n→bk_ (List.replicate n (.i .u8)) (bv l)
 | [],0,_=>trivial
 | _::l,n+1,h=>⟨rfl,om_ l n (by simpa using h)⟩
def dc_:Bk:=⟨[0,0,0,0,0,0,0,0,0,0,0,0,0,0,0,0],65535,65535,4294967295,rfl,d_,d_,d_⟩
def be2 (n:Nat):L8:=[UInt8.ofNat (n/2 ^ 8),UInt8.ofNat n]
def be4 (n:Nat):L8:=[UInt8.ofNat (n/2 ^ 24),UInt8.ofNat (n/2 ^ 16),UInt8.ofNat (n/2 ^ 8),UInt8.ofNat n]
def cE_ (b:Bk):L8:=[1]++b.d++(be2 b.g++be2 b.a)++be4 b.r
theorem gW_ (b:Bk):(cE_ b).length=25:=by simp[cE_,be2,be4,b.hd]
theorem aV_ (n:Nat):IntKind.wrap .u8 (n:Int)=((UInt8.ofNat n).toNat:Int):=by
 rw[UInt8.toNat_ofNat']
 have e:IntKind.wrap .u8 (n:Int)=(n:Int)%256:=by simp[IntKind.wrap,IntKind.signed,IntKind.bits]
 rw[e]
 omega
theorem shr (k:IntKind) (n s:Nat) (hs:s≤k.bits):bu_ k (n:Int) s=((n/2 ^ s:Nat):Int):=by
 unfold bu_
 rw[Nat.min_eq_left hs,show((2:Int) ^ s)=((2 ^ s:Nat):Int) by norm_cast]
 exact(Int.ofNat_fdiv n (2 ^ s)).symm
end Go.Proofs.YtpmebahhjgkflaaGreatDoor
