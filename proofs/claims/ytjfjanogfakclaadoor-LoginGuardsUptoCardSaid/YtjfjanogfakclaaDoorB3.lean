import Derived.MapKept
import Derived.Laws.MakeOwn
import Derived.Lib.AppendZerosOnto
import Derived.Deep.DeepAppendWide
import Derived.Test.YtjfjanogfakclaaDoorB2
-- printed by wip/cf/cfprint.py
namespace Go.Proofs.YtjfjanogfakclaaDoor
open Go CF
set_option linter.unusedVariables false
set_option maxRecDepth 100000
/-- pallet/palletref19.Sum -/
def Fpalletref19_Sum (p : Sl) (w : World) (R : Sl → World → Prop) : Prop :=
  RunK Tryd.prog .sl (Builtin.append_ #[23, 23] 23 #[.slice none 0 0, .slice p.A p.n p.c]) w fun xs w0 => RunK Tryd.prog .sl (Instr.buildSlice 23 1 #[(0, .int .u8 128)]) w0 fun xs1 w01 => RunK Tryd.prog .sl (Builtin.append_ #[23, 23] 23 #[.slice xs.A xs.n xs.c, .slice xs1.A xs1.n xs1.c]) w01 fun xs2 w02 => ∃ (I : Sl → World → Prop) (μ : Sl → World → Nat), I xs2 w02 ∧ ∀ (q : Sl) (w03 : World), I q w03 → ((64 : Int) ≠ 0) ∧ Br (((q.n : Int).tmod 64) != 56) (RunK Tryd.prog .sl (Instr.buildSlice 23 1 #[(0, .int .u8 0)]) w03 fun xs3 w04 => RunK Tryd.prog .sl (Builtin.append_ #[23, 23] 23 #[.slice q.A q.n q.c, .slice xs3.A xs3.n xs3.c]) w04 fun xs4 w05 => I xs4 w05 ∧ μ xs4 w05 < μ q w03) (∃ (I1 : Sl → Int → Int → World → Prop) (μ1 : Sl → Int → Int → World → Nat), I1 q (IntKind.wrap .u64 ((IntKind.wrap .u64 (p.n : Int)) * 8)) 0 w03 ∧ ∀ (q1 : Sl) (bits : Int) (i : Int) (w06 : World), I1 q1 bits i w06 → Br (decide (i < 8)) (RunK Tryd.prog .sl (Instr.buildSlice 23 1 #[(0, .int .u8 (IntKind.wrap .u8 bits))]) w06 fun xs5 w07 => RunK Tryd.prog .sl (Builtin.append_ #[23, 23] 23 #[.slice q1.A q1.n q1.c, .slice xs5.A xs5.n xs5.c]) w07 fun xs6 w08 => ((256 : Int) ≠ 0) ∧ I1 xs6 (IntKind.wrap .u64 (bits.tdiv 256)) (IntKind.wrap .i64 (i + 1)) w08 ∧ μ1 xs6 (IntKind.wrap .u64 (bits.tdiv 256)) (IntKind.wrap .i64 (i + 1)) w08 < μ1 q1 bits i w06) (RunK Tryd.prog .sl (Instr.buildSlice 73 4 #[(0, .int .u32 1732584193), (1, .int .u32 4023233417), (2, .int .u32 2562383102), (3, .int .u32 271733878)]) w06 fun xs7 w09 => RunK Tryd.prog .sl (Instr.buildSlice 74 16 #[(0, .int .i64 7), (1, .int .i64 12), (2, .int .i64 17), (3, .int .i64 22), (4, .int .i64 5), (5, .int .i64 9), (6, .int .i64 14), (7, .int .i64 20), (8, .int .i64 4), (9, .int .i64 11), (10, .int .i64 16), (11, .int .i64 23), (12, .int .i64 6), (13, .int .i64 10), (14, .int .i64 15), (15, .int .i64 21)]) w09 fun xs8 w010 => Cpalletref19_constants  w010 fun xs9 w011 => ∃ (I2 : Int → World → Prop) (μ2 : Int → World → Nat), I2 0 w011 ∧ ∀ (at_ : Int) (w012 : World), I2 at_ w012 → Br (decide (at_ < (q1.n : Int))) (∀ w013, w013 = w012.drew → ∃ S : World → Prop, S w013 ∧ (0 ≤ (0 : Int) ∧ (0 : Int) < (xs7.n : Int) ∧ xs7.A.isSome = true) ∧ ∃ n : Int, (∀ u, S u → u.cell? ((gA xs7.A).add ((0 : Int).toNat * 1)) = some (.int .u32 n)) ∧ (0 ≤ (1 : Int) ∧ (1 : Int) < (xs7.n : Int) ∧ xs7.A.isSome = true) ∧ ∃ n1 : Int, (∀ u1, S u1 → u1.cell? ((gA xs7.A).add ((1 : Int).toNat * 1)) = some (.int .u32 n1)) ∧ (0 ≤ (2 : Int) ∧ (2 : Int) < (xs7.n : Int) ∧ xs7.A.isSome = true) ∧ ∃ n2 : Int, (∀ u2, S u2 → u2.cell? ((gA xs7.A).add ((2 : Int).toNat * 1)) = some (.int .u32 n2)) ∧ (0 ≤ (3 : Int) ∧ (3 : Int) < (xs7.n : Int) ∧ xs7.A.isSome = true) ∧ ∃ n3 : Int, (∀ u3, S u3 → u3.cell? ((gA xs7.A).add ((3 : Int).toNat * 1)) = some (.int .u32 n3)) ∧ ∃ (I3 : Int → Int → Int → Int → Int → World → Prop) (μ3 : Int → Int → Int → Int → Int → World → Nat), I3 n n1 n2 n3 0 w013 ∧ ∀ (a : Int) (b : Int) (c : Int) (d : Int) (i1 : Int) (w014 : World), I3 a b c d i1 w014 → Br (decide (i1 < 64)) (letX (fun (a1 : Int) (b1 : Int) (c1 : Int) (d1 : Int) (w015 : World) => I3 a1 b1 c1 d1 (IntKind.wrap .i64 (i1 + 1)) w015 ∧ μ3 a1 b1 c1 d1 (IntKind.wrap .i64 (i1 + 1)) w015 < μ3 a b c d i1 w014) fun J_ => ((16 : Int) ≠ 0) ∧ ((16 : Int) ≠ 0) ∧ letX (fun (f : Int) (g : Int) (w016 : World) => letX (fun (f1 : Int) (g1 : Int) (w017 : World) => letX (fun (f2 : Int) (g2 : Int) (w018 : World) => ∃ (I4 : Int → Int → World → Prop) (μ4 : Int → Int → World → Nat), I4 0 3 w018 ∧ ∀ (m : Int) (j : Int) (w019 : World), I4 m j w019 → Br (decide (j ≥ 0)) ((0 ≤ (IntKind.wrap .i64 ((IntKind.wrap .i64 (at_ + (IntKind.wrap .i64 (4 * g2)))) + j)) ∧ (IntKind.wrap .i64 ((IntKind.wrap .i64 (at_ + (IntKind.wrap .i64 (4 * g2)))) + j)) < (q1.n : Int) ∧ q1.A.isSome = true) ∧ ∃ n4 : Int, w019.cell? ((gA q1.A).add ((IntKind.wrap .i64 ((IntKind.wrap .i64 (at_ + (IntKind.wrap .i64 (4 * g2)))) + j)).toNat * 1)) = some (.int .u8 n4) ∧ I4 (IntKind.wrap .u32 ((IntKind.wrap .u32 (m * 256)) + (IntKind.wrap .u32 n4))) (IntKind.wrap .i64 (j - 1)) w019 ∧ μ4 (IntKind.wrap .u32 ((IntKind.wrap .u32 (m * 256)) + (IntKind.wrap .u32 n4))) (IntKind.wrap .i64 (j - 1)) w019 < μ4 m j w019) ((0 ≤ i1 ∧ i1 < (xs9.n : Int) ∧ xs9.A.isSome = true) ∧ ∃ n5 : Int, w019.cell? ((gA xs9.A).add (i1.toNat * 1)) = some (.int .u32 n5) ∧ ((4 : Int) ≠ 0) ∧ (0 ≤ (IntKind.wrap .i64 ((IntKind.wrap .i64 (4 * (IntKind.wrap .i64 (i1.tdiv 16)))) + (i1.tmod 4))) ∧ (IntKind.wrap .i64 ((IntKind.wrap .i64 (4 * (IntKind.wrap .i64 (i1.tdiv 16)))) + (i1.tmod 4))) < (xs8.n : Int) ∧ xs8.A.isSome = true) ∧ ∃ n6 : Int, w019.cell? ((gA xs8.A).add ((IntKind.wrap .i64 ((IntKind.wrap .i64 (4 * (IntKind.wrap .i64 (i1.tdiv 16)))) + (i1.tmod 4))).toNat * 1)) = some (.int .i64 n6) ∧ Cpalletref19_left (IntKind.wrap .u32 ((IntKind.wrap .u32 ((IntKind.wrap .u32 (a + f2)) + n5)) + m)) n6 w019 fun n7 w020 => J_ d (IntKind.wrap .u32 (b + n7)) b c w020)) fun J_1 => Br ((IntKind.wrap .i64 (i1.tdiv 16)) == 2) (((16 : Int) ≠ 0) ∧ J_1 (bXor .u32 (bXor .u32 b c) d) ((IntKind.wrap .i64 ((IntKind.wrap .i64 (3 * i1)) + 5)).tmod 16) w017) (J_1 f1 g1 w017)) fun J_2 => Br ((IntKind.wrap .i64 (i1.tdiv 16)) == 1) (((16 : Int) ≠ 0) ∧ J_2 (bOr .u32 (bAnd .u32 d b) (bAnd .u32 (bNot .u32 d) c)) ((IntKind.wrap .i64 ((IntKind.wrap .i64 (5 * i1)) + 1)).tmod 16) w016) (J_2 f g w016)) fun J_3 => Br ((IntKind.wrap .i64 (i1.tdiv 16)) == 0) (J_3 (bOr .u32 (bAnd .u32 b c) (bAnd .u32 (bNot .u32 b) d)) i1 w014) (J_3 (bXor .u32 c (bOr .u32 b (bNot .u32 d))) ((IntKind.wrap .i64 (7 * i1)).tmod 16) w014)) ((0 ≤ (0 : Int) ∧ (0 : Int) < (xs7.n : Int) ∧ xs7.A.isSome = true) ∧ ∃ n8 : Int, w014.cell? ((gA xs7.A).add ((0 : Int).toNat * 1)) = some (.int .u32 n8) ∧ (0 ≤ (0 : Int) ∧ (0 : Int) < (xs7.n : Int) ∧ xs7.A.isSome = true) ∧ Put ((gA xs7.A).add ((0 : Int).toNat * 1)) (.int .u32 (IntKind.wrap .u32 (n8 + a))) w014 fun w021 => (0 ≤ (1 : Int) ∧ (1 : Int) < (xs7.n : Int) ∧ xs7.A.isSome = true) ∧ ∃ n9 : Int, w021.cell? ((gA xs7.A).add ((1 : Int).toNat * 1)) = some (.int .u32 n9) ∧ (0 ≤ (1 : Int) ∧ (1 : Int) < (xs7.n : Int) ∧ xs7.A.isSome = true) ∧ Put ((gA xs7.A).add ((1 : Int).toNat * 1)) (.int .u32 (IntKind.wrap .u32 (n9 + b))) w021 fun w022 => (0 ≤ (2 : Int) ∧ (2 : Int) < (xs7.n : Int) ∧ xs7.A.isSome = true) ∧ ∃ n10 : Int, w022.cell? ((gA xs7.A).add ((2 : Int).toNat * 1)) = some (.int .u32 n10) ∧ (0 ≤ (2 : Int) ∧ (2 : Int) < (xs7.n : Int) ∧ xs7.A.isSome = true) ∧ Put ((gA xs7.A).add ((2 : Int).toNat * 1)) (.int .u32 (IntKind.wrap .u32 (n10 + c))) w022 fun w023 => (0 ≤ (3 : Int) ∧ (3 : Int) < (xs7.n : Int) ∧ xs7.A.isSome = true) ∧ ∃ n11 : Int, w023.cell? ((gA xs7.A).add ((3 : Int).toNat * 1)) = some (.int .u32 n11) ∧ (0 ≤ (3 : Int) ∧ (3 : Int) < (xs7.n : Int) ∧ xs7.A.isSome = true) ∧ Put ((gA xs7.A).add ((3 : Int).toNat * 1)) (.int .u32 (IntKind.wrap .u32 (n11 + d))) w023 fun w024 => I2 (IntKind.wrap .i64 (at_ + 64)) w024 ∧ μ2 (IntKind.wrap .i64 (at_ + 64)) w024 < μ2 at_ w012)) (∃ (I5 : Sl → Int → World → Prop) (μ5 : Sl → Int → World → Nat), I5 (⟨none, 0, 0⟩ : Sl) 0 w012 ∧ ∀ (out : Sl) (i2 : Int) (w025 : World), I5 out i2 w025 → Br (decide (i2 < 4)) ((0 ≤ i2 ∧ i2 < (xs7.n : Int) ∧ xs7.A.isSome = true) ∧ ∃ n12 : Int, w025.cell? ((gA xs7.A).add (i2.toNat * 1)) = some (.int .u32 n12) ∧ ∃ (I6 : Sl → Int → Int → World → Prop) (μ6 : Sl → Int → Int → World → Nat), I6 out n12 0 w025 ∧ ∀ (out1 : Sl) (x : Int) (j1 : Int) (w026 : World), I6 out1 x j1 w026 → Br (decide (j1 < 4)) (RunK Tryd.prog .sl (Instr.buildSlice 23 1 #[(0, .int .u8 (IntKind.wrap .u8 x))]) w026 fun xs10 w027 => RunK Tryd.prog .sl (Builtin.append_ #[23, 23] 23 #[.slice out1.A out1.n out1.c, .slice xs10.A xs10.n xs10.c]) w027 fun xs11 w028 => ((256 : Int) ≠ 0) ∧ I6 xs11 (IntKind.wrap .u32 (x.tdiv 256)) (IntKind.wrap .i64 (j1 + 1)) w028 ∧ μ6 xs11 (IntKind.wrap .u32 (x.tdiv 256)) (IntKind.wrap .i64 (j1 + 1)) w028 < μ6 out1 x j1 w026) (I5 out1 (IntKind.wrap .i64 (i2 + 1)) w026 ∧ μ5 out1 (IntKind.wrap .i64 (i2 + 1)) w026 < μ5 out i2 w025)) (R out w025))))
theorem Fpalletref19_Sum.calls (p : Sl) (w : World) (R : Sl → World → Prop) (h : Fpalletref19_Sum p w R) : Cpalletref19_Sum p w R :=
  calls_of_vc (anOp_ok callable) wide Tryd.func24 [(12, ⟨[(3, .sl)], [0]⟩), (24, ⟨[(3, .sl), (4, .i .u64), (5, .i .i64)], []⟩), (48, ⟨[(9, .i .i64)], [3, 6, 7, 8]⟩), (60, ⟨[(10, .i .u32), (11, .i .u32), (12, .i .u32), (13, .i .u32), (14, .i .i64)], [3, 6, 7, 8, 9]⟩), (23, ⟨[(10, .i .u32), (11, .i .u32), (12, .i .u32), (13, .i .u32)], [3, 6, 7, 8, 9, 14]⟩), (108, ⟨[(18, .i .u32), (19, .i .i64)], [3, 6, 7, 8, 9, 10, 11, 12, 13, 14, 15, 16, 17]⟩), (97, ⟨[(16, .i .u32), (17, .i .i64)], [3, 6, 7, 8, 9, 10, 11, 12, 13, 14, 15]⟩), (88, ⟨[(16, .i .u32), (17, .i .i64)], [3, 6, 7, 8, 9, 10, 11, 12, 13, 14, 15]⟩), (79, ⟨[(16, .i .u32), (17, .i .i64)], [3, 6, 7, 8, 9, 10, 11, 12, 13, 14, 15]⟩), (150, ⟨[(21, .sl), (22, .i .i64)], [6]⟩), (162, ⟨[(21, .sl), (23, .i .u32), (24, .i .i64)], [6, 22]⟩)] [.sl] [.slice p.A p.n p.c] w R (Eq.mp (show Fpalletref19_Sum p w R = vcF Tryd.prog G Tryd.f24 [(12, ⟨[(3, .sl)], [0]⟩), (24, ⟨[(3, .sl), (4, .i .u64), (5, .i .i64)], []⟩), (48, ⟨[(9, .i .i64)], [3, 6, 7, 8]⟩), (60, ⟨[(10, .i .u32), (11, .i .u32), (12, .i .u32), (13, .i .u32), (14, .i .i64)], [3, 6, 7, 8, 9]⟩), (23, ⟨[(10, .i .u32), (11, .i .u32), (12, .i .u32), (13, .i .u32)], [3, 6, 7, 8, 9, 14]⟩), (108, ⟨[(18, .i .u32), (19, .i .i64)], [3, 6, 7, 8, 9, 10, 11, 12, 13, 14, 15, 16, 17]⟩), (97, ⟨[(16, .i .u32), (17, .i .i64)], [3, 6, 7, 8, 9, 10, 11, 12, 13, 14, 15]⟩), (88, ⟨[(16, .i .u32), (17, .i .i64)], [3, 6, 7, 8, 9, 10, 11, 12, 13, 14, 15]⟩), (79, ⟨[(16, .i .u32), (17, .i .i64)], [3, 6, 7, 8, 9, 10, 11, 12, 13, 14, 15]⟩), (150, ⟨[(21, .sl), (22, .i .i64)], [6]⟩), (162, ⟨[(21, .sl), (23, .i .u32), (24, .i .i64)], [6, 22]⟩)] [.sl] [.slice p.A p.n p.c] w R by kernel_rfl) h)
/-- (*pallet/login.Login).fail -/
def Flogin_Login_fail (l : Option Addr) (detail : Int) (w : World) (R : (Array Value) → Int → World → Prop) : Prop :=
  New (.cells #[.int .u8 0, .int .u8 0, .int .u8 0, .int .u8 0, .bool false, .slice none 0 0] 43) w fun a w0 => l.isSome = true ∧ Put ((gA l).add 10) (.bool true) w0 fun w01 => RunU Tryd.prog (storeVar 43 a (.agg #[.int .u8 2, .int .u8 detail, .int .u8 0, .int .u8 0, .bool false, .slice none 0 0])) w01 fun w02 => ∃ res : Array Value, (loadVar 43 a).run Tryd.prog w02 = .ok (.agg res) w02 ∧ R res 0 w02
theorem Flogin_Login_fail.calls (l : Option Addr) (detail : Int) (w : World) (R : (Array Value) → Int → World → Prop) (h : Flogin_Login_fail l detail w R) : Clogin_Login_fail l detail w R :=
  calls_of_vc (anOp_ok callable) wide Tryd.func25 [] [.ag, .i .i64] [.pointer l, .int .u8 detail] w R (Eq.mp (show Flogin_Login_fail l detail w R = vcF Tryd.prog G Tryd.f25 [] [.ag, .i .i64] [.pointer l, .int .u8 detail] w R by kernel_rfl) h)
/-- (*pallet/login.Login).first -/
def Flogin_Login_first (l : Option Addr) (keys : Sl) (w : World) (R : Int → World → Prop) : Prop :=
  Ctext_Find keys s_InitiatorName w fun s b w0 => l.isSome = true ∧ Put (((gA l).add 12).add 0) (.string s) w0 fun w01 => Ctext_Find keys s_SessionType w01 fun s1 b1 w02 => l.isSome = true ∧ Put (((gA l).add 12).add 2) (.bool (sEq s1 s_Discovery)) w02 fun w03 => l.isSome = true ∧ ∃ s2 : ByteArray, w03.cell? (((gA l).add 12).add 0) = some (.string s2) ∧ Br (sEq s2 ⟨#[]⟩) (R 7 w03) (Br ((b1 && (!(sEq s1 s_Normal))) && (!(sEq s1 s_Discovery))) (R 9 w03) (l.isSome = true ∧ ∃ b2 : Bool, w03.cell? (((gA l).add 12).add 2) = some (.bool b2) ∧ Br b2 (R 255 w03) (Ctext_Find keys s_TargetName w03 fun s3 b3 w04 => l.isSome = true ∧ Put (((gA l).add 12).add 1) (.string s3) w04 fun w05 => l.isSome = true ∧ ∃ s4 : ByteArray, w05.cell? (((gA l).add 12).add 1) = some (.string s4) ∧ Br (sEq s4 ⟨#[]⟩) (R 7 w05) (∀ w06, w06 = w05.drew → ∃ S : World → Prop, S w06 ∧ l.isSome = true ∧ ∃ xs : Sl, (∀ u, S u → u.cell? (((gA l).add 0).add 0) = some (.slice xs.A xs.n xs.c)) ∧ l.isSome = true ∧ ∃ s5 : ByteArray, (∀ u1, S u1 → u1.cell? (((gA l).add 12).add 1) = some (.string s5)) ∧ Cslices_Contains_string_string xs s5 w06 fun b4 w07 => Br (!b4) (R 3 w07) (R 255 w07)))))
theorem Flogin_Login_first.calls (l : Option Addr) (keys : Sl) (w : World) (R : Int → World → Prop) (h : Flogin_Login_first l keys w R) : Clogin_Login_first l keys w R :=
  calls_of_vc (anOp_ok callable) wide Tryd.func26 [] [.i .u8] [.pointer l, .slice keys.A keys.n keys.c] w R (Eq.mp (show Flogin_Login_first l keys w R = vcF Tryd.prog G Tryd.f26 [] [.i .u8] [.pointer l, .slice keys.A keys.n keys.c] w R by kernel_rfl) h)
/-- (*pallet/login.Login).key -/
def Flogin_Login_key (l : Option Addr) (k : Array Value) (all : Sl) (w : World) (R : Sl → Bool → World → Prop) : Prop :=
  New (.cells k 35) w fun k1 w0 => ∃ s : ByteArray, w0.cell? (k1.add 0) = some (.string s) ∧ letX (fun (w01 : World) => ∀ w02, w02 = w01.drew → ∃ S : World → Prop, S w02 ∧ ∃ s1 : ByteArray, (∀ u, S u → u.cell? (k1.add 0) = some (.string s1)) ∧ ∃ g : Array Value, (∀ u1, S u1 → (loadVar 35 k1).run Tryd.prog u1 = .ok (.agg g) u1) ∧ ∃ g1 : Array Value, (∀ u2, S u2 → (loadVar 35 k1).run Tryd.prog u2 = .ok (.agg g1) u2) ∧ Clogin_Login_operational l g w02 fun s2 w03 => S w03 ∧ Clogin_one s1 s2 w03 fun xs w04 => S w04 ∧ Clogin_Login_told l g1 w04 fun n w05 => (0 ≤ (0 : Int) ∧ (0 : Int) ≤ n ∧ n ≤ (xs.c : Int) ∧ xs.n ≤ xs.c) ∧ R (⟨(cutA xs.A xs.c 0 2), (n.toNat - 0), (xs.c - 0)⟩ : Sl) true w05) fun J_ => letX (fun (x : Bool) (w06 : World) => Br x (R (⟨none, 0, 0⟩ : Sl) true w06) (Br (sEq s s_AuthMethod) (l.isSome = true ∧ ∃ xs1 : Sl, w06.cell? (((gA l).add 0).add 1) = some (.slice xs1.A xs1.n xs1.c) ∧ letX (fun (own : ByteArray) (w07 : World) => ∃ s3 : ByteArray, w07.cell? (k1.add 1) = some (.string s3) ∧ RunK Tryd.prog .sl (Instr.buildSlice 28 1 #[(0, .string own)]) w07 fun xs2 w08 => Ctext_First s3 xs2 w08 fun s4 w09 => l.isSome = true ∧ Put ((gA l).add 7) (.string s4) w09 fun w010 => ∀ w011, w011 = w010.drew → ∃ S1 : World → Prop, S1 w011 ∧ ∃ s5 : ByteArray, (∀ u3, S1 u3 → u3.cell? (k1.add 0) = some (.string s5)) ∧ l.isSome = true ∧ ∃ s6 : ByteArray, (∀ u4, S1 u4 → u4.cell? ((gA l).add 7) = some (.string s6)) ∧ l.isSome = true ∧ ∃ s7 : ByteArray, (∀ u5, S1 u5 → u5.cell? ((gA l).add 7) = some (.string s7)) ∧ Clogin_one s5 s6 w011 fun xs3 w012 => S1 w012 ∧ R xs3 (!(sEq s7 s_Reject)) w012) fun J_1 => Br (decide ((xs1.n : Int) > 0)) (J_1 s_CHAP w06) (J_1 s_None w06)) (Br (sEq s s_CHAPx5fA) (l.isSome = true ∧ ∃ s8 : ByteArray, w06.cell? ((gA l).add 7) = some (.string s8) ∧ ∃ s9 : ByteArray, ((!(!(sEq s8 s_CHAP))) = true → w06.cell? (k1.add 1) = some (.string s9)) ∧ letJ (fun (xs4 : Sl) (w013 : World) => letJ (fun (s10 : ByteArray) (w014 : World) => Br ((!(sEq s8 s_CHAP)) || (!(sEq s10 s_5))) (R (⟨none, 0, 0⟩ : Sl) false w014) (l.isSome = true ∧ Put ((gA l).add 8) (.bool true) w014 fun w015 => ∀ w016, w016 = w015.drew → ∃ S2 : World → Prop, S2 w016 ∧ l.isSome = true ∧ ∃ n1 : Int, (∀ u6, S2 u6 → u6.cell? ((gA l).add 3) = some (.int .u8 n1)) ∧ l.isSome = true ∧ ∃ xs5 : Sl, (∀ u7, S2 u7 → u7.cell? ((gA l).add 4) = some (.slice xs5.A xs5.n xs5.c)) ∧ Clogin_one s_CHAPx5fA s_5 w016 fun xs6 w017 => S2 w017 ∧ Cstrconv_Itoa (IntKind.wrap .i64 n1) w017 fun s11 w018 => S2 w018 ∧ ∃ S3 : World → Prop, S3 w018 ∧ (∀ u8, S3 u8 → S2 u8) ∧ Cchap_Hex xs5 w018 fun s12 w019 => S3 w019 ∧ ∃ S4 : World → Prop, S4 w019 ∧ (∀ u9, S4 u9 → S3 u9) ∧ RunK Tryd.prog .sl (Instr.buildSlice 31 2 #[(0, .agg #[.string s_CHAPx5fI, .string s11]), (1, .agg #[.string s_CHAPx5fC, .string s12])]) w019 fun xs7 w020 => RunK Tryd.prog .sl (Builtin.append_ #[31, 31] 31 #[.slice xs6.A xs6.n xs6.c, .slice xs7.A xs7.n xs7.c]) w020 fun xs8 w021 => R xs8 true w021)) fun J_2 => ((!(!(sEq s8 s_CHAP))) = true → Ctext_First s9 xs4 w013 J_2) ∧ ((!(!(sEq s8 s_CHAP))) = false → J_2 (Kd.dflt .s) w013)) fun J_3 => ((!(!(sEq s8 s_CHAP))) = true → RunK Tryd.prog .sl (Instr.buildSlice 28 1 #[(0, .string s_5)]) w06 J_3) ∧ ((!(!(sEq s8 s_CHAP))) = false → J_3 (Kd.dflt .sl) w06)) (Br (sEq s s_CHAPx5fN) (Ctext_Find all s_CHAPx5fR w06 fun s13 b w022 => l.isSome = true ∧ ∃ xs9 : Sl, w022.cell? (((gA l).add 0).add 1) = some (.slice xs9.A xs9.n xs9.c) ∧ ∃ (I : Int → World → Prop) (μ : Int → World → Nat), I 0 w022 ∧ ∀ (x1 : Int) (w023 : World), I x1 w023 → Br (decide (x1 < (xs9.n : Int))) ((0 ≤ x1 ∧ x1 < (xs9.n : Int) ∧ xs9.A.isSome = true) ∧ ∃ g2 : Array Value, (loadVar 41 ((gA xs9.A).add (x1.toNat * 2))).run Tryd.prog w023 = .ok (.agg g2) w023 ∧ New (.cells #[.string ⟨#[]⟩, .string ⟨#[]⟩] 41) w023 fun u10 w024 => RunU Tryd.prog (storeVar 41 u10 (.agg g2)) w024 fun w025 => ∀ w026, w026 = w025.drew → ∃ S5 : World → Prop, S5 w026 ∧ ∃ s14 : ByteArray, (∀ u11, S5 u11 → u11.cell? (u10.add 0) = some (.string s14)) ∧ ∃ s15 : ByteArray, (∀ u12, S5 u12 → u12.cell? (k1.add 1) = some (.string s15)) ∧ ((sEq s14 s15) = true → l.isSome = true) ∧ ∃ b1 : Bool, ((sEq s14 s15) = true → (∀ u13, S5 u13 → u13.cell? ((gA l).add 8) = some (.bool b1))) ∧ (((sEq s14 s15) && b1) = true → l.isSome = true) ∧ ∃ n2 : Int, (((sEq s14 s15) && b1) = true → (∀ u14, S5 u14 → u14.cell? ((gA l).add 3) = some (.int .u8 n2))) ∧ ∃ s16 : ByteArray, (((sEq s14 s15) && b1) = true → (∀ u15, S5 u15 → u15.cell? (u10.add 1) = some (.string s16))) ∧ (((sEq s14 s15) && b1) = true → l.isSome = true) ∧ ∃ xs10 : Sl, (((sEq s14 s15) && b1) = true → (∀ u16, S5 u16 → u16.cell? ((gA l).add 4) = some (.slice xs10.A xs10.n xs10.c))) ∧ letJ (fun (b2 : Bool) (w027 : World) => Br (((sEq s14 s15) && b1) && b2) (l.isSome = true ∧ Put ((gA l).add 9) (.bool true) w027 fun w028 => l.isSome = true ∧ Put ((gA l).add 8) (.bool false) w028 fun w029 => R (⟨none, 0, 0⟩ : Sl) true w029) (I (IntKind.wrap .i64 (x1 + 1)) w027 ∧ μ (IntKind.wrap .i64 (x1 + 1)) w027 < μ x1 w023)) fun J_4 => (((sEq s14 s15) && b1) = true → Cchap_Right n2 s16 xs10 s13 w026 J_4) ∧ (((sEq s14 s15) && b1) = false → J_4 (Kd.dflt .b) w026)) (R (⟨none, 0, 0⟩ : Sl) false w023)) (Br (sEq s s_CHAPx5fR) (R (⟨none, 0, 0⟩ : Sl) true w06) (J_ w06)))))) fun J_5 => Br (sEq s s_InitiatorName) (J_5 (sEq s s_InitiatorName) w0) (Br (sEq s s_InitiatorAlias) (J_5 (sEq s s_InitiatorAlias) w0) (Br (sEq s s_SessionType) (J_5 (sEq s s_SessionType) w0) (J_5 (sEq s s_TargetName) w0)))
theorem Flogin_Login_key.calls (l : Option Addr) (k : Array Value) (all : Sl) (w : World) (R : Sl → Bool → World → Prop) (h : Flogin_Login_key l k all w R) : Clogin_Login_key l k all w R :=
  calls_of_vc (anOp_ok callable) wide Tryd.func27 [(2, ⟨[], [0, 4]⟩), (31, ⟨[(8, .s)], [0, 4]⟩), (63, ⟨[(95, .i .i64)], [0, 4, 9, 93, 94]⟩), (10, ⟨[(15, .b)], [0, 2, 4, 14]⟩)] [.sl, .b] [.pointer l, .agg k, .slice all.A all.n all.c] w R (Eq.mp (show Flogin_Login_key l k all w R = vcF Tryd.prog G Tryd.f27 [(2, ⟨[], [0, 4]⟩), (31, ⟨[(8, .s)], [0, 4]⟩), (63, ⟨[(95, .i .i64)], [0, 4, 9, 93, 94]⟩), (10, ⟨[(15, .b)], [0, 2, 4, 14]⟩)] [.sl, .b] [.pointer l, .agg k, .slice all.A all.n all.c] w R by kernel_rfl) h)
/-- pallet/palletref19.constants -/
def Fpalletref19_constants (w : World) (R : Sl → World → Prop) : Prop :=
  RunK Tryd.prog .sl (Instr.buildSlice 73 64 #[(0, .int .u32 3951481745), (1, .int .u32 718787259), (2, .int .u32 3174756917), (3, .int .u32 4149444226), (4, .int .u32 1309151649), (5, .int .u32 2734768916), (6, .int .u32 4264355552), (7, .int .u32 1873313359), (8, .int .u32 2240044497), (9, .int .u32 4293915773), (10, .int .u32 2399980690), (11, .int .u32 1700485571), (12, .int .u32 4237533241), (13, .int .u32 2878612391), (14, .int .u32 1126891415), (15, .int .u32 4096336452), (16, .int .u32 3299628645), (17, .int .u32 530742520), (18, .int .u32 3873151461), (19, .int .u32 3654602809), (20, .int .u32 76029189), (21, .int .u32 3572445317), (22, .int .u32 3936430074), (23, .int .u32 681279174), (24, .int .u32 3200236656), (25, .int .u32 4139469664), (26, .int .u32 1272893353), (27, .int .u32 2763975236), (28, .int .u32 4259657740), (29, .int .u32 1839030562), (30, .int .u32 2272392833), (31, .int .u32 4294588738), (32, .int .u32 2368359562), (33, .int .u32 1735328473), (34, .int .u32 4243563512), (35, .int .u32 2850285829), (36, .int .u32 1163531501), (37, .int .u32 4107603335), (38, .int .u32 3275163606), (39, .int .u32 568446438), (40, .int .u32 3889429448), (41, .int .u32 3634488961), (42, .int .u32 38016083), (43, .int .u32 3593408605), (44, .int .u32 3921069994), (45, .int .u32 643717713), (46, .int .u32 3225465664), (47, .int .u32 4129170786), (48, .int .u32 1236535329), (49, .int .u32 2792965006), (50, .int .u32 4254626195), (51, .int .u32 1804603682), (52, .int .u32 2304563134), (53, .int .u32 4294925233), (54, .int .u32 2336552879), (55, .int .u32 1770035416), (56, .int .u32 4249261313), (57, .int .u32 2821735955), (58, .int .u32 1200080426), (59, .int .u32 4118548399), (60, .int .u32 3250441966), (61, .int .u32 606105819), (62, .int .u32 3905402710), (63, .int .u32 3614090360)]) w fun xs w0 => RunK Tryd.prog .sl (Instr.makeSlice 73 (.int .i64 64) (.int .i64 64)) w0 fun xs1 w01 => ∃ (I : Int → World → Prop) (μ : Int → World → Nat), I 0 w01 ∧ ∀ (i : Int) (w02 : World), I i w02 → Br (decide (i < 64)) ((0 ≤ (IntKind.wrap .i64 (63 - i)) ∧ (IntKind.wrap .i64 (63 - i)) < (xs.n : Int) ∧ xs.A.isSome = true) ∧ ∃ n : Int, w02.cell? ((gA xs.A).add ((IntKind.wrap .i64 (63 - i)).toNat * 1)) = some (.int .u32 n) ∧ (0 ≤ i ∧ i < (xs1.n : Int) ∧ xs1.A.isSome = true) ∧ Put ((gA xs1.A).add (i.toNat * 1)) (.int .u32 n) w02 fun w03 => I (IntKind.wrap .i64 (i + 1)) w03 ∧ μ (IntKind.wrap .i64 (i + 1)) w03 < μ i w02) (R xs1 w02)
theorem Fpalletref19_constants.calls (w : World) (R : Sl → World → Prop) (h : Fpalletref19_constants w R) : Cpalletref19_constants w R :=
  calls_of_vc (anOp_ok callable) wide Tryd.func28 [(12, ⟨[(3, .i .i64)], [1, 2]⟩)] [.sl] [] w R (Eq.mp (show Fpalletref19_constants w R = vcF Tryd.prog G Tryd.f28 [(12, ⟨[(3, .i .i64)], [1, 2]⟩)] [.sl] [] w R by kernel_rfl) h)
/-- pallet/palletref19.left -/
def Fpalletref19_left (x : Int) (n : Int) (w : World) (R : Int → World → Prop) : Prop :=
  ∀ w0, w0 = w.drew → (0 ≤ n) ∧ (0 ≤ (IntKind.wrap .i64 (32 - n))) ∧ R (bOr .u32 (bShl .u32 x n.toNat) (bShr .u32 x (IntKind.wrap .i64 (32 - n)).toNat)) w0
theorem Fpalletref19_left.calls (x : Int) (n : Int) (w : World) (R : Int → World → Prop) (h : Fpalletref19_left x n w R) : Cpalletref19_left x n w R :=
  calls_of_vc (anOp_ok callable) wide Tryd.func29 [] [.i .u32] [.int .u32 x, .int .i64 n] w R (Eq.mp (show Fpalletref19_left x n w R = vcF Tryd.prog G Tryd.f29 [] [.i .u32] [.int .u32 x, .int .i64 n] w R by kernel_rfl) h)
/-- pallet/text.Find -/
def Ftext_Find (l : Sl) (k : ByteArray) (w : World) (R : ByteArray → Bool → World → Prop) : Prop :=
  ∃ (I : Int → World → Prop) (μ : Int → World → Nat), I 0 w ∧ ∀ (x : Int) (w0 : World), I x w0 → Br (decide (x < (l.n : Int))) ((0 ≤ x ∧ x < (l.n : Int) ∧ l.A.isSome = true) ∧ ∃ g : Array Value, (loadVar 35 ((gA l.A).add (x.toNat * 2))).run Tryd.prog w0 = .ok (.agg g) w0 ∧ New (.cells #[.string ⟨#[]⟩, .string ⟨#[]⟩] 35) w0 fun p w01 => RunU Tryd.prog (storeVar 35 p (.agg g)) w01 fun w02 => ∃ s : ByteArray, w02.cell? (p.add 0) = some (.string s) ∧ Br (sEq s k) (∃ s1 : ByteArray, w02.cell? (p.add 1) = some (.string s1) ∧ R s1 true w02) (I (IntKind.wrap .i64 (x + 1)) w02 ∧ μ (IntKind.wrap .i64 (x + 1)) w02 < μ x w0)) (R ⟨#[]⟩ false w0)
theorem Ftext_Find.calls (l : Sl) (k : ByteArray) (w : World) (R : ByteArray → Bool → World → Prop) (h : Ftext_Find l k w R) : Ctext_Find l k w R :=
  calls_of_vc (anOp_ok callable) wide Tryd.func30 [(6, ⟨[(10, .i .i64)], [1, 8, 9]⟩)] [.s, .b] [.slice l.A l.n l.c, .string k] w R (Eq.mp (show Ftext_Find l k w R = vcF Tryd.prog G Tryd.f30 [(6, ⟨[(10, .i .i64)], [1, 8, 9]⟩)] [.s, .b] [.slice l.A l.n l.c, .string k] w R by kernel_rfl) h)
/-- slices.Contains[[]string,string] -/
def Fslices_Contains_string_string (s : Sl) (v : ByteArray) (w : World) (R : Bool → World → Prop) : Prop :=
  Cslices_Index_string_string s v w fun n w0 => R (decide (n ≥ 0)) w0
theorem Fslices_Contains_string_string.calls (s : Sl) (v : ByteArray) (w : World) (R : Bool → World → Prop) (h : Fslices_Contains_string_string s v w R) : Cslices_Contains_string_string s v w R :=
  calls_of_vc (anOp_ok callable) wide Tryd.func31 [] [.b] [.slice s.A s.n s.c, .string v] w R (Eq.mp (show Fslices_Contains_string_string s v w R = vcF Tryd.prog G Tryd.f31 [] [.b] [.slice s.A s.n s.c, .string v] w R by kernel_rfl) h)
/-- pallet/login.one -/
def Flogin_one (k : ByteArray) (v : ByteArray) (w : World) (R : Sl → World → Prop) : Prop :=
  RunK Tryd.prog .sl (Instr.buildSlice 31 1 #[(0, .agg #[.string k, .string v])]) w fun xs w0 => R xs w0
theorem Flogin_one.calls (k : ByteArray) (v : ByteArray) (w : World) (R : Sl → World → Prop) (h : Flogin_one k v w R) : Clogin_one k v w R :=
  calls_of_vc (anOp_ok callable) wide Tryd.func33 [] [.sl] [.string k, .string v] w R (Eq.mp (show Flogin_one k v w R = vcF Tryd.prog G Tryd.f33 [] [.sl] [.string k, .string v] w R by kernel_rfl) h)
/-- strconv.Itoa -/
def Fstrconv_Itoa (i : Int) (w : World) (R : ByteArray → World → Prop) : Prop :=
  Cinternal_strconv_Itoa i w fun s w0 => R s w0
theorem Fstrconv_Itoa.calls (i : Int) (w : World) (R : ByteArray → World → Prop) (h : Fstrconv_Itoa i w R) : Cstrconv_Itoa i w R :=
  calls_of_vc (anOp_ok callable) wide Tryd.func34 [] [.s] [.int .i64 i] w R (Eq.mp (show Fstrconv_Itoa i w R = vcF Tryd.prog G Tryd.f34 [] [.s] [.int .i64 i] w R by kernel_rfl) h)
/-- pallet/chap.Hex -/
def Fchap_Hex (p : Sl) (w : World) (R : ByteArray → World → Prop) : Prop :=
  RunK Tryd.prog .sl (Instr.buildSlice 23 2 #[(0, .int .u8 48), (1, .int .u8 120)]) w fun xs w0 => RunK Tryd.prog .sl (convert 23 23 (.slice xs.A xs.n xs.c)) w0 fun xs1 w01 => ∃ (I : Sl → Int → World → Prop) (μ : Sl → Int → World → Nat), I xs1 0 w01 ∧ ∀ (out : Sl) (x : Int) (w02 : World), I out x w02 → Br (decide (x < (p.n : Int))) ((0 ≤ x ∧ x < (p.n : Int) ∧ p.A.isSome = true) ∧ ∃ n : Int, w02.cell? ((gA p.A).add (x.toNat * 1)) = some (.int .u8 n) ∧ ∀ w03, w03 = w02.drew → ∃ S : World → Prop, S w03 ∧ (0 ≤ (bShr .u8 n 4) ∧ (bShr .u8 n 4) < (s_0123456789abcdef.size : Int)) ∧ (0 ≤ (bAnd .u8 n 15) ∧ (bAnd .u8 n 15) < (s_0123456789abcdef.size : Int)) ∧ RunK Tryd.prog .sl (Instr.buildSlice 23 2 #[(0, .int .u8 (bt s_0123456789abcdef (bShr .u8 n 4))), (1, .int .u8 (bt s_0123456789abcdef (bAnd .u8 n 15)))]) w03 fun xs2 w04 => RunK Tryd.prog .sl (Builtin.append_ #[23, 23] 23 #[.slice out.A out.n out.c, .slice xs2.A xs2.n xs2.c]) w04 fun xs3 w05 => I xs3 (IntKind.wrap .i64 (x + 1)) w05 ∧ μ xs3 (IntKind.wrap .i64 (x + 1)) w05 < μ out x w02) (∃ s : ByteArray, (convert 23 9 (.slice out.A out.n out.c)).run Tryd.prog w02 = .ok (.string s) w02 ∧ R s w02)
theorem Fchap_Hex.calls (p : Sl) (w : World) (R : ByteArray → World → Prop) (h : Fchap_Hex p w R) : Cchap_Hex p w R :=
  calls_of_vc (anOp_ok callable) wide Tryd.func35 [(9, ⟨[(3, .sl), (10, .i .i64)], [8, 9]⟩)] [.s] [.slice p.A p.n p.c] w R (Eq.mp (show Fchap_Hex p w R = vcF Tryd.prog G Tryd.f35 [(9, ⟨[(3, .sl), (10, .i .i64)], [8, 9]⟩)] [.s] [.slice p.A p.n p.c] w R by kernel_rfl) h)
/-- pallet/chap.Right -/
def Fchap_Right (id_ : Int) (secret : ByteArray) (challenge : Sl) (answer : ByteArray) (w : World) (R : Bool → World → Prop) : Prop :=
  Cchap_Unhex answer w fun xs n w0 => letJ (fun (s : ByteArray) (w01 : World) => letJ (fun (s1 : ByteArray) (w02 : World) => R ((n == 0) && (sEq s s1)) w02) fun J_ => ((n == 0) = true → Cchap_Answer id_ secret challenge w01 J_) ∧ ((n == 0) = false → J_ (Kd.dflt .s) w01)) fun J_1 => ((n == 0) = true → Cchap_Hex xs w0 J_1) ∧ ((n == 0) = false → J_1 (Kd.dflt .s) w0)
theorem Fchap_Right.calls (id_ : Int) (secret : ByteArray) (challenge : Sl) (answer : ByteArray) (w : World) (R : Bool → World → Prop) (h : Fchap_Right id_ secret challenge answer w R) : Cchap_Right id_ secret challenge answer w R :=
  calls_of_vc (anOp_ok callable) wide Tryd.func36 [] [.b] [.int .u8 id_, .string secret, .slice challenge.A challenge.n challenge.c, .string answer] w R (Eq.mp (show Fchap_Right id_ secret challenge answer w R = vcF Tryd.prog G Tryd.f36 [] [.b] [.int .u8 id_, .string secret, .slice challenge.A challenge.n challenge.c, .string answer] w R by kernel_rfl) h)
/-- (*pallet/login.Login).operational -/
def Flogin_Login_operational (l : Option Addr) (k : Array Value) (w : World) (R : ByteArray → World → Prop) : Prop :=
  New (.cells k 35) w fun k1 w0 => RunK Tryd.prog .sl (Instr.buildSlice 28 1 #[(0, .string s_None)]) w0 fun xs w01 => l.isSome = true ∧ ∃ b : Bool, w01.cell? (((gA l).add 0).add 2) = some (.bool b) ∧ letX (fun (sums : Sl) (w02 : World) => ∃ s : ByteArray, w02.cell? (k1.add 0) = some (.string s) ∧ Br (sEq s s_HeaderDigest) (∃ s1 : ByteArray, w02.cell? (k1.add 1) = some (.string s1) ∧ Ctext_First s1 sums w02 fun s2 w05 => l.isSome = true ∧ Put (((gA l).add 12).add 3) (.bool (sEq s2 s_CRC32C)) w05 fun w06 => R s2 w06) (Br (sEq s s_DataDigest) (∃ s3 : ByteArray, w02.cell? (k1.add 1) = some (.string s3) ∧ Ctext_First s3 sums w02 fun s4 w08 => l.isSome = true ∧ Put (((gA l).add 12).add 4) (.bool (sEq s4 s_CRC32C)) w08 fun w09 => R s4 w09) (Br (sEq s s_MaxRecvDataSegmentLength) (∃ s5 : ByteArray, w02.cell? (k1.add 1) = some (.string s5) ∧ Ctext_Number s5 w02 fun n b1 w011 => ∃ g : Array Value, (loadVar 35 k1).run Tryd.prog w011 = .ok (.agg g) w011 ∧ Clogin_Login_told l g w011 fun n1 w012 => Br (n1 == 0) (l.isSome = true ∧ Put (((gA l).add 12).add 5) (.int .i64 (IntKind.wrap .i64 (mn n 8192))) w012 fun w014 => R s_Reject w014) (R s_Reject w012)) (Br (sEq s s_MaxBurstLength) (∃ s6 : ByteArray, w02.cell? (k1.add 1) = some (.string s6) ∧ Ctext_Least s6 65536 512 16777215 w02 fun s7 w016 => l.isSome = true ∧ ∃ n2 : Int, w016.cell? (((gA l).add 12).add 6) = some (.int .i64 n2) ∧ Clogin_size s7 n2 w016 fun n3 w017 => l.isSome = true ∧ Put (((gA l).add 12).add 6) (.int .i64 n3) w017 fun w018 => R s7 w018) (Br (sEq s s_FirstBurstLength) (∃ s8 : ByteArray, w02.cell? (k1.add 1) = some (.string s8) ∧ Ctext_Least s8 65536 512 16777215 w02 fun s9 w020 => l.isSome = true ∧ ∃ n4 : Int, w020.cell? (((gA l).add 12).add 7) = some (.int .i64 n4) ∧ Clogin_size s9 n4 w020 fun n5 w021 => l.isSome = true ∧ Put (((gA l).add 12).add 7) (.int .i64 n5) w021 fun w022 => R s9 w022) (Br (sEq s s_InitialR2T) (∃ s10 : ByteArray, w02.cell? (k1.add 1) = some (.string s10) ∧ Ctext_Either s10 false w02 fun s11 w024 => (((sEq s11 s_Reject) && (!(sEq s11 s_Yes))) = true → l.isSome = true) ∧ ∃ b2 : Bool, (((sEq s11 s_Reject) && (!(sEq s11 s_Yes))) = true → w024.cell? (((gA l).add 12).add 9) = some (.bool b2)) ∧ l.isSome = true ∧ Put (((gA l).add 12).add 9) (.bool ((sEq s11 s_Yes) || ((sEq s11 s_Reject) && b2))) w024 fun w025 => R s11 w025) (Br (sEq s s_ImmediateData) (∃ s12 : ByteArray, w02.cell? (k1.add 1) = some (.string s12) ∧ Ctext_Both s12 true w02 fun s13 w027 => (((sEq s13 s_Reject) && (!(sEq s13 s_Yes))) = true → l.isSome = true) ∧ ∃ b3 : Bool, (((sEq s13 s_Reject) && (!(sEq s13 s_Yes))) = true → w027.cell? (((gA l).add 12).add 8) = some (.bool b3)) ∧ l.isSome = true ∧ Put (((gA l).add 12).add 8) (.bool ((sEq s13 s_Yes) || ((sEq s13 s_Reject) && b3))) w027 fun w028 => R s13 w028) (letX (fun (x : Bool) (w029 : World) => Br x (∃ s14 : ByteArray, w029.cell? (k1.add 1) = some (.string s14) ∧ Ctext_Least s14 1 1 65535 w029 fun s15 w031 => R s15 w031) (Br (sEq s s_ErrorRecoveryLevel) (∃ s16 : ByteArray, w029.cell? (k1.add 1) = some (.string s16) ∧ Ctext_Least s16 0 0 2 w029 fun s17 w033 => R s17 w033) (letX (fun (x1 : Bool) (w034 : World) => Br x1 (∃ s18 : ByteArray, w034.cell? (k1.add 1) = some (.string s18) ∧ Ctext_Either s18 true w034 fun s19 w036 => R s19 w036) (R s_NotUnderstood w034)) fun J_ => Br (sEq s s_DataPDUInOrder) (J_ (sEq s s_DataPDUInOrder) w029) (J_ (sEq s s_DataSequenceInOrder) w029)))) fun J_1 => Br (sEq s s_MaxOutstandingR2T) (J_1 (sEq s s_MaxOutstandingR2T) w02) (J_1 (sEq s s_MaxConnections) w02))))))))) fun J_2 => Br b (RunK Tryd.prog .sl (Instr.buildSlice 28 2 #[(0, .string s_CRC32C), (1, .string s_None)]) w01 fun xs1 w037 => J_2 xs1 w037) (J_2 xs w01)
theorem Flogin_Login_operational.calls (l : Option Addr) (k : Array Value) (w : World) (R : ByteArray → World → Prop) (h : Flogin_Login_operational l k w R) : Clogin_Login_operational l k w R :=
  calls_of_vc (anOp_ok callable) wide Tryd.func37 [(106, ⟨[(148, .b)], [3, 6]⟩), (91, ⟨[(137, .b)], [3, 6, 17]⟩), (10, ⟨[(5, .sl)], [0, 3]⟩)] [.s] [.pointer l, .agg k] w R (Eq.mp (show Flogin_Login_operational l k w R = vcF Tryd.prog G Tryd.f37 [(106, ⟨[(148, .b)], [3, 6]⟩), (91, ⟨[(137, .b)], [3, 6, 17]⟩), (10, ⟨[(5, .sl)], [0, 3]⟩)] [.s] [.pointer l, .agg k] w R by kernel_rfl) h)
/-- (*pallet/login.Login).told -/
def Flogin_Login_told (l : Option Addr) (k : Array Value) (w : World) (R : Int → World → Prop) : Prop :=
  New (.cells k 35) w fun k1 w0 => ∃ s : ByteArray, w0.cell? (k1.add 1) = some (.string s) ∧ Ctext_Number s w0 fun n b w01 => ∃ s1 : ByteArray, w01.cell? (k1.add 0) = some (.string s1) ∧ Br ((((sEq s1 s_MaxRecvDataSegmentLength) && b) && (decide (n ≥ 512))) && (decide (n ≤ 16777215))) (R 0 w01) (R 1 w01)
theorem Flogin_Login_told.calls (l : Option Addr) (k : Array Value) (w : World) (R : Int → World → Prop) (h : Flogin_Login_told l k w R) : Clogin_Login_told l k w R :=
  calls_of_vc (anOp_ok callable) wide Tryd.func38 [] [.i .i64] [.pointer l, .agg k] w R (Eq.mp (show Flogin_Login_told l k w R = vcF Tryd.prog G Tryd.f38 [] [.i .i64] [.pointer l, .agg k] w R by kernel_rfl) h)
/-- slices.Index[[]string,string] -/
def Fslices_Index_string_string (s : Sl) (v : ByteArray) (w : World) (R : Int → World → Prop) : Prop :=
  ∃ (I : Int → World → Prop) (μ : Int → World → Nat), I 0 w ∧ ∀ (x : Int) (w0 : World), I x w0 → Br (decide (x < (s.n : Int))) ((0 ≤ x ∧ x < (s.n : Int) ∧ s.A.isSome = true) ∧ ∃ s1 : ByteArray, w0.cell? ((gA s.A).add (x.toNat * 1)) = some (.string s1) ∧ Br (sEq v s1) (R x w0) (I (IntKind.wrap .i64 (x + 1)) w0 ∧ μ (IntKind.wrap .i64 (x + 1)) w0 < μ x w0)) (R (-1) w0)
theorem Fslices_Index_string_string.calls (s : Sl) (v : ByteArray) (w : World) (R : Int → World → Prop) (h : Fslices_Index_string_string s v w R) : Cslices_Index_string_string s v w R :=
  calls_of_vc (anOp_ok callable) wide Tryd.func39 [(6, ⟨[(8, .i .i64)], [0, 1, 7]⟩)] [.i .i64] [.slice s.A s.n s.c, .string v] w R (Eq.mp (show Fslices_Index_string_string s v w R = vcF Tryd.prog G Tryd.f39 [(6, ⟨[(8, .i .i64)], [0, 1, 7]⟩)] [.i .i64] [.slice s.A s.n s.c, .string v] w R by kernel_rfl) h)
/-- strings.SplitSeq -/
def Fstrings_SplitSeq (s : ByteArray) (sep : ByteArray) (w : World) (R : Value → World → Prop) : Prop :=
  Cstrings_splitSeq s sep 0 w fun v w0 => R v w0
theorem Fstrings_SplitSeq.calls (s : ByteArray) (sep : ByteArray) (w : World) (R : Value → World → Prop) (h : Fstrings_SplitSeq s sep w R) : Cstrings_SplitSeq s sep w R :=
  calls_of_vc (anOp_ok callable) wide Tryd.func40 [] [.v] [.string s, .string sep] w R (Eq.mp (show Fstrings_SplitSeq s sep w R = vcF Tryd.prog G Tryd.f40 [] [.v] [.string s, .string sep] w R by kernel_rfl) h)
/-- internal/strconv.Itoa -/
def Finternal_strconv_Itoa (i : Int) (w : World) (R : ByteArray → World → Prop) : Prop :=
  Cinternal_strconv_FormatInt i 10 w fun s w0 => R s w0
theorem Finternal_strconv_Itoa.calls (i : Int) (w : World) (R : ByteArray → World → Prop) (h : Finternal_strconv_Itoa i w R) : Cinternal_strconv_Itoa i w R :=
  calls_of_vc (anOp_ok callable) wide Tryd.func41 [] [.s] [.int .i64 i] w R (Eq.mp (show Finternal_strconv_Itoa i w R = vcF Tryd.prog G Tryd.f41 [] [.s] [.int .i64 i] w R by kernel_rfl) h)
/-- pallet/chap.Unhex -/
def Fchap_Unhex (s : ByteArray) (w : World) (R : Sl → Int → World → Prop) : Prop :=
  ((2 : Int) ≠ 0) ∧ ((!((((s.size : Int).tmod 2) != 0) || (decide ((s.size : Int) < 2)))) = true → (0 ≤ (0 : Int) ∧ (0 : Int) ≤ (2 : Int) ∧ (2 : Int) ≤ (s.size : Int))) ∧ (((!(sEq (s.extract 0 2) s_0x)) && (!((((s.size : Int).tmod 2) != 0) || (decide ((s.size : Int) < 2))))) = true → (0 ≤ (0 : Int) ∧ (0 : Int) ≤ (2 : Int) ∧ (2 : Int) ≤ (s.size : Int))) ∧ Br (((((s.size : Int).tmod 2) != 0) || (decide ((s.size : Int) < 2))) || ((!(sEq (s.extract 0 2) s_0x)) && (!(sEq (s.extract 0 2) s_0X)))) (R (⟨none, 0, 0⟩ : Sl) 13 w) (∃ (I : Sl → Int → World → Prop) (μ : Sl → Int → World → Nat), I (⟨none, 0, 0⟩ : Sl) 2 w ∧ ∀ (out : Sl) (i : Int) (w0 : World), I out i w0 → Br (decide (i < (s.size : Int))) (∀ w01, w01 = w0.drew → ∃ S : World → Prop, S w01 ∧ (0 ≤ i ∧ i < (s.size : Int)) ∧ (0 ≤ (IntKind.wrap .i64 (i + 1)) ∧ (IntKind.wrap .i64 (i + 1)) < (s.size : Int)) ∧ Cchap_digit (bt s i) w01 fun n w02 => S w02 ∧ Cchap_digit (bt s (IntKind.wrap .i64 (i + 1))) w02 fun n1 w03 => Br ((decide (n < 0)) || (decide (n1 < 0))) (R (⟨none, 0, 0⟩ : Sl) 13 w03) (RunK Tryd.prog .sl (Instr.buildSlice 23 1 #[(0, .int .u8 (IntKind.wrap .u8 (bOr .i64 (bShl .i64 n 4) n1)))]) w03 fun xs w04 => RunK Tryd.prog .sl (Builtin.append_ #[23, 23] 23 #[.slice out.A out.n out.c, .slice xs.A xs.n xs.c]) w04 fun xs1 w05 => I xs1 (IntKind.wrap .i64 (i + 2)) w05 ∧ μ xs1 (IntKind.wrap .i64 (i + 2)) w05 < μ out i w0)) (R out 0 w0))
theorem Fchap_Unhex.calls (s : ByteArray) (w : World) (R : Sl → Int → World → Prop) (h : Fchap_Unhex s w R) : Cchap_Unhex s w R :=
  calls_of_vc (anOp_ok callable) wide Tryd.func42 [(15, ⟨[(4, .sl), (5, .i .i64)], [0]⟩)] [.sl, .i .i64] [.string s] w R (Eq.mp (show Fchap_Unhex s w R = vcF Tryd.prog G Tryd.f42 [(15, ⟨[(4, .sl), (5, .i .i64)], [0]⟩)] [.sl, .i .i64] [.string s] w R by kernel_rfl) h)
/-- pallet/chap.Answer -/
def Fchap_Answer (id_ : Int) (secret : ByteArray) (challenge : Sl) (w : World) (R : ByteArray → World → Prop) : Prop :=
  RunK Tryd.prog .sl (Instr.buildSlice 23 1 #[(0, .int .u8 id_)]) w fun xs w0 => RunK Tryd.prog .sl (Builtin.append_ #[23, 9] 23 #[.slice xs.A xs.n xs.c, .string secret]) w0 fun xs1 w01 => RunK Tryd.prog .sl (Builtin.append_ #[23, 23] 23 #[.slice xs1.A xs1.n xs1.c, .slice challenge.A challenge.n challenge.c]) w01 fun xs2 w02 => Cchap_Sum xs2 w02 fun g w03 => New (.cells #[.int .u8 0, .int .u8 0, .int .u8 0, .int .u8 0, .int .u8 0, .int .u8 0, .int .u8 0, .int .u8 0, .int .u8 0, .int .u8 0, .int .u8 0, .int .u8 0, .int .u8 0, .int .u8 0, .int .u8 0, .int .u8 0] 95) w03 fun s w04 => RunU Tryd.prog (storeVar 95 s (.agg g)) w04 fun w05 => (0 ≤ (0 : Int) ∧ (0 : Int) ≤ (16 : Int) ∧ (16 : Int) ≤ (16 : Int)) ∧ Cchap_Hex ⟨(some (if 16 = 0 then s else s.add (0 * 1))), (16 - 0), (16 - 0)⟩ w05 fun s1 w06 => R s1 w06
theorem Fchap_Answer.calls (id_ : Int) (secret : ByteArray) (challenge : Sl) (w : World) (R : ByteArray → World → Prop) (h : Fchap_Answer id_ secret challenge w R) : Cchap_Answer id_ secret challenge w R :=
  calls_of_vc (anOp_ok callable) wide Tryd.func43 [] [.s] [.int .u8 id_, .string secret, .slice challenge.A challenge.n challenge.c] w R (Eq.mp (show Fchap_Answer id_ secret challenge w R = vcF Tryd.prog G Tryd.f43 [] [.s] [.int .u8 id_, .string secret, .slice challenge.A challenge.n challenge.c] w R by kernel_rfl) h)
/-- pallet/text.Number -/
def Ftext_Number (s : ByteArray) (w : World) (R : Int → Bool → World → Prop) : Prop :=
  Cstrings_CutPrefix s s_0x w fun s1 b w0 => Br b (∃ (I : Int → World → Prop) (μ : Int → World → Nat), I 0 w0 ∧ ∀ (x : Int) (w01 : World), I x w01 → Br (decide (x < (s1.size : Int))) ((0 ≤ x ∧ x < (s1.size : Int)) ∧ ((!((bt s1 x) == 95)) = true → (0 ≤ x ∧ x < (s1.size : Int))) ∧ ((!(((bt s1 x) == 95) || ((bt s1 x) == 43))) = true → (0 ≤ x ∧ x < (s1.size : Int))) ∧ Br ((((bt s1 x) == 95) || ((bt s1 x) == 43)) || ((bt s1 x) == 45)) (R 0 false w01) (I (IntKind.wrap .i64 (x + 1)) w01 ∧ μ (IntKind.wrap .i64 (x + 1)) w01 < μ x w01)) (Ctext_parsed s1 16 w01 fun n b1 w02 => R n b1 w02)) (∃ (I1 : Int → World → Prop) (μ1 : Int → World → Nat), I1 0 w0 ∧ ∀ (x1 : Int) (w03 : World), I1 x1 w03 → Br (decide (x1 < (s.size : Int))) ((0 ≤ x1 ∧ x1 < (s.size : Int)) ∧ ((!(decide ((bt s x1) < 48))) = true → (0 ≤ x1 ∧ x1 < (s.size : Int))) ∧ Br ((decide ((bt s x1) < 48)) || (decide ((bt s x1) > 57))) (R 0 false w03) (I1 (IntKind.wrap .i64 (x1 + 1)) w03 ∧ μ1 (IntKind.wrap .i64 (x1 + 1)) w03 < μ1 x1 w03)) ((decide ((s.size : Int) > 1) = true → (0 ≤ (0 : Int) ∧ (0 : Int) < (s.size : Int))) ∧ Br ((decide ((s.size : Int) > 1)) && ((bt s 0) == 48)) (R 0 false w03) (Ctext_parsed s 10 w03 fun n1 b2 w04 => R n1 b2 w04)))
theorem Ftext_Number.calls (s : ByteArray) (w : World) (R : Int → Bool → World → Prop) (h : Ftext_Number s w R) : Ctext_Number s w R :=
  calls_of_vc (anOp_ok callable) wide Tryd.func44 [(12, ⟨[(16, .i .i64)], [4, 15]⟩), (33, ⟨[(42, .i .i64)], [0, 41]⟩)] [.i .u64, .b] [.string s] w R (Eq.mp (show Ftext_Number s w R = vcF Tryd.prog G Tryd.f44 [(12, ⟨[(16, .i .i64)], [4, 15]⟩), (33, ⟨[(42, .i .i64)], [0, 41]⟩)] [.i .u64, .b] [.string s] w R by kernel_rfl) h)
/-- pallet/text.Least -/
def Ftext_Least (offer : ByteArray) (own : Int) (low : Int) (high : Int) (w : World) (R : ByteArray → World → Prop) : Prop :=
  Ctext_Number offer w fun n b w0 => Br (((!b) || (decide (n < low))) || (decide (n > high))) (R s_Reject w0) (Cstrconv_FormatUint (mn n own) 10 w0 fun s w01 => R s w01)
theorem Ftext_Least.calls (offer : ByteArray) (own : Int) (low : Int) (high : Int) (w : World) (R : ByteArray → World → Prop) (h : Ftext_Least offer own low high w R) : Ctext_Least offer own low high w R :=
  calls_of_vc (anOp_ok callable) wide Tryd.func45 [] [.s] [.string offer, .int .u64 own, .int .u64 low, .int .u64 high] w R (Eq.mp (show Ftext_Least offer own low high w R = vcF Tryd.prog G Tryd.f45 [] [.s] [.string offer, .int .u64 own, .int .u64 low, .int .u64 high] w R by kernel_rfl) h)
/-- pallet/login.size -/
def Flogin_size (out : ByteArray) (was : Int) (w : World) (R : Int → World → Prop) : Prop :=
  Ctext_Number out w fun n b w0 => Br (!b) (R was w0) (R (IntKind.wrap .i64 n) w0)
theorem Flogin_size.calls (out : ByteArray) (was : Int) (w : World) (R : Int → World → Prop) (h : Flogin_size out was w R) : Clogin_size out was w R :=
  calls_of_vc (anOp_ok callable) wide Tryd.func46 [] [.i .i64] [.string out, .int .i64 was] w R (Eq.mp (show Flogin_size out was w R = vcF Tryd.prog G Tryd.f46 [] [.i .i64] [.string out, .int .i64 was] w R by kernel_rfl) h)
/-- pallet/text.Either -/
def Ftext_Either (offer : ByteArray) (own : Bool) (w : World) (R : ByteArray → World → Prop) : Prop :=
  Ctext_yes offer ((sEq offer s_Yes) || own) w fun s w0 => R s w0
theorem Ftext_Either.calls (offer : ByteArray) (own : Bool) (w : World) (R : ByteArray → World → Prop) (h : Ftext_Either offer own w R) : Ctext_Either offer own w R :=
  calls_of_vc (anOp_ok callable) wide Tryd.func47 [] [.s] [.string offer, .bool own] w R (Eq.mp (show Ftext_Either offer own w R = vcF Tryd.prog G Tryd.f47 [] [.s] [.string offer, .bool own] w R by kernel_rfl) h)
/-- pallet/text.Both -/
def Ftext_Both (offer : ByteArray) (own : Bool) (w : World) (R : ByteArray → World → Prop) : Prop :=
  Ctext_yes offer ((sEq offer s_Yes) && own) w fun s w0 => R s w0
theorem Ftext_Both.calls (offer : ByteArray) (own : Bool) (w : World) (R : ByteArray → World → Prop) (h : Ftext_Both offer own w R) : Ctext_Both offer own w R :=
  calls_of_vc (anOp_ok callable) wide Tryd.func48 [] [.s] [.string offer, .bool own] w R (Eq.mp (show Ftext_Both offer own w R = vcF Tryd.prog G Tryd.f48 [] [.s] [.string offer, .bool own] w R by kernel_rfl) h)
/-- strings.splitSeq -/
def Fstrings_splitSeq (s : ByteArray) (sep : ByteArray) (sepSave : Int) (w : World) (R : Value → World → Prop) : Prop :=
  New (.cells #[.string s] 9) w fun s1 w0 => New (.cells #[.string sep] 9) w0 fun sep1 w01 => New (.cells #[.int .i64 sepSave] 3) w01 fun sepSave1 w02 => R (.func (.func 57) #[] #[.pointer (some sep1), .pointer (some s1), .pointer (some sepSave1)]) w02
theorem Fstrings_splitSeq.calls (s : ByteArray) (sep : ByteArray) (sepSave : Int) (w : World) (R : Value → World → Prop) (h : Fstrings_splitSeq s sep sepSave w R) : Cstrings_splitSeq s sep sepSave w R :=
  calls_of_vc (anOp_ok callable) wide Tryd.func49 [] [.v] [.string s, .string sep, .int .i64 sepSave] w R (Eq.mp (show Fstrings_splitSeq s sep sepSave w R = vcF Tryd.prog G Tryd.f49 [] [.v] [.string s, .string sep, .int .i64 sepSave] w R by kernel_rfl) h)
/-- internal/strconv.FormatInt -/
def Finternal_strconv_FormatInt (i : Int) (base : Int) (w : World) (R : ByteArray → World → Prop) : Prop :=
  Br (base == 10) (Br ((decide ((0 : Int) ≤ i)) && (decide (i < 100))) (Cinternal_strconv_small i w fun s w0 => R s w0) (New (.cells #[.int .u8 0, .int .u8 0, .int .u8 0, .int .u8 0, .int .u8 0, .int .u8 0, .int .u8 0, .int .u8 0, .int .u8 0, .int .u8 0, .int .u8 0, .int .u8 0, .int .u8 0, .int .u8 0, .int .u8 0, .int .u8 0, .int .u8 0, .int .u8 0, .int .u8 0, .int .u8 0, .int .u8 0, .int .u8 0, .int .u8 0, .int .u8 0] 104) w fun a w01 => letX (fun (u : Int) (w02 : World) => Cinternal_strconv_numDigits u w02 fun n w03 => (0 ≤ (1 : Int) ∧ (1 : Int) ≤ (IntKind.wrap .i64 (1 + n)) ∧ (IntKind.wrap .i64 (1 + n)) ≤ (24 : Int)) ∧ Cinternal_strconv_formatBase10 ⟨(some (if 24 = 1 then a else a.add (1 * 1))), ((IntKind.wrap .i64 (1 + n)).toNat - 1), (24 - 1)⟩ u w03 fun w04 => Br (decide (i < 0)) ((0 ≤ (0 : Int) ∧ (0 : Int) < (24 : Int)) ∧ Put (a.add ((0 : Int).toNat * 1)) (.int .u8 45) w04 fun w05 => (0 ≤ (0 : Int) ∧ (0 : Int) ≤ (IntKind.wrap .i64 (1 + n)) ∧ (IntKind.wrap .i64 (1 + n)) ≤ (24 : Int)) ∧ ∃ s1 : ByteArray, (convert 23 9 (.slice (some (if 24 = 0 then a else a.add (0 * 1))) ((IntKind.wrap .i64 (1 + n)).toNat - 0) (24 - 0))).run Tryd.prog w05 = .ok (.string s1) w05 ∧ R s1 w05) ((0 ≤ (1 : Int) ∧ (1 : Int) ≤ (IntKind.wrap .i64 (1 + n)) ∧ (IntKind.wrap .i64 (1 + n)) ≤ (24 : Int)) ∧ ∃ s2 : ByteArray, (convert 23 9 (.slice (some (if 24 = 1 then a else a.add (1 * 1))) ((IntKind.wrap .i64 (1 + n)).toNat - 1) (24 - 1))).run Tryd.prog w04 = .ok (.string s2) w04 ∧ R s2 w04)) fun J_ => Br (decide (i < 0)) (J_ (IntKind.wrap .u64 (0 - (IntKind.wrap .u64 i))) w01) (J_ (IntKind.wrap .u64 i) w01))) (Cinternal_strconv_formatBits ⟨none, 0, 0⟩ (IntKind.wrap .u64 i) base (decide (i < 0)) false w fun xs s3 w06 => R s3 w06)
theorem Finternal_strconv_FormatInt.calls (i : Int) (base : Int) (w : World) (R : ByteArray → World → Prop) (h : Finternal_strconv_FormatInt i base w R) : Cinternal_strconv_FormatInt i base w R :=
  calls_of_vc (anOp_ok callable) wide Tryd.func50 [(22, ⟨[(6, .i .u64)], [0, 5]⟩)] [.s] [.int .i64 i, .int .i64 base] w R (Eq.mp (show Finternal_strconv_FormatInt i base w R = vcF Tryd.prog G Tryd.f50 [(22, ⟨[(6, .i .u64)], [0, 5]⟩)] [.s] [.int .i64 i, .int .i64 base] w R by kernel_rfl) h)
/-- pallet/chap.digit -/
def Fchap_digit (b : Int) (w : World) (R : Int → World → Prop) : Prop :=
  Br ((decide (b ≥ 48)) && (decide (b ≤ 57))) (R (IntKind.wrap .i64 (IntKind.wrap .u8 (b - 48))) w) (Br ((decide (b ≥ 97)) && (decide (b ≤ 102))) (R (IntKind.wrap .i64 ((IntKind.wrap .i64 (IntKind.wrap .u8 (b - 97))) + 10)) w) (Br ((decide (b ≥ 65)) && (decide (b ≤ 70))) (R (IntKind.wrap .i64 ((IntKind.wrap .i64 (IntKind.wrap .u8 (b - 65))) + 10)) w) (R (-1) w)))
theorem Fchap_digit.calls (b : Int) (w : World) (R : Int → World → Prop) (h : Fchap_digit b w R) : Cchap_digit b w R :=
  calls_of_vc (anOp_ok callable) wide Tryd.func51 [] [.i .i64] [.int .u8 b] w R (Eq.mp (show Fchap_digit b w R = vcF Tryd.prog G Tryd.f51 [] [.i .i64] [.int .u8 b] w R by kernel_rfl) h)
/-- pallet/chap.Sum -/
def Fchap_Sum (p : Sl) (w : World) (R : (Array Value) → World → Prop) : Prop :=
  New (.cells #[.int .u8 0, .int .u8 0, .int .u8 0, .int .u8 0, .int .u8 0, .int .u8 0, .int .u8 0, .int .u8 0, .int .u8 0, .int .u8 0, .int .u8 0, .int .u8 0, .int .u8 0, .int .u8 0, .int .u8 0, .int .u8 0] 95) w fun a w0 => RunK Tryd.prog .sl (Builtin.append_ #[23, 23] 23 #[.slice none 0 0, .slice p.A p.n p.c]) w0 fun xs w01 => RunK Tryd.prog .sl (Instr.buildSlice 23 1 #[(0, .int .u8 128)]) w01 fun xs1 w02 => RunK Tryd.prog .sl (Builtin.append_ #[23, 23] 23 #[.slice xs.A xs.n xs.c, .slice xs1.A xs1.n xs1.c]) w02 fun xs2 w03 => ∃ (I : Sl → World → Prop) (μ : Sl → World → Nat), I xs2 w03 ∧ ∀ (q : Sl) (w04 : World), I q w04 → ((64 : Int) ≠ 0) ∧ Br (((q.n : Int).tmod 64) != 56) (RunK Tryd.prog .sl (Instr.buildSlice 23 1 #[(0, .int .u8 0)]) w04 fun xs3 w05 => RunK Tryd.prog .sl (Builtin.append_ #[23, 23] 23 #[.slice q.A q.n q.c, .slice xs3.A xs3.n xs3.c]) w05 fun xs4 w06 => I xs4 w06 ∧ μ xs4 w06 < μ q w04) (∃ (I1 : Sl → Int → World → Prop) (μ1 : Sl → Int → World → Nat), I1 q 0 w04 ∧ ∀ (q1 : Sl) (x : Int) (w07 : World), I1 q1 x w07 → Br (decide (x < 8)) ((0 ≤ (IntKind.wrap .i64 (8 * x))) ∧ RunK Tryd.prog .sl (Instr.buildSlice 23 1 #[(0, .int .u8 (IntKind.wrap .u8 (bShr .u64 (IntKind.wrap .u64 ((IntKind.wrap .u64 (p.n : Int)) * 8)) (IntKind.wrap .i64 (8 * x)).toNat)))]) w07 fun xs5 w08 => RunK Tryd.prog .sl (Builtin.append_ #[23, 23] 23 #[.slice q1.A q1.n q1.c, .slice xs5.A xs5.n xs5.c]) w08 fun xs6 w09 => I1 xs6 (IntKind.wrap .i64 (x + 1)) w09 ∧ μ1 xs6 (IntKind.wrap .i64 (x + 1)) w09 < μ1 q1 x w07) (New (.cells #[.int .u32 0, .int .u32 0, .int .u32 0, .int .u32 0] 109) w07 fun h_ w010 => RunU Tryd.prog (storeVar 109 h_ (.agg #[.int .u32 1732584193, .int .u32 4023233417, .int .u32 2562383102, .int .u32 271733878])) w010 fun w011 => ∃ (I2 : Sl → World → Prop) (μ2 : Sl → World → Nat), I2 q1 w011 ∧ ∀ (q2 : Sl) (w012 : World), I2 q2 w012 → Br (decide ((q2.n : Int) > 0)) (∃ g : Array Value, (loadVar 109 h_).run Tryd.prog w012 = .ok (.agg g) w012 ∧ Cchap_turn g q2 w012 fun g1 w013 => RunU Tryd.prog (storeVar 109 h_ (.agg g1)) w013 fun w014 => (0 ≤ (64 : Int) ∧ (64 : Int) ≤ (q2.n : Int) ∧ (q2.n : Int) ≤ (q2.c : Int) ∧ q2.n ≤ q2.c) ∧ I2 (⟨(cutA q2.A q2.c 64 1), (((q2.n : Int)).toNat - 64), (q2.c - 64)⟩ : Sl) w014 ∧ μ2 (⟨(cutA q2.A q2.c 64 1), (((q2.n : Int)).toNat - 64), (q2.c - 64)⟩ : Sl) w014 < μ2 q2 w012) (New (.cells #[.int .u8 0, .int .u8 0, .int .u8 0, .int .u8 0, .int .u8 0, .int .u8 0, .int .u8 0, .int .u8 0, .int .u8 0, .int .u8 0, .int .u8 0, .int .u8 0, .int .u8 0, .int .u8 0, .int .u8 0, .int .u8 0] 95) w012 fun out w015 => ∃ (I3 : Int → World → Prop) (μ3 : Int → World → Nat), I3 0 w015 ∧ ∀ (x1 : Int) (w016 : World), I3 x1 w016 → Br (decide (x1 < 16)) (((4 : Int) ≠ 0) ∧ (0 ≤ (IntKind.wrap .i64 (x1.tdiv 4)) ∧ (IntKind.wrap .i64 (x1.tdiv 4)) < (4 : Int)) ∧ ∃ n : Int, w016.cell? (h_.add ((IntKind.wrap .i64 (x1.tdiv 4)).toNat * 1)) = some (.int .u32 n) ∧ ((4 : Int) ≠ 0) ∧ (0 ≤ (IntKind.wrap .i64 (8 * (x1.tmod 4)))) ∧ (0 ≤ x1 ∧ x1 < (16 : Int)) ∧ Put (out.add (x1.toNat * 1)) (.int .u8 (IntKind.wrap .u8 (bShr .u32 n (IntKind.wrap .i64 (8 * (x1.tmod 4))).toNat))) w016 fun w017 => I3 (IntKind.wrap .i64 (x1 + 1)) w017 ∧ μ3 (IntKind.wrap .i64 (x1 + 1)) w017 < μ3 x1 w016) (∃ g2 : Array Value, (loadVar 95 out).run Tryd.prog w016 = .ok (.agg g2) w016 ∧ RunU Tryd.prog (storeVar 95 a (.agg g2)) w016 fun w018 => ∃ res : Array Value, (loadVar 95 a).run Tryd.prog w018 = .ok (.agg res) w018 ∧ R res w018))))
theorem Fchap_Sum.calls (p : Sl) (w : World) (R : (Array Value) → World → Prop) (h : Fchap_Sum p w R) : Cchap_Sum p w R :=
  calls_of_vc (anOp_ok callable) wide Tryd.func52 [(6, ⟨[(3, .sl)], [0, 2]⟩), (18, ⟨[(3, .sl), (24, .i .i64)], [2, 4]⟩), (33, ⟨[(3, .sl)], [2, 6]⟩), (48, ⟨[(45, .i .i64)], [2, 6, 7]⟩)] [.ag] [.slice p.A p.n p.c] w R (Eq.mp (show Fchap_Sum p w R = vcF Tryd.prog G Tryd.f52 [(6, ⟨[(3, .sl)], [0, 2]⟩), (18, ⟨[(3, .sl), (24, .i .i64)], [2, 4]⟩), (33, ⟨[(3, .sl)], [2, 6]⟩), (48, ⟨[(45, .i .i64)], [2, 6, 7]⟩)] [.ag] [.slice p.A p.n p.c] w R by kernel_rfl) h)
/-- strings.CutPrefix -/
def Fstrings_CutPrefix (s : ByteArray) (prefix_ : ByteArray) (w : World) (R : ByteArray → Bool → World → Prop) : Prop :=
  Cinternal_stringslite_CutPrefix s prefix_ w fun s1 b w0 => R s1 b w0
theorem Fstrings_CutPrefix.calls (s : ByteArray) (prefix_ : ByteArray) (w : World) (R : ByteArray → Bool → World → Prop) (h : Fstrings_CutPrefix s prefix_ w R) : Cstrings_CutPrefix s prefix_ w R :=
  calls_of_vc (anOp_ok callable) wide Tryd.func53 [] [.s, .b] [.string s, .string prefix_] w R (Eq.mp (show Fstrings_CutPrefix s prefix_ w R = vcF Tryd.prog G Tryd.f53 [] [.s, .b] [.string s, .string prefix_] w R by kernel_rfl) h)
/-- pallet/text.parsed -/
def Ftext_parsed (s : ByteArray) (base : Int) (w : World) (R : Int → Bool → World → Prop) : Prop :=
  Cstrconv_ParseUint s base 64 w fun n v w0 => ∃ b : Bool, (do eqGuard .neq 112 (.tmp 14) (.const .nilIface) v .nilIface; binOp .neq 112 v .nilIface : Sem Value).run Tryd.prog w0 = .ok (.bool b) w0 ∧ Br b (R 0 false w0) (R n true w0)
theorem Ftext_parsed.calls (s : ByteArray) (base : Int) (w : World) (R : Int → Bool → World → Prop) (h : Ftext_parsed s base w R) : Ctext_parsed s base w R :=
  calls_of_vc (anOp_ok callable) wide Tryd.func54 [] [.i .u64, .b] [.string s, .int .i64 base] w R (Eq.mp (show Ftext_parsed s base w R = vcF Tryd.prog G Tryd.f54 [] [.i .u64, .b] [.string s, .int .i64 base] w R by kernel_rfl) h)
/-- strconv.FormatUint -/
def Fstrconv_FormatUint (i : Int) (base : Int) (w : World) (R : ByteArray → World → Prop) : Prop :=
  Cinternal_strconv_FormatUint i base w fun s w0 => R s w0
theorem Fstrconv_FormatUint.calls (i : Int) (base : Int) (w : World) (R : ByteArray → World → Prop) (h : Fstrconv_FormatUint i base w R) : Cstrconv_FormatUint i base w R :=
  calls_of_vc (anOp_ok callable) wide Tryd.func55 [] [.s] [.int .u64 i, .int .i64 base] w R (Eq.mp (show Fstrconv_FormatUint i base w R = vcF Tryd.prog G Tryd.f55 [] [.s] [.int .u64 i, .int .i64 base] w R by kernel_rfl) h)
/-- pallet/text.yes -/
def Ftext_yes (offer : ByteArray) (is : Bool) (w : World) (R : ByteArray → World → Prop) : Prop :=
  Br ((!(sEq offer s_Yes)) && (!(sEq offer s_No))) (R s_Reject w) (Br is (R s_Yes w) (R s_No w))
theorem Ftext_yes.calls (offer : ByteArray) (is : Bool) (w : World) (R : ByteArray → World → Prop) (h : Ftext_yes offer is w R) : Ctext_yes offer is w R :=
  calls_of_vc (anOp_ok callable) wide Tryd.func56 [] [.s] [.string offer, .bool is] w R (Eq.mp (show Ftext_yes offer is w R = vcF Tryd.prog G Tryd.f56 [] [.s] [.string offer, .bool is] w R by kernel_rfl) h)
/-- strings.splitSeq$1 -/
def Fstrings_splitSeq_1 (yield : Value) (fv : Addr) (fv1 : Addr) (fv2 : Addr) (w : World) (R : World → Prop) : Prop :=
  ∃ s : ByteArray, w.cell? fv = some (.string s) ∧ Br ((s.size : Int) == 0) (∃ (I : World → Prop) (μ : World → Nat), I w ∧ ∀ (w0 : World), I w0 → ∃ s1 : ByteArray, w0.cell? fv1 = some (.string s1) ∧ Br (decide ((s1.size : Int) > 0)) (∃ s2 : ByteArray, w0.cell? fv1 = some (.string s2) ∧ Cunicode_utf8_DecodeRuneInString s2 w0 fun n n1 w01 => ∃ s3 : ByteArray, w01.cell? fv1 = some (.string s3) ∧ (0 ≤ (0 : Int) ∧ (0 : Int) ≤ n1 ∧ n1 ≤ (s3.size : Int)) ∧ CallV Tryd.prog cs yield #[.string (s3.extract 0 n1.toNat)] w01 [.b] fun b w02 => Br (!b) (R w02) (∃ s4 : ByteArray, w02.cell? fv1 = some (.string s4) ∧ (0 ≤ n1 ∧ n1 ≤ (s4.size : Int) ∧ (s4.size : Int) ≤ (s4.size : Int)) ∧ Put fv1 (.string (s4.extract n1.toNat ((s4.size : Int)).toNat)) w02 fun w03 => I w03 ∧ μ w03 < μ w0)) (R w0)) (∃ (I1 : World → Prop) (μ1 : World → Nat), I1 w ∧ ∀ (w04 : World), I1 w04 → ∃ s5 : ByteArray, w04.cell? fv1 = some (.string s5) ∧ ∃ s6 : ByteArray, w04.cell? fv = some (.string s6) ∧ Cstrings_Index s5 s6 w04 fun n2 w05 => Br (decide (n2 < 0)) (∃ s7 : ByteArray, w05.cell? fv1 = some (.string s7) ∧ CallV Tryd.prog cs yield #[.string s7] w05 [.b] fun b1 w06 => R w06) (∃ s8 : ByteArray, w05.cell? fv1 = some (.string s8) ∧ ∃ n3 : Int, w05.cell? fv2 = some (.int .i64 n3) ∧ (0 ≤ (0 : Int) ∧ (0 : Int) ≤ (IntKind.wrap .i64 (n2 + n3)) ∧ (IntKind.wrap .i64 (n2 + n3)) ≤ (s8.size : Int)) ∧ CallV Tryd.prog cs yield #[.string (s8.extract 0 (IntKind.wrap .i64 (n2 + n3)).toNat)] w05 [.b] fun b2 w07 => Br (!b2) (R w07) (∃ s9 : ByteArray, w07.cell? fv1 = some (.string s9) ∧ ∃ s10 : ByteArray, w07.cell? fv = some (.string s10) ∧ (0 ≤ (IntKind.wrap .i64 (n2 + (s10.size : Int))) ∧ (IntKind.wrap .i64 (n2 + (s10.size : Int))) ≤ (s9.size : Int) ∧ (s9.size : Int) ≤ (s9.size : Int)) ∧ Put fv1 (.string (s9.extract (IntKind.wrap .i64 (n2 + (s10.size : Int))).toNat ((s9.size : Int)).toNat)) w07 fun w08 => I1 w08 ∧ μ1 w08 < μ1 w04)))
theorem Fstrings_splitSeq_1.calls (yield : Value) (fv : Addr) (fv1 : Addr) (fv2 : Addr) (w : World) (R : World → Prop) (h : Fstrings_splitSeq_1 yield fv fv1 fv2 w R) : Cstrings_splitSeq_1 yield fv fv1 fv2 w R :=
  calls_of_vc (anOp_ok callable) wide Tryd.func57 [(3, ⟨[], [0, 2]⟩), (15, ⟨[], [0, 1, 2, 3]⟩)] [] [yield, .pointer (some fv), .pointer (some fv1), .pointer (some fv2)] w R (Eq.mp (show Fstrings_splitSeq_1 yield fv fv1 fv2 w R = vcF Tryd.prog G Tryd.f57 [(3, ⟨[], [0, 2]⟩), (15, ⟨[], [0, 1, 2, 3]⟩)] [] [yield, .pointer (some fv), .pointer (some fv1), .pointer (some fv2)] w R by kernel_rfl) h)
/-- unicode/utf8.DecodeRuneInString -/
def Funicode_utf8_DecodeRuneInString (s : ByteArray) (w : World) (R : Int → Int → World → Prop) : Prop :=
  ((!(sEq s ⟨#[]⟩)) = true → (0 ≤ (0 : Int) ∧ (0 : Int) < (s.size : Int))) ∧ Br ((!(sEq s ⟨#[]⟩)) && (decide ((bt s 0) < 128))) ((0 ≤ (0 : Int) ∧ (0 : Int) < (s.size : Int)) ∧ R (IntKind.wrap .i32 (bt s 0)) 1 w) (Cunicode_utf8_decodeRuneInStringSlow s w fun n n1 w0 => R n n1 w0)
theorem Funicode_utf8_DecodeRuneInString.calls (s : ByteArray) (w : World) (R : Int → Int → World → Prop) (h : Funicode_utf8_DecodeRuneInString s w R) : Cunicode_utf8_DecodeRuneInString s w R :=
  calls_of_vc (anOp_ok callable) wide Tryd.func58 [] [.i .i32, .i .i64] [.string s] w R (Eq.mp (show Funicode_utf8_DecodeRuneInString s w R = vcF Tryd.prog G Tryd.f58 [] [.i .i32, .i .i64] [.string s] w R by kernel_rfl) h)
/-- strings.Index -/
def Fstrings_Index (s : ByteArray) (substr : ByteArray) (w : World) (R : Int → World → Prop) : Prop :=
  Cinternal_stringslite_Index s substr w fun n w0 => R n w0
theorem Fstrings_Index.calls (s : ByteArray) (substr : ByteArray) (w : World) (R : Int → World → Prop) (h : Fstrings_Index s substr w R) : Cstrings_Index s substr w R :=
  calls_of_vc (anOp_ok callable) wide Tryd.func59 [] [.i .i64] [.string s, .string substr] w R (Eq.mp (show Fstrings_Index s substr w R = vcF Tryd.prog G Tryd.f59 [] [.i .i64] [.string s, .string substr] w R by kernel_rfl) h)
/-- internal/strconv.small -/
def Finternal_strconv_small (i : Int) (w : World) (R : ByteArray → World → Prop) : Prop :=
  Br (decide (i < 10)) ((0 ≤ i ∧ i ≤ (IntKind.wrap .i64 (i + 1)) ∧ (IntKind.wrap .i64 (i + 1)) ≤ (s_0123456789abcdefghijklmnopqrstuv.size : Int)) ∧ R (s_0123456789abcdefghijklmnopqrstuv.extract i.toNat (IntKind.wrap .i64 (i + 1)).toNat) w) ((0 ≤ (IntKind.wrap .i64 (i * 2)) ∧ (IntKind.wrap .i64 (i * 2)) ≤ (IntKind.wrap .i64 ((IntKind.wrap .i64 (i * 2)) + 2)) ∧ (IntKind.wrap .i64 ((IntKind.wrap .i64 (i * 2)) + 2)) ≤ (s_00010203040506070809101112131415.size : Int)) ∧ R (s_00010203040506070809101112131415.extract (IntKind.wrap .i64 (i * 2)).toNat (IntKind.wrap .i64 ((IntKind.wrap .i64 (i * 2)) + 2)).toNat) w)
theorem Finternal_strconv_small.calls (i : Int) (w : World) (R : ByteArray → World → Prop) (h : Finternal_strconv_small i w R) : Cinternal_strconv_small i w R :=
  calls_of_vc (anOp_ok callable) wide Tryd.func60 [] [.s] [.int .i64 i] w R (Eq.mp (show Finternal_strconv_small i w R = vcF Tryd.prog G Tryd.f60 [] [.s] [.int .i64 i] w R by kernel_rfl) h)
/-- internal/strconv.numDigits -/
def Finternal_strconv_numDigits (d : Int) (w : World) (R : Int → World → Prop) : Prop :=
  Cmath_bits_Len64 d w fun n w0 => Cinternal_strconv_log10Pow2 n w0 fun n1 w01 => (0 ≤ n1 ∧ n1 < (20 : Int)) ∧ ∃ n2 : Int, w01.cell? ((⟨0, 0, none⟩ : Addr).add (n1.toNat * 1)) = some (.int .u64 n2) ∧ Cinternal_strconv_bool2_int (decide (d ≥ n2)) w01 fun n3 w02 => R (IntKind.wrap .i64 (n1 + n3)) w02
theorem Finternal_strconv_numDigits.calls (d : Int) (w : World) (R : Int → World → Prop) (h : Finternal_strconv_numDigits d w R) : Cinternal_strconv_numDigits d w R :=
  calls_of_vc (anOp_ok callable) wide Tryd.func61 [] [.i .i64] [.int .u64 d] w R (Eq.mp (show Finternal_strconv_numDigits d w R = vcF Tryd.prog G Tryd.f61 [] [.i .i64] [.int .u64 d] w R by kernel_rfl) h)
end Go.Proofs.YtjfjanogfakclaaDoor

-- printed by wip/cf/cfprint.py
namespace Go.Proofs.YtjfjanogfakclaaDoor
open Go CF
set_option linter.unusedVariables false
set_option maxRecDepth 100000
/-- internal/strconv.formatBits -/
def Finternal_strconv_formatBits (dst : Sl) (u : Int) (base : Int) (neg : Bool) (append_ : Bool) (w : World) (R : Sl → ByteArray → World → Prop) : Prop :=
  letX (fun (w0 : World) => New (.cells #[.int .u8 0, .int .u8 0, .int .u8 0, .int .u8 0, .int .u8 0, .int .u8 0, .int .u8 0, .int .u8 0, .int .u8 0, .int .u8 0, .int .u8 0, .int .u8 0, .int .u8 0, .int .u8 0, .int .u8 0, .int .u8 0, .int .u8 0, .int .u8 0, .int .u8 0, .int .u8 0, .int .u8 0, .int .u8 0, .int .u8 0, .int .u8 0, .int .u8 0, .int .u8 0, .int .u8 0, .int .u8 0, .int .u8 0, .int .u8 0, .int .u8 0, .int .u8 0, .int .u8 0, .int .u8 0, .int .u8 0, .int .u8 0, .int .u8 0, .int .u8 0, .int .u8 0, .int .u8 0, .int .u8 0, .int .u8 0, .int .u8 0, .int .u8 0, .int .u8 0, .int .u8 0, .int .u8 0, .int .u8 0, .int .u8 0, .int .u8 0, .int .u8 0, .int .u8 0, .int .u8 0, .int .u8 0, .int .u8 0, .int .u8 0, .int .u8 0, .int .u8 0, .int .u8 0, .int .u8 0, .int .u8 0, .int .u8 0, .int .u8 0, .int .u8 0, .int .u8 0] 118) w0 fun a w01 => letX (fun (u1 : Int) (w02 : World) => Cinternal_strconv_isPowerOfTwo base w02 fun b w03 => letX (fun (i : Int) (w04 : World) => letX (fun (i1 : Int) (w05 : World) => Br append_ ((0 ≤ i1 ∧ i1 ≤ (65 : Int) ∧ (65 : Int) ≤ (65 : Int)) ∧ RunK Tryd.prog .sl (Builtin.append_ #[23, 23] 23 #[.slice dst.A dst.n dst.c, .slice (some (if 65 = i1.toNat then a else a.add (i1.toNat * 1))) (65 - i1.toNat) (65 - i1.toNat)]) w05 fun xs w06 => R xs ⟨#[]⟩ w06) ((0 ≤ i1 ∧ i1 ≤ (65 : Int) ∧ (65 : Int) ≤ (65 : Int)) ∧ ∃ s : ByteArray, (convert 23 9 (.slice (some (if 65 = i1.toNat then a else a.add (i1.toNat * 1))) (65 - i1.toNat) (65 - i1.toNat))).run Tryd.prog w05 = .ok (.string s) w05 ∧ R (⟨none, 0, 0⟩ : Sl) s w05)) fun J_ => Br neg ((0 ≤ (IntKind.wrap .i64 (i - 1)) ∧ (IntKind.wrap .i64 (i - 1)) < (65 : Int)) ∧ Put (a.add ((IntKind.wrap .i64 (i - 1)).toNat * 1)) (.int .u8 45) w04 fun w07 => J_ (IntKind.wrap .i64 (i - 1)) w07) (J_ i w04)) fun J_1 => Br b (Cmath_bits_TrailingZeros (IntKind.wrap .u64 base) w03 fun n w08 => ∃ (I : Int → Int → World → Prop) (μ : Int → Int → World → Nat), I u1 65 w08 ∧ ∀ (u2 : Int) (i2 : Int) (w09 : World), I u2 i2 w09 → Br (decide (u2 ≥ (IntKind.wrap .u64 base))) ((0 ≤ (bAnd .u64 u2 (IntKind.wrap .u64 ((IntKind.wrap .u64 base) - 1))) ∧ (bAnd .u64 u2 (IntKind.wrap .u64 ((IntKind.wrap .u64 base) - 1))) < (s_0123456789abcdefghijklmnopqrstuv.size : Int)) ∧ (0 ≤ (IntKind.wrap .i64 (i2 - 1)) ∧ (IntKind.wrap .i64 (i2 - 1)) < (65 : Int)) ∧ Put (a.add ((IntKind.wrap .i64 (i2 - 1)).toNat * 1)) (.int .u8 (bt s_0123456789abcdefghijklmnopqrstuv (bAnd .u64 u2 (IntKind.wrap .u64 ((IntKind.wrap .u64 base) - 1))))) w09 fun w010 => (0 ≤ (IntKind.wrap .u64 n)) ∧ I (bShr .u64 u2 (IntKind.wrap .u64 n).toNat) (IntKind.wrap .i64 (i2 - 1)) w010 ∧ μ (bShr .u64 u2 (IntKind.wrap .u64 n).toNat) (IntKind.wrap .i64 (i2 - 1)) w010 < μ u2 i2 w09) ((0 ≤ u2 ∧ u2 < (s_0123456789abcdefghijklmnopqrstuv.size : Int)) ∧ (0 ≤ (IntKind.wrap .i64 (i2 - 1)) ∧ (IntKind.wrap .i64 (i2 - 1)) < (65 : Int)) ∧ Put (a.add ((IntKind.wrap .i64 (i2 - 1)).toNat * 1)) (.int .u8 (bt s_0123456789abcdefghijklmnopqrstuv u2)) w09 fun w011 => J_1 (IntKind.wrap .i64 (i2 - 1)) w011)) (∃ (I1 : Int → Int → World → Prop) (μ1 : Int → Int → World → Nat), I1 u1 65 w03 ∧ ∀ (u3 : Int) (i3 : Int) (w012 : World), I1 u3 i3 w012 → Br (decide (u3 ≥ (IntKind.wrap .u64 base))) (((IntKind.wrap .u64 base) ≠ 0) ∧ (0 ≤ (IntKind.wrap .u64 (u3 - (IntKind.wrap .u64 ((IntKind.wrap .u64 (u3.tdiv (IntKind.wrap .u64 base))) * (IntKind.wrap .u64 base))))) ∧ (IntKind.wrap .u64 (u3 - (IntKind.wrap .u64 ((IntKind.wrap .u64 (u3.tdiv (IntKind.wrap .u64 base))) * (IntKind.wrap .u64 base))))) < (s_0123456789abcdefghijklmnopqrstuv.size : Int)) ∧ (0 ≤ (IntKind.wrap .i64 (i3 - 1)) ∧ (IntKind.wrap .i64 (i3 - 1)) < (65 : Int)) ∧ Put (a.add ((IntKind.wrap .i64 (i3 - 1)).toNat * 1)) (.int .u8 (bt s_0123456789abcdefghijklmnopqrstuv (IntKind.wrap .u64 (u3 - (IntKind.wrap .u64 ((IntKind.wrap .u64 (u3.tdiv (IntKind.wrap .u64 base))) * (IntKind.wrap .u64 base))))))) w012 fun w013 => I1 (IntKind.wrap .u64 (u3.tdiv (IntKind.wrap .u64 base))) (IntKind.wrap .i64 (i3 - 1)) w013 ∧ μ1 (IntKind.wrap .u64 (u3.tdiv (IntKind.wrap .u64 base))) (IntKind.wrap .i64 (i3 - 1)) w013 < μ1 u3 i3 w012) ((0 ≤ u3 ∧ u3 < (s_0123456789abcdefghijklmnopqrstuv.size : Int)) ∧ (0 ≤ (IntKind.wrap .i64 (i3 - 1)) ∧ (IntKind.wrap .i64 (i3 - 1)) < (65 : Int)) ∧ Put (a.add ((IntKind.wrap .i64 (i3 - 1)).toNat * 1)) (.int .u8 (bt s_0123456789abcdefghijklmnopqrstuv u3)) w012 fun w014 => J_1 (IntKind.wrap .i64 (i3 - 1)) w014))) fun J_2 => Br neg (J_2 (IntKind.wrap .u64 (0 - u)) w01) (J_2 u w01)) fun J_3 => Br (((decide (base < 2)) || (base == 10)) || (decide (base > 36))) (∃ v : Value, (Instr.makeInterface 9 (.string s_strconvx3ax20illegalx20AppendInt)).run Tryd.prog w = .ok v w ∧ False) (J_3 w)
theorem Finternal_strconv_formatBits.calls (dst : Sl) (u : Int) (base : Int) (neg : Bool) (append_ : Bool) (w : World) (R : Sl → ByteArray → World → Prop) (h : Finternal_strconv_formatBits dst u base neg append_ w R) : Cinternal_strconv_formatBits dst u base neg append_ w R :=
  calls_of_vc (anOp_ok callable) wide Tryd.func63 [(79, ⟨[(13, .i .i64)], [0, 4, 10, 11, 12]⟩), (25, ⟨[(13, .i .i64)], [0, 3, 4, 10, 11, 12]⟩), (33, ⟨[(1, .i .u64), (13, .i .i64)], [0, 3, 4, 10, 11, 12, 14, 15, 16]⟩), (54, ⟨[(1, .i .u64), (13, .i .i64)], [0, 3, 4, 10, 11, 12, 17]⟩), (19, ⟨[(1, .i .u64)], [0, 2, 3, 4, 10, 11, 12, 13]⟩), (7, ⟨[], [0, 1, 2, 3, 4, 10, 11]⟩)] [.sl, .s] [.slice dst.A dst.n dst.c, .int .u64 u, .int .i64 base, .bool neg, .bool append_] w R (Eq.mp (show Finternal_strconv_formatBits dst u base neg append_ w R = vcF Tryd.prog G Tryd.f63 [(79, ⟨[(13, .i .i64)], [0, 4, 10, 11, 12]⟩), (25, ⟨[(13, .i .i64)], [0, 3, 4, 10, 11, 12]⟩), (33, ⟨[(1, .i .u64), (13, .i .i64)], [0, 3, 4, 10, 11, 12, 14, 15, 16]⟩), (54, ⟨[(1, .i .u64), (13, .i .i64)], [0, 3, 4, 10, 11, 12, 17]⟩), (19, ⟨[(1, .i .u64)], [0, 2, 3, 4, 10, 11, 12, 13]⟩), (7, ⟨[], [0, 1, 2, 3, 4, 10, 11]⟩)] [.sl, .s] [.slice dst.A dst.n dst.c, .int .u64 u, .int .i64 base, .bool neg, .bool append_] w R by kernel_rfl) h)
/-- pallet/chap.turn -/
def Fchap_turn (h_ : Array Value) (p : Sl) (w : World) (R : (Array Value) → World → Prop) : Prop :=
  New (.cells h_ 109) w fun h_1 w0 => New (.cells #[.int .u32 0, .int .u32 0, .int .u32 0, .int .u32 0] 109) w0 fun a w01 => New (.cells #[.int .u32 0, .int .u32 0, .int .u32 0, .int .u32 0, .int .u32 0, .int .u32 0, .int .u32 0, .int .u32 0, .int .u32 0, .int .u32 0, .int .u32 0, .int .u32 0, .int .u32 0, .int .u32 0, .int .u32 0, .int .u32 0] 121) w01 fun m w02 => ∃ (I : Int → World → Prop) (μ : Int → World → Nat), I 0 w02 ∧ ∀ (x : Int) (w03 : World), I x w03 → Br (decide (x < 16)) (∀ w04, w04 = w03.drew → ∃ S : World → Prop, S w04 ∧ (0 ≤ (IntKind.wrap .i64 (4 * x)) ∧ (IntKind.wrap .i64 (4 * x)) < (p.n : Int) ∧ p.A.isSome = true) ∧ ∃ n : Int, (∀ u, S u → u.cell? ((gA p.A).add ((IntKind.wrap .i64 (4 * x)).toNat * 1)) = some (.int .u8 n)) ∧ (0 ≤ (IntKind.wrap .i64 ((IntKind.wrap .i64 (4 * x)) + 1)) ∧ (IntKind.wrap .i64 ((IntKind.wrap .i64 (4 * x)) + 1)) < (p.n : Int) ∧ p.A.isSome = true) ∧ ∃ n1 : Int, (∀ u1, S u1 → u1.cell? ((gA p.A).add ((IntKind.wrap .i64 ((IntKind.wrap .i64 (4 * x)) + 1)).toNat * 1)) = some (.int .u8 n1)) ∧ (0 ≤ (IntKind.wrap .i64 ((IntKind.wrap .i64 (4 * x)) + 2)) ∧ (IntKind.wrap .i64 ((IntKind.wrap .i64 (4 * x)) + 2)) < (p.n : Int) ∧ p.A.isSome = true) ∧ ∃ n2 : Int, (∀ u2, S u2 → u2.cell? ((gA p.A).add ((IntKind.wrap .i64 ((IntKind.wrap .i64 (4 * x)) + 2)).toNat * 1)) = some (.int .u8 n2)) ∧ (0 ≤ (IntKind.wrap .i64 ((IntKind.wrap .i64 (4 * x)) + 3)) ∧ (IntKind.wrap .i64 ((IntKind.wrap .i64 (4 * x)) + 3)) < (p.n : Int) ∧ p.A.isSome = true) ∧ ∃ n3 : Int, (∀ u3, S u3 → u3.cell? ((gA p.A).add ((IntKind.wrap .i64 ((IntKind.wrap .i64 (4 * x)) + 3)).toNat * 1)) = some (.int .u8 n3)) ∧ (0 ≤ x ∧ x < (16 : Int)) ∧ Put (m.add (x.toNat * 1)) (.int .u32 (bOr .u32 (bOr .u32 (bOr .u32 (IntKind.wrap .u32 n) (bShl .u32 (IntKind.wrap .u32 n1) 8)) (bShl .u32 (IntKind.wrap .u32 n2) 16)) (bShl .u32 (IntKind.wrap .u32 n3) 24))) w04 fun w05 => I (IntKind.wrap .i64 (x + 1)) w05 ∧ μ (IntKind.wrap .i64 (x + 1)) w05 < μ x w03) (∀ w06, w06 = w03.drew → ∃ S1 : World → Prop, S1 w06 ∧ (0 ≤ (0 : Int) ∧ (0 : Int) < (4 : Int)) ∧ ∃ n4 : Int, (∀ u4, S1 u4 → u4.cell? (h_1.add ((0 : Int).toNat * 1)) = some (.int .u32 n4)) ∧ (0 ≤ (1 : Int) ∧ (1 : Int) < (4 : Int)) ∧ ∃ n5 : Int, (∀ u5, S1 u5 → u5.cell? (h_1.add ((1 : Int).toNat * 1)) = some (.int .u32 n5)) ∧ (0 ≤ (2 : Int) ∧ (2 : Int) < (4 : Int)) ∧ ∃ n6 : Int, (∀ u6, S1 u6 → u6.cell? (h_1.add ((2 : Int).toNat * 1)) = some (.int .u32 n6)) ∧ (0 ≤ (3 : Int) ∧ (3 : Int) < (4 : Int)) ∧ ∃ n7 : Int, (∀ u7, S1 u7 → u7.cell? (h_1.add ((3 : Int).toNat * 1)) = some (.int .u32 n7)) ∧ ∃ (I1 : Int → Int → Int → Int → Int → World → Prop) (μ1 : Int → Int → Int → Int → Int → World → Nat), I1 n4 n5 n6 n7 0 w06 ∧ ∀ (a1 : Int) (b : Int) (c : Int) (d : Int) (x1 : Int) (w07 : World), I1 a1 b c d x1 w07 → Br (decide (x1 < 64)) (letX (fun (a2 : Int) (b1 : Int) (c1 : Int) (d1 : Int) (w08 : World) => I1 a2 b1 c1 d1 (IntKind.wrap .i64 (x1 + 1)) w08 ∧ μ1 a2 b1 c1 d1 (IntKind.wrap .i64 (x1 + 1)) w08 < μ1 a1 b c d x1 w07) fun J_ => ((16 : Int) ≠ 0) ∧ letX (fun (f : Int) (g : Int) (w09 : World) => ∀ w010, w010 = w09.drew → ∃ S2 : World → Prop, S2 w010 ∧ (0 ≤ g ∧ g < (16 : Int)) ∧ ∃ n8 : Int, (∀ u8, S2 u8 → u8.cell? (m.add (g.toNat * 1)) = some (.int .u32 n8)) ∧ Cchap_word x1 w010 fun n9 w011 => S2 w011 ∧ Cchap_shift x1 w011 fun n10 w012 => S2 w012 ∧ Cmath_bits_RotateLeft32 (IntKind.wrap .u32 ((IntKind.wrap .u32 ((IntKind.wrap .u32 (a1 + f)) + n9)) + n8)) n10 w012 fun n11 w013 => J_ d (IntKind.wrap .u32 (b + n11)) b c w013) fun J_1 => Br ((IntKind.wrap .i64 (x1.tdiv 16)) == 1) (((16 : Int) ≠ 0) ∧ J_1 (bOr .u32 (bAnd .u32 d b) (bAnd .u32 (bNot .u32 d) c)) ((IntKind.wrap .i64 ((IntKind.wrap .i64 (5 * x1)) + 1)).tmod 16) w07) (Br ((IntKind.wrap .i64 (x1.tdiv 16)) == 2) (((16 : Int) ≠ 0) ∧ J_1 (bXor .u32 (bXor .u32 b c) d) ((IntKind.wrap .i64 ((IntKind.wrap .i64 (3 * x1)) + 5)).tmod 16) w07) (Br ((IntKind.wrap .i64 (x1.tdiv 16)) == 3) (((16 : Int) ≠ 0) ∧ J_1 (bXor .u32 c (bOr .u32 b (bNot .u32 d))) ((IntKind.wrap .i64 (7 * x1)).tmod 16) w07) (J_1 (bOr .u32 (bAnd .u32 b c) (bAnd .u32 (bNot .u32 b) d)) x1 w07)))) ((0 ≤ (0 : Int) ∧ (0 : Int) < (4 : Int)) ∧ ∃ n12 : Int, w07.cell? (h_1.add ((0 : Int).toNat * 1)) = some (.int .u32 n12) ∧ (0 ≤ (1 : Int) ∧ (1 : Int) < (4 : Int)) ∧ ∃ n13 : Int, w07.cell? (h_1.add ((1 : Int).toNat * 1)) = some (.int .u32 n13) ∧ (0 ≤ (2 : Int) ∧ (2 : Int) < (4 : Int)) ∧ ∃ n14 : Int, w07.cell? (h_1.add ((2 : Int).toNat * 1)) = some (.int .u32 n14) ∧ (0 ≤ (3 : Int) ∧ (3 : Int) < (4 : Int)) ∧ ∃ n15 : Int, w07.cell? (h_1.add ((3 : Int).toNat * 1)) = some (.int .u32 n15) ∧ RunU Tryd.prog (storeVar 109 a (.agg #[.int .u32 (IntKind.wrap .u32 (n12 + a1)), .int .u32 (IntKind.wrap .u32 (n13 + b)), .int .u32 (IntKind.wrap .u32 (n14 + c)), .int .u32 (IntKind.wrap .u32 (n15 + d))])) w07 fun w017 => ∃ res : Array Value, (loadVar 109 a).run Tryd.prog w017 = .ok (.agg res) w017 ∧ R res w017))
theorem Fchap_turn.calls (h_ : Array Value) (p : Sl) (w : World) (R : (Array Value) → World → Prop) (h : Fchap_turn h_ p w R) : Cchap_turn h_ p w R :=
  calls_of_vc (anOp_ok callable) wide Tryd.func64 [(9, ⟨[(14, .i .i64)], [1, 2, 4, 5]⟩), (27, ⟨[(7, .i .u32), (8, .i .u32), (9, .i .u32), (10, .i .u32), (61, .i .i64)], [2, 4, 5]⟩), (11, ⟨[(7, .i .u32), (8, .i .u32), (9, .i .u32), (10, .i .u32)], [2, 4, 5, 61]⟩), (14, ⟨[(12, .i .u32), (13, .i .i64)], [2, 4, 5, 7, 8, 9, 10, 11, 61]⟩)] [.ag] [.agg h_, .slice p.A p.n p.c] w R (Eq.mp (show Fchap_turn h_ p w R = vcF Tryd.prog G Tryd.f64 [(9, ⟨[(14, .i .i64)], [1, 2, 4, 5]⟩), (27, ⟨[(7, .i .u32), (8, .i .u32), (9, .i .u32), (10, .i .u32), (61, .i .i64)], [2, 4, 5]⟩), (11, ⟨[(7, .i .u32), (8, .i .u32), (9, .i .u32), (10, .i .u32)], [2, 4, 5, 61]⟩), (14, ⟨[(12, .i .u32), (13, .i .i64)], [2, 4, 5, 7, 8, 9, 10, 11, 61]⟩)] [.ag] [.agg h_, .slice p.A p.n p.c] w R by kernel_rfl) h)
/-- internal/stringslite.CutPrefix -/
def Finternal_stringslite_CutPrefix (s : ByteArray) (prefix_ : ByteArray) (w : World) (R : ByteArray → Bool → World → Prop) : Prop :=
  Cinternal_stringslite_HasPrefix s prefix_ w fun b w0 => Br (!b) (R s false w0) ((0 ≤ (prefix_.size : Int) ∧ (prefix_.size : Int) ≤ (s.size : Int) ∧ (s.size : Int) ≤ (s.size : Int)) ∧ R (s.extract (prefix_.size : Int).toNat ((s.size : Int)).toNat) true w0)
theorem Finternal_stringslite_CutPrefix.calls (s : ByteArray) (prefix_ : ByteArray) (w : World) (R : ByteArray → Bool → World → Prop) (h : Finternal_stringslite_CutPrefix s prefix_ w R) : Cinternal_stringslite_CutPrefix s prefix_ w R :=
  calls_of_vc (anOp_ok callable) wide Tryd.func65 [] [.s, .b] [.string s, .string prefix_] w R (Eq.mp (show Finternal_stringslite_CutPrefix s prefix_ w R = vcF Tryd.prog G Tryd.f65 [] [.s, .b] [.string s, .string prefix_] w R by kernel_rfl) h)
/-- strconv.ParseUint -/
def Fstrconv_ParseUint (s : ByteArray) (base : Int) (bitSize : Int) (w : World) (R : Int → Value → World → Prop) : Prop :=
  Cinternal_strconv_ParseUint s base bitSize w fun n v w0 => ∃ b : Bool, (do eqGuard .neq 112 (.tmp 17) (.const .nilIface) v .nilIface; binOp .neq 112 v .nilIface : Sem Value).run Tryd.prog w0 = .ok (.bool b) w0 ∧ Br b (Cstrconv_toError s_ParseUint s base bitSize v w0 fun v1 w01 => R n v1 w01) (R n .nilIface w0)
theorem Fstrconv_ParseUint.calls (s : ByteArray) (base : Int) (bitSize : Int) (w : World) (R : Int → Value → World → Prop) (h : Fstrconv_ParseUint s base bitSize w R) : Cstrconv_ParseUint s base bitSize w R :=
  calls_of_vc (anOp_ok callable) wide Tryd.func66 [] [.i .u64, .v] [.string s, .int .i64 base, .int .i64 bitSize] w R (Eq.mp (show Fstrconv_ParseUint s base bitSize w R = vcF Tryd.prog G Tryd.f66 [] [.i .u64, .v] [.string s, .int .i64 base, .int .i64 bitSize] w R by kernel_rfl) h)
/-- internal/strconv.FormatUint -/
def Finternal_strconv_FormatUint (i : Int) (base : Int) (w : World) (R : ByteArray → World → Prop) : Prop :=
  Br (base == 10) (Br (decide (i < 100)) (Cinternal_strconv_small (IntKind.wrap .i64 i) w fun s w0 => R s w0) (New (.cells #[.int .u8 0, .int .u8 0, .int .u8 0, .int .u8 0, .int .u8 0, .int .u8 0, .int .u8 0, .int .u8 0, .int .u8 0, .int .u8 0, .int .u8 0, .int .u8 0, .int .u8 0, .int .u8 0, .int .u8 0, .int .u8 0, .int .u8 0, .int .u8 0, .int .u8 0, .int .u8 0, .int .u8 0, .int .u8 0, .int .u8 0, .int .u8 0] 104) w fun a w01 => Cinternal_strconv_numDigits i w01 fun n w02 => (0 ≤ (0 : Int) ∧ (0 : Int) ≤ n ∧ n ≤ (24 : Int)) ∧ Cinternal_strconv_formatBase10 ⟨(some (if 24 = 0 then a else a.add (0 * 1))), (n.toNat - 0), (24 - 0)⟩ i w02 fun w03 => (0 ≤ (0 : Int) ∧ (0 : Int) ≤ n ∧ n ≤ (24 : Int)) ∧ ∃ s1 : ByteArray, (convert 23 9 (.slice (some (if 24 = 0 then a else a.add (0 * 1))) (n.toNat - 0) (24 - 0))).run Tryd.prog w03 = .ok (.string s1) w03 ∧ R s1 w03)) (Cinternal_strconv_formatBits ⟨none, 0, 0⟩ i base false false w fun xs s2 w04 => R s2 w04)
theorem Finternal_strconv_FormatUint.calls (i : Int) (base : Int) (w : World) (R : ByteArray → World → Prop) (h : Finternal_strconv_FormatUint i base w R) : Cinternal_strconv_FormatUint i base w R :=
  calls_of_vc (anOp_ok callable) wide Tryd.func67 [] [.s] [.int .u64 i, .int .i64 base] w R (Eq.mp (show Finternal_strconv_FormatUint i base w R = vcF Tryd.prog G Tryd.f67 [] [.s] [.int .u64 i, .int .i64 base] w R by kernel_rfl) h)
/-- unicode/utf8.decodeRuneInStringSlow -/
def Funicode_utf8_decodeRuneInStringSlow (s : ByteArray) (w : World) (R : Int → Int → World → Prop) : Prop :=
  Br (decide ((s.size : Int) < 1)) (R 65533 0 w) ((0 ≤ (0 : Int) ∧ (0 : Int) < (s.size : Int)) ∧ (0 ≤ (bt s 0) ∧ (bt s 0) < (256 : Int)) ∧ ∃ n : Int, w.cell? ((⟨1, 0, none⟩ : Addr).add ((bt s 0).toNat * 1)) = some (.int .u8 n) ∧ Br (decide (n ≥ 240)) ((0 ≤ (0 : Int) ∧ (0 : Int) < (s.size : Int)) ∧ R (bOr .i32 (bClr .i32 (IntKind.wrap .i32 (bt s 0)) (bShr .i32 (bShl .i32 (IntKind.wrap .i32 n) 31) 31)) (bAnd .i32 65533 (bShr .i32 (bShl .i32 (IntKind.wrap .i32 n) 31) 31))) 1 w) ((0 ≤ (bShr .u8 n 4) ∧ (bShr .u8 n 4) < (16 : Int)) ∧ ∃ g : Array Value, (loadVar 127 ((⟨2, 0, none⟩ : Addr).add ((bShr .u8 n 4).toNat * 2))).run Tryd.prog w = .ok (.agg g) w ∧ New (.cells #[.int .u8 0, .int .u8 0] 127) w fun accept w0 => RunU Tryd.prog (storeVar 127 accept (.agg g)) w0 fun w01 => Br (decide ((s.size : Int) < (IntKind.wrap .i64 (bAnd .u8 n 7)))) (R 65533 1 w01) ((0 ≤ (1 : Int) ∧ (1 : Int) < (s.size : Int)) ∧ ∃ n1 : Int, w01.cell? (accept.add 0) = some (.int .u8 n1) ∧ ∃ n2 : Int, ((!(decide ((bt s 1) < n1))) = true → w01.cell? (accept.add 1) = some (.int .u8 n2)) ∧ Br ((decide ((bt s 1) < n1)) || (decide (n2 < (bt s 1)))) (R 65533 1 w01) (Br (decide ((IntKind.wrap .i64 (bAnd .u8 n 7)) ≤ 2)) (R (bOr .i32 (bShl .i32 (IntKind.wrap .i32 (bAnd .u8 (bt s 0) 31)) 6) (IntKind.wrap .i32 (bAnd .u8 (bt s 1) 63))) 2 w01) ((0 ≤ (2 : Int) ∧ (2 : Int) < (s.size : Int)) ∧ Br ((decide ((bt s 2) < 128)) || (decide ((191 : Int) < (bt s 2)))) (R 65533 1 w01) (Br (decide ((IntKind.wrap .i64 (bAnd .u8 n 7)) ≤ 3)) (R (bOr .i32 (bOr .i32 (bShl .i32 (IntKind.wrap .i32 (bAnd .u8 (bt s 0) 15)) 12) (bShl .i32 (IntKind.wrap .i32 (bAnd .u8 (bt s 1) 63)) 6)) (IntKind.wrap .i32 (bAnd .u8 (bt s 2) 63))) 3 w01) ((0 ≤ (3 : Int) ∧ (3 : Int) < (s.size : Int)) ∧ Br ((decide ((bt s 3) < 128)) || (decide ((191 : Int) < (bt s 3)))) (R 65533 1 w01) (R (bOr .i32 (bOr .i32 (bOr .i32 (bShl .i32 (IntKind.wrap .i32 (bAnd .u8 (bt s 0) 7)) 18) (bShl .i32 (IntKind.wrap .i32 (bAnd .u8 (bt s 1) 63)) 12)) (bShl .i32 (IntKind.wrap .i32 (bAnd .u8 (bt s 2) 63)) 6)) (IntKind.wrap .i32 (bAnd .u8 (bt s 3) 63))) 4 w01))))))))
theorem Funicode_utf8_decodeRuneInStringSlow.calls (s : ByteArray) (w : World) (R : Int → Int → World → Prop) (h : Funicode_utf8_decodeRuneInStringSlow s w R) : Cunicode_utf8_decodeRuneInStringSlow s w R :=
  calls_of_vc (anOp_ok callable) wide Tryd.func68 [] [.i .i32, .i .i64] [.string s] w R (Eq.mp (show Funicode_utf8_decodeRuneInStringSlow s w R = vcF Tryd.prog G Tryd.f68 [] [.i .i32, .i .i64] [.string s] w R by kernel_rfl) h)
/-- internal/strconv.log10Pow2 -/
def Finternal_strconv_log10Pow2 (x : Int) (w : World) (R : Int → World → Prop) : Prop :=
  R (bShr .i64 (IntKind.wrap .i64 (x * 78913)) 18) w
theorem Finternal_strconv_log10Pow2.calls (x : Int) (w : World) (R : Int → World → Prop) (h : Finternal_strconv_log10Pow2 x w R) : Cinternal_strconv_log10Pow2 x w R :=
  calls_of_vc (anOp_ok callable) wide Tryd.func70 [] [.i .i64] [.int .i64 x] w R (Eq.mp (show Finternal_strconv_log10Pow2 x w R = vcF Tryd.prog G Tryd.f70 [] [.i .i64] [.int .i64 x] w R by kernel_rfl) h)
/-- math/bits.Len64 -/
def Fmath_bits_Len64 (x : Int) (w : World) (R : Int → World → Prop) : Prop :=
  letX (fun (x1 : Int) (n : Int) (w0 : World) => letX (fun (x2 : Int) (n1 : Int) (w01 : World) => letX (fun (x3 : Int) (n2 : Int) (w02 : World) => (0 ≤ (IntKind.wrap .u8 x3) ∧ (IntKind.wrap .u8 x3) < (s_x00x01x02x02x03x03x03x03x04x04x0.size : Int)) ∧ R (IntKind.wrap .i64 (n2 + (IntKind.wrap .i64 (bt s_x00x01x02x02x03x03x03x03x04x04x0 (IntKind.wrap .u8 x3))))) w02) fun J_ => Br (decide (x2 ≥ 256)) (J_ (bShr .u64 x2 8) (IntKind.wrap .i64 (n1 + 8)) w01) (J_ x2 n1 w01)) fun J_1 => Br (decide (x1 ≥ 65536)) (J_1 (bShr .u64 x1 16) (IntKind.wrap .i64 (n + 16)) w0) (J_1 x1 n w0)) fun J_2 => Br (decide (x ≥ 4294967296)) (J_2 (bShr .u64 x 32) 32 w) (J_2 x 0 w)
theorem Fmath_bits_Len64.calls (x : Int) (w : World) (R : Int → World → Prop) (h : Fmath_bits_Len64 x w R) : Cmath_bits_Len64 x w R :=
  calls_of_vc (anOp_ok callable) wide Tryd.func71 [(25, ⟨[(0, .i .u64), (2, .i .i64)], []⟩), (16, ⟨[(0, .i .u64), (2, .i .i64)], []⟩), (7, ⟨[(0, .i .u64), (2, .i .i64)], []⟩)] [.i .i64] [.int .u64 x] w R (Eq.mp (show Fmath_bits_Len64 x w R = vcF Tryd.prog G Tryd.f71 [(25, ⟨[(0, .i .u64), (2, .i .i64)], []⟩), (16, ⟨[(0, .i .u64), (2, .i .i64)], []⟩), (7, ⟨[(0, .i .u64), (2, .i .i64)], []⟩)] [.i .i64] [.int .u64 x] w R by kernel_rfl) h)
/-- internal/strconv.bool2[int] -/
def Finternal_strconv_bool2_int (b : Bool) (w : World) (R : Int → World → Prop) : Prop :=
  Br b (R 1 w) (R 0 w)
theorem Finternal_strconv_bool2_int.calls (b : Bool) (w : World) (R : Int → World → Prop) (h : Finternal_strconv_bool2_int b w R) : Cinternal_strconv_bool2_int b w R :=
  calls_of_vc (anOp_ok callable) wide Tryd.func72 [] [.i .i64] [.bool b] w R (Eq.mp (show Finternal_strconv_bool2_int b w R = vcF Tryd.prog G Tryd.f72 [] [.i .i64] [.bool b] w R by kernel_rfl) h)
/-- internal/strconv.isPowerOfTwo -/
def Finternal_strconv_isPowerOfTwo (x : Int) (w : World) (R : Bool → World → Prop) : Prop :=
  R ((bAnd .i64 x (IntKind.wrap .i64 (x - 1))) == 0) w
theorem Finternal_strconv_isPowerOfTwo.calls (x : Int) (w : World) (R : Bool → World → Prop) (h : Finternal_strconv_isPowerOfTwo x w R) : Cinternal_strconv_isPowerOfTwo x w R :=
  calls_of_vc (anOp_ok callable) wide Tryd.func73 [] [.b] [.int .i64 x] w R (Eq.mp (show Finternal_strconv_isPowerOfTwo x w R = vcF Tryd.prog G Tryd.f73 [] [.b] [.int .i64 x] w R by kernel_rfl) h)
/-- math/bits.TrailingZeros -/
def Fmath_bits_TrailingZeros (x : Int) (w : World) (R : Int → World → Prop) : Prop :=
  Br false (Cmath_bits_TrailingZeros32 (IntKind.wrap .u32 x) w fun n w0 => R n w0) (Cmath_bits_TrailingZeros64 x w fun n1 w01 => R n1 w01)
theorem Fmath_bits_TrailingZeros.calls (x : Int) (w : World) (R : Int → World → Prop) (h : Fmath_bits_TrailingZeros x w R) : Cmath_bits_TrailingZeros x w R :=
  calls_of_vc (anOp_ok callable) wide Tryd.func74 [] [.i .i64] [.int .u64 x] w R (Eq.mp (show Fmath_bits_TrailingZeros x w R = vcF Tryd.prog G Tryd.f74 [] [.i .i64] [.int .u64 x] w R by kernel_rfl) h)
/-- math/bits.RotateLeft32 -/
def Fmath_bits_RotateLeft32 (x : Int) (k : Int) (w : World) (R : Int → World → Prop) : Prop :=
  (0 ≤ (bAnd .u64 (IntKind.wrap .u64 k) 31)) ∧ (0 ≤ (IntKind.wrap .u64 (32 - (bAnd .u64 (IntKind.wrap .u64 k) 31)))) ∧ R (bOr .u32 (bShl .u32 x (bAnd .u64 (IntKind.wrap .u64 k) 31).toNat) (bShr .u32 x (IntKind.wrap .u64 (32 - (bAnd .u64 (IntKind.wrap .u64 k) 31))).toNat)) w
theorem Fmath_bits_RotateLeft32.calls (x : Int) (k : Int) (w : World) (R : Int → World → Prop) (h : Fmath_bits_RotateLeft32 x k w R) : Cmath_bits_RotateLeft32 x k w R :=
  calls_of_vc (anOp_ok callable) wide Tryd.func75 [] [.i .u32] [.int .u32 x, .int .i64 k] w R (Eq.mp (show Fmath_bits_RotateLeft32 x k w R = vcF Tryd.prog G Tryd.f75 [] [.i .u32] [.int .u32 x, .int .i64 k] w R by kernel_rfl) h)
/-- pallet/chap.word -/
def Fchap_word (i : Int) (w : World) (R : Int → World → Prop) : Prop :=
  ∃ n : Int, ((0 ≤ i ∧ i < (64 : Int)) ∧ (#[.int .u32 3614090360, .int .u32 3905402710, .int .u32 606105819, .int .u32 3250441966, .int .u32 4118548399, .int .u32 1200080426, .int .u32 2821735955, .int .u32 4249261313, .int .u32 1770035416, .int .u32 2336552879, .int .u32 4294925233, .int .u32 2304563134, .int .u32 1804603682, .int .u32 4254626195, .int .u32 2792965006, .int .u32 1236535329, .int .u32 4129170786, .int .u32 3225465664, .int .u32 643717713, .int .u32 3921069994, .int .u32 3593408605, .int .u32 38016083, .int .u32 3634488961, .int .u32 3889429448, .int .u32 568446438, .int .u32 3275163606, .int .u32 4107603335, .int .u32 1163531501, .int .u32 2850285829, .int .u32 4243563512, .int .u32 1735328473, .int .u32 2368359562, .int .u32 4294588738, .int .u32 2272392833, .int .u32 1839030562, .int .u32 4259657740, .int .u32 2763975236, .int .u32 1272893353, .int .u32 4139469664, .int .u32 3200236656, .int .u32 681279174, .int .u32 3936430074, .int .u32 3572445317, .int .u32 76029189, .int .u32 3654602809, .int .u32 3873151461, .int .u32 530742520, .int .u32 3299628645, .int .u32 4096336452, .int .u32 1126891415, .int .u32 2878612391, .int .u32 4237533241, .int .u32 1700485571, .int .u32 2399980690, .int .u32 4293915773, .int .u32 2240044497, .int .u32 1873313359, .int .u32 4264355552, .int .u32 2734768916, .int .u32 1309151649, .int .u32 4149444226, .int .u32 3174756917, .int .u32 718787259, .int .u32 3951481745] : Array Value)[i.toNat * 1]? = some (.int .u32 n)) ∧ R n w
theorem Fchap_word.calls (i : Int) (w : World) (R : Int → World → Prop) (h : Fchap_word i w R) : Cchap_word i w R :=
  calls_of_vc (anOp_ok callable) wide Tryd.func76 [] [.i .u32] [.int .i64 i] w R (Eq.mp (show Fchap_word i w R = vcF Tryd.prog G Tryd.f76 [] [.i .u32] [.int .i64 i] w R by kernel_rfl) h)
/-- pallet/chap.shift -/
def Fchap_shift (i : Int) (w : World) (R : Int → World → Prop) : Prop :=
  ∃ g : Array Value, (Instr.build 133 #[(0, .agg #[.int .i64 7, .int .i64 12, .int .i64 17, .int .i64 22]), (1, .agg #[.int .i64 5, .int .i64 9, .int .i64 14, .int .i64 20]), (2, .agg #[.int .i64 4, .int .i64 11, .int .i64 16, .int .i64 23]), (3, .agg #[.int .i64 6, .int .i64 10, .int .i64 15, .int .i64 21])]).run Tryd.prog w = .ok (.agg g) w ∧ ((16 : Int) ≠ 0) ∧ (0 ≤ (IntKind.wrap .i64 (i.tdiv 16)) ∧ (IntKind.wrap .i64 (i.tdiv 16)) < (4 : Int)) ∧ ((4 : Int) ≠ 0) ∧ ∃ n : Int, ((0 ≤ (i.tmod 4) ∧ (i.tmod 4) < (4 : Int)) ∧ (g.extract ((IntKind.wrap .i64 (i.tdiv 16)).toNat * 4) ((IntKind.wrap .i64 (i.tdiv 16)).toNat * 4 + 4))[(i.tmod 4).toNat * 1]? = some (.int .i64 n)) ∧ R n w
theorem Fchap_shift.calls (i : Int) (w : World) (R : Int → World → Prop) (h : Fchap_shift i w R) : Cchap_shift i w R :=
  calls_of_vc (anOp_ok callable) wide Tryd.func77 [] [.i .i64] [.int .i64 i] w R (Eq.mp (show Fchap_shift i w R = vcF Tryd.prog G Tryd.f77 [] [.i .i64] [.int .i64 i] w R by kernel_rfl) h)
/-- internal/stringslite.HasPrefix -/
def Finternal_stringslite_HasPrefix (s : ByteArray) (prefix_ : ByteArray) (w : World) (R : Bool → World → Prop) : Prop :=
  (decide ((s.size : Int) ≥ (prefix_.size : Int)) = true → (0 ≤ (0 : Int) ∧ (0 : Int) ≤ (prefix_.size : Int) ∧ (prefix_.size : Int) ≤ (s.size : Int))) ∧ R ((decide ((s.size : Int) ≥ (prefix_.size : Int))) && (sEq (s.extract 0 (prefix_.size : Int).toNat) prefix_)) w
theorem Finternal_stringslite_HasPrefix.calls (s : ByteArray) (prefix_ : ByteArray) (w : World) (R : Bool → World → Prop) (h : Finternal_stringslite_HasPrefix s prefix_ w R) : Cinternal_stringslite_HasPrefix s prefix_ w R :=
  calls_of_vc (anOp_ok callable) wide Tryd.func78 [] [.b] [.string s, .string prefix_] w R (Eq.mp (show Finternal_stringslite_HasPrefix s prefix_ w R = vcF Tryd.prog G Tryd.f78 [] [.b] [.string s, .string prefix_] w R by kernel_rfl) h)
/-- internal/strconv.ParseUint -/
def Finternal_strconv_ParseUint (s : ByteArray) (base : Int) (bitSize : Int) (w : World) (R : Int → Value → World → Prop) : Prop :=
  Br (sEq s ⟨#[]⟩) (∃ v : Value, (Instr.makeInterface 134 (.int .i64 2)).run Tryd.prog w = .ok v w ∧ R 0 v w) (letX (fun (s1 : ByteArray) (base1 : Int) (w0 : World) => letX (fun (bitSize1 : Int) (w01 : World) => letX (fun (cutoff : Int) (w02 : World) => (0 ≤ (IntKind.wrap .u64 bitSize1)) ∧ RunK Tryd.prog .sl (convert 9 23 (.string s1)) w02 fun xs w03 => ∃ (I : Bool → Int → Int → World → Prop) (μ : Bool → Int → Int → World → Nat), I false 0 0 w03 ∧ ∀ (underscores : Bool) (n : Int) (x : Int) (w04 : World), I underscores n x w04 → Br (decide (x < (xs.n : Int))) (letX (fun (underscores1 : Bool) (n1 : Int) (w05 : World) => I underscores1 n1 (IntKind.wrap .i64 (x + 1)) w05 ∧ μ underscores1 n1 (IntKind.wrap .i64 (x + 1)) w05 < μ underscores n x w04) fun J_ => (0 ≤ x ∧ x < (xs.n : Int) ∧ xs.A.isSome = true) ∧ ∃ n2 : Int, w04.cell? ((gA xs.A).add (x.toNat * 1)) = some (.int .u8 n2) ∧ letX (fun (underscores2 : Bool) (d : Int) (w06 : World) => Br (decide (d ≥ (IntKind.wrap .u8 base1))) (∃ v1 : Value, (Instr.makeInterface 134 (.int .i64 2)).run Tryd.prog w06 = .ok v1 w06 ∧ R 0 v1 w06) (Br (decide (n ≥ cutoff)) (∃ v2 : Value, (Instr.makeInterface 134 (.int .i64 1)).run Tryd.prog w06 = .ok v2 w06 ∧ R (IntKind.wrap .u64 ((bShl .u64 1 (IntKind.wrap .u64 bitSize1).toNat) - 1)) v2 w06) (Br ((decide ((IntKind.wrap .u64 ((IntKind.wrap .u64 (n * (IntKind.wrap .u64 base1))) + (IntKind.wrap .u64 d))) < (IntKind.wrap .u64 (n * (IntKind.wrap .u64 base1))))) || (decide ((IntKind.wrap .u64 ((IntKind.wrap .u64 (n * (IntKind.wrap .u64 base1))) + (IntKind.wrap .u64 d))) > (IntKind.wrap .u64 ((bShl .u64 1 (IntKind.wrap .u64 bitSize1).toNat) - 1))))) (∃ v3 : Value, (Instr.makeInterface 134 (.int .i64 1)).run Tryd.prog w06 = .ok v3 w06 ∧ R (IntKind.wrap .u64 ((bShl .u64 1 (IntKind.wrap .u64 bitSize1).toNat) - 1)) v3 w06) (J_ underscores2 (IntKind.wrap .u64 ((IntKind.wrap .u64 (n * (IntKind.wrap .u64 base1))) + (IntKind.wrap .u64 d))) w06)))) fun J_1 => Br ((n2 == 95) && (base == 0)) (J_ true n w04) (Br ((decide ((48 : Int) ≤ n2)) && (decide (n2 ≤ 57))) (J_1 underscores (IntKind.wrap .u8 (n2 - 48)) w04) (Cinternal_strconv_lower n2 w04 fun n3 w09 => letJ (fun (n4 : Int) (w010 : World) => Br ((decide ((97 : Int) ≤ n3)) && (decide (n4 ≤ 122))) (Cinternal_strconv_lower n2 w010 fun n5 w011 => J_1 underscores (IntKind.wrap .u8 ((IntKind.wrap .u8 (n5 - 97)) + 10)) w011) (∃ v4 : Value, (Instr.makeInterface 134 (.int .i64 2)).run Tryd.prog w010 = .ok v4 w010 ∧ R 0 v4 w010)) fun J_2 => (decide ((97 : Int) ≤ n3) = true → Cinternal_strconv_lower n2 w09 J_2) ∧ (decide ((97 : Int) ≤ n3) = false → J_2 (Kd.dflt (.i .u8)) w09)))) (letJ (fun (b : Bool) (w012 : World) => Br (underscores && (!b)) (∃ v5 : Value, (Instr.makeInterface 134 (.int .i64 2)).run Tryd.prog w012 = .ok v5 w012 ∧ R 0 v5 w012) (R n .nilIface w012)) fun J_3 => (underscores = true → Cinternal_strconv_underscoreOK s w04 J_3) ∧ (underscores = false → J_3 (Kd.dflt .b) w04))) fun J_4 => Br (base1 == 10) (J_4 1844674407370955162 w01) (Br (base1 == 16) (J_4 1152921504606846976 w01) (((IntKind.wrap .u64 base1) ≠ 0) ∧ J_4 (IntKind.wrap .u64 ((IntKind.wrap .u64 ((18446744073709551615 : Int).tdiv (IntKind.wrap .u64 base1))) + 1)) w01))) fun J_5 => Br (bitSize == 0) (J_5 64 w0) (Br ((decide (bitSize < 0)) || (decide (bitSize > 64))) (∃ v6 : Value, (Instr.makeInterface 134 (.int .i64 4)).run Tryd.prog w0 = .ok v6 w0 ∧ R 0 v6 w0) (J_5 bitSize w0))) fun J_6 => Br ((decide ((2 : Int) ≤ base)) && (decide (base ≤ 36))) (J_6 s base w) (Br (base == 0) ((0 ≤ (0 : Int) ∧ (0 : Int) < (s.size : Int)) ∧ Br ((bt s 0) == 48) ((decide ((s.size : Int) ≥ 3) = true → (0 ≤ (1 : Int) ∧ (1 : Int) < (s.size : Int))) ∧ letJ (fun (n6 : Int) (w019 : World) => Br ((decide ((s.size : Int) ≥ 3)) && (n6 == 98)) ((0 ≤ (2 : Int) ∧ (2 : Int) ≤ (s.size : Int) ∧ (s.size : Int) ≤ (s.size : Int)) ∧ J_6 (s.extract 2 ((s.size : Int)).toNat) 2 w019) ((decide ((s.size : Int) ≥ 3) = true → (0 ≤ (1 : Int) ∧ (1 : Int) < (s.size : Int))) ∧ letJ (fun (n7 : Int) (w021 : World) => Br ((decide ((s.size : Int) ≥ 3)) && (n7 == 111)) ((0 ≤ (2 : Int) ∧ (2 : Int) ≤ (s.size : Int) ∧ (s.size : Int) ≤ (s.size : Int)) ∧ J_6 (s.extract 2 ((s.size : Int)).toNat) 8 w021) ((decide ((s.size : Int) ≥ 3) = true → (0 ≤ (1 : Int) ∧ (1 : Int) < (s.size : Int))) ∧ letJ (fun (n8 : Int) (w023 : World) => Br ((decide ((s.size : Int) ≥ 3)) && (n8 == 120)) ((0 ≤ (2 : Int) ∧ (2 : Int) ≤ (s.size : Int) ∧ (s.size : Int) ≤ (s.size : Int)) ∧ J_6 (s.extract 2 ((s.size : Int)).toNat) 16 w023) ((0 ≤ (1 : Int) ∧ (1 : Int) ≤ (s.size : Int) ∧ (s.size : Int) ≤ (s.size : Int)) ∧ J_6 (s.extract 1 ((s.size : Int)).toNat) 8 w023)) fun J_7 => (decide ((s.size : Int) ≥ 3) = true → Cinternal_strconv_lower (bt s 1) w021 J_7) ∧ (decide ((s.size : Int) ≥ 3) = false → J_7 (Kd.dflt (.i .u8)) w021))) fun J_8 => (decide ((s.size : Int) ≥ 3) = true → Cinternal_strconv_lower (bt s 1) w019 J_8) ∧ (decide ((s.size : Int) ≥ 3) = false → J_8 (Kd.dflt (.i .u8)) w019))) fun J_9 => (decide ((s.size : Int) ≥ 3) = true → Cinternal_strconv_lower (bt s 1) w J_9) ∧ (decide ((s.size : Int) ≥ 3) = false → J_9 (Kd.dflt (.i .u8)) w)) (J_6 s 10 w)) (∃ v7 : Value, (Instr.makeInterface 134 (.int .i64 3)).run Tryd.prog w = .ok v7 w ∧ R 0 v7 w)))
theorem Finternal_strconv_ParseUint.calls (s : ByteArray) (base : Int) (bitSize : Int) (w : World) (R : Int → Value → World → Prop) (h : Finternal_strconv_ParseUint s base bitSize w R) : Cinternal_strconv_ParseUint s base bitSize w R :=
  calls_of_vc (anOp_ok callable) wide Tryd.func79 [(108, ⟨[(12, .b), (13, .i .u64), (101, .i .i64)], [1, 8, 9, 10, 11, 99, 100]⟩), (14, ⟨[(12, .b), (13, .i .u64)], [1, 8, 9, 10, 11, 99, 100, 101]⟩), (17, ⟨[(12, .b), (16, .i .u8)], [1, 8, 9, 10, 11, 13, 99, 100, 101]⟩), (8, ⟨[(10, .i .u64)], [0, 1, 2, 8, 9]⟩), (67, ⟨[(2, .i .i64)], [0, 1, 8, 9]⟩), (2, ⟨[(0, .s), (1, .i .i64)], [2, 8, 9]⟩)] [.i .u64, .v] [.string s, .int .i64 base, .int .i64 bitSize] w R (Eq.mp (show Finternal_strconv_ParseUint s base bitSize w R = vcF Tryd.prog G Tryd.f79 [(108, ⟨[(12, .b), (13, .i .u64), (101, .i .i64)], [1, 8, 9, 10, 11, 99, 100]⟩), (14, ⟨[(12, .b), (13, .i .u64)], [1, 8, 9, 10, 11, 99, 100, 101]⟩), (17, ⟨[(12, .b), (16, .i .u8)], [1, 8, 9, 10, 11, 13, 99, 100, 101]⟩), (8, ⟨[(10, .i .u64)], [0, 1, 2, 8, 9]⟩), (67, ⟨[(2, .i .i64)], [0, 1, 8, 9]⟩), (2, ⟨[(0, .s), (1, .i .i64)], [2, 8, 9]⟩)] [.i .u64, .v] [.string s, .int .i64 base, .int .i64 bitSize] w R by kernel_rfl) h)
/-- strconv.toError -/
def Fstrconv_toError (fn : ByteArray) (s : ByteArray) (base : Int) (bitSize : Int) (err : Value) (w : World) (R : Value → World → Prop) : Prop :=
  ∃ v : Value, (Instr.makeInterface 134 (.int .i64 2)).run Tryd.prog w = .ok v w ∧ ∃ b : Bool, (do eqGuard .eql 112 (.tmp 11) (.tmp 13) err v; binOp .eql 112 err v : Sem Value).run Tryd.prog w = .ok (.bool b) w ∧ Br b (Cstrconv_syntaxError fn s w fun p w0 => ∃ v1 : Value, (Instr.makeInterface 136 (.pointer p)).run Tryd.prog w0 = .ok v1 w0 ∧ R v1 w0) (∃ v2 : Value, (Instr.makeInterface 134 (.int .i64 1)).run Tryd.prog w = .ok v2 w ∧ ∃ b1 : Bool, (do eqGuard .eql 112 (.tmp 11) (.tmp 20) err v2; binOp .eql 112 err v2 : Sem Value).run Tryd.prog w = .ok (.bool b1) w ∧ Br b1 (Cstrconv_rangeError fn s w fun p1 w01 => ∃ v3 : Value, (Instr.makeInterface 136 (.pointer p1)).run Tryd.prog w01 = .ok v3 w01 ∧ R v3 w01) (∃ v4 : Value, (Instr.makeInterface 134 (.int .i64 3)).run Tryd.prog w = .ok v4 w ∧ ∃ b2 : Bool, (do eqGuard .eql 112 (.tmp 11) (.tmp 27) err v4; binOp .eql 112 err v4 : Sem Value).run Tryd.prog w = .ok (.bool b2) w ∧ Br b2 (Cstrconv_baseError fn s base w fun p2 w02 => ∃ v5 : Value, (Instr.makeInterface 136 (.pointer p2)).run Tryd.prog w02 = .ok v5 w02 ∧ R v5 w02) (∃ v6 : Value, (Instr.makeInterface 134 (.int .i64 4)).run Tryd.prog w = .ok v6 w ∧ ∃ b3 : Bool, (do eqGuard .eql 112 (.tmp 11) (.tmp 35) err v6; binOp .eql 112 err v6 : Sem Value).run Tryd.prog w = .ok (.bool b3) w ∧ Br b3 (Cstrconv_bitSizeError fn s bitSize w fun p3 w03 => ∃ v7 : Value, (Instr.makeInterface 136 (.pointer p3)).run Tryd.prog w03 = .ok v7 w03 ∧ R v7 w03) (R err w))))
theorem Fstrconv_toError.calls (fn : ByteArray) (s : ByteArray) (base : Int) (bitSize : Int) (err : Value) (w : World) (R : Value → World → Prop) (h : Fstrconv_toError fn s base bitSize err w R) : Cstrconv_toError fn s base bitSize err w R :=
  calls_of_vc (anOp_ok callable) wide Tryd.func80 [] [.v] [.string fn, .string s, .int .i64 base, .int .i64 bitSize, err] w R (Eq.mp (show Fstrconv_toError fn s base bitSize err w R = vcF Tryd.prog G Tryd.f80 [] [.v] [.string fn, .string s, .int .i64 base, .int .i64 bitSize, err] w R by kernel_rfl) h)
/-- internal/bytealg.Cutover -/
def Finternal_bytealg_Cutover (n : Int) (w : World) (R : Int → World → Prop) : Prop :=
  ((8 : Int) ≠ 0) ∧ R (IntKind.wrap .i64 ((IntKind.wrap .i64 (n + 16)).tdiv 8)) w
theorem Finternal_bytealg_Cutover.calls (n : Int) (w : World) (R : Int → World → Prop) (h : Finternal_bytealg_Cutover n w R) : Cinternal_bytealg_Cutover n w R :=
  calls_of_vc (anOp_ok callable) wide Tryd.func83 [] [.i .i64] [.int .i64 n] w R (Eq.mp (show Finternal_bytealg_Cutover n w R = vcF Tryd.prog G Tryd.f83 [] [.i .i64] [.int .i64 n] w R by kernel_rfl) h)
/-- internal/bytealg.IndexRabinKarp[string] -/
def Finternal_bytealg_IndexRabinKarp_string (s : ByteArray) (sep : ByteArray) (w : World) (R : Int → World → Prop) : Prop :=
  Cinternal_bytealg_hashStr_string sep w fun n n1 w0 => ∃ (I : Int → Int → World → Prop) (μ : Int → Int → World → Nat), I 0 0 w0 ∧ ∀ (h_ : Int) (i : Int) (w01 : World), I h_ i w01 → Br (decide (i < (sep.size : Int))) ((0 ≤ i ∧ i < (s.size : Int)) ∧ I (IntKind.wrap .u32 ((IntKind.wrap .u32 (h_ * 16777619)) + (IntKind.wrap .u32 (bt s i)))) (IntKind.wrap .i64 (i + 1)) w01 ∧ μ (IntKind.wrap .u32 ((IntKind.wrap .u32 (h_ * 16777619)) + (IntKind.wrap .u32 (bt s i)))) (IntKind.wrap .i64 (i + 1)) w01 < μ h_ i w01) (((h_ == n) = true → (0 ≤ (0 : Int) ∧ (0 : Int) ≤ (sep.size : Int) ∧ (sep.size : Int) ≤ (s.size : Int))) ∧ Br ((h_ == n) && (sEq (s.extract 0 (sep.size : Int).toNat) sep)) (R 0 w01) (∃ (I1 : Int → Int → World → Prop) (μ1 : Int → Int → World → Nat), I1 h_ (sep.size : Int) w01 ∧ ∀ (h_1 : Int) (i1 : Int) (w02 : World), I1 h_1 i1 w02 → Br (decide (i1 < (s.size : Int))) ((0 ≤ i1 ∧ i1 < (s.size : Int)) ∧ (0 ≤ (IntKind.wrap .i64 (i1 - (sep.size : Int))) ∧ (IntKind.wrap .i64 (i1 - (sep.size : Int))) < (s.size : Int)) ∧ (((IntKind.wrap .u32 ((IntKind.wrap .u32 ((IntKind.wrap .u32 (h_1 * 16777619)) + (IntKind.wrap .u32 (bt s i1)))) - (IntKind.wrap .u32 (n1 * (IntKind.wrap .u32 (bt s (IntKind.wrap .i64 (i1 - (sep.size : Int))))))))) == n) = true → (0 ≤ (IntKind.wrap .i64 ((IntKind.wrap .i64 (i1 + 1)) - (sep.size : Int))) ∧ (IntKind.wrap .i64 ((IntKind.wrap .i64 (i1 + 1)) - (sep.size : Int))) ≤ (IntKind.wrap .i64 (i1 + 1)) ∧ (IntKind.wrap .i64 (i1 + 1)) ≤ (s.size : Int))) ∧ Br (((IntKind.wrap .u32 ((IntKind.wrap .u32 ((IntKind.wrap .u32 (h_1 * 16777619)) + (IntKind.wrap .u32 (bt s i1)))) - (IntKind.wrap .u32 (n1 * (IntKind.wrap .u32 (bt s (IntKind.wrap .i64 (i1 - (sep.size : Int))))))))) == n) && (sEq (s.extract (IntKind.wrap .i64 ((IntKind.wrap .i64 (i1 + 1)) - (sep.size : Int))).toNat (IntKind.wrap .i64 (i1 + 1)).toNat) sep)) (R (IntKind.wrap .i64 ((IntKind.wrap .i64 (i1 + 1)) - (sep.size : Int))) w02) (I1 (IntKind.wrap .u32 ((IntKind.wrap .u32 ((IntKind.wrap .u32 (h_1 * 16777619)) + (IntKind.wrap .u32 (bt s i1)))) - (IntKind.wrap .u32 (n1 * (IntKind.wrap .u32 (bt s (IntKind.wrap .i64 (i1 - (sep.size : Int))))))))) (IntKind.wrap .i64 (i1 + 1)) w02 ∧ μ1 (IntKind.wrap .u32 ((IntKind.wrap .u32 ((IntKind.wrap .u32 (h_1 * 16777619)) + (IntKind.wrap .u32 (bt s i1)))) - (IntKind.wrap .u32 (n1 * (IntKind.wrap .u32 (bt s (IntKind.wrap .i64 (i1 - (sep.size : Int))))))))) (IntKind.wrap .i64 (i1 + 1)) w02 < μ1 h_1 i1 w02)) (R (-1) w02)))
theorem Finternal_bytealg_IndexRabinKarp_string.calls (s : ByteArray) (sep : ByteArray) (w : World) (R : Int → World → Prop) (h : Finternal_bytealg_IndexRabinKarp_string s sep w R) : Cinternal_bytealg_IndexRabinKarp_string s sep w R :=
  calls_of_vc (anOp_ok callable) wide Tryd.func84 [(15, ⟨[(8, .i .u32), (9, .i .i64)], [0, 1, 5, 6, 7]⟩), (33, ⟨[(8, .i .u32), (10, .i .i64)], [0, 1, 5, 6, 7]⟩)] [.i .i64] [.string s, .string sep] w R (Eq.mp (show Finternal_bytealg_IndexRabinKarp_string s sep w R = vcF Tryd.prog G Tryd.f84 [(15, ⟨[(8, .i .u32), (9, .i .i64)], [0, 1, 5, 6, 7]⟩), (33, ⟨[(8, .i .u32), (10, .i .i64)], [0, 1, 5, 6, 7]⟩)] [.i .i64] [.string s, .string sep] w R by kernel_rfl) h)
/-- math/bits.TrailingZeros32 -/
def Fmath_bits_TrailingZeros32 (x : Int) (w : World) (R : Int → World → Prop) : Prop :=
  Br (x == 0) (R 32 w) ((0 ≤ (bShr .u32 (IntKind.wrap .u32 ((bAnd .u32 x (IntKind.wrap .u32 (0 - x))) * 125613361)) 27) ∧ (bShr .u32 (IntKind.wrap .u32 ((bAnd .u32 x (IntKind.wrap .u32 (0 - x))) * 125613361)) 27) < (32 : Int)) ∧ ∃ n : Int, w.cell? ((⟨4, 0, none⟩ : Addr).add ((bShr .u32 (IntKind.wrap .u32 ((bAnd .u32 x (IntKind.wrap .u32 (0 - x))) * 125613361)) 27).toNat * 1)) = some (.int .u8 n) ∧ R (IntKind.wrap .i64 n) w)
theorem Fmath_bits_TrailingZeros32.calls (x : Int) (w : World) (R : Int → World → Prop) (h : Fmath_bits_TrailingZeros32 x w R) : Cmath_bits_TrailingZeros32 x w R :=
  calls_of_vc (anOp_ok callable) wide Tryd.func85 [] [.i .i64] [.int .u32 x] w R (Eq.mp (show Fmath_bits_TrailingZeros32 x w R = vcF Tryd.prog G Tryd.f85 [] [.i .i64] [.int .u32 x] w R by kernel_rfl) h)
/-- math/bits.TrailingZeros64 -/
def Fmath_bits_TrailingZeros64 (x : Int) (w : World) (R : Int → World → Prop) : Prop :=
  Br (x == 0) (R 64 w) ((0 ≤ (bShr .u64 (IntKind.wrap .u64 ((bAnd .u64 x (IntKind.wrap .u64 (0 - x))) * 285870213051353865)) 58) ∧ (bShr .u64 (IntKind.wrap .u64 ((bAnd .u64 x (IntKind.wrap .u64 (0 - x))) * 285870213051353865)) 58) < (64 : Int)) ∧ ∃ n : Int, w.cell? ((⟨5, 0, none⟩ : Addr).add ((bShr .u64 (IntKind.wrap .u64 ((bAnd .u64 x (IntKind.wrap .u64 (0 - x))) * 285870213051353865)) 58).toNat * 1)) = some (.int .u8 n) ∧ R (IntKind.wrap .i64 n) w)
theorem Fmath_bits_TrailingZeros64.calls (x : Int) (w : World) (R : Int → World → Prop) (h : Fmath_bits_TrailingZeros64 x w R) : Cmath_bits_TrailingZeros64 x w R :=
  calls_of_vc (anOp_ok callable) wide Tryd.func86 [] [.i .i64] [.int .u64 x] w R (Eq.mp (show Fmath_bits_TrailingZeros64 x w R = vcF Tryd.prog G Tryd.f86 [] [.i .i64] [.int .u64 x] w R by kernel_rfl) h)
/-- internal/strconv.lower -/
def Finternal_strconv_lower (c : Int) (w : World) (R : Int → World → Prop) : Prop :=
  R (bOr .u8 c 32) w
theorem Finternal_strconv_lower.calls (c : Int) (w : World) (R : Int → World → Prop) (h : Finternal_strconv_lower c w R) : Cinternal_strconv_lower c w R :=
  calls_of_vc (anOp_ok callable) wide Tryd.func87 [] [.i .u8] [.int .u8 c] w R (Eq.mp (show Finternal_strconv_lower c w R = vcF Tryd.prog G Tryd.f87 [] [.i .u8] [.int .u8 c] w R by kernel_rfl) h)
/-- internal/strconv.underscoreOK -/
def Finternal_strconv_underscoreOK (s : ByteArray) (w : World) (R : Bool → World → Prop) : Prop :=
  (decide ((s.size : Int) ≥ 1) = true → (0 ≤ (0 : Int) ∧ (0 : Int) < (s.size : Int))) ∧ (((!((bt s 0) == 45)) && (decide ((s.size : Int) ≥ 1))) = true → (0 ≤ (0 : Int) ∧ (0 : Int) < (s.size : Int))) ∧ letX (fun (s1 : ByteArray) (w0 : World) => (decide ((s1.size : Int) ≥ 2) = true → (0 ≤ (0 : Int) ∧ (0 : Int) < (s1.size : Int))) ∧ (((decide ((s1.size : Int) ≥ 2)) && ((bt s1 0) == 48)) = true → (0 ≤ (1 : Int) ∧ (1 : Int) < (s1.size : Int))) ∧ letJ (fun (n : Int) (w01 : World) => (((!(n == 98)) && ((decide ((s1.size : Int) ≥ 2)) && ((bt s1 0) == 48))) = true → (0 ≤ (1 : Int) ∧ (1 : Int) < (s1.size : Int))) ∧ letJ (fun (n1 : Int) (w02 : World) => (((!((n == 98) || (n1 == 111))) && ((decide ((s1.size : Int) ≥ 2)) && ((bt s1 0) == 48))) = true → (0 ≤ (1 : Int) ∧ (1 : Int) < (s1.size : Int))) ∧ letJ (fun (n2 : Int) (w03 : World) => letX (fun (saw : Int) (i : Int) (hex : Bool) (w04 : World) => ∃ (I : Int → Int → World → Prop) (μ : Int → Int → World → Nat), I saw i w04 ∧ ∀ (saw1 : Int) (i1 : Int) (w05 : World), I saw1 i1 w05 → Br (decide (i1 < (s1.size : Int))) (letX (fun (saw2 : Int) (w06 : World) => I saw2 (IntKind.wrap .i64 (i1 + 1)) w06 ∧ μ saw2 (IntKind.wrap .i64 (i1 + 1)) w06 < μ saw1 i1 w05) fun J_ => (0 ≤ i1 ∧ i1 < (s1.size : Int)) ∧ (decide ((48 : Int) ≤ (bt s1 i1)) = true → (0 ≤ i1 ∧ i1 < (s1.size : Int))) ∧ ((hex && (!((decide ((48 : Int) ≤ (bt s1 i1))) && (decide ((bt s1 i1) ≤ 57))))) = true → (0 ≤ i1 ∧ i1 < (s1.size : Int))) ∧ letJ (fun (n3 : Int) (w07 : World) => (((hex && (decide ((97 : Int) ≤ n3))) && (!((decide ((48 : Int) ≤ (bt s1 i1))) && (decide ((bt s1 i1) ≤ 57))))) = true → (0 ≤ i1 ∧ i1 < (s1.size : Int))) ∧ letJ (fun (n4 : Int) (w08 : World) => Br (((decide ((48 : Int) ≤ (bt s1 i1))) && (decide ((bt s1 i1) ≤ 57))) || ((hex && (decide ((97 : Int) ≤ n3))) && (decide (n4 ≤ 102)))) (J_ 48 w08) ((0 ≤ i1 ∧ i1 < (s1.size : Int)) ∧ Br ((bt s1 i1) == 95) (Br (saw1 != 48) (R false w08) (J_ 95 w08)) (Br (saw1 == 95) (R false w08) (J_ 33 w08)))) fun J_1 => (((hex && (decide ((97 : Int) ≤ n3))) && (!((decide ((48 : Int) ≤ (bt s1 i1))) && (decide ((bt s1 i1) ≤ 57))))) = true → Cinternal_strconv_lower (bt s1 i1) w07 J_1) ∧ (((hex && (decide ((97 : Int) ≤ n3))) && (!((decide ((48 : Int) ≤ (bt s1 i1))) && (decide ((bt s1 i1) ≤ 57))))) = false → J_1 (Kd.dflt (.i .u8)) w07)) fun J_2 => ((hex && (!((decide ((48 : Int) ≤ (bt s1 i1))) && (decide ((bt s1 i1) ≤ 57))))) = true → Cinternal_strconv_lower (bt s1 i1) w05 J_2) ∧ ((hex && (!((decide ((48 : Int) ≤ (bt s1 i1))) && (decide ((bt s1 i1) ≤ 57))))) = false → J_2 (Kd.dflt (.i .u8)) w05)) (R (saw1 != 95) w05)) fun J_3 => Br (((decide ((s1.size : Int) ≥ 2)) && ((bt s1 0) == 48)) && (((n == 98) || (n1 == 111)) || (n2 == 120))) ((0 ≤ (1 : Int) ∧ (1 : Int) < (s1.size : Int)) ∧ Cinternal_strconv_lower (bt s1 1) w03 fun n5 w09 => J_3 48 2 (n5 == 120) w09) (J_3 94 0 false w03)) fun J_4 => (((!((n == 98) || (n1 == 111))) && ((decide ((s1.size : Int) ≥ 2)) && ((bt s1 0) == 48))) = true → Cinternal_strconv_lower (bt s1 1) w02 J_4) ∧ (((!((n == 98) || (n1 == 111))) && ((decide ((s1.size : Int) ≥ 2)) && ((bt s1 0) == 48))) = false → J_4 (Kd.dflt (.i .u8)) w02)) fun J_5 => (((!(n == 98)) && ((decide ((s1.size : Int) ≥ 2)) && ((bt s1 0) == 48))) = true → Cinternal_strconv_lower (bt s1 1) w01 J_5) ∧ (((!(n == 98)) && ((decide ((s1.size : Int) ≥ 2)) && ((bt s1 0) == 48))) = false → J_5 (Kd.dflt (.i .u8)) w01)) fun J_6 => (((decide ((s1.size : Int) ≥ 2)) && ((bt s1 0) == 48)) = true → Cinternal_strconv_lower (bt s1 1) w0 J_6) ∧ (((decide ((s1.size : Int) ≥ 2)) && ((bt s1 0) == 48)) = false → J_6 (Kd.dflt (.i .u8)) w0)) fun J_7 => Br ((decide ((s.size : Int) ≥ 1)) && (((bt s 0) == 45) || ((bt s 0) == 43))) ((0 ≤ (1 : Int) ∧ (1 : Int) ≤ (s.size : Int) ∧ (s.size : Int) ≤ (s.size : Int)) ∧ J_7 (s.extract 1 ((s.size : Int)).toNat) w) (J_7 s w)
theorem Finternal_strconv_underscoreOK.calls (s : ByteArray) (w : World) (R : Bool → World → Prop) (h : Finternal_strconv_underscoreOK s w R) : Cinternal_strconv_underscoreOK s w R :=
  calls_of_vc (anOp_ok callable) wide Tryd.func88 [(30, ⟨[(3, .i .i32), (4, .i .i64)], [0, 5]⟩), (5, ⟨[(3, .i .i32)], [0, 4, 5]⟩), (22, ⟨[(3, .i .i32), (4, .i .i64), (5, .b)], [0]⟩), (13, ⟨[(0, .s)], [3, 4]⟩)] [.b] [.string s] w R (Eq.mp (show Finternal_strconv_underscoreOK s w R = vcF Tryd.prog G Tryd.f88 [(30, ⟨[(3, .i .i32), (4, .i .i64)], [0, 5]⟩), (5, ⟨[(3, .i .i32)], [0, 4, 5]⟩), (22, ⟨[(3, .i .i32), (4, .i .i64), (5, .b)], [0]⟩), (13, ⟨[(0, .s)], [3, 4]⟩)] [.b] [.string s] w R by kernel_rfl) h)
/-- strconv.syntaxError -/
def Fstrconv_syntaxError (fn : ByteArray) (str : ByteArray) (w : World) (R : (Option Addr) → World → Prop) : Prop :=
  ∀ w0, w0 = w.drew → ∃ S : World → Prop, S w0 ∧ ∃ v : Value, (∀ u, S u → u.cell? (⟨6, 0, none⟩ : Addr) = some v) ∧ Cinternal_stringslite_Clone str w0 fun s w01 => S w01 ∧ ∃ S1 : World → Prop, S1 w01 ∧ (∀ u1, S1 u1 → S u1) ∧ ∃ g : Array Value, (∀ u2, S1 u2 → (Instr.build 145 #[(0, .string fn), (1, .string s), (2, v)]).run Tryd.prog u2 = .ok (.agg g) u2) ∧ New (.cells g 145) w01 fun a w02 => R (some a) w02
theorem Fstrconv_syntaxError.calls (fn : ByteArray) (str : ByteArray) (w : World) (R : (Option Addr) → World → Prop) (h : Fstrconv_syntaxError fn str w R) : Cstrconv_syntaxError fn str w R :=
  calls_of_vc (anOp_ok callable) wide Tryd.func89 [] [.p] [.string fn, .string str] w R (Eq.mp (show Fstrconv_syntaxError fn str w R = vcF Tryd.prog G Tryd.f89 [] [.p] [.string fn, .string str] w R by kernel_rfl) h)
/-- strconv.rangeError -/
def Fstrconv_rangeError (fn : ByteArray) (str : ByteArray) (w : World) (R : (Option Addr) → World → Prop) : Prop :=
  ∀ w0, w0 = w.drew → ∃ S : World → Prop, S w0 ∧ ∃ v : Value, (∀ u, S u → u.cell? (⟨7, 0, none⟩ : Addr) = some v) ∧ Cinternal_stringslite_Clone str w0 fun s w01 => S w01 ∧ ∃ S1 : World → Prop, S1 w01 ∧ (∀ u1, S1 u1 → S u1) ∧ ∃ g : Array Value, (∀ u2, S1 u2 → (Instr.build 145 #[(0, .string fn), (1, .string s), (2, v)]).run Tryd.prog u2 = .ok (.agg g) u2) ∧ New (.cells g 145) w01 fun a w02 => R (some a) w02
theorem Fstrconv_rangeError.calls (fn : ByteArray) (str : ByteArray) (w : World) (R : (Option Addr) → World → Prop) (h : Fstrconv_rangeError fn str w R) : Cstrconv_rangeError fn str w R :=
  calls_of_vc (anOp_ok callable) wide Tryd.func90 [] [.p] [.string fn, .string str] w R (Eq.mp (show Fstrconv_rangeError fn str w R = vcF Tryd.prog G Tryd.f90 [] [.p] [.string fn, .string str] w R by kernel_rfl) h)
/-- strconv.baseError -/
def Fstrconv_baseError (fn : ByteArray) (str : ByteArray) (base : Int) (w : World) (R : (Option Addr) → World → Prop) : Prop :=
  Cinternal_stringslite_Clone str w fun s w0 => Cstrconv_Itoa base w0 fun s1 w01 => (s_invalidx20basex20.size + s1.size ≤ 9223372036854775807) ∧ Cerrors_New (s_invalidx20basex20 ++ s1) w01 fun v w02 => ∃ g : Array Value, (Instr.build 145 #[(0, .string fn), (1, .string s), (2, v)]).run Tryd.prog w02 = .ok (.agg g) w02 ∧ New (.cells g 145) w02 fun a w03 => R (some a) w03
theorem Fstrconv_baseError.calls (fn : ByteArray) (str : ByteArray) (base : Int) (w : World) (R : (Option Addr) → World → Prop) (h : Fstrconv_baseError fn str base w R) : Cstrconv_baseError fn str base w R :=
  calls_of_vc (anOp_ok callable) wide Tryd.func91 [] [.p] [.string fn, .string str, .int .i64 base] w R (Eq.mp (show Fstrconv_baseError fn str base w R = vcF Tryd.prog G Tryd.f91 [] [.p] [.string fn, .string str, .int .i64 base] w R by kernel_rfl) h)
/-- strconv.bitSizeError -/
def Fstrconv_bitSizeError (fn : ByteArray) (str : ByteArray) (bitSize : Int) (w : World) (R : (Option Addr) → World → Prop) : Prop :=
  Cinternal_stringslite_Clone str w fun s w0 => Cstrconv_Itoa bitSize w0 fun s1 w01 => (s_invalidx20bitx20sizex20.size + s1.size ≤ 9223372036854775807) ∧ Cerrors_New (s_invalidx20bitx20sizex20 ++ s1) w01 fun v w02 => ∃ g : Array Value, (Instr.build 145 #[(0, .string fn), (1, .string s), (2, v)]).run Tryd.prog w02 = .ok (.agg g) w02 ∧ New (.cells g 145) w02 fun a w03 => R (some a) w03
theorem Fstrconv_bitSizeError.calls (fn : ByteArray) (str : ByteArray) (bitSize : Int) (w : World) (R : (Option Addr) → World → Prop) (h : Fstrconv_bitSizeError fn str bitSize w R) : Cstrconv_bitSizeError fn str bitSize w R :=
  calls_of_vc (anOp_ok callable) wide Tryd.func92 [] [.p] [.string fn, .string str, .int .i64 bitSize] w R (Eq.mp (show Fstrconv_bitSizeError fn str bitSize w R = vcF Tryd.prog G Tryd.f92 [] [.p] [.string fn, .string str, .int .i64 bitSize] w R by kernel_rfl) h)
/-- internal/bytealg.hashStr[string] -/
def Finternal_bytealg_hashStr_string (sep : ByteArray) (w : World) (R : Int → Int → World → Prop) : Prop :=
  ∃ (I : Int → Int → World → Prop) (μ : Int → Int → World → Nat), I 0 0 w ∧ ∀ (hash : Int) (i : Int) (w0 : World), I hash i w0 → Br (decide (i < (sep.size : Int))) ((0 ≤ i ∧ i < (sep.size : Int)) ∧ I (IntKind.wrap .u32 ((IntKind.wrap .u32 (hash * 16777619)) + (IntKind.wrap .u32 (bt sep i)))) (IntKind.wrap .i64 (i + 1)) w0 ∧ μ (IntKind.wrap .u32 ((IntKind.wrap .u32 (hash * 16777619)) + (IntKind.wrap .u32 (bt sep i)))) (IntKind.wrap .i64 (i + 1)) w0 < μ hash i w0) (∃ (I1 : Int → Int → Int → World → Prop) (μ1 : Int → Int → Int → World → Nat), I1 1 16777619 (sep.size : Int) w0 ∧ ∀ (pow : Int) (sq : Int) (i1 : Int) (w01 : World), I1 pow sq i1 w01 → Br (decide (i1 > 0)) (letX (fun (pow1 : Int) (sq1 : Int) (w02 : World) => I1 pow1 sq1 (bShr .i64 i1 1) w02 ∧ μ1 pow1 sq1 (bShr .i64 i1 1) w02 < μ1 pow sq i1 w01) fun J_ => Br ((bAnd .i64 i1 1) != 0) (J_ (IntKind.wrap .u32 (pow * sq)) (IntKind.wrap .u32 (sq * sq)) w01) (J_ pow (IntKind.wrap .u32 (sq * sq)) w01)) (R hash pow w01))
theorem Finternal_bytealg_hashStr_string.calls (sep : ByteArray) (w : World) (R : Int → Int → World → Prop) (h : Finternal_bytealg_hashStr_string sep w R) : Cinternal_bytealg_hashStr_string sep w R :=
  calls_of_vc (anOp_ok callable) wide Tryd.func94 [(9, ⟨[(4, .i .u32), (5, .i .i64)], [0]⟩), (24, ⟨[(6, .i .u32), (7, .i .u32), (8, .i .i64)], [4]⟩), (11, ⟨[(6, .i .u32), (7, .i .u32)], [4, 8]⟩)] [.i .u32, .i .u32] [.string sep] w R (Eq.mp (show Finternal_bytealg_hashStr_string sep w R = vcF Tryd.prog G Tryd.f94 [(9, ⟨[(4, .i .u32), (5, .i .i64)], [0]⟩), (24, ⟨[(6, .i .u32), (7, .i .u32), (8, .i .i64)], [4]⟩), (11, ⟨[(6, .i .u32), (7, .i .u32)], [4, 8]⟩)] [.i .u32, .i .u32] [.string sep] w R by kernel_rfl) h)
/-- errors.New -/
def Ferrors_New (text : ByteArray) (w : World) (R : Value → World → Prop) : Prop :=
  New (.cells #[.string text] 150) w fun a w0 => ∃ v : Value, (Instr.makeInterface 148 (.pointer (some a))).run Tryd.prog w0 = .ok v w0 ∧ R v w0
theorem Ferrors_New.calls (text : ByteArray) (w : World) (R : Value → World → Prop) (h : Ferrors_New text w R) : Cerrors_New text w R :=
  calls_of_vc (anOp_ok callable) wide Tryd.func96 [] [.v] [.string text] w R (Eq.mp (show Ferrors_New text w R = vcF Tryd.prog G Tryd.f96 [] [.v] [.string text] w R by kernel_rfl) h)
end Go.Proofs.YtjfjanogfakclaaDoor

/- Layer 3: files in a map, and a change applied to them. -/
namespace Go.Proofs.YtjfjanogfakclaaDoor
open Go CF

abbrev Files := ByteArray → Option L8
def wr (f : L8) (o : Nat) (p : L8) : L8 :=
  (f ++ List.replicate (o + p.length - f.length) 0).take o ++ p ++ (f ++ List.replicate (o + p.length - f.length) 0).drop (o + p.length)
def setF (F : Files) (s : ByteArray) (v : Option L8) : Files := fun t => if t = s then v else F t
def applyWr (F : Files) (s : ByteArray) (o : Nat) (p : L8) : Files := setF F s (some (wr ((F s).getD []) o p))
theorem wr_len (f : L8) (o : Nat) (p : L8) : (wr f o p).length = max f.length (o + p.length) := by
  unfold wr
  simp only [List.length_append, List.length_take, List.length_drop, List.length_replicate]
  omega
theorem mn_nat (a b : Nat) : mn (a : Int) (b : Int) = ((min a b : Nat) : Int) := by
  unfold mn; split <;> omega
/-- a file's bytes, as they lie in the map -/
def FileAt (w : World) (v : Option Value) : Option L8 → Prop
  | none => v = none
  | some l => ∃ s : Sl, v = some (.slice s.A s.n s.c) ∧ Own w 0 t_uint8 1 s (bv l) ∧ l.length ≤ 1048576
def IsF (w : World) (mb : Nat) (F : Files) : Prop := ∃ m, SMap w mb m ∧ ∀ s, FileAt w (m s) (F s)
theorem own_heap {w : World} {base : Nat} {e : TypeId} {z : Nat} {s : Sl} {vs : List Value} (h : Own w base e z s vs) {g : Nat} (hg : s.blk = some g) : ∃ cur, w.heap[g]? = some (.cells cur e (0, 0)) := by
  rcases h.2 with ⟨h2, _⟩ | ⟨g', cap, cur, hv, _, hh, _⟩
  · injection h2 with hA; simp [Sl.blk, hA] at hg
  · injection hv with hA
    simp [Sl.blk, hA] at hg
    subst hg
    exact ⟨cur, hh⟩
/-- these blocks hold no bytes -/
def NoBytes (w : World) (S : Nat → Prop) : Prop := ∀ g cur, w.heap[g]? = some (.cells cur t_uint8 (0, 0)) → ¬ S g
theorem FileAt.keep {S : Nat → Prop} {w w' : World} {v : Option Value} {l : Option L8} (h : FileAt w v l) (k : Keep S w w') (hn : NoBytes w S) : FileAt w' v l := by
  cases l with
  | none => exact h
  | some l =>
    obtain ⟨s, h1, h2, h3⟩ := h
    refine ⟨s, h1, h2.keep k fun b hb => ?_, h3⟩
    obtain ⟨cur, hc⟩ := own_heap h2 hb
    exact hn b cur hc
theorem IsF.keep {S : Nat → Prop} {w w' : World} {mb : Nat} {F : Files} (h : IsF w mb F) (k : Keep S w w') (hm : ¬ S mb) (hn : NoBytes w S) : IsF w' mb F := by
  obtain ⟨m, h1, h2⟩ := h
  exact ⟨m, h1.keep k hm, fun s => (h2 s).keep k hn⟩
theorem nobytes_none (w : World) : NoBytes w fun _ => False := fun _ _ _ q => q
theorem IsF.grow {w w' : World} {mb : Nat} {F : Files} (h : IsF w mb F) (k : Grow w w') : IsF w' mb F := h.keep k (fun q => q) (nobytes_none w)
theorem isF_new (w : World) : IsF (w.alloc (.map #[] 0)) w.heap.size fun _ => none := ⟨_, smap_new w, fun _ => rfl⟩
theorem isF_lt {w : World} {mb : Nat} {F : Files} (h : IsF w mb F) : mb < w.heap.size := by
  obtain ⟨m, ⟨es, c, hb, _⟩, _⟩ := h
  exact lt_of_heap hb
theorem isF_map {w : World} {mb : Nat} {F : Files} (h : IsF w mb F) (cur : Array Value) (t : TypeId) (fr : Nat × Nat) : w.heap[mb]? ≠ some (.cells cur t fr) := by
  obtain ⟨m, ⟨es, c, hb, _⟩, _⟩ := h
  rw [hb]; intro q; cases q
theorem nobytes_map {w : World} {mb : Nat} {F : Files} (h : IsF w mb F) : NoBytes w fun k => k = mb := fun g cur hg q => by
  subst q; exact isF_map h _ _ _ hg
theorem zero_rule {P : Program} {w : World} {e : TypeId} {zv : Value} {z bytes : Nat} (hinfo : (P.info? e).map (fun i => (i.zero, i.size, i.bytes)) = some (some zv, z, bytes)) : (zeroValue e).run P w = .ok zv w := by
  obtain ⟨i, hi, hzz⟩ := Option.map_eq_some_iff.1 hinfo
  simp only [Prod.mk.injEq] at hzz
  simp [zeroValue, typeInfo, hi, hzz.1]
theorem bv_rep (j : Nat) : bv (List.replicate j 0) ++ [.int .u8 0] = bv (List.replicate (j + 1) 0) := by
  rw [List.replicate_succ', bv_append]; rfl
end Go.Proofs.YtjfjanogfakclaaDoor

/- Rules of maps with ints for keys (CfP turned). -/
namespace Go.Proofs.YtjfjanogfakclaaDoor.CF
open Go Go.RowKit

/-- all keys are strings -/
def IKeys (es : List MapEntry) : Prop := ∀ e ∈ es, ∃ s, e.key = .int .i64 s
def iidx : List MapEntry → Int → Nat → Option (Nat × Value)
  | [], _, _ => none
  | e :: r, s, i => match e.key with
    | .int .i64 t => if s = t then some (i, e.val) else iidx r s (i + 1)
    | _ => iidx r s (i + 1)
def iget (es : List MapEntry) (s : Int) : Option Value := (iidx es s 0).map (·.2)
theorem findNow_int {s : Int} : ∀ {es : List MapEntry} (i : Nat), IKeys es → Instr.findNow (.int .i64) (.int .i64 s) es i = some (iidx es s i)
  | [], _, _ => rfl
  | e :: r, i, h => by
    obtain ⟨t, ht⟩ := h e (by simp)
    have ih := findNow_int (s := s) (i + 1) (fun x hx => h x (by simp [hx]) : IKeys r)
    unfold Instr.findNow iidx
    rw [ht]
    simp only [Instr.sameNow]
    by_cases e : s = t
    · have : (s == t) = true := beq_iff_eq.2 e
      simp only [if_true, this]
      simp only [if_pos e]
    · have : (s == t) = false := Bool.eq_false_iff.2 fun q => e (beq_iff_eq.1 q)
      simp only [if_true, this]
      simp only [if_neg e]
      exact ih
theorem iidx_shift {s : Int} : ∀ (es : List MapEntry) (i j : Nat), iidx es s (i + j) = (iidx es s i).map fun p => (p.1 + j, p.2)
  | [], _, _ => rfl
  | e :: r, i, j => by
    unfold iidx
    have := iidx_shift (s := s) r (i + 1) j
    rw [show i + 1 + j = i + j + 1 by omega] at this
    cases e.key with
    | int k t =>
      cases k with
      | i64 => by_cases q : s = t <;> simp [q, this]
      | _ => simpa using this
    | _ => simpa using this
theorem iget_nil (s : Int) : iget [] s = none := rfl
theorem iget_cons {e : MapEntry} {r : List MapEntry} {t : Int} (h : e.key = .int .i64 t) (s : Int) : iget (e :: r) s = if s = t then some e.val else iget r s := by
  unfold iget
  conv => lhs; unfold iidx
  rw [h]
  by_cases q : s = t
  · simp [q]
  · simp only [if_neg q]
    rw [iidx_shift r 0 1, Option.map_map]
    rfl
theorem iget_push {es : List MapEntry} {s : Int} {e : MapEntry} (hk : IKeys es) (he : e.key = .int .i64 s) (hn : iget es s = none) (t : Int) :
    iget (es ++ [e]) t = if t = s then some e.val else iget es t := by
  induction es with
  | nil => rw [List.nil_append, iget_cons he]
  | cons x r ih =>
    obtain ⟨u, hu⟩ := hk x (by simp)
    rw [iget_cons hu] at hn
    rw [List.cons_append, iget_cons hu, iget_cons hu]
    by_cases q : s = u
    · rw [if_pos q] at hn; cases hn
    · rw [if_neg q] at hn
      rw [ih (fun x hx => hk x (by simp [hx])) hn]
      by_cases q1 : t = u
      · by_cases q2 : t = s
        · exact absurd (q2.symm.trans q1) q
        · rw [if_pos q1, if_neg q2, if_pos q1]
      · simp only [if_neg q1]
theorem iget_modify {es : List MapEntry} {s : Int} {i : Nat} {v v' : Value} (hk : IKeys es) (hn : iidx es s 0 = some (i, v)) (t : Int) :
    iget (es.modify i fun e => { e with key := .int .i64 s, val := v' }) t = if t = s then some v' else iget es t := by
  induction es generalizing i with
  | nil => cases hn
  | cons x r ih =>
    obtain ⟨u, hu⟩ := hk x (by simp)
    unfold iidx at hn
    rw [hu] at hn
    by_cases q : s = u
    · simp only [if_pos q, Option.some.injEq, Prod.mk.injEq] at hn
      obtain ⟨rfl, _⟩ := hn
      rw [List.modify_zero_cons, iget_cons (t := s) rfl, iget_cons hu]
      by_cases q1 : t = s
      · simp [q1]
      · have q2 : t ≠ u := fun e => q1 (e.trans q.symm)
        simp [q1, q2]
    · simp only [if_neg q] at hn
      rw [iidx_shift r 0 1] at hn
      obtain ⟨p, hp, hpe⟩ := Option.map_eq_some_iff.1 hn
      simp only [Prod.mk.injEq] at hpe
      obtain ⟨rfl, hp2⟩ := hpe
      rw [List.modify_succ_cons, iget_cons hu, iget_cons hu, ih (i := p.1) (fun x hx => hk x (by simp [hx])) (by rw [hp, ← hp2])]
      by_cases q1 : t = u
      · have q2 : t ≠ s := fun e => q (e.symm.trans q1)
        simp [q1, q2]
        exact fun e => absurd e.symm q
      · simp [q1]
theorem ikeys_modify {es : List MapEntry} {s : Int} {i : Nat} {v' : Value} (hk : IKeys es) : IKeys (es.modify i fun e => { e with key := .int .i64 s, val := v' }) := by
  intro e he
  obtain ⟨j, hj, rfl⟩ := List.getElem_of_mem he
  rw [List.getElem_modify]
  split
  · exact ⟨s, rfl⟩
  · exact hk _ (List.getElem_mem _)
theorem iidx_at {es : Array MapEntry} {s : Int} {i j : Nat} {v : Value} (hs : IKeys es.toList) (h : iidx es.toList s j = some (j + i, v)) : ∃ e0, es[i]? = some e0 ∧ e0.key = .int .i64 s := by
  rw [← Array.getElem?_toList]
  generalize es.toList = l at *
  induction l generalizing i j with
  | nil => cases h
  | cons x r ih =>
    obtain ⟨u, hu⟩ := hs x (by simp)
    unfold iidx at h
    rw [hu] at h
    by_cases q : s = u
    · simp only [if_pos q, Option.some.injEq, Prod.mk.injEq] at h
      have : i = 0 := by omega
      subst this
      exact ⟨x, rfl, by rw [hu, q]⟩
    · simp only [if_neg q] at h
      have hi : 0 < i := by
        rw [show j + 1 = 0 + (j + 1) by omega, iidx_shift] at h
        obtain ⟨p, _, hp⟩ := Option.map_eq_some_iff.1 h
        simp only [Prod.mk.injEq] at hp
        omega
      obtain ⟨i', rfl⟩ : ∃ i', i = i' + 1 := ⟨i - 1, by omega⟩
      rw [List.getElem?_cons_succ]
      exact ih (j := j + 1) (fun y hy => hs y (by simp [hy])) (by rw [h]; congr 2; omega)
/-- a map that holds these values -/
def IMap (w : World) (b : Nat) (m : Int → Option Value) : Prop :=
  ∃ es clock, w.heap[b]? = some (.map es clock) ∧ IKeys es.toList ∧ ∀ s, iget es.toList s = m s
def iupd (m : Int → Option Value) (s : Int) (v : Value) : Int → Option Value := fun t => if t = s then some v else m t
theorem IMap.keep {S : Nat → Prop} {w w' : World} {b : Nat} {m : Int → Option Value} (h : IMap w b m) (k : Keep S w w') (hn : ¬ S b) : IMap w' b m := by
  obtain ⟨es, c, h1, h2⟩ := h
  exact ⟨es, c, k.heap h1 hn, h2⟩
theorem imap_new (w : World) : IMap (w.alloc (.map #[] 0)) w.heap.size fun _ => none :=
  ⟨#[], 0, by show (w.heap.push _)[w.heap.size]? = _; simp, fun e he => by simp at he, fun s => rfl⟩
section
variable {P : Program} {w : World} {b : Nat} {m : Int → Option Value} {t k e : TypeId}
theorem irun_getMap {es : Array MapEntry} {clock : Nat} (h : w.heap[b]? = some (.map es clock)) : (getObj b).run P w = .ok (.map es clock) w := by
  simp [getObj, Sem.run, h]
theorem checkKey_i (ek : Bool) (n : Nat) (hk : P.underlying k = some (.int .i64)) (s : Int) : (Instr.checkKey ek (n + 1) k (.int .i64 s)).run P w = .ok () w := by
  unfold Instr.checkKey
  simp [run_underlying hk]
theorem findKey_int {es : List MapEntry} (hk : P.underlying k = some (.int .i64)) (hs : IKeys es) (s : Int) : (Instr.findKey k (.int .i64 s) es).run P w = .ok (iidx es s 0) w := by
  unfold Instr.findKey
  simp [run_underlying hk, findNow_int 0 hs]
theorem ilook_rule (ht : P.underlying t = some (.map k e)) (hk : P.underlying k = some (.int .i64)) {zv : Value} (hz : (zeroValue e).run P w = .ok zv w) (h : IMap w b m) (s : Int) :
    (Instr.lookup t (.map (some b)) (.int .i64 s) true).run P w = .ok (.tuple #[(m s).getD zv, .bool (m s).isSome]) w ∧
    (Instr.lookup t (.map (some b)) (.int .i64 s) false).run P w = .ok ((m s).getD zv) w := by
  obtain ⟨es, c, hb, hs, hm⟩ := h
  have := hm s
  unfold iget at this
  unfold Instr.lookup
  constructor
  · cases hi : iidx es.toList s 0 with
    | none =>
      rw [hi] at this
      simp only [Option.map_none] at this
      rw [← this]
      simp [run_underlying ht, irun_getMap hb, checkKey_i _ _ hk, findKey_int hk hs, hi, hz]
    | some p =>
      rw [hi] at this
      simp only [Option.map_some] at this
      rw [← this]
      simp [run_underlying ht, irun_getMap hb, checkKey_i _ _ hk, findKey_int hk hs, hi]
  · cases hi : iidx es.toList s 0 with
    | none =>
      rw [hi] at this
      simp only [Option.map_none] at this
      rw [← this]
      simp [run_underlying ht, irun_getMap hb, checkKey_i _ _ hk, findKey_int hk hs, hi, hz]
    | some p =>
      rw [hi] at this
      simp only [Option.map_some] at this
      rw [← this]
      simp [run_underlying ht, irun_getMap hb, checkKey_i _ _ hk, findKey_int hk hs, hi]
theorem irun_setMap {o : Obj} {es : Array MapEntry} {c : Nat} (h : w.heap[b]? = some (.map es c)) : (setObj b o).run P w = .ok () { w with heap := w.heap.setIfInBounds b o } := by
  simp [setObj, Sem.run, h]
/-- a value under a key -/
theorem iupd_rule (ht : P.underlying t = some (.map k e)) (hk : P.underlying k = some (.int .i64)) (h : IMap w b m) (s : Int) (v : Value)
    {K : World → Prop} (hK : ∀ w1, IMap w1 b (iupd m s v) → Keep (fun k => k = b) w w1 → w1.heap.size = w.heap.size → K w1) : RunU P (Instr.mapUpdate t (.map (some b)) (.int .i64 s) v) w K := by
  obtain ⟨es, c, hb, hs, hm⟩ := h
  have hlt := lt_of_heap hb
  have hget : ∀ (o : Obj), ({ w with heap := w.heap.setIfInBounds b o } : World).heap[b]? = some o := fun o => by
    simp [hlt]
  have hkeep : ∀ (o : Obj), Keep (fun k => k = b) w { w with heap := w.heap.setIfInBounds b o } := fun o =>
    ⟨rfl, rfl, rfl, by simp, fun k _ hn => by simp [Array.getElem?_setIfInBounds, Ne.symm hn]⟩
  cases hi : iidx es.toList s 0 with
  | none =>
    have hn : iget es.toList s = none := by unfold iget; rw [hi]; rfl
    refine ⟨_, ?_, hK { w with heap := w.heap.setIfInBounds b (.map (es.push { key := .int .i64 s, val := v, born := c }) (c + 1)) } ⟨_, _, hget _, ?_, fun t => ?_⟩ (hkeep _) (by simp)⟩
    · unfold Instr.mapUpdate
      simp [run_underlying ht, irun_getMap hb, checkKey_i _ _ hk, findKey_int hk hs, hi, irun_setMap hb]
    · intro e he
      rw [Array.toList_push, List.mem_append, List.mem_singleton] at he
      rcases he with he | rfl
      · exact hs e he
      · exact ⟨s, rfl⟩
    · rw [Array.toList_push, iget_push hs rfl hn]
      unfold iupd
      rw [hm]
  | some p =>
    obtain ⟨i, v0⟩ := p
    have hold : ∃ e0, es[i]? = some e0 ∧ e0.key = .int .i64 s := iidx_at (j := 0) hs (by rw [hi, Nat.zero_add])
    obtain ⟨e0, he0, hk0⟩ := hold
    refine ⟨_, ?_, hK { w with heap := w.heap.setIfInBounds b (.map (es.modify i fun e => { e with key := .int .i64 s, val := v }) c) } ⟨_, _, hget _, ?_, fun t => ?_⟩ (hkeep _) (by simp)⟩
    · unfold Instr.mapUpdate
      simp [run_underlying ht, irun_getMap hb, checkKey_i _ _ hk, findKey_int hk hs, hi, irun_setMap hb, he0, hk0, Instr.keyThatStays, Instr.sameBits]
    · rw [Array.toList_modify]; exact ikeys_modify hs
    · rw [Array.toList_modify, iget_modify hs hi]
      unfold iupd
      rw [hm]
end
end Go.Proofs.YtjfjanogfakclaaDoor.CF

/- Layer 3: the world's calls; a plan: the numbers of the calls that fail. -/
namespace Go.Proofs.YtjfjanogfakclaaDoor
open Go CF

/-- what waits -/
structure Cg where
  kind : Int
  name : ByteArray
  to : ByteArray
  off : Nat
  p : L8
def cgv (x : Cg × Sl) : List Value := [.int .u8 x.1.kind, .string x.1.name, .string x.1.to, .int .i64 (x.1.off : Int), .slice x.2.A x.2.n x.2.c]
theorem cgv_len (x : Cg × Sl) : (cgv x).length = 5 := rfl
/-- a world as it is meant: no call fails -/
structure Wst where
  seen : Files
  dur : Files
  waits : List Cg
  ops : Nat
/-- a plan: the map that holds it, the calls that fail -/
structure Pl where
  mf : Option Nat
  F : Int → Bool
def PlanAt (w : World) (pl : Pl) : Prop := match pl.mf with
  | none => ∀ n, pl.F n = false
  | some b => ∃ m, IMap w b m ∧ ∀ n, (m n).getD (.bool false) = .bool (pl.F n)
def noPlan : Pl := ⟨none, fun _ => false⟩
theorem PlanAt.keep {S : Nat → Prop} {w w' : World} {pl : Pl} (h : PlanAt w pl) (k : Keep S w w') (hn : ∀ b, pl.mf = some b → ¬ S b) : PlanAt w' pl := by
  obtain ⟨mf, F⟩ := pl
  cases mf with
  | none => exact h
  | some b =>
    obtain ⟨m, h1, h2⟩ := h
    exact ⟨m, h1.keep k (hn b rfl), h2⟩
theorem PlanAt.map {w : World} {pl : Pl} (h : PlanAt w pl) {b : Nat} (hb : pl.mf = some b) : ∃ es c, w.heap[b]? = some (.map es c) := by
  obtain ⟨mf, F⟩ := pl
  simp only at hb
  subst hb
  obtain ⟨m, ⟨es, c, h1, _⟩, _⟩ := h
  exact ⟨es, c, h1⟩
def wcells (mf : Option Nat) (mb md : Nat) (ws : Sl) (ops : Nat) : Array Value := #[.map (some mb), .map (some md), .slice ws.A ws.n ws.c, .int .i64 (ops : Int), .map mf, .int .i64 (-1), .bool false]
def quiet : Int → Bool := fun _ => false
theorem checkKey_int {P : Program} {w : World} {k : TypeId} {q : IntKind} (ek : Bool) (n : Nat) (hk : P.underlying k = some (.int q)) (z : Int) : (Instr.checkKey ek (n + 1) k (.int q z)).run P w = .ok () w := by
  unfold Instr.checkKey
  simp [run_underlying hk]
end Go.Proofs.YtjfjanogfakclaaDoor

/- Layer 3: changes, writes. -/
namespace Go.Proofs.YtjfjanogfakclaaDoor
open Go CF

theorem blk_cells {w : World} {b : Nat} {l : List Value} {t : TypeId} (h : Blk w b l.toArray t) : Cells w ⟨b, 0, none⟩ l := fun j v hj => by
  rw [add0, h.cell]; simpa using hj
theorem blk_type {w : World} {b : Nat} {cs cs' : Array Value} {t t' : TypeId} {f : Nat × Nat} (h : Blk w b cs t) (h' : w.heap[b]? = some (.cells cs' t' f)) : t = t' := by
  rw [h] at h'
  injection h' with h'
  injection h'
theorem own_ne {w : World} {base : Nat} {e : TypeId} {z : Nat} {s : Sl} {vs : List Value} (h : Own w base e z s vs) {b : Nat} {cs : Array Value} {t : TypeId} (hb : Blk w b cs t) (hne : t ≠ e) : s.blk ≠ some b := fun q => by
  obtain ⟨cur, hc⟩ := own_heap h q
  exact hne (blk_type hb hc)
section
variable {w w' : World} {pw : Nat} {D : Nat → Prop} {st : Wst} {pl : Pl} {mb md : Nat} {ws : Sl} {cs : List (Cg × Sl)}
theorem nb_set {S : Nat → Prop} (h : NoBytes w D) (hl : ∀ k, D k → k < w.heap.size) (k : Keep S w w') (hs : ∀ g cur, S g → w'.heap[g]? ≠ some (.cells cur t_uint8 (0, 0))) : NoBytes w' D := fun g cur hg q => by
  by_cases e : S g
  · exact hs g cur e hg
  · exact h g cur (by rw [← k.block g (hl g q) e]; exact hg) q
end
theorem cgv_flat (l : List (Cg × Sl)) : (l.flatMap cgv).length = l.length * 5 := flat_length cgv_len l
end Go.Proofs.YtjfjanogfakclaaDoor

/- Layer 3: a world whose rows are old; what reads leave of it. -/
namespace Go.Proofs.YtjfjanogfakclaaDoor
open Go CF

/-- what of these blocks holds bytes is new -/
def NoBytesB (w : World) (S : Nat → Prop) (B : Nat) : Prop := ∀ g cur, w.heap[g]? = some (.cells cur t_uint8 (0, 0)) → S g → B ≤ g
theorem NoBytes.b {w : World} {S : Nat → Prop} (h : NoBytes w S) (B : Nat) : NoBytesB w S B := fun g cur hg q => absurd q (h g cur hg)
def FileAtB (w : World) (B : Nat) (v : Option Value) (l : Option L8) : Prop := FileAt w v l ∧ ∀ s : Sl, v = some (.slice s.A s.n s.c) → ∀ b, s.blk = some b → b < B
theorem FileAtB.keep {S : Nat → Prop} {w w' : World} {B : Nat} {v : Option Value} {l : Option L8} (h : FileAtB w B v l) (k : Keep S w w') (hn : NoBytesB w S B) : FileAtB w' B v l := by
  refine ⟨?_, h.2⟩
  cases l with
  | none => exact h.1
  | some l =>
    obtain ⟨⟨s, h1, h2, h3⟩, hB⟩ := h
    refine ⟨s, h1, h2.keep k fun b hb q => ?_, h3⟩
    obtain ⟨cur, hc⟩ := own_heap h2 hb
    have := hn b cur hc q
    have := hB s h1 b hb
    omega
theorem FileAt.toB {w : World} {v : Option Value} {l : Option L8} (h : FileAt w v l) : FileAtB w w.heap.size v l := by
  refine ⟨h, fun s hs b hb => ?_⟩
  cases l with
  | none => rw [show v = none from h] at hs; cases hs
  | some l =>
    obtain ⟨s', h1, h2, _⟩ := h
    rw [h1] at hs
    injection hs with hs
    injection hs with hA hn hc
    have : s'.blk = some b := by rw [← hb]; simp [Sl.blk, hA]
    obtain ⟨cur, hc⟩ := own_heap h2 this
    exact lt_of_heap hc
def IsFB (w : World) (mb : Nat) (F : Files) (B : Nat) : Prop := ∃ m, SMap w mb m ∧ ∀ s, FileAtB w B (m s) (F s)
theorem IsFB.keep {S : Nat → Prop} {w w' : World} {mb B : Nat} {F : Files} (h : IsFB w mb F B) (k : Keep S w w') (hm : ¬ S mb) (hn : NoBytesB w S B) : IsFB w' mb F B := by
  obtain ⟨m, h1, h2⟩ := h
  exact ⟨m, h1.keep k hm, fun s => (h2 s).keep k hn⟩
theorem IsFB.isF {w : World} {mb B : Nat} {F : Files} (h : IsFB w mb F B) : IsF w mb F := by
  obtain ⟨m, h1, h2⟩ := h
  exact ⟨m, h1, fun s => (h2 s).1⟩
theorem IsF.toB {w : World} {mb : Nat} {F : Files} (h : IsF w mb F) : IsFB w mb F w.heap.size := by
  obtain ⟨m, h1, h2⟩ := h
  exact ⟨m, h1, fun s => (h2 s).toB⟩
section
variable {w u v : World} {pw B : Nat} {D S : Nat → Prop} {st : Wst} {F : Int → Bool} {k : Nat}
end
end Go.Proofs.YtjfjanogfakclaaDoor

/- Layer 3: writes, reads. -/
namespace Go.Proofs.YtjfjanogfakclaaDoor
open Go CF

theorem bv_one' (l : L8) : ∀ u ∈ bv l, u.oneCell' = true := by
  intro u hu
  simp only [bv, List.mem_map] at hu
  obtain ⟨p, _, rfl⟩ := hu; rfl
end Go.Proofs.YtjfjanogfakclaaDoor

/- Layer 4: numbers in bytes, blocks as records. -/
namespace Go.Proofs.YtjfjanogfakclaaDoor
open Go CF

def num (l : L8) : Nat := l.foldl (fun v b => v * 256 + b.toNat) 0
theorem num_snoc (l : L8) (b : UInt8) : num (l ++ [b]) = num l * 256 + b.toNat := by simp [num, List.foldl_append]
theorem num_lt (l : L8) : num l < 256 ^ l.length := by
  have key : ∀ (l : L8) (v : Nat), l.foldl (fun v b => v * 256 + b.toNat) v < (v + 1) * 256 ^ l.length := by
    intro l
    induction l with
    | nil => intro v; simp
    | cons b r ih =>
      intro v
      rw [List.foldl_cons, List.length_cons, Nat.pow_succ]
      have h1 := ih (v * 256 + b.toNat)
      have h2 := b.toNat_lt
      have h3 : (v * 256 + b.toNat + 1) * 256 ^ r.length ≤ (v + 1) * 256 * 256 ^ r.length := Nat.mul_le_mul_right _ (by omega)
      have h4 : (v + 1) * 256 * 256 ^ r.length = (v + 1) * (256 ^ r.length * 256) := by rw [Nat.mul_assoc, Nat.mul_comm 256]
      omega
  have := key l 0
  rw [Nat.zero_add, Nat.one_mul] at this
  exact this
theorem bor_add {a b : Nat} (ha : a < 72057594037927936) (hb : b < 256) : bOr .u64 ((a * 256 : Nat) : Int) (b : Int) = ((a * 256 + b : Nat) : Int) := by
  unfold bOr
  show IntKind.wrap .u64 (((BitVec.ofInt 64 ((a * 256 : Nat) : Int) ||| BitVec.ofInt 64 (b : Int)).toNat : Nat) : Int) = _
  rw [BitVec.ofInt_natCast, BitVec.ofInt_natCast, BitVec.toNat_or, BitVec.toNat_ofNat, BitVec.toNat_ofNat, Nat.mod_eq_of_lt (by omega), Nat.mod_eq_of_lt (by omega)]
  have e : a * 256 ||| b = a * 256 + b := by
    have := Nat.shiftLeft_add_eq_or_of_lt (i := 8) (b := b) (by omega) a
    rw [Nat.shiftLeft_eq] at this
    exact this.symm
  rw [e]
  exact wu64 (by omega) (by omega)
theorem shl8 {a : Nat} (ha : a < 72057594037927936) : bShl .u64 (a : Int) 8 = ((a * 256 : Nat) : Int) := by
  unfold bShl
  have e : (min 8 (IntKind.bits .u64)) = 8 := by decide
  rw [e, wu64 (by omega) (by omega)]
  omega
/-- a block -/
structure Bk where
  d : L8
  g : Nat
  a : Nat
  r : Nat
  hd : d.length = 16
  hg : g < 65536
  ha : a < 65536
  hr : r < 4294967296
def bc (b : Bk) : List Value := bv b.d ++ [.int .u16 (b.g : Int), .int .u16 (b.a : Int), .int .u32 (b.r : Int)]
theorem bc_len (b : Bk) : (bc b).length = 19 := by simp [bc, bv_length, b.hd]
theorem bv_inj {a b : L8} (h : bv a = bv b) : a = b := by
  induction a generalizing b with
  | nil => cases b with
    | nil => rfl
    | cons _ _ => simp [bv] at h
  | cons x r ih =>
    cases b with
    | nil => simp [bv] at h
    | cons y s =>
      simp only [bv, List.map_cons, List.cons.injEq, Value.int.injEq] at h
      have e : x = y := UInt8.toNat_inj.1 (by omega)
      rw [e, ih h.2]
theorem bc_inj {a b : Bk} (h : bc a = bc b) : a = b := by
  unfold bc at h
  obtain ⟨h1, h2⟩ := List.append_inj h (by rw [bv_length, bv_length, a.hd, b.hd])
  simp only [List.cons.injEq, Value.int.injEq, and_true, true_and] at h2
  have e1 := bv_inj h1
  have e2 : a.g = b.g := by omega
  have e3 : a.a = b.a := by omega
  have e4 : a.r = b.r := by omega
  cases a; cases b
  simp only at e1 e2 e3 e4
  subst e1; subst e2; subst e3; subst e4
  rfl
def kBk : List Kd := [.i .u8, .i .u8, .i .u8, .i .u8, .i .u8, .i .u8, .i .u8, .i .u8, .i .u8, .i .u8, .i .u8, .i .u8, .i .u8, .i .u8, .i .u8, .i .u8, .i .u16, .i .u16, .i .u32]
theorem fit_bytes : ∀ (l : L8) (n : Nat), l.length = n → FitL (List.replicate n (.i .u8)) (bv l)
  | [], 0, _ => trivial
  | _ :: l, n + 1, h => ⟨rfl, fit_bytes l n (by simpa using h)⟩
theorem fit_bc (b : Bk) : FitL kBk (bc b) := by
  have := (fit_bytes b.d 16 b.hd).join (ls := [.i .u16, .i .u16, .i .u32]) (b := [.int .u16 (b.g : Int), .int .u16 (b.a : Int), .int .u32 (b.r : Int)]) ⟨rfl, rfl, rfl, trivial⟩
  exact this
def emptyB : Bk := ⟨[0, 0, 0, 0, 0, 0, 0, 0, 0, 0, 0, 0, 0, 0, 0, 0], 65535, 65535, 4294967295, rfl, by decide, by decide, by decide⟩
def be2 (n : Nat) : L8 := [UInt8.ofNat (n / 2 ^ 8), UInt8.ofNat n]
def be4 (n : Nat) : L8 := [UInt8.ofNat (n / 2 ^ 24), UInt8.ofNat (n / 2 ^ 16), UInt8.ofNat (n / 2 ^ 8), UInt8.ofNat n]
def recB (b : Bk) : L8 := [1] ++ b.d ++ (be2 b.g ++ be2 b.a) ++ be4 b.r
theorem recB_len (b : Bk) : (recB b).length = 25 := by simp [recB, be2, be4, b.hd]
theorem wrap_u8 (n : Nat) : IntKind.wrap .u8 (n : Int) = ((UInt8.ofNat n).toNat : Int) := by
  rw [UInt8.toNat_ofNat']
  have e : IntKind.wrap .u8 (n : Int) = (n : Int) % 256 := by simp [IntKind.wrap, IntKind.signed, IntKind.bits]
  rw [e]
  omega
theorem shr (k : IntKind) (n s : Nat) (hs : s ≤ k.bits) : bShr k (n : Int) s = ((n / 2 ^ s : Nat) : Int) := by
  unfold bShr
  rw [Nat.min_eq_left hs, show ((2 : Int) ^ s) = ((2 ^ s : Nat) : Int) by norm_cast]
  exact (Int.ofNat_fdiv n (2 ^ s)).symm
end Go.Proofs.YtjfjanogfakclaaDoor

/- Layer 4: records, blocks. -/
namespace Go.Proofs.YtjfjanogfakclaaDoor
open Go CF

theorem storeAt_rule {P : Program} {w : World} {b o : Nat} {t ty : TypeId} {zv : Option Value} {z bytes : Nat} {old cells : Array Value} (hb : Blk w b old t) (hinfo : (P.info? ty).map (fun i => (i.zero, i.size, i.bytes)) = some (zv, z, bytes)) (hz : z = cells.size) (ho : o + cells.size ≤ old.size)
    (h1 : ∀ v ∈ cells.toList, v.oneCell' = true) {K : World → Prop} (h : ∀ w1, Blk w1 b (old.toList.take o ++ cells.toList ++ old.toList.drop (o + cells.size)).toArray t → Keep (fun k => k = b) w w1 → w1.heap.size = w.heap.size → K w1) : RunU P (storeVar ty ⟨b, o, none⟩ (.agg cells)) w K := by
  obtain ⟨i, hi, hzz⟩ := Option.map_eq_some_iff.1 hinfo
  simp only [Prod.mk.injEq] at hzz
  have hst := run_storeCells_at P b o t cells.toList 0 old w hb (by simpa using ho) h1
  have hs : cells.size = i.size := by omega
  refine ⟨_, ?_, h (w.setRow b (old.toList.take o ++ cells.toList ++ old.toList.drop (o + cells.size)).toArray) (setRow_heap w b old _ t (0, 0) hb) ⟨rfl, rfl, rfl, by simp, fun k _ hn => setRow_other w b k _ hn⟩ (by simp)⟩
  simp only [Nat.add_zero, Array.length_toList] at hst
  simp [storeVar, sizeOf, typeInfo, hi, Value.cells, hs]
  rw [hs, List.append_assoc] at hst
  exact hst
theorem bc_at (b : Bk) : (bc b).toArray[16]? = some (.int .u16 (b.g : Int)) ∧ (bc b).toArray[17]? = some (.int .u16 (b.a : Int)) ∧ (bc b).toArray[18]? = some (.int .u32 (b.r : Int)) := by
  have hl : (bv b.d).length = 16 := by rw [bv_length, b.hd]
  refine ⟨?_, ?_, ?_⟩ <;> · simp only [bc, List.getElem?_toArray]; rw [List.getElem?_append_right (by omega), hl]; rfl
theorem bc_ones (b : Bk) : ∀ v ∈ bc b, v.oneCell' = true := by
  intro v hv
  rcases List.mem_append.1 hv with q | q
  · exact bv_one' _ v q
  · simp only [List.mem_cons, List.not_mem_nil, or_false] at q
    rcases q with rfl | rfl | rfl <;> rfl
theorem bc_all (b : Bk) : ((bc b).toArray.all (·.oneCell')) = true := by
  rw [Array.all_eq_true_iff_forall_mem]; intro v hv; exact bc_ones b v (by simpa using hv)
theorem num2 (l : L8) (h : l.length = 2) : num l < 65536 := by have := num_lt l; rw [h] at this; exact this
theorem num4 (l : L8) (h : l.length = 4) : num l < 4294967296 := by have := num_lt l; rw [h] at this; exact this
def blkOf (l : L8) : Bk :=
  if h : 25 ≤ l.length ∧ l[0]? = some 1 then
    ⟨(l.drop 1).take 16, num ((l.drop 17).take 2), num ((l.drop 19).take 2), num ((l.drop 21).take 4), by simp; omega, num2 _ (by simp; omega), num2 _ (by simp; omega), num4 _ (by simp; omega)⟩
  else emptyB
end Go.Proofs.YtjfjanogfakclaaDoor

/- Layer 4: what a file says of blocks. -/
namespace Go.Proofs.YtjfjanogfakclaaDoor
open Go CF

theorem getD_wr (f : L8) (o : Nat) (p : L8) (k : Nat) : (wr f o p).getD k 0 = if o ≤ k ∧ k < o + p.length then p.getD (k - o) 0 else f.getD k 0 := by
  unfold wr
  simp only [List.getD_eq_getElem?_getD]
  generalize hg : f ++ List.replicate (o + p.length - f.length) 0 = g
  have hgl : g.length = max f.length (o + p.length) := by rw [← hg]; simp; omega
  have hgk : ∀ k : Nat, (g[k]?).getD 0 = (f[k]?).getD 0 := fun k => by
    rw [← hg]
    rcases Nat.lt_or_ge k f.length with q | q
    · rw [List.getElem?_append_left q]
    · rw [List.getElem?_append_right q, List.getElem?_eq_none q, List.getElem?_replicate]
      split <;> rfl
  have htl : (g.take o).length = o := by rw [List.length_take]; omega
  rcases Nat.lt_or_ge k o with q | q
  · rw [if_neg (by omega), List.append_assoc, List.getElem?_append_left (by omega), List.getElem?_take, if_pos q, hgk]
  · rcases Nat.lt_or_ge k (o + p.length) with q2 | q2
    · rw [if_pos ⟨q, q2⟩, List.append_assoc, List.getElem?_append_right (by omega), htl, List.getElem?_append_left (by omega)]
    · rw [if_neg (by omega), List.getElem?_append_right (by rw [List.length_append, htl]; omega), List.length_append, htl, List.getElem?_drop, show o + p.length + (k - (o + p.length)) = k by omega, hgk]
/-- a record is there at whole -/
def Good (f : L8) : Prop := ∀ j : Nat, f.getD (25 * j) 0 = 1 → 25 * j + 25 ≤ f.length
def blkAt (f : L8) (j : Nat) : Bk := blkOf ((f.drop (25 * j)).take 25)
def sl25 (f : L8) (j : Nat) : L8 := (List.range 25).map fun t => f.getD (25 * j + t) 0
theorem blkOf_not {l : L8} (h : ¬ (25 ≤ l.length ∧ l[0]? = some 1)) : blkOf l = emptyB := dif_neg h
theorem blkAt_good {f : L8} (h : Good f) (j : Nat) : blkAt f j = blkOf (sl25 f j) := by
  unfold blkAt
  by_cases h1 : f.getD (25 * j) 0 = 1
  · have hl := h j h1
    have e : (f.drop (25 * j)).take 25 = sl25 f j := by
      unfold sl25
      apply List.ext_getElem?
      intro t
      simp only [List.getElem?_take, List.getElem?_drop, List.getElem?_map, List.getElem?_range]
      by_cases q : t < 25
      · rw [if_pos q, List.getElem?_eq_getElem (show 25 * j + t < f.length by omega)]
        simp [q, List.getD_eq_getElem?_getD, List.getElem?_eq_getElem (show 25 * j + t < f.length by omega)]
      · simp [q]
    rw [e]
  · rw [blkOf_not, blkOf_not]
    · intro q
      have := q.2
      simp [sl25] at this
      exact h1 (by simpa using this)
    · intro q
      have hq := q.2
      have hlen := q.1
      rw [List.length_take, List.length_drop] at hlen
      rw [List.getElem?_take, if_pos (by decide), List.getElem?_drop, Nat.add_zero] at hq
      exact h1 (by rw [List.getD_eq_getElem?_getD, hq]; rfl)
theorem good_nil : Good [] := fun j h => by simp at h
theorem getD_off {f p : L8} {i j t : Nat} (hp : p.length ≤ 25) (hij : j ≠ i) (ht : t < 25) : (wr f (25 * i) p).getD (25 * j + t) 0 = f.getD (25 * j + t) 0 := by
  rw [getD_wr, if_neg (by omega)]
theorem num_be2 {n : Nat} (h : n < 65536) : num (be2 n) = n := by
  simp only [num, be2, List.foldl_cons, List.foldl_nil, UInt8.toNat_ofNat']
  omega
theorem num_be4 {n : Nat} (h : n < 4294967296) : num (be4 n) = n := by
  simp only [num, be4, List.foldl_cons, List.foldl_nil, UInt8.toNat_ofNat']
  omega
theorem bk_ext {a b : Bk} (h1 : a.d = b.d) (h2 : a.g = b.g) (h3 : a.a = b.a) (h4 : a.r = b.r) : a = b := by
  cases a; cases b; simp only at h1 h2 h3 h4; subst h1; subst h2; subst h3; subst h4; rfl
theorem blkOf_rec (b : Bk) : blkOf (recB b) = b := by
  have h : 25 ≤ (recB b).length ∧ (recB b)[0]? = some 1 := ⟨by rw [recB_len]; decide, rfl⟩
  have hd := b.hd
  have e : recB b = 1 :: (b.d ++ (be2 b.g ++ (be2 b.a ++ be4 b.r))) := by simp [recB]
  have d1 : (recB b).drop 1 = b.d ++ (be2 b.g ++ (be2 b.a ++ be4 b.r)) := by rw [e]; rfl
  have d17 : (recB b).drop 17 = be2 b.g ++ (be2 b.a ++ be4 b.r) := by
    rw [e, List.drop_succ_cons, List.drop_append, List.drop_of_length_le (by omega), hd]; rfl
  have d19 : (recB b).drop 19 = be2 b.a ++ be4 b.r := by
    have : (recB b).drop 19 = ((recB b).drop 17).drop 2 := by rw [List.drop_drop]
    rw [this, d17]; rfl
  have d21 : (recB b).drop 21 = be4 b.r := by
    have : (recB b).drop 21 = ((recB b).drop 19).drop 2 := by rw [List.drop_drop]
    rw [this, d19]; rfl
  unfold blkOf
  rw [dif_pos h]
  apply bk_ext
  · show ((recB b).drop 1).take 16 = b.d
    rw [d1, List.take_append_of_le_length (by omega), List.take_of_length_le (by omega)]
  · show num (((recB b).drop 17).take 2) = b.g
    rw [d17]; exact num_be2 b.hg
  · show num (((recB b).drop 19).take 2) = b.a
    rw [d19]; exact num_be2 b.ha
  · show num (((recB b).drop 21).take 4) = b.r
    rw [d21]; exact num_be4 b.hr
theorem good_rec {f : L8} (h : Good f) (i : Nat) (b : Bk) : Good (wr f (25 * i) (recB b)) := by
  intro j hj
  rw [wr_len, recB_len]
  by_cases e : j = i
  · subst e; omega
  · have := getD_off (f := f) (p := recB b) (t := 0) (by rw [recB_len]; decide) e (by decide)
    rw [Nat.add_zero] at this
    rw [this] at hj
    have := h j hj
    omega
theorem good_zero {f : L8} (h : Good f) (i : Nat) : Good (wr f (25 * i) [0]) := by
  intro j hj
  rw [wr_len]
  by_cases e : j = i
  · subst e
    rw [getD_wr, if_pos ⟨Nat.le_refl _, by simp⟩, Nat.sub_self] at hj
    cases hj
  · have := getD_off (f := f) (p := [0]) (t := 0) (by decide) e (by decide)
    rw [Nat.add_zero] at this
    rw [this] at hj
    have := h j hj
    omega
theorem sl25_off {f p : L8} {i j : Nat} (hp : p.length ≤ 25) (hij : j ≠ i) : sl25 (wr f (25 * i) p) j = sl25 f j := by
  unfold sl25
  apply List.map_congr_left
  intro t ht
  exact getD_off hp hij (List.mem_range.1 ht)
theorem blkAt_rec {f : L8} (h : Good f) (i : Nat) (b : Bk) (j : Nat) : blkAt (wr f (25 * i) (recB b)) j = if j = i then b else blkAt f j := by
  rw [blkAt_good (good_rec h i b)]
  by_cases e : j = i
  · subst e
    rw [if_pos rfl]
    have e2 : sl25 (wr f (25 * j) (recB b)) j = recB b := by
      unfold sl25
      apply List.ext_getElem?
      intro t
      rw [List.getElem?_map]
      by_cases q : t < 25
      · rw [List.getElem?_range q, Option.map_some, getD_wr, if_pos ⟨by omega, by rw [recB_len]; omega⟩, show 25 * j + t - 25 * j = t by omega, List.getD_eq_getElem?_getD, List.getElem?_eq_getElem (by rw [recB_len]; exact q)]
        rfl
      · rw [List.getElem?_eq_none (l := List.range 25) (by simp; omega), List.getElem?_eq_none (l := recB b) (by rw [recB_len]; omega)]; rfl
    rw [e2, blkOf_rec]
  · rw [if_neg e, sl25_off (by rw [recB_len]; decide) e, blkAt_good h]
theorem blkAt_zero {f : L8} (h : Good f) (i j : Nat) : blkAt (wr f (25 * i) [0]) j = if j = i then emptyB else blkAt f j := by
  rw [blkAt_good (good_zero h i)]
  by_cases e : j = i
  · subst e
    rw [if_pos rfl, blkOf_not]
    intro q
    have := q.2
    rw [sl25, List.getElem?_map, List.getElem?_range (by decide), Option.map_some, Nat.add_zero, getD_wr, if_pos ⟨Nat.le_refl _, by simp⟩, Nat.sub_self] at this
    cases this
  · rw [if_neg e, sl25_off (by decide) e, blkAt_good h]
end Go.Proofs.YtjfjanogfakclaaDoor

/- Layer 4: the store's calls. -/
namespace Go.Proofs.YtjfjanogfakclaaDoor
open Go CF

def scells (pw : Nat) (file : ByteArray) (blocks : Nat) (cache : Bool) : Array Value := #[.pointer (some ⟨pw, 0, none⟩), .string file, .int .i64 (blocks : Int), .bool cache]
def stepW (st : Wst) (file : ByteArray) (o : Nat) (r : L8) : Wst := ⟨applyWr st.seen file o r, st.dur, st.waits ++ [⟨119, file, ⟨#[]⟩, o, r⟩], st.ops + 1⟩
def layW (st : Wst) (file : ByteArray) (lba : Nat) (rs : Nat → L8) : Nat → Wst
  | 0 => st
  | k + 1 => stepW (layW st file lba rs k) file (25 * (lba + k)) (rs k)
theorem layW_ops (st : Wst) (file : ByteArray) (lba : Nat) (rs : Nat → L8) : ∀ k, (layW st file lba rs k).ops = st.ops + k ∧ (layW st file lba rs k).waits.length = st.waits.length + k
  | 0 => ⟨rfl, rfl⟩
  | k + 1 => by
    obtain ⟨h1, h2⟩ := layW_ops st file lba rs k
    simp only [layW, stepW, List.length_append, List.length_singleton, h1, h2]
    omega
end Go.Proofs.YtjfjanogfakclaaDoor

/- Layer 4: writing and reading blocks. -/
namespace Go.Proofs.YtjfjanogfakclaaDoor
open Go CF

def rsOf (bs : List Bk) (i : Nat) : L8 := match bs[i]? with | some b => recB b | none => []
theorem rsOf_len (bs : List Bk) (i : Nat) : (rsOf bs i).length ≤ 25 := by
  unfold rsOf; split
  · rw [recB_len]; exact Nat.le_refl _
  · decide
theorem rd_bk {w : World} {s : Sl} {bs : List Bk} (h : Rd w 19 s (bs.flatMap bc)) : bs.length = s.n := by
  have := h.len; rw [flat_length bc_len] at this; omega
theorem rd_bk_at {w : World} {s : Sl} {bs : List Bk} (h : Rd w 19 s (bs.flatMap bc)) {i : Nat} (hi : i < bs.length) : ∃ a, s.A = some a ∧ Cells w (a.add (i * 19)) (bc bs[i]) := by
  obtain ⟨a, ha, hc⟩ := h.elem (i := i) (by rw [← rd_bk h]; exact hi) (by decide)
  exact ⟨a, ha, by rw [flat_elem bc_len hi] at hc; exact hc⟩
def rdBl (st : Wst) (file : ByteArray) (lba n : Nat) : List Bk := (List.range n).map fun i => blkAt ((st.seen file).getD []) (lba + i)
theorem bc_flat_one (l : List Bk) : ∀ v ∈ l.flatMap bc, v.oneCell' = true := fun v hv => by
  obtain ⟨b, _, hb⟩ := List.mem_flatMap.1 hv
  exact bc_ones b v hb
end Go.Proofs.YtjfjanogfakclaaDoor

/- Layer 2: the sum of bytes. -/
namespace Go.Proofs.YtjfjanogfakclaaDoor
open Go CF

def poly : Nat := 0x82f63b78
/-- one bit of the sum -/
def crcG (s : Nat) : Nat := if s % 2 = 1 then (s / 2) ^^^ poly else s / 2
def crcGs : Nat → Nat → Nat
  | 0, s => s
  | k + 1, s => crcG (crcGs k s)
def crcB (s : Nat) (b : UInt8) : Nat := crcGs 8 (s ^^^ b.toNat)
def crcS (s : Nat) (l : L8) : Nat := l.foldl crcB s
def c32 (l : L8) : Nat := crcS 0xffffffff l ^^^ 0xffffffff
theorem xor_lt32 {a b : Nat} (ha : a < 4294967296) (hb : b < 4294967296) : a ^^^ b < 4294967296 := Nat.xor_lt_two_pow (n := 32) ha hb
theorem crcG_lt {s : Nat} (h : s < 4294967296) : crcG s < 4294967296 := by
  unfold crcG
  split
  · exact xor_lt32 (by omega) (by decide)
  · omega
theorem crcGs_lt {s : Nat} (h : s < 4294967296) : ∀ k, crcGs k s < 4294967296
  | 0 => h
  | k + 1 => crcG_lt (crcGs_lt h k)
theorem crcB_lt {s : Nat} (h : s < 4294967296) (b : UInt8) : crcB s b < 4294967296 := crcGs_lt (xor_lt32 h (by have := b.toNat_lt; omega)) 8
theorem crcS_lt {l : L8} : ∀ {s : Nat}, s < 4294967296 → crcS s l < 4294967296 := by
  induction l with
  | nil => intro s h; exact h
  | cons b r ih => intro s h; exact ih (crcB_lt h b)
theorem c32_lt (l : L8) : c32 l < 4294967296 := xor_lt32 (crcS_lt (by decide)) (by decide)
theorem crcS_append (s : Nat) (a b : L8) : crcS s (a ++ b) = crcS (crcS s a) b := by simp [crcS, List.foldl_append]
theorem crcS_snoc (s : Nat) (a : L8) (b : UInt8) : crcS s (a ++ [b]) = crcB (crcS s a) b := by rw [crcS_append]; rfl
/-! ### another byte, another sum -/
theorem xor_top {a : Nat} (h : a < 2147483648) : (a ^^^ poly) / 2147483648 = 1 := by
  have : (a ^^^ poly).testBit 31 = true := by
    rw [Nat.testBit_xor, Nat.testBit_lt_two_pow (i := 31) h]; decide
  have h2 : (a ^^^ poly) < 4294967296 := xor_lt32 (by omega) (by decide)
  rw [Nat.testBit_eq_decide_div_mod_eq, decide_eq_true_eq] at this
  omega
theorem crcG_inj {a b : Nat} (ha : a < 4294967296) (hb : b < 4294967296) (h : crcG a = crcG b) : a = b := by
  unfold crcG at h
  split at h <;> split at h
  · have : a / 2 = b / 2 := by
      have := congrArg (· ^^^ poly) h
      simpa [Nat.xor_assoc] using this
    omega
  · have := xor_top (a := a / 2) (by omega)
    rw [h] at this
    omega
  · have := xor_top (a := b / 2) (by omega)
    rw [← h] at this
    omega
  · omega
theorem crcGs_inj {a b : Nat} (ha : a < 4294967296) (hb : b < 4294967296) : ∀ k, crcGs k a = crcGs k b → a = b
  | 0, h => h
  | k + 1, h => crcGs_inj ha hb k (crcG_inj (crcGs_lt ha k) (crcGs_lt hb k) h)
theorem crcB_inj {a b : Nat} {x : UInt8} (ha : a < 4294967296) (hb : b < 4294967296) (h : crcB a x = crcB b x) : a = b := by
  have hx := x.toNat_lt
  have := crcGs_inj (xor_lt32 ha (by omega)) (xor_lt32 hb (by omega)) 8 h
  have := congrArg (· ^^^ x.toNat) this
  simpa [Nat.xor_assoc] using this
theorem crcB_ne {a : Nat} {x y : UInt8} (ha : a < 4294967296) (h : x ≠ y) : crcB a x ≠ crcB a y := by
  intro q
  have hx := x.toNat_lt
  have hy := y.toNat_lt
  have := crcGs_inj (xor_lt32 ha (by omega)) (xor_lt32 ha (by omega)) 8 q
  have := congrArg (a ^^^ ·) this
  simp only [← Nat.xor_assoc, Nat.xor_self, Nat.zero_xor] at this
  exact h (UInt8.toNat_inj.1 this)
theorem crcS_inj {l : L8} : ∀ {a b : Nat}, a < 4294967296 → b < 4294967296 → crcS a l = crcS b l → a = b := by
  induction l with
  | nil => intro a b _ _ h; exact h
  | cons x r ih => intro a b ha hb h; exact crcB_inj ha hb (ih (crcB_lt ha x) (crcB_lt hb x) h)
/-- one byte turned turns the sum -/
theorem c32_turn {p q : L8} {x y : UInt8} (h : x ≠ y) : c32 (p ++ x :: q) ≠ c32 (p ++ y :: q) := by
  intro e
  have e1 := congrArg (· ^^^ 0xffffffff) e
  simp only [c32, Nat.xor_assoc, Nat.xor_self, Nat.xor_zero, crcS_append] at e1
  have hs : crcS 0xffffffff p < 4294967296 := crcS_lt (by decide)
  exact crcB_ne hs h (crcS_inj (crcB_lt hs x) (crcB_lt hs y) e1)
/-! ### the same, a bit at a time -/
def crcR (s : Nat) (b : Nat) : Nat := if (s ^^^ b % 2) % 2 = 1 then (s / 2) ^^^ poly else s / 2
def crcRs (b : Nat) : Nat → Nat → Nat
  | 0, s => s
  | k + 1, s => crcR (crcRs b k s) (b / 2 ^ k)
theorem xor_mod2 (a b : Nat) : (a ^^^ b) % 2 = (a % 2 ^^^ b % 2) := by
  have := Nat.xor_mod_two_pow (a := a) (b := b) (n := 1)
  simpa using this
theorem xor_div2 (a b : Nat) : (a ^^^ b) / 2 = (a / 2 ^^^ b / 2) := by
  have := Nat.xor_div_two_pow (a := a) (b := b) (n := 1)
  simpa using this
theorem crcRs_eq (b : Nat) (s : Nat) : ∀ k, crcGs k (s ^^^ b) = crcRs b k s ^^^ b / 2 ^ k
  | 0 => by simp [crcGs, crcRs]
  | k + 1 => by
    have ih := crcRs_eq b s k
    simp only [crcGs, crcRs, ih]
    generalize crcRs b k s = t
    have e2 : b / 2 ^ (k + 1) = b / 2 ^ k / 2 := by rw [Nat.pow_succ, Nat.div_div_eq_div_mul]
    rw [e2]
    generalize b / 2 ^ k = c
    unfold crcG crcR
    have h1 : (t ^^^ c % 2) % 2 = (t ^^^ c) % 2 := by rw [xor_mod2, xor_mod2 t c, Nat.mod_mod]
    rw [h1, xor_div2]
    split
    · rw [Nat.xor_assoc, Nat.xor_comm (c / 2), ← Nat.xor_assoc]
    · rfl
theorem crcB_eq (s : Nat) (b : UInt8) : crcB s b = crcRs b.toNat 8 s := by
  unfold crcB
  rw [crcRs_eq]
  have : b.toNat / 2 ^ 8 = 0 := Nat.div_eq_of_lt b.toNat_lt
  rw [this, Nat.xor_zero]
/-! ### the same in the model's words -/
theorem xor32 {a b : Nat} (ha : a < 4294967296) (hb : b < 4294967296) : bXor .u32 (a : Int) (b : Int) = ((a ^^^ b : Nat) : Int) := by
  unfold bXor
  show IntKind.wrap .u32 (((BitVec.ofInt 32 (a : Int) ^^^ BitVec.ofInt 32 (b : Int)).toNat : Nat) : Int) = _
  rw [BitVec.ofInt_natCast, BitVec.ofInt_natCast, BitVec.toNat_xor, BitVec.toNat_ofNat, BitVec.toNat_ofNat, Nat.mod_eq_of_lt (by omega), Nat.mod_eq_of_lt (by omega)]
  have := xor_lt32 ha hb
  exact wu32 (by omega) (by omega)
theorem and32_1 {a : Nat} (ha : a < 4294967296) : bAnd .u32 (a : Int) 1 = ((a % 2 : Nat) : Int) := by
  unfold bAnd
  show IntKind.wrap .u32 (((BitVec.ofInt 32 (a : Int) &&& BitVec.ofInt 32 ((1 : Nat) : Int)).toNat : Nat) : Int) = _
  rw [BitVec.ofInt_natCast, BitVec.ofInt_natCast, BitVec.toNat_and, BitVec.toNat_ofNat, BitVec.toNat_ofNat, Nat.mod_eq_of_lt (by omega), Nat.mod_eq_of_lt (by omega)]
  rw [Nat.and_one_is_mod]
  exact wu32 (by omega) (by omega)
theorem not32 {a : Nat} (ha : a < 4294967296) : bNot .u32 (a : Int) = ((a ^^^ 4294967295 : Nat) : Int) := by
  unfold bNot
  have e : (if IntKind.signed .u32 = true then (-1 : Int) else IntKind.max .u32) = ((4294967295 : Nat) : Int) := by decide
  rw [e, xor32 (by decide) ha, Nat.xor_comm]
end Go.Proofs.YtjfjanogfakclaaDoor

/- Layer 2: the program's sum and the reference's. -/
namespace Go.Proofs.YtjfjanogfakclaaDoor
open Go CF

theorem crc_br {s : Nat} (hs : s < 4294967296) {X Y : Prop} (h1 : s % 2 = 1 → X) (h0 : s % 2 = 0 → Y) : Br ((bAnd .u32 (s : Int) 1) == 1) X Y := by
  rw [and32_1 hs]
  exact br_eq (fun q => h1 (by omega)) (fun q => h0 (by omega))
theorem crc_v1 {s : Nat} (hs : s < 4294967296) (h : s % 2 = 1) : bXor .u32 (bShr .u32 (s : Int) 1) 2197175160 = ((crcG s : Nat) : Int) := by
  rw [shr .u32 s 1 (by decide)]
  have := xor32 (a := s / 2) (b := poly) (by omega) (by decide)
  unfold crcG
  rw [if_pos h]
  exact this
theorem crc_v0 {s : Nat} (h : s % 2 = 0) : bShr .u32 (s : Int) 1 = ((crcG s : Nat) : Int) := by
  rw [shr .u32 s 1 (by decide)]
  unfold crcG
  rw [if_neg (by omega)]
theorem crcRs_lt {b s : Nat} (h : s < 4294967296) : ∀ k, crcRs b k s < 4294967296
  | 0 => h
  | k + 1 => by
    have ih := crcRs_lt (b := b) h k
    simp only [crcRs]
    unfold crcR
    split
    · exact xor_lt32 (by omega) (by decide)
    · omega
theorem crc_br_r {s b : Nat} {k : Nat} (hs : s < 4294967296) (hb : b < 256) (hk : k < 8) {X Y : Prop} (h1 : (s ^^^ b / 2 ^ k % 2) % 2 = 1 → X) (h0 : (s ^^^ b / 2 ^ k % 2) % 2 = 0 → Y) :
    Br ((bAnd .u32 (bXor .u32 (s : Int) (bAnd .u32 (IntKind.wrap .u32 (bShr .u8 (b : Int) ((k : Nat) : Int).toNat)) 1)) 1) == 1) X Y := by
  rw [Int.toNat_natCast, shr .u8 b k (by show k ≤ 8; omega)]
  have hq : b / 2 ^ k < 256 := Nat.lt_of_le_of_lt (Nat.div_le_self _ _) hb
  generalize b / 2 ^ k = c at *
  rw [wu32 (by omega) (by omega), and32_1 (by omega), xor32 hs (by omega), and32_1 (xor_lt32 hs (by omega))]
  exact br_eq (fun q => h1 (by omega)) (fun q => h0 (by omega))
theorem crc_r1 {s c : Nat} (hs : s < 4294967296) (h : (s ^^^ c % 2) % 2 = 1) : bXor .u32 (bShr .u32 (s : Int) 1) 2197175160 = ((crcR s c : Nat) : Int) := by
  rw [shr .u32 s 1 (by decide)]
  have := xor32 (a := s / 2) (b := poly) (by omega) (by decide)
  unfold crcR
  rw [if_pos h]
  exact this
theorem crc_r0 {s c : Nat} (h : (s ^^^ c % 2) % 2 = 0) : bShr .u32 (s : Int) 1 = ((crcR s c : Nat) : Int) := by
  rw [shr .u32 s 1 (by decide)]
  unfold crcR
  rw [if_neg (by omega)]
end Go.Proofs.YtjfjanogfakclaaDoor

/- Rules: a byte put into a row of one's own, rows that are made, noughts behind a row. -/
namespace Go.Proofs.YtjfjanogfakclaaDoor.CF
open Go Go.RowKit

theorem own_put {w : World} {base : Nat} {e : TypeId} {s : Sl} {vs : List Value} (hs : Own w base e 1 s vs) {i : Nat} (hi : i < s.n) {v : Value} (hv : v.oneCell' = true)
    {K : World → Prop} (h : ∀ w1, Own w1 base e 1 s (vs.set i v) → Keep (fun k => some k = s.blk) w w1 → w1.heap.size = w.heap.size → K w1) : Put ((gA s.A).add (i * 1)) v w K := by
  obtain ⟨hlen, hown⟩ := hs
  rcases hown with ⟨_, hn0⟩ | ⟨g, cap, cur, hv', hbg, hg, hnc, hcm, hcs, htake⟩
  · omega
  · injection hv' with hA hN hC
    have hcs' : cur.size = cap := by simpa using hcs
    rw [Nat.mul_one, hA, gA, add0, Nat.zero_add]
    refine put_rule hg (by omega) hv fun w1 hb1 hk1 hsz1 => ?_
    refine h w1 ⟨by rw [List.length_set]; exact hlen, .inr ⟨g, cap, _, by rw [hA, hC], hbg, hb1, hnc, hcm, by simpa using hcs, ?_⟩⟩ (hk1.mono fun k _ q => by simp [Sl.blk, hA, q]) hsz1
    have hF : cur.toList.take (s.n * 1) = vs := htake
    rw [← hF, Array.toList_setIfInBounds, List.take_set]
theorem make_rule {P : Program} {w : World} {t e : TypeId} {zv : Value} {bytes n base : Nat} (ht : P.underlying t = some (.slice e)) (hinfo : (P.info? e).map (fun i => (i.zero, i.size, i.bytes)) = some (some zv, 1, bytes)) (hzc : zv.cells = #[zv])
    (hb : bytes * n ≤ 281474976710656) (hn : n ≤ 140737488355328) (hbase : base ≤ w.heap.size)
    {K : Sl → World → Prop} (h : ∀ w1, Own w1 base e 1 ⟨some ⟨w.heap.size, 0, none⟩, n, n⟩ (List.replicate n zv) → Grow w w1 → w1.heap.size = w.heap.size + 1 → K ⟨some ⟨w.heap.size, 0, none⟩, n, n⟩ w1) :
    RunK P .sl (Instr.makeSlice t (.int .i64 (n : Int)) (.int .i64 (n : Int))) w K := by
  obtain ⟨i, hi, hzz⟩ := Option.map_eq_some_iff.1 hinfo
  simp only [Prod.mk.injEq] at hzz
  obtain ⟨hz, hsz, hby⟩ := hzz
  have hb' : (i.bytes : Int) * (n : Int) ≤ 281474976710656 := by
    rw [hby, ← Int.natCast_mul]; omega
  have hr := run_make (P := P) w t e i zv ht hi hz .i64 .i64 (n : Int) (n : Int) (by omega) (Int.le_refl _) hb' (by omega)
  simp only [Int.toNat_natCast] at hr
  refine ⟨⟨some ⟨w.heap.size, 0, none⟩, n, n⟩, _, hr, h _ ?_ (keep_alloc w _) (by simp)⟩
  have hm : madeCells zv.cells (n * i.size) = (List.replicate n zv).toArray := by
    rw [hzc, hsz, Nat.mul_one]
    apply Array.ext
    · simp [madeCells]
    · intro k h1 h2
      simp [madeCells, Nat.mod_one]
  rw [hm]
  have := World.ownsRow_lit (e := e) (size := 1) (base := base) w (List.replicate n zv).toArray n hbase (by unfold maxLen; omega) (by simp)
  exact this
theorem append_zeros_rule {P : Program} {w : World} {t tn ty e : TypeId} {zv : Value} {base k : Nat} (ht : P.underlying t = some (.slice e)) (htn : P.underlying tn = some (.int .i64)) (hinfo : (P.info? e).map (fun i => (i.zero, i.size, i.bytes)) = some (some zv, 1, 1)) (hzc : zv.cells = #[zv])
    {s : Sl} {vs : List Value} (hs : Rd w 1 s vs) (hc : s.c < s.n + k) (hk : 0 < k) (hbd : s.n + k ≤ 1000000000) (hbase : base ≤ w.heap.size)
    {K : Sl → World → Prop} (h : ∀ s' w', s'.n = s.n + k → Own w' base e 1 s' (vs ++ List.replicate k zv) → Grow w w' → s'.blk = some w.heap.size → K s' w') :
    RunK P .sl (Builtin.append_ #[t, tn] ty #[.slice s.A s.n s.c, .int .i64 (k : Int)]) w K := by
  obtain ⟨i, hi, hzz⟩ := Option.map_eq_some_iff.1 hinfo
  simp only [Prod.mk.injEq] at hzz
  obtain ⟨hz, hsz, hby⟩ := hzz
  have hvl : vs.length = s.n := by have := hs.len; omega
  have hold : (Builtin.firstCells i.size s.n (.slice s.A s.n s.c)).run P w.drew = .ok vs.toArray w.drew := by
    rw [hsz]
    by_cases hne : vs = []
    · subst hne
      simp only [List.length_nil] at hvl
      rw [← hvl]
      cases hA : s.A with
      | none => exact run_firstCells_none (P := P) (w := w.drew) 1 0 0 _
      | some a => exact run_firstCells_some (P := P) (w := w.drew) 1 0 a 0 s.c [] rfl (fun j v hj => by simp at hj)
    · obtain ⟨a, ha, hc⟩ := (hs.grow (keep_drew w)).at_ hne
      rw [ha]
      exact run_firstCells_some (P := P) (w := w.drew) 1 s.n a s.n s.c vs (by omega) hc
  have hr := Go.Lib.run_append_grow_zeros (P := P) w t tn ty e i zv .i64 .i64 ht htn hi hz s.A s.n s.c vs hold k hk (by omega) hc (by omega) (by rw [hby]; omega) (by rw [hby]; exact growslice_fits (by omega) (by omega))
  refine ⟨⟨some ⟨w.heap.size, 0, none⟩, s.n + k, grownCap w (s.n + k) s.c e⟩, _, hr, h _ _ rfl ?_ ⟨rfl, rfl, rfl, by simp, fun k hk _ => heap_alloc_lt w.drew _ k hk⟩ rfl⟩
  have hge := grownCap_ge w (s.n + k) s.c e
  have hcm : grownCap w (s.n + k) s.c e ≤ maxLen := grownCap_le_maxLen w (s.n + k) s.c e (by unfold maxLen; omega)
  have hzk : ∀ m, (Builtin.zeroCells zv.cells m).size = m := fun m => by rw [size_zeroCells, hzc]; simp
  have hzr : (Builtin.zeroCells zv.cells k).toList = List.replicate k zv := by
    rw [hzc]
    apply List.ext_getElem
    · rw [Array.length_toList, ← hzc, hzk]; simp
    · intro j h1 h2
      simp [Builtin.zeroCells, Nat.mod_one]
  refine ⟨by simp; omega, .inr ⟨w.heap.size, grownCap w (s.n + k) s.c e, _, rfl, hbase, heap_alloc_new w.drew _, hge, hcm, ?_, ?_⟩⟩
  · simp only [Array.size_append, List.size_toArray, hzk, hvl]
    omega
  · simp only [Array.toList_append, hzr]
    have : (vs ++ List.replicate k zv).length = (s.n + k) * 1 := by simp; omega
    rw [← this]
    exact List.take_left
/-- append(s, x...) where both together are greater than half of what a row may be -/
theorem append_wide_rule {P : Program} {w : World} {base : Nat} {t ty e : TypeId} {zv : Value} {z bytes : Nat} (ht : P.underlying t = some (.slice e)) (hinfo : (P.info? e).map (fun i => (i.zero, i.size, i.bytes)) = some (some zv, z, bytes))
    (hzc : zv.cells.size = z) (hz0 : 0 < z) (hb0 : 0 < bytes) {s x : Sl} {vs xs : List Value} (hs : Own w base e z s vs) (hx : Rd w z x xs) (h1 : ∀ u ∈ xs, u.oneCell' = true)
    (hm : s.n + x.n ≤ 140737489403904) (hbd : ((s.n + x.n) + (s.n + x.n) / 4 + 192) * bytes ≤ 281474976710656) (hbase : base ≤ w.heap.size) {K : Sl → World → Prop}
    (h : ∀ s' w', s'.n = s.n + x.n → Own w' base e z s' (vs ++ xs) → Keep (fun k => some k = s.blk) w w' → K s' w') :
    RunK P .sl (Builtin.append_ #[t, t] ty #[.slice s.A s.n s.c, .slice x.A x.n x.c]) w K := by
  obtain ⟨i, hi, hzz⟩ := Option.map_eq_some_iff.1 hinfo
  simp only [Prod.mk.injEq] at hzz
  obtain ⟨hz, hsz, hby⟩ := hzz
  have blk : (Value.slice s.A s.n s.c).ownBlock = s.blk := by unfold Sl.blk; cases s.A <;> rfl
  have hxl : xs.length = x.n * z := hx.len
  by_cases hne : xs = []
  · have hn0 : x.n = 0 := by
      rw [hne, List.length_nil] at hxl
      rcases Nat.mul_eq_zero.1 hxl.symm with q | q <;> omega
    have hsl := hs.len
    have hc : s.n + x.n ≤ s.c := by
      rcases hs.2 with ⟨h2, q⟩ | ⟨g, cap, cur, hv, _, _, h4, _⟩
      · injection h2 with _ e1 e2; omega
      · injection hv with _ _ e2; omega
    have hfc : (Builtin.firstCells i.size x.n (.slice x.A x.n x.c)).run P w = .ok #[] w := by
      rw [hn0]
      cases hA : x.A with
      | none => exact run_firstCells_none (P := P) (w := w) i.size 0 0 _
      | some a => exact run_firstCells_some (P := P) (w := w) i.size 0 a 0 x.c [] (by simp) (fun j v hj => by simp at hj)
    refine ⟨s, w, ?_, h s w (by omega) (by rw [hne, List.append_nil]; exact hs) (Keep.refl _ _)⟩
    show _ = Result.ok (Value.slice s.A s.n s.c) w
    rw [hn0] at hc hfc ⊢
    obtain ⟨A, n, c⟩ := s
    simp only [Nat.add_zero] at hc ⊢
    cases A <;> simp [Builtin.append_, run_underlying ht, sizeOf, typeInfo, hi, Builtin.lenOf, hfc, hc, storeCells]
  · obtain ⟨a, ha, hcells⟩ := hx.at_ hne
    obtain ⟨v', w', hr, hown, hg, _⟩ := run_append_own_wide (P := P) w base t ty e i zv z bytes ht hi hz hsz hby hzc hz0 _ s.n vs hs a x.n x.c xs hx.len hcells h1 (by unfold maxLen; omega) hbd hbase
    have hv' : ∃ s' : Sl, v' = .slice s'.A s'.n s'.c ∧ s'.n = s.n + x.n := by
      rcases hown.2 with ⟨rfl, hn⟩ | ⟨g, cap, cur, rfl, _⟩
      · exact ⟨⟨none, 0, 0⟩, rfl, hn.symm⟩
      · exact ⟨⟨some ⟨g, 0, none⟩, _, cap⟩, rfl, rfl⟩
    obtain ⟨s', rfl, hn'⟩ := hv'
    rw [ha]
    exact ⟨s', w', hr, h s' w' hn' (by have q := hown; rw [← hn'] at q; exact q) (blk ▸ keep_grownBy hg)⟩
/-! ### where ways meet: what holds there, told once -/
theorem letX0 {j : World → Prop} {body : (World → Prop) → Prop} (I : World → Prop) (h1 : ∀ u, I u → j u) (h2 : (∀ u, I u → j u) → body j) : letX j body := h2 h1
theorem letX1 {α : Type} {j : α → World → Prop} {body : (α → World → Prop) → Prop} (I : α → World → Prop) (h1 : ∀ x u, I x u → j x u) (h2 : (∀ x u, I x u → j x u) → body j) : letX j body := h2 h1
theorem letX2 {α β : Type} {j : α → β → World → Prop} {body : (α → β → World → Prop) → Prop} (I : α → β → World → Prop) (h1 : ∀ x y u, I x y u → j x y u) (h2 : (∀ x y u, I x y u → j x y u) → body j) : letX j body := h2 h1
theorem letX3 {α β γ : Type} {j : α → β → γ → World → Prop} {body : (α → β → γ → World → Prop) → Prop} (I : α → β → γ → World → Prop) (h1 : ∀ x y z u, I x y z u → j x y z u) (h2 : (∀ x y z u, I x y z u → j x y z u) → body j) : letX j body := h2 h1
theorem letJ1 {α : Type} {j : α → World → Prop} {body : (α → World → Prop) → Prop} (I : α → World → Prop) (h1 : ∀ x u, I x u → j x u) (h2 : (∀ x u, I x u → j x u) → body j) : letJ j body := h2 h1
/-- the bytes of a constant, and where they lie -/
theorem bytes_at_rule {P : Program} {w : World} {t e : TypeId} {n : Nat} {parts : Array (Nat × Value)} {l : L8}
    (hr : (Instr.buildSlice t n parts).run P w = .ok (.slice (some ⟨w.heap.size, 0, none⟩) n n) (w.alloc (.cells (bv l).toArray e))) (hn : n = l.length) (hb : n ≤ 140737488355328)
    (ht : P.underlying t = some (.slice e)) (he : P.underlying e = some (.int .u8))
    {K : Sl → World → Prop} (h : ∀ w', Grow w w' → w'.heap.size = w.heap.size + 1 → Rd w' 1 ⟨some ⟨w.heap.size, 0, none⟩, n, n⟩ (bv l) → K ⟨some ⟨w.heap.size, 0, none⟩, n, n⟩ w') :
    RunK P .sl (Instr.buildSlice t n parts) w fun xs w0 => RunK P .sl (convert t t (.slice xs.A xs.n xs.c)) w0 K := by
  refine ⟨⟨some ⟨w.heap.size, 0, none⟩, n, n⟩, _, hr, ⟨some ⟨w.heap.size, 0, none⟩, n, n⟩, _, Go.Lib.run_convert_bytes_const w t e _ n n ht he, ?_⟩
  refine h _ (keep_alloc w _) (by simp) ⟨by rw [bv_length, hn, Nat.mul_one], Nat.le_refl _, by show n ≤ _; omega, fun _ => ⟨_, rfl, fun j v hj => ?_⟩⟩
  rw [add0, Nat.zero_add]
  unfold World.cell?
  simp only [World.alloc, Array.getElem?_push, if_true]
  simpa using hj
end Go.Proofs.YtjfjanogfakclaaDoor.CF

/- Layer 1: numbers laid in bytes. -/
namespace Go.Proofs.YtjfjanogfakclaaDoor
open Go CF

def beN : Nat → Nat → L8
  | 0, _ => []
  | j + 1, v => UInt8.ofNat (v / 256 ^ j) :: beN j v
theorem beN_len : ∀ (n v : Nat), (beN n v).length = n
  | 0, _ => rfl
  | n + 1, v => by simp [beN, beN_len n v]
theorem num_foldl (l : L8) : ∀ v : Nat, l.foldl (fun v b => v * 256 + b.toNat) v = v * 256 ^ l.length + num l := by
  induction l with
  | nil => intro v; simp [num]
  | cons b r ih =>
    intro v
    unfold num
    simp only [List.foldl_cons, List.length_cons]
    rw [ih, ih (0 * 256 + b.toNat), Nat.pow_succ]
    simp only [Nat.zero_mul, Nat.zero_add]
    rw [Nat.add_mul, Nat.mul_assoc, Nat.mul_comm (256 ^ r.length) 256]
    omega
theorem num_cons (b : UInt8) (l : L8) : num (b :: l) = b.toNat * 256 ^ l.length + num l := by
  show List.foldl _ (0 * 256 + b.toNat) l = _
  rw [num_foldl]; simp
theorem num_append (a b : L8) : num (a ++ b) = num a * 256 ^ b.length + num b := by
  show List.foldl _ 0 (a ++ b) = _
  rw [List.foldl_append, num_foldl]; rfl
theorem num_beN : ∀ (n v : Nat), num (beN n v) = v % 256 ^ n
  | 0, v => by simp [beN, num, Nat.mod_one]
  | n + 1, v => by
    simp only [beN]
    have e : (256 : Nat) ^ (n + 1) = 256 ^ n * 256 := Nat.pow_succ ..
    rw [num_cons, beN_len, num_beN n v, UInt8.toNat_ofNat', e, Nat.mod_mul, Nat.mul_comm, Nat.add_comm]
theorem num_beN_lt {n v : Nat} (h : v < 256 ^ n) : num (beN n v) = v := by rw [num_beN, Nat.mod_eq_of_lt h]
theorem bv_set (l : L8) (i : Nat) (b : UInt8) : (bv l).set i (.int .u8 (b.toNat : Int)) = bv (l.set i b) := by
  simp [bv, List.map_set]
/-- l with a number laid in, as it is while j bytes of n are laid -/
def layN (l : L8) (at_ n j v : Nat) : L8 := l.take (at_ + (n - j)) ++ beN j v ++ l.drop (at_ + n)
theorem layN_zero (l : L8) (at_ n v : Nat) : layN l at_ n 0 v = l := by simp [layN, beN]
theorem layN_len {l : L8} {at_ n j : Nat} (v : Nat) (h : at_ + n ≤ l.length) (hj : j ≤ n) : (layN l at_ n j v).length = l.length := by
  simp [layN, beN_len]; omega
theorem layN_step {l : L8} {at_ n j : Nat} (v : Nat) (h : at_ + n ≤ l.length) (hj : j < n) :
    (layN l at_ n j v).set (at_ + (n - 1 - j)) (UInt8.ofNat (v / 256 ^ j)) = layN l at_ n (j + 1) v := by
  unfold layN
  have e1 : at_ + (n - j) = at_ + (n - (j + 1)) + 1 := by omega
  have e2 : at_ + (n - 1 - j) = at_ + (n - (j + 1)) := by omega
  have hl : at_ + (n - (j + 1)) < l.length := by omega
  rw [e1, e2, List.take_succ_eq_append_getElem hl]
  generalize hm : at_ + (n - (j + 1)) = m at *
  have ht : (l.take m).length = m := by rw [List.length_take]; omega
  simp only [List.append_assoc]
  rw [List.set_append_right _ _ (by omega), ht, Nat.sub_self]
  rfl
def lay (l : L8) (at_ n v : Nat) : L8 := l.take at_ ++ beN n v ++ l.drop (at_ + n)
theorem layN_all (l : L8) (at_ n v : Nat) : layN l at_ n n v = lay l at_ n v := by simp [layN, lay]
theorem div_step (v j : Nat) : v / 256 ^ j / 256 = v / 256 ^ (j + 1) := by rw [Nat.pow_succ, Nat.div_div_eq_div_mul]
theorem num_small {l : L8} {j : Nat} (h : l.length = j) (hj : j ≤ 7) : num l < 72057594037927936 := by
  refine Nat.lt_of_lt_of_le (num_lt l) ?_
  rw [h]
  calc 256 ^ j ≤ 256 ^ 7 := Nat.pow_le_pow_right (by decide) hj
    _ = 72057594037927936 := by decide
end Go.Proofs.YtjfjanogfakclaaDoor
