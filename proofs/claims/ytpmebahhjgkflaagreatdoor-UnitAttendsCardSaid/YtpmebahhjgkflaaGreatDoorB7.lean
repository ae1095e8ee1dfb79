import Derived.MapKept
import Derived.WalkKit
import Derived.ProofKit
import Derived.OpenShut
import Derived.ShutString
import Derived.ChangeOld
import Derived.Below
import Derived.SizedLaws
import Derived.Test.YtpmebahhjgkflaaGreatDoorB6
-- printed by wip/cf/cfprint.py
namespace Go.Proofs.YtpmebahhjgkflaaGreatDoor
open Go CF
set_option linter.unusedVariables false
set_option maxRecDepth 100000
/-- pallet/world.name -/
def Fworld_name (s : ByteArray) (w : World) (R : Bool → World → Prop) : Prop :=
  R ((decide ((s.size : Int) ≥ 1)) && (decide ((s.size : Int) ≤ 32))) w
theorem Fworld_name.calls (s : ByteArray) (w : World) (R : Bool → World → Prop) (h : Fworld_name s w R) : Cworld_name s w R :=
  calls_of_vc (anOp_ok callable) wide Tryz.func262 [] [.b] [.string s] w R (Eq.mp (show Fworld_name s w R = vcF Tryz.prog G Tryz.f262 [] [.b] [.string s] w R by kernel_rfl) h)
/-- (*pallet/world.World).call -/
def Fworld_World_call (w_ : Option Addr) (w : World) (R : Int → World → Prop) : Prop :=
  w_.isSome = true ∧ ∃ b : Bool, w.cell? ((gA w_).add 6) = some (.bool b) ∧ Br b (R 7 w) (w_.isSome = true ∧ ∃ n : Int, w.cell? ((gA w_).add 3) = some (.int .i64 n) ∧ w_.isSome = true ∧ ∃ n1 : Int, w.cell? ((gA w_).add 3) = some (.int .i64 n1) ∧ w_.isSome = true ∧ Put ((gA w_).add 3) (.int .i64 (IntKind.wrap .i64 (n1 + 1))) w fun w0 => w_.isSome = true ∧ ∃ n2 : Int, w0.cell? ((gA w_).add 5) = some (.int .i64 n2) ∧ Br (n == n2) (w_.isSome = true ∧ Put ((gA w_).add 6) (.bool true) w0 fun w01 => R 7 w01) (w_.isSome = true ∧ ∃ m : Option Nat, w0.cell? ((gA w_).add 4) = some (.map m) ∧ ∃ b1 : Bool, (Instr.lookup 108 (.map m) (.int .i64 n) false).run Tryz.prog w0 = .ok (.bool b1) w0 ∧ Br b1 (R 6 w0) (R 0 w0)))
theorem Fworld_World_call.calls (w_ : Option Addr) (w : World) (R : Int → World → Prop) (h : Fworld_World_call w_ w R) : Cworld_World_call w_ w R :=
  calls_of_vc (anOp_ok callable) wide Tryz.func263 [] [.i .i64] [.pointer w_] w R (Eq.mp (show Fworld_World_call w_ w R = vcF Tryz.prog G Tryz.f263 [] [.i .i64] [.pointer w_] w R by kernel_rfl) h)
/-- pallet/crc.C32 -/
def Fcrc_C32 (p : Sl) (w : World) (R : Int → World → Prop) : Prop :=
  Ccrc_Add32 0 p w fun n w0 => R n w0
theorem Fcrc_C32.calls (p : Sl) (w : World) (R : Int → World → Prop) (h : Fcrc_C32 p w R) : Ccrc_C32 p w R :=
  calls_of_vc (anOp_ok callable) wide Tryz.func264 [] [.i .u32] [.slice p.A p.n p.c] w R (Eq.mp (show Fcrc_C32 p w R = vcF Tryz.prog G Tryz.f264 [] [.i .u32] [.slice p.A p.n p.c] w R by kernel_rfl) h)
/-- pallet/slots.Record -/
def Fslots_Record (gen : Int) (payload : Sl) (w : World) (R : Sl → Int → World → Prop) : Prop :=
  Br (decide ((payload.n : Int) > 4096)) (R (⟨none, 0, 0⟩ : Sl) 2 w) (RunK Tryz.prog .sl (Instr.buildSlice 33 4 #[(0, .int .u8 83), (1, .int .u8 76), (2, .int .u8 79), (3, .int .u8 84)]) w fun xs w0 => RunK Tryz.prog .sl (convert 33 33 (.slice xs.A xs.n xs.c)) w0 fun xs1 w01 => RunK Tryz.prog .sl (Builtin.append_ #[33, 3] 33 #[.slice xs1.A xs1.n xs1.c, .int .i64 12]) w01 fun xs2 w02 => Cbe_Put xs2 4 8 gen w02 fun xs3 n w03 => Cbe_Put xs3 12 4 (IntKind.wrap .u64 (payload.n : Int)) w03 fun xs4 n1 w04 => RunK Tryz.prog .sl (Builtin.append_ #[33, 33] 33 #[.slice xs4.A xs4.n xs4.c, .slice payload.A payload.n payload.c]) w04 fun xs5 w05 => Ccrc_C32 xs5 w05 fun n2 w06 => RunK Tryz.prog .sl (Instr.buildSlice 33 4 #[(0, .int .u8 (IntKind.wrap .u8 (bShr .u32 n2 24))), (1, .int .u8 (IntKind.wrap .u8 (bShr .u32 n2 16))), (2, .int .u8 (IntKind.wrap .u8 (bShr .u32 n2 8))), (3, .int .u8 (IntKind.wrap .u8 n2))]) w06 fun xs6 w07 => RunK Tryz.prog .sl (Builtin.append_ #[33, 33] 33 #[.slice xs5.A xs5.n xs5.c, .slice xs6.A xs6.n xs6.c]) w07 fun xs7 w08 => R xs7 0 w08)
theorem Fslots_Record.calls (gen : Int) (payload : Sl) (w : World) (R : Sl → Int → World → Prop) (h : Fslots_Record gen payload w R) : Cslots_Record gen payload w R :=
  calls_of_vc (anOp_ok callable) wide Tryz.func265 [] [.sl, .i .i64] [.int .u64 gen, .slice payload.A payload.n payload.c] w R (Eq.mp (show Fslots_Record gen payload w R = vcF Tryz.prog G Tryz.f265 [] [.sl, .i .i64] [.int .u64 gen, .slice payload.A payload.n payload.c] w R by kernel_rfl) h)
/-- (*pallet/world.World).Write -/
def Fworld_World_Write (w_ : Option Addr) (file : ByteArray) (off : Int) (p : Sl) (w : World) (R : Int → World → Prop) : Prop :=
  Cworld_name file w fun b w0 => Br ((!b) || (decide (off < 0))) (R 1 w0) (Br ((decide (off > 1048576)) || (decide ((p.n : Int) > (IntKind.wrap .i64 (1048576 - off))))) (R 2 w0) (Br ((w_).isNone) (R 8 w0) (RunK Tryz.prog .sl (Builtin.append_ #[33, 33] 33 #[.slice none 0 0, .slice p.A p.n p.c]) w0 fun xs w01 => Cworld_World_do w_ #[.int .u8 119, .string file, .string ⟨#[]⟩, .int .i64 off, .slice xs.A xs.n xs.c] w01 fun n w02 => R n w02)))
theorem Fworld_World_Write.calls (w_ : Option Addr) (file : ByteArray) (off : Int) (p : Sl) (w : World) (R : Int → World → Prop) (h : Fworld_World_Write w_ file off p w R) : Cworld_World_Write w_ file off p w R :=
  calls_of_vc (anOp_ok callable) wide Tryz.func266 [] [.i .i64] [.pointer w_, .string file, .int .i64 off, .slice p.A p.n p.c] w R (Eq.mp (show Fworld_World_Write w_ file off p w R = vcF Tryz.prog G Tryz.f266 [] [.i .i64] [.pointer w_, .string file, .int .i64 off, .slice p.A p.n p.c] w R by kernel_rfl) h)
/-- (*pallet/pr.Table).free -/
def Fpr_Table_free (t : Option Addr) (but : Int) (w : World) (R : Sl → World → Prop) : Prop :=
  t.isSome = true ∧ ∃ n : Int, w.cell? ((gA t).add 2) = some (.int .u8 n) ∧ letX (fun (out : Sl) (w0 : World) => t.isSome = true ∧ Put ((gA t).add 2) (.int .u8 0) w0 fun w01 => t.isSome = true ∧ Put ((gA t).add 3) (.int .i64 (-1)) w01 fun w02 => R out w02) fun J_ => Br (decide (n ≥ 5)) (t.isSome = true ∧ ∃ xs : Sl, w.cell? ((gA t).add 0) = some (.slice xs.A xs.n xs.c) ∧ ∃ (I : Sl → Int → World → Prop) (μ : Sl → Int → World → Nat), I (⟨none, 0, 0⟩ : Sl) 0 w ∧ ∀ (out1 : Sl) (x : Int) (w03 : World), I out1 x w03 → Br (decide (x < (xs.n : Int))) (letX (fun (out2 : Sl) (w04 : World) => I out2 (IntKind.wrap .i64 (x + 1)) w04 ∧ μ out2 (IntKind.wrap .i64 (x + 1)) w04 < μ out1 x w03) fun J_1 => (0 ≤ x ∧ x < (xs.n : Int) ∧ xs.A.isSome = true) ∧ ∃ g : Array Value, (loadVar 97 ((gA xs.A).add (x.toNat * 2))).run Tryz.prog w03 = .ok (.agg g) w03 ∧ New (.cells #[.int .i64 0, .int .u64 0] 97) w03 fun r w05 => RunU Tryz.prog (storeVar 97 r (.agg g)) w05 fun w06 => ∃ n1 : Int, w06.cell? (r.add 0) = some (.int .i64 n1) ∧ Br (n1 != but) (∃ n2 : Int, w06.cell? (r.add 0) = some (.int .i64 n2) ∧ RunK Tryz.prog .sl (Instr.buildSlice 261 1 #[(0, .agg #[.int .i64 n2, .int .u16 10756])]) w06 fun xs1 w08 => RunK Tryz.prog .sl (Builtin.append_ #[261, 261] 261 #[.slice out1.A out1.n out1.c, .slice xs1.A xs1.n xs1.c]) w08 fun xs2 w09 => J_1 xs2 w09) (J_1 out1 w06)) (J_ out1 w03)) (J_ (⟨none, 0, 0⟩ : Sl) w)
theorem Fpr_Table_free.calls (t : Option Addr) (but : Int) (w : World) (R : Sl → World → Prop) (h : Fpr_Table_free t but w R) : Cpr_Table_free t but w R :=
  calls_of_vc (anOp_ok callable) wide Tryz.func268 [(10, ⟨[(5, .sl)], [0]⟩), (12, ⟨[(5, .sl), (18, .i .i64)], [0, 1, 16, 17]⟩), (5, ⟨[(5, .sl)], [0, 1, 16, 17, 18]⟩)] [.sl] [.pointer t, .int .i64 but] w R (Eq.mp (show Fpr_Table_free t but w R = vcF Tryz.prog G Tryz.f268 [(10, ⟨[(5, .sl)], [0]⟩), (12, ⟨[(5, .sl), (18, .i .i64)], [0, 1, 16, 17]⟩), (5, ⟨[(5, .sl)], [0, 1, 16, 17, 18]⟩)] [.sl] [.pointer t, .int .i64 but] w R by kernel_rfl) h)
/-- (*pallet/store.Store).check -/
def Fstore_Store_check (s : Option Addr) (lba : Int) (n : Int) (w : World) (R : Int → World → Prop) : Prop :=
  Br ((s).isNone) (R 8 w) (((!((decide (lba < 0)) || (decide (n < 0)))) = true → s.isSome = true) ∧ ∃ n1 : Int, ((!((decide (lba < 0)) || (decide (n < 0)))) = true → w.cell? ((gA s).add 2) = some (.int .i64 n1)) ∧ ((!(((decide (lba < 0)) || (decide (n < 0))) || (decide (lba > n1)))) = true → s.isSome = true) ∧ ∃ n2 : Int, ((!(((decide (lba < 0)) || (decide (n < 0))) || (decide (lba > n1)))) = true → w.cell? ((gA s).add 2) = some (.int .i64 n2)) ∧ Br ((((decide (lba < 0)) || (decide (n < 0))) || (decide (lba > n1))) || (decide (n > (IntKind.wrap .i64 (n2 - lba))))) (R 4 w) (R 0 w))
theorem Fstore_Store_check.calls (s : Option Addr) (lba : Int) (n : Int) (w : World) (R : Int → World → Prop) (h : Fstore_Store_check s lba n w R) : Cstore_Store_check s lba n w R :=
  calls_of_vc (anOp_ok callable) wide Tryz.func270 [] [.i .i64] [.pointer s, .int .i64 lba, .int .i64 n] w R (Eq.mp (show Fstore_Store_check s lba n w R = vcF Tryz.prog G Tryz.f270 [] [.i .i64] [.pointer s, .int .i64 lba, .int .i64 n] w R by kernel_rfl) h)
/-- pallet/store.block -/
def Fstore_block (p : Sl) (w : World) (R : (Array Value) → World → Prop) : Prop :=
  New (.cells #[.int .u8 0, .int .u8 0, .int .u8 0, .int .u8 0, .int .u8 0, .int .u8 0, .int .u8 0, .int .u8 0, .int .u8 0, .int .u8 0, .int .u8 0, .int .u8 0, .int .u8 0, .int .u8 0, .int .u8 0, .int .u8 0, .int .u16 0, .int .u16 0, .int .u32 0] 348) w fun a w0 => ((!(decide ((p.n : Int) < 25))) = true → (0 ≤ (0 : Int) ∧ (0 : Int) < (p.n : Int) ∧ p.A.isSome = true)) ∧ ∃ n : Int, ((!(decide ((p.n : Int) < 25))) = true → w0.cell? ((gA p.A).add ((0 : Int).toNat * 1)) = some (.int .u8 n)) ∧ Br ((decide ((p.n : Int) < 25)) || (n != 1)) (Cstore_empty  w0 fun g w01 => RunU Tryz.prog (storeVar 348 a (.agg g)) w01 fun w02 => ∃ res : Array Value, (loadVar 348 a).run Tryz.prog w02 = .ok (.agg res) w02 ∧ R res w02) (New (.cells #[.int .u8 0, .int .u8 0, .int .u8 0, .int .u8 0, .int .u8 0, .int .u8 0, .int .u8 0, .int .u8 0, .int .u8 0, .int .u8 0, .int .u8 0, .int .u8 0, .int .u8 0, .int .u8 0, .int .u8 0, .int .u8 0, .int .u16 0, .int .u16 0, .int .u32 0] 348) w0 fun b w03 => ∀ w04, w04 = w03.drew → (0 ≤ (0 : Int) ∧ (0 : Int) ≤ (16 : Int) ∧ (16 : Int) ≤ (16 : Int)) ∧ (0 ≤ (1 : Int) ∧ (1 : Int) ≤ (p.n : Int) ∧ (p.n : Int) ≤ (p.c : Int) ∧ p.n ≤ p.c) ∧ RunK Tryz.prog (.i .i64) (Builtin.copy_ #[33, 33] 3 #[.slice (some (if 16 = 0 then (b.add 0) else (b.add 0).add (0 * 1))) (16 - 0) (16 - 0), .slice (cutA p.A p.c 1 1) (((p.n : Int)).toNat - 1) (p.c - 1)]) w04 fun n1 w05 => Cbe_Get p 17 2 w05 fun n2 n3 w06 => Cbe_Get p 19 2 w06 fun n4 n5 w07 => Cbe_Get p 21 4 w07 fun n6 n7 w08 => RunU Tryz.prog (storeVar 346 (b.add 16) (.agg #[.int .u16 (IntKind.wrap .u16 n2), .int .u16 (IntKind.wrap .u16 n4), .int .u32 (IntKind.wrap .u32 n6)])) w08 fun w09 => ∃ g1 : Array Value, (loadVar 348 b).run Tryz.prog w09 = .ok (.agg g1) w09 ∧ RunU Tryz.prog (storeVar 348 a (.agg g1)) w09 fun w010 => ∃ res1 : Array Value, (loadVar 348 a).run Tryz.prog w010 = .ok (.agg res1) w010 ∧ R res1 w010)
theorem Fstore_block.calls (p : Sl) (w : World) (R : (Array Value) → World → Prop) (h : Fstore_block p w R) : Cstore_block p w R :=
  calls_of_vc (anOp_ok callable) wide Tryz.func271 [] [.ag] [.slice p.A p.n p.c] w R (Eq.mp (show Fstore_block p w R = vcF Tryz.prog G Tryz.f271 [] [.ag] [.slice p.A p.n p.c] w R by kernel_rfl) h)
/-- pallet/pi.escapes -/
def Fpi_escapes (kind : Int) (t : Array Value) (w : World) (R : Bool → World → Prop) : Prop :=
  New (.cells t 346) w fun t1 w0 => ∃ n : Int, w0.cell? (t1.add 1) = some (.int .u16 n) ∧ Br (n != 65535) (R false w0) (∃ n1 : Int, ((!(kind != 3)) = true → w0.cell? (t1.add 2) = some (.int .u32 n1)) ∧ R ((kind != 3) || (n1 == 4294967295)) w0)
theorem Fpi_escapes.calls (kind : Int) (t : Array Value) (w : World) (R : Bool → World → Prop) (h : Fpi_escapes kind t w R) : Cpi_escapes kind t w R :=
  calls_of_vc (anOp_ok callable) wide Tryz.func272 [] [.b] [.int .u8 kind, .agg t] w R (Eq.mp (show Fpi_escapes kind t w R = vcF Tryz.prog G Tryz.f272 [] [.b] [.int .u8 kind, .agg t] w R by kernel_rfl) h)
/-- pallet/crc.C16 -/
def Fcrc_C16 (p : Sl) (w : World) (R : Int → World → Prop) : Prop :=
  Ccrc_Add16 0 p w fun n w0 => R n w0
theorem Fcrc_C16.calls (p : Sl) (w : World) (R : Int → World → Prop) (h : Fcrc_C16 p w R) : Ccrc_C16 p w R :=
  calls_of_vc (anOp_ok callable) wide Tryz.func273 [] [.i .u16] [.slice p.A p.n p.c] w R (Eq.mp (show Fcrc_C16 p w R = vcF Tryz.prog G Tryz.f273 [] [.i .u16] [.slice p.A p.n p.c] w R by kernel_rfl) h)
/-- (*pallet/store.Store).lay -/
def Fstore_Store_lay (s : Option Addr) (lba : Int) (n : Int) (one : Value) (fua : Bool) (w : World) (R : Int → Int → World → Prop) : Prop :=
  ∃ (I : Int → World → Prop) (μ : Int → World → Nat), I 0 w ∧ ∀ (x : Int) (w0 : World), I x w0 → Br (decide (x < n)) (∀ w01, w01 = w0.drew → ∃ S : World → Prop, S w01 ∧ s.isSome = true ∧ ∃ p : Option Addr, (∀ u, S u → u.cell? ((gA s).add 0) = some (.pointer p)) ∧ s.isSome = true ∧ ∃ s1 : ByteArray, (∀ u1, S u1 → u1.cell? ((gA s).add 1) = some (.string s1)) ∧ CallV Tryz.prog cs one #[.int .i64 x] w01 [.sl] fun xs w02 => S w02 ∧ Cworld_World_Write p s1 (IntKind.wrap .i64 ((IntKind.wrap .i64 (lba + x)) * 25)) xs w02 fun n1 w03 => Br (n1 != 0) (R x n1 w03) (I (IntKind.wrap .i64 (x + 1)) w03 ∧ μ (IntKind.wrap .i64 (x + 1)) w03 < μ x w0)) ((((!fua) && (decide (n > 0))) = true → s.isSome = true) ∧ ∃ b : Bool, (((!fua) && (decide (n > 0))) = true → w0.cell? ((gA s).add 3) = some (.bool b)) ∧ Br ((decide (n > 0)) && (fua || (!b))) (s.isSome = true ∧ ∃ p1 : Option Addr, w0.cell? ((gA s).add 0) = some (.pointer p1) ∧ Cworld_World_Sync p1 w0 fun n2 w04 => R n n2 w04) (R n 0 w0))
theorem Fstore_Store_lay.calls (s : Option Addr) (lba : Int) (n : Int) (one : Value) (fua : Bool) (w : World) (R : Int → Int → World → Prop) (h : Fstore_Store_lay s lba n one fua w R) : Cstore_Store_lay s lba n one fua w R :=
  calls_of_vc (anOp_ok callable) wide Tryz.func274 [(6, ⟨[(15, .i .i64)], [0, 1, 2, 3, 4, 14]⟩)] [.i .i64, .i .i64] [.pointer s, .int .i64 lba, .int .i64 n, one, .bool fua] w R (Eq.mp (show Fstore_Store_lay s lba n one fua w R = vcF Tryz.prog G Tryz.f274 [(6, ⟨[(15, .i .i64)], [0, 1, 2, 3, 4, 14]⟩)] [.i .i64, .i .i64] [.pointer s, .int .i64 lba, .int .i64 n, one, .bool fua] w R by kernel_rfl) h)
/-- (*pallet/store.Store).Write$1 -/
def Fstore_Store_Write_1 (i : Int) (fv : Addr) (w : World) (R : Sl → World → Prop) : Prop :=
  ∃ xs : Sl, w.cell? fv = some (.slice xs.A xs.n xs.c) ∧ (0 ≤ i ∧ i < (xs.n : Int) ∧ xs.A.isSome = true) ∧ ∃ g : Array Value, (loadVar 348 ((gA xs.A).add (i.toNat * 19))).run Tryz.prog w = .ok (.agg g) w ∧ Cstore_record g w fun xs1 w0 => R xs1 w0
theorem Fstore_Store_Write_1.calls (i : Int) (fv : Addr) (w : World) (R : Sl → World → Prop) (h : Fstore_Store_Write_1 i fv w R) : Cstore_Store_Write_1 i fv w R :=
  calls_of_vc (anOp_ok callable) wide Tryz.func275 [] [.sl] [.int .i64 i, .pointer (some fv)] w R (Eq.mp (show Fstore_Store_Write_1 i fv w R = vcF Tryz.prog G Tryz.f275 [] [.sl] [.int .i64 i, .pointer (some fv)] w R by kernel_rfl) h)
/-- pallet/store.record -/
def Fstore_record (b : Array Value) (w : World) (R : Sl → World → Prop) : Prop :=
  New (.cells b 348) w fun b1 w0 => RunK Tryz.prog .sl (Instr.buildSlice 33 1 #[(0, .int .u8 1)]) w0 fun xs w01 => (0 ≤ (0 : Int) ∧ (0 : Int) ≤ (16 : Int) ∧ (16 : Int) ≤ (16 : Int)) ∧ RunK Tryz.prog .sl (Builtin.append_ #[33, 33] 33 #[.slice xs.A xs.n xs.c, .slice (some (if 16 = 0 then (b1.add 0) else (b1.add 0).add (0 * 1))) (16 - 0) (16 - 0)]) w01 fun xs1 w02 => ∃ n : Int, w02.cell? ((b1.add 16).add 0) = some (.int .u16 n) ∧ ∃ n1 : Int, w02.cell? ((b1.add 16).add 0) = some (.int .u16 n1) ∧ ∃ n2 : Int, w02.cell? ((b1.add 16).add 1) = some (.int .u16 n2) ∧ ∃ n3 : Int, w02.cell? ((b1.add 16).add 1) = some (.int .u16 n3) ∧ RunK Tryz.prog .sl (Instr.buildSlice 33 4 #[(0, .int .u8 (IntKind.wrap .u8 (bShr .u16 n 8))), (1, .int .u8 (IntKind.wrap .u8 n1)), (2, .int .u8 (IntKind.wrap .u8 (bShr .u16 n2 8))), (3, .int .u8 (IntKind.wrap .u8 n3))]) w02 fun xs2 w03 => RunK Tryz.prog .sl (Builtin.append_ #[33, 33] 33 #[.slice xs1.A xs1.n xs1.c, .slice xs2.A xs2.n xs2.c]) w03 fun xs3 w04 => ∃ n4 : Int, w04.cell? ((b1.add 16).add 2) = some (.int .u32 n4) ∧ ∃ n5 : Int, w04.cell? ((b1.add 16).add 2) = some (.int .u32 n5) ∧ ∃ n6 : Int, w04.cell? ((b1.add 16).add 2) = some (.int .u32 n6) ∧ ∃ n7 : Int, w04.cell? ((b1.add 16).add 2) = some (.int .u32 n7) ∧ RunK Tryz.prog .sl (Instr.buildSlice 33 4 #[(0, .int .u8 (IntKind.wrap .u8 (bShr .u32 n4 24))), (1, .int .u8 (IntKind.wrap .u8 (bShr .u32 n5 16))), (2, .int .u8 (IntKind.wrap .u8 (bShr .u32 n6 8))), (3, .int .u8 (IntKind.wrap .u8 n7))]) w04 fun xs4 w05 => RunK Tryz.prog .sl (Builtin.append_ #[33, 33] 33 #[.slice xs3.A xs3.n xs3.c, .slice xs4.A xs4.n xs4.c]) w05 fun xs5 w06 => R xs5 w06
theorem Fstore_record.calls (b : Array Value) (w : World) (R : Sl → World → Prop) (h : Fstore_record b w R) : Cstore_record b w R :=
  calls_of_vc (anOp_ok callable) wide Tryz.func276 [] [.sl] [.agg b] w R (Eq.mp (show Fstore_record b w R = vcF Tryz.prog G Tryz.f276 [] [.sl] [.agg b] w R by kernel_rfl) h)
/-- (*pallet/store.Store).Unmap$1 -/
def Fstore_Store_Unmap_1 (p : Int) (w : World) (R : Sl → World → Prop) : Prop :=
  RunK Tryz.prog .sl (Instr.buildSlice 33 1 #[(0, .int .u8 0)]) w fun xs w0 => R xs w0
theorem Fstore_Store_Unmap_1.calls (p : Int) (w : World) (R : Sl → World → Prop) (h : Fstore_Store_Unmap_1 p w R) : Cstore_Store_Unmap_1 p w R :=
  calls_of_vc (anOp_ok callable) wide Tryz.func277 [] [.sl] [.int .i64 p] w R (Eq.mp (show Fstore_Store_Unmap_1 p w R = vcF Tryz.prog G Tryz.f277 [] [.sl] [.int .i64 p] w R by kernel_rfl) h)
/-- pallet/crc.Add32 -/
def Fcrc_Add32 (sum : Int) (p : Sl) (w : World) (R : Int → World → Prop) : Prop :=
  ∃ (I : Int → Int → World → Prop) (μ : Int → Int → World → Nat), I (bNot .u32 sum) 0 w ∧ ∀ (sum1 : Int) (x : Int) (w0 : World), I sum1 x w0 → Br (decide (x < (p.n : Int))) ((0 ≤ x ∧ x < (p.n : Int) ∧ p.A.isSome = true) ∧ ∃ n : Int, w0.cell? ((gA p.A).add (x.toNat * 1)) = some (.int .u8 n) ∧ ∃ (I1 : Int → Int → World → Prop) (μ1 : Int → Int → World → Nat), I1 (bXor .u32 sum1 (IntKind.wrap .u32 n)) 0 w0 ∧ ∀ (sum2 : Int) (x1 : Int) (w01 : World), I1 sum2 x1 w01 → Br (decide (x1 < 8)) (letX (fun (sum3 : Int) (w02 : World) => I1 sum3 (IntKind.wrap .i64 (x1 + 1)) w02 ∧ μ1 sum3 (IntKind.wrap .i64 (x1 + 1)) w02 < μ1 sum2 x1 w01) fun J_ => Br ((bAnd .u32 sum2 1) == 1) (J_ (bXor .u32 (bShr .u32 sum2 1) 2197175160) w01) (J_ (bShr .u32 sum2 1) w01)) (I sum2 (IntKind.wrap .i64 (x + 1)) w01 ∧ μ sum2 (IntKind.wrap .i64 (x + 1)) w01 < μ sum1 x w0)) (R (bNot .u32 sum1) w0)
theorem Fcrc_Add32.calls (sum : Int) (p : Sl) (w : World) (R : Int → World → Prop) (h : Fcrc_Add32 sum p w R) : Ccrc_Add32 sum p w R :=
  calls_of_vc (anOp_ok callable) wide Tryz.func296 [(9, ⟨[(0, .i .u32), (12, .i .i64)], [10, 11]⟩), (21, ⟨[(0, .i .u32), (20, .i .i64)], [10, 11, 12]⟩), (11, ⟨[(0, .i .u32)], [10, 11, 12, 20]⟩)] [.i .u32] [.int .u32 sum, .slice p.A p.n p.c] w R (Eq.mp (show Fcrc_Add32 sum p w R = vcF Tryz.prog G Tryz.f296 [(9, ⟨[(0, .i .u32), (12, .i .i64)], [10, 11]⟩), (21, ⟨[(0, .i .u32), (20, .i .i64)], [10, 11, 12]⟩), (11, ⟨[(0, .i .u32)], [10, 11, 12, 20]⟩)] [.i .u32] [.int .u32 sum, .slice p.A p.n p.c] w R by kernel_rfl) h)
end Go.Proofs.YtpmebahhjgkflaaGreatDoor

-- printed by wip/cf/cfprint.py
namespace Go.Proofs.YtpmebahhjgkflaaGreatDoor
open Go CF
set_option linter.unusedVariables false
set_option maxRecDepth 100000
/-- (*pallet/world.World).do -/
def Fworld_World_do (w_ : Option Addr) (c : Array Value) (w : World) (R : Int → World → Prop) : Prop :=
  New (.cells c 173) w fun c1 w0 => Cworld_World_call w_ w0 fun n w01 => Br (n != 0) (R n w01) (∀ w02, w02 = w01.drew → ∃ S : World → Prop, S w02 ∧ w_.isSome = true ∧ ∃ m : Option Nat, (∀ u, S u → u.cell? ((gA w_).add 0) = some (.map m)) ∧ ∃ g : Array Value, (∀ u1, S u1 → (loadVar 173 c1).run Tryz.prog u1 = .ok (.agg g) u1) ∧ ∃ xs : Sl, (∀ u2, S u2 → u2.cell? (c1.add 4) = some (.slice xs.A xs.n xs.c)) ∧ Cworld_apply m g (xs.n : Int) w02 fun w03 => ∀ w04, w04 = w03.drew → ∃ S1 : World → Prop, S1 w04 ∧ w_.isSome = true ∧ ∃ xs1 : Sl, (∀ u3, S1 u3 → u3.cell? ((gA w_).add 2) = some (.slice xs1.A xs1.n xs1.c)) ∧ ∃ g1 : Array Value, (∀ u4, S1 u4 → (loadVar 173 c1).run Tryz.prog u4 = .ok (.agg g1) u4) ∧ RunK Tryz.prog .sl (Instr.buildSlice 107 1 #[(0, .agg g1)]) w04 fun xs2 w05 => S1 w05 ∧ RunK Tryz.prog .sl (Builtin.append_ #[107, 107] 107 #[.slice xs1.A xs1.n xs1.c, .slice xs2.A xs2.n xs2.c]) w05 fun xs3 w06 => w_.isSome = true ∧ Put ((gA w_).add 2) (.slice xs3.A xs3.n xs3.c) w06 fun w07 => R 0 w07)
theorem Fworld_World_do.calls (w_ : Option Addr) (c : Array Value) (w : World) (R : Int → World → Prop) (h : Fworld_World_do w_ c w R) : Cworld_World_do w_ c w R :=
  calls_of_vc (anOp_ok callable) wide Tryz.func297 [] [.i .i64] [.pointer w_, .agg c] w R (Eq.mp (show Fworld_World_do w_ c w R = vcF Tryz.prog G Tryz.f297 [] [.i .i64] [.pointer w_, .agg c] w R by kernel_rfl) h)
/-- pallet/store.empty -/
def Fstore_empty (w : World) (R : (Array Value) → World → Prop) : Prop :=
  New (.cells #[.int .u8 0, .int .u8 0, .int .u8 0, .int .u8 0, .int .u8 0, .int .u8 0, .int .u8 0, .int .u8 0, .int .u8 0, .int .u8 0, .int .u8 0, .int .u8 0, .int .u8 0, .int .u8 0, .int .u8 0, .int .u8 0, .int .u16 0, .int .u16 0, .int .u32 0] 348) w fun a w0 => ∃ g : Array Value, (Instr.build 348 #[(1, .agg #[.int .u16 65535, .int .u16 65535, .int .u32 4294967295])]).run Tryz.prog w0 = .ok (.agg g) w0 ∧ RunU Tryz.prog (storeVar 348 a (.agg g)) w0 fun w01 => ∃ res : Array Value, (loadVar 348 a).run Tryz.prog w01 = .ok (.agg res) w01 ∧ R res w01
theorem Fstore_empty.calls (w : World) (R : (Array Value) → World → Prop) (h : Fstore_empty w R) : Cstore_empty w R :=
  calls_of_vc (anOp_ok callable) wide Tryz.func302 [] [.ag] [] w R (Eq.mp (show Fstore_empty w R = vcF Tryz.prog G Tryz.f302 [] [.ag] [] w R by kernel_rfl) h)
/-- pallet/crc.Add16 -/
def Fcrc_Add16 (sum : Int) (p : Sl) (w : World) (R : Int → World → Prop) : Prop :=
  ∃ (I : Int → Int → World → Prop) (μ : Int → Int → World → Nat), I sum 0 w ∧ ∀ (sum1 : Int) (x : Int) (w0 : World), I sum1 x w0 → Br (decide (x < (p.n : Int))) ((0 ≤ x ∧ x < (p.n : Int) ∧ p.A.isSome = true) ∧ ∃ n : Int, w0.cell? ((gA p.A).add (x.toNat * 1)) = some (.int .u8 n) ∧ ∃ (I1 : Int → Int → World → Prop) (μ1 : Int → Int → World → Nat), I1 (bXor .u16 sum1 (bShl .u16 (IntKind.wrap .u16 n) 8)) 0 w0 ∧ ∀ (sum2 : Int) (x1 : Int) (w01 : World), I1 sum2 x1 w01 → Br (decide (x1 < 8)) (letX (fun (sum3 : Int) (w02 : World) => I1 sum3 (IntKind.wrap .i64 (x1 + 1)) w02 ∧ μ1 sum3 (IntKind.wrap .i64 (x1 + 1)) w02 < μ1 sum2 x1 w01) fun J_ => Br ((bShr .u16 sum2 15) == 1) (J_ (bXor .u16 (bShl .u16 sum2 1) 35767) w01) (J_ (bShl .u16 sum2 1) w01)) (I sum2 (IntKind.wrap .i64 (x + 1)) w01 ∧ μ sum2 (IntKind.wrap .i64 (x + 1)) w01 < μ sum1 x w0)) (R sum1 w0)
theorem Fcrc_Add16.calls (sum : Int) (p : Sl) (w : World) (R : Int → World → Prop) (h : Fcrc_Add16 sum p w R) : Ccrc_Add16 sum p w R :=
  calls_of_vc (anOp_ok callable) wide Tryz.func303 [(6, ⟨[(0, .i .u16), (10, .i .i64)], [8, 9]⟩), (18, ⟨[(0, .i .u16), (19, .i .i64)], [8, 9, 10]⟩), (11, ⟨[(0, .i .u16)], [8, 9, 10, 19]⟩)] [.i .u16] [.int .u16 sum, .slice p.A p.n p.c] w R (Eq.mp (show Fcrc_Add16 sum p w R = vcF Tryz.prog G Tryz.f303 [(6, ⟨[(0, .i .u16), (10, .i .i64)], [8, 9]⟩), (18, ⟨[(0, .i .u16), (19, .i .i64)], [8, 9, 10]⟩), (11, ⟨[(0, .i .u16)], [8, 9, 10, 19]⟩)] [.i .u16] [.int .u16 sum, .slice p.A p.n p.c] w R by kernel_rfl) h)
end Go.Proofs.YtpmebahhjgkflaaGreatDoor

/- Layer 3: files in a map, and a change applied to them. -/
namespace Go.Proofs.YtpmebahhjgkflaaGreatDoor
open Go CF
set_option maxRecDepth 100000

abbrev Files := ByteArray → Option L8
def wr (f : L8) (o : Nat) (p : L8) : L8 :=
  (f ++ List.replicate (o + p.length - f.length) 0).take o ++ p ++ (f ++ List.replicate (o + p.length - f.length) 0).drop (o + p.length)
def setF (F : Files) (s : ByteArray) (v : Option L8) : Files := fun t => if t = s then v else F t
def applyWr (F : Files) (s : ByteArray) (o : Nat) (p : L8) : Files := setF F s (some (wr ((F s).getD []) o p))
theorem wr_len (f : L8) (o : Nat) (p : L8) : (wr f o p).length = max f.length (o + p.length) := by
  unfold wr
  simp only [List.length_append, List.length_take, List.length_drop, List.length_replicate]
  omega
theorem mn_nat (a b : Nat) : mn (a : Int) (b : Int) = ((min a b : Nat) : Int) := by
  unfold mn; split <;> omega
/-- a file's bytes, as they lie in the map -/
def FileAt (w : World) (v : Option Value) : Option L8 → Prop
  | none => v = none
  | some l => ∃ s : Sl, v = some (.slice s.A s.n s.c) ∧ Own w 0 t_uint8 1 s (bv l) ∧ l.length ≤ 1048576
def IsF (w : World) (mb : Nat) (F : Files) : Prop := ∃ m, SMap w mb m ∧ ∀ s, FileAt w (m s) (F s)
theorem own_heap {w : World} {base : Nat} {e : TypeId} {z : Nat} {s : Sl} {vs : List Value} (h : Own w base e z s vs) {g : Nat} (hg : s.blk = some g) : ∃ cur, w.heap[g]? = some (.cells cur e (0, 0)) := by
  rcases h.2 with ⟨h2, _⟩ | ⟨g', cap, cur, hv, _, hh, _⟩
  · injection h2 with hA; simp [Sl.blk, hA] at hg
  · injection hv with hA
    simp [Sl.blk, hA] at hg
    subst hg
    exact ⟨cur, hh⟩
/-- these blocks hold no bytes -/
def NoBytes (w : World) (S : Nat → Prop) : Prop := ∀ g cur, w.heap[g]? = some (.cells cur t_uint8 (0, 0)) → ¬ S g
theorem FileAt.keep {S : Nat → Prop} {w w' : World} {v : Option Value} {l : Option L8} (h : FileAt w v l) (k : Keep S w w') (hn : NoBytes w S) : FileAt w' v l := by
  cases l with
  | none => exact h
  | some l =>
    obtain ⟨s, h1, h2, h3⟩ := h
    refine ⟨s, h1, h2.keep k fun b hb => ?_, h3⟩
    obtain ⟨cur, hc⟩ := own_heap h2 hb
    exact hn b cur hc
theorem IsF.keep {S : Nat → Prop} {w w' : World} {mb : Nat} {F : Files} (h : IsF w mb F) (k : Keep S w w') (hm : ¬ S mb) (hn : NoBytes w S) : IsF w' mb F := by
  obtain ⟨m, h1, h2⟩ := h
  exact ⟨m, h1.keep k hm, fun s => (h2 s).keep k hn⟩
theorem nobytes_none (w : World) : NoBytes w fun _ => False := fun _ _ _ q => q
theorem IsF.grow {w w' : World} {mb : Nat} {F : Files} (h : IsF w mb F) (k : Grow w w') : IsF w' mb F := h.keep k (fun q => q) (nobytes_none w)
theorem isF_new (w : World) : IsF (w.alloc (.map #[] 0)) w.heap.size fun _ => none := ⟨_, smap_new w, fun _ => rfl⟩
theorem isF_lt {w : World} {mb : Nat} {F : Files} (h : IsF w mb F) : mb < w.heap.size := by
  obtain ⟨m, ⟨es, c, hb, _⟩, _⟩ := h
  exact lt_of_heap hb
theorem isF_map {w : World} {mb : Nat} {F : Files} (h : IsF w mb F) (cur : Array Value) (t : TypeId) (fr : Nat × Nat) : w.heap[mb]? ≠ some (.cells cur t fr) := by
  obtain ⟨m, ⟨es, c, hb, _⟩, _⟩ := h
  rw [hb]; intro q; cases q
theorem nobytes_map {w : World} {mb : Nat} {F : Files} (h : IsF w mb F) : NoBytes w fun k => k = mb := fun g cur hg q => by
  subst q; exact isF_map h _ _ _ hg
theorem zero_rule {P : Program} {w : World} {e : TypeId} {zv : Value} {z bytes : Nat} (hinfo : (P.info? e).map (fun i => (i.zero, i.size, i.bytes)) = some (some zv, z, bytes)) : (zeroValue e).run P w = .ok zv w := by
  obtain ⟨i, hi, hzz⟩ := Option.map_eq_some_iff.1 hinfo
  simp only [Prod.mk.injEq] at hzz
  simp [zeroValue, typeInfo, hi, hzz.1]
theorem file_look {w : World} {mb : Nat} {F : Files} (h : IsF w mb F) (s : ByteArray) :
    ∃ r : Sl × Bool, (Instr.lookup t_map_string_sl_uint8 (.map (some mb)) (.string s) true).run Tryz.prog w = .ok (.tuple #[.slice r.1.A r.1.n r.1.c, .bool r.2]) w ∧
      (Instr.lookup t_map_string_sl_uint8 (.map (some mb)) (.string s) false).run Tryz.prog w = .ok (.slice r.1.A r.1.n r.1.c) w ∧ Own w 0 t_uint8 1 r.1 (bv ((F s).getD [])) ∧ r.2 = (F s).isSome ∧ ((F s).getD []).length ≤ 1048576 := by
  obtain ⟨m, hm, hf⟩ := h
  obtain ⟨l1, l2⟩ := look_rule u_map_string_sl_uint8 u_string (zero_rule i_sl_uint8) hm s
  have hs := hf s
  cases hF : F s with
  | none =>
    rw [hF] at hs
    have hs : m s = none := hs
    rw [hs] at l1 l2
    exact ⟨(⟨none, 0, 0⟩, false), l1, l2, own_nil _ _ _ _, rfl, by simp⟩
  | some l =>
    rw [hF] at hs
    obtain ⟨sl, h1, h2, h3⟩ := hs
    rw [h1] at l1 l2
    exact ⟨(sl, true), l1, l2, h2, rfl, h3⟩
theorem file_put {w : World} {mb : Nat} {F : Files} (h : IsF w mb F) (s : ByteArray) {f : Sl} {l : L8} (hf : Own w 0 t_uint8 1 f (bv l)) (hl : l.length ≤ 1048576)
    {K : World → Prop} (hK : ∀ w', IsF w' mb (setF F s (some l)) → Keep (fun k => k = mb) w w' → K w') : RunU Tryz.prog (Instr.mapUpdate t_map_string_sl_uint8 (.map (some mb)) (.string s) (.slice f.A f.n f.c)) w K := by
  have hnb := nobytes_map h
  obtain ⟨m, hm, hs⟩ := h
  refine upd_rule u_map_string_sl_uint8 u_string hm s _ fun w1 hm1 hk1 _ => hK w1 ⟨_, hm1, fun t => ?_⟩ hk1
  unfold upd setF
  by_cases q : t = s
  · rw [if_pos q, if_pos q]
    refine ⟨f, rfl, hf.keep hk1 fun b hb => ?_, hl⟩
    obtain ⟨cur, hc⟩ := own_heap hf hb
    exact hnb b cur hc
  · rw [if_neg q, if_neg q]
    exact (hs t).keep hk1 hnb
theorem bv_rep (j : Nat) : bv (List.replicate j 0) ++ [.int .u8 0] = bv (List.replicate (j + 1) 0) := by
  rw [List.replicate_succ', bv_append]; rfl
theorem apply_w_spec {w : World} {mb : Nat} {F : Files} {name to : ByteArray} {off k : Nat} {p : Sl} {bs : L8} {R : World → Prop} (hF : IsF w mb F) (hp : Rd w 1 p (bv bs)) (hb : off + bs.length ≤ 1048576)
    (h : ∀ w', Keep (fun k => k = mb) w w' → IsF w' mb (applyWr F name off (bs.take k)) → R w') :
    Cworld_apply (some mb) #[.int .u8 119, .string name, .string to, .int .i64 (off : Int), .slice p.A p.n p.c] (k : Int) w R := by
  refine Fworld_apply.calls _ _ _ _ _ ?_
  refine new_rule fun cb w0 hcb hb0 hg0 hsz0 => ?_
  have hb0 : Blk w0 cb #[.int .u8 119, .string name, .string to, .int .i64 (off : Int), .slice p.A p.n p.c] t_world_change := hb0
  have c0 : ∀ {u : World}, Blk u cb #[.int .u8 119, .string name, .string to, .int .i64 (off : Int), .slice p.A p.n p.c] t_world_change → u.cell? ((⟨cb, 0, none⟩ : Addr).add 0) = some (.int .u8 119) := fun q => by rw [add0, q.cell]; rfl
  have c1 : ∀ {u : World}, Blk u cb #[.int .u8 119, .string name, .string to, .int .i64 (off : Int), .slice p.A p.n p.c] t_world_change → u.cell? ((⟨cb, 0, none⟩ : Addr).add 1) = some (.string name) := fun q => by rw [add0, q.cell]; rfl
  have c3 : ∀ {u : World}, Blk u cb #[.int .u8 119, .string name, .string to, .int .i64 (off : Int), .slice p.A p.n p.c] t_world_change → u.cell? ((⟨cb, 0, none⟩ : Addr).add 3) = some (.int .i64 (off : Int)) := fun q => by rw [add0, q.cell]; rfl
  have c4 : ∀ {u : World}, Blk u cb #[.int .u8 119, .string name, .string to, .int .i64 (off : Int), .slice p.A p.n p.c] t_world_change → u.cell? ((⟨cb, 0, none⟩ : Addr).add 4) = some (.slice p.A p.n p.c) := fun q => by rw [add0, q.cell]; rfl
  have hpn : bs.length = p.n := by have := hp.len; rw [bv_length] at this; omega
  have hcap := hp.cap
  refine ⟨119, c0 hb0, br_t rfl ?_⟩
  have hmn := mn_nat k p.n
  refine ⟨p, c4 hb0, p, c4 hb0, ⟨by omega, by omega, by omega, by omega⟩, name, c1 hb0, ?_⟩
  rw [hmn]
  obtain ⟨r, _, hlk, hown, _, hol⟩ := file_look (hF.grow hg0) name
  generalize hold : (F name).getD [] = old at *
  have hrn : old.length = r.1.n := by have := hown.len; rw [bv_length] at this; omega
  refine ⟨r.1, hlk, ?_⟩
  refine append_rule (s := ⟨none, 0, 0⟩) (vs := []) (base := w0.heap.size) u_sl_uint8 i_uint8 rfl (by decide) (by decide) (own_nil _ _ _ _) (hown.rd (by omega)) (by intro u hu; simp only [bv, List.mem_map] at hu; obtain ⟨_, _, rfl⟩ := hu; rfl) (by show (0 + r.1.n) * 1 ≤ _; omega) (Nat.le_refl _) fun s1 w1 hn1 hown1 hk1 _ => ?_
  have hg1 : Grow w0 w1 := hk1.mono fun i hi q => by cases q
  rw [List.nil_append] at hown1
  simp only [Int.toNat_natCast, Nat.sub_zero]
  generalize hL : (bs.take k).length = L at *
  have hLm : min k p.n = L := by rw [← hL, List.length_take]; omega
  rw [hLm]
  have hLb : off + L ≤ 1048576 := by rw [← hL, List.length_take]; omega
  refine ⟨fun f w' => ∃ j : Nat, Grow w0 w' ∧ Own w' w0.heap.size t_uint8 1 f (bv (old ++ List.replicate j 0)) ∧ (j = 0 ∨ old.length + j ≤ off + L), fun f _ => off + L - f.n, ⟨0, hg1, by simpa using hown1, .inl rfl⟩, ?_⟩
  rintro f w2 ⟨j, hg2, hown2, hj⟩
  have hfn : old.length + j = f.n := by have := hown2.len; rw [bv_length, List.length_append, List.length_replicate] at this; omega
  have hb2 := hg2.heap hb0 (fun q => q)
  refine ⟨(off : Int), c3 hb2, ?_⟩
  have hwp : IntKind.wrap .i64 ((off : Int) + (L : Int)) = ((off + L : Nat) : Int) := by rw [w64 (by omega) (by omega)]; omega
  refine br_dec (fun hlt => ?_) (fun hge => ?_)
  · rw [hwp] at hlt
    refine lit_rule (cells := #[.int .u8 0]) (e := t_uint8) (z := 1) (base := w0.heap.size) (by kernel_rfl) rfl (by decide) hg2.size fun w3 hlit3 hg3 _ => ?_
    refine append_rule u_sl_uint8 i_uint8 rfl (by decide) (by decide) (hown2.grow hg3) (hlit3.rd (by show 1 ≤ _; decide)) (by simp [Value.oneCell']) (by show (f.n + 1) * 1 ≤ _; omega) (hg2.trans hg3).size fun f4 w4 hn4 hown4 hk4 _ => ?_
    refine ⟨⟨j + 1, (hg2.trans hg3).keep hk4 fun i hi q => by have := (hown2.ge i q.symm).1; omega, ?_, .inr (by omega)⟩, ?_⟩
    · have e : bv (old ++ List.replicate (j + 1) 0) = bv (old ++ List.replicate j 0) ++ [.int .u8 0] := by
        rw [bv_append, bv_append, List.append_assoc, bv_rep]
      rw [e]; exact hown4
    · have : f4.n = f.n + 1 := hn4
      dsimp only
      omega
  · rw [hwp] at hge
    have hjv : j = off + L - old.length := by omega
    have hfr := hown2.rd (by omega)
    have hfc := hfr.cap
    refine ⟨(off : Int), c3 hb2, ⟨by omega, by omega, by omega, by omega⟩, ?_⟩
    simp only [Int.toNat_natCast]
    have hx := (hp.grow (hg0.trans hg2)).cutB (l := 0) (k := L) (Nat.zero_le _) (by omega)
    simp only [List.drop_zero, Nat.sub_zero] at hx
    have hxt : bs.take L = bs.take k := by
      rw [← hL, List.length_take]
      rcases Nat.le_total k bs.length with q | q
      · rw [Nat.min_eq_left q]
      · rw [Nat.min_eq_right q, List.take_length, List.take_of_length_le q]
    rw [hxt] at hx
    refine copy_rule (x := ⟨cutA p.A p.c 0 1, L, p.c⟩) (o := off) u_sl_uint8 i_uint8 hown2 hx (by intro u hu; simp only [bv, List.mem_map] at hu; obtain ⟨_, _, rfl⟩ := hu; rfl) (by show off + L ≤ f.n; omega) fun w3 hown3 hk3 _ => ?_
    have hcf : f.blk ≠ some cb := fun q => by have := (hown2.ge cb q).1; omega
    have hb3 := hk3.heap hb2 (fun q => hcf q.symm)
    refine ⟨name, c1 hb3, ?_⟩
    have hg3 : Grow w0 w3 := hg2.keep hk3 fun i hi q => by have := (hown2.ge i q.symm).1; omega
    have hgw : Grow w w3 := hg0.trans hg3
    have hres : Own w3 0 t_uint8 1 f (bv (wr old off (bs.take k))) := by
      refine Own.mono (base := w0.heap.size) ?_ (Nat.zero_le _)
      have e : bv (wr old off (bs.take k)) = (bv (old ++ List.replicate j 0)).take off ++ bv (bs.take k) ++ (bv (old ++ List.replicate j 0)).drop (off + L) := by
        unfold wr
        rw [hL, ← hjv, bv_append, bv_append, bv_take, bv_drop]
      rw [e]
      exact hown3
    refine file_put (hF.grow hgw) name hres (by rw [wr_len, hL]; omega) fun w4 hF4 hk4 => ?_
    refine h w4 (Keep.trans (hgw.mono fun _ _ q => q.elim) hk4 fun _ _ q => q) ?_
    unfold applyWr
    rw [hold]
    exact hF4
end Go.Proofs.YtpmebahhjgkflaaGreatDoor

/- Rules of maps with ints for keys (CfP turned). -/
namespace Go.Proofs.YtpmebahhjgkflaaGreatDoor.CF
open Go Go.RowKit
set_option maxRecDepth 100000

/-- all keys are strings -/
def IKeys (es : List MapEntry) : Prop := ∀ e ∈ es, ∃ s, e.key = .int .i64 s
def iidx : List MapEntry → Int → Nat → Option (Nat × Value)
  | [], _, _ => none
  | e :: r, s, i => match e.key with
    | .int .i64 t => if s = t then some (i, e.val) else iidx r s (i + 1)
    | _ => iidx r s (i + 1)
def iget (es : List MapEntry) (s : Int) : Option Value := (iidx es s 0).map (·.2)
theorem findNow_int {s : Int} : ∀ {es : List MapEntry} (i : Nat), IKeys es → Instr.findNow (.int .i64) (.int .i64 s) es i = some (iidx es s i)
  | [], _, _ => rfl
  | e :: r, i, h => by
    obtain ⟨t, ht⟩ := h e (by simp)
    have ih := findNow_int (s := s) (i + 1) (fun x hx => h x (by simp [hx]) : IKeys r)
    unfold Instr.findNow iidx
    rw [ht]
    simp only [Instr.sameNow]
    by_cases e : s = t
    · have : (s == t) = true := beq_iff_eq.2 e
      simp only [if_true, this]
      simp only [if_pos e]
    · have : (s == t) = false := Bool.eq_false_iff.2 fun q => e (beq_iff_eq.1 q)
      simp only [if_true, this]
      simp only [if_neg e]
      exact ih
/-- a map that holds these values -/
def IMap (w : World) (b : Nat) (m : Int → Option Value) : Prop :=
  ∃ es clock, w.heap[b]? = some (.map es clock) ∧ IKeys es.toList ∧ ∀ s, iget es.toList s = m s
theorem IMap.keep {S : Nat → Prop} {w w' : World} {b : Nat} {m : Int → Option Value} (h : IMap w b m) (k : Keep S w w') (hn : ¬ S b) : IMap w' b m := by
  obtain ⟨es, c, h1, h2⟩ := h
  exact ⟨es, c, k.heap h1 hn, h2⟩
section
variable {P : Program} {w : World} {b : Nat} {m : Int → Option Value} {t k e : TypeId}
theorem irun_getMap {es : Array MapEntry} {clock : Nat} (h : w.heap[b]? = some (.map es clock)) : (getObj b).run P w = .ok (.map es clock) w := by
  simp [getObj, Sem.run, h]
theorem checkKey_i (ek : Bool) (n : Nat) (hk : P.underlying k = some (.int .i64)) (s : Int) : (Instr.checkKey ek (n + 1) k (.int .i64 s)).run P w = .ok () w := by
  unfold Instr.checkKey
  simp [run_underlying hk]
theorem findKey_int {es : List MapEntry} (hk : P.underlying k = some (.int .i64)) (hs : IKeys es) (s : Int) : (Instr.findKey k (.int .i64 s) es).run P w = .ok (iidx es s 0) w := by
  unfold Instr.findKey
  simp [run_underlying hk, findNow_int 0 hs]
theorem ilook_rule (ht : P.underlying t = some (.map k e)) (hk : P.underlying k = some (.int .i64)) {zv : Value} (hz : (zeroValue e).run P w = .ok zv w) (h : IMap w b m) (s : Int) :
    (Instr.lookup t (.map (some b)) (.int .i64 s) true).run P w = .ok (.tuple #[(m s).getD zv, .bool (m s).isSome]) w ∧
    (Instr.lookup t (.map (some b)) (.int .i64 s) false).run P w = .ok ((m s).getD zv) w := by
  obtain ⟨es, c, hb, hs, hm⟩ := h
  have := hm s
  unfold iget at this
  unfold Instr.lookup
  constructor
  · cases hi : iidx es.toList s 0 with
    | none =>
      rw [hi] at this
      simp only [Option.map_none] at this
      rw [← this]
      simp [run_underlying ht, irun_getMap hb, checkKey_i _ _ hk, findKey_int hk hs, hi, hz]
    | some p =>
      rw [hi] at this
      simp only [Option.map_some] at this
      rw [← this]
      simp [run_underlying ht, irun_getMap hb, checkKey_i _ _ hk, findKey_int hk hs, hi]
  · cases hi : iidx es.toList s 0 with
    | none =>
      rw [hi] at this
      simp only [Option.map_none] at this
      rw [← this]
      simp [run_underlying ht, irun_getMap hb, checkKey_i _ _ hk, findKey_int hk hs, hi, hz]
    | some p =>
      rw [hi] at this
      simp only [Option.map_some] at this
      rw [← this]
      simp [run_underlying ht, irun_getMap hb, checkKey_i _ _ hk, findKey_int hk hs, hi]
end
end Go.Proofs.YtpmebahhjgkflaaGreatDoor.CF

/- Layer 3: the world's calls; a plan: the numbers of the calls that fail. -/
namespace Go.Proofs.YtpmebahhjgkflaaGreatDoor
open Go CF
set_option maxRecDepth 100000

/-- what waits -/
structure Cg where
  kind : Int
  name : ByteArray
  to : ByteArray
  off : Nat
  p : L8
def cgv (x : Cg × Sl) : List Value := [.int .u8 x.1.kind, .string x.1.name, .string x.1.to, .int .i64 (x.1.off : Int), .slice x.2.A x.2.n x.2.c]
theorem cgv_len (x : Cg × Sl) : (cgv x).length = 5 := rfl
/-- a world as it is meant: no call fails -/
structure Wst where
  seen : Files
  dur : Files
  waits : List Cg
  ops : Nat
/-- a plan: the map that holds it, the calls that fail -/
structure Pl where
  mf : Option Nat
  F : Int → Bool
def PlanAt (w : World) (pl : Pl) : Prop := match pl.mf with
  | none => ∀ n, pl.F n = false
  | some b => ∃ m, IMap w b m ∧ ∀ n, (m n).getD (.bool false) = .bool (pl.F n)
def noPlan : Pl := ⟨none, fun _ => false⟩
theorem PlanAt.keep {S : Nat → Prop} {w w' : World} {pl : Pl} (h : PlanAt w pl) (k : Keep S w w') (hn : ∀ b, pl.mf = some b → ¬ S b) : PlanAt w' pl := by
  obtain ⟨mf, F⟩ := pl
  cases mf with
  | none => exact h
  | some b =>
    obtain ⟨m, h1, h2⟩ := h
    exact ⟨m, h1.keep k (hn b rfl), h2⟩
theorem PlanAt.map {w : World} {pl : Pl} (h : PlanAt w pl) {b : Nat} (hb : pl.mf = some b) : ∃ es c, w.heap[b]? = some (.map es c) := by
  obtain ⟨mf, F⟩ := pl
  simp only at hb
  subst hb
  obtain ⟨m, ⟨es, c, h1, _⟩, _⟩ := h
  exact ⟨es, c, h1⟩
def wcells (mf : Option Nat) (mb md : Nat) (ws : Sl) (ops : Nat) : Array Value := #[.map (some mb), .map (some md), .slice ws.A ws.n ws.c, .int .i64 (ops : Int), .map mf, .int .i64 (-1), .bool false]
/-- the world lies at a block; D: the blocks that it may write over -/
structure IsWd (w : World) (pw : Nat) (D : Nat → Prop) (st : Wst) (pl : Pl) (mb md : Nat) (ws : Sl) (cs : List (Cg × Sl)) : Prop where
  blk : Blk w pw (wcells pl.mf mb md ws st.ops) t_world_World
  seen : IsF w mb st.seen
  dur : IsF w md st.dur
  ne : mb ≠ md
  own : Own w 0 t_world_change 5 ws (cs.flatMap cgv)
  waits : cs.map (·.1) = st.waits
  rows : ∀ c ∈ cs, Own w 0 t_uint8 1 c.2 (bv c.1.p)
  dw : D pw
  db : D mb
  dd : D md
  ds : ∀ g, ws.blk = some g → D g
  lt : ∀ k, D k → k < w.heap.size
  nb : NoBytes w D
  plan : PlanAt w pl
  dp : ∀ b, pl.mf = some b → D b
  np : pl.mf ≠ some mb ∧ pl.mf ≠ some md
/-- a world whose calls of these numbers fail -/
def IsWq (w : World) (pw : Nat) (D : Nat → Prop) (st : Wst) (F : Int → Bool) : Prop := ∃ pl, pl.F = F ∧ ∃ mb md ws cs, IsWd w pw D st pl mb md ws cs
def quiet : Int → Bool := fun _ => false
abbrev IsW (w : World) (pw : Nat) (D : Nat → Prop) (st : Wst) : Prop := IsWq w pw D st quiet
theorem IsWd.keep {S : Nat → Prop} {w w' : World} {pw : Nat} {D : Nat → Prop} {st : Wst} {pl : Pl} {mb md : Nat} {ws : Sl} {cs : List (Cg × Sl)} (h : IsWd w pw D st pl mb md ws cs) (k : Keep S w w') (hd : ∀ k, D k → ¬ S k) (hs : NoBytes w S) :
    IsWd w' pw D st pl mb md ws cs := by
  have hsz := k.size
  refine ⟨k.heap h.blk (hd _ h.dw), h.seen.keep k (hd _ h.db) hs, h.dur.keep k (hd _ h.dd) hs, h.ne, h.own.keep k fun b hb => hd _ (h.ds b hb), h.waits, fun c hc => (h.rows c hc).keep k fun b hb => ?_, h.dw, h.db, h.dd, h.ds, fun k hk => by have := h.lt k hk; omega, fun g cur hg q => ?_, h.plan.keep k fun b hb => hd _ (h.dp b hb), h.dp, h.np⟩
  · obtain ⟨cur, hcur⟩ := own_heap (h.rows c hc) hb
    exact hs b cur hcur
  · have hlt := h.lt g q
    have := k.block g hlt (hd g q)
    exact h.nb g cur (by rw [← this]; exact hg) q
theorem IsW.q {w : World} {pw : Nat} {D : Nat → Prop} {st : Wst} (h : IsW w pw D st) : IsWq w pw D st quiet := h
theorem IsWq.isW {w : World} {pw : Nat} {D : Nat → Prop} {st : Wst} (h : IsWq w pw D st quiet) : IsW w pw D st := h
theorem IsWq.keep {S : Nat → Prop} {w w' : World} {pw : Nat} {D : Nat → Prop} {st : Wst} {F : Int → Bool} (h : IsWq w pw D st F) (k : Keep S w w') (hd : ∀ k, D k → ¬ S k) (hs : NoBytes w S) : IsWq w' pw D st F := by
  obtain ⟨pl, hq, mb, md, ws, cs, h⟩ := h
  exact ⟨pl, hq, mb, md, ws, cs, h.keep k hd hs⟩
theorem IsWq.grow {w w' : World} {pw : Nat} {D : Nat → Prop} {st : Wst} {F : Int → Bool} (h : IsWq w pw D st F) (k : Grow w w') : IsWq w' pw D st F := h.keep k (fun _ _ q => q) (nobytes_none w)
/-- a world made -/
theorem world_new_spec {w : World} {R : Option Addr → World → Prop}
    (h : ∀ pw D w', Grow w w' → IsW w' pw D ⟨fun _ => none, fun _ => none, [], 0⟩ → (∀ k, D k → w.heap.size ≤ k) → R (some ⟨pw, 0, none⟩) w') : Cworld_New w R := by
  refine Fworld_New.calls _ _ ?_
  rintro mb w1 rfl rfl
  rintro md w2 rfl rfl
  refine new_rule fun pw w3 hpw hb3 hg3 hsz3 => ?_
  have hg1 := keep_alloc w (.map #[] 0)
  have hg2 := keep_alloc (w.alloc (.map #[] 0)) (.map #[] 0)
  have s1 : (w.alloc (.map #[] 0)).heap.size = w.heap.size + 1 := by simp
  have s2 : ((w.alloc (.map #[] 0)).alloc (.map #[] 0)).heap.size = w.heap.size + 2 := by simp
  have f1 : IsF w3 w.heap.size fun _ => none := ((isF_new w).grow hg2).grow hg3
  have f2 : IsF w3 (w.alloc (.map #[] 0)).heap.size fun _ => none := (isF_new _).grow hg3
  refine h pw (fun k => k = pw ∨ k = w.heap.size ∨ k = (w.alloc (.map #[] 0)).heap.size) w3 ((hg1.trans hg2).trans hg3) ⟨noPlan, rfl, w.heap.size, (w.alloc (.map #[] 0)).heap.size, ⟨none, 0, 0⟩, [], ?_⟩ fun k hk => by omega
  refine ⟨hb3, f1, f2, by omega, own_nil _ _ _ _, rfl, fun c hc => (by cases hc), .inl rfl, .inr (.inl rfl), .inr (.inr rfl), fun g hg => (by simp [Sl.blk] at hg), fun k hk => (by omega), fun g cur hg q => ?_, fun _ => rfl, fun b hb => (by cases hb), ⟨fun q => (by cases q), fun q => (by cases q)⟩⟩
  rcases q with rfl | rfl | rfl
  · rw [hb3] at hg
    injection hg with hg
    injection hg with _ ht
    exact absurd ht (by decide)
  · exact isF_map f1 _ _ _ hg
  · exact isF_map f2 _ _ _ hg
theorem checkKey_int {P : Program} {w : World} {k : TypeId} {q : IntKind} (ek : Bool) (n : Nat) (hk : P.underlying k = some (.int q)) (z : Int) : (Instr.checkKey ek (n + 1) k (.int q z)).run P w = .ok () w := by
  unfold Instr.checkKey
  simp [run_underlying hk]
theorem nil_look (w : World) (n : Int) : (Instr.lookup t_map_int_bool (.map none) (.int .i64 n) false).run Tryz.prog w = .ok (.bool false) w := by
  have hf : (Instr.findKey 3 (.int .i64 n) []).run Tryz.prog w = .ok none w := by
    unfold Instr.findKey
    simp [run_underlying u_int, Instr.findNow]
  unfold Instr.lookup
  simp [run_underlying u_map_int_bool, checkKey_int _ _ u_int, hf, zero_rule i_bool]
theorem plan_look {w : World} {pl : Pl} (h : PlanAt w pl) (n : Int) : (Instr.lookup t_map_int_bool (.map pl.mf) (.int .i64 n) false).run Tryz.prog w = .ok (.bool (pl.F n)) w := by
  obtain ⟨mf, F⟩ := pl
  cases mf with
  | none =>
    have e : F n = false := h n
    show _ = Result.ok (Value.bool (F n)) w
    rw [e]; exact nil_look _ _
  | some b =>
    obtain ⟨m, h1, h2⟩ := h
    have := (ilook_rule (P := Tryz.prog) u_map_int_bool u_int (zero_rule i_bool (w := w)) h1 n).2
    rw [h2 n] at this
    exact this
/-- a counted call -/
theorem call_any {w : World} {pw : Nat} {D : Nat → Prop} {st : Wst} {pl : Pl} {mb md : Nat} {ws : Sl} {cs : List (Cg × Sl)} {R : Int → World → Prop} (hw : IsWd w pw D st pl mb md ws cs) (ho : st.ops < 1000000000000)
    (h : ∀ w', Keep (fun k => k = pw) w w' → IsWd w' pw D { st with ops := st.ops + 1 } pl mb md ws cs → R (if pl.F (st.ops : Int) then 6 else 0) w') : Cworld_World_call (some ⟨pw, 0, none⟩) w R := by
  refine Fworld_World_call.calls _ _ _ ?_
  have hb := hw.blk
  refine ⟨rfl, false, by rw [gA, add0, hb.cell]; rfl, br_f rfl ⟨rfl, (st.ops : Int), by rw [gA, add0, hb.cell]; rfl, rfl, (st.ops : Int), by rw [gA, add0, hb.cell]; rfl, rfl, ?_⟩⟩
  rw [w64 (by omega) (by omega)]
  rw [gA, add0]
  refine put_rule hb (by show 3 < 7; decide) rfl fun w1 hb1 hk1 hsz1 => ?_
  have hb1 : Blk w1 pw (wcells pl.mf mb md ws (st.ops + 1)) t_world_World := hb1
  have fin : IsWd w1 pw D { st with ops := st.ops + 1 } pl mb md ws cs := by
    have nbp : NoBytes w fun k => k = pw := fun g cur hg q => hw.nb g cur hg (by subst q; exact hw.dw)
    have nm : mb ≠ pw := fun q => isF_map hw.seen _ _ _ (by rw [q]; exact hb)
    have nd : md ≠ pw := fun q => isF_map hw.dur _ _ _ (by rw [q]; exact hb)
    refine ⟨hb1, hw.seen.keep hk1 nm nbp, hw.dur.keep hk1 nd nbp, hw.ne, hw.own.keep hk1 fun b hb2 q => ?_, hw.waits, fun c hc => (hw.rows c hc).keep hk1 fun b hb2 => ?_, hw.dw, hw.db, hw.dd, hw.ds, fun k hk => by have := hw.lt k hk; omega, fun g cur hg q => ?_,
      hw.plan.keep hk1 fun b hb2 q => ?_, hw.dp, hw.np⟩
    · obtain ⟨cur, hc⟩ := own_heap hw.own hb2
      subst q
      rw [hb] at hc
      injection hc with hc
      injection hc with _ ht
      exact absurd ht (by decide)
    · obtain ⟨cur, hc2⟩ := own_heap (hw.rows c hc) hb2
      exact nbp b cur hc2
    · by_cases e : g = pw
      · subst e
        rw [hb1] at hg
        injection hg with hg
        injection hg with _ ht
        exact absurd ht (by decide)
      · exact hw.nb g cur (by rw [← hk1.block g (hw.lt g q) e]; exact hg) q
    · subst q
      obtain ⟨es, c, hm⟩ := hw.plan.map hb2
      rw [hb] at hm
      cases hm
  refine ⟨rfl, -1, by rw [add0, hb1.cell]; rfl, br_f (by rw [beq_eq_false_iff_ne]; omega) ⟨rfl, pl.mf, by rw [add0, hb1.cell]; rfl, pl.F (st.ops : Int), plan_look fin.plan _, ?_⟩⟩
  have := h w1 hk1 fin
  cases hf : pl.F (st.ops : Int) with
  | false => rw [hf] at this; exact br_f rfl this
  | true => rw [hf] at this; exact br_t rfl this
end Go.Proofs.YtpmebahhjgkflaaGreatDoor

/- Layer 3: changes, writes. -/
namespace Go.Proofs.YtpmebahhjgkflaaGreatDoor
open Go CF
set_option maxRecDepth 100000

theorem blk_cells {w : World} {b : Nat} {l : List Value} {t : TypeId} (h : Blk w b l.toArray t) : Cells w ⟨b, 0, none⟩ l := fun j v hj => by
  rw [add0, h.cell]; simpa using hj
theorem blk_type {w : World} {b : Nat} {cs cs' : Array Value} {t t' : TypeId} {f : Nat × Nat} (h : Blk w b cs t) (h' : w.heap[b]? = some (.cells cs' t' f)) : t = t' := by
  rw [h] at h'
  injection h' with h'
  injection h'
theorem own_ne {w : World} {base : Nat} {e : TypeId} {z : Nat} {s : Sl} {vs : List Value} (h : Own w base e z s vs) {b : Nat} {cs : Array Value} {t : TypeId} (hb : Blk w b cs t) (hne : t ≠ e) : s.blk ≠ some b := fun q => by
  obtain ⟨cur, hc⟩ := own_heap h q
  exact hne (blk_type hb hc)
section
variable {w w' : World} {pw : Nat} {D : Nat → Prop} {st : Wst} {pl : Pl} {mb md : Nat} {ws : Sl} {cs : List (Cg × Sl)}
theorem IsWd.pm (h : IsWd w pw D st pl mb md ws cs) : mb ≠ pw ∧ md ≠ pw := ⟨fun q => isF_map h.seen _ _ _ (by rw [q]; exact h.blk), fun q => isF_map h.dur _ _ _ (by rw [q]; exact h.blk)⟩
theorem IsWd.wm (h : IsWd w pw D st pl mb md ws cs) : ws.blk ≠ some mb ∧ ws.blk ≠ some md ∧ ws.blk ≠ some pw := by
  refine ⟨fun q => ?_, fun q => ?_, own_ne h.own h.blk (by decide)⟩
  · obtain ⟨cur, hc⟩ := own_heap h.own q; exact isF_map h.seen _ _ _ hc
  · obtain ⟨cur, hc⟩ := own_heap h.own q; exact isF_map h.dur _ _ _ hc
theorem nb_set {S : Nat → Prop} (h : NoBytes w D) (hl : ∀ k, D k → k < w.heap.size) (k : Keep S w w') (hs : ∀ g cur, S g → w'.heap[g]? ≠ some (.cells cur t_uint8 (0, 0))) : NoBytes w' D := fun g cur hg q => by
  by_cases e : S g
  · exact hs g cur e hg
  · exact h g cur (by rw [← k.block g (hl g q) e]; exact hg) q
theorem IsWd.setSeen {F : Files} (h : IsWd w pw D st pl mb md ws cs) (k : Keep (fun k => k = mb) w w') (hF : IsF w' mb F) : IsWd w' pw D { st with seen := F } pl mb md ws cs := by
  have hsz := k.size
  have nb := nobytes_map h.seen
  refine ⟨k.heap h.blk (fun q => h.pm.1 q.symm), hF, h.dur.keep k (fun q => h.ne q.symm) nb, h.ne, h.own.keep k fun b hb q => h.wm.1 (by rw [hb, q]), h.waits, fun c hc => (h.rows c hc).keep k fun b hb => ?_, h.dw, h.db, h.dd, h.ds, fun k hk => (by have := h.lt k hk; omega), nb_set h.nb h.lt k fun g cur q hg => ?_, h.plan.keep k fun b hb q => h.np.1 (by rw [hb, q]), h.dp, h.np⟩
  · obtain ⟨cur, hcur⟩ := own_heap (h.rows c hc) hb
    exact nb b cur hcur
  · subst q; exact isF_map hF _ _ _ hg
theorem IsWd.setDur {F : Files} (h : IsWd w pw D st pl mb md ws cs) (k : Keep (fun k => k = md) w w') (hF : IsF w' md F) : IsWd w' pw D { st with dur := F } pl mb md ws cs := by
  have hsz := k.size
  have nb := nobytes_map h.dur
  refine ⟨k.heap h.blk (fun q => h.pm.2 q.symm), h.seen.keep k (fun q => h.ne q) nb, hF, h.ne, h.own.keep k fun b hb q => h.wm.2.1 (by rw [hb, q]), h.waits, fun c hc => (h.rows c hc).keep k fun b hb => ?_, h.dw, h.db, h.dd, h.ds, fun k hk => (by have := h.lt k hk; omega), nb_set h.nb h.lt k fun g cur q hg => ?_, h.plan.keep k fun b hb q => h.np.2 (by rw [hb, q]), h.dp, h.np⟩
  · obtain ⟨cur, hcur⟩ := own_heap (h.rows c hc) hb
    exact nb b cur hcur
  · subst q; exact isF_map hF _ _ _ hg
/-- the row of what waits, changed: the world's block tells it -/
theorem IsWd.setWaits {w1 w2 : World} {ws' : Sl} {cs' : List (Cg × Sl)} (h : IsWd w pw D st pl mb md ws cs) (k : Keep (fun k => some k = ws.blk) w w1) (hown : Own w1 0 t_world_change 5 ws' (cs'.flatMap cgv)) (hat : ws'.blk = ws.blk ∨ ws'.blk = some w.heap.size ∨ ws'.blk = none)
    (hr : ∀ c ∈ cs', Own w 0 t_uint8 1 c.2 (bv c.1.p)) (hb : Blk w2 pw (wcells pl.mf mb md ws' st.ops) t_world_World) (k2 : Keep (fun k => k = pw) w1 w2) :
    IsWd w2 pw (fun k => ((k = pw ∨ k = mb ∨ k = md) ∨ some k = ws'.blk) ∨ pl.mf = some k) { st with waits := cs'.map (·.1) } pl mb md ws' cs' ∧ Keep D w w2 ∧ ∀ k, (((k = pw ∨ k = mb ∨ k = md) ∨ some k = ws'.blk) ∨ pl.mf = some k) → D k ∨ w.heap.size ≤ k := by
  have hsz := k.size
  have hsz2 := k2.size
  have nb1 : NoBytes w fun k => some k = ws.blk := fun g cur hg q => h.nb g cur hg (h.ds g q.symm)
  have hb1 : Blk w1 pw (wcells pl.mf mb md ws st.ops) t_world_World := k.heap h.blk fun q => h.wm.2.2 q.symm
  have hwp : ws'.blk ≠ some pw := own_ne hown hb1 (by decide)
  have f1 := h.seen.keep k (fun q => h.wm.1 q.symm) nb1
  have d1 := h.dur.keep k (fun q => h.wm.2.1 q.symm) nb1
  have nb2 : NoBytes w1 fun k => k = pw := fun g cur hg q => by
    subst q; exact absurd (blk_type hb1 hg) (by decide)
  have f2 := f1.keep k2 h.pm.1 nb2
  have d2 := d1.keep k2 h.pm.2 nb2
  have o2 : Own w2 0 t_world_change 5 ws' (cs'.flatMap cgv) := hown.keep k2 fun b hb3 q => hwp (by rw [hb3, q])
  refine ⟨⟨hb, f2, d2, h.ne, o2, rfl, fun c hc => ((hr c hc).keep k fun b hb3 => ?_).keep k2 fun b hb3 => ?_, .inl (.inl (.inl rfl)), .inl (.inl (.inr (.inl rfl))), .inl (.inl (.inr (.inr rfl))), fun g hg => .inl (.inr hg.symm), fun j hj => ?_, fun g cur hg q => ?_, (h.plan.keep k fun b hb3 q => ?_).keep k2 fun b hb3 q => ?_, fun b hb3 => .inr hb3, h.np⟩,
    (k.mono fun i _ q => h.ds i q.symm).trans k2 fun i _ q => (by subst q; exact h.dw), fun j hj => ?_⟩
  · obtain ⟨cur, hcur⟩ := own_heap (hr c hc) hb3
    exact nb1 b cur hcur
  · have hc1 : Own w1 0 t_uint8 1 c.2 (bv c.1.p) := (hr c hc).keep k fun b hb4 => by
      obtain ⟨cur, hcur⟩ := own_heap (hr c hc) hb4
      exact nb1 b cur hcur
    obtain ⟨cur, hcur⟩ := own_heap hc1 hb3
    exact nb2 b cur hcur
  · rcases hj with ((q | q | q) | q) | q
    · have := lt_of_heap h.blk; omega
    · have := isF_lt f2; omega
    · have := isF_lt d2; omega
    · have := (hown.ge j q.symm).2; omega
    · obtain ⟨es, c, hm⟩ := h.plan.map q
      have := lt_of_heap hm; omega
  · rcases q with ((q | q | q) | q) | q
    · subst q; exact absurd (blk_type hb hg) (by decide)
    · subst q; exact isF_map f2 _ _ _ hg
    · subst q; exact isF_map d2 _ _ _ hg
    · obtain ⟨cur', hc'⟩ := own_heap o2 q.symm
      rw [hc'] at hg
      injection hg with hg
      injection hg with _ ht
      exact absurd ht (by decide)
    · obtain ⟨es, c, hm⟩ := h.plan.map q
      have hg2 : w2.heap[g]? = w.heap[g]? := by
        have hlt := lt_of_heap hm
        rw [k2.block g (by omega) (fun e => by subst e; rw [h.blk] at hm; cases hm), k.block g hlt (fun e => by
          obtain ⟨cur', hc'⟩ := own_heap h.own e.symm
          rw [hc'] at hm; cases hm)]
      rw [hg2, hm] at hg
      cases hg
  · obtain ⟨es, c, hm⟩ := h.plan.map hb3
    obtain ⟨cur', hc'⟩ := own_heap h.own q.symm
    rw [hc'] at hm; cases hm
  · obtain ⟨es, c, hm⟩ := h.plan.map hb3
    subst q
    rw [h.blk] at hm; cases hm
  · rcases hj with ((q | q | q) | q) | q
    · exact .inl (q ▸ h.dw)
    · exact .inl (q ▸ h.db)
    · exact .inl (q ▸ h.dd)
    · rcases hat with r | r | r
      · exact .inl (h.ds j (by rw [← r]; exact q.symm))
      · rw [r] at q; injection q with q; exact .inr (by omega)
      · rw [r] at q; cases q
    · exact .inl (h.dp j q)
end
theorem cgv_flat (l : List (Cg × Sl)) : (l.flatMap cgv).length = l.length * 5 := flat_length cgv_len l
theorem do_w_any {w : World} {pw : Nat} {D : Nat → Prop} {st : Wst} {F : Int → Bool} {name : ByteArray} {off : Nat} {p : Sl} {bs : L8} {R : Int → World → Prop} (hw : IsWq w pw D st F) (hp : Own w 0 t_uint8 1 p (bv bs)) (hb : off + bs.length ≤ 1048576)
    (ho : st.ops < 1000000000000) (hn : st.waits.length < 1000000000)
    (h : F (st.ops : Int) = false → ∀ w' D', Keep D w w' → IsWq w' pw D' ⟨applyWr st.seen name off bs, st.dur, st.waits ++ [⟨119, name, ⟨#[]⟩, off, bs⟩], st.ops + 1⟩ F → (∀ k, D' k → D k ∨ w.heap.size ≤ k) → R 0 w')
    (hbad : F (st.ops : Int) = true → ∀ w', Keep D w w' → IsWq w' pw D { st with ops := st.ops + 1 } F → R 6 w') :
    Cworld_World_do (some ⟨pw, 0, none⟩) #[.int .u8 119, .string name, .string ⟨#[]⟩, .int .i64 (off : Int), .slice p.A p.n p.c] w R := by
  obtain ⟨pl, hF, mb, md, ws, cs, hw⟩ := hw
  subst hF
  refine Fworld_World_do.calls _ _ _ _ ?_
  generalize hx : ((⟨119, name, ⟨#[]⟩, off, bs⟩, p) : Cg × Sl) = x
  have hxv : (#[.int .u8 119, .string name, .string ⟨#[]⟩, .int .i64 (off : Int), .slice p.A p.n p.c] : Array Value) = (cgv x).toArray := by subst hx; rfl
  refine new_rule fun cb w0 hcb hb0 hg0 hsz0 => ?_
  rw [hxv] at hb0
  have hb0 : Blk w0 cb (cgv x).toArray t_world_change := hb0
  have hw0 := hw.keep hg0 (fun _ _ q => q) (nobytes_none w)
  refine call_any hw0 ho fun w1 hk1 hw1 => ?_
  cases hfl : pl.F (st.ops : Int) with
  | true => exact br_t rfl (hbad hfl w1 ((hg0.mono (S' := D) fun _ _ q => q.elim).trans hk1 fun _ _ q => (by subst q; exact hw.dw)) ⟨pl, rfl, mb, md, ws, cs, hw1⟩)
  | false =>
  refine br_f rfl ?_
  have hcp : cb ≠ pw := fun q => by have := lt_of_heap hw.blk; omega
  have hb1 := hk1.heap hb0 hcp
  rintro w2 rfl
  have hg2 : Grow w1 w1.drew := keep_drew w1
  have hw2 := hw1.keep hg2 (fun _ _ q => q) (nobytes_none w1)
  have hb2 := hg2.heap hb1 (fun q => q)
  have c4 : ∀ {u : World}, Blk u cb (cgv x).toArray t_world_change → u.cell? ((⟨cb, 0, none⟩ : Addr).add 4) = some (.slice p.A p.n p.c) := fun q => by subst hx; rw [add0, q.cell]; rfl
  have lv : ∀ {u : World}, Blk u cb (cgv x).toArray t_world_change → (loadVar t_world_change ⟨cb, 0, none⟩).run Tryz.prog u = .ok (.agg (cgv x).toArray) u := fun q => loadVar_rule g_world_change i_world_change rfl (blk_cells q)
  have hpn : bs.length = p.n := by have := hp.len; rw [bv_length] at this; omega
  have hp0 : Own w0 0 t_uint8 1 p (bv bs) := hp.grow hg0
  have nbp : ∀ {u : World} {st' : Wst} {ws' : Sl} {cs' : List (Cg × Sl)} {D' : Nat → Prop}, IsWd u pw D' st' pl mb md ws' cs' → NoBytes u fun k => k = pw := fun q g cur hg e => by subst e; exact absurd (blk_type q.blk hg) (by decide)
  have okeep : ∀ {u u' : World} {S : Nat → Prop}, Own u 0 t_uint8 1 p (bv bs) → Keep S u u' → NoBytes u S → Own u' 0 t_uint8 1 p (bv bs) := fun q k nb => q.keep k fun b hb3 => by
    obtain ⟨cur, hc⟩ := own_heap q hb3
    exact nb b cur hc
  have hp2 : Own w1.drew 0 t_uint8 1 p (bv bs) := (okeep hp0 hk1 (nbp hw0)).grow hg2
  refine ⟨fun u => Blk u pw (wcells pl.mf mb md ws (st.ops + 1)) t_world_World ∧ Blk u cb (cgv x).toArray t_world_change, ⟨hw2.blk, hb2⟩, rfl, some mb, fun u hu => by rw [gA, add0, hu.1.cell]; rfl, (cgv x).toArray, fun u hu => lv hu.2, p, fun u hu => c4 hu.2, ?_⟩
  rw [← hxv]
  refine apply_w_spec hw2.seen (hp2.rd (by omega)) hb fun w3 hk3 hF3 => ?_
  have hw3 := hw2.setSeen hk3 hF3
  rw [List.take_of_length_le (by omega)] at hw3 hF3
  have hb3 : Blk w3 cb (cgv x).toArray t_world_change := hk3.heap hb2 fun q => isF_map hw2.seen _ _ _ (by rw [← q]; exact hb2)
  have hp3 := okeep hp2 hk3 (nobytes_map hw2.seen)
  rintro w4 rfl
  have hg4 : Grow w3 w3.drew := keep_drew w3
  have hw4 := hw3.keep hg4 (fun _ _ q => q) (nobytes_none w3)
  have hb4 := hg4.heap hb3 (fun q => q)
  have hlen : cs.length = st.waits.length := by rw [← hw.waits, List.length_map]
  have hwn : ws.n = cs.length := by have := hw.own.len; rw [cgv_flat] at this; omega
  refine ⟨fun u => Blk u pw (wcells pl.mf mb md ws (st.ops + 1)) t_world_World ∧ Blk u cb (cgv x).toArray t_world_change, ⟨hw4.blk, hb4⟩, rfl, ws, fun u hu => by rw [gA, add0, hu.1.cell]; rfl, (cgv x).toArray, fun u hu => lv hu.2, ?_⟩
  refine lit_rule (cells := (cgv x).toArray) (e := t_world_change) (z := 5) (base := 0) (by subst hx; kernel_rfl) rfl (by decide) (Nat.zero_le _) fun w5 hlit5 hg5 _ => ⟨⟨hg5.heap hw4.blk (fun q => q), hg5.heap hb4 (fun q => q)⟩, ?_⟩
  have hw5 := hw4.keep hg5 (fun _ _ q => q) (nobytes_none _)
  refine append_rule u_sl_world_change i_world_change rfl (by decide) (by decide) hw5.own (hlit5.rd (by show 1 ≤ _; decide)) (by subst hx; simp [cgv, Value.oneCell']) (by show (ws.n + 1) * 72 ≤ _; omega) (Nat.zero_le _) fun ws' w6 hn6 hown6 hk6 hat6 => ?_
  have hb6 : Blk w6 pw (wcells pl.mf mb md ws (st.ops + 1)) t_world_World := hk6.heap hw5.blk fun q => hw5.wm.2.2 q.symm
  refine ⟨rfl, ?_⟩
  rw [gA, add0]
  refine put_rule hb6 (by show 2 < 7; decide) rfl fun w7 hb7 hk7 hsz7 => ?_
  have hrows : ∀ c ∈ cs ++ [x], Own w5 0 t_uint8 1 c.2 (bv c.1.p) := fun c hc => by
    rcases List.mem_append.1 hc with q | q
    · exact hw5.rows c q
    · rw [List.mem_singleton.1 q]; subst hx; exact (hp3.grow hg4).grow hg5
  have hown6' : Own w6 0 t_world_change 5 ws' ((cs ++ [x]).flatMap cgv) := by
    rw [List.flatMap_append]
    simpa using hown6
  have hfin := hw5.setWaits (w1 := w6) (w2 := w7) (ws' := ws') (cs' := cs ++ [x]) hk6 hown6' (hat6.imp id .inl) hrows hb7 hk7
  have hKD : Keep D w w7 := by
    have k1 : Keep D w w1.drew := ((hg0.mono (S' := D) fun _ _ q => q.elim).trans hk1 fun _ _ q => (by subst q; exact hw.dw)).trans hg2 fun _ _ q => q.elim
    have k2 : Keep D w w5 := ((k1.trans hk3 fun _ _ q => (by subst q; exact hw.db)).trans hg4 fun _ _ q => q.elim).trans hg5 fun _ _ q => q.elim
    exact k2.trans hfin.2.1 fun _ _ q => q
  refine h hfl w7 (fun k => ((k = pw ∨ k = mb ∨ k = md) ∨ some k = ws'.blk) ∨ pl.mf = some k) hKD ⟨pl, rfl, mb, md, ws', cs ++ [x], ?_⟩ fun k hk => ?_
  · have := hfin.1
    rw [List.map_append, hw.waits] at this
    subst hx
    exact this
  · rcases hfin.2.2 k hk with q | q
    · exact .inl q
    · have h1 := hg0.size
      have h2 := hk1.size
      have h3 := hg2.size
      have h4 := hk3.size
      have h5 := hg4.size
      have h6 := hg5.size
      exact .inr (by omega)
end Go.Proofs.YtpmebahhjgkflaaGreatDoor

/- Layer 3: a world whose rows are old; what reads leave of it. -/
namespace Go.Proofs.YtpmebahhjgkflaaGreatDoor
open Go CF
set_option maxRecDepth 100000

/-- what of these blocks holds bytes is new -/
def NoBytesB (w : World) (S : Nat → Prop) (B : Nat) : Prop := ∀ g cur, w.heap[g]? = some (.cells cur t_uint8 (0, 0)) → S g → B ≤ g
theorem NoBytes.b {w : World} {S : Nat → Prop} (h : NoBytes w S) (B : Nat) : NoBytesB w S B := fun g cur hg q => absurd q (h g cur hg)
def FileAtB (w : World) (B : Nat) (v : Option Value) (l : Option L8) : Prop := FileAt w v l ∧ ∀ s : Sl, v = some (.slice s.A s.n s.c) → ∀ b, s.blk = some b → b < B
theorem FileAtB.keep {S : Nat → Prop} {w w' : World} {B : Nat} {v : Option Value} {l : Option L8} (h : FileAtB w B v l) (k : Keep S w w') (hn : NoBytesB w S B) : FileAtB w' B v l := by
  refine ⟨?_, h.2⟩
  cases l with
  | none => exact h.1
  | some l =>
    obtain ⟨⟨s, h1, h2, h3⟩, hB⟩ := h
    refine ⟨s, h1, h2.keep k fun b hb q => ?_, h3⟩
    obtain ⟨cur, hc⟩ := own_heap h2 hb
    have := hn b cur hc q
    have := hB s h1 b hb
    omega
theorem FileAt.toB {w : World} {v : Option Value} {l : Option L8} (h : FileAt w v l) : FileAtB w w.heap.size v l := by
  refine ⟨h, fun s hs b hb => ?_⟩
  cases l with
  | none => rw [show v = none from h] at hs; cases hs
  | some l =>
    obtain ⟨s', h1, h2, _⟩ := h
    rw [h1] at hs
    injection hs with hs
    injection hs with hA hn hc
    have : s'.blk = some b := by rw [← hb]; simp [Sl.blk, hA]
    obtain ⟨cur, hc⟩ := own_heap h2 this
    exact lt_of_heap hc
def IsFB (w : World) (mb : Nat) (F : Files) (B : Nat) : Prop := ∃ m, SMap w mb m ∧ ∀ s, FileAtB w B (m s) (F s)
theorem IsFB.keep {S : Nat → Prop} {w w' : World} {mb B : Nat} {F : Files} (h : IsFB w mb F B) (k : Keep S w w') (hm : ¬ S mb) (hn : NoBytesB w S B) : IsFB w' mb F B := by
  obtain ⟨m, h1, h2⟩ := h
  exact ⟨m, h1.keep k hm, fun s => (h2 s).keep k hn⟩
theorem IsFB.isF {w : World} {mb B : Nat} {F : Files} (h : IsFB w mb F B) : IsF w mb F := by
  obtain ⟨m, h1, h2⟩ := h
  exact ⟨m, h1, fun s => (h2 s).1⟩
theorem IsF.toB {w : World} {mb : Nat} {F : Files} (h : IsF w mb F) : IsFB w mb F w.heap.size := by
  obtain ⟨m, h1, h2⟩ := h
  exact ⟨m, h1, fun s => (h2 s).toB⟩
/-- the world's rows lie under B -/
def IsWBq (w : World) (pw : Nat) (D : Nat → Prop) (st : Wst) (F : Int → Bool) (B : Nat) : Prop := ∃ pl, pl.F = F ∧ ∃ mb md ws cs, IsWd w pw D st pl mb md ws cs ∧ IsFB w mb st.seen B ∧ IsFB w md st.dur B ∧ ∀ c ∈ cs, ∀ b, c.2.blk = some b → b < B
def IsWB (w : World) (pw : Nat) (D : Nat → Prop) (st : Wst) (B : Nat) : Prop := IsWBq w pw D st quiet B
section
variable {w u v : World} {pw B : Nat} {D S : Nat → Prop} {st : Wst} {F : Int → Bool} {k : Nat}
theorem IsWBq.isWq (h : IsWBq w pw D st F B) : IsWq w pw D st F := by
  obtain ⟨pl, hF, mb, md, ws, cs, h, _⟩ := h
  exact ⟨pl, hF, mb, md, ws, cs, h⟩
theorem IsWB.isW (h : IsWB w pw D st B) : IsW w pw D st := (IsWBq.isWq h).isW
theorem IsWq.toB (h : IsWq w pw D st F) : IsWBq w pw D st F w.heap.size := by
  obtain ⟨pl, hF, mb, md, ws, cs, h⟩ := h
  refine ⟨pl, hF, mb, md, ws, cs, h, h.seen.toB, h.dur.toB, fun c hc b hb => ?_⟩
  obtain ⟨cur, hcur⟩ := own_heap (h.rows c hc) hb
  exact lt_of_heap hcur
theorem IsW.toB (h : IsW w pw D st) : IsWB w pw D st w.heap.size := h.q.toB
theorem IsWBq.keep (h : IsWBq w pw D st F B) (k : Keep S w u) (hd : ∀ k, D k → ¬ S k) (hs : NoBytesB w S B) : IsWBq u pw D st F B := by
  obtain ⟨pl, hF, mb, md, ws, cs, h, f1, f2, f3⟩ := h
  have hsz := k.size
  have g1 := f1.keep k (hd _ h.db) hs
  have g2 := f2.keep k (hd _ h.dd) hs
  refine ⟨pl, hF, mb, md, ws, cs, ⟨k.heap h.blk (hd _ h.dw), g1.isF, g2.isF, h.ne, h.own.keep k fun b hb => hd _ (h.ds b hb), h.waits, fun c hc => (h.rows c hc).keep k fun b hb q => ?_, h.dw, h.db, h.dd, h.ds, fun k hk => by have := h.lt k hk; omega, fun g cur hg q => ?_,
    h.plan.keep k fun b hb => hd _ (h.dp b hb), h.dp, h.np⟩, g1, g2, f3⟩
  · obtain ⟨cur, hcur⟩ := own_heap (h.rows c hc) hb
    have := hs b cur hcur q
    have := f3 c hc b hb
    omega
  · have hlt := h.lt g q
    have := k.block g hlt (hd g q)
    exact h.nb g cur (by rw [← this]; exact hg) q
theorem IsWB.keep (h : IsWB w pw D st B) (k : Keep S w u) (hd : ∀ k, D k → ¬ S k) (hs : NoBytesB w S B) : IsWB u pw D st B := IsWBq.keep h k hd hs
theorem IsWBq.grow (h : IsWBq w pw D st F B) (k : Grow w u) : IsWBq u pw D st F B := h.keep k (fun _ _ q => q) ((nobytes_none w).b B)
theorem IsWB.grow (h : IsWB w pw D st B) (k : Grow w u) : IsWB u pw D st B := h.keep k (fun _ _ q => q) ((nobytes_none w).b B)
/-- k reads lie between two worlds -/
def RdW (w u : World) (pw : Nat) (D : Nat → Prop) (st : Wst) (k : Nat) : Prop := ∀ F B, IsWBq w pw D st F B → IsWBq u pw D { st with ops := st.ops + k } F B
theorem RdW.isWq (h : RdW w u pw D st k) (hw : IsWq w pw D st F) : IsWq u pw D { st with ops := st.ops + k } F := (h _ _ hw.toB).isWq
theorem RdW.isW (h : RdW w u pw D st k) (hw : IsW w pw D st) : IsW u pw D { st with ops := st.ops + k } := (h.isWq hw.q).isW
theorem RdW.refl (w : World) (pw : Nat) (D : Nat → Prop) (st : Wst) : RdW w w pw D st 0 := fun _ _ h => h
theorem RdW.grow (h : RdW w u pw D st k) (g : Grow u v) : RdW w v pw D st k := fun F B hB => (h F B hB).grow g
theorem RdW.pre (h : RdW u v pw D st k) (g : Grow w u) : RdW w v pw D st k := fun F B hB => h F B (hB.grow g)
theorem RdW.keep (h : RdW w u pw D st k) (g : Keep S u v) (hd : ∀ k, D k → ¬ S k) (hs : NoBytes u S) : RdW w v pw D st k := fun F B hB => (h F B hB).keep g hd (hs.b B)
theorem RdW.trans {j : Nat} (h : RdW w u pw D st k) (g : RdW u v pw D { st with ops := st.ops + k } j) : RdW w v pw D st (k + j) := fun F B hB => by
  have := g F B (h F B hB)
  rw [← Nat.add_assoc]; exact this
theorem rdW_call {pl : Pl} {mb md : Nat} {ws : Sl} {cs : List (Cg × Sl)} (hw : IsWd w pw D st pl mb md ws cs) (hk : Keep (fun k => k = pw) w u) (hw1 : IsWd u pw D { st with ops := st.ops + 1 } pl mb md ws cs) : RdW w u pw D st 1 := fun F B hB => by
  obtain ⟨pl', hF, mb', md', ws', cs', h, f1, f2, f3⟩ := hB
  have nbp : NoBytes w fun k => k = pw := fun g cur hg q => hw.nb g cur hg (by subst q; exact hw.dw)
  have e := h.blk.symm.trans hw.blk
  injection e with e
  injection e with e
  have e := congrArg Array.toList e
  simp only [wcells, List.cons.injEq, Value.map.injEq, Option.some.injEq, Value.slice.injEq, true_and, and_true] at e
  obtain ⟨rfl, rfl, ⟨eA, en, ec⟩, em⟩ := e
  obtain ⟨A, n, c⟩ := ws
  obtain ⟨A', n', c'⟩ := ws'
  dsimp only at eA en ec
  subst eA en ec
  have nm : mb' ≠ pw := fun q => isF_map hw.seen _ _ _ (by rw [q]; exact hw.blk)
  have nd : md' ≠ pw := fun q => isF_map hw.dur _ _ _ (by rw [q]; exact hw.blk)
  refine ⟨pl', hF, mb', md', _, cs', ⟨by rw [em]; exact hw1.blk, hw1.seen, hw1.dur, hw1.ne, h.own.keep hk fun b hb2 q => ?_, h.waits, fun c hc => (h.rows c hc).keep hk fun b hb2 => ?_, hw1.dw, hw1.db, hw1.dd, h.ds, hw1.lt, hw1.nb, h.plan.keep hk fun b hb2 q => ?_, h.dp, h.np⟩, f1.keep hk nm (nbp.b B), f2.keep hk nd (nbp.b B), f3⟩
  · obtain ⟨cur, hc⟩ := own_heap h.own hb2
    subst q
    exact absurd (blk_type hw.blk hc) (by decide)
  · obtain ⟨cur, hc2⟩ := own_heap (h.rows c hc) hb2
    exact nbp b cur hc2
  · obtain ⟨es, c, hm⟩ := h.plan.map hb2
    subst q
    rw [h.blk] at hm; cases hm
end
end Go.Proofs.YtpmebahhjgkflaaGreatDoor

/- Layer 3: writes, reads. -/
namespace Go.Proofs.YtpmebahhjgkflaaGreatDoor
open Go CF
set_option maxRecDepth 100000

theorem bv_one' (l : L8) : ∀ u ∈ bv l, u.oneCell' = true := by
  intro u hu
  simp only [bv, List.mem_map] at hu
  obtain ⟨p, _, rfl⟩ := hu; rfl
theorem name_spec {s : ByteArray} {w : World} {R : Bool → World → Prop} (h : R (decide (1 ≤ s.size ∧ s.size ≤ 32)) w) : Cworld_name s w R := by
  refine Fworld_name.calls _ _ _ ?_
  have e : ((decide ((s.size : Int) ≥ 1)) && (decide ((s.size : Int) ≤ 32))) = decide (1 ≤ s.size ∧ s.size ≤ 32) := by
    rw [Bool.eq_iff_iff, Bool.and_eq_true, decide_eq_true_eq, decide_eq_true_eq, decide_eq_true_eq]
    omega
  unfold Fworld_name
  rw [e]
  exact h
theorem world_write_any {w : World} {pw : Nat} {D : Nat → Prop} {st : Wst} {F : Int → Bool} {file : ByteArray} {off : Nat} {p : Sl} {bs : L8} {R : Int → World → Prop} (hw : IsWq w pw D st F) (hs : 1 ≤ file.size ∧ file.size ≤ 32) (hp : Rd w 1 p (bv bs)) (hb : off + bs.length ≤ 1048576)
    (ho : st.ops < 1000000000000) (hn : st.waits.length < 1000000000)
    (h : F (st.ops : Int) = false → ∀ w' D', Keep D w w' → IsWq w' pw D' ⟨applyWr st.seen file off bs, st.dur, st.waits ++ [⟨119, file, ⟨#[]⟩, off, bs⟩], st.ops + 1⟩ F → (∀ k, D' k → D k ∨ w.heap.size ≤ k) → R 0 w')
    (hbad : F (st.ops : Int) = true → ∀ w', Keep D w w' → IsWq w' pw D { st with ops := st.ops + 1 } F → R 6 w') :
    Cworld_World_Write (some ⟨pw, 0, none⟩) file (off : Int) p w R := by
  refine Fworld_World_Write.calls _ _ _ _ _ _ ?_
  have hpn : bs.length = p.n := by have := hp.len; rw [bv_length] at this; omega
  refine name_spec ?_
  rw [decide_eq_true hs]
  refine br_f (by rw [Bool.or_eq_false_iff, decide_eq_false_iff_not]; exact ⟨rfl, by omega⟩) ?_
  have hwp : IntKind.wrap .i64 (1048576 - (off : Int)) = 1048576 - (off : Int) := w64 (by omega) (by omega)
  refine br_f (by rw [Bool.or_eq_false_iff, decide_eq_false_iff_not, decide_eq_false_iff_not, hwp]; omega) (br_f rfl ?_)
  refine append_rule (s := ⟨none, 0, 0⟩) (vs := []) (base := 0) u_sl_uint8 i_uint8 rfl (by decide) (by decide) (own_nil _ _ _ _) hp (bv_one' _) (by show (0 + p.n) * 1 ≤ _; omega) (Nat.zero_le _) fun s1 w1 hn1 hown1 hk1 _ => ?_
  have hg1 : Grow w w1 := hk1.mono fun i hi q => by cases q
  rw [List.nil_append] at hown1
  have hsz := hg1.size
  refine do_w_any (hw.grow hg1) hown1 hb ho hn (fun hf w2 D' hk2 hw2 hD => h hf w2 D' ((hg1.mono fun _ _ q => q.elim).trans hk2 fun _ _ q => q) hw2 fun k hk => ?_) (fun hf w2 hk2 hw2 => hbad hf w2 ((hg1.mono fun _ _ q => q.elim).trans hk2 fun _ _ q => q) hw2)
  rcases hD k hk with q | q
  · exact .inl q
  · exact .inr (by omega)
theorem world_readR_any {w : World} {pw : Nat} {D : Nat → Prop} {st : Wst} {F : Int → Bool} {file : ByteArray} {off n : Nat} {R : Sl → Int → World → Prop} (hw : IsWq w pw D st F) (hs : 1 ≤ file.size ∧ file.size ≤ 32) (hb : off ≤ 1000000000) (hb2 : n ≤ 1000000000)
    (ho : st.ops < 1000000000000)
    (h : F (st.ops : Int) = false → ∀ s w', Keep D w w' → RdW w w' pw D st 1 → Own w' w.heap.size t_uint8 1 s (bv ((((st.seen file).getD []).drop off).take n)) → s.n ≤ 1048576 → R s (if (st.seen file).isSome then 0 else 8) w')
    (hbad : F (st.ops : Int) = true → ∀ w', Keep D w w' → RdW w w' pw D st 1 → R ⟨none, 0, 0⟩ 6 w') :
    Cworld_World_Read (some ⟨pw, 0, none⟩) file (off : Int) (n : Int) w R := by
  obtain ⟨pl, hF, mb, md, ws, cs, hw⟩ := hw
  subst hF
  refine Fworld_World_Read.calls _ _ _ _ _ _ ?_
  refine name_spec ?_
  rw [decide_eq_true hs]
  refine br_f (by rw [Bool.or_eq_false_iff, Bool.or_eq_false_iff, decide_eq_false_iff_not, decide_eq_false_iff_not]; exact ⟨⟨rfl, by omega⟩, by omega⟩) (br_f rfl ⟨rfl, some mb, by rw [gA, add0, hw.blk.cell]; rfl, ?_⟩)
  obtain ⟨r, hlk, _, hown, hr2, hol⟩ := file_look hw.seen file
  refine ⟨r, hlk, ?_⟩
  refine call_any hw ho fun w1 hk1 hw1 => ?_
  have hkD : Keep D w w1 := hk1.mono fun _ _ q => by subst q; exact hw.dw
  have hw1' : RdW w w1 pw D st 1 := rdW_call hw hk1 hw1
  have hsz := hk1.size
  cases hfl : pl.F (st.ops : Int) with
  | true => exact br_t rfl (hbad hfl w1 hkD hw1')
  | false =>
  have h := h hfl
  refine br_f rfl ?_
  cases hF : st.seen file with
  | none =>
    rw [hF] at hr2
    refine br_t (by rw [hr2]; rfl) ?_
    have := h ⟨none, 0, 0⟩ w1 hkD hw1'
    rw [hF] at this
    exact this (by simp only [Option.getD_none, List.drop_nil, List.take_nil]; exact own_nil _ _ _ _) (Nat.zero_le _)
  | some l =>
    rw [hF] at hr2 hown hol h
    simp only [Option.getD_some, Option.isSome_some, if_true] at hr2 hown hol h
    refine br_f (by rw [hr2]; rfl) ?_
    have hln : l.length = r.1.n := by have := hown.len; rw [bv_length] at this; omega
    have hown1 : Own w1 0 t_uint8 1 r.1 (bv l) := hown.keep hk1 fun b hb3 q => by
      obtain ⟨cur, hc⟩ := own_heap hown hb3
      subst q
      exact absurd (blk_type hw.blk hc) (by decide)
    refine br_dec (fun hge => ?_) (fun hlt => ?_)
    · have := h ⟨none, 0, 0⟩ w1 hkD hw1'
      rw [List.drop_of_length_le (by omega), List.take_nil] at this
      exact this (own_nil w1 w.heap.size t_uint8 1) (Nat.zero_le _)
    · have hrd := hown1.rd (by omega)
      have hcap := hrd.cap
      have e1 : IntKind.wrap .i64 ((r.1.n : Int) - (off : Int)) = ((r.1.n - off : Nat) : Int) := by rw [w64 (by omega) (by omega)]; omega
      have e2 : IntKind.wrap .i64 ((off : Int) + (mn (n : Int) (IntKind.wrap .i64 ((r.1.n : Int) - (off : Int))))) = ((off + min n (r.1.n - off) : Nat) : Int) := by
        rw [e1, mn_nat, w64 (by omega) (by omega)]; omega
      rw [e2]
      refine ⟨⟨by omega, by omega, by omega, hcap⟩, ?_⟩
      simp only [Int.toNat_natCast]
      have hx := hrd.cutB (l := off) (k := off + min n (r.1.n - off)) (by omega) (by omega)
      refine append_rule (s := ⟨none, 0, 0⟩) (vs := []) (base := w.heap.size) u_sl_uint8 i_uint8 rfl (by decide) (by decide) (own_nil _ _ _ _) hx (bv_one' _) (by show (0 + (off + min n (r.1.n - off) - off)) * 1 ≤ _; omega) hsz fun s2 w2 hn2 hown2 hk2 _ => ?_
      have hg2 : Grow w1 w2 := hk2.mono fun i hi q => by cases q
      rw [List.nil_append] at hown2
      have e3 : (l.drop off).take (off + min n (r.1.n - off) - off) = (l.drop off).take n := by
        rw [show off + min n (r.1.n - off) - off = min n (l.drop off).length by rw [List.length_drop]; omega]
        rcases Nat.le_total n (l.drop off).length with q | q
        · rw [Nat.min_eq_left q]
        · rw [Nat.min_eq_right q, List.take_length, List.take_of_length_le q]
      rw [e3] at hown2
      refine h s2 w2 (hkD.grow hg2) (hw1'.grow hg2) hown2 ?_
      have : s2.n = 0 + (off + min n (r.1.n - off) - off) := hn2
      omega
theorem world_readR_spec {w : World} {pw : Nat} {D : Nat → Prop} {st : Wst} {file : ByteArray} {off n : Nat} {R : Sl → Int → World → Prop} (hw : IsW w pw D st) (hs : 1 ≤ file.size ∧ file.size ≤ 32) (hb : off ≤ 1000000000) (hb2 : n ≤ 1000000000)
    (ho : st.ops < 1000000000000)
    (h : ∀ s w', Keep D w w' → RdW w w' pw D st 1 → Own w' w.heap.size t_uint8 1 s (bv ((((st.seen file).getD []).drop off).take n)) → s.n ≤ 1048576 → R s (if (st.seen file).isSome then 0 else 8) w') :
    Cworld_World_Read (some ⟨pw, 0, none⟩) file (off : Int) (n : Int) w R :=
  world_readR_any hw.q hs hb hb2 ho (fun _ s w' k r => h s w' k r) (fun q => by cases q)
theorem world_read_spec {w : World} {pw : Nat} {D : Nat → Prop} {st : Wst} {file : ByteArray} {off n : Nat} {R : Sl → Int → World → Prop} (hw : IsW w pw D st) (hs : 1 ≤ file.size ∧ file.size ≤ 32) (hb : off ≤ 1000000000) (hb2 : n ≤ 1000000000)
    (ho : st.ops < 1000000000000)
    (h : ∀ s w', Keep D w w' → IsW w' pw D { st with ops := st.ops + 1 } → Own w' w.heap.size t_uint8 1 s (bv ((((st.seen file).getD []).drop off).take n)) → s.n ≤ 1048576 → R s (if (st.seen file).isSome then 0 else 8) w') :
    Cworld_World_Read (some ⟨pw, 0, none⟩) file (off : Int) (n : Int) w R := world_readR_spec hw hs hb hb2 ho fun s w' k r => h s w' k (r.isW hw)
end Go.Proofs.YtpmebahhjgkflaaGreatDoor

/- Arguments, opened: rows of things, plain structs. -/
namespace Go.Proofs.YtpmebahhjgkflaaGreatDoor.CF
open Go Go.RowKit
set_option maxRecDepth 100000

section
variable {H : Type} {enc : TypeId × Value → H} {P : Program} {w : World} {base : Nat} {spare : Nat → Bool} {held : Bool}
end
theorem below_of_call {P : Program} {f : FuncId} {args : Array Value} {w : World} (h : CallK P f args w [.b] fun b w' => b = true ∧ Grow w w') :
    Calls P f args w fun e w' => e = .returned (.bool true) ∧ Below w.heap.size w w' :=
  h.mono fun e w' hx => by
    obtain ⟨x, hx, hb, hg⟩ := hx
    have hb : x = true := hb
    subst hb
    exact ⟨hx, Keep.below hg⟩
end Go.Proofs.YtpmebahhjgkflaaGreatDoor.CF

/- Layer 4: numbers in bytes, blocks as records. -/
namespace Go.Proofs.YtpmebahhjgkflaaGreatDoor
open Go CF
set_option maxRecDepth 100000

def num (l : L8) : Nat := l.foldl (fun v b => v * 256 + b.toNat) 0
theorem num_snoc (l : L8) (b : UInt8) : num (l ++ [b]) = num l * 256 + b.toNat := by simp [num, List.foldl_append]
theorem num_lt (l : L8) : num l < 256 ^ l.length := by
  have key : ∀ (l : L8) (v : Nat), l.foldl (fun v b => v * 256 + b.toNat) v < (v + 1) * 256 ^ l.length := by
    intro l
    induction l with
    | nil => intro v; simp
    | cons b r ih =>
      intro v
      rw [List.foldl_cons, List.length_cons, Nat.pow_succ]
      have h1 := ih (v * 256 + b.toNat)
      have h2 := b.toNat_lt
      have h3 : (v * 256 + b.toNat + 1) * 256 ^ r.length ≤ (v + 1) * 256 * 256 ^ r.length := Nat.mul_le_mul_right _ (by omega)
      have h4 : (v + 1) * 256 * 256 ^ r.length = (v + 1) * (256 ^ r.length * 256) := by rw [Nat.mul_assoc, Nat.mul_comm 256]
      omega
  have := key l 0
  rw [Nat.zero_add, Nat.one_mul] at this
  exact this
theorem bor_add {a b : Nat} (ha : a < 72057594037927936) (hb : b < 256) : bOr .u64 ((a * 256 : Nat) : Int) (b : Int) = ((a * 256 + b : Nat) : Int) := by
  unfold bOr
  show IntKind.wrap .u64 (((BitVec.ofInt 64 ((a * 256 : Nat) : Int) ||| BitVec.ofInt 64 (b : Int)).toNat : Nat) : Int) = _
  rw [BitVec.ofInt_natCast, BitVec.ofInt_natCast, BitVec.toNat_or, BitVec.toNat_ofNat, BitVec.toNat_ofNat, Nat.mod_eq_of_lt (by omega), Nat.mod_eq_of_lt (by omega)]
  have e : a * 256 ||| b = a * 256 + b := by
    have := Nat.shiftLeft_add_eq_or_of_lt (i := 8) (b := b) (by omega) a
    rw [Nat.shiftLeft_eq] at this
    exact this.symm
  rw [e]
  exact wu64 (by omega) (by omega)
theorem shl8 {a : Nat} (ha : a < 72057594037927936) : bShl .u64 (a : Int) 8 = ((a * 256 : Nat) : Int) := by
  unfold bShl
  have e : (min 8 (IntKind.bits .u64)) = 8 := by decide
  rw [e, wu64 (by omega) (by omega)]
  omega
theorem get_spec {p : Sl} {l : L8} {at_ n : Nat} {w : World} {R : Int → Int → World → Prop} (hp : Rd w 1 p (bv l)) (hb : p.n ≤ 140737489403904) (hn : 1 ≤ n) (hn8 : n ≤ 8) (hat : at_ + n ≤ l.length)
    (h : R ((num ((l.drop at_).take n) : Nat) : Int) 0 w) : Cbe_Get p (at_ : Int) (n : Int) w R := by
  refine Fbe_Get.calls _ _ _ _ _ ?_
  have hln : l.length = p.n := by have := hp.len; rw [bv_length] at this; omega
  have hcap := hp.cap
  refine Fbe_field.calls _ _ _ _ _ ?_
  have e1 : IntKind.wrap .i64 ((p.n : Int) - (n : Int)) = (p.n : Int) - (n : Int) := w64 (by omega) (by omega)
  refine br_f (by rw [Bool.or_eq_false_iff, decide_eq_false_iff_not, decide_eq_false_iff_not]; omega) (br_f (by rw [Bool.or_eq_false_iff, decide_eq_false_iff_not, decide_eq_false_iff_not, e1]; omega) (br_f rfl ?_))
  have e2 : IntKind.wrap .i64 ((at_ : Int) + (n : Int)) = ((at_ + n : Nat) : Int) := by rw [w64 (by omega) (by omega)]; omega
  rw [e2]
  simp only [Int.toNat_natCast]
  refine ⟨⟨by omega, by omega, by omega, hcap⟩, ?_⟩
  have hx := hp.cutB (l := at_) (k := at_ + n) (by omega) (by omega)
  rw [show at_ + n - at_ = n by omega] at hx
  generalize hseg : (l.drop at_).take n = seg at *
  have hsl : seg.length = n := by rw [← hseg, List.length_take, List.length_drop]; omega
  refine ⟨fun v x w' => w' = w ∧ ∃ j : Nat, x = j ∧ j ≤ n ∧ v = ((num (seg.take j) : Nat) : Int), fun _ x _ => n - x.toNat, ⟨rfl, 0, rfl, Nat.zero_le _, rfl⟩, ?_⟩
  rintro v x w0 ⟨rfl, j, rfl, hj, rfl⟩
  refine br_nat (fun hlt => ?_) (fun hge => ?_)
  · obtain ⟨a, ha, hc⟩ := hx.byte (i := j) (by show j < n; omega)
    have ha : cutA p.A p.c at_ 1 = some a := ha
    have hjs : j < seg.length := by omega
    refine ⟨⟨by omega, by omega, by rw [ha]; rfl⟩, ((seg[j]).toNat : Int), by rw [ha]; exact hc, ?_⟩
    have hnl := num_lt (seg.take j)
    have hb8 := seg[j].toNat_lt
    have hsm : num (seg.take j) < 72057594037927936 := by
      refine Nat.lt_of_lt_of_le hnl ?_
      rw [List.length_take, Nat.min_eq_left (by omega)]
      calc 256 ^ j ≤ 256 ^ 7 := Nat.pow_le_pow_right (by decide) (by omega)
        _ = 72057594037927936 := by decide
    rw [shl8 hsm, wu64 (by omega) (by omega), bor_add hsm (by omega), w64 (by omega) (by omega)]
    refine ⟨⟨rfl, j + 1, by omega, by omega, ?_⟩, by dsimp only; omega⟩
    rw [List.take_succ_eq_append_getElem hjs, num_snoc]
  · have : j = n := by omega
    subst this
    rw [List.take_of_length_le (by omega)]
    exact h
/-- a block -/
structure Bk where
  d : L8
  g : Nat
  a : Nat
  r : Nat
  hd : d.length = 16
  hg : g < 65536
  ha : a < 65536
  hr : r < 4294967296
def bc (b : Bk) : List Value := bv b.d ++ [.int .u16 (b.g : Int), .int .u16 (b.a : Int), .int .u32 (b.r : Int)]
theorem bc_len (b : Bk) : (bc b).length = 19 := by simp [bc, bv_length, b.hd]
def emptyB : Bk := ⟨[0, 0, 0, 0, 0, 0, 0, 0, 0, 0, 0, 0, 0, 0, 0, 0], 65535, 65535, 4294967295, rfl, by decide, by decide, by decide⟩
def be2 (n : Nat) : L8 := [UInt8.ofNat (n / 2 ^ 8), UInt8.ofNat n]
def be4 (n : Nat) : L8 := [UInt8.ofNat (n / 2 ^ 24), UInt8.ofNat (n / 2 ^ 16), UInt8.ofNat (n / 2 ^ 8), UInt8.ofNat n]
def recB (b : Bk) : L8 := [1] ++ b.d ++ (be2 b.g ++ be2 b.a) ++ be4 b.r
theorem recB_len (b : Bk) : (recB b).length = 25 := by simp [recB, be2, be4, b.hd]
theorem wrap_u8 (n : Nat) : IntKind.wrap .u8 (n : Int) = ((UInt8.ofNat n).toNat : Int) := by
  rw [UInt8.toNat_ofNat']
  have e : IntKind.wrap .u8 (n : Int) = (n : Int) % 256 := by simp [IntKind.wrap, IntKind.signed, IntKind.bits]
  rw [e]
  omega
theorem shr (k : IntKind) (n s : Nat) (hs : s ≤ k.bits) : bShr k (n : Int) s = ((n / 2 ^ s : Nat) : Int) := by
  unfold bShr
  rw [Nat.min_eq_left hs, show ((2 : Int) ^ s) = ((2 ^ s : Nat) : Int) by norm_cast]
  exact (Int.ofNat_fdiv n (2 ^ s)).symm
end Go.Proofs.YtpmebahhjgkflaaGreatDoor
