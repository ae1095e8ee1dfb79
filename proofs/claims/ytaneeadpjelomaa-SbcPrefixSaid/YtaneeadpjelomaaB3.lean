import Derived.MapKept
import Derived.WalkKit
import Derived.ProofKit
import Derived.OpenShut
import Derived.ShutString
import Derived.ChangeOld
import Derived.Below
import Derived.SizedLaws
import Derived.Test.YtaneeadpjelomaaB2
-- printed by wip/cf/cfprint.py
namespace Go.Proofs.Ytaneeadpjelomaa
open Go CF
set_option linter.unusedVariables false
set_option maxRecDepth 100000
/-- (*pallet/world.World).Sync -/
def Fworld_World_Sync (w_ : Option Addr) (w : World) (R : Int → World → Prop) : Prop :=
  Br ((w_).isNone) (R 8 w) (Cworld_World_call w_ w fun n w0 => Br (n != 0) (R n w0) (w_.isSome = true ∧ ∃ xs : Sl, w0.cell? ((gA w_).add 2) = some (.slice xs.A xs.n xs.c) ∧ ∃ (I : Int → World → Prop) (μ : Int → World → Nat), I 0 w0 ∧ ∀ (x : Int) (w01 : World), I x w01 → Br (decide (x < (xs.n : Int))) ((0 ≤ x ∧ x < (xs.n : Int) ∧ xs.A.isSome = true) ∧ ∃ g : Array Value, (loadVar 113 ((gA xs.A).add (x.toNat * 5))).run Try.prog w01 = .ok (.agg g) w01 ∧ New (.cells #[.int .u8 0, .string ⟨#[]⟩, .string ⟨#[]⟩, .int .i64 0, .slice none 0 0] 113) w01 fun c w02 => RunU Try.prog (storeVar 113 c (.agg g)) w02 fun w03 => ∀ w04, w04 = w03.drew → ∃ S : World → Prop, S w04 ∧ w_.isSome = true ∧ ∃ m : Option Nat, (∀ u, S u → u.cell? ((gA w_).add 1) = some (.map m)) ∧ ∃ g1 : Array Value, (∀ u1, S u1 → (loadVar 113 c).run Try.prog u1 = .ok (.agg g1) u1) ∧ ∃ xs1 : Sl, (∀ u2, S u2 → u2.cell? (c.add 4) = some (.slice xs1.A xs1.n xs1.c)) ∧ Cworld_apply m g1 (xs1.n : Int) w04 fun w05 => I (IntKind.wrap .i64 (x + 1)) w05 ∧ μ (IntKind.wrap .i64 (x + 1)) w05 < μ x w01) (w_.isSome = true ∧ Put ((gA w_).add 2) (.slice none 0 0) w01 fun w06 => R 0 w06)))
theorem Fworld_World_Sync.calls (w_ : Option Addr) (w : World) (R : Int → World → Prop) (h : Fworld_World_Sync w_ w R) : Cworld_World_Sync w_ w R :=
  calls_of_vc (anOp_ok callable) wide Try.func47 [(21, ⟨[(18, .i .i64)], [0, 16, 17]⟩)] [.i .i64] [.pointer w_] w R (Eq.mp (show Fworld_World_Sync w_ w R = vcF Try.prog G Try.f47 [(21, ⟨[(18, .i .i64)], [0, 16, 17]⟩)] [.i .i64] [.pointer w_] w R by kernel_rfl) h)
/-- (*pallet/store.Store).Unmap -/
def Fstore_Store_Unmap (s : Option Addr) (lba : Int) (n : Int) (w : World) (R : Int → Int → World → Prop) : Prop :=
  Cstore_Store_check s lba n w fun n1 w0 => Br (n1 != 0) (R 0 n1 w0) (Cstore_Store_lay s lba n (.func (.func 63) #[] #[]) false w0 fun n2 n3 w01 => R n2 n3 w01)
theorem Fstore_Store_Unmap.calls (s : Option Addr) (lba : Int) (n : Int) (w : World) (R : Int → Int → World → Prop) (h : Fstore_Store_Unmap s lba n w R) : Cstore_Store_Unmap s lba n w R :=
  calls_of_vc (anOp_ok callable) wide Try.func48 [] [.i .i64, .i .i64] [.pointer s, .int .i64 lba, .int .i64 n] w R (Eq.mp (show Fstore_Store_Unmap s lba n w R = vcF Try.prog G Try.f48 [] [.i .i64, .i .i64] [.pointer s, .int .i64 lba, .int .i64 n] w R by kernel_rfl) h)
/-- pallet/be.Get -/
def Fbe_Get (p : Sl) (at_ : Int) (n : Int) (w : World) (R : Int → Int → World → Prop) : Prop :=
  Cbe_field p at_ n w fun n1 w0 => Br (n1 != 0) (R 0 n1 w0) ((0 ≤ at_ ∧ at_ ≤ (IntKind.wrap .i64 (at_ + n)) ∧ (IntKind.wrap .i64 (at_ + n)) ≤ (p.c : Int) ∧ p.n ≤ p.c) ∧ ∃ (I : Int → Int → World → Prop) (μ : Int → Int → World → Nat), I 0 0 w0 ∧ ∀ (v : Int) (x : Int) (w01 : World), I v x w01 → Br (decide (x < ((((IntKind.wrap .i64 (at_ + n)).toNat - at_.toNat) : Nat) : Int))) ((0 ≤ x ∧ x < ((((IntKind.wrap .i64 (at_ + n)).toNat - at_.toNat) : Nat) : Int) ∧ (cutA p.A p.c at_.toNat 1).isSome = true) ∧ ∃ n2 : Int, w01.cell? ((gA (cutA p.A p.c at_.toNat 1)).add (x.toNat * 1)) = some (.int .u8 n2) ∧ I (bOr .u64 (bShl .u64 v 8) (IntKind.wrap .u64 n2)) (IntKind.wrap .i64 (x + 1)) w01 ∧ μ (bOr .u64 (bShl .u64 v 8) (IntKind.wrap .u64 n2)) (IntKind.wrap .i64 (x + 1)) w01 < μ v x w01) (R v 0 w01))
theorem Fbe_Get.calls (p : Sl) (at_ : Int) (n : Int) (w : World) (R : Int → Int → World → Prop) (h : Fbe_Get p at_ n w R) : Cbe_Get p at_ n w R :=
  calls_of_vc (anOp_ok callable) wide Try.func49 [(18, ⟨[(9, .i .u64), (26, .i .i64)], [24, 25]⟩)] [.i .u64, .i .i64] [.slice p.A p.n p.c, .int .i64 at_, .int .i64 n] w R (Eq.mp (show Fbe_Get p at_ n w R = vcF Try.prog G Try.f49 [(18, ⟨[(9, .i .u64), (26, .i .i64)], [24, 25]⟩)] [.i .u64, .i .i64] [.slice p.A p.n p.c, .int .i64 at_, .int .i64 n] w R by kernel_rfl) h)
/-- pallet/pi.Size -/
def Fpi_Size (with_ : Bool) (w : World) (R : Int → World → Prop) : Prop :=
  Br with_ (R 24 w) (R 16 w)
theorem Fpi_Size.calls (with_ : Bool) (w : World) (R : Int → World → Prop) (h : Fpi_Size with_ w R) : Cpi_Size with_ w R :=
  calls_of_vc (anOp_ok callable) wide Try.func50 [] [.i .i64] [.bool with_] w R (Eq.mp (show Fpi_Size with_ w R = vcF Try.prog G Try.f50 [] [.i .i64] [.bool with_] w R by kernel_rfl) h)
/-- pallet/be.Put -/
def Fbe_Put (p : Sl) (at_ : Int) (n : Int) (v : Int) (w : World) (R : Sl → Int → World → Prop) : Prop :=
  Cbe_field p at_ n w fun n1 w0 => (((n1 != 1) && (decide (n < 8))) = true → (0 ≤ (IntKind.wrap .i64 (8 * n)))) ∧ Br (((n1 != 1) && (decide (n < 8))) && ((bShr .u64 v (IntKind.wrap .i64 (8 * n)).toNat) != 0)) (R (⟨none, 0, 0⟩ : Sl) 3 w0) (Br (n1 != 0) (R (⟨none, 0, 0⟩ : Sl) n1 w0) (RunK Try.prog .sl (Builtin.append_ #[22, 22] 22 #[.slice none 0 0, .slice p.A p.n p.c]) w0 fun xs w01 => ∃ (I : Int → Int → World → Prop) (μ : Int → Int → World → Nat), I v (IntKind.wrap .i64 (n - 1)) w01 ∧ ∀ (v1 : Int) (i : Int) (w02 : World), I v1 i w02 → Br (decide (i ≥ 0)) ((0 ≤ (IntKind.wrap .i64 (at_ + i)) ∧ (IntKind.wrap .i64 (at_ + i)) < (xs.n : Int) ∧ xs.A.isSome = true) ∧ Put ((gA xs.A).add ((IntKind.wrap .i64 (at_ + i)).toNat * 1)) (.int .u8 (IntKind.wrap .u8 v1)) w02 fun w03 => I (bShr .u64 v1 8) (IntKind.wrap .i64 (i - 1)) w03 ∧ μ (bShr .u64 v1 8) (IntKind.wrap .i64 (i - 1)) w03 < μ v1 i w02) (R xs 0 w02)))
theorem Fbe_Put.calls (p : Sl) (at_ : Int) (n : Int) (v : Int) (w : World) (R : Sl → Int → World → Prop) (h : Fbe_Put p at_ n v w R) : Cbe_Put p at_ n v w R :=
  calls_of_vc (anOp_ok callable) wide Try.func51 [(24, ⟨[(3, .i .u64), (12, .i .i64)], [1, 11]⟩)] [.sl, .i .i64] [.slice p.A p.n p.c, .int .i64 at_, .int .i64 n, .int .u64 v] w R (Eq.mp (show Fbe_Put p at_ n v w R = vcF Try.prog G Try.f51 [(24, ⟨[(3, .i .u64), (12, .i .i64)], [1, 11]⟩)] [.sl, .i .i64] [.slice p.A p.n p.c, .int .i64 at_, .int .i64 n, .int .u64 v] w R by kernel_rfl) h)
/-- pallet/palletref01.Get -/
def Fpalletref01_Get (p : Sl) (at_ : Int) (n : Int) (w : World) (R : Int → Int → World → Prop) : Prop :=
  Cpalletref01_field (p.n : Int) at_ n w fun n1 w0 => Br (n1 != 0) (R 0 n1 w0) (∃ (I : Int → Int → World → Prop) (μ : Int → Int → World → Nat), I 0 0 w0 ∧ ∀ (v : Int) (i : Int) (w01 : World), I v i w01 → Br (decide (i < n)) ((0 ≤ (IntKind.wrap .i64 (at_ + i)) ∧ (IntKind.wrap .i64 (at_ + i)) < (p.n : Int) ∧ p.A.isSome = true) ∧ ∃ n2 : Int, w01.cell? ((gA p.A).add ((IntKind.wrap .i64 (at_ + i)).toNat * 1)) = some (.int .u8 n2) ∧ I (IntKind.wrap .u64 ((IntKind.wrap .u64 (v * 256)) + (IntKind.wrap .u64 n2))) (IntKind.wrap .i64 (i + 1)) w01 ∧ μ (IntKind.wrap .u64 ((IntKind.wrap .u64 (v * 256)) + (IntKind.wrap .u64 n2))) (IntKind.wrap .i64 (i + 1)) w01 < μ v i w01) (R v 0 w01))
theorem Fpalletref01_Get.calls (p : Sl) (at_ : Int) (n : Int) (w : World) (R : Int → Int → World → Prop) (h : Fpalletref01_Get p at_ n w R) : Cpalletref01_Get p at_ n w R :=
  calls_of_vc (anOp_ok callable) wide Try.func52 [(18, ⟨[(9, .i .u64), (10, .i .i64)], [0, 1, 2]⟩)] [.i .u64, .i .i64] [.slice p.A p.n p.c, .int .i64 at_, .int .i64 n] w R (Eq.mp (show Fpalletref01_Get p at_ n w R = vcF Try.prog G Try.f52 [(18, ⟨[(9, .i .u64), (10, .i .i64)], [0, 1, 2]⟩)] [.i .u64, .i .i64] [.slice p.A p.n p.c, .int .i64 at_, .int .i64 n] w R by kernel_rfl) h)
/-- (*pallet/store.Store).check -/
def Fstore_Store_check (s : Option Addr) (lba : Int) (n : Int) (w : World) (R : Int → World → Prop) : Prop :=
  Br ((s).isNone) (R 8 w) (((!((decide (lba < 0)) || (decide (n < 0)))) = true → s.isSome = true) ∧ ∃ n1 : Int, ((!((decide (lba < 0)) || (decide (n < 0)))) = true → w.cell? ((gA s).add 2) = some (.int .i64 n1)) ∧ ((!(((decide (lba < 0)) || (decide (n < 0))) || (decide (lba > n1)))) = true → s.isSome = true) ∧ ∃ n2 : Int, ((!(((decide (lba < 0)) || (decide (n < 0))) || (decide (lba > n1)))) = true → w.cell? ((gA s).add 2) = some (.int .i64 n2)) ∧ Br ((((decide (lba < 0)) || (decide (n < 0))) || (decide (lba > n1))) || (decide (n > (IntKind.wrap .i64 (n2 - lba))))) (R 4 w) (R 0 w))
theorem Fstore_Store_check.calls (s : Option Addr) (lba : Int) (n : Int) (w : World) (R : Int → World → Prop) (h : Fstore_Store_check s lba n w R) : Cstore_Store_check s lba n w R :=
  calls_of_vc (anOp_ok callable) wide Try.func53 [] [.i .i64] [.pointer s, .int .i64 lba, .int .i64 n] w R (Eq.mp (show Fstore_Store_check s lba n w R = vcF Try.prog G Try.f53 [] [.i .i64] [.pointer s, .int .i64 lba, .int .i64 n] w R by kernel_rfl) h)
/-- (*pallet/world.World).Read -/
def Fworld_World_Read (w_ : Option Addr) (file : ByteArray) (off : Int) (n : Int) (w : World) (R : Sl → Int → World → Prop) : Prop :=
  Cworld_name file w fun b w0 => Br (((!b) || (decide (off < 0))) || (decide (n < 0))) (R (⟨none, 0, 0⟩ : Sl) 1 w0) (Br ((w_).isNone) (R (⟨none, 0, 0⟩ : Sl) 8 w0) (w_.isSome = true ∧ ∃ m : Option Nat, w0.cell? ((gA w_).add 0) = some (.map m) ∧ ∃ r : Sl × Bool, (Instr.lookup 80 (.map m) (.string file) true).run Try.prog w0 = .ok (.tuple #[.slice r.1.A r.1.n r.1.c, .bool r.2]) w0 ∧ Cworld_World_call w_ w0 fun n1 w01 => Br (n1 != 0) (R (⟨none, 0, 0⟩ : Sl) n1 w01) (Br (!r.2) (R (⟨none, 0, 0⟩ : Sl) 8 w01) (Br (decide (off ≥ (r.1.n : Int))) (R (⟨none, 0, 0⟩ : Sl) 0 w01) ((0 ≤ off ∧ off ≤ (IntKind.wrap .i64 (off + (mn n (IntKind.wrap .i64 ((r.1.n : Int) - off))))) ∧ (IntKind.wrap .i64 (off + (mn n (IntKind.wrap .i64 ((r.1.n : Int) - off))))) ≤ (r.1.c : Int) ∧ r.1.n ≤ r.1.c) ∧ RunK Try.prog .sl (Builtin.append_ #[22, 22] 22 #[.slice none 0 0, .slice (cutA r.1.A r.1.c off.toNat 1) ((IntKind.wrap .i64 (off + (mn n (IntKind.wrap .i64 ((r.1.n : Int) - off))))).toNat - off.toNat) (r.1.c - off.toNat)]) w01 fun xs w02 => R xs 0 w02)))))
theorem Fworld_World_Read.calls (w_ : Option Addr) (file : ByteArray) (off : Int) (n : Int) (w : World) (R : Sl → Int → World → Prop) (h : Fworld_World_Read w_ file off n w R) : Cworld_World_Read w_ file off n w R :=
  calls_of_vc (anOp_ok callable) wide Try.func54 [] [.sl, .i .i64] [.pointer w_, .string file, .int .i64 off, .int .i64 n] w R (Eq.mp (show Fworld_World_Read w_ file off n w R = vcF Try.prog G Try.f54 [] [.sl, .i .i64] [.pointer w_, .string file, .int .i64 off, .int .i64 n] w R by kernel_rfl) h)
/-- pallet/store.block -/
def Fstore_block (p : Sl) (w : World) (R : (Array Value) → World → Prop) : Prop :=
  New (.cells #[.int .u8 0, .int .u8 0, .int .u8 0, .int .u8 0, .int .u8 0, .int .u8 0, .int .u8 0, .int .u8 0, .int .u8 0, .int .u8 0, .int .u8 0, .int .u8 0, .int .u8 0, .int .u8 0, .int .u8 0, .int .u8 0, .int .u16 0, .int .u16 0, .int .u32 0] 78) w fun a w0 => ((!(decide ((p.n : Int) < 25))) = true → (0 ≤ (0 : Int) ∧ (0 : Int) < (p.n : Int) ∧ p.A.isSome = true)) ∧ ∃ n : Int, ((!(decide ((p.n : Int) < 25))) = true → w0.cell? ((gA p.A).add ((0 : Int).toNat * 1)) = some (.int .u8 n)) ∧ Br ((decide ((p.n : Int) < 25)) || (n != 1)) (Cstore_empty  w0 fun g w01 => RunU Try.prog (storeVar 78 a (.agg g)) w01 fun w02 => ∃ res : Array Value, (loadVar 78 a).run Try.prog w02 = .ok (.agg res) w02 ∧ R res w02) (New (.cells #[.int .u8 0, .int .u8 0, .int .u8 0, .int .u8 0, .int .u8 0, .int .u8 0, .int .u8 0, .int .u8 0, .int .u8 0, .int .u8 0, .int .u8 0, .int .u8 0, .int .u8 0, .int .u8 0, .int .u8 0, .int .u8 0, .int .u16 0, .int .u16 0, .int .u32 0] 78) w0 fun b w03 => ∀ w04, w04 = w03.drew → (0 ≤ (0 : Int) ∧ (0 : Int) ≤ (16 : Int) ∧ (16 : Int) ≤ (16 : Int)) ∧ (0 ≤ (1 : Int) ∧ (1 : Int) ≤ (p.n : Int) ∧ (p.n : Int) ≤ (p.c : Int) ∧ p.n ≤ p.c) ∧ RunK Try.prog (.i .i64) (Builtin.copy_ #[22, 22] 3 #[.slice (some (if 16 = 0 then (b.add 0) else (b.add 0).add (0 * 1))) (16 - 0) (16 - 0), .slice (cutA p.A p.c 1 1) (((p.n : Int)).toNat - 1) (p.c - 1)]) w04 fun n1 w05 => Cbe_Get p 17 2 w05 fun n2 n3 w06 => Cbe_Get p 19 2 w06 fun n4 n5 w07 => Cbe_Get p 21 4 w07 fun n6 n7 w08 => RunU Try.prog (storeVar 76 (b.add 16) (.agg #[.int .u16 (IntKind.wrap .u16 n2), .int .u16 (IntKind.wrap .u16 n4), .int .u32 (IntKind.wrap .u32 n6)])) w08 fun w09 => ∃ g1 : Array Value, (loadVar 78 b).run Try.prog w09 = .ok (.agg g1) w09 ∧ RunU Try.prog (storeVar 78 a (.agg g1)) w09 fun w010 => ∃ res1 : Array Value, (loadVar 78 a).run Try.prog w010 = .ok (.agg res1) w010 ∧ R res1 w010)
theorem Fstore_block.calls (p : Sl) (w : World) (R : (Array Value) → World → Prop) (h : Fstore_block p w R) : Cstore_block p w R :=
  calls_of_vc (anOp_ok callable) wide Try.func55 [] [.ag] [.slice p.A p.n p.c] w R (Eq.mp (show Fstore_block p w R = vcF Try.prog G Try.f55 [] [.ag] [.slice p.A p.n p.c] w R by kernel_rfl) h)
/-- pallet/pi.escapes -/
def Fpi_escapes (kind : Int) (t : Array Value) (w : World) (R : Bool → World → Prop) : Prop :=
  New (.cells t 76) w fun t1 w0 => ∃ n : Int, w0.cell? (t1.add 1) = some (.int .u16 n) ∧ Br (n != 65535) (R false w0) (∃ n1 : Int, ((!(kind != 3)) = true → w0.cell? (t1.add 2) = some (.int .u32 n1)) ∧ R ((kind != 3) || (n1 == 4294967295)) w0)
theorem Fpi_escapes.calls (kind : Int) (t : Array Value) (w : World) (R : Bool → World → Prop) (h : Fpi_escapes kind t w R) : Cpi_escapes kind t w R :=
  calls_of_vc (anOp_ok callable) wide Try.func56 [] [.b] [.int .u8 kind, .agg t] w R (Eq.mp (show Fpi_escapes kind t w R = vcF Try.prog G Try.f56 [] [.b] [.int .u8 kind, .agg t] w R by kernel_rfl) h)
/-- pallet/crc.C16 -/
def Fcrc_C16 (p : Sl) (w : World) (R : Int → World → Prop) : Prop :=
  Ccrc_Add16 0 p w fun n w0 => R n w0
theorem Fcrc_C16.calls (p : Sl) (w : World) (R : Int → World → Prop) (h : Fcrc_C16 p w R) : Ccrc_C16 p w R :=
  calls_of_vc (anOp_ok callable) wide Try.func57 [] [.i .u16] [.slice p.A p.n p.c] w R (Eq.mp (show Fcrc_C16 p w R = vcF Try.prog G Try.f57 [] [.i .u16] [.slice p.A p.n p.c] w R by kernel_rfl) h)
/-- (*pallet/store.Store).lay -/
def Fstore_Store_lay (s : Option Addr) (lba : Int) (n : Int) (one : Value) (fua : Bool) (w : World) (R : Int → Int → World → Prop) : Prop :=
  ∃ (I : Int → World → Prop) (μ : Int → World → Nat), I 0 w ∧ ∀ (x : Int) (w0 : World), I x w0 → Br (decide (x < n)) (∀ w01, w01 = w0.drew → ∃ S : World → Prop, S w01 ∧ s.isSome = true ∧ ∃ p : Option Addr, (∀ u, S u → u.cell? ((gA s).add 0) = some (.pointer p)) ∧ s.isSome = true ∧ ∃ s1 : ByteArray, (∀ u1, S u1 → u1.cell? ((gA s).add 1) = some (.string s1)) ∧ CallV Try.prog cs one #[.int .i64 x] w01 [.sl] fun xs w02 => S w02 ∧ Cworld_World_Write p s1 (IntKind.wrap .i64 ((IntKind.wrap .i64 (lba + x)) * 25)) xs w02 fun n1 w03 => Br (n1 != 0) (R x n1 w03) (I (IntKind.wrap .i64 (x + 1)) w03 ∧ μ (IntKind.wrap .i64 (x + 1)) w03 < μ x w0)) ((((!fua) && (decide (n > 0))) = true → s.isSome = true) ∧ ∃ b : Bool, (((!fua) && (decide (n > 0))) = true → w0.cell? ((gA s).add 3) = some (.bool b)) ∧ Br ((decide (n > 0)) && (fua || (!b))) (s.isSome = true ∧ ∃ p1 : Option Addr, w0.cell? ((gA s).add 0) = some (.pointer p1) ∧ Cworld_World_Sync p1 w0 fun n2 w04 => R n n2 w04) (R n 0 w0))
theorem Fstore_Store_lay.calls (s : Option Addr) (lba : Int) (n : Int) (one : Value) (fua : Bool) (w : World) (R : Int → Int → World → Prop) (h : Fstore_Store_lay s lba n one fua w R) : Cstore_Store_lay s lba n one fua w R :=
  calls_of_vc (anOp_ok callable) wide Try.func58 [(6, ⟨[(15, .i .i64)], [0, 1, 2, 3, 4, 14]⟩)] [.i .i64, .i .i64] [.pointer s, .int .i64 lba, .int .i64 n, one, .bool fua] w R (Eq.mp (show Fstore_Store_lay s lba n one fua w R = vcF Try.prog G Try.f58 [(6, ⟨[(15, .i .i64)], [0, 1, 2, 3, 4, 14]⟩)] [.i .i64, .i .i64] [.pointer s, .int .i64 lba, .int .i64 n, one, .bool fua] w R by kernel_rfl) h)
/-- (*pallet/store.Store).Write$1 -/
def Fstore_Store_Write_1 (i : Int) (fv : Addr) (w : World) (R : Sl → World → Prop) : Prop :=
  ∃ xs : Sl, w.cell? fv = some (.slice xs.A xs.n xs.c) ∧ (0 ≤ i ∧ i < (xs.n : Int) ∧ xs.A.isSome = true) ∧ ∃ g : Array Value, (loadVar 78 ((gA xs.A).add (i.toNat * 19))).run Try.prog w = .ok (.agg g) w ∧ Cstore_record g w fun xs1 w0 => R xs1 w0
theorem Fstore_Store_Write_1.calls (i : Int) (fv : Addr) (w : World) (R : Sl → World → Prop) (h : Fstore_Store_Write_1 i fv w R) : Cstore_Store_Write_1 i fv w R :=
  calls_of_vc (anOp_ok callable) wide Try.func59 [] [.sl] [.int .i64 i, .pointer (some fv)] w R (Eq.mp (show Fstore_Store_Write_1 i fv w R = vcF Try.prog G Try.f59 [] [.sl] [.int .i64 i, .pointer (some fv)] w R by kernel_rfl) h)
/-- pallet/store.record -/
def Fstore_record (b : Array Value) (w : World) (R : Sl → World → Prop) : Prop :=
  New (.cells b 78) w fun b1 w0 => RunK Try.prog .sl (Instr.buildSlice 22 1 #[(0, .int .u8 1)]) w0 fun xs w01 => (0 ≤ (0 : Int) ∧ (0 : Int) ≤ (16 : Int) ∧ (16 : Int) ≤ (16 : Int)) ∧ RunK Try.prog .sl (Builtin.append_ #[22, 22] 22 #[.slice xs.A xs.n xs.c, .slice (some (if 16 = 0 then (b1.add 0) else (b1.add 0).add (0 * 1))) (16 - 0) (16 - 0)]) w01 fun xs1 w02 => ∃ n : Int, w02.cell? ((b1.add 16).add 0) = some (.int .u16 n) ∧ ∃ n1 : Int, w02.cell? ((b1.add 16).add 0) = some (.int .u16 n1) ∧ ∃ n2 : Int, w02.cell? ((b1.add 16).add 1) = some (.int .u16 n2) ∧ ∃ n3 : Int, w02.cell? ((b1.add 16).add 1) = some (.int .u16 n3) ∧ RunK Try.prog .sl (Instr.buildSlice 22 4 #[(0, .int .u8 (IntKind.wrap .u8 (bShr .u16 n 8))), (1, .int .u8 (IntKind.wrap .u8 n1)), (2, .int .u8 (IntKind.wrap .u8 (bShr .u16 n2 8))), (3, .int .u8 (IntKind.wrap .u8 n3))]) w02 fun xs2 w03 => RunK Try.prog .sl (Builtin.append_ #[22, 22] 22 #[.slice xs1.A xs1.n xs1.c, .slice xs2.A xs2.n xs2.c]) w03 fun xs3 w04 => ∃ n4 : Int, w04.cell? ((b1.add 16).add 2) = some (.int .u32 n4) ∧ ∃ n5 : Int, w04.cell? ((b1.add 16).add 2) = some (.int .u32 n5) ∧ ∃ n6 : Int, w04.cell? ((b1.add 16).add 2) = some (.int .u32 n6) ∧ ∃ n7 : Int, w04.cell? ((b1.add 16).add 2) = some (.int .u32 n7) ∧ RunK Try.prog .sl (Instr.buildSlice 22 4 #[(0, .int .u8 (IntKind.wrap .u8 (bShr .u32 n4 24))), (1, .int .u8 (IntKind.wrap .u8 (bShr .u32 n5 16))), (2, .int .u8 (IntKind.wrap .u8 (bShr .u32 n6 8))), (3, .int .u8 (IntKind.wrap .u8 n7))]) w04 fun xs4 w05 => RunK Try.prog .sl (Builtin.append_ #[22, 22] 22 #[.slice xs3.A xs3.n xs3.c, .slice xs4.A xs4.n xs4.c]) w05 fun xs5 w06 => R xs5 w06
theorem Fstore_record.calls (b : Array Value) (w : World) (R : Sl → World → Prop) (h : Fstore_record b w R) : Cstore_record b w R :=
  calls_of_vc (anOp_ok callable) wide Try.func60 [] [.sl] [.agg b] w R (Eq.mp (show Fstore_record b w R = vcF Try.prog G Try.f60 [] [.sl] [.agg b] w R by kernel_rfl) h)
/-- (*pallet/world.World).call -/
def Fworld_World_call (w_ : Option Addr) (w : World) (R : Int → World → Prop) : Prop :=
  w_.isSome = true ∧ ∃ b : Bool, w.cell? ((gA w_).add 6) = some (.bool b) ∧ Br b (R 7 w) (w_.isSome = true ∧ ∃ n : Int, w.cell? ((gA w_).add 3) = some (.int .i64 n) ∧ w_.isSome = true ∧ ∃ n1 : Int, w.cell? ((gA w_).add 3) = some (.int .i64 n1) ∧ w_.isSome = true ∧ Put ((gA w_).add 3) (.int .i64 (IntKind.wrap .i64 (n1 + 1))) w fun w0 => w_.isSome = true ∧ ∃ n2 : Int, w0.cell? ((gA w_).add 5) = some (.int .i64 n2) ∧ Br (n == n2) (w_.isSome = true ∧ Put ((gA w_).add 6) (.bool true) w0 fun w01 => R 7 w01) (w_.isSome = true ∧ ∃ m : Option Nat, w0.cell? ((gA w_).add 4) = some (.map m) ∧ ∃ b1 : Bool, (Instr.lookup 82 (.map m) (.int .i64 n) false).run Try.prog w0 = .ok (.bool b1) w0 ∧ Br b1 (R 6 w0) (R 0 w0)))
theorem Fworld_World_call.calls (w_ : Option Addr) (w : World) (R : Int → World → Prop) (h : Fworld_World_call w_ w R) : Cworld_World_call w_ w R :=
  calls_of_vc (anOp_ok callable) wide Try.func61 [] [.i .i64] [.pointer w_] w R (Eq.mp (show Fworld_World_call w_ w R = vcF Try.prog G Try.f61 [] [.i .i64] [.pointer w_] w R by kernel_rfl) h)
/-- pallet/world.apply -/
def Fworld_apply (files : Option Nat) (c : Array Value) (most : Int) (w : World) (R : World → Prop) : Prop :=
  New (.cells c 113) w fun c1 w0 => ∃ n : Int, w0.cell? (c1.add 0) = some (.int .u8 n) ∧ Br (n == 119) (∃ xs : Sl, w0.cell? (c1.add 4) = some (.slice xs.A xs.n xs.c) ∧ ∃ xs1 : Sl, w0.cell? (c1.add 4) = some (.slice xs1.A xs1.n xs1.c) ∧ (0 ≤ (0 : Int) ∧ (0 : Int) ≤ (mn most (xs1.n : Int)) ∧ (mn most (xs1.n : Int)) ≤ (xs.c : Int) ∧ xs.n ≤ xs.c) ∧ ∃ s : ByteArray, w0.cell? (c1.add 1) = some (.string s) ∧ ∃ xs2 : Sl, (Instr.lookup 80 (.map files) (.string s) false).run Try.prog w0 = .ok (.slice xs2.A xs2.n xs2.c) w0 ∧ RunK Try.prog .sl (Builtin.append_ #[22, 22] 22 #[.slice none 0 0, .slice xs2.A xs2.n xs2.c]) w0 fun xs3 w03 => ∃ (I : Sl → World → Prop) (μ : Sl → World → Nat), I xs3 w03 ∧ ∀ (f : Sl) (w04 : World), I f w04 → ∃ n1 : Int, w04.cell? (c1.add 3) = some (.int .i64 n1) ∧ Br (decide ((f.n : Int) < (IntKind.wrap .i64 (n1 + ((((mn most (xs1.n : Int)).toNat - 0) : Nat) : Int))))) (RunK Try.prog .sl (Instr.buildSlice 22 1 #[(0, .int .u8 0)]) w04 fun xs4 w05 => RunK Try.prog .sl (Builtin.append_ #[22, 22] 22 #[.slice f.A f.n f.c, .slice xs4.A xs4.n xs4.c]) w05 fun xs5 w06 => I xs5 w06 ∧ μ xs5 w06 < μ f w04) (∃ n2 : Int, w04.cell? (c1.add 3) = some (.int .i64 n2) ∧ (0 ≤ n2 ∧ n2 ≤ (f.n : Int) ∧ (f.n : Int) ≤ (f.c : Int) ∧ f.n ≤ f.c) ∧ RunK Try.prog (.i .i64) (Builtin.copy_ #[22, 22] 3 #[.slice (cutA f.A f.c n2.toNat 1) (((f.n : Int)).toNat - n2.toNat) (f.c - n2.toNat), .slice (cutA xs.A xs.c 0 1) ((mn most (xs1.n : Int)).toNat - 0) (xs.c - 0)]) w04 fun n3 w07 => ∃ s1 : ByteArray, w07.cell? (c1.add 1) = some (.string s1) ∧ RunU Try.prog (Instr.mapUpdate 80 (.map files) (.string s1) (.slice f.A f.n f.c)) w07 fun w08 => R w08)) (Br (n == 110) (∃ s2 : ByteArray, w0.cell? (c1.add 1) = some (.string s2) ∧ ∃ r : Sl × Bool, (Instr.lookup 80 (.map files) (.string s2) true).run Try.prog w0 = .ok (.tuple #[.slice r.1.A r.1.n r.1.c, .bool r.2]) w0 ∧ ∃ s3 : ByteArray, w0.cell? (c1.add 1) = some (.string s3) ∧ RunK Try.prog .v (Builtin.delete_ #[80, 9] 0 #[.map files, .string s3]) w0 fun v_ w010 => Br r.2 (∃ s4 : ByteArray, w010.cell? (c1.add 2) = some (.string s4) ∧ RunU Try.prog (Instr.mapUpdate 80 (.map files) (.string s4) (.slice r.1.A r.1.n r.1.c)) w010 fun w012 => R w012) (R w010)) (Br (n == 114) (∃ s5 : ByteArray, w0.cell? (c1.add 1) = some (.string s5) ∧ RunK Try.prog .v (Builtin.delete_ #[80, 9] 0 #[.map files, .string s5]) w0 fun v_1 w014 => R w014) (R w0)))
theorem Fworld_apply.calls (files : Option Nat) (c : Array Value) (most : Int) (w : World) (R : World → Prop) (h : Fworld_apply files c most w R) : Cworld_apply files c most w R :=
  calls_of_vc (anOp_ok callable) wide Try.func62 [(15, ⟨[(7, .sl)], [0, 4, 6]⟩)] [] [.map files, .agg c, .int .i64 most] w R (Eq.mp (show Fworld_apply files c most w R = vcF Try.prog G Try.f62 [(15, ⟨[(7, .sl)], [0, 4, 6]⟩)] [] [.map files, .agg c, .int .i64 most] w R by kernel_rfl) h)
/-- (*pallet/store.Store).Unmap$1 -/
def Fstore_Store_Unmap_1 (p : Int) (w : World) (R : Sl → World → Prop) : Prop :=
  RunK Try.prog .sl (Instr.buildSlice 22 1 #[(0, .int .u8 0)]) w fun xs w0 => R xs w0
theorem Fstore_Store_Unmap_1.calls (p : Int) (w : World) (R : Sl → World → Prop) (h : Fstore_Store_Unmap_1 p w R) : Cstore_Store_Unmap_1 p w R :=
  calls_of_vc (anOp_ok callable) wide Try.func63 [] [.sl] [.int .i64 p] w R (Eq.mp (show Fstore_Store_Unmap_1 p w R = vcF Try.prog G Try.f63 [] [.sl] [.int .i64 p] w R by kernel_rfl) h)
/-- pallet/be.field -/
def Fbe_field (p : Sl) (at_ : Int) (n : Int) (w : World) (R : Int → World → Prop) : Prop :=
  Br ((decide (n < 1)) || (decide (n > 8))) (R 1 w) (Br ((decide (at_ < 0)) || (decide (at_ > (IntKind.wrap .i64 ((p.n : Int) - n))))) (R 4 w) (R 0 w))
theorem Fbe_field.calls (p : Sl) (at_ : Int) (n : Int) (w : World) (R : Int → World → Prop) (h : Fbe_field p at_ n w R) : Cbe_field p at_ n w R :=
  calls_of_vc (anOp_ok callable) wide Try.func64 [] [.i .i64] [.slice p.A p.n p.c, .int .i64 at_, .int .i64 n] w R (Eq.mp (show Fbe_field p at_ n w R = vcF Try.prog G Try.f64 [] [.i .i64] [.slice p.A p.n p.c, .int .i64 at_, .int .i64 n] w R by kernel_rfl) h)
/-- pallet/palletref01.field -/
def Fpalletref01_field (all : Int) (at_ : Int) (n : Int) (w : World) (R : Int → World → Prop) : Prop :=
  Br ((decide (n < 1)) || (decide (n > 8))) (R 1 w) (Br (((decide (at_ < 0)) || (decide (at_ ≥ all))) || (decide (n > (IntKind.wrap .i64 (all - at_))))) (R 4 w) (R 0 w))
theorem Fpalletref01_field.calls (all : Int) (at_ : Int) (n : Int) (w : World) (R : Int → World → Prop) (h : Fpalletref01_field all at_ n w R) : Cpalletref01_field all at_ n w R :=
  calls_of_vc (anOp_ok callable) wide Try.func65 [] [.i .i64] [.int .i64 all, .int .i64 at_, .int .i64 n] w R (Eq.mp (show Fpalletref01_field all at_ n w R = vcF Try.prog G Try.f65 [] [.i .i64] [.int .i64 all, .int .i64 at_, .int .i64 n] w R by kernel_rfl) h)
/-- pallet/world.name -/
def Fworld_name (s : ByteArray) (w : World) (R : Bool → World → Prop) : Prop :=
  R ((decide ((s.size : Int) ≥ 1)) && (decide ((s.size : Int) ≤ 32))) w
theorem Fworld_name.calls (s : ByteArray) (w : World) (R : Bool → World → Prop) (h : Fworld_name s w R) : Cworld_name s w R :=
  calls_of_vc (anOp_ok callable) wide Try.func66 [] [.b] [.string s] w R (Eq.mp (show Fworld_name s w R = vcF Try.prog G Try.f66 [] [.b] [.string s] w R by kernel_rfl) h)
/-- pallet/store.empty -/
def Fstore_empty (w : World) (R : (Array Value) → World → Prop) : Prop :=
  New (.cells #[.int .u8 0, .int .u8 0, .int .u8 0, .int .u8 0, .int .u8 0, .int .u8 0, .int .u8 0, .int .u8 0, .int .u8 0, .int .u8 0, .int .u8 0, .int .u8 0, .int .u8 0, .int .u8 0, .int .u8 0, .int .u8 0, .int .u16 0, .int .u16 0, .int .u32 0] 78) w fun a w0 => ∃ g : Array Value, (Instr.build 78 #[(1, .agg #[.int .u16 65535, .int .u16 65535, .int .u32 4294967295])]).run Try.prog w0 = .ok (.agg g) w0 ∧ RunU Try.prog (storeVar 78 a (.agg g)) w0 fun w01 => ∃ res : Array Value, (loadVar 78 a).run Try.prog w01 = .ok (.agg res) w01 ∧ R res w01
theorem Fstore_empty.calls (w : World) (R : (Array Value) → World → Prop) (h : Fstore_empty w R) : Cstore_empty w R :=
  calls_of_vc (anOp_ok callable) wide Try.func67 [] [.ag] [] w R (Eq.mp (show Fstore_empty w R = vcF Try.prog G Try.f67 [] [.ag] [] w R by kernel_rfl) h)
/-- pallet/crc.Add16 -/
def Fcrc_Add16 (sum : Int) (p : Sl) (w : World) (R : Int → World → Prop) : Prop :=
  ∃ (I : Int → Int → World → Prop) (μ : Int → Int → World → Nat), I sum 0 w ∧ ∀ (sum1 : Int) (x : Int) (w0 : World), I sum1 x w0 → Br (decide (x < (p.n : Int))) ((0 ≤ x ∧ x < (p.n : Int) ∧ p.A.isSome = true) ∧ ∃ n : Int, w0.cell? ((gA p.A).add (x.toNat * 1)) = some (.int .u8 n) ∧ ∃ (I1 : Int → Int → World → Prop) (μ1 : Int → Int → World → Nat), I1 (bXor .u16 sum1 (bShl .u16 (IntKind.wrap .u16 n) 8)) 0 w0 ∧ ∀ (sum2 : Int) (x1 : Int) (w01 : World), I1 sum2 x1 w01 → Br (decide (x1 < 8)) (letX (fun (sum3 : Int) (w02 : World) => I1 sum3 (IntKind.wrap .i64 (x1 + 1)) w02 ∧ μ1 sum3 (IntKind.wrap .i64 (x1 + 1)) w02 < μ1 sum2 x1 w01) fun J_ => Br ((bShr .u16 sum2 15) == 1) (J_ (bXor .u16 (bShl .u16 sum2 1) 35767) w01) (J_ (bShl .u16 sum2 1) w01)) (I sum2 (IntKind.wrap .i64 (x + 1)) w01 ∧ μ sum2 (IntKind.wrap .i64 (x + 1)) w01 < μ sum1 x w0)) (R sum1 w0)
theorem Fcrc_Add16.calls (sum : Int) (p : Sl) (w : World) (R : Int → World → Prop) (h : Fcrc_Add16 sum p w R) : Ccrc_Add16 sum p w R :=
  calls_of_vc (anOp_ok callable) wide Try.func68 [(6, ⟨[(0, .i .u16), (10, .i .i64)], [8, 9]⟩), (18, ⟨[(0, .i .u16), (19, .i .i64)], [8, 9, 10]⟩), (11, ⟨[(0, .i .u16)], [8, 9, 10, 19]⟩)] [.i .u16] [.int .u16 sum, .slice p.A p.n p.c] w R (Eq.mp (show Fcrc_Add16 sum p w R = vcF Try.prog G Try.f68 [(6, ⟨[(0, .i .u16), (10, .i .i64)], [8, 9]⟩), (18, ⟨[(0, .i .u16), (19, .i .i64)], [8, 9, 10]⟩), (11, ⟨[(0, .i .u16)], [8, 9, 10, 19]⟩)] [.i .u16] [.int .u16 sum, .slice p.A p.n p.c] w R by kernel_rfl) h)
/-- (*pallet/world.World).Write -/
def Fworld_World_Write (w_ : Option Addr) (file : ByteArray) (off : Int) (p : Sl) (w : World) (R : Int → World → Prop) : Prop :=
  Cworld_name file w fun b w0 => Br ((!b) || (decide (off < 0))) (R 1 w0) (Br ((decide (off > 1048576)) || (decide ((p.n : Int) > (IntKind.wrap .i64 (1048576 - off))))) (R 2 w0) (Br ((w_).isNone) (R 8 w0) (RunK Try.prog .sl (Builtin.append_ #[22, 22] 22 #[.slice none 0 0, .slice p.A p.n p.c]) w0 fun xs w01 => Cworld_World_do w_ #[.int .u8 119, .string file, .string ⟨#[]⟩, .int .i64 off, .slice xs.A xs.n xs.c] w01 fun n w02 => R n w02)))
theorem Fworld_World_Write.calls (w_ : Option Addr) (file : ByteArray) (off : Int) (p : Sl) (w : World) (R : Int → World → Prop) (h : Fworld_World_Write w_ file off p w R) : Cworld_World_Write w_ file off p w R :=
  calls_of_vc (anOp_ok callable) wide Try.func69 [] [.i .i64] [.pointer w_, .string file, .int .i64 off, .slice p.A p.n p.c] w R (Eq.mp (show Fworld_World_Write w_ file off p w R = vcF Try.prog G Try.f69 [] [.i .i64] [.pointer w_, .string file, .int .i64 off, .slice p.A p.n p.c] w R by kernel_rfl) h)
/-- (*pallet/world.World).do -/
def Fworld_World_do (w_ : Option Addr) (c : Array Value) (w : World) (R : Int → World → Prop) : Prop :=
  New (.cells c 113) w fun c1 w0 => Cworld_World_call w_ w0 fun n w01 => Br (n != 0) (R n w01) (∀ w02, w02 = w01.drew → ∃ S : World → Prop, S w02 ∧ w_.isSome = true ∧ ∃ m : Option Nat, (∀ u, S u → u.cell? ((gA w_).add 0) = some (.map m)) ∧ ∃ g : Array Value, (∀ u1, S u1 → (loadVar 113 c1).run Try.prog u1 = .ok (.agg g) u1) ∧ ∃ xs : Sl, (∀ u2, S u2 → u2.cell? (c1.add 4) = some (.slice xs.A xs.n xs.c)) ∧ Cworld_apply m g (xs.n : Int) w02 fun w03 => ∀ w04, w04 = w03.drew → ∃ S1 : World → Prop, S1 w04 ∧ w_.isSome = true ∧ ∃ xs1 : Sl, (∀ u3, S1 u3 → u3.cell? ((gA w_).add 2) = some (.slice xs1.A xs1.n xs1.c)) ∧ ∃ g1 : Array Value, (∀ u4, S1 u4 → (loadVar 113 c1).run Try.prog u4 = .ok (.agg g1) u4) ∧ RunK Try.prog .sl (Instr.buildSlice 81 1 #[(0, .agg g1)]) w04 fun xs2 w05 => S1 w05 ∧ RunK Try.prog .sl (Builtin.append_ #[81, 81] 81 #[.slice xs1.A xs1.n xs1.c, .slice xs2.A xs2.n xs2.c]) w05 fun xs3 w06 => w_.isSome = true ∧ Put ((gA w_).add 2) (.slice xs3.A xs3.n xs3.c) w06 fun w07 => R 0 w07)
theorem Fworld_World_do.calls (w_ : Option Addr) (c : Array Value) (w : World) (R : Int → World → Prop) (h : Fworld_World_do w_ c w R) : Cworld_World_do w_ c w R :=
  calls_of_vc (anOp_ok callable) wide Try.func70 [] [.i .i64] [.pointer w_, .agg c] w R (Eq.mp (show Fworld_World_do w_ c w R = vcF Try.prog G Try.f70 [] [.i .i64] [.pointer w_, .agg c] w R by kernel_rfl) h)
end Go.Proofs.Ytaneeadpjelomaa

/- Layer 3: files in a map, and a change applied to them. -/
namespace Go.Proofs.Ytaneeadpjelomaa
open Go CF

abbrev Files := ByteArray → Option L8
def wr (f : L8) (o : Nat) (p : L8) : L8 :=
  (f ++ List.replicate (o + p.length - f.length) 0).take o ++ p ++ (f ++ List.replicate (o + p.length - f.length) 0).drop (o + p.length)
def setF (F : Files) (s : ByteArray) (v : Option L8) : Files := fun t => if t = s then v else F t
def applyWr (F : Files) (s : ByteArray) (o : Nat) (p : L8) : Files := setF F s (some (wr ((F s).getD []) o p))
theorem wr_len (f : L8) (o : Nat) (p : L8) : (wr f o p).length = max f.length (o + p.length) := by
  unfold wr
  simp only [List.length_append, List.length_take, List.length_drop, List.length_replicate]
  omega
theorem mn_nat (a b : Nat) : mn (a : Int) (b : Int) = ((min a b : Nat) : Int) := by
  unfold mn; split <;> omega
/-- a file's bytes, as they lie in the map -/
def FileAt (w : World) (v : Option Value) : Option L8 → Prop
  | none => v = none
  | some l => ∃ s : Sl, v = some (.slice s.A s.n s.c) ∧ Own w 0 t_uint8 1 s (bv l) ∧ l.length ≤ 1048576
def IsF (w : World) (mb : Nat) (F : Files) : Prop := ∃ m, SMap w mb m ∧ ∀ s, FileAt w (m s) (F s)
theorem own_heap {w : World} {base : Nat} {e : TypeId} {z : Nat} {s : Sl} {vs : List Value} (h : Own w base e z s vs) {g : Nat} (hg : s.blk = some g) : ∃ cur, w.heap[g]? = some (.cells cur e (0, 0)) := by
  rcases h.2 with ⟨h2, _⟩ | ⟨g', cap, cur, hv, _, hh, _⟩
  · injection h2 with hA; simp [Sl.blk, hA] at hg
  · injection hv with hA
    simp [Sl.blk, hA] at hg
    subst hg
    exact ⟨cur, hh⟩
/-- these blocks hold no bytes -/
def NoBytes (w : World) (S : Nat → Prop) : Prop := ∀ g cur, w.heap[g]? = some (.cells cur t_uint8 (0, 0)) → ¬ S g
theorem FileAt.keep {S : Nat → Prop} {w w' : World} {v : Option Value} {l : Option L8} (h : FileAt w v l) (k : Keep S w w') (hn : NoBytes w S) : FileAt w' v l := by
  cases l with
  | none => exact h
  | some l =>
    obtain ⟨s, h1, h2, h3⟩ := h
    refine ⟨s, h1, h2.keep k fun b hb => ?_, h3⟩
    obtain ⟨cur, hc⟩ := own_heap h2 hb
    exact hn b cur hc
theorem IsF.keep {S : Nat → Prop} {w w' : World} {mb : Nat} {F : Files} (h : IsF w mb F) (k : Keep S w w') (hm : ¬ S mb) (hn : NoBytes w S) : IsF w' mb F := by
  obtain ⟨m, h1, h2⟩ := h
  exact ⟨m, h1.keep k hm, fun s => (h2 s).keep k hn⟩
theorem nobytes_none (w : World) : NoBytes w fun _ => False := fun _ _ _ q => q
theorem IsF.grow {w w' : World} {mb : Nat} {F : Files} (h : IsF w mb F) (k : Grow w w') : IsF w' mb F := h.keep k (fun q => q) (nobytes_none w)
theorem isF_new (w : World) : IsF (w.alloc (.map #[] 0)) w.heap.size fun _ => none := ⟨_, smap_new w, fun _ => rfl⟩
theorem isF_lt {w : World} {mb : Nat} {F : Files} (h : IsF w mb F) : mb < w.heap.size := by
  obtain ⟨m, ⟨es, c, hb, _⟩, _⟩ := h
  exact lt_of_heap hb
theorem isF_map {w : World} {mb : Nat} {F : Files} (h : IsF w mb F) (cur : Array Value) (t : TypeId) (fr : Nat × Nat) : w.heap[mb]? ≠ some (.cells cur t fr) := by
  obtain ⟨m, ⟨es, c, hb, _⟩, _⟩ := h
  rw [hb]; intro q; cases q
theorem nobytes_map {w : World} {mb : Nat} {F : Files} (h : IsF w mb F) : NoBytes w fun k => k = mb := fun g cur hg q => by
  subst q; exact isF_map h _ _ _ hg
theorem zero_rule {P : Program} {w : World} {e : TypeId} {zv : Value} {z bytes : Nat} (hinfo : (P.info? e).map (fun i => (i.zero, i.size, i.bytes)) = some (some zv, z, bytes)) : (zeroValue e).run P w = .ok zv w := by
  obtain ⟨i, hi, hzz⟩ := Option.map_eq_some_iff.1 hinfo
  simp only [Prod.mk.injEq] at hzz
  simp [zeroValue, typeInfo, hi, hzz.1]
theorem file_look {w : World} {mb : Nat} {F : Files} (h : IsF w mb F) (s : ByteArray) :
    ∃ r : Sl × Bool, (Instr.lookup t_map_string_sl_uint8 (.map (some mb)) (.string s) true).run Try.prog w = .ok (.tuple #[.slice r.1.A r.1.n r.1.c, .bool r.2]) w ∧
      (Instr.lookup t_map_string_sl_uint8 (.map (some mb)) (.string s) false).run Try.prog w = .ok (.slice r.1.A r.1.n r.1.c) w ∧ Own w 0 t_uint8 1 r.1 (bv ((F s).getD [])) ∧ r.2 = (F s).isSome ∧ ((F s).getD []).length ≤ 1048576 := by
  obtain ⟨m, hm, hf⟩ := h
  obtain ⟨l1, l2⟩ := look_rule u_map_string_sl_uint8 u_string (zero_rule i_sl_uint8) hm s
  have hs := hf s
  cases hF : F s with
  | none =>
    rw [hF] at hs
    have hs : m s = none := hs
    rw [hs] at l1 l2
    exact ⟨(⟨none, 0, 0⟩, false), l1, l2, own_nil _ _ _ _, rfl, by simp⟩
  | some l =>
    rw [hF] at hs
    obtain ⟨sl, h1, h2, h3⟩ := hs
    rw [h1] at l1 l2
    exact ⟨(sl, true), l1, l2, h2, rfl, h3⟩
theorem file_put {w : World} {mb : Nat} {F : Files} (h : IsF w mb F) (s : ByteArray) {f : Sl} {l : L8} (hf : Own w 0 t_uint8 1 f (bv l)) (hl : l.length ≤ 1048576)
    {K : World → Prop} (hK : ∀ w', IsF w' mb (setF F s (some l)) → Keep (fun k => k = mb) w w' → K w') : RunU Try.prog (Instr.mapUpdate t_map_string_sl_uint8 (.map (some mb)) (.string s) (.slice f.A f.n f.c)) w K := by
  have hnb := nobytes_map h
  obtain ⟨m, hm, hs⟩ := h
  refine upd_rule u_map_string_sl_uint8 u_string hm s _ fun w1 hm1 hk1 _ => hK w1 ⟨_, hm1, fun t => ?_⟩ hk1
  unfold upd setF
  by_cases q : t = s
  · rw [if_pos q, if_pos q]
    refine ⟨f, rfl, hf.keep hk1 fun b hb => ?_, hl⟩
    obtain ⟨cur, hc⟩ := own_heap hf hb
    exact hnb b cur hc
  · rw [if_neg q, if_neg q]
    exact (hs t).keep hk1 hnb
theorem bv_rep (j : Nat) : bv (List.replicate j 0) ++ [.int .u8 0] = bv (List.replicate (j + 1) 0) := by
  rw [List.replicate_succ', bv_append]; rfl
theorem apply_w_spec {w : World} {mb : Nat} {F : Files} {name to : ByteArray} {off k : Nat} {p : Sl} {bs : L8} {R : World → Prop} (hF : IsF w mb F) (hp : Rd w 1 p (bv bs)) (hb : off + bs.length ≤ 1048576)
    (h : ∀ w', Keep (fun k => k = mb) w w' → IsF w' mb (applyWr F name off (bs.take k)) → R w') :
    Cworld_apply (some mb) #[.int .u8 119, .string name, .string to, .int .i64 (off : Int), .slice p.A p.n p.c] (k : Int) w R := by
  refine Fworld_apply.calls _ _ _ _ _ ?_
  refine new_rule fun cb w0 hcb hb0 hg0 hsz0 => ?_
  have hb0 : Blk w0 cb #[.int .u8 119, .string name, .string to, .int .i64 (off : Int), .slice p.A p.n p.c] t_world_change := hb0
  have c0 : ∀ {u : World}, Blk u cb #[.int .u8 119, .string name, .string to, .int .i64 (off : Int), .slice p.A p.n p.c] t_world_change → u.cell? ((⟨cb, 0, none⟩ : Addr).add 0) = some (.int .u8 119) := fun q => by rw [add0, q.cell]; rfl
  have c1 : ∀ {u : World}, Blk u cb #[.int .u8 119, .string name, .string to, .int .i64 (off : Int), .slice p.A p.n p.c] t_world_change → u.cell? ((⟨cb, 0, none⟩ : Addr).add 1) = some (.string name) := fun q => by rw [add0, q.cell]; rfl
  have c3 : ∀ {u : World}, Blk u cb #[.int .u8 119, .string name, .string to, .int .i64 (off : Int), .slice p.A p.n p.c] t_world_change → u.cell? ((⟨cb, 0, none⟩ : Addr).add 3) = some (.int .i64 (off : Int)) := fun q => by rw [add0, q.cell]; rfl
  have c4 : ∀ {u : World}, Blk u cb #[.int .u8 119, .string name, .string to, .int .i64 (off : Int), .slice p.A p.n p.c] t_world_change → u.cell? ((⟨cb, 0, none⟩ : Addr).add 4) = some (.slice p.A p.n p.c) := fun q => by rw [add0, q.cell]; rfl
  have hpn : bs.length = p.n := by have := hp.len; rw [bv_length] at this; omega
  have hcap := hp.cap
  refine ⟨119, c0 hb0, br_t rfl ?_⟩
  have hmn := mn_nat k p.n
  refine ⟨p, c4 hb0, p, c4 hb0, ⟨by omega, by omega, by omega, by omega⟩, name, c1 hb0, ?_⟩
  rw [hmn]
  obtain ⟨r, _, hlk, hown, _, hol⟩ := file_look (hF.grow hg0) name
  generalize hold : (F name).getD [] = old at *
  have hrn : old.length = r.1.n := by have := hown.len; rw [bv_length] at this; omega
  refine ⟨r.1, hlk, ?_⟩
  refine append_rule (s := ⟨none, 0, 0⟩) (vs := []) (base := w0.heap.size) u_sl_uint8 i_uint8 rfl (by decide) (by decide) (own_nil _ _ _ _) (hown.rd (by omega)) (by intro u hu; simp only [bv, List.mem_map] at hu; obtain ⟨_, _, rfl⟩ := hu; rfl) (by show (0 + r.1.n) * 1 ≤ _; omega) (Nat.le_refl _) fun s1 w1 hn1 hown1 hk1 _ => ?_
  have hg1 : Grow w0 w1 := hk1.mono fun i hi q => by cases q
  rw [List.nil_append] at hown1
  simp only [Int.toNat_natCast, Nat.sub_zero]
  generalize hL : (bs.take k).length = L at *
  have hLm : min k p.n = L := by rw [← hL, List.length_take]; omega
  rw [hLm]
  have hLb : off + L ≤ 1048576 := by rw [← hL, List.length_take]; omega
  refine ⟨fun f w' => ∃ j : Nat, Grow w0 w' ∧ Own w' w0.heap.size t_uint8 1 f (bv (old ++ List.replicate j 0)) ∧ (j = 0 ∨ old.length + j ≤ off + L), fun f _ => off + L - f.n, ⟨0, hg1, by simpa using hown1, .inl rfl⟩, ?_⟩
  rintro f w2 ⟨j, hg2, hown2, hj⟩
  have hfn : old.length + j = f.n := by have := hown2.len; rw [bv_length, List.length_append, List.length_replicate] at this; omega
  have hb2 := hg2.heap hb0 (fun q => q)
  refine ⟨(off : Int), c3 hb2, ?_⟩
  have hwp : IntKind.wrap .i64 ((off : Int) + (L : Int)) = ((off + L : Nat) : Int) := by rw [w64 (by omega) (by omega)]; omega
  refine br_dec (fun hlt => ?_) (fun hge => ?_)
  · rw [hwp] at hlt
    refine lit_rule (cells := #[.int .u8 0]) (e := t_uint8) (z := 1) (base := w0.heap.size) (by kernel_rfl) rfl (by decide) hg2.size fun w3 hlit3 hg3 _ => ?_
    refine append_rule u_sl_uint8 i_uint8 rfl (by decide) (by decide) (hown2.grow hg3) (hlit3.rd (by show 1 ≤ _; decide)) (by simp [Value.oneCell']) (by show (f.n + 1) * 1 ≤ _; omega) (hg2.trans hg3).size fun f4 w4 hn4 hown4 hk4 _ => ?_
    refine ⟨⟨j + 1, (hg2.trans hg3).keep hk4 fun i hi q => by have := (hown2.ge i q.symm).1; omega, ?_, .inr (by omega)⟩, ?_⟩
    · have e : bv (old ++ List.replicate (j + 1) 0) = bv (old ++ List.replicate j 0) ++ [.int .u8 0] := by
        rw [bv_append, bv_append, List.append_assoc, bv_rep]
      rw [e]; exact hown4
    · have : f4.n = f.n + 1 := hn4
      dsimp only
      omega
  · rw [hwp] at hge
    have hjv : j = off + L - old.length := by omega
    have hfr := hown2.rd (by omega)
    have hfc := hfr.cap
    refine ⟨(off : Int), c3 hb2, ⟨by omega, by omega, by omega, by omega⟩, ?_⟩
    simp only [Int.toNat_natCast]
    have hx := (hp.grow (hg0.trans hg2)).cutB (l := 0) (k := L) (Nat.zero_le _) (by omega)
    simp only [List.drop_zero, Nat.sub_zero] at hx
    have hxt : bs.take L = bs.take k := by
      rw [← hL, List.length_take]
      rcases Nat.le_total k bs.length with q | q
      · rw [Nat.min_eq_left q]
      · rw [Nat.min_eq_right q, List.take_length, List.take_of_length_le q]
    rw [hxt] at hx
    refine copy_rule (x := ⟨cutA p.A p.c 0 1, L, p.c⟩) (o := off) u_sl_uint8 i_uint8 hown2 hx (by intro u hu; simp only [bv, List.mem_map] at hu; obtain ⟨_, _, rfl⟩ := hu; rfl) (by show off + L ≤ f.n; omega) fun w3 hown3 hk3 _ => ?_
    have hcf : f.blk ≠ some cb := fun q => by have := (hown2.ge cb q).1; omega
    have hb3 := hk3.heap hb2 (fun q => hcf q.symm)
    refine ⟨name, c1 hb3, ?_⟩
    have hg3 : Grow w0 w3 := hg2.keep hk3 fun i hi q => by have := (hown2.ge i q.symm).1; omega
    have hgw : Grow w w3 := hg0.trans hg3
    have hres : Own w3 0 t_uint8 1 f (bv (wr old off (bs.take k))) := by
      refine Own.mono (base := w0.heap.size) ?_ (Nat.zero_le _)
      have e : bv (wr old off (bs.take k)) = (bv (old ++ List.replicate j 0)).take off ++ bv (bs.take k) ++ (bv (old ++ List.replicate j 0)).drop (off + L) := by
        unfold wr
        rw [hL, ← hjv, bv_append, bv_append, bv_take, bv_drop]
      rw [e]
      exact hown3
    refine file_put (hF.grow hgw) name hres (by rw [wr_len, hL]; omega) fun w4 hF4 hk4 => ?_
    refine h w4 (Keep.trans (hgw.mono fun _ _ q => q.elim) hk4 fun _ _ q => q) ?_
    unfold applyWr
    rw [hold]
    exact hF4
end Go.Proofs.Ytaneeadpjelomaa

/- Rules of maps with ints for keys (CfP turned). -/
namespace Go.Proofs.Ytaneeadpjelomaa.CF
open Go Go.RowKit

/-- all keys are strings -/
def IKeys (es : List MapEntry) : Prop := ∀ e ∈ es, ∃ s, e.key = .int .i64 s
def iidx : List MapEntry → Int → Nat → Option (Nat × Value)
  | [], _, _ => none
  | e :: r, s, i => match e.key with
    | .int .i64 t => if s = t then some (i, e.val) else iidx r s (i + 1)
    | _ => iidx r s (i + 1)
def iget (es : List MapEntry) (s : Int) : Option Value := (iidx es s 0).map (·.2)
theorem findNow_int {s : Int} : ∀ {es : List MapEntry} (i : Nat), IKeys es → Instr.findNow (.int .i64) (.int .i64 s) es i = some (iidx es s i)
  | [], _, _ => rfl
  | e :: r, i, h => by
    obtain ⟨t, ht⟩ := h e (by simp)
    have ih := findNow_int (s := s) (i + 1) (fun x hx => h x (by simp [hx]) : IKeys r)
    unfold Instr.findNow iidx
    rw [ht]
    simp only [Instr.sameNow]
    by_cases e : s = t
    · have : (s == t) = true := beq_iff_eq.2 e
      simp only [if_true, this]
      simp only [if_pos e]
    · have : (s == t) = false := Bool.eq_false_iff.2 fun q => e (beq_iff_eq.1 q)
      simp only [if_true, this]
      simp only [if_neg e]
      exact ih
theorem iidx_shift {s : Int} : ∀ (es : List MapEntry) (i j : Nat), iidx es s (i + j) = (iidx es s i).map fun p => (p.1 + j, p.2)
  | [], _, _ => rfl
  | e :: r, i, j => by
    unfold iidx
    have := iidx_shift (s := s) r (i + 1) j
    rw [show i + 1 + j = i + j + 1 by omega] at this
    cases e.key with
    | int k t =>
      cases k with
      | i64 => by_cases q : s = t <;> simp [q, this]
      | _ => simpa using this
    | _ => simpa using this
theorem iget_nil (s : Int) : iget [] s = none := rfl
theorem iget_cons {e : MapEntry} {r : List MapEntry} {t : Int} (h : e.key = .int .i64 t) (s : Int) : iget (e :: r) s = if s = t then some e.val else iget r s := by
  unfold iget
  conv => lhs; unfold iidx
  rw [h]
  by_cases q : s = t
  · simp [q]
  · simp only [if_neg q]
    rw [iidx_shift r 0 1, Option.map_map]
    rfl
theorem iget_push {es : List MapEntry} {s : Int} {e : MapEntry} (hk : IKeys es) (he : e.key = .int .i64 s) (hn : iget es s = none) (t : Int) :
    iget (es ++ [e]) t = if t = s then some e.val else iget es t := by
  induction es with
  | nil => rw [List.nil_append, iget_cons he]
  | cons x r ih =>
    obtain ⟨u, hu⟩ := hk x (by simp)
    rw [iget_cons hu] at hn
    rw [List.cons_append, iget_cons hu, iget_cons hu]
    by_cases q : s = u
    · rw [if_pos q] at hn; cases hn
    · rw [if_neg q] at hn
      rw [ih (fun x hx => hk x (by simp [hx])) hn]
      by_cases q1 : t = u
      · by_cases q2 : t = s
        · exact absurd (q2.symm.trans q1) q
        · rw [if_pos q1, if_neg q2, if_pos q1]
      · simp only [if_neg q1]
theorem iget_modify {es : List MapEntry} {s : Int} {i : Nat} {v v' : Value} (hk : IKeys es) (hn : iidx es s 0 = some (i, v)) (t : Int) :
    iget (es.modify i fun e => { e with key := .int .i64 s, val := v' }) t = if t = s then some v' else iget es t := by
  induction es generalizing i with
  | nil => cases hn
  | cons x r ih =>
    obtain ⟨u, hu⟩ := hk x (by simp)
    unfold iidx at hn
    rw [hu] at hn
    by_cases q : s = u
    · simp only [if_pos q, Option.some.injEq, Prod.mk.injEq] at hn
      obtain ⟨rfl, _⟩ := hn
      rw [List.modify_zero_cons, iget_cons (t := s) rfl, iget_cons hu]
      by_cases q1 : t = s
      · simp [q1]
      · have q2 : t ≠ u := fun e => q1 (e.trans q.symm)
        simp [q1, q2]
    · simp only [if_neg q] at hn
      rw [iidx_shift r 0 1] at hn
      obtain ⟨p, hp, hpe⟩ := Option.map_eq_some_iff.1 hn
      simp only [Prod.mk.injEq] at hpe
      obtain ⟨rfl, hp2⟩ := hpe
      rw [List.modify_succ_cons, iget_cons hu, iget_cons hu, ih (i := p.1) (fun x hx => hk x (by simp [hx])) (by rw [hp, ← hp2])]
      by_cases q1 : t = u
      · have q2 : t ≠ s := fun e => q (e.symm.trans q1)
        simp [q1, q2]
        exact fun e => absurd e.symm q
      · simp [q1]
theorem ikeys_modify {es : List MapEntry} {s : Int} {i : Nat} {v' : Value} (hk : IKeys es) : IKeys (es.modify i fun e => { e with key := .int .i64 s, val := v' }) := by
  intro e he
  obtain ⟨j, hj, rfl⟩ := List.getElem_of_mem he
  rw [List.getElem_modify]
  split
  · exact ⟨s, rfl⟩
  · exact hk _ (List.getElem_mem _)
theorem iidx_at {es : Array MapEntry} {s : Int} {i j : Nat} {v : Value} (hs : IKeys es.toList) (h : iidx es.toList s j = some (j + i, v)) : ∃ e0, es[i]? = some e0 ∧ e0.key = .int .i64 s := by
  rw [← Array.getElem?_toList]
  generalize es.toList = l at *
  induction l generalizing i j with
  | nil => cases h
  | cons x r ih =>
    obtain ⟨u, hu⟩ := hs x (by simp)
    unfold iidx at h
    rw [hu] at h
    by_cases q : s = u
    · simp only [if_pos q, Option.some.injEq, Prod.mk.injEq] at h
      have : i = 0 := by omega
      subst this
      exact ⟨x, rfl, by rw [hu, q]⟩
    · simp only [if_neg q] at h
      have hi : 0 < i := by
        rw [show j + 1 = 0 + (j + 1) by omega, iidx_shift] at h
        obtain ⟨p, _, hp⟩ := Option.map_eq_some_iff.1 h
        simp only [Prod.mk.injEq] at hp
        omega
      obtain ⟨i', rfl⟩ : ∃ i', i = i' + 1 := ⟨i - 1, by omega⟩
      rw [List.getElem?_cons_succ]
      exact ih (j := j + 1) (fun y hy => hs y (by simp [hy])) (by rw [h]; congr 2; omega)
/-- a map that holds these values -/
def IMap (w : World) (b : Nat) (m : Int → Option Value) : Prop :=
  ∃ es clock, w.heap[b]? = some (.map es clock) ∧ IKeys es.toList ∧ ∀ s, iget es.toList s = m s
def iupd (m : Int → Option Value) (s : Int) (v : Value) : Int → Option Value := fun t => if t = s then some v else m t
theorem IMap.keep {S : Nat → Prop} {w w' : World} {b : Nat} {m : Int → Option Value} (h : IMap w b m) (k : Keep S w w') (hn : ¬ S b) : IMap w' b m := by
  obtain ⟨es, c, h1, h2⟩ := h
  exact ⟨es, c, k.heap h1 hn, h2⟩
theorem imap_new (w : World) : IMap (w.alloc (.map #[] 0)) w.heap.size fun _ => none :=
  ⟨#[], 0, by show (w.heap.push _)[w.heap.size]? = _; simp, fun e he => by simp at he, fun s => rfl⟩
section
variable {P : Program} {w : World} {b : Nat} {m : Int → Option Value} {t k e : TypeId}
theorem irun_getMap {es : Array MapEntry} {clock : Nat} (h : w.heap[b]? = some (.map es clock)) : (getObj b).run P w = .ok (.map es clock) w := by
  simp [getObj, Sem.run, h]
theorem checkKey_i (ek : Bool) (n : Nat) (hk : P.underlying k = some (.int .i64)) (s : Int) : (Instr.checkKey ek (n + 1) k (.int .i64 s)).run P w = .ok () w := by
  unfold Instr.checkKey
  simp [run_underlying hk]
theorem findKey_int {es : List MapEntry} (hk : P.underlying k = some (.int .i64)) (hs : IKeys es) (s : Int) : (Instr.findKey k (.int .i64 s) es).run P w = .ok (iidx es s 0) w := by
  unfold Instr.findKey
  simp [run_underlying hk, findNow_int 0 hs]
theorem ilook_rule (ht : P.underlying t = some (.map k e)) (hk : P.underlying k = some (.int .i64)) {zv : Value} (hz : (zeroValue e).run P w = .ok zv w) (h : IMap w b m) (s : Int) :
    (Instr.lookup t (.map (some b)) (.int .i64 s) true).run P w = .ok (.tuple #[(m s).getD zv, .bool (m s).isSome]) w ∧
    (Instr.lookup t (.map (some b)) (.int .i64 s) false).run P w = .ok ((m s).getD zv) w := by
  obtain ⟨es, c, hb, hs, hm⟩ := h
  have := hm s
  unfold iget at this
  unfold Instr.lookup
  constructor
  · cases hi : iidx es.toList s 0 with
    | none =>
      rw [hi] at this
      simp only [Option.map_none] at this
      rw [← this]
      simp [run_underlying ht, irun_getMap hb, checkKey_i _ _ hk, findKey_int hk hs, hi, hz]
    | some p =>
      rw [hi] at this
      simp only [Option.map_some] at this
      rw [← this]
      simp [run_underlying ht, irun_getMap hb, checkKey_i _ _ hk, findKey_int hk hs, hi]
  · cases hi : iidx es.toList s 0 with
    | none =>
      rw [hi] at this
      simp only [Option.map_none] at this
      rw [← this]
      simp [run_underlying ht, irun_getMap hb, checkKey_i _ _ hk, findKey_int hk hs, hi, hz]
    | some p =>
      rw [hi] at this
      simp only [Option.map_some] at this
      rw [← this]
      simp [run_underlying ht, irun_getMap hb, checkKey_i _ _ hk, findKey_int hk hs, hi]
theorem irun_setMap {o : Obj} {es : Array MapEntry} {c : Nat} (h : w.heap[b]? = some (.map es c)) : (setObj b o).run P w = .ok () { w with heap := w.heap.setIfInBounds b o } := by
  simp [setObj, Sem.run, h]
/-- a value under a key -/
theorem iupd_rule (ht : P.underlying t = some (.map k e)) (hk : P.underlying k = some (.int .i64)) (h : IMap w b m) (s : Int) (v : Value)
    {K : World → Prop} (hK : ∀ w1, IMap w1 b (iupd m s v) → Keep (fun k => k = b) w w1 → w1.heap.size = w.heap.size → K w1) : RunU P (Instr.mapUpdate t (.map (some b)) (.int .i64 s) v) w K := by
  obtain ⟨es, c, hb, hs, hm⟩ := h
  have hlt := lt_of_heap hb
  have hget : ∀ (o : Obj), ({ w with heap := w.heap.setIfInBounds b o } : World).heap[b]? = some o := fun o => by
    simp [hlt]
  have hkeep : ∀ (o : Obj), Keep (fun k => k = b) w { w with heap := w.heap.setIfInBounds b o } := fun o =>
    ⟨rfl, rfl, rfl, by simp, fun k _ hn => by simp [Array.getElem?_setIfInBounds, Ne.symm hn]⟩
  cases hi : iidx es.toList s 0 with
  | none =>
    have hn : iget es.toList s = none := by unfold iget; rw [hi]; rfl
    refine ⟨_, ?_, hK { w with heap := w.heap.setIfInBounds b (.map (es.push { key := .int .i64 s, val := v, born := c }) (c + 1)) } ⟨_, _, hget _, ?_, fun t => ?_⟩ (hkeep _) (by simp)⟩
    · unfold Instr.mapUpdate
      simp [run_underlying ht, irun_getMap hb, checkKey_i _ _ hk, findKey_int hk hs, hi, irun_setMap hb]
    · intro e he
      rw [Array.toList_push, List.mem_append, List.mem_singleton] at he
      rcases he with he | rfl
      · exact hs e he
      · exact ⟨s, rfl⟩
    · rw [Array.toList_push, iget_push hs rfl hn]
      unfold iupd
      rw [hm]
  | some p =>
    obtain ⟨i, v0⟩ := p
    have hold : ∃ e0, es[i]? = some e0 ∧ e0.key = .int .i64 s := iidx_at (j := 0) hs (by rw [hi, Nat.zero_add])
    obtain ⟨e0, he0, hk0⟩ := hold
    refine ⟨_, ?_, hK { w with heap := w.heap.setIfInBounds b (.map (es.modify i fun e => { e with key := .int .i64 s, val := v }) c) } ⟨_, _, hget _, ?_, fun t => ?_⟩ (hkeep _) (by simp)⟩
    · unfold Instr.mapUpdate
      simp [run_underlying ht, irun_getMap hb, checkKey_i _ _ hk, findKey_int hk hs, hi, irun_setMap hb, he0, hk0, Instr.keyThatStays, Instr.sameBits]
    · rw [Array.toList_modify]; exact ikeys_modify hs
    · rw [Array.toList_modify, iget_modify hs hi]
      unfold iupd
      rw [hm]
end
end Go.Proofs.Ytaneeadpjelomaa.CF

/- Layer 3: the world's calls; a plan: the numbers of the calls that fail. -/
namespace Go.Proofs.Ytaneeadpjelomaa
open Go CF

/-- what waits -/
structure Cg where
  kind : Int
  name : ByteArray
  to : ByteArray
  off : Nat
  p : L8
def cgv (x : Cg × Sl) : List Value := [.int .u8 x.1.kind, .string x.1.name, .string x.1.to, .int .i64 (x.1.off : Int), .slice x.2.A x.2.n x.2.c]
theorem cgv_len (x : Cg × Sl) : (cgv x).length = 5 := rfl
/-- a world as it is meant: no call fails -/
structure Wst where
  seen : Files
  dur : Files
  waits : List Cg
  ops : Nat
/-- a plan: the map that holds it, the calls that fail -/
structure Pl where
  mf : Option Nat
  F : Int → Bool
def PlanAt (w : World) (pl : Pl) : Prop := match pl.mf with
  | none => ∀ n, pl.F n = false
  | some b => ∃ m, IMap w b m ∧ ∀ n, (m n).getD (.bool false) = .bool (pl.F n)
def noPlan : Pl := ⟨none, fun _ => false⟩
theorem PlanAt.keep {S : Nat → Prop} {w w' : World} {pl : Pl} (h : PlanAt w pl) (k : Keep S w w') (hn : ∀ b, pl.mf = some b → ¬ S b) : PlanAt w' pl := by
  obtain ⟨mf, F⟩ := pl
  cases mf with
  | none => exact h
  | some b =>
    obtain ⟨m, h1, h2⟩ := h
    exact ⟨m, h1.keep k (hn b rfl), h2⟩
theorem PlanAt.map {w : World} {pl : Pl} (h : PlanAt w pl) {b : Nat} (hb : pl.mf = some b) : ∃ es c, w.heap[b]? = some (.map es c) := by
  obtain ⟨mf, F⟩ := pl
  simp only at hb
  subst hb
  obtain ⟨m, ⟨es, c, h1, _⟩, _⟩ := h
  exact ⟨es, c, h1⟩
def wcells (mf : Option Nat) (mb md : Nat) (ws : Sl) (ops : Nat) : Array Value := #[.map (some mb), .map (some md), .slice ws.A ws.n ws.c, .int .i64 (ops : Int), .map mf, .int .i64 (-1), .bool false]
/-- the world lies at a block; D: the blocks that it may write over -/
structure IsWd (w : World) (pw : Nat) (D : Nat → Prop) (st : Wst) (pl : Pl) (mb md : Nat) (ws : Sl) (cs : List (Cg × Sl)) : Prop where
  blk : Blk w pw (wcells pl.mf mb md ws st.ops) t_world_World
  seen : IsF w mb st.seen
  dur : IsF w md st.dur
  ne : mb ≠ md
  own : Own w 0 t_world_change 5 ws (cs.flatMap cgv)
  waits : cs.map (·.1) = st.waits
  rows : ∀ c ∈ cs, Own w 0 t_uint8 1 c.2 (bv c.1.p)
  dw : D pw
  db : D mb
  dd : D md
  ds : ∀ g, ws.blk = some g → D g
  lt : ∀ k, D k → k < w.heap.size
  nb : NoBytes w D
  plan : PlanAt w pl
  dp : ∀ b, pl.mf = some b → D b
  np : pl.mf ≠ some mb ∧ pl.mf ≠ some md
/-- a world whose calls of these numbers fail -/
def IsWq (w : World) (pw : Nat) (D : Nat → Prop) (st : Wst) (F : Int → Bool) : Prop := ∃ pl, pl.F = F ∧ ∃ mb md ws cs, IsWd w pw D st pl mb md ws cs
def quiet : Int → Bool := fun _ => false
abbrev IsW (w : World) (pw : Nat) (D : Nat → Prop) (st : Wst) : Prop := IsWq w pw D st quiet
theorem IsWd.keep {S : Nat → Prop} {w w' : World} {pw : Nat} {D : Nat → Prop} {st : Wst} {pl : Pl} {mb md : Nat} {ws : Sl} {cs : List (Cg × Sl)} (h : IsWd w pw D st pl mb md ws cs) (k : Keep S w w') (hd : ∀ k, D k → ¬ S k) (hs : NoBytes w S) :
    IsWd w' pw D st pl mb md ws cs := by
  have hsz := k.size
  refine ⟨k.heap h.blk (hd _ h.dw), h.seen.keep k (hd _ h.db) hs, h.dur.keep k (hd _ h.dd) hs, h.ne, h.own.keep k fun b hb => hd _ (h.ds b hb), h.waits, fun c hc => (h.rows c hc).keep k fun b hb => ?_, h.dw, h.db, h.dd, h.ds, fun k hk => by have := h.lt k hk; omega, fun g cur hg q => ?_, h.plan.keep k fun b hb => hd _ (h.dp b hb), h.dp, h.np⟩
  · obtain ⟨cur, hcur⟩ := own_heap (h.rows c hc) hb
    exact hs b cur hcur
  · have hlt := h.lt g q
    have := k.block g hlt (hd g q)
    exact h.nb g cur (by rw [← this]; exact hg) q
theorem IsW.q {w : World} {pw : Nat} {D : Nat → Prop} {st : Wst} (h : IsW w pw D st) : IsWq w pw D st quiet := h
theorem IsWq.isW {w : World} {pw : Nat} {D : Nat → Prop} {st : Wst} (h : IsWq w pw D st quiet) : IsW w pw D st := h
theorem IsWq.keep {S : Nat → Prop} {w w' : World} {pw : Nat} {D : Nat → Prop} {st : Wst} {F : Int → Bool} (h : IsWq w pw D st F) (k : Keep S w w') (hd : ∀ k, D k → ¬ S k) (hs : NoBytes w S) : IsWq w' pw D st F := by
  obtain ⟨pl, hq, mb, md, ws, cs, h⟩ := h
  exact ⟨pl, hq, mb, md, ws, cs, h.keep k hd hs⟩
theorem IsWq.grow {w w' : World} {pw : Nat} {D : Nat → Prop} {st : Wst} {F : Int → Bool} (h : IsWq w pw D st F) (k : Grow w w') : IsWq w' pw D st F := h.keep k (fun _ _ q => q) (nobytes_none w)
/-- a world made -/
theorem world_new_spec {w : World} {R : Option Addr → World → Prop}
    (h : ∀ pw D w', Grow w w' → IsW w' pw D ⟨fun _ => none, fun _ => none, [], 0⟩ → (∀ k, D k → w.heap.size ≤ k) → R (some ⟨pw, 0, none⟩) w') : Cworld_New w R := by
  refine Fworld_New.calls _ _ ?_
  rintro mb w1 rfl rfl
  rintro md w2 rfl rfl
  refine new_rule fun pw w3 hpw hb3 hg3 hsz3 => ?_
  have hg1 := keep_alloc w (.map #[] 0)
  have hg2 := keep_alloc (w.alloc (.map #[] 0)) (.map #[] 0)
  have s1 : (w.alloc (.map #[] 0)).heap.size = w.heap.size + 1 := by simp
  have s2 : ((w.alloc (.map #[] 0)).alloc (.map #[] 0)).heap.size = w.heap.size + 2 := by simp
  have f1 : IsF w3 w.heap.size fun _ => none := ((isF_new w).grow hg2).grow hg3
  have f2 : IsF w3 (w.alloc (.map #[] 0)).heap.size fun _ => none := (isF_new _).grow hg3
  refine h pw (fun k => k = pw ∨ k = w.heap.size ∨ k = (w.alloc (.map #[] 0)).heap.size) w3 ((hg1.trans hg2).trans hg3) ⟨noPlan, rfl, w.heap.size, (w.alloc (.map #[] 0)).heap.size, ⟨none, 0, 0⟩, [], ?_⟩ fun k hk => by omega
  refine ⟨hb3, f1, f2, by omega, own_nil _ _ _ _, rfl, fun c hc => (by cases hc), .inl rfl, .inr (.inl rfl), .inr (.inr rfl), fun g hg => (by simp [Sl.blk] at hg), fun k hk => (by omega), fun g cur hg q => ?_, fun _ => rfl, fun b hb => (by cases hb), ⟨fun q => (by cases q), fun q => (by cases q)⟩⟩
  rcases q with rfl | rfl | rfl
  · rw [hb3] at hg
    injection hg with hg
    injection hg with _ ht
    exact absurd ht (by decide)
  · exact isF_map f1 _ _ _ hg
  · exact isF_map f2 _ _ _ hg
theorem checkKey_int {P : Program} {w : World} {k : TypeId} {q : IntKind} (ek : Bool) (n : Nat) (hk : P.underlying k = some (.int q)) (z : Int) : (Instr.checkKey ek (n + 1) k (.int q z)).run P w = .ok () w := by
  unfold Instr.checkKey
  simp [run_underlying hk]
theorem nil_look (w : World) (n : Int) : (Instr.lookup t_map_int_bool (.map none) (.int .i64 n) false).run Try.prog w = .ok (.bool false) w := by
  have hf : (Instr.findKey 3 (.int .i64 n) []).run Try.prog w = .ok none w := by
    unfold Instr.findKey
    simp [run_underlying u_int, Instr.findNow]
  unfold Instr.lookup
  simp [run_underlying u_map_int_bool, checkKey_int _ _ u_int, hf, zero_rule i_bool]
theorem plan_look {w : World} {pl : Pl} (h : PlanAt w pl) (n : Int) : (Instr.lookup t_map_int_bool (.map pl.mf) (.int .i64 n) false).run Try.prog w = .ok (.bool (pl.F n)) w := by
  obtain ⟨mf, F⟩ := pl
  cases mf with
  | none =>
    have e : F n = false := h n
    show _ = Result.ok (Value.bool (F n)) w
    rw [e]; exact nil_look _ _
  | some b =>
    obtain ⟨m, h1, h2⟩ := h
    have := (ilook_rule (P := Try.prog) u_map_int_bool u_int (zero_rule i_bool (w := w)) h1 n).2
    rw [h2 n] at this
    exact this
/-- a counted call -/
theorem call_any {w : World} {pw : Nat} {D : Nat → Prop} {st : Wst} {pl : Pl} {mb md : Nat} {ws : Sl} {cs : List (Cg × Sl)} {R : Int → World → Prop} (hw : IsWd w pw D st pl mb md ws cs) (ho : st.ops < 1000000000000)
    (h : ∀ w', Keep (fun k => k = pw) w w' → IsWd w' pw D { st with ops := st.ops + 1 } pl mb md ws cs → R (if pl.F (st.ops : Int) then 6 else 0) w') : Cworld_World_call (some ⟨pw, 0, none⟩) w R := by
  refine Fworld_World_call.calls _ _ _ ?_
  have hb := hw.blk
  refine ⟨rfl, false, by rw [gA, add0, hb.cell]; rfl, br_f rfl ⟨rfl, (st.ops : Int), by rw [gA, add0, hb.cell]; rfl, rfl, (st.ops : Int), by rw [gA, add0, hb.cell]; rfl, rfl, ?_⟩⟩
  rw [w64 (by omega) (by omega)]
  rw [gA, add0]
  refine put_rule hb (by show 3 < 7; decide) rfl fun w1 hb1 hk1 hsz1 => ?_
  have hb1 : Blk w1 pw (wcells pl.mf mb md ws (st.ops + 1)) t_world_World := hb1
  have fin : IsWd w1 pw D { st with ops := st.ops + 1 } pl mb md ws cs := by
    have nbp : NoBytes w fun k => k = pw := fun g cur hg q => hw.nb g cur hg (by subst q; exact hw.dw)
    have nm : mb ≠ pw := fun q => isF_map hw.seen _ _ _ (by rw [q]; exact hb)
    have nd : md ≠ pw := fun q => isF_map hw.dur _ _ _ (by rw [q]; exact hb)
    refine ⟨hb1, hw.seen.keep hk1 nm nbp, hw.dur.keep hk1 nd nbp, hw.ne, hw.own.keep hk1 fun b hb2 q => ?_, hw.waits, fun c hc => (hw.rows c hc).keep hk1 fun b hb2 => ?_, hw.dw, hw.db, hw.dd, hw.ds, fun k hk => by have := hw.lt k hk; omega, fun g cur hg q => ?_,
      hw.plan.keep hk1 fun b hb2 q => ?_, hw.dp, hw.np⟩
    · obtain ⟨cur, hc⟩ := own_heap hw.own hb2
      subst q
      rw [hb] at hc
      injection hc with hc
      injection hc with _ ht
      exact absurd ht (by decide)
    · obtain ⟨cur, hc2⟩ := own_heap (hw.rows c hc) hb2
      exact nbp b cur hc2
    · by_cases e : g = pw
      · subst e
        rw [hb1] at hg
        injection hg with hg
        injection hg with _ ht
        exact absurd ht (by decide)
      · exact hw.nb g cur (by rw [← hk1.block g (hw.lt g q) e]; exact hg) q
    · subst q
      obtain ⟨es, c, hm⟩ := hw.plan.map hb2
      rw [hb] at hm
      cases hm
  refine ⟨rfl, -1, by rw [add0, hb1.cell]; rfl, br_f (by rw [beq_eq_false_iff_ne]; omega) ⟨rfl, pl.mf, by rw [add0, hb1.cell]; rfl, pl.F (st.ops : Int), plan_look fin.plan _, ?_⟩⟩
  have := h w1 hk1 fin
  cases hf : pl.F (st.ops : Int) with
  | false => rw [hf] at this; exact br_f rfl this
  | true => rw [hf] at this; exact br_t rfl this
theorem call_spec {w : World} {pw : Nat} {D : Nat → Prop} {st : Wst} {pl : Pl} {mb md : Nat} {ws : Sl} {cs : List (Cg × Sl)} {R : Int → World → Prop} (hw : IsWd w pw D st pl mb md ws cs) (hq : pl.F (st.ops : Int) = false) (ho : st.ops < 1000000000000)
    (h : ∀ w', Keep (fun k => k = pw) w w' → IsWd w' pw D { st with ops := st.ops + 1 } pl mb md ws cs → R 0 w') : Cworld_World_call (some ⟨pw, 0, none⟩) w R :=
  call_any hw ho fun w' k hw' => by rw [hq]; exact h w' k hw'
end Go.Proofs.Ytaneeadpjelomaa

/- Layer 3: changes, writes. -/
namespace Go.Proofs.Ytaneeadpjelomaa
open Go CF

theorem blk_cells {w : World} {b : Nat} {l : List Value} {t : TypeId} (h : Blk w b l.toArray t) : Cells w ⟨b, 0, none⟩ l := fun j v hj => by
  rw [add0, h.cell]; simpa using hj
theorem blk_type {w : World} {b : Nat} {cs cs' : Array Value} {t t' : TypeId} {f : Nat × Nat} (h : Blk w b cs t) (h' : w.heap[b]? = some (.cells cs' t' f)) : t = t' := by
  rw [h] at h'
  injection h' with h'
  injection h'
theorem own_ne {w : World} {base : Nat} {e : TypeId} {z : Nat} {s : Sl} {vs : List Value} (h : Own w base e z s vs) {b : Nat} {cs : Array Value} {t : TypeId} (hb : Blk w b cs t) (hne : t ≠ e) : s.blk ≠ some b := fun q => by
  obtain ⟨cur, hc⟩ := own_heap h q
  exact hne (blk_type hb hc)
section
variable {w w' : World} {pw : Nat} {D : Nat → Prop} {st : Wst} {pl : Pl} {mb md : Nat} {ws : Sl} {cs : List (Cg × Sl)}
theorem IsWd.pm (h : IsWd w pw D st pl mb md ws cs) : mb ≠ pw ∧ md ≠ pw := ⟨fun q => isF_map h.seen _ _ _ (by rw [q]; exact h.blk), fun q => isF_map h.dur _ _ _ (by rw [q]; exact h.blk)⟩
theorem IsWd.wm (h : IsWd w pw D st pl mb md ws cs) : ws.blk ≠ some mb ∧ ws.blk ≠ some md ∧ ws.blk ≠ some pw := by
  refine ⟨fun q => ?_, fun q => ?_, own_ne h.own h.blk (by decide)⟩
  · obtain ⟨cur, hc⟩ := own_heap h.own q; exact isF_map h.seen _ _ _ hc
  · obtain ⟨cur, hc⟩ := own_heap h.own q; exact isF_map h.dur _ _ _ hc
theorem nb_set {S : Nat → Prop} (h : NoBytes w D) (hl : ∀ k, D k → k < w.heap.size) (k : Keep S w w') (hs : ∀ g cur, S g → w'.heap[g]? ≠ some (.cells cur t_uint8 (0, 0))) : NoBytes w' D := fun g cur hg q => by
  by_cases e : S g
  · exact hs g cur e hg
  · exact h g cur (by rw [← k.block g (hl g q) e]; exact hg) q
theorem IsWd.setSeen {F : Files} (h : IsWd w pw D st pl mb md ws cs) (k : Keep (fun k => k = mb) w w') (hF : IsF w' mb F) : IsWd w' pw D { st with seen := F } pl mb md ws cs := by
  have hsz := k.size
  have nb := nobytes_map h.seen
  refine ⟨k.heap h.blk (fun q => h.pm.1 q.symm), hF, h.dur.keep k (fun q => h.ne q.symm) nb, h.ne, h.own.keep k fun b hb q => h.wm.1 (by rw [hb, q]), h.waits, fun c hc => (h.rows c hc).keep k fun b hb => ?_, h.dw, h.db, h.dd, h.ds, fun k hk => (by have := h.lt k hk; omega), nb_set h.nb h.lt k fun g cur q hg => ?_, h.plan.keep k fun b hb q => h.np.1 (by rw [hb, q]), h.dp, h.np⟩
  · obtain ⟨cur, hcur⟩ := own_heap (h.rows c hc) hb
    exact nb b cur hcur
  · subst q; exact isF_map hF _ _ _ hg
theorem IsWd.setDur {F : Files} (h : IsWd w pw D st pl mb md ws cs) (k : Keep (fun k => k = md) w w') (hF : IsF w' md F) : IsWd w' pw D { st with dur := F } pl mb md ws cs := by
  have hsz := k.size
  have nb := nobytes_map h.dur
  refine ⟨k.heap h.blk (fun q => h.pm.2 q.symm), h.seen.keep k (fun q => h.ne q) nb, hF, h.ne, h.own.keep k fun b hb q => h.wm.2.1 (by rw [hb, q]), h.waits, fun c hc => (h.rows c hc).keep k fun b hb => ?_, h.dw, h.db, h.dd, h.ds, fun k hk => (by have := h.lt k hk; omega), nb_set h.nb h.lt k fun g cur q hg => ?_, h.plan.keep k fun b hb q => h.np.2 (by rw [hb, q]), h.dp, h.np⟩
  · obtain ⟨cur, hcur⟩ := own_heap (h.rows c hc) hb
    exact nb b cur hcur
  · subst q; exact isF_map hF _ _ _ hg
/-- the row of what waits, changed: the world's block tells it -/
theorem IsWd.setWaits {w1 w2 : World} {ws' : Sl} {cs' : List (Cg × Sl)} (h : IsWd w pw D st pl mb md ws cs) (k : Keep (fun k => some k = ws.blk) w w1) (hown : Own w1 0 t_world_change 5 ws' (cs'.flatMap cgv)) (hat : ws'.blk = ws.blk ∨ ws'.blk = some w.heap.size ∨ ws'.blk = none)
    (hr : ∀ c ∈ cs', Own w 0 t_uint8 1 c.2 (bv c.1.p)) (hb : Blk w2 pw (wcells pl.mf mb md ws' st.ops) t_world_World) (k2 : Keep (fun k => k = pw) w1 w2) :
    IsWd w2 pw (fun k => ((k = pw ∨ k = mb ∨ k = md) ∨ some k = ws'.blk) ∨ pl.mf = some k) { st with waits := cs'.map (·.1) } pl mb md ws' cs' ∧ Keep D w w2 ∧ ∀ k, (((k = pw ∨ k = mb ∨ k = md) ∨ some k = ws'.blk) ∨ pl.mf = some k) → D k ∨ w.heap.size ≤ k := by
  have hsz := k.size
  have hsz2 := k2.size
  have nb1 : NoBytes w fun k => some k = ws.blk := fun g cur hg q => h.nb g cur hg (h.ds g q.symm)
  have hb1 : Blk w1 pw (wcells pl.mf mb md ws st.ops) t_world_World := k.heap h.blk fun q => h.wm.2.2 q.symm
  have hwp : ws'.blk ≠ some pw := own_ne hown hb1 (by decide)
  have f1 := h.seen.keep k (fun q => h.wm.1 q.symm) nb1
  have d1 := h.dur.keep k (fun q => h.wm.2.1 q.symm) nb1
  have nb2 : NoBytes w1 fun k => k = pw := fun g cur hg q => by
    subst q; exact absurd (blk_type hb1 hg) (by decide)
  have f2 := f1.keep k2 h.pm.1 nb2
  have d2 := d1.keep k2 h.pm.2 nb2
  have o2 : Own w2 0 t_world_change 5 ws' (cs'.flatMap cgv) := hown.keep k2 fun b hb3 q => hwp (by rw [hb3, q])
  refine ⟨⟨hb, f2, d2, h.ne, o2, rfl, fun c hc => ((hr c hc).keep k fun b hb3 => ?_).keep k2 fun b hb3 => ?_, .inl (.inl (.inl rfl)), .inl (.inl (.inr (.inl rfl))), .inl (.inl (.inr (.inr rfl))), fun g hg => .inl (.inr hg.symm), fun j hj => ?_, fun g cur hg q => ?_, (h.plan.keep k fun b hb3 q => ?_).keep k2 fun b hb3 q => ?_, fun b hb3 => .inr hb3, h.np⟩,
    (k.mono fun i _ q => h.ds i q.symm).trans k2 fun i _ q => (by subst q; exact h.dw), fun j hj => ?_⟩
  · obtain ⟨cur, hcur⟩ := own_heap (hr c hc) hb3
    exact nb1 b cur hcur
  · have hc1 : Own w1 0 t_uint8 1 c.2 (bv c.1.p) := (hr c hc).keep k fun b hb4 => by
      obtain ⟨cur, hcur⟩ := own_heap (hr c hc) hb4
      exact nb1 b cur hcur
    obtain ⟨cur, hcur⟩ := own_heap hc1 hb3
    exact nb2 b cur hcur
  · rcases hj with ((q | q | q) | q) | q
    · have := lt_of_heap h.blk; omega
    · have := isF_lt f2; omega
    · have := isF_lt d2; omega
    · have := (hown.ge j q.symm).2; omega
    · obtain ⟨es, c, hm⟩ := h.plan.map q
      have := lt_of_heap hm; omega
  · rcases q with ((q | q | q) | q) | q
    · subst q; exact absurd (blk_type hb hg) (by decide)
    · subst q; exact isF_map f2 _ _ _ hg
    · subst q; exact isF_map d2 _ _ _ hg
    · obtain ⟨cur', hc'⟩ := own_heap o2 q.symm
      rw [hc'] at hg
      injection hg with hg
      injection hg with _ ht
      exact absurd ht (by decide)
    · obtain ⟨es, c, hm⟩ := h.plan.map q
      have hg2 : w2.heap[g]? = w.heap[g]? := by
        have hlt := lt_of_heap hm
        rw [k2.block g (by omega) (fun e => by subst e; rw [h.blk] at hm; cases hm), k.block g hlt (fun e => by
          obtain ⟨cur', hc'⟩ := own_heap h.own e.symm
          rw [hc'] at hm; cases hm)]
      rw [hg2, hm] at hg
      cases hg
  · obtain ⟨es, c, hm⟩ := h.plan.map hb3
    obtain ⟨cur', hc'⟩ := own_heap h.own q.symm
    rw [hc'] at hm; cases hm
  · obtain ⟨es, c, hm⟩ := h.plan.map hb3
    subst q
    rw [h.blk] at hm; cases hm
  · rcases hj with ((q | q | q) | q) | q
    · exact .inl (q ▸ h.dw)
    · exact .inl (q ▸ h.db)
    · exact .inl (q ▸ h.dd)
    · rcases hat with r | r | r
      · exact .inl (h.ds j (by rw [← r]; exact q.symm))
      · rw [r] at q; injection q with q; exact .inr (by omega)
      · rw [r] at q; cases q
    · exact .inl (h.dp j q)
end
theorem cgv_flat (l : List (Cg × Sl)) : (l.flatMap cgv).length = l.length * 5 := flat_length cgv_len l
theorem do_w_any {w : World} {pw : Nat} {D : Nat → Prop} {st : Wst} {F : Int → Bool} {name : ByteArray} {off : Nat} {p : Sl} {bs : L8} {R : Int → World → Prop} (hw : IsWq w pw D st F) (hp : Own w 0 t_uint8 1 p (bv bs)) (hb : off + bs.length ≤ 1048576)
    (ho : st.ops < 1000000000000) (hn : st.waits.length < 1000000000)
    (h : F (st.ops : Int) = false → ∀ w' D', Keep D w w' → IsWq w' pw D' ⟨applyWr st.seen name off bs, st.dur, st.waits ++ [⟨119, name, ⟨#[]⟩, off, bs⟩], st.ops + 1⟩ F → (∀ k, D' k → D k ∨ w.heap.size ≤ k) → R 0 w')
    (hbad : F (st.ops : Int) = true → ∀ w', Keep D w w' → IsWq w' pw D { st with ops := st.ops + 1 } F → R 6 w') :
    Cworld_World_do (some ⟨pw, 0, none⟩) #[.int .u8 119, .string name, .string ⟨#[]⟩, .int .i64 (off : Int), .slice p.A p.n p.c] w R := by
  obtain ⟨pl, hF, mb, md, ws, cs, hw⟩ := hw
  subst hF
  refine Fworld_World_do.calls _ _ _ _ ?_
  generalize hx : ((⟨119, name, ⟨#[]⟩, off, bs⟩, p) : Cg × Sl) = x
  have hxv : (#[.int .u8 119, .string name, .string ⟨#[]⟩, .int .i64 (off : Int), .slice p.A p.n p.c] : Array Value) = (cgv x).toArray := by subst hx; rfl
  refine new_rule fun cb w0 hcb hb0 hg0 hsz0 => ?_
  rw [hxv] at hb0
  have hb0 : Blk w0 cb (cgv x).toArray t_world_change := hb0
  have hw0 := hw.keep hg0 (fun _ _ q => q) (nobytes_none w)
  refine call_any hw0 ho fun w1 hk1 hw1 => ?_
  cases hfl : pl.F (st.ops : Int) with
  | true => exact br_t rfl (hbad hfl w1 ((hg0.mono (S' := D) fun _ _ q => q.elim).trans hk1 fun _ _ q => (by subst q; exact hw.dw)) ⟨pl, rfl, mb, md, ws, cs, hw1⟩)
  | false =>
  refine br_f rfl ?_
  have hcp : cb ≠ pw := fun q => by have := lt_of_heap hw.blk; omega
  have hb1 := hk1.heap hb0 hcp
  rintro w2 rfl
  have hg2 : Grow w1 w1.drew := keep_drew w1
  have hw2 := hw1.keep hg2 (fun _ _ q => q) (nobytes_none w1)
  have hb2 := hg2.heap hb1 (fun q => q)
  have c4 : ∀ {u : World}, Blk u cb (cgv x).toArray t_world_change → u.cell? ((⟨cb, 0, none⟩ : Addr).add 4) = some (.slice p.A p.n p.c) := fun q => by subst hx; rw [add0, q.cell]; rfl
  have lv : ∀ {u : World}, Blk u cb (cgv x).toArray t_world_change → (loadVar t_world_change ⟨cb, 0, none⟩).run Try.prog u = .ok (.agg (cgv x).toArray) u := fun q => loadVar_rule g_world_change i_world_change rfl (blk_cells q)
  have hpn : bs.length = p.n := by have := hp.len; rw [bv_length] at this; omega
  have hp0 : Own w0 0 t_uint8 1 p (bv bs) := hp.grow hg0
  have nbp : ∀ {u : World} {st' : Wst} {ws' : Sl} {cs' : List (Cg × Sl)} {D' : Nat → Prop}, IsWd u pw D' st' pl mb md ws' cs' → NoBytes u fun k => k = pw := fun q g cur hg e => by subst e; exact absurd (blk_type q.blk hg) (by decide)
  have okeep : ∀ {u u' : World} {S : Nat → Prop}, Own u 0 t_uint8 1 p (bv bs) → Keep S u u' → NoBytes u S → Own u' 0 t_uint8 1 p (bv bs) := fun q k nb => q.keep k fun b hb3 => by
    obtain ⟨cur, hc⟩ := own_heap q hb3
    exact nb b cur hc
  have hp2 : Own w1.drew 0 t_uint8 1 p (bv bs) := (okeep hp0 hk1 (nbp hw0)).grow hg2
  refine ⟨fun u => Blk u pw (wcells pl.mf mb md ws (st.ops + 1)) t_world_World ∧ Blk u cb (cgv x).toArray t_world_change, ⟨hw2.blk, hb2⟩, rfl, some mb, fun u hu => by rw [gA, add0, hu.1.cell]; rfl, (cgv x).toArray, fun u hu => lv hu.2, p, fun u hu => c4 hu.2, ?_⟩
  rw [← hxv]
  refine apply_w_spec hw2.seen (hp2.rd (by omega)) hb fun w3 hk3 hF3 => ?_
  have hw3 := hw2.setSeen hk3 hF3
  rw [List.take_of_length_le (by omega)] at hw3 hF3
  have hb3 : Blk w3 cb (cgv x).toArray t_world_change := hk3.heap hb2 fun q => isF_map hw2.seen _ _ _ (by rw [← q]; exact hb2)
  have hp3 := okeep hp2 hk3 (nobytes_map hw2.seen)
  rintro w4 rfl
  have hg4 : Grow w3 w3.drew := keep_drew w3
  have hw4 := hw3.keep hg4 (fun _ _ q => q) (nobytes_none w3)
  have hb4 := hg4.heap hb3 (fun q => q)
  have hlen : cs.length = st.waits.length := by rw [← hw.waits, List.length_map]
  have hwn : ws.n = cs.length := by have := hw.own.len; rw [cgv_flat] at this; omega
  refine ⟨fun u => Blk u pw (wcells pl.mf mb md ws (st.ops + 1)) t_world_World ∧ Blk u cb (cgv x).toArray t_world_change, ⟨hw4.blk, hb4⟩, rfl, ws, fun u hu => by rw [gA, add0, hu.1.cell]; rfl, (cgv x).toArray, fun u hu => lv hu.2, ?_⟩
  refine lit_rule (cells := (cgv x).toArray) (e := t_world_change) (z := 5) (base := 0) (by subst hx; kernel_rfl) rfl (by decide) (Nat.zero_le _) fun w5 hlit5 hg5 _ => ⟨⟨hg5.heap hw4.blk (fun q => q), hg5.heap hb4 (fun q => q)⟩, ?_⟩
  have hw5 := hw4.keep hg5 (fun _ _ q => q) (nobytes_none _)
  refine append_rule u_sl_world_change i_world_change rfl (by decide) (by decide) hw5.own (hlit5.rd (by show 1 ≤ _; decide)) (by subst hx; simp [cgv, Value.oneCell']) (by show (ws.n + 1) * 72 ≤ _; omega) (Nat.zero_le _) fun ws' w6 hn6 hown6 hk6 hat6 => ?_
  have hb6 : Blk w6 pw (wcells pl.mf mb md ws (st.ops + 1)) t_world_World := hk6.heap hw5.blk fun q => hw5.wm.2.2 q.symm
  refine ⟨rfl, ?_⟩
  rw [gA, add0]
  refine put_rule hb6 (by show 2 < 7; decide) rfl fun w7 hb7 hk7 hsz7 => ?_
  have hrows : ∀ c ∈ cs ++ [x], Own w5 0 t_uint8 1 c.2 (bv c.1.p) := fun c hc => by
    rcases List.mem_append.1 hc with q | q
    · exact hw5.rows c q
    · rw [List.mem_singleton.1 q]; subst hx; exact (hp3.grow hg4).grow hg5
  have hown6' : Own w6 0 t_world_change 5 ws' ((cs ++ [x]).flatMap cgv) := by
    rw [List.flatMap_append]
    simpa using hown6
  have hfin := hw5.setWaits (w1 := w6) (w2 := w7) (ws' := ws') (cs' := cs ++ [x]) hk6 hown6' (hat6.imp id .inl) hrows hb7 hk7
  have hKD : Keep D w w7 := by
    have k1 : Keep D w w1.drew := ((hg0.mono (S' := D) fun _ _ q => q.elim).trans hk1 fun _ _ q => (by subst q; exact hw.dw)).trans hg2 fun _ _ q => q.elim
    have k2 : Keep D w w5 := ((k1.trans hk3 fun _ _ q => (by subst q; exact hw.db)).trans hg4 fun _ _ q => q.elim).trans hg5 fun _ _ q => q.elim
    exact k2.trans hfin.2.1 fun _ _ q => q
  refine h hfl w7 (fun k => ((k = pw ∨ k = mb ∨ k = md) ∨ some k = ws'.blk) ∨ pl.mf = some k) hKD ⟨pl, rfl, mb, md, ws', cs ++ [x], ?_⟩ fun k hk => ?_
  · have := hfin.1
    rw [List.map_append, hw.waits] at this
    subst hx
    exact this
  · rcases hfin.2.2 k hk with q | q
    · exact .inl q
    · have h1 := hg0.size
      have h2 := hk1.size
      have h3 := hg2.size
      have h4 := hk3.size
      have h5 := hg4.size
      have h6 := hg5.size
      exact .inr (by omega)
theorem do_w_spec {w : World} {pw : Nat} {D : Nat → Prop} {st : Wst} {name : ByteArray} {off : Nat} {p : Sl} {bs : L8} {R : Int → World → Prop} (hw : IsW w pw D st) (hp : Own w 0 t_uint8 1 p (bv bs)) (hb : off + bs.length ≤ 1048576)
    (ho : st.ops < 1000000000000) (hn : st.waits.length < 1000000000)
    (h : ∀ w' D', Keep D w w' → IsW w' pw D' ⟨applyWr st.seen name off bs, st.dur, st.waits ++ [⟨119, name, ⟨#[]⟩, off, bs⟩], st.ops + 1⟩ → (∀ k, D' k → D k ∨ w.heap.size ≤ k) → R 0 w') :
    Cworld_World_do (some ⟨pw, 0, none⟩) #[.int .u8 119, .string name, .string ⟨#[]⟩, .int .i64 (off : Int), .slice p.A p.n p.c] w R :=
  do_w_any hw.q hp hb ho hn (fun _ w' D' k hw' hd => h w' D' k hw'.isW hd) (fun q => by cases q)
end Go.Proofs.Ytaneeadpjelomaa

/- Layer 3: a world whose rows are old; what reads leave of it. -/
namespace Go.Proofs.Ytaneeadpjelomaa
open Go CF

/-- what of these blocks holds bytes is new -/
def NoBytesB (w : World) (S : Nat → Prop) (B : Nat) : Prop := ∀ g cur, w.heap[g]? = some (.cells cur t_uint8 (0, 0)) → S g → B ≤ g
theorem NoBytes.b {w : World} {S : Nat → Prop} (h : NoBytes w S) (B : Nat) : NoBytesB w S B := fun g cur hg q => absurd q (h g cur hg)
def FileAtB (w : World) (B : Nat) (v : Option Value) (l : Option L8) : Prop := FileAt w v l ∧ ∀ s : Sl, v = some (.slice s.A s.n s.c) → ∀ b, s.blk = some b → b < B
theorem FileAtB.keep {S : Nat → Prop} {w w' : World} {B : Nat} {v : Option Value} {l : Option L8} (h : FileAtB w B v l) (k : Keep S w w') (hn : NoBytesB w S B) : FileAtB w' B v l := by
  refine ⟨?_, h.2⟩
  cases l with
  | none => exact h.1
  | some l =>
    obtain ⟨⟨s, h1, h2, h3⟩, hB⟩ := h
    refine ⟨s, h1, h2.keep k fun b hb q => ?_, h3⟩
    obtain ⟨cur, hc⟩ := own_heap h2 hb
    have := hn b cur hc q
    have := hB s h1 b hb
    omega
theorem FileAt.toB {w : World} {v : Option Value} {l : Option L8} (h : FileAt w v l) : FileAtB w w.heap.size v l := by
  refine ⟨h, fun s hs b hb => ?_⟩
  cases l with
  | none => rw [show v = none from h] at hs; cases hs
  | some l =>
    obtain ⟨s', h1, h2, _⟩ := h
    rw [h1] at hs
    injection hs with hs
    injection hs with hA hn hc
    have : s'.blk = some b := by rw [← hb]; simp [Sl.blk, hA]
    obtain ⟨cur, hc⟩ := own_heap h2 this
    exact lt_of_heap hc
def IsFB (w : World) (mb : Nat) (F : Files) (B : Nat) : Prop := ∃ m, SMap w mb m ∧ ∀ s, FileAtB w B (m s) (F s)
theorem IsFB.keep {S : Nat → Prop} {w w' : World} {mb B : Nat} {F : Files} (h : IsFB w mb F B) (k : Keep S w w') (hm : ¬ S mb) (hn : NoBytesB w S B) : IsFB w' mb F B := by
  obtain ⟨m, h1, h2⟩ := h
  exact ⟨m, h1.keep k hm, fun s => (h2 s).keep k hn⟩
theorem IsFB.isF {w : World} {mb B : Nat} {F : Files} (h : IsFB w mb F B) : IsF w mb F := by
  obtain ⟨m, h1, h2⟩ := h
  exact ⟨m, h1, fun s => (h2 s).1⟩
theorem IsF.toB {w : World} {mb : Nat} {F : Files} (h : IsF w mb F) : IsFB w mb F w.heap.size := by
  obtain ⟨m, h1, h2⟩ := h
  exact ⟨m, h1, fun s => (h2 s).toB⟩
/-- the world's rows lie under B -/
def IsWBq (w : World) (pw : Nat) (D : Nat → Prop) (st : Wst) (F : Int → Bool) (B : Nat) : Prop := ∃ pl, pl.F = F ∧ ∃ mb md ws cs, IsWd w pw D st pl mb md ws cs ∧ IsFB w mb st.seen B ∧ IsFB w md st.dur B ∧ ∀ c ∈ cs, ∀ b, c.2.blk = some b → b < B
def IsWB (w : World) (pw : Nat) (D : Nat → Prop) (st : Wst) (B : Nat) : Prop := IsWBq w pw D st quiet B
section
variable {w u v : World} {pw B : Nat} {D S : Nat → Prop} {st : Wst} {F : Int → Bool} {k : Nat}
theorem IsWBq.isWq (h : IsWBq w pw D st F B) : IsWq w pw D st F := by
  obtain ⟨pl, hF, mb, md, ws, cs, h, _⟩ := h
  exact ⟨pl, hF, mb, md, ws, cs, h⟩
theorem IsWB.isW (h : IsWB w pw D st B) : IsW w pw D st := (IsWBq.isWq h).isW
theorem IsWq.toB (h : IsWq w pw D st F) : IsWBq w pw D st F w.heap.size := by
  obtain ⟨pl, hF, mb, md, ws, cs, h⟩ := h
  refine ⟨pl, hF, mb, md, ws, cs, h, h.seen.toB, h.dur.toB, fun c hc b hb => ?_⟩
  obtain ⟨cur, hcur⟩ := own_heap (h.rows c hc) hb
  exact lt_of_heap hcur
theorem IsW.toB (h : IsW w pw D st) : IsWB w pw D st w.heap.size := h.q.toB
theorem IsWBq.keep (h : IsWBq w pw D st F B) (k : Keep S w u) (hd : ∀ k, D k → ¬ S k) (hs : NoBytesB w S B) : IsWBq u pw D st F B := by
  obtain ⟨pl, hF, mb, md, ws, cs, h, f1, f2, f3⟩ := h
  have hsz := k.size
  have g1 := f1.keep k (hd _ h.db) hs
  have g2 := f2.keep k (hd _ h.dd) hs
  refine ⟨pl, hF, mb, md, ws, cs, ⟨k.heap h.blk (hd _ h.dw), g1.isF, g2.isF, h.ne, h.own.keep k fun b hb => hd _ (h.ds b hb), h.waits, fun c hc => (h.rows c hc).keep k fun b hb q => ?_, h.dw, h.db, h.dd, h.ds, fun k hk => by have := h.lt k hk; omega, fun g cur hg q => ?_,
    h.plan.keep k fun b hb => hd _ (h.dp b hb), h.dp, h.np⟩, g1, g2, f3⟩
  · obtain ⟨cur, hcur⟩ := own_heap (h.rows c hc) hb
    have := hs b cur hcur q
    have := f3 c hc b hb
    omega
  · have hlt := h.lt g q
    have := k.block g hlt (hd g q)
    exact h.nb g cur (by rw [← this]; exact hg) q
theorem IsWB.keep (h : IsWB w pw D st B) (k : Keep S w u) (hd : ∀ k, D k → ¬ S k) (hs : NoBytesB w S B) : IsWB u pw D st B := IsWBq.keep h k hd hs
theorem IsWBq.grow (h : IsWBq w pw D st F B) (k : Grow w u) : IsWBq u pw D st F B := h.keep k (fun _ _ q => q) ((nobytes_none w).b B)
theorem IsWB.grow (h : IsWB w pw D st B) (k : Grow w u) : IsWB u pw D st B := h.keep k (fun _ _ q => q) ((nobytes_none w).b B)
/-- k reads lie between two worlds -/
def RdW (w u : World) (pw : Nat) (D : Nat → Prop) (st : Wst) (k : Nat) : Prop := ∀ F B, IsWBq w pw D st F B → IsWBq u pw D { st with ops := st.ops + k } F B
theorem RdW.isWq (h : RdW w u pw D st k) (hw : IsWq w pw D st F) : IsWq u pw D { st with ops := st.ops + k } F := (h _ _ hw.toB).isWq
theorem RdW.isW (h : RdW w u pw D st k) (hw : IsW w pw D st) : IsW u pw D { st with ops := st.ops + k } := (h.isWq hw.q).isW
theorem RdW.refl (w : World) (pw : Nat) (D : Nat → Prop) (st : Wst) : RdW w w pw D st 0 := fun _ _ h => h
theorem RdW.grow (h : RdW w u pw D st k) (g : Grow u v) : RdW w v pw D st k := fun F B hB => (h F B hB).grow g
theorem RdW.pre (h : RdW u v pw D st k) (g : Grow w u) : RdW w v pw D st k := fun F B hB => h F B (hB.grow g)
theorem RdW.keep (h : RdW w u pw D st k) (g : Keep S u v) (hd : ∀ k, D k → ¬ S k) (hs : NoBytes u S) : RdW w v pw D st k := fun F B hB => (h F B hB).keep g hd (hs.b B)
theorem RdW.trans {j : Nat} (h : RdW w u pw D st k) (g : RdW u v pw D { st with ops := st.ops + k } j) : RdW w v pw D st (k + j) := fun F B hB => by
  have := g F B (h F B hB)
  rw [← Nat.add_assoc]; exact this
theorem rdW_call {pl : Pl} {mb md : Nat} {ws : Sl} {cs : List (Cg × Sl)} (hw : IsWd w pw D st pl mb md ws cs) (hk : Keep (fun k => k = pw) w u) (hw1 : IsWd u pw D { st with ops := st.ops + 1 } pl mb md ws cs) : RdW w u pw D st 1 := fun F B hB => by
  obtain ⟨pl', hF, mb', md', ws', cs', h, f1, f2, f3⟩ := hB
  have nbp : NoBytes w fun k => k = pw := fun g cur hg q => hw.nb g cur hg (by subst q; exact hw.dw)
  have e := h.blk.symm.trans hw.blk
  injection e with e
  injection e with e
  have e := congrArg Array.toList e
  simp only [wcells, List.cons.injEq, Value.map.injEq, Option.some.injEq, Value.slice.injEq, true_and, and_true] at e
  obtain ⟨rfl, rfl, ⟨eA, en, ec⟩, em⟩ := e
  obtain ⟨A, n, c⟩ := ws
  obtain ⟨A', n', c'⟩ := ws'
  dsimp only at eA en ec
  subst eA en ec
  have nm : mb' ≠ pw := fun q => isF_map hw.seen _ _ _ (by rw [q]; exact hw.blk)
  have nd : md' ≠ pw := fun q => isF_map hw.dur _ _ _ (by rw [q]; exact hw.blk)
  refine ⟨pl', hF, mb', md', _, cs', ⟨by rw [em]; exact hw1.blk, hw1.seen, hw1.dur, hw1.ne, h.own.keep hk fun b hb2 q => ?_, h.waits, fun c hc => (h.rows c hc).keep hk fun b hb2 => ?_, hw1.dw, hw1.db, hw1.dd, h.ds, hw1.lt, hw1.nb, h.plan.keep hk fun b hb2 q => ?_, h.dp, h.np⟩, f1.keep hk nm (nbp.b B), f2.keep hk nd (nbp.b B), f3⟩
  · obtain ⟨cur, hc⟩ := own_heap h.own hb2
    subst q
    exact absurd (blk_type hw.blk hc) (by decide)
  · obtain ⟨cur, hc2⟩ := own_heap (h.rows c hc) hb2
    exact nbp b cur hc2
  · obtain ⟨es, c, hm⟩ := h.plan.map hb2
    subst q
    rw [h.blk] at hm; cases hm
end
end Go.Proofs.Ytaneeadpjelomaa

/- Layer 3: writes, reads. -/
namespace Go.Proofs.Ytaneeadpjelomaa
open Go CF

theorem bv_one' (l : L8) : ∀ u ∈ bv l, u.oneCell' = true := by
  intro u hu
  simp only [bv, List.mem_map] at hu
  obtain ⟨p, _, rfl⟩ := hu; rfl
theorem name_spec {s : ByteArray} {w : World} {R : Bool → World → Prop} (h : R (decide (1 ≤ s.size ∧ s.size ≤ 32)) w) : Cworld_name s w R := by
  refine Fworld_name.calls _ _ _ ?_
  have e : ((decide ((s.size : Int) ≥ 1)) && (decide ((s.size : Int) ≤ 32))) = decide (1 ≤ s.size ∧ s.size ≤ 32) := by
    rw [Bool.eq_iff_iff, Bool.and_eq_true, decide_eq_true_eq, decide_eq_true_eq, decide_eq_true_eq]
    omega
  unfold Fworld_name
  rw [e]
  exact h
theorem world_write_any {w : World} {pw : Nat} {D : Nat → Prop} {st : Wst} {F : Int → Bool} {file : ByteArray} {off : Nat} {p : Sl} {bs : L8} {R : Int → World → Prop} (hw : IsWq w pw D st F) (hs : 1 ≤ file.size ∧ file.size ≤ 32) (hp : Rd w 1 p (bv bs)) (hb : off + bs.length ≤ 1048576)
    (ho : st.ops < 1000000000000) (hn : st.waits.length < 1000000000)
    (h : F (st.ops : Int) = false → ∀ w' D', Keep D w w' → IsWq w' pw D' ⟨applyWr st.seen file off bs, st.dur, st.waits ++ [⟨119, file, ⟨#[]⟩, off, bs⟩], st.ops + 1⟩ F → (∀ k, D' k → D k ∨ w.heap.size ≤ k) → R 0 w')
    (hbad : F (st.ops : Int) = true → ∀ w', Keep D w w' → IsWq w' pw D { st with ops := st.ops + 1 } F → R 6 w') :
    Cworld_World_Write (some ⟨pw, 0, none⟩) file (off : Int) p w R := by
  refine Fworld_World_Write.calls _ _ _ _ _ _ ?_
  have hpn : bs.length = p.n := by have := hp.len; rw [bv_length] at this; omega
  refine name_spec ?_
  rw [decide_eq_true hs]
  refine br_f (by rw [Bool.or_eq_false_iff, decide_eq_false_iff_not]; exact ⟨rfl, by omega⟩) ?_
  have hwp : IntKind.wrap .i64 (1048576 - (off : Int)) = 1048576 - (off : Int) := w64 (by omega) (by omega)
  refine br_f (by rw [Bool.or_eq_false_iff, decide_eq_false_iff_not, decide_eq_false_iff_not, hwp]; omega) (br_f rfl ?_)
  refine append_rule (s := ⟨none, 0, 0⟩) (vs := []) (base := 0) u_sl_uint8 i_uint8 rfl (by decide) (by decide) (own_nil _ _ _ _) hp (bv_one' _) (by show (0 + p.n) * 1 ≤ _; omega) (Nat.zero_le _) fun s1 w1 hn1 hown1 hk1 _ => ?_
  have hg1 : Grow w w1 := hk1.mono fun i hi q => by cases q
  rw [List.nil_append] at hown1
  have hsz := hg1.size
  refine do_w_any (hw.grow hg1) hown1 hb ho hn (fun hf w2 D' hk2 hw2 hD => h hf w2 D' ((hg1.mono fun _ _ q => q.elim).trans hk2 fun _ _ q => q) hw2 fun k hk => ?_) (fun hf w2 hk2 hw2 => hbad hf w2 ((hg1.mono fun _ _ q => q.elim).trans hk2 fun _ _ q => q) hw2)
  rcases hD k hk with q | q
  · exact .inl q
  · exact .inr (by omega)
theorem world_write_spec {w : World} {pw : Nat} {D : Nat → Prop} {st : Wst} {file : ByteArray} {off : Nat} {p : Sl} {bs : L8} {R : Int → World → Prop} (hw : IsW w pw D st) (hs : 1 ≤ file.size ∧ file.size ≤ 32) (hp : Rd w 1 p (bv bs)) (hb : off + bs.length ≤ 1048576)
    (ho : st.ops < 1000000000000) (hn : st.waits.length < 1000000000)
    (h : ∀ w' D', Keep D w w' → IsW w' pw D' ⟨applyWr st.seen file off bs, st.dur, st.waits ++ [⟨119, file, ⟨#[]⟩, off, bs⟩], st.ops + 1⟩ → (∀ k, D' k → D k ∨ w.heap.size ≤ k) → R 0 w') :
    Cworld_World_Write (some ⟨pw, 0, none⟩) file (off : Int) p w R :=
  world_write_any hw.q hs hp hb ho hn (fun _ w' D' k hw' hd => h w' D' k hw'.isW hd) (fun q => by cases q)
theorem world_readR_any {w : World} {pw : Nat} {D : Nat → Prop} {st : Wst} {F : Int → Bool} {file : ByteArray} {off n : Nat} {R : Sl → Int → World → Prop} (hw : IsWq w pw D st F) (hs : 1 ≤ file.size ∧ file.size ≤ 32) (hb : off ≤ 1000000000) (hb2 : n ≤ 1000000000)
    (ho : st.ops < 1000000000000)
    (h : F (st.ops : Int) = false → ∀ s w', Keep D w w' → RdW w w' pw D st 1 → Own w' w.heap.size t_uint8 1 s (bv ((((st.seen file).getD []).drop off).take n)) → s.n ≤ 1048576 → R s (if (st.seen file).isSome then 0 else 8) w')
    (hbad : F (st.ops : Int) = true → ∀ w', Keep D w w' → RdW w w' pw D st 1 → R ⟨none, 0, 0⟩ 6 w') :
    Cworld_World_Read (some ⟨pw, 0, none⟩) file (off : Int) (n : Int) w R := by
  obtain ⟨pl, hF, mb, md, ws, cs, hw⟩ := hw
  subst hF
  refine Fworld_World_Read.calls _ _ _ _ _ _ ?_
  refine name_spec ?_
  rw [decide_eq_true hs]
  refine br_f (by rw [Bool.or_eq_false_iff, Bool.or_eq_false_iff, decide_eq_false_iff_not, decide_eq_false_iff_not]; exact ⟨⟨rfl, by omega⟩, by omega⟩) (br_f rfl ⟨rfl, some mb, by rw [gA, add0, hw.blk.cell]; rfl, ?_⟩)
  obtain ⟨r, hlk, _, hown, hr2, hol⟩ := file_look hw.seen file
  refine ⟨r, hlk, ?_⟩
  refine call_any hw ho fun w1 hk1 hw1 => ?_
  have hkD : Keep D w w1 := hk1.mono fun _ _ q => by subst q; exact hw.dw
  have hw1' : RdW w w1 pw D st 1 := rdW_call hw hk1 hw1
  have hsz := hk1.size
  cases hfl : pl.F (st.ops : Int) with
  | true => exact br_t rfl (hbad hfl w1 hkD hw1')
  | false =>
  have h := h hfl
  refine br_f rfl ?_
  cases hF : st.seen file with
  | none =>
    rw [hF] at hr2
    refine br_t (by rw [hr2]; rfl) ?_
    have := h ⟨none, 0, 0⟩ w1 hkD hw1'
    rw [hF] at this
    exact this (by simp only [Option.getD_none, List.drop_nil, List.take_nil]; exact own_nil _ _ _ _) (Nat.zero_le _)
  | some l =>
    rw [hF] at hr2 hown hol h
    simp only [Option.getD_some, Option.isSome_some, if_true] at hr2 hown hol h
    refine br_f (by rw [hr2]; rfl) ?_
    have hln : l.length = r.1.n := by have := hown.len; rw [bv_length] at this; omega
    have hown1 : Own w1 0 t_uint8 1 r.1 (bv l) := hown.keep hk1 fun b hb3 q => by
      obtain ⟨cur, hc⟩ := own_heap hown hb3
      subst q
      exact absurd (blk_type hw.blk hc) (by decide)
    refine br_dec (fun hge => ?_) (fun hlt => ?_)
    · have := h ⟨none, 0, 0⟩ w1 hkD hw1'
      rw [List.drop_of_length_le (by omega), List.take_nil] at this
      exact this (own_nil w1 w.heap.size t_uint8 1) (Nat.zero_le _)
    · have hrd := hown1.rd (by omega)
      have hcap := hrd.cap
      have e1 : IntKind.wrap .i64 ((r.1.n : Int) - (off : Int)) = ((r.1.n - off : Nat) : Int) := by rw [w64 (by omega) (by omega)]; omega
      have e2 : IntKind.wrap .i64 ((off : Int) + (mn (n : Int) (IntKind.wrap .i64 ((r.1.n : Int) - (off : Int))))) = ((off + min n (r.1.n - off) : Nat) : Int) := by
        rw [e1, mn_nat, w64 (by omega) (by omega)]; omega
      rw [e2]
      refine ⟨⟨by omega, by omega, by omega, hcap⟩, ?_⟩
      simp only [Int.toNat_natCast]
      have hx := hrd.cutB (l := off) (k := off + min n (r.1.n - off)) (by omega) (by omega)
      refine append_rule (s := ⟨none, 0, 0⟩) (vs := []) (base := w.heap.size) u_sl_uint8 i_uint8 rfl (by decide) (by decide) (own_nil _ _ _ _) hx (bv_one' _) (by show (0 + (off + min n (r.1.n - off) - off)) * 1 ≤ _; omega) hsz fun s2 w2 hn2 hown2 hk2 _ => ?_
      have hg2 : Grow w1 w2 := hk2.mono fun i hi q => by cases q
      rw [List.nil_append] at hown2
      have e3 : (l.drop off).take (off + min n (r.1.n - off) - off) = (l.drop off).take n := by
        rw [show off + min n (r.1.n - off) - off = min n (l.drop off).length by rw [List.length_drop]; omega]
        rcases Nat.le_total n (l.drop off).length with q | q
        · rw [Nat.min_eq_left q]
        · rw [Nat.min_eq_right q, List.take_length, List.take_of_length_le q]
      rw [e3] at hown2
      refine h s2 w2 (hkD.grow hg2) (hw1'.grow hg2) hown2 ?_
      have : s2.n = 0 + (off + min n (r.1.n - off) - off) := hn2
      omega
theorem world_readR_spec {w : World} {pw : Nat} {D : Nat → Prop} {st : Wst} {file : ByteArray} {off n : Nat} {R : Sl → Int → World → Prop} (hw : IsW w pw D st) (hs : 1 ≤ file.size ∧ file.size ≤ 32) (hb : off ≤ 1000000000) (hb2 : n ≤ 1000000000)
    (ho : st.ops < 1000000000000)
    (h : ∀ s w', Keep D w w' → RdW w w' pw D st 1 → Own w' w.heap.size t_uint8 1 s (bv ((((st.seen file).getD []).drop off).take n)) → s.n ≤ 1048576 → R s (if (st.seen file).isSome then 0 else 8) w') :
    Cworld_World_Read (some ⟨pw, 0, none⟩) file (off : Int) (n : Int) w R :=
  world_readR_any hw.q hs hb hb2 ho (fun _ s w' k r => h s w' k r) (fun q => by cases q)
theorem world_read_spec {w : World} {pw : Nat} {D : Nat → Prop} {st : Wst} {file : ByteArray} {off n : Nat} {R : Sl → Int → World → Prop} (hw : IsW w pw D st) (hs : 1 ≤ file.size ∧ file.size ≤ 32) (hb : off ≤ 1000000000) (hb2 : n ≤ 1000000000)
    (ho : st.ops < 1000000000000)
    (h : ∀ s w', Keep D w w' → IsW w' pw D { st with ops := st.ops + 1 } → Own w' w.heap.size t_uint8 1 s (bv ((((st.seen file).getD []).drop off).take n)) → s.n ≤ 1048576 → R s (if (st.seen file).isSome then 0 else 8) w') :
    Cworld_World_Read (some ⟨pw, 0, none⟩) file (off : Int) (n : Int) w R := world_readR_spec hw hs hb hb2 ho fun s w' k r => h s w' k (r.isW hw)
end Go.Proofs.Ytaneeadpjelomaa

/- Arguments, opened: rows of things, plain structs. -/
namespace Go.Proofs.Ytaneeadpjelomaa.CF
open Go Go.RowKit

section
variable {H : Type} {enc : TypeId × Value → H} {P : Program} {w : World} {base : Nat} {spare : Nat → Bool} {held : Bool}
/-- its weights are within reach -/
def Light (P : Program) (t : TypeId) (d : DataW H) : Prop := ∀ m ∈ d.weights P t, m ≤ reachBytes
/-- what a reading of a type's cells tells -/
def Opens (enc : TypeId × Value → H) (P : Program) (w : World) (base : Nat) (spare : Nat → Bool) (held : Bool) (t : TypeId) (Φ : List Value → Prop) : Prop :=
  ∀ n cs x, DataW.trod enc P w base spare held n t cs = some x → Light P t x.1 → Φ cs
theorem mem_weightsAll {e : TypeId} : ∀ {ds : List (DataW H)} {d : DataW H}, d ∈ ds → ∀ m ∈ d.weights P e, m ∈ DataW.weightsAll P e ds
  | d0 :: ds, d, hd, m, hm => by
    simp only [DataW.weightsAll, List.mem_append]
    rcases List.mem_cons.1 hd with rfl | h
    · exact .inl hm
    · exact .inr (mem_weightsAll h m hm)
theorem cells_of {a : Addr} {n : Nat} {vs : List Value} (h : w.cells? base a n = some vs) : vs.length = n ∧ Cells w a vs := by
  unfold World.cells? at h
  split at h
  · have hl := mapM_some_length h
    simp at hl
    refine ⟨hl, fun j v hj => ?_⟩
    have hjn : j < n := by have := (List.getElem?_eq_some_iff.1 hj).1; omega
    have := mapM_some_get h j j (by simp [hjn])
    rw [this, hj]
  · cases h
theorem opens_bool {t : TypeId} (ht : P.underlying t = some .bool) : Opens enc P w base spare held t fun cs => ∃ b, cs = [.bool b] := fun _ _ _ h _ => by
  obtain ⟨b, hb, _⟩ := DataW.trod_bool ht h; exact ⟨b, hb⟩
theorem opens_int {t : TypeId} {k : IntKind} (ht : P.underlying t = some (.int k)) : Opens enc P w base spare held t fun cs => ∃ n, cs = [.int k n] ∧ (Lit.int k n).wf = true := fun _ _ _ h _ => by
  obtain ⟨n, hn, _, hw⟩ := DataW.trod_int ht h; exact ⟨n, hn, hw⟩
theorem opens_str {t : TypeId} (ht : P.underlying t = some .string) : Opens enc P w base spare held t fun cs => ∃ l : L8, cs = [.string (str l)] ∧ l.length ≤ 140737488351232 := fun _ _ x h hl => by
  obtain ⟨s, hs, hx, _⟩ := DataW.trod_string ht h
  refine ⟨ls s, by rw [hs, str_ls], ?_⟩
  have := hl (ls s).length (by rw [hx]; simp [DataW.weights, ls])
  exact this
theorem opens_u8 {t : TypeId} (ht : P.underlying t = some (.int .u8)) : Opens enc P w base spare held t fun cs => ∃ b : UInt8, cs = [.int .u8 (b.toNat : Int)] := fun n cs x h hl => by
  obtain ⟨z, hz, hw⟩ := opens_int ht n cs x h hl
  simp [Lit.wf, IntKind.min, IntKind.max, IntKind.signed, IntKind.bits] at hw
  refine ⟨UInt8.ofNat z.toNat, ?_⟩
  rw [hz]
  congr 2
  rw [UInt8.toNat_ofNat']
  omega
/-- fields, one by one -/
theorem opens_fields {t : TypeId} {fs : Array Field} (ht : P.underlying t = some (.struct fs)) {Φ : List (List Value → Prop)}
    (hl : fs.size = Φ.length) (hf : ∀ (i : Nat) (f : Field) (φ : List Value → Prop), fs[i]? = some f → Φ[i]? = some φ → Opens enc P w base spare held f.type φ) :
    Opens enc P w base spare held t fun cs => cs.length = P.cellsOf t ∧ ∀ (i : Nat) (f : Field) (φ : List Value → Prop), fs[i]? = some f → Φ[i]? = some φ → φ ((cs.drop f.offset).take (P.cellsOf f.type)) := fun n cs x h hw => by
  obtain ⟨xs, n', _, hx, hcl, hxl, heach⟩ := DataW.trod_struct ht h
  refine ⟨hcl, fun i f φ hfi hφ => ?_⟩
  have hi : i < xs.length := by rw [hxl]; exact (Array.getElem?_eq_some_iff.1 hfi).1
  have he := heach i f hfi
  rw [List.getElem?_eq_getElem hi] at he
  refine hf i f φ hfi hφ n' _ _ he fun m hm => hw m ?_
  rw [hx]
  show m ∈ DataW.weights P t (.agg (xs.map (·.1)))
  rw [DataW.weights, ht]
  refine DataW.weights_mem_each (j := i) (t := f.type) (d := xs[i].1) ?_ ?_ m hm
  · rw [List.getElem?_map, ← Array.getElem?_toList] at *; rw [hfi]; rfl
  · rw [List.getElem?_map, List.getElem?_eq_getElem hi]; rfl
theorem opens_array {t e : TypeId} {k : Nat} (ht : P.underlying t = some (.array k e)) {φ : List Value → Prop} (hf : Opens enc P w base spare held e φ) :
    Opens enc P w base spare held t fun cs => cs.length = P.cellsOf t ∧ ∀ i, i < k → φ ((cs.drop (i * P.cellsOf e)).take (P.cellsOf e)) := fun n cs x h hw => by
  obtain ⟨xs, n', _, hx, hcl, hxl, heach⟩ := DataW.trod_array ht h
  refine ⟨hcl, fun i hi => ?_⟩
  have hi' : i < xs.length := by omega
  have he := heach i hi
  rw [List.getElem?_eq_getElem hi'] at he
  refine hf n' _ _ he fun m hm => hw m ?_
  rw [hx]
  show m ∈ DataW.weights P t (.agg (xs.map (·.1)))
  rw [DataW.weights, ht]
  exact mem_weightsAll (List.mem_map.2 ⟨xs[i], List.getElem_mem hi', rfl⟩) m hm
theorem choose_list {α : Type} {Q : Nat → α → Prop} : ∀ (n : Nat), (∀ i, i < n → ∃ a, Q i a) → ∃ al : List α, al.length = n ∧ ∀ i (h : i < al.length), Q i al[i]
  | 0, _ => ⟨[], rfl, fun i h => absurd h (Nat.not_lt_zero i)⟩
  | n + 1, h => by
    obtain ⟨al, hl, ha⟩ := choose_list n fun i hi => h i (by omega)
    obtain ⟨a, hq⟩ := h n (by omega)
    refine ⟨al ++ [a], by simp [hl], fun i hi => ?_⟩
    rcases Nat.lt_or_ge i al.length with q | q
    · rw [List.getElem_append_left q]; exact ha i q
    · have : i = n := by simp at hi; omega
      subst this
      rw [List.getElem_append_right q]
      simpa [hl] using hq
/-- a slice of things that a list's elements tell -/
theorem opens_slice {α : Type} {t e : TypeId} {z bytes : Nat} {f : α → List Value} {Q : α → Prop} (ht : P.underlying t = some (.slice e)) (hz : P.cellsOf e = z) (hb : P.bytesOf e = bytes) (hb1 : 1 ≤ bytes)
    (hf : ∀ a, (f a).length = z) (hel : Opens enc P w base spare held e fun cs => ∃ a, cs = f a ∧ Q a) :
    Opens enc P w base spare held t fun cs => ∃ s : Sl, cs = [.slice s.A s.n s.c] ∧ ∃ al : List α, Rd w z s (al.flatMap f) ∧ al.length = s.n ∧ (∀ a ∈ al, Q a) ∧ s.n * bytes ≤ 140737488351232 := fun fuel cs x h hw => by
  rcases DataW.trod_slice ht h with ⟨hcs, _⟩ | ⟨a, len, cap, elems, rest, n, _, hcs, hx, _, hlc, hmc, hlen, heach, _, _⟩
  · exact ⟨⟨none, 0, 0⟩, hcs, [], by simpa using rd_nil w z, rfl, by simp, by simp⟩
  · have hwt : (elems.length + rest.length) * bytes ≤ 140737488351232 := by
      have := hw ((elems.length + rest.length) * bytes) (by rw [hx]; simp [DataW.weights, ht, hb])
      exact this
    have hsz : len * bytes ≤ 140737488351232 := by
      refine Nat.le_trans (Nat.mul_le_mul_right _ ?_) hwt
      omega
    have hln : len ≤ 140737488351232 := by
      have : len * 1 ≤ len * bytes := Nat.mul_le_mul_left _ hb1
      omega
    obtain ⟨al, hal, has⟩ := choose_list (α := α) (Q := fun i b => Q b ∧ Cells w (a.add (i * z)) (f b)) len fun i hi => by
      have hi' : i < elems.length := by omega
      have he := heach i hi
      rw [List.getElem?_eq_getElem hi', hz] at he
      obtain ⟨vs, hvs, hr⟩ := Option.bind_eq_some_iff.1 he
      obtain ⟨hvl, hvc⟩ := cells_of hvs
      obtain ⟨b, hb1, hb2⟩ := hel n vs _ hr fun m hm => hw m (by
        rw [hx]
        simp only [DataW.weights, ht, List.mem_cons, List.mem_append]
        exact .inr (.inl (mem_weightsAll (List.mem_map.2 ⟨elems[i], List.getElem_mem hi', rfl⟩) m hm)))
      exact ⟨b, hb2, hb1 ▸ hvc⟩
    refine ⟨⟨some a, len, cap⟩, hcs, al, ⟨by rw [flat_length hf, hal], hlc, by show len ≤ _; omega, fun _ => ⟨a, rfl, fun j v hj => ?_⟩⟩, hal, fun b hbm => ?_, hsz⟩
    · have hz0 : 0 < z := by
        rcases Nat.eq_zero_or_pos z with e0 | e0
        · exfalso
          have := (List.getElem?_eq_some_iff.1 hj).1
          rw [flat_length hf, e0] at this
          omega
        · exact e0
      have hjl : j < al.length * z := by rw [← flat_length hf]; exact (List.getElem?_eq_some_iff.1 hj).1
      have hq : j / z < al.length := Nat.div_lt_of_lt_mul (by rw [Nat.mul_comm]; exact hjl)
      have hfe := flat_elem hf hq
      have hjz : j / z * z + j % z = j := by rw [Nat.mul_comm]; exact Nat.div_add_mod j z
      have hcell := (has (j / z) hq).2 (j % z) v (by
        rw [← hfe, List.getElem?_take, if_pos (Nat.mod_lt _ hz0), List.getElem?_drop, hjz]; exact hj)
      rw [addr_add, hjz] at hcell
      exact hcell
    · obtain ⟨i, hi, rfl⟩ := List.getElem_of_mem hbm
      exact (has i hi).1
theorem Opens.mono {t : TypeId} {Φ Ψ : List Value → Prop} (h : Opens enc P w base spare held t Φ) (hi : ∀ cs, Φ cs → Ψ cs) : Opens enc P w base spare held t Ψ := fun n cs x ht hl => hi cs (h n cs x ht hl)
theorem flat_bv (l : L8) : l.flatMap (fun b => [Value.int .u8 (b.toNat : Int)]) = bv l := by
  unfold bv
  induction l with
  | nil => rfl
  | cons a r ih => simp only [List.flatMap_cons, ih, List.map_cons, List.singleton_append]
theorem opens_bytes {t e : TypeId} (ht : P.underlying t = some (.slice e)) (he : P.underlying e = some (.int .u8)) (hz : P.cellsOf e = 1) (hb : P.bytesOf e = 1) :
    Opens enc P w base spare held t fun cs => ∃ s : Sl, cs = [.slice s.A s.n s.c] ∧ ∃ l : L8, Rd w 1 s (bv l) ∧ l.length = s.n ∧ s.n ≤ 140737488351232 := by
  refine (opens_slice (f := fun b : UInt8 => [Value.int .u8 (b.toNat : Int)]) (Q := fun _ => True) ht hz hb (Nat.le_refl _) (fun _ => rfl) ((opens_u8 he).mono fun cs ⟨b, h⟩ => ⟨b, h, trivial⟩)).mono ?_
  rintro cs ⟨s, h1, al, h2, h3, _, h4⟩
  exact ⟨s, h1, al, by rw [← flat_bv]; exact h2, h3, by omega⟩
/-- a plain cell within reach -/
def okV : Value → Prop
  | .int k n => (Lit.int k n).wf = true
  | .string s => s.size ≤ 140737488351232
  | _ => True
theorem sizeT_cells (t : TypeId) : P.cellsOf t = sizeT P t := by
  unfold Program.cellsOf sizeT
  cases P.info? t <;> rfl
theorem FitL.join : ∀ {ks ls : List Kd} {a b : List Value}, FitL ks a → FitL ls b → FitL (ks ++ ls) (a ++ b)
  | [], _, [], _, _, h => h
  | _ :: _, _, _ :: _, _, h, h' => ⟨h.1, FitL.join h.2 h'⟩
  | [], _, _ :: _, _, h, _ => h.elim
  | _ :: _, _, [], _, h, _ => h.elim
theorem flatFs_opens {rec : TypeId → Option (List Kd)} {cs : List Value} : ∀ (l : List Field) (off : Nat) (ks : List Kd), flatFs rec P l off = some ks →
    (∀ f ∈ l, ∀ ls, rec f.type = some ls → P.cellsOf f.type = ls.length → FitL ls ((cs.drop f.offset).take ls.length) ∧ ∀ v ∈ (cs.drop f.offset).take ls.length, okV v) →
    FitL ks ((cs.drop off).take ks.length) ∧ ∀ v ∈ (cs.drop off).take ks.length, okV v
  | [], off, ks, h, _ => by
    simp only [flatFs, Option.some.injEq] at h
    subst h
    exact ⟨by simp [FitL], by simp⟩
  | f :: r, off, ks, h, hf => by
    simp only [flatFs] at h
    split at h
    · rename_i ks1 h1 h2 h3
      split at h
      · rename_i l h4 h5
        simp only [Option.some.injEq] at h
        subst h
        have ho : f.offset = off := Nat.eq_of_beq_eq_true h2
        have hz : sizeT P f.type = ks1.length := Nat.eq_of_beq_eq_true h4
        obtain ⟨a1, a2⟩ := hf f (by simp) ks1 h3 (by rw [sizeT_cells, hz])
        obtain ⟨b1, b2⟩ := flatFs_opens r (off + ks1.length) l h5 fun g hg => hf g (by simp [hg])
        rw [ho] at a1 a2
        have e : (cs.drop off).take (ks1 ++ l).length = (cs.drop off).take ks1.length ++ (cs.drop (off + ks1.length)).take l.length := by
          rw [List.length_append, List.take_add, List.drop_drop]
        rw [e]
        refine ⟨a1.join b1, fun v hv => ?_⟩
        rcases List.mem_append.1 hv with q | q
        · exact a2 v q
        · exact b2 v q
      · cases h
    · cases h
theorem repK_opens {ks : List Kd} : ∀ (n : Nat) (cs : List Value), cs.length = n * ks.length → (∀ i, i < n → FitL ks ((cs.drop (i * ks.length)).take ks.length)) → FitL (repK n ks) cs
  | 0, cs, hl, _ => by
    have : cs = [] := List.eq_nil_of_length_eq_zero (by simpa using hl)
    subst this; trivial
  | n + 1, cs, hl, h => by
    have h0 := h 0 (by omega)
    rw [Nat.zero_mul, List.drop_zero] at h0
    have hr := repK_opens (ks := ks) n (cs.drop ks.length) (by rw [List.length_drop, hl, Nat.succ_mul]; omega) fun i hi => by
      have := h (i + 1) (by omega)
      rwa [Nat.succ_mul, Nat.add_comm, ← List.drop_drop] at this
    have := h0.join hr
    rwa [List.take_append_drop] at this
theorem opens_flat : ∀ (d : Nat) (t : TypeId) (ks : List Kd), flatK P d t = some ks → P.cellsOf t = ks.length → Opens enc P w base spare held t fun cs => FitL ks cs ∧ ∀ v ∈ cs, okV v
  | 0, t, ks, h, _ => by cases h
  | d + 1, t, ks, h, hz => by
    unfold flatK at h
    split at h
    · rename_i hu
      cases h
      refine (opens_bool hu).mono ?_
      rintro cs ⟨b, rfl⟩
      exact ⟨⟨rfl, trivial⟩, by simp [okV]⟩
    · rename_i k hu
      cases h
      refine (opens_int hu).mono ?_
      rintro cs ⟨b, rfl, hw⟩
      exact ⟨⟨by simp only [Kd.fit]; cases k <;> rfl, trivial⟩, by simpa [okV] using hw⟩
    · rename_i hu
      cases h
      refine (opens_str hu).mono ?_
      rintro cs ⟨b, rfl, hw⟩
      exact ⟨⟨rfl, trivial⟩, by simpa [okV, size_str] using hw⟩
    · rename_i fs hu
      split at h
      · intro n cs x hx hw
        obtain ⟨xs, n', _, hxe, hcl, hxl, heach⟩ := DataW.trod_struct hu hx
        have := flatFs_opens (P := P) (cs := cs) fs.toList 0 ks h ?_
        · rw [List.drop_zero, ← hz, ← hcl, List.take_length] at this
          exact this
        · intro f hf ls hls hlz
          obtain ⟨i, hi, rfl⟩ := List.getElem_of_mem hf
          have hi' : i < fs.size := by simpa using hi
          have hfi : fs[i]? = some fs.toList[i] := by rw [Array.getElem?_eq_getElem hi']; rfl
          have hix : i < xs.length := by rw [hxl]; exact hi'
          have he := heach i _ hfi
          rw [List.getElem?_eq_getElem hix, hlz] at he
          refine opens_flat d _ ls hls hlz n' _ _ he fun m hm => hw m ?_
          rw [hxe]
          show m ∈ DataW.weights P t (.agg (xs.map (·.1)))
          rw [DataW.weights, hu]
          refine DataW.weights_mem_each (j := i) (t := fs.toList[i].type) (d := xs[i].1) ?_ ?_ m hm
          · rw [List.getElem?_map, List.getElem?_eq_getElem hi]; rfl
          · rw [List.getElem?_map, List.getElem?_eq_getElem hix]; rfl
      · cases h
    · rename_i k e hu
      split at h
      · rename_i ls hls
        split at h
        · rename_i hbe
          cases h
          have hze : P.cellsOf e = ls.length := by rw [sizeT_cells]; exact Nat.eq_of_beq_eq_true hbe
          refine (opens_array hu (opens_flat d e ls hls hze)).mono ?_
          rintro cs ⟨hcl, hall⟩
          rw [hz, repK_length] at hcl
          rw [hze] at hall
          refine ⟨repK_opens k cs hcl fun i hi => (hall i hi).1, fun v hv => ?_⟩
          obtain ⟨j, hj, rfl⟩ := List.getElem_of_mem hv
          have hl0 : 0 < ls.length := by
            rcases Nat.eq_zero_or_pos ls.length with q | q
            · rw [hcl, q] at hj; omega
            · exact q
          have hq : j / ls.length < k := Nat.div_lt_of_lt_mul (by rw [Nat.mul_comm, ← hcl]; exact hj)
          refine (hall _ hq).2 _ (List.mem_iff_getElem?.2 ⟨j % ls.length, ?_⟩)
          rw [List.getElem?_take, if_pos (Nat.mod_lt _ hl0), List.getElem?_drop, Nat.mul_comm, Nat.div_add_mod, List.getElem?_eq_getElem hj]
        · cases h
      · cases h
    · cases h
end
/-- the cells of a value at whole: one of its own is the value -/
theorem one_cell_val {v u : Value} (h : v.cells.toList = [u]) (hf : ∀ g, v ≠ .agg g) : v = u := by
  cases v <;> simp_all [Value.cells]
theorem below_of_call {P : Program} {f : FuncId} {args : Array Value} {w : World} (h : CallK P f args w [.b] fun b w' => b = true ∧ Grow w w') :
    Calls P f args w fun e w' => e = .returned (.bool true) ∧ Below w.heap.size w w' :=
  h.mono fun e w' hx => by
    obtain ⟨x, hx, hb, hg⟩ := hx
    have hb : x = true := hb
    subst hb
    exact ⟨hx, Keep.below hg⟩
end Go.Proofs.Ytaneeadpjelomaa.CF

/- Layer 4: numbers in bytes, blocks as records. -/
namespace Go.Proofs.Ytaneeadpjelomaa
open Go CF

def num (l : L8) : Nat := l.foldl (fun v b => v * 256 + b.toNat) 0
theorem num_snoc (l : L8) (b : UInt8) : num (l ++ [b]) = num l * 256 + b.toNat := by simp [num, List.foldl_append]
theorem num_lt (l : L8) : num l < 256 ^ l.length := by
  have key : ∀ (l : L8) (v : Nat), l.foldl (fun v b => v * 256 + b.toNat) v < (v + 1) * 256 ^ l.length := by
    intro l
    induction l with
    | nil => intro v; simp
    | cons b r ih =>
      intro v
      rw [List.foldl_cons, List.length_cons, Nat.pow_succ]
      have h1 := ih (v * 256 + b.toNat)
      have h2 := b.toNat_lt
      have h3 : (v * 256 + b.toNat + 1) * 256 ^ r.length ≤ (v + 1) * 256 * 256 ^ r.length := Nat.mul_le_mul_right _ (by omega)
      have h4 : (v + 1) * 256 * 256 ^ r.length = (v + 1) * (256 ^ r.length * 256) := by rw [Nat.mul_assoc, Nat.mul_comm 256]
      omega
  have := key l 0
  rw [Nat.zero_add, Nat.one_mul] at this
  exact this
theorem bor_add {a b : Nat} (ha : a < 72057594037927936) (hb : b < 256) : bOr .u64 ((a * 256 : Nat) : Int) (b : Int) = ((a * 256 + b : Nat) : Int) := by
  unfold bOr
  show IntKind.wrap .u64 (((BitVec.ofInt 64 ((a * 256 : Nat) : Int) ||| BitVec.ofInt 64 (b : Int)).toNat : Nat) : Int) = _
  rw [BitVec.ofInt_natCast, BitVec.ofInt_natCast, BitVec.toNat_or, BitVec.toNat_ofNat, BitVec.toNat_ofNat, Nat.mod_eq_of_lt (by omega), Nat.mod_eq_of_lt (by omega)]
  have e : a * 256 ||| b = a * 256 + b := by
    have := Nat.shiftLeft_add_eq_or_of_lt (i := 8) (b := b) (by omega) a
    rw [Nat.shiftLeft_eq] at this
    exact this.symm
  rw [e]
  exact wu64 (by omega) (by omega)
theorem shl8 {a : Nat} (ha : a < 72057594037927936) : bShl .u64 (a : Int) 8 = ((a * 256 : Nat) : Int) := by
  unfold bShl
  have e : (min 8 (IntKind.bits .u64)) = 8 := by decide
  rw [e, wu64 (by omega) (by omega)]
  omega
theorem get_spec {p : Sl} {l : L8} {at_ n : Nat} {w : World} {R : Int → Int → World → Prop} (hp : Rd w 1 p (bv l)) (hb : p.n ≤ 140737489403904) (hn : 1 ≤ n) (hn8 : n ≤ 8) (hat : at_ + n ≤ l.length)
    (h : R ((num ((l.drop at_).take n) : Nat) : Int) 0 w) : Cbe_Get p (at_ : Int) (n : Int) w R := by
  refine Fbe_Get.calls _ _ _ _ _ ?_
  have hln : l.length = p.n := by have := hp.len; rw [bv_length] at this; omega
  have hcap := hp.cap
  refine Fbe_field.calls _ _ _ _ _ ?_
  have e1 : IntKind.wrap .i64 ((p.n : Int) - (n : Int)) = (p.n : Int) - (n : Int) := w64 (by omega) (by omega)
  refine br_f (by rw [Bool.or_eq_false_iff, decide_eq_false_iff_not, decide_eq_false_iff_not]; omega) (br_f (by rw [Bool.or_eq_false_iff, decide_eq_false_iff_not, decide_eq_false_iff_not, e1]; omega) (br_f rfl ?_))
  have e2 : IntKind.wrap .i64 ((at_ : Int) + (n : Int)) = ((at_ + n : Nat) : Int) := by rw [w64 (by omega) (by omega)]; omega
  rw [e2]
  simp only [Int.toNat_natCast]
  refine ⟨⟨by omega, by omega, by omega, hcap⟩, ?_⟩
  have hx := hp.cutB (l := at_) (k := at_ + n) (by omega) (by omega)
  rw [show at_ + n - at_ = n by omega] at hx
  generalize hseg : (l.drop at_).take n = seg at *
  have hsl : seg.length = n := by rw [← hseg, List.length_take, List.length_drop]; omega
  refine ⟨fun v x w' => w' = w ∧ ∃ j : Nat, x = j ∧ j ≤ n ∧ v = ((num (seg.take j) : Nat) : Int), fun _ x _ => n - x.toNat, ⟨rfl, 0, rfl, Nat.zero_le _, rfl⟩, ?_⟩
  rintro v x w0 ⟨rfl, j, rfl, hj, rfl⟩
  refine br_nat (fun hlt => ?_) (fun hge => ?_)
  · obtain ⟨a, ha, hc⟩ := hx.byte (i := j) (by show j < n; omega)
    have ha : cutA p.A p.c at_ 1 = some a := ha
    have hjs : j < seg.length := by omega
    refine ⟨⟨by omega, by omega, by rw [ha]; rfl⟩, ((seg[j]).toNat : Int), by rw [ha]; exact hc, ?_⟩
    have hnl := num_lt (seg.take j)
    have hb8 := seg[j].toNat_lt
    have hsm : num (seg.take j) < 72057594037927936 := by
      refine Nat.lt_of_lt_of_le hnl ?_
      rw [List.length_take, Nat.min_eq_left (by omega)]
      calc 256 ^ j ≤ 256 ^ 7 := Nat.pow_le_pow_right (by decide) (by omega)
        _ = 72057594037927936 := by decide
    rw [shl8 hsm, wu64 (by omega) (by omega), bor_add hsm (by omega), w64 (by omega) (by omega)]
    refine ⟨⟨rfl, j + 1, by omega, by omega, ?_⟩, by dsimp only; omega⟩
    rw [List.take_succ_eq_append_getElem hjs, num_snoc]
  · have : j = n := by omega
    subst this
    rw [List.take_of_length_le (by omega)]
    exact h
/-- a block -/
structure Bk where
  d : L8
  g : Nat
  a : Nat
  r : Nat
  hd : d.length = 16
  hg : g < 65536
  ha : a < 65536
  hr : r < 4294967296
def bc (b : Bk) : List Value := bv b.d ++ [.int .u16 (b.g : Int), .int .u16 (b.a : Int), .int .u32 (b.r : Int)]
theorem bc_len (b : Bk) : (bc b).length = 19 := by simp [bc, bv_length, b.hd]
theorem bv_inj {a b : L8} (h : bv a = bv b) : a = b := by
  induction a generalizing b with
  | nil => cases b with
    | nil => rfl
    | cons _ _ => simp [bv] at h
  | cons x r ih =>
    cases b with
    | nil => simp [bv] at h
    | cons y s =>
      simp only [bv, List.map_cons, List.cons.injEq, Value.int.injEq] at h
      have e : x = y := UInt8.toNat_inj.1 (by omega)
      rw [e, ih h.2]
theorem bc_inj {a b : Bk} (h : bc a = bc b) : a = b := by
  unfold bc at h
  obtain ⟨h1, h2⟩ := List.append_inj h (by rw [bv_length, bv_length, a.hd, b.hd])
  simp only [List.cons.injEq, Value.int.injEq, and_true, true_and] at h2
  have e1 := bv_inj h1
  have e2 : a.g = b.g := by omega
  have e3 : a.a = b.a := by omega
  have e4 : a.r = b.r := by omega
  cases a; cases b
  simp only at e1 e2 e3 e4
  subst e1; subst e2; subst e3; subst e4
  rfl
def kBk : List Kd := [.i .u8, .i .u8, .i .u8, .i .u8, .i .u8, .i .u8, .i .u8, .i .u8, .i .u8, .i .u8, .i .u8, .i .u8, .i .u8, .i .u8, .i .u8, .i .u8, .i .u16, .i .u16, .i .u32]
theorem flat_api_Block : flatK Try.prog 8 t_api_Block = some kBk := by kernel_rfl
theorem kd_api_Block : kd Try.prog t_api_Block = .ag := by kernel_rfl
theorem gt_api_Block : Try.prog.eqGuardType Try.prog.depth t_api_Block = false := by kernel_rfl
theorem fit_bytes : ∀ (l : L8) (n : Nat), l.length = n → FitL (List.replicate n (.i .u8)) (bv l)
  | [], 0, _ => trivial
  | _ :: l, n + 1, h => ⟨rfl, fit_bytes l n (by simpa using h)⟩
theorem fit_bc (b : Bk) : FitL kBk (bc b) := by
  have := (fit_bytes b.d 16 b.hd).join (ls := [.i .u16, .i .u16, .i .u32]) (b := [.int .u16 (b.g : Int), .int .u16 (b.a : Int), .int .u32 (b.r : Int)]) ⟨rfl, rfl, rfl, trivial⟩
  exact this
def emptyB : Bk := ⟨[0, 0, 0, 0, 0, 0, 0, 0, 0, 0, 0, 0, 0, 0, 0, 0], 65535, 65535, 4294967295, rfl, by decide, by decide, by decide⟩
def be2 (n : Nat) : L8 := [UInt8.ofNat (n / 2 ^ 8), UInt8.ofNat n]
def be4 (n : Nat) : L8 := [UInt8.ofNat (n / 2 ^ 24), UInt8.ofNat (n / 2 ^ 16), UInt8.ofNat (n / 2 ^ 8), UInt8.ofNat n]
def recB (b : Bk) : L8 := [1] ++ b.d ++ (be2 b.g ++ be2 b.a) ++ be4 b.r
theorem recB_len (b : Bk) : (recB b).length = 25 := by simp [recB, be2, be4, b.hd]
theorem wrap_u8 (n : Nat) : IntKind.wrap .u8 (n : Int) = ((UInt8.ofNat n).toNat : Int) := by
  rw [UInt8.toNat_ofNat']
  have e : IntKind.wrap .u8 (n : Int) = (n : Int) % 256 := by simp [IntKind.wrap, IntKind.signed, IntKind.bits]
  rw [e]
  omega
theorem shr (k : IntKind) (n s : Nat) (hs : s ≤ k.bits) : bShr k (n : Int) s = ((n / 2 ^ s : Nat) : Int) := by
  unfold bShr
  rw [Nat.min_eq_left hs, show ((2 : Int) ^ s) = ((2 ^ s : Nat) : Int) by norm_cast]
  exact (Int.ofNat_fdiv n (2 ^ s)).symm
end Go.Proofs.Ytaneeadpjelomaa

/- Layer 4: records, blocks. -/
namespace Go.Proofs.Ytaneeadpjelomaa
open Go CF

theorem storeAt_rule {P : Program} {w : World} {b o : Nat} {t ty : TypeId} {zv : Option Value} {z bytes : Nat} {old cells : Array Value} (hb : Blk w b old t) (hinfo : (P.info? ty).map (fun i => (i.zero, i.size, i.bytes)) = some (zv, z, bytes)) (hz : z = cells.size) (ho : o + cells.size ≤ old.size)
    (h1 : ∀ v ∈ cells.toList, v.oneCell' = true) {K : World → Prop} (h : ∀ w1, Blk w1 b (old.toList.take o ++ cells.toList ++ old.toList.drop (o + cells.size)).toArray t → Keep (fun k => k = b) w w1 → w1.heap.size = w.heap.size → K w1) : RunU P (storeVar ty ⟨b, o, none⟩ (.agg cells)) w K := by
  obtain ⟨i, hi, hzz⟩ := Option.map_eq_some_iff.1 hinfo
  simp only [Prod.mk.injEq] at hzz
  have hst := run_storeCells_at P b o t cells.toList 0 old w hb (by simpa using ho) h1
  have hs : cells.size = i.size := by omega
  refine ⟨_, ?_, h (w.setRow b (old.toList.take o ++ cells.toList ++ old.toList.drop (o + cells.size)).toArray) (setRow_heap w b old _ t (0, 0) hb) ⟨rfl, rfl, rfl, by simp, fun k _ hn => setRow_other w b k _ hn⟩ (by simp)⟩
  simp only [Nat.add_zero, Array.length_toList] at hst
  simp [storeVar, sizeOf, typeInfo, hi, Value.cells, hs]
  rw [hs, List.append_assoc] at hst
  exact hst
theorem bc_at (b : Bk) : (bc b).toArray[16]? = some (.int .u16 (b.g : Int)) ∧ (bc b).toArray[17]? = some (.int .u16 (b.a : Int)) ∧ (bc b).toArray[18]? = some (.int .u32 (b.r : Int)) := by
  have hl : (bv b.d).length = 16 := by rw [bv_length, b.hd]
  refine ⟨?_, ?_, ?_⟩ <;> · simp only [bc, List.getElem?_toArray]; rw [List.getElem?_append_right (by omega), hl]; rfl
theorem bc_ones (b : Bk) : ∀ v ∈ bc b, v.oneCell' = true := by
  intro v hv
  rcases List.mem_append.1 hv with q | q
  · exact bv_one' _ v q
  · simp only [List.mem_cons, List.not_mem_nil, or_false] at q
    rcases q with rfl | rfl | rfl <;> rfl
theorem bc_all (b : Bk) : ((bc b).toArray.all (·.oneCell')) = true := by
  rw [Array.all_eq_true_iff_forall_mem]; intro v hv; exact bc_ones b v (by simpa using hv)
theorem record_spec {b : Bk} {w : World} {R : Sl → World → Prop} (h : ∀ s w', Grow w w' → Own w' w.heap.size t_uint8 1 s (bv (recB b)) → R s w') : Cstore_record (bc b).toArray w R := by
  refine Fstore_record.calls _ _ _ ?_
  refine new_rule fun pb w0 hpb hb0 hg0 hsz0 => ?_
  have hb0 : Blk w0 pb (bc b).toArray t_api_Block := hb0
  have hl : (bv b.d).length = 16 := by rw [bv_length, b.hd]
  refine lit_rule (cells := #[.int .u8 1]) (e := t_uint8) (z := 1) (base := w0.heap.size) (by kernel_rfl) rfl (by decide) (Nat.le_refl _) fun w1 hlit1 hg1 _ => ⟨by decide, ?_⟩
  have hb1 := hg1.heap hb0 (fun q => q)
  have hd1 : Rd w1 1 ⟨some ⟨pb, 0, none⟩, 16, 16⟩ (bv b.d) := ⟨hl, Nat.le_refl _, by show 16 ≤ _; decide, fun _ => ⟨_, rfl, fun j v hj => blk_cells hb1 j v (by rw [bc, List.getElem?_append_left (by have := (List.getElem?_eq_some_iff.1 hj).1; exact this)]; exact hj)⟩⟩
  refine append_rule (x := ⟨some ⟨pb, 0, none⟩, 16, 16⟩) u_sl_uint8 i_uint8 rfl (by decide) (by decide) hlit1 hd1 (bv_one' _) (by show (1 + 16) * 1 ≤ _; decide) hg1.size fun s2 w2 hn2 hown2 hk2 _ => ?_
  have up : ∀ {u u' : World} {s : Sl} {vs : List Value}, Grow w0 u → Own u w0.heap.size t_uint8 1 s vs → Keep (fun k => some k = s.blk) u u' → Grow w0 u' := fun hg ho hk => hg.keep hk fun i hi q => by have := (ho.ge i q.symm).1; omega
  have hg2 := up hg1 hlit1 hk2
  have hb2 := hg2.heap hb0 (fun q => q)
  obtain ⟨e16, e17, e18⟩ := bc_at b
  have cg : ∀ {u : World}, Blk u pb (bc b).toArray t_api_Block → u.cell? (((⟨pb, 0, none⟩ : Addr).add 16).add 0) = some (.int .u16 (b.g : Int)) := fun q => by rw [add0, add0, q.cell]; exact e16
  have ca : ∀ {u : World}, Blk u pb (bc b).toArray t_api_Block → u.cell? (((⟨pb, 0, none⟩ : Addr).add 16).add 1) = some (.int .u16 (b.a : Int)) := fun q => by rw [add0, add0, q.cell]; exact e17
  have cr : ∀ {u : World}, Blk u pb (bc b).toArray t_api_Block → u.cell? (((⟨pb, 0, none⟩ : Addr).add 16).add 2) = some (.int .u32 (b.r : Int)) := fun q => by rw [add0, add0, q.cell]; exact e18
  refine ⟨_, cg hb2, _, cg hb2, _, ca hb2, _, ca hb2, ?_⟩
  rw [shr .u16 b.g 8 (by decide), shr .u16 b.a 8 (by decide), wrap_u8, wrap_u8, wrap_u8, wrap_u8]
  refine lit_rule (cells := (bv (be2 b.g ++ be2 b.a)).toArray) (e := t_uint8) (z := 1) (base := w0.heap.size) (by kernel_rfl) rfl (by decide) hg2.size fun w3 hlit3 hg3 _ => ?_
  have n2 : s2.n = 17 := hn2
  refine append_rule u_sl_uint8 i_uint8 rfl (by decide) (by decide) (hown2.grow hg3) (hlit3.rd (by show 4 ≤ _; decide)) (bv_one' _) (by rw [n2]; show (17 + 4) * 1 ≤ _; decide) (hg2.trans hg3).size fun s4 w4 hn4 hown4 hk4 _ => ?_
  have hg4 := up (hg2.trans hg3) (hown2.grow hg3) hk4
  have hb4 := hg4.heap hb0 (fun q => q)
  refine ⟨_, cr hb4, _, cr hb4, _, cr hb4, _, cr hb4, ?_⟩
  rw [shr .u32 b.r 24 (by decide), shr .u32 b.r 16 (by decide), shr .u32 b.r 8 (by decide), wrap_u8, wrap_u8, wrap_u8, wrap_u8]
  refine lit_rule (cells := (bv (be4 b.r)).toArray) (e := t_uint8) (z := 1) (base := w0.heap.size) (by kernel_rfl) rfl (by decide) hg4.size fun w5 hlit5 hg5 _ => ?_
  have n4 : s4.n = 21 := hn4.trans (by rw [n2]; rfl)
  refine append_rule u_sl_uint8 i_uint8 rfl (by decide) (by decide) (hown4.grow hg5) (hlit5.rd (by show 4 ≤ _; decide)) (bv_one' _) (by rw [n4]; show (21 + 4) * 1 ≤ _; decide) (hg4.trans hg5).size fun s6 w6 hn6 hown6 hk6 _ => ?_
  have hg6 := up (hg4.trans hg5) (hown4.grow hg5) hk6
  refine h s6 w6 (hg0.trans hg6) (Own.mono (base := w0.heap.size) ?_ (by omega))
  have e : bv (recB b) = [.int .u8 1] ++ bv b.d ++ bv (be2 b.g ++ be2 b.a) ++ bv (be4 b.r) := by
    unfold recB; rw [bv_append, bv_append, bv_append]; rfl
  rw [e]
  exact hown6
theorem empty_spec {w : World} {R : Array Value → World → Prop} (h : ∀ w', Grow w w' → R (bc emptyB).toArray w') : Cstore_empty w R := by
  refine Fstore_empty.calls _ _ ?_
  refine new_rule fun pb w0 hpb hb0 hg0 hsz0 => ?_
  refine ⟨(bc emptyB).toArray, by kernel_rfl, ?_⟩
  refine storeVar_rule (cells := (bc emptyB).toArray) hb0 i_api_Block rfl rfl (bc_all _) fun w1 hb1 hk1 _ => ?_
  have hg1 : Grow w w1 := hg0.keep hk1 fun i hi q => by omega
  refine ⟨(bc emptyB).toArray, loadVar_rule g_api_Block i_api_Block rfl (blk_cells hb1), h w1 hg1⟩
theorem num2 (l : L8) (h : l.length = 2) : num l < 65536 := by have := num_lt l; rw [h] at this; exact this
theorem num4 (l : L8) (h : l.length = 4) : num l < 4294967296 := by have := num_lt l; rw [h] at this; exact this
def blkOf (l : L8) : Bk :=
  if h : 25 ≤ l.length ∧ l[0]? = some 1 then
    ⟨(l.drop 1).take 16, num ((l.drop 17).take 2), num ((l.drop 19).take 2), num ((l.drop 21).take 4), by simp; omega, num2 _ (by simp; omega), num2 _ (by simp; omega), num4 _ (by simp; omega)⟩
  else emptyB
theorem block_spec {p : Sl} {l : L8} {w : World} {R : Array Value → World → Prop} (hp : Rd w 1 p (bv l)) (hb : p.n ≤ 1000000000) (h : ∀ w', Grow w w' → R (bc (blkOf l)).toArray w') : Cstore_block p w R := by
  refine Fstore_block.calls _ _ _ ?_
  have hln : l.length = p.n := by have := hp.len; rw [bv_length] at this; omega
  have hcap := hp.cap
  refine new_rule fun pa w0 hpa hb0 hg0 hsz0 => ?_
  by_cases h25 : 25 ≤ l.length
  case neg =>
    have hd : decide ((p.n : Int) < 25) = true := decide_eq_true (by omega)
    refine ⟨fun q => (by rw [hd] at q; cases q), 0, fun q => (by rw [hd] at q; cases q), br_t (by rw [hd]; rfl) ?_⟩
    refine empty_spec fun w1 hg1 => ?_
    refine storeVar_rule (cells := (bc emptyB).toArray) (hg1.heap hb0 (fun q => q)) i_api_Block rfl rfl (bc_all _) fun w2 hb2 hk2 _ => ?_
    refine ⟨(bc emptyB).toArray, loadVar_rule g_api_Block i_api_Block rfl (blk_cells hb2), ?_⟩
    have := h w2 ((hg0.trans hg1).keep hk2 fun i hi q => by omega)
    rwa [show blkOf l = emptyB from dif_neg fun q => h25 q.1] at this
  have hd : decide ((p.n : Int) < 25) = false := decide_eq_false (by omega)
  obtain ⟨a, ha, hc⟩ := (hp.grow hg0).byte (i := 0) (by omega)
  have h0l : 0 < l.length := by omega
  refine ⟨fun _ => ⟨by omega, by omega, by rw [ha]; rfl⟩, (l[0].toNat : Int), fun _ => (by rw [ha]; exact hc), ?_⟩
  by_cases h1 : l[0] = 1
  case neg =>
    refine br_t (by rw [hd, Bool.false_or, bne_iff_ne]; exact fun q => h1 (UInt8.toNat_inj.1 (by show l[0].toNat = 1; omega))) ?_
    refine empty_spec fun w1 hg1 => ?_
    refine storeVar_rule (cells := (bc emptyB).toArray) (hg1.heap hb0 (fun q => q)) i_api_Block rfl rfl (bc_all _) fun w2 hb2 hk2 _ => ?_
    refine ⟨(bc emptyB).toArray, loadVar_rule g_api_Block i_api_Block rfl (blk_cells hb2), ?_⟩
    have := h w2 ((hg0.trans hg1).keep hk2 fun i hi q => by omega)
    rwa [show blkOf l = emptyB from dif_neg fun q => h1 (by have := q.2; rw [List.getElem?_eq_getElem h0l] at this; exact Option.some.inj this)] at this
  refine br_f (by rw [hd, h1]; rfl) ?_
  refine new_rule fun pb w3 hpb hb3 hg3 hsz3 => ?_
  rintro w4 rfl
  have hg4 : Grow w3 w3.drew := keep_drew w3
  refine ⟨by decide, ⟨by omega, by omega, by omega, hcap⟩, ?_⟩
  have hgw4 := (hg0.trans hg3).trans hg4
  have hx := (hp.grow hgw4).cutB (l := 1) (k := p.n) (by omega) (Nat.le_refl _)
  simp only [Int.toNat_natCast]
  have hdl : ((l.drop 1).take 16).length = 16 := by simp; omega
  have hne : bv ((l.drop 1).take (p.n - 1)) ≠ [] := fun e => by
    have := congrArg List.length e
    simp [bv_length] at this
    omega
  obtain ⟨a2, ha2, hc2⟩ := hx.at_ hne
  have ha2 : cutA p.A p.c 1 1 = some a2 := ha2
  have hsrc : ∀ j v, (bv ((l.drop 1).take 16))[j]? = some v → w3.drew.cell? (a2.add j) = some v := fun j v hj => hc2 j v (by
    have hj16 : j < 16 := by have := (List.getElem?_eq_some_iff.1 hj).1; rw [bv_length, hdl] at this; exact this
    rw [← hj, ← bv_take, ← bv_take, List.getElem?_take, List.getElem?_take, if_pos (by omega), if_pos hj16])
  have hb4 : Blk w3.drew pb _ t_api_Block := hg4.heap hb3 (fun q => q)
  have hcp := run_copy_row (P := Try.prog) w3.drew t_sl_uint8 t_sl_uint8 t_int t_uint8 pb 0 16 16 a2 (p.n - 1) (p.c - 1) _ t_api_Block (bv ((l.drop 1).take 16)) u_sl_uint8 (by kernel_rfl) hb4 (by rw [bv_length, hdl]; exact (Nat.min_eq_right (by omega)).symm) hsrc (by rw [bv_length, hdl]; decide) (bv_one' _)
  rw [ha2]
  refine ⟨16, _, hcp.trans (by rw [bv_length, hdl]; rfl), ?_⟩
  generalize hw5 : w3.drew.setRow pb _ = w5
  have hb5 : Blk w5 pb (bv ((l.drop 1).take 16) ++ [Value.int .u16 0, Value.int .u16 0, Value.int .u32 0]).toArray t_api_Block := by
    rw [← hw5]
    have := setRow_heap w3.drew pb _ ((#[.int .u8 0, .int .u8 0, .int .u8 0, .int .u8 0, .int .u8 0, .int .u8 0, .int .u8 0, .int .u8 0, .int .u8 0, .int .u8 0, .int .u8 0, .int .u8 0, .int .u8 0, .int .u8 0, .int .u8 0, .int .u8 0, .int .u16 0, .int .u16 0, .int .u32 0] : Array Value).toList.take 0 ++ bv ((l.drop 1).take 16) ++ (#[.int .u8 0, .int .u8 0, .int .u8 0, .int .u8 0, .int .u8 0, .int .u8 0, .int .u8 0, .int .u8 0, .int .u8 0, .int .u8 0, .int .u8 0, .int .u8 0, .int .u8 0, .int .u8 0, .int .u8 0, .int .u8 0, .int .u16 0, .int .u16 0, .int .u32 0] : Array Value).toList.drop (0 + (bv ((l.drop 1).take 16)).length)).toArray t_api_Block (0, 0) hb4
    rw [bv_length, hdl] at this
    exact this
  have hk5 : Keep (fun k => k = pb) w3.drew w5 := by
    rw [← hw5]; exact ⟨rfl, rfl, rfl, by simp, fun k _ hn => setRow_other w3.drew pb k _ hn⟩
  have hg5 : Grow w w5 := hgw4.keep hk5 fun i hi q => by have := hg0.size; omega
  have hp5 := hp.grow hg5
  refine get_spec (at_ := 17) (n := 2) hp5 (Nat.le_trans hb (by decide)) (by decide) (by decide) (by omega) ?_
  refine get_spec (at_ := 19) (n := 2) hp5 (Nat.le_trans hb (by decide)) (by decide) (by decide) (by omega) ?_
  refine get_spec (at_ := 21) (n := 4) hp5 (Nat.le_trans hb (by decide)) (by decide) (by decide) (by omega) ?_
  have g2 := num2 ((l.drop 17).take 2) (by simp; omega)
  have a2' := num2 ((l.drop 19).take 2) (by simp; omega)
  have r4 := num4 ((l.drop 21).take 4) (by simp; omega)
  rw [wu16 (by omega) (by omega), wu16 (by omega) (by omega), wu32 (by omega) (by omega), add0]
  have hbl : blkOf l = ⟨(l.drop 1).take 16, num ((l.drop 17).take 2), num ((l.drop 19).take 2), num ((l.drop 21).take 4), hdl, g2, a2', r4⟩ := dif_pos ⟨h25, by rw [List.getElem?_eq_getElem h0l, h1]⟩
  refine storeAt_rule (o := 0 + 16) hb5 i_api_Tuple rfl (by simp [bv_length]; omega) (by simp [Value.oneCell']) fun w6 hb6 hk6 _ => ?_
  have e6 : ((bv ((l.drop 1).take 16) ++ [Value.int .u16 0, .int .u16 0, .int .u32 0]).toArray.toList.take (0 + 16) ++ (#[Value.int .u16 ((num ((l.drop 17).take 2) : Nat) : Int), .int .u16 ((num ((l.drop 19).take 2) : Nat) : Int), .int .u32 ((num ((l.drop 21).take 4) : Nat) : Int)] : Array Value).toList ++ (bv ((l.drop 1).take 16) ++ [Value.int .u16 0, .int .u16 0, .int .u32 0]).toArray.toList.drop (0 + 16 + 3)) = bc (blkOf l) := by
    rw [hbl]
    have hl16 : (bv ((l.drop 1).take 16)).length = 16 := by rw [bv_length, hdl]
    unfold bc
    dsimp only
    generalize bv ((l.drop 1).take 16) = B at hl16 ⊢
    generalize num ((l.drop 17).take 2) = x1
    generalize num ((l.drop 19).take 2) = x2
    generalize num ((l.drop 21).take 4) = x3
    simp only [Nat.zero_add]
    rw [List.take_append_of_le_length (by omega), List.take_of_length_le (by omega), List.drop_append, List.drop_of_length_le (by omega), hl16]
    simp
  have hb6 : Blk w6 pb (bc (blkOf l)).toArray t_api_Block := by rw [← e6]; exact hb6
  refine ⟨(bc (blkOf l)).toArray, loadVar_rule g_api_Block i_api_Block (by rw [bc_len]) (blk_cells hb6), ?_⟩
  have hpne : pa ≠ pb := by omega
  have hba : Blk w6 pa _ t_api_Block := hk6.heap (hk5.heap (hg4.heap (hg3.heap hb0 (fun q => q)) (fun q => q)) hpne) hpne
  refine storeVar_rule (cells := (bc (blkOf l)).toArray) hba i_api_Block (by simp [bc_len]) (by simp [bc_len]) (bc_all _) fun w7 hb7 hk7 _ => ?_
  refine ⟨(bc (blkOf l)).toArray, loadVar_rule g_api_Block i_api_Block (by rw [bc_len]) (blk_cells hb7), h w7 ?_⟩
  exact (hg5.keep hk6 fun i hi q => by have := hg0.size; omega).keep hk7 fun i hi q => by omega
end Go.Proofs.Ytaneeadpjelomaa

/- Layer 4: what a file says of blocks. -/
namespace Go.Proofs.Ytaneeadpjelomaa
open Go CF

theorem getD_wr (f : L8) (o : Nat) (p : L8) (k : Nat) : (wr f o p).getD k 0 = if o ≤ k ∧ k < o + p.length then p.getD (k - o) 0 else f.getD k 0 := by
  unfold wr
  simp only [List.getD_eq_getElem?_getD]
  generalize hg : f ++ List.replicate (o + p.length - f.length) 0 = g
  have hgl : g.length = max f.length (o + p.length) := by rw [← hg]; simp; omega
  have hgk : ∀ k : Nat, (g[k]?).getD 0 = (f[k]?).getD 0 := fun k => by
    rw [← hg]
    rcases Nat.lt_or_ge k f.length with q | q
    · rw [List.getElem?_append_left q]
    · rw [List.getElem?_append_right q, List.getElem?_eq_none q, List.getElem?_replicate]
      split <;> rfl
  have htl : (g.take o).length = o := by rw [List.length_take]; omega
  rcases Nat.lt_or_ge k o with q | q
  · rw [if_neg (by omega), List.append_assoc, List.getElem?_append_left (by omega), List.getElem?_take, if_pos q, hgk]
  · rcases Nat.lt_or_ge k (o + p.length) with q2 | q2
    · rw [if_pos ⟨q, q2⟩, List.append_assoc, List.getElem?_append_right (by omega), htl, List.getElem?_append_left (by omega)]
    · rw [if_neg (by omega), List.getElem?_append_right (by rw [List.length_append, htl]; omega), List.length_append, htl, List.getElem?_drop, show o + p.length + (k - (o + p.length)) = k by omega, hgk]
/-- a record is there at whole -/
def Good (f : L8) : Prop := ∀ j : Nat, f.getD (25 * j) 0 = 1 → 25 * j + 25 ≤ f.length
def blkAt (f : L8) (j : Nat) : Bk := blkOf ((f.drop (25 * j)).take 25)
def sl25 (f : L8) (j : Nat) : L8 := (List.range 25).map fun t => f.getD (25 * j + t) 0
theorem blkOf_not {l : L8} (h : ¬ (25 ≤ l.length ∧ l[0]? = some 1)) : blkOf l = emptyB := dif_neg h
theorem blkAt_good {f : L8} (h : Good f) (j : Nat) : blkAt f j = blkOf (sl25 f j) := by
  unfold blkAt
  by_cases h1 : f.getD (25 * j) 0 = 1
  · have hl := h j h1
    have e : (f.drop (25 * j)).take 25 = sl25 f j := by
      unfold sl25
      apply List.ext_getElem?
      intro t
      simp only [List.getElem?_take, List.getElem?_drop, List.getElem?_map, List.getElem?_range]
      by_cases q : t < 25
      · rw [if_pos q, List.getElem?_eq_getElem (show 25 * j + t < f.length by omega)]
        simp [q, List.getD_eq_getElem?_getD, List.getElem?_eq_getElem (show 25 * j + t < f.length by omega)]
      · simp [q]
    rw [e]
  · rw [blkOf_not, blkOf_not]
    · intro q
      have := q.2
      simp [sl25] at this
      exact h1 (by simpa using this)
    · intro q
      have hq := q.2
      have hlen := q.1
      rw [List.length_take, List.length_drop] at hlen
      rw [List.getElem?_take, if_pos (by decide), List.getElem?_drop, Nat.add_zero] at hq
      exact h1 (by rw [List.getD_eq_getElem?_getD, hq]; rfl)
theorem good_nil : Good [] := fun j h => by simp at h
theorem getD_off {f p : L8} {i j t : Nat} (hp : p.length ≤ 25) (hij : j ≠ i) (ht : t < 25) : (wr f (25 * i) p).getD (25 * j + t) 0 = f.getD (25 * j + t) 0 := by
  rw [getD_wr, if_neg (by omega)]
theorem num_be2 {n : Nat} (h : n < 65536) : num (be2 n) = n := by
  simp only [num, be2, List.foldl_cons, List.foldl_nil, UInt8.toNat_ofNat']
  omega
theorem num_be4 {n : Nat} (h : n < 4294967296) : num (be4 n) = n := by
  simp only [num, be4, List.foldl_cons, List.foldl_nil, UInt8.toNat_ofNat']
  omega
theorem bk_ext {a b : Bk} (h1 : a.d = b.d) (h2 : a.g = b.g) (h3 : a.a = b.a) (h4 : a.r = b.r) : a = b := by
  cases a; cases b; simp only at h1 h2 h3 h4; subst h1; subst h2; subst h3; subst h4; rfl
theorem blkOf_rec (b : Bk) : blkOf (recB b) = b := by
  have h : 25 ≤ (recB b).length ∧ (recB b)[0]? = some 1 := ⟨by rw [recB_len]; decide, rfl⟩
  have hd := b.hd
  have e : recB b = 1 :: (b.d ++ (be2 b.g ++ (be2 b.a ++ be4 b.r))) := by simp [recB]
  have d1 : (recB b).drop 1 = b.d ++ (be2 b.g ++ (be2 b.a ++ be4 b.r)) := by rw [e]; rfl
  have d17 : (recB b).drop 17 = be2 b.g ++ (be2 b.a ++ be4 b.r) := by
    rw [e, List.drop_succ_cons, List.drop_append, List.drop_of_length_le (by omega), hd]; rfl
  have d19 : (recB b).drop 19 = be2 b.a ++ be4 b.r := by
    have : (recB b).drop 19 = ((recB b).drop 17).drop 2 := by rw [List.drop_drop]
    rw [this, d17]; rfl
  have d21 : (recB b).drop 21 = be4 b.r := by
    have : (recB b).drop 21 = ((recB b).drop 19).drop 2 := by rw [List.drop_drop]
    rw [this, d19]; rfl
  unfold blkOf
  rw [dif_pos h]
  apply bk_ext
  · show ((recB b).drop 1).take 16 = b.d
    rw [d1, List.take_append_of_le_length (by omega), List.take_of_length_le (by omega)]
  · show num (((recB b).drop 17).take 2) = b.g
    rw [d17]; exact num_be2 b.hg
  · show num (((recB b).drop 19).take 2) = b.a
    rw [d19]; exact num_be2 b.ha
  · show num (((recB b).drop 21).take 4) = b.r
    rw [d21]; exact num_be4 b.hr
theorem good_rec {f : L8} (h : Good f) (i : Nat) (b : Bk) : Good (wr f (25 * i) (recB b)) := by
  intro j hj
  rw [wr_len, recB_len]
  by_cases e : j = i
  · subst e; omega
  · have := getD_off (f := f) (p := recB b) (t := 0) (by rw [recB_len]; decide) e (by decide)
    rw [Nat.add_zero] at this
    rw [this] at hj
    have := h j hj
    omega
theorem good_zero {f : L8} (h : Good f) (i : Nat) : Good (wr f (25 * i) [0]) := by
  intro j hj
  rw [wr_len]
  by_cases e : j = i
  · subst e
    rw [getD_wr, if_pos ⟨Nat.le_refl _, by simp⟩, Nat.sub_self] at hj
    cases hj
  · have := getD_off (f := f) (p := [0]) (t := 0) (by decide) e (by decide)
    rw [Nat.add_zero] at this
    rw [this] at hj
    have := h j hj
    omega
theorem sl25_off {f p : L8} {i j : Nat} (hp : p.length ≤ 25) (hij : j ≠ i) : sl25 (wr f (25 * i) p) j = sl25 f j := by
  unfold sl25
  apply List.map_congr_left
  intro t ht
  exact getD_off hp hij (List.mem_range.1 ht)
theorem blkAt_rec {f : L8} (h : Good f) (i : Nat) (b : Bk) (j : Nat) : blkAt (wr f (25 * i) (recB b)) j = if j = i then b else blkAt f j := by
  rw [blkAt_good (good_rec h i b)]
  by_cases e : j = i
  · subst e
    rw [if_pos rfl]
    have e2 : sl25 (wr f (25 * j) (recB b)) j = recB b := by
      unfold sl25
      apply List.ext_getElem?
      intro t
      rw [List.getElem?_map]
      by_cases q : t < 25
      · rw [List.getElem?_range q, Option.map_some, getD_wr, if_pos ⟨by omega, by rw [recB_len]; omega⟩, show 25 * j + t - 25 * j = t by omega, List.getD_eq_getElem?_getD, List.getElem?_eq_getElem (by rw [recB_len]; exact q)]
        rfl
      · rw [List.getElem?_eq_none (l := List.range 25) (by simp; omega), List.getElem?_eq_none (l := recB b) (by rw [recB_len]; omega)]; rfl
    rw [e2, blkOf_rec]
  · rw [if_neg e, sl25_off (by rw [recB_len]; decide) e, blkAt_good h]
theorem blkAt_zero {f : L8} (h : Good f) (i j : Nat) : blkAt (wr f (25 * i) [0]) j = if j = i then emptyB else blkAt f j := by
  rw [blkAt_good (good_zero h i)]
  by_cases e : j = i
  · subst e
    rw [if_pos rfl, blkOf_not]
    intro q
    have := q.2
    rw [sl25, List.getElem?_map, List.getElem?_range (by decide), Option.map_some, Nat.add_zero, getD_wr, if_pos ⟨Nat.le_refl _, by simp⟩, Nat.sub_self] at this
    cases this
  · rw [if_neg e, sl25_off (by decide) e, blkAt_good h]
end Go.Proofs.Ytaneeadpjelomaa

/- Layer 4: the store's calls. -/
namespace Go.Proofs.Ytaneeadpjelomaa
open Go CF

def scells (pw : Nat) (file : ByteArray) (blocks : Nat) (cache : Bool) : Array Value := #[.pointer (some ⟨pw, 0, none⟩), .string file, .int .i64 (blocks : Int), .bool cache]
abbrev IsS (w : World) (ps pw : Nat) (file : ByteArray) (blocks : Nat) (cache : Bool) : Prop := Blk w ps (scells pw file blocks cache) t_store_Store
theorem open_spec {w : World} {pw : Nat} {file : ByteArray} {blocks : Nat} {cache : Bool} {R : Option Addr → Int → World → Prop} (hs : 1 ≤ file.size ∧ file.size ≤ 32) (hb : 1 ≤ blocks ∧ blocks ≤ 4096)
    (h : ∀ ps w', ps = w.heap.size → Grow w w' → IsS w' ps pw file blocks cache → R (some ⟨ps, 0, none⟩) 0 w') : Cstore_Open (some ⟨pw, 0, none⟩) file (blocks : Int) cache w R := by
  refine Fstore_Open.calls _ _ _ _ _ _ ?_
  refine br_f (by rw [Bool.or_eq_false_iff, Bool.or_eq_false_iff, Bool.or_eq_false_iff, decide_eq_false_iff_not, decide_eq_false_iff_not, decide_eq_false_iff_not, decide_eq_false_iff_not]; omega) (br_f rfl ?_)
  exact new_rule fun ps w1 hps hb1 hg1 _ => h ps w1 hps hg1 hb1
theorem check_spec {w : World} {ps pw : Nat} {file : ByteArray} {blocks : Nat} {cache : Bool} {lba n : Nat} {R : Int → World → Prop} (hs : IsS w ps pw file blocks cache) (hb : blocks ≤ 4096) (hl : lba ≤ 1000000000)
    (h : R (if lba + n ≤ blocks then 0 else 4) w) : Cstore_Store_check (some ⟨ps, 0, none⟩) (lba : Int) (n : Int) w R := by
  refine Fstore_Store_check.calls _ _ _ _ _ ?_
  have c2 : w.cell? ((gA (some ⟨ps, 0, none⟩)).add 2) = some (.int .i64 (blocks : Int)) := by rw [gA, add0, hs.cell]; rfl
  refine br_f rfl ⟨fun _ => rfl, (blocks : Int), fun _ => c2, fun _ => rfl, (blocks : Int), fun _ => c2, ?_⟩
  have e : IntKind.wrap .i64 ((blocks : Int) - (lba : Int)) = (blocks : Int) - (lba : Int) := w64 (by omega) (by omega)
  by_cases q : lba + n ≤ blocks
  · rw [if_pos q] at h
    refine br_f ?_ h
    rw [Bool.or_eq_false_iff, Bool.or_eq_false_iff, Bool.or_eq_false_iff, decide_eq_false_iff_not, decide_eq_false_iff_not, decide_eq_false_iff_not, decide_eq_false_iff_not, e]
    omega
  · rw [if_neg q] at h
    refine br_t ?_ h
    rw [Bool.or_eq_true, Bool.or_eq_true, Bool.or_eq_true, decide_eq_true_eq, decide_eq_true_eq, decide_eq_true_eq, decide_eq_true_eq, e]
    omega
def stepW (st : Wst) (file : ByteArray) (o : Nat) (r : L8) : Wst := ⟨applyWr st.seen file o r, st.dur, st.waits ++ [⟨119, file, ⟨#[]⟩, o, r⟩], st.ops + 1⟩
def layW (st : Wst) (file : ByteArray) (lba : Nat) (rs : Nat → L8) : Nat → Wst
  | 0 => st
  | k + 1 => stepW (layW st file lba rs k) file (25 * (lba + k)) (rs k)
theorem layW_ops (st : Wst) (file : ByteArray) (lba : Nat) (rs : Nat → L8) : ∀ k, (layW st file lba rs k).ops = st.ops + k ∧ (layW st file lba rs k).waits.length = st.waits.length + k
  | 0 => ⟨rfl, rfl⟩
  | k + 1 => by
    obtain ⟨h1, h2⟩ := layW_ops st file lba rs k
    simp only [layW, stepW, List.length_append, List.length_singleton, h1, h2]
    omega
theorem lay_any {w : World} {ps pw : Nat} {D : Nat → Prop} {st : Wst} {F : Int → Bool} {file : ByteArray} {blocks : Nat} {cache fua : Bool} {lba n : Nat} {one : Value} {rs : Nat → L8} {R : Int → Int → World → Prop}
    (hS : IsS w ps pw file blocks cache) (hps : ¬ D ps) (hw : IsWq w pw D st F) (hs : 1 ≤ file.size ∧ file.size ≤ 32) (hb : lba + n ≤ 4096) (hlen : ∀ i, (rs i).length ≤ 25) (ho : st.ops < 100000000000) (hn : st.waits.length < 100000000)
    (hone : ∀ (x : Nat) (u : World) (K : Sl → World → Prop), x < n → Keep D w u → (∀ s u', Grow u u' → Own u' 0 t_uint8 1 s (bv (rs x)) → K s u') → CallV Try.prog cs one #[.int .i64 (x : Int)] u [.sl] K)
    (h : (∀ i : Nat, i < n → F ((st.ops + i : Nat) : Int) = false) → ∀ u D', Keep D w u → IsWq u pw D' (layW st file lba rs n) F → (∀ k, D' k → D k ∨ w.heap.size ≤ k) → IsS u ps pw file blocks cache →
      if 0 < n ∧ (fua = true ∨ cache = false) then Cworld_World_Sync (some ⟨pw, 0, none⟩) u (fun e v => R (n : Int) e v) else R (n : Int) 0 u)
    (hbad : ∀ k : Nat, k < n → (∀ i : Nat, i < k → F ((st.ops + i : Nat) : Int) = false) → F ((st.ops + k : Nat) : Int) = true → ∀ u D', Keep D w u → IsWq u pw D' { layW st file lba rs k with ops := st.ops + k + 1 } F → (∀ k, D' k → D k ∨ w.heap.size ≤ k) → IsS u ps pw file blocks cache → R (k : Int) 6 u) :
    Cstore_Store_lay (some ⟨ps, 0, none⟩) (lba : Int) (n : Int) one fua w R := by
  refine Fstore_Store_lay.calls _ _ _ _ _ _ _ ?_
  have hS' : ∀ {u : World}, Keep D w u → IsS u ps pw file blocks cache := fun k => k.heap hS hps
  refine ⟨fun x w' => ∃ k : Nat, x = k ∧ k ≤ n ∧ (∀ i : Nat, i < k → F ((st.ops + i : Nat) : Int) = false) ∧ ∃ Dk, Keep D w w' ∧ IsWq w' pw Dk (layW st file lba rs k) F ∧ ∀ j, Dk j → D j ∨ w.heap.size ≤ j, fun x _ => n - x.toNat,
    ⟨0, rfl, Nat.zero_le _, (fun i hi => absurd hi (Nat.not_lt_zero _)), D, Keep.mono (Keep.refl (fun _ => False) w) (fun _ _ q => q.elim), hw, fun _ q => .inl q⟩, ?_⟩
  rintro x w0 ⟨k, rfl, hk, hfl, Dk, hk0, hw0, hD0⟩
  refine br_nat (fun hlt => ?_) (fun hge => ?_)
  · rintro w1 rfl
    have hg1 : Grow w0 w0.drew := keep_drew w0
    have hk1 : Keep D w w0.drew := hk0.grow hg1
    refine ⟨fun u => IsS u ps pw file blocks cache, hS' hk1, rfl, some ⟨pw, 0, none⟩, fun u hu => by rw [gA, add0, Blk.cell hu]; rfl, rfl, file, fun u hu => by rw [gA, add0, Blk.cell hu]; rfl, ?_⟩
    refine hone k w0.drew _ hlt hk1 fun s w2 hg2 hown2 => ⟨hS' (hk1.grow hg2), ?_⟩
    have e : IntKind.wrap .i64 ((IntKind.wrap .i64 ((lba : Int) + (k : Int))) * 25) = ((25 * (lba + k) : Nat) : Int) := by
      rw [w64 (n := (lba : Int) + (k : Int)) (by omega) (by omega), w64 (by omega) (by omega)]; omega
    rw [e]
    obtain ⟨lo, lw⟩ := layW_ops st file lba rs k
    have hl25 := hlen k
    have hsn : s.n = (rs k).length := by have := hown2.len; rw [bv_length] at this; omega
    have hDk : ∀ i, i < w.heap.size → Dk i → D i := fun i hi q => (hD0 i q).elim id (fun r => by omega)
    refine world_write_any (bs := rs k) ((hw0.grow hg1).grow hg2) hs (hown2.rd (by omega)) (by omega) (by omega) (by omega) (fun hf w3 D' hk3 hw3 hD3 => br_f rfl ?_) (fun hf w3 hk3 hw3 => br_t rfl (hbad k hlt hfl (by rw [← lo]; exact hf) w3 Dk ((hk1.grow hg2).trans hk3 hDk) (by rw [← lo]; exact hw3) hD0 (hS' ((hk1.grow hg2).trans hk3 hDk))))
    rw [w64 (by omega) (by omega)]
    have hsz1 := hg1.size
    have hsz2 := hg2.size
    have hsz0 := hk0.size
    refine ⟨⟨k + 1, by omega, by omega, fun i hi => ?_, D', (hk1.grow hg2).trans hk3 fun i hi q => ?_, hw3, fun j hj => ?_⟩, by dsimp only; omega⟩
    · by_cases q : i = k
      · subst q; rw [← lo]; exact hf
      · exact hfl i (by omega)
    · rcases hD0 i q with r | r
      · exact r
      · omega
    · rcases hD3 j hj with q | q
      · exact hD0 j q
      · exact .inr (by omega)
  · have hkn : k = n := by omega
    subst hkn
    have := h hfl w0 Dk hk0 hw0 hD0 (hS' hk0)
    have hc : w0.cell? ((gA (some ⟨ps, 0, none⟩)).add 3) = some (.bool cache) := by rw [gA, add0, Blk.cell (hS' hk0)]; rfl
    refine ⟨fun _ => rfl, cache, fun _ => hc, ?_⟩
    by_cases q : 0 < k ∧ (fua = true ∨ cache = false)
    · rw [if_pos q] at this
      refine br_t ?_ ⟨rfl, some ⟨pw, 0, none⟩, by rw [gA, add0, Blk.cell (hS' hk0)]; rfl, this⟩
      rw [Bool.and_eq_true, decide_eq_true_eq, Bool.or_eq_true, Bool.not_eq_true']
      exact ⟨by omega, q.2⟩
    · rw [if_neg q] at this
      refine br_f ?_ this
      rw [Bool.and_eq_false_iff, decide_eq_false_iff_not, Bool.or_eq_false_iff, Bool.not_eq_false']
      by_cases q1 : 0 < k
      · right
        cases fua <;> cases cache <;> simp_all
      · left; omega
theorem lay_spec {w : World} {ps pw : Nat} {D : Nat → Prop} {st : Wst} {file : ByteArray} {blocks : Nat} {cache fua : Bool} {lba n : Nat} {one : Value} {rs : Nat → L8} {R : Int → Int → World → Prop}
    (hS : IsS w ps pw file blocks cache) (hps : ¬ D ps) (hw : IsW w pw D st) (hs : 1 ≤ file.size ∧ file.size ≤ 32) (hb : lba + n ≤ 4096) (hlen : ∀ i, (rs i).length ≤ 25) (ho : st.ops < 100000000000) (hn : st.waits.length < 100000000)
    (hone : ∀ (x : Nat) (u : World) (K : Sl → World → Prop), x < n → Keep D w u → (∀ s u', Grow u u' → Own u' 0 t_uint8 1 s (bv (rs x)) → K s u') → CallV Try.prog cs one #[.int .i64 (x : Int)] u [.sl] K)
    (h : ∀ u D', Keep D w u → IsW u pw D' (layW st file lba rs n) → (∀ k, D' k → D k ∨ w.heap.size ≤ k) → IsS u ps pw file blocks cache →
      if 0 < n ∧ (fua = true ∨ cache = false) then Cworld_World_Sync (some ⟨pw, 0, none⟩) u (fun e v => R (n : Int) e v) else R (n : Int) 0 u) :
    Cstore_Store_lay (some ⟨ps, 0, none⟩) (lba : Int) (n : Int) one fua w R :=
  lay_any hS hps hw.q hs hb hlen ho hn hone (fun _ u D' k hw' hd hS' => h u D' k hw'.isW hd hS') (fun k _ _ q => by cases q)
end Go.Proofs.Ytaneeadpjelomaa

/- Layer 4: writing and reading blocks. -/
namespace Go.Proofs.Ytaneeadpjelomaa
open Go CF

theorem IsWq.lt {w : World} {pw : Nat} {D : Nat → Prop} {st : Wst} {F : Int → Bool} (h : IsWq w pw D st F) {k : Nat} (hk : D k) : k < w.heap.size := by
  obtain ⟨_, _, mb, md, ws, cs, h⟩ := h
  exact h.lt k hk
def rsOf (bs : List Bk) (i : Nat) : L8 := match bs[i]? with | some b => recB b | none => []
theorem rsOf_len (bs : List Bk) (i : Nat) : (rsOf bs i).length ≤ 25 := by
  unfold rsOf; split
  · rw [recB_len]; exact Nat.le_refl _
  · decide
theorem rd_bk {w : World} {s : Sl} {bs : List Bk} (h : Rd w 19 s (bs.flatMap bc)) : bs.length = s.n := by
  have := h.len; rw [flat_length bc_len] at this; omega
theorem rd_bk_at {w : World} {s : Sl} {bs : List Bk} (h : Rd w 19 s (bs.flatMap bc)) {i : Nat} (hi : i < bs.length) : ∃ a, s.A = some a ∧ Cells w (a.add (i * 19)) (bc bs[i]) := by
  obtain ⟨a, ha, hc⟩ := h.elem (i := i) (by rw [← rd_bk h]; exact hi) (by decide)
  exact ⟨a, ha, by rw [flat_elem bc_len hi] at hc; exact hc⟩
theorem store_write_any {w : World} {ps pw : Nat} {D : Nat → Prop} {st : Wst} {F : Int → Bool} {file : ByteArray} {blocks : Nat} {cache fua : Bool} {lba : Nat} {L : Sl} {bs : List Bk} {R : Int → Int → World → Prop}
    (hS : IsS w ps pw file blocks cache) (hps : ¬ D ps) (hw : IsWq w pw D st F) (hs : 1 ≤ file.size ∧ file.size ≤ 32) (hbk : blocks ≤ 4096) (hl : lba ≤ 1000000000) (hL : ∀ u, Keep D w u → Rd u 19 L (bs.flatMap bc))
    (ho : st.ops < 100000000000) (hn : st.waits.length < 100000000)
    (h1 : blocks < lba + bs.length → ∀ u, Grow w u → R 0 4 u)
    (h2 : lba + bs.length ≤ blocks → (∀ i : Nat, i < bs.length → F ((st.ops + i : Nat) : Int) = false) → ∀ u D', Keep D w u → IsWq u pw D' (layW st file lba (rsOf bs) bs.length) F → (∀ k, D' k → D k ∨ w.heap.size ≤ k) → IsS u ps pw file blocks cache →
      if 0 < bs.length ∧ (fua = true ∨ cache = false) then Cworld_World_Sync (some ⟨pw, 0, none⟩) u (fun e v => R (bs.length : Int) e v) else R (bs.length : Int) 0 u)
    (hbad : lba + bs.length ≤ blocks → ∀ k : Nat, k < bs.length → (∀ i : Nat, i < k → F ((st.ops + i : Nat) : Int) = false) → F ((st.ops + k : Nat) : Int) = true → ∀ u D', Keep D w u → IsWq u pw D' { layW st file lba (rsOf bs) k with ops := st.ops + k + 1 } F → (∀ k, D' k → D k ∨ w.heap.size ≤ k) → IsS u ps pw file blocks cache → R (k : Int) 6 u) :
    Cstore_Store_Write (some ⟨ps, 0, none⟩) (lba : Int) L fua w R := by
  refine Fstore_Store_Write.calls _ _ _ _ _ _ ?_
  have hbn := rd_bk (hL w (Keep.mono (Keep.refl (fun _ => False) w) fun _ _ q => q.elim))
  refine new_rule fun lb w0 hlb hb0 hg0 hsz0 => ?_
  have hsz : w.heap.size ≤ w0.heap.size := hg0.size
  have hc0 : w0.cell? ⟨lb, 0, none⟩ = some (.slice L.A L.n L.c) := by rw [Blk.cell hb0]; rfl
  have hS0 : IsS w0 ps pw file blocks cache := hg0.heap hS (fun q => q)
  refine ⟨L, hc0, check_spec hS0 hbk hl ?_⟩
  by_cases q : lba + bs.length ≤ blocks
  case neg => rw [if_neg (by omega)]; exact br_t rfl (h1 (by omega) w0 hg0)
  rw [if_pos (by omega)]
  refine br_f rfl ⟨L, hc0, ?_⟩
  rw [← hbn]
  have hlD : ¬ D lb := fun e => by have := hw.lt e; omega
  refine lay_any (n := bs.length) (rs := rsOf bs) hS0 hps (hw.grow hg0) hs (by omega) (rsOf_len bs) ho hn (fun x u K hx hk hK => ?_) (fun hfl u D' hk hw' hD' hS' => ?_) (fun k hkl hfl hf u D' hk hw' hD' hS' => hbad q k hkl hfl hf u D' ((hg0.mono (fun _ _ e => e.elim)).trans hk fun _ _ e => e) hw' (fun j hj => ?_) hS')
  · refine ⟨rfl, ?_⟩
    show Cstore_Store_Write_1 (x : Int) ⟨lb, 0, none⟩ u K
    refine Fstore_Store_Write_1.calls _ _ _ _ ?_
    have hLu : Rd u 19 L (bs.flatMap bc) := hL u ((hg0.mono (fun _ _ e => e.elim)).trans hk fun _ _ e => e)
    obtain ⟨a, ha, hc⟩ := rd_bk_at hLu hx
    refine ⟨L, hk.cell hc0 hlD, ⟨by omega, by omega, by rw [ha]; rfl⟩, (bc bs[x]).toArray, ?_, ?_⟩
    · rw [ha]; exact loadVar_rule g_api_Block i_api_Block (by rw [bc_len]) hc
    · refine record_spec fun s u' hg hown => hK s u' hg (Own.mono ?_ (Nat.zero_le u.heap.size))
      unfold rsOf
      rw [List.getElem?_eq_getElem hx]
      exact hown
  · refine h2 q hfl u D' ((hg0.mono (fun _ _ e => e.elim)).trans hk fun _ _ e => e) hw' (fun k hk' => ?_) hS'
    rcases hD' k hk' with e | e
    · exact .inl e
    · exact .inr (by omega)
  · rcases hD' j hj with e | e
    · exact .inl e
    · exact .inr (by omega)
theorem store_write_spec {w : World} {ps pw : Nat} {D : Nat → Prop} {st : Wst} {file : ByteArray} {blocks : Nat} {cache fua : Bool} {lba : Nat} {L : Sl} {bs : List Bk} {R : Int → Int → World → Prop}
    (hS : IsS w ps pw file blocks cache) (hps : ¬ D ps) (hw : IsW w pw D st) (hs : 1 ≤ file.size ∧ file.size ≤ 32) (hbk : blocks ≤ 4096) (hl : lba ≤ 1000000000) (hL : ∀ u, Keep D w u → Rd u 19 L (bs.flatMap bc))
    (ho : st.ops < 100000000000) (hn : st.waits.length < 100000000)
    (h1 : blocks < lba + bs.length → ∀ u, Grow w u → R 0 4 u)
    (h2 : lba + bs.length ≤ blocks → ∀ u D', Keep D w u → IsW u pw D' (layW st file lba (rsOf bs) bs.length) → (∀ k, D' k → D k ∨ w.heap.size ≤ k) → IsS u ps pw file blocks cache →
      if 0 < bs.length ∧ (fua = true ∨ cache = false) then Cworld_World_Sync (some ⟨pw, 0, none⟩) u (fun e v => R (bs.length : Int) e v) else R (bs.length : Int) 0 u) :
    Cstore_Store_Write (some ⟨ps, 0, none⟩) (lba : Int) L fua w R :=
  store_write_any hS hps hw.q hs hbk hl hL ho hn h1 (fun q _ u D' k hw' hd hS' => h2 q u D' k hw'.isW hd hS') (fun _ k _ _ q => by cases q)
def rdBl (st : Wst) (file : ByteArray) (lba n : Nat) : List Bk := (List.range n).map fun i => blkAt ((st.seen file).getD []) (lba + i)
theorem bc_flat_one (l : List Bk) : ∀ v ∈ l.flatMap bc, v.oneCell' = true := fun v hv => by
  obtain ⟨b, _, hb⟩ := List.mem_flatMap.1 hv
  exact bc_ones b v hb
theorem lit_block (w : World) (b : Bk) : (Instr.buildSlice t_sl_api_Block 1 #[(0, .agg (bc b).toArray)]).run Try.prog w = .ok (.slice (some ⟨w.heap.size, 0, none⟩) 1 1) (w.alloc (.cells (bc b).toArray t_api_Block)) := by
  obtain ⟨d, g, a, r, hd, hg, ha, hr⟩ := b
  match d, hd with
  | [x0, x1, x2, x3, x4, x5, x6, x7, x8, x9, x10, x11, x12, x13, x14, x15], _ =>
    show (Instr.buildSlice t_sl_api_Block 1 #[(0, .agg #[.int .u8 (x0.toNat : Int), .int .u8 (x1.toNat : Int), .int .u8 (x2.toNat : Int), .int .u8 (x3.toNat : Int), .int .u8 (x4.toNat : Int), .int .u8 (x5.toNat : Int), .int .u8 (x6.toNat : Int), .int .u8 (x7.toNat : Int), .int .u8 (x8.toNat : Int), .int .u8 (x9.toNat : Int), .int .u8 (x10.toNat : Int), .int .u8 (x11.toNat : Int), .int .u8 (x12.toNat : Int), .int .u8 (x13.toNat : Int), .int .u8 (x14.toNat : Int), .int .u8 (x15.toNat : Int), .int .u16 (g : Int), .int .u16 (a : Int), .int .u32 (r : Int)])]).run Try.prog w = _
    kernel_rfl
theorem store_readR_any {w : World} {ps pw : Nat} {D : Nat → Prop} {st : Wst} {F : Int → Bool} {file : ByteArray} {blocks : Nat} {cache : Bool} {lba n : Nat} {R : Sl → Int → Int → World → Prop}
    (hS : IsS w ps pw file blocks cache) (hps : ¬ D ps) (hw : IsWq w pw D st F) (hs : 1 ≤ file.size ∧ file.size ≤ 32) (hbk : blocks ≤ 4096) (hl : lba + n ≤ blocks) (ho : st.ops < 100000000000)
    (h : (∀ i : Nat, i < n → F ((st.ops + i : Nat) : Int) = false) → ∀ out u, Keep D w u → RdW w u pw D st n → Own u w.heap.size t_api_Block 19 out ((rdBl st file lba n).flatMap bc) → out.n = n → R out (n : Int) 0 u)
    (hbad : ∀ k : Nat, k < n → (∀ i : Nat, i < k → F ((st.ops + i : Nat) : Int) = false) → F ((st.ops + k : Nat) : Int) = true → ∀ u, Keep D w u → RdW w u pw D st (k + 1) → R ⟨none, 0, 0⟩ (k : Int) 6 u) :
    Cstore_Store_Read (some ⟨ps, 0, none⟩) (lba : Int) (n : Int) w R := by
  refine Fstore_Store_Read.calls _ _ _ _ _ ?_
  refine check_spec hS hbk (by omega) ?_
  rw [if_pos hl]
  refine br_f rfl ?_
  refine ⟨fun out x u => ∃ k : Nat, x = k ∧ k ≤ n ∧ (∀ i : Nat, i < k → F ((st.ops + i : Nat) : Int) = false) ∧ Keep D w u ∧ RdW w u pw D st k ∧ Own u w.heap.size t_api_Block 19 out ((rdBl st file lba k).flatMap bc), fun _ x _ => n - x.toNat,
    ⟨0, rfl, Nat.zero_le _, (fun i hi => absurd hi (Nat.not_lt_zero _)), Keep.mono (Keep.refl (fun _ => False) w) (fun _ _ q => q.elim), RdW.refl _ _ _ _, own_nil _ _ _ _⟩, ?_⟩
  rintro out x w0 ⟨k, rfl, hk, hfl, hk0, hr0, hown⟩
  have hw0 := hr0.isWq hw
  have hol : out.n = k := by have := hown.len; rw [flat_length bc_len] at this; simp [rdBl] at this; omega
  refine br_nat (fun hlt => ?_) (fun hge => ?_)
  · rintro w1 rfl
    have hg1 : Grow w0 w0.drew := keep_drew w0
    have hk1 : Keep D w w0.drew := hk0.grow hg1
    have hS1 : IsS w0.drew ps pw file blocks cache := hk1.heap hS hps
    refine ⟨fun u => IsS u ps pw file blocks cache, hS1, rfl, some ⟨pw, 0, none⟩, fun u hu => by rw [gA, add0, Blk.cell hu]; rfl, rfl, file, fun u hu => by rw [gA, add0, Blk.cell hu]; rfl, ?_⟩
    have e : IntKind.wrap .i64 ((IntKind.wrap .i64 ((lba : Int) + (k : Int))) * 25) = ((25 * (lba + k) : Nat) : Int) := by
      rw [w64 (n := (lba : Int) + (k : Int)) (by omega) (by omega), w64 (by omega) (by omega)]; omega
    rw [e]
    refine world_readR_any (n := 25) (hw0.grow hg1) hs (by omega) (by decide) (by show st.ops + k < _; omega) (fun hf s w2 hk2 hr2 hown2 hsn => ?_) (fun hf w2 hk2 hr2 => br_t rfl (hbad k hlt hfl hf w2 (hk1.trans hk2 fun _ _ q => q) ((hr0.grow hg1).trans hr2)))
    refine br_f (by
      show ((_ : Int) != 0 && _) = false
      cases (st.seen file).isSome <;> rfl) ?_
    have hown2 : Own w2 w0.drew.heap.size t_uint8 1 s (bv ((((st.seen file).getD []).drop (25 * (lba + k))).take 25)) := hown2
    refine block_spec (hown2.rd (by omega)) (by omega) fun w3 hg3 => ?_
    refine lit_rule (cells := (bc (blkAt ((st.seen file).getD []) (lba + k))).toArray) (e := t_api_Block) (z := 19) (base := 0) ?_ (by simp [bc_len]) (by decide) (Nat.zero_le _) fun w4 hlit4 hg4 _ => ?_
    · exact lit_block _ _
    have outD : ∀ b, out.blk = some b → ¬ D b := fun b hb q => by
      have h1 := (hown.ge b hb).1
      have h2 := hw.lt q
      omega
    have hown4 : Own w4 w.heap.size t_api_Block 19 out ((rdBl st file lba k).flatMap bc) := (((hown.grow hg1).keep hk2 outD).grow hg3).grow hg4
    have hk4 : Keep D w w4 := ((hk1.trans hk2 fun _ _ q => q).grow hg3).grow hg4
    refine append_rule u_sl_api_Block i_api_Block rfl (by decide) (by decide) hown4 (hlit4.rd (by show 1 ≤ _; decide)) (fun v hv => bc_ones _ v (by simpa using hv)) (by show (out.n + 1) * 24 ≤ _; omega) hk4.size fun s' w5 hn5 hown5 hk5 _ => ?_
    have hk5' : Keep D w w5 := hk4.trans (S' := fun k => some k = out.blk) hk5 fun i hi q => by
      have := (hown4.ge i q.symm).1; omega
    rw [w64 (by omega) (by omega)]
    refine ⟨⟨k + 1, by omega, by omega, fun i hi => ?_, hk5', ?_, ?_⟩, by dsimp only; omega⟩
    · by_cases e : i = k
      · subst e; exact hf
      · exact hfl i (by omega)
    · have := (((hr0.grow hg1).trans hr2).grow hg3 |>.grow hg4).keep hk5 (fun k hk q => outD k q.symm hk) (fun g cur hg q => ?_)
      · exact this
      · obtain ⟨cur', hc'⟩ := own_heap hown4 q.symm
        rw [hc'] at hg
        injection hg with hg
        injection hg with _ ht
        exact absurd ht (by decide)
    · have er : (rdBl st file lba (k + 1)).flatMap bc = (rdBl st file lba k).flatMap bc ++ bc (blkAt ((st.seen file).getD []) (lba + k)) := by
        unfold rdBl
        rw [List.range_succ, List.map_append, List.flatMap_append]
        simp
      rw [er]
      simpa using hown5
  · have hkn : k = n := by omega
    subst hkn
    exact h hfl out w0 hk0 hr0 hown hol
theorem store_readR_spec {w : World} {ps pw : Nat} {D : Nat → Prop} {st : Wst} {file : ByteArray} {blocks : Nat} {cache : Bool} {lba n : Nat} {R : Sl → Int → Int → World → Prop}
    (hS : IsS w ps pw file blocks cache) (hps : ¬ D ps) (hw : IsW w pw D st) (hs : 1 ≤ file.size ∧ file.size ≤ 32) (hbk : blocks ≤ 4096) (hl : lba + n ≤ blocks) (ho : st.ops < 100000000000)
    (h : ∀ out u, Keep D w u → RdW w u pw D st n → Own u w.heap.size t_api_Block 19 out ((rdBl st file lba n).flatMap bc) → out.n = n → R out (n : Int) 0 u) :
    Cstore_Store_Read (some ⟨ps, 0, none⟩) (lba : Int) (n : Int) w R :=
  store_readR_any hS hps hw hs hbk hl ho (fun _ => h) (fun k _ _ q => by cases q)
theorem store_read_spec {w : World} {ps pw : Nat} {D : Nat → Prop} {st : Wst} {file : ByteArray} {blocks : Nat} {cache : Bool} {lba n : Nat} {R : Sl → Int → Int → World → Prop}
    (hS : IsS w ps pw file blocks cache) (hps : ¬ D ps) (hw : IsW w pw D st) (hs : 1 ≤ file.size ∧ file.size ≤ 32) (hbk : blocks ≤ 4096) (hl : lba + n ≤ blocks) (ho : st.ops < 100000000000)
    (h : ∀ out u, Keep D w u → IsW u pw D { st with ops := st.ops + n } → Own u w.heap.size t_api_Block 19 out ((rdBl st file lba n).flatMap bc) → out.n = n → R out (n : Int) 0 u) :
    Cstore_Store_Read (some ⟨ps, 0, none⟩) (lba : Int) (n : Int) w R := store_readR_spec hS hps hw hs hbk hl ho fun out u k r => h out u k (r.isW hw)
end Go.Proofs.Ytaneeadpjelomaa

/- Layer 2: the sum of bytes. -/
namespace Go.Proofs.Ytaneeadpjelomaa
open Go CF

def poly : Nat := 0x82f63b78
/-- one bit of the sum -/
def crcG (s : Nat) : Nat := if s % 2 = 1 then (s / 2) ^^^ poly else s / 2
def crcGs : Nat → Nat → Nat
  | 0, s => s
  | k + 1, s => crcG (crcGs k s)
def crcB (s : Nat) (b : UInt8) : Nat := crcGs 8 (s ^^^ b.toNat)
def crcS (s : Nat) (l : L8) : Nat := l.foldl crcB s
def c32 (l : L8) : Nat := crcS 0xffffffff l ^^^ 0xffffffff
theorem xor_lt32 {a b : Nat} (ha : a < 4294967296) (hb : b < 4294967296) : a ^^^ b < 4294967296 := Nat.xor_lt_two_pow (n := 32) ha hb
theorem crcG_lt {s : Nat} (h : s < 4294967296) : crcG s < 4294967296 := by
  unfold crcG
  split
  · exact xor_lt32 (by omega) (by decide)
  · omega
theorem crcGs_lt {s : Nat} (h : s < 4294967296) : ∀ k, crcGs k s < 4294967296
  | 0 => h
  | k + 1 => crcG_lt (crcGs_lt h k)
theorem crcB_lt {s : Nat} (h : s < 4294967296) (b : UInt8) : crcB s b < 4294967296 := crcGs_lt (xor_lt32 h (by have := b.toNat_lt; omega)) 8
theorem crcS_lt {l : L8} : ∀ {s : Nat}, s < 4294967296 → crcS s l < 4294967296 := by
  induction l with
  | nil => intro s h; exact h
  | cons b r ih => intro s h; exact ih (crcB_lt h b)
theorem c32_lt (l : L8) : c32 l < 4294967296 := xor_lt32 (crcS_lt (by decide)) (by decide)
theorem crcS_append (s : Nat) (a b : L8) : crcS s (a ++ b) = crcS (crcS s a) b := by simp [crcS, List.foldl_append]
theorem crcS_snoc (s : Nat) (a : L8) (b : UInt8) : crcS s (a ++ [b]) = crcB (crcS s a) b := by rw [crcS_append]; rfl
/-! ### another byte, another sum -/
theorem xor_top {a : Nat} (h : a < 2147483648) : (a ^^^ poly) / 2147483648 = 1 := by
  have : (a ^^^ poly).testBit 31 = true := by
    rw [Nat.testBit_xor, Nat.testBit_lt_two_pow (i := 31) h]; decide
  have h2 : (a ^^^ poly) < 4294967296 := xor_lt32 (by omega) (by decide)
  rw [Nat.testBit_eq_decide_div_mod_eq, decide_eq_true_eq] at this
  omega
theorem crcG_inj {a b : Nat} (ha : a < 4294967296) (hb : b < 4294967296) (h : crcG a = crcG b) : a = b := by
  unfold crcG at h
  split at h <;> split at h
  · have : a / 2 = b / 2 := by
      have := congrArg (· ^^^ poly) h
      simpa [Nat.xor_assoc] using this
    omega
  · have := xor_top (a := a / 2) (by omega)
    rw [h] at this
    omega
  · have := xor_top (a := b / 2) (by omega)
    rw [← h] at this
    omega
  · omega
theorem crcGs_inj {a b : Nat} (ha : a < 4294967296) (hb : b < 4294967296) : ∀ k, crcGs k a = crcGs k b → a = b
  | 0, h => h
  | k + 1, h => crcGs_inj ha hb k (crcG_inj (crcGs_lt ha k) (crcGs_lt hb k) h)
theorem crcB_inj {a b : Nat} {x : UInt8} (ha : a < 4294967296) (hb : b < 4294967296) (h : crcB a x = crcB b x) : a = b := by
  have hx := x.toNat_lt
  have := crcGs_inj (xor_lt32 ha (by omega)) (xor_lt32 hb (by omega)) 8 h
  have := congrArg (· ^^^ x.toNat) this
  simpa [Nat.xor_assoc] using this
theorem crcB_ne {a : Nat} {x y : UInt8} (ha : a < 4294967296) (h : x ≠ y) : crcB a x ≠ crcB a y := by
  intro q
  have hx := x.toNat_lt
  have hy := y.toNat_lt
  have := crcGs_inj (xor_lt32 ha (by omega)) (xor_lt32 ha (by omega)) 8 q
  have := congrArg (a ^^^ ·) this
  simp only [← Nat.xor_assoc, Nat.xor_self, Nat.zero_xor] at this
  exact h (UInt8.toNat_inj.1 this)
theorem crcS_inj {l : L8} : ∀ {a b : Nat}, a < 4294967296 → b < 4294967296 → crcS a l = crcS b l → a = b := by
  induction l with
  | nil => intro a b _ _ h; exact h
  | cons x r ih => intro a b ha hb h; exact crcB_inj ha hb (ih (crcB_lt ha x) (crcB_lt hb x) h)
/-- one byte turned turns the sum -/
theorem c32_turn {p q : L8} {x y : UInt8} (h : x ≠ y) : c32 (p ++ x :: q) ≠ c32 (p ++ y :: q) := by
  intro e
  have e1 := congrArg (· ^^^ 0xffffffff) e
  simp only [c32, Nat.xor_assoc, Nat.xor_self, Nat.xor_zero, crcS_append] at e1
  have hs : crcS 0xffffffff p < 4294967296 := crcS_lt (by decide)
  exact crcB_ne hs h (crcS_inj (crcB_lt hs x) (crcB_lt hs y) e1)
/-! ### the same, a bit at a time -/
def crcR (s : Nat) (b : Nat) : Nat := if (s ^^^ b % 2) % 2 = 1 then (s / 2) ^^^ poly else s / 2
def crcRs (b : Nat) : Nat → Nat → Nat
  | 0, s => s
  | k + 1, s => crcR (crcRs b k s) (b / 2 ^ k)
theorem xor_mod2 (a b : Nat) : (a ^^^ b) % 2 = (a % 2 ^^^ b % 2) := by
  have := Nat.xor_mod_two_pow (a := a) (b := b) (n := 1)
  simpa using this
theorem xor_div2 (a b : Nat) : (a ^^^ b) / 2 = (a / 2 ^^^ b / 2) := by
  have := Nat.xor_div_two_pow (a := a) (b := b) (n := 1)
  simpa using this
theorem crcRs_eq (b : Nat) (s : Nat) : ∀ k, crcGs k (s ^^^ b) = crcRs b k s ^^^ b / 2 ^ k
  | 0 => by simp [crcGs, crcRs]
  | k + 1 => by
    have ih := crcRs_eq b s k
    simp only [crcGs, crcRs, ih]
    generalize crcRs b k s = t
    have e2 : b / 2 ^ (k + 1) = b / 2 ^ k / 2 := by rw [Nat.pow_succ, Nat.div_div_eq_div_mul]
    rw [e2]
    generalize b / 2 ^ k = c
    unfold crcG crcR
    have h1 : (t ^^^ c % 2) % 2 = (t ^^^ c) % 2 := by rw [xor_mod2, xor_mod2 t c, Nat.mod_mod]
    rw [h1, xor_div2]
    split
    · rw [Nat.xor_assoc, Nat.xor_comm (c / 2), ← Nat.xor_assoc]
    · rfl
theorem crcB_eq (s : Nat) (b : UInt8) : crcB s b = crcRs b.toNat 8 s := by
  unfold crcB
  rw [crcRs_eq]
  have : b.toNat / 2 ^ 8 = 0 := Nat.div_eq_of_lt b.toNat_lt
  rw [this, Nat.xor_zero]
/-! ### the same in the model's words -/
theorem xor32 {a b : Nat} (ha : a < 4294967296) (hb : b < 4294967296) : bXor .u32 (a : Int) (b : Int) = ((a ^^^ b : Nat) : Int) := by
  unfold bXor
  show IntKind.wrap .u32 (((BitVec.ofInt 32 (a : Int) ^^^ BitVec.ofInt 32 (b : Int)).toNat : Nat) : Int) = _
  rw [BitVec.ofInt_natCast, BitVec.ofInt_natCast, BitVec.toNat_xor, BitVec.toNat_ofNat, BitVec.toNat_ofNat, Nat.mod_eq_of_lt (by omega), Nat.mod_eq_of_lt (by omega)]
  have := xor_lt32 ha hb
  exact wu32 (by omega) (by omega)
theorem and32_1 {a : Nat} (ha : a < 4294967296) : bAnd .u32 (a : Int) 1 = ((a % 2 : Nat) : Int) := by
  unfold bAnd
  show IntKind.wrap .u32 (((BitVec.ofInt 32 (a : Int) &&& BitVec.ofInt 32 ((1 : Nat) : Int)).toNat : Nat) : Int) = _
  rw [BitVec.ofInt_natCast, BitVec.ofInt_natCast, BitVec.toNat_and, BitVec.toNat_ofNat, BitVec.toNat_ofNat, Nat.mod_eq_of_lt (by omega), Nat.mod_eq_of_lt (by omega)]
  rw [Nat.and_one_is_mod]
  exact wu32 (by omega) (by omega)
theorem not32 {a : Nat} (ha : a < 4294967296) : bNot .u32 (a : Int) = ((a ^^^ 4294967295 : Nat) : Int) := by
  unfold bNot
  have e : (if IntKind.signed .u32 = true then (-1 : Int) else IntKind.max .u32) = ((4294967295 : Nat) : Int) := by decide
  rw [e, xor32 (by decide) ha, Nat.xor_comm]
end Go.Proofs.Ytaneeadpjelomaa

/- Layer 2: the program's sum and the reference's. -/
namespace Go.Proofs.Ytaneeadpjelomaa
open Go CF

theorem crc_br {s : Nat} (hs : s < 4294967296) {X Y : Prop} (h1 : s % 2 = 1 → X) (h0 : s % 2 = 0 → Y) : Br ((bAnd .u32 (s : Int) 1) == 1) X Y := by
  rw [and32_1 hs]
  exact br_eq (fun q => h1 (by omega)) (fun q => h0 (by omega))
theorem crc_v1 {s : Nat} (hs : s < 4294967296) (h : s % 2 = 1) : bXor .u32 (bShr .u32 (s : Int) 1) 2197175160 = ((crcG s : Nat) : Int) := by
  rw [shr .u32 s 1 (by decide)]
  have := xor32 (a := s / 2) (b := poly) (by omega) (by decide)
  unfold crcG
  rw [if_pos h]
  exact this
theorem crc_v0 {s : Nat} (h : s % 2 = 0) : bShr .u32 (s : Int) 1 = ((crcG s : Nat) : Int) := by
  rw [shr .u32 s 1 (by decide)]
  unfold crcG
  rw [if_neg (by omega)]
theorem crcRs_lt {b s : Nat} (h : s < 4294967296) : ∀ k, crcRs b k s < 4294967296
  | 0 => h
  | k + 1 => by
    have ih := crcRs_lt (b := b) h k
    simp only [crcRs]
    unfold crcR
    split
    · exact xor_lt32 (by omega) (by decide)
    · omega
theorem crc_br_r {s b : Nat} {k : Nat} (hs : s < 4294967296) (hb : b < 256) (hk : k < 8) {X Y : Prop} (h1 : (s ^^^ b / 2 ^ k % 2) % 2 = 1 → X) (h0 : (s ^^^ b / 2 ^ k % 2) % 2 = 0 → Y) :
    Br ((bAnd .u32 (bXor .u32 (s : Int) (bAnd .u32 (IntKind.wrap .u32 (bShr .u8 (b : Int) ((k : Nat) : Int).toNat)) 1)) 1) == 1) X Y := by
  rw [Int.toNat_natCast, shr .u8 b k (by show k ≤ 8; omega)]
  have hq : b / 2 ^ k < 256 := Nat.lt_of_le_of_lt (Nat.div_le_self _ _) hb
  generalize b / 2 ^ k = c at *
  rw [wu32 (by omega) (by omega), and32_1 (by omega), xor32 hs (by omega), and32_1 (xor_lt32 hs (by omega))]
  exact br_eq (fun q => h1 (by omega)) (fun q => h0 (by omega))
theorem crc_r1 {s c : Nat} (hs : s < 4294967296) (h : (s ^^^ c % 2) % 2 = 1) : bXor .u32 (bShr .u32 (s : Int) 1) 2197175160 = ((crcR s c : Nat) : Int) := by
  rw [shr .u32 s 1 (by decide)]
  have := xor32 (a := s / 2) (b := poly) (by omega) (by decide)
  unfold crcR
  rw [if_pos h]
  exact this
theorem crc_r0 {s c : Nat} (h : (s ^^^ c % 2) % 2 = 0) : bShr .u32 (s : Int) 1 = ((crcR s c : Nat) : Int) := by
  rw [shr .u32 s 1 (by decide)]
  unfold crcR
  rw [if_neg (by omega)]
end Go.Proofs.Ytaneeadpjelomaa
