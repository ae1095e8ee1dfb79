import Derived.Test.YtpmebahhjgkflaaGreatDoorB5
-- printed by wip/cf/cfprint.py
namespace Go.Proofs.YtpmebahhjgkflaaGreatDoor
open Go CF
set_option linter.unusedVariables false
set_option maxRecDepth 100000
end Go.Proofs.YtpmebahhjgkflaaGreatDoor

-- printed by wip/cf/cfprint.py
namespace Go.Proofs.YtpmebahhjgkflaaGreatDoor
open Go CF
set_option linter.unusedVariables false
set_option maxRecDepth 100000
/-- (*pallet/world.World).Read -/
def Fworld_World_Read (w_ : Option Addr) (file : ByteArray) (off : Int) (n : Int) (w : World) (R : Sl → Int → World → Prop) : Prop :=
  Cworld_name file w fun b w0 => Br (((!b) || (decide (off < 0))) || (decide (n < 0))) (R (⟨none, 0, 0⟩ : Sl) 1 w0) (Br ((w_).isNone) (R (⟨none, 0, 0⟩ : Sl) 8 w0) (w_.isSome = true ∧ ∃ m : Option Nat, w0.cell? ((gA w_).add 0) = some (.map m) ∧ ∃ r : Sl × Bool, (Instr.lookup 106 (.map m) (.string file) true).run Tryz.prog w0 = .ok (.tuple #[.slice r.1.A r.1.n r.1.c, .bool r.2]) w0 ∧ Cworld_World_call w_ w0 fun n1 w01 => Br (n1 != 0) (R (⟨none, 0, 0⟩ : Sl) n1 w01) (Br (!r.2) (R (⟨none, 0, 0⟩ : Sl) 8 w01) (Br (decide (off ≥ (r.1.n : Int))) (R (⟨none, 0, 0⟩ : Sl) 0 w01) ((0 ≤ off ∧ off ≤ (IntKind.wrap .i64 (off + (mn n (IntKind.wrap .i64 ((r.1.n : Int) - off))))) ∧ (IntKind.wrap .i64 (off + (mn n (IntKind.wrap .i64 ((r.1.n : Int) - off))))) ≤ (r.1.c : Int) ∧ r.1.n ≤ r.1.c) ∧ RunK Tryz.prog .sl (Builtin.append_ #[33, 33] 33 #[.slice none 0 0, .slice (cutA r.1.A r.1.c off.toNat 1) ((IntKind.wrap .i64 (off + (mn n (IntKind.wrap .i64 ((r.1.n : Int) - off))))).toNat - off.toNat) (r.1.c - off.toNat)]) w01 fun xs w02 => R xs 0 w02)))))
theorem Fworld_World_Read.calls (w_ : Option Addr) (file : ByteArray) (off : Int) (n : Int) (w : World) (R : Sl → Int → World → Prop) (h : Fworld_World_Read w_ file off n w R) : Cworld_World_Read w_ file off n w R :=
  calls_of_vc (anOp_ok callable) wide Tryz.func205 [] [.sl, .i .i64] [.pointer w_, .string file, .int .i64 off, .int .i64 n] w R (Eq.mp (show Fworld_World_Read w_ file off n w R = vcF Tryz.prog G Tryz.f205 [] [.sl, .i .i64] [.pointer w_, .string file, .int .i64 off, .int .i64 n] w R by kernel_rfl) h)
/-- (*pallet/slots.Slots).name -/
def Fslots_Slots_name (s : Option Addr) (i : Int) (w : World) (R : ByteArray → World → Prop) : Prop :=
  ∀ w0, w0 = w.drew → ∃ S : World → Prop, S w0 ∧ s.isSome = true ∧ ∃ s1 : ByteArray, (∀ u, S u → u.cell? ((gA s).add 1) = some (.string s1)) ∧ (s1.size + s_x2e.size ≤ 9223372036854775807) ∧ RunK Tryz.prog .sl (Instr.buildSlice 33 1 #[(0, .int .u8 (IntKind.wrap .u8 (IntKind.wrap .i64 (48 + i))))]) w0 fun xs w01 => S w01 ∧ ∃ S1 : World → Prop, S1 w01 ∧ (∀ u1, S1 u1 → S u1) ∧ ∃ s2 : ByteArray, (∀ u2, S1 u2 → (convert 33 9 (.slice xs.A xs.n xs.c)).run Tryz.prog u2 = .ok (.string s2) u2) ∧ ((s1 ++ s_x2e).size + s2.size ≤ 9223372036854775807) ∧ R ((s1 ++ s_x2e) ++ s2) w01
theorem Fslots_Slots_name.calls (s : Option Addr) (i : Int) (w : World) (R : ByteArray → World → Prop) (h : Fslots_Slots_name s i w R) : Cslots_Slots_name s i w R :=
  calls_of_vc (anOp_ok callable) wide Tryz.func206 [] [.s] [.pointer s, .int .i64 i] w R (Eq.mp (show Fslots_Slots_name s i w R = vcF Tryz.prog G Tryz.f206 [] [.s] [.pointer s, .int .i64 i] w R by kernel_rfl) h)
/-- pallet/slots.Decode -/
def Fslots_Decode (p : Sl) (w : World) (R : Int → Sl → Int → World → Prop) : Prop :=
  ((!(decide ((p.n : Int) < 20))) = true → (0 ≤ (0 : Int) ∧ (0 : Int) ≤ (4 : Int) ∧ (4 : Int) ≤ (p.c : Int) ∧ p.n ≤ p.c)) ∧ ∃ s : ByteArray, ((!(decide ((p.n : Int) < 20))) = true → (convert 33 9 (.slice (cutA p.A p.c 0 1) (4 - 0) (p.c - 0))).run Tryz.prog w = .ok (.string s) w) ∧ Br ((decide ((p.n : Int) < 20)) || (!(sEq s s_SLOT))) (R 0 (⟨none, 0, 0⟩ : Sl) 3 w) (Cbe_Get p 4 8 w fun n n1 w0 => Cbe_Get p 12 4 w0 fun n2 n3 w01 => Br ((decide (n2 > 4096)) || (decide ((IntKind.wrap .i64 n2) > (IntKind.wrap .i64 ((p.n : Int) - 20))))) (R 0 (⟨none, 0, 0⟩ : Sl) 3 w01) (Cbe_Get p (IntKind.wrap .i64 (16 + (IntKind.wrap .i64 n2))) 4 w01 fun n4 n5 w02 => (0 ≤ (0 : Int) ∧ (0 : Int) ≤ (IntKind.wrap .u64 (16 + n2)) ∧ (IntKind.wrap .u64 (16 + n2)) ≤ (p.c : Int) ∧ p.n ≤ p.c) ∧ Ccrc_C32 ⟨(cutA p.A p.c 0 1), ((IntKind.wrap .u64 (16 + n2)).toNat - 0), (p.c - 0)⟩ w02 fun n6 w03 => Br ((IntKind.wrap .u32 n4) != n6) (R 0 (⟨none, 0, 0⟩ : Sl) 5 w03) ((0 ≤ (16 : Int) ∧ (16 : Int) ≤ (IntKind.wrap .u64 (16 + n2)) ∧ (IntKind.wrap .u64 (16 + n2)) ≤ (p.c : Int) ∧ p.n ≤ p.c) ∧ RunK Tryz.prog .sl (Builtin.append_ #[33, 33] 33 #[.slice none 0 0, .slice (cutA p.A p.c 16 1) ((IntKind.wrap .u64 (16 + n2)).toNat - 16) (p.c - 16)]) w03 fun xs w04 => R n xs 0 w04)))
theorem Fslots_Decode.calls (p : Sl) (w : World) (R : Int → Sl → Int → World → Prop) (h : Fslots_Decode p w R) : Cslots_Decode p w R :=
  calls_of_vc (anOp_ok callable) wide Tryz.func207 [] [.i .u64, .sl, .i .i64] [.slice p.A p.n p.c] w R (Eq.mp (show Fslots_Decode p w R = vcF Tryz.prog G Tryz.f207 [] [.i .u64, .sl, .i .i64] [.slice p.A p.n p.c] w R by kernel_rfl) h)
/-- pallet/cdb.span -/
def Fcdb_span (c : Option Addr) (p : Sl) (w : World) (R : Int → World → Prop) : Prop :=
  Br ((p.n : Int) == 6) (Ccdb_number p 1 3 w fun n w0 => Ccdb_number p 4 1 w0 fun n1 w01 => c.isSome = true ∧ Put ((gA c).add 2) (.int .u64 (bAnd .u64 n 2097151)) w01 fun w02 => c.isSome = true ∧ Put ((gA c).add 3) (.int .u64 n1) w02 fun w03 => c.isSome = true ∧ ∃ n2 : Int, w03.cell? ((gA c).add 3) = some (.int .u64 n2) ∧ Br (n2 == 0) (c.isSome = true ∧ Put ((gA c).add 3) (.int .u64 256) w03 fun w05 => R 4 w05) (R 4 w03)) (Br ((p.n : Int) == 10) (Ccdb_number p 2 4 w fun n3 w06 => Ccdb_number p 7 2 w06 fun n4 w07 => c.isSome = true ∧ Put ((gA c).add 2) (.int .u64 n3) w07 fun w08 => c.isSome = true ∧ Put ((gA c).add 3) (.int .u64 n4) w08 fun w09 => R 7 w09) (Ccdb_number p 2 8 w fun n5 w010 => Ccdb_number p 10 4 w010 fun n6 w011 => c.isSome = true ∧ Put ((gA c).add 2) (.int .u64 n5) w011 fun w012 => c.isSome = true ∧ Put ((gA c).add 3) (.int .u64 n6) w012 fun w013 => R 10 w013))
theorem Fcdb_span.calls (c : Option Addr) (p : Sl) (w : World) (R : Int → World → Prop) (h : Fcdb_span c p w R) : Ccdb_span c p w R :=
  calls_of_vc (anOp_ok callable) wide Tryz.func209 [] [.i .i64] [.pointer c, .slice p.A p.n p.c] w R (Eq.mp (show Fcdb_span c p w R = vcF Tryz.prog G Tryz.f209 [] [.i .i64] [.pointer c, .slice p.A p.n p.c] w R by kernel_rfl) h)
end Go.Proofs.YtpmebahhjgkflaaGreatDoor
