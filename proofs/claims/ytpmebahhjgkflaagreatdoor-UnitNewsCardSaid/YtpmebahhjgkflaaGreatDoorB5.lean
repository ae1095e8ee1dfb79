import Derived.Test.YtpmebahhjgkflaaGreatDoorB4
-- printed by wip/cf/cfprint.py
namespace Go.Proofs.YtpmebahhjgkflaaGreatDoor
open Go CF
set_option linter.unusedVariables false
set_option maxRecDepth 100000
/-- pallet/pr.All -/
def Fpr_All (kind : Int) (w : World) (R : Bool → World → Prop) : Prop :=
  R ((kind == 7) || (kind == 8)) w
theorem Fpr_All.calls (kind : Int) (w : World) (R : Bool → World → Prop) (h : Fpr_All kind w R) : Cpr_All kind w R :=
  calls_of_vc (anOp_ok callable) wide Tryz.func119 [] [.b] [.int .u8 kind] w R (Eq.mp (show Fpr_All kind w R = vcF Tryz.prog G Tryz.f119 [] [.b] [.int .u8 kind] w R by kernel_rfl) h)
/-- (*pallet/attn.Queues).Add -/
def Fattn_Queues_Add (q : Option Addr) (nexus : Int) (code : Int) (w : World) (R : World → Prop) : Prop :=
  Cattn_Queues_in q nexus w fun b w0 => Br (!b) (R w0) (q.isSome = true ∧ (0 ≤ nexus ∧ nexus < (8 : Int)) ∧ ∃ xs : Sl, w0.cell? (((gA q).add 0).add (nexus.toNat * 1)) = some (.slice xs.A xs.n xs.c) ∧ letX (fun (l : Sl) (w01 : World) => ∃ (I : Int → World → Prop) (μ : Int → World → Nat), I 0 w01 ∧ ∀ (x : Int) (w02 : World), I x w02 → Br (decide (x < (l.n : Int))) ((0 ≤ x ∧ x < (l.n : Int) ∧ l.A.isSome = true) ∧ ∃ n : Int, w02.cell? ((gA l.A).add (x.toNat * 1)) = some (.int .u16 n) ∧ Br (n == code) (R w02) (I (IntKind.wrap .i64 (x + 1)) w02 ∧ μ (IntKind.wrap .i64 (x + 1)) w02 < μ x w02)) (Br (decide ((l.n : Int) < 8)) (∀ w04, w04 = w02.drew → q.isSome = true ∧ (RunK Tryz.prog .sl (Builtin.append_ #[196, 196] 196 #[.slice none 0 0, .slice l.A l.n l.c]) w04 fun xs1 w05 => RunK Tryz.prog .sl (Instr.buildSlice 196 1 #[(0, .int .u16 code)]) w05 fun xs2 w06 => RunK Tryz.prog .sl (Builtin.append_ #[196, 196] 196 #[.slice xs1.A xs1.n xs1.c, .slice xs2.A xs2.n xs2.c]) w06 fun xs3 w07 => (0 ≤ nexus ∧ nexus < (8 : Int)) ∧ Put (((gA q).add 0).add (nexus.toNat * 1)) (.slice xs3.A xs3.n xs3.c) w07 fun w08 => R w08) ∧ RunK Tryz.prog .sl (Instr.buildSlice 196 1 #[(0, .int .u16 code)]) w04 fun xs4 w09 => RunK Tryz.prog .sl (Builtin.append_ #[196, 196] 196 #[.slice none 0 0, .slice l.A l.n l.c]) w09 fun xs5 w010 => RunK Tryz.prog .sl (Builtin.append_ #[196, 196] 196 #[.slice xs5.A xs5.n xs5.c, .slice xs4.A xs4.n xs4.c]) w010 fun xs6 w011 => (0 ≤ nexus ∧ nexus < (8 : Int)) ∧ Put (((gA q).add 0).add (nexus.toNat * 1)) (.slice xs6.A xs6.n xs6.c) w011 fun w012 => R w012) (R w02))) fun J_ => Br (code == 10496) (J_ (⟨none, 0, 0⟩ : Sl) w0) (J_ xs w0))
theorem Fattn_Queues_Add.calls (q : Option Addr) (nexus : Int) (code : Int) (w : World) (R : World → Prop) (h : Fattn_Queues_Add q nexus code w R) : Cattn_Queues_Add q nexus code w R :=
  calls_of_vc (anOp_ok callable) wide Tryz.func123 [(15, ⟨[(23, .i .i64)], [0, 1, 2, 6, 21, 22]⟩), (10, ⟨[(6, .sl)], [0, 1, 2]⟩)] [] [.pointer q, .int .i64 nexus, .int .u16 code] w R (Eq.mp (show Fattn_Queues_Add q nexus code w R = vcF Tryz.prog G Tryz.f123 [(15, ⟨[(23, .i .i64)], [0, 1, 2, 6, 21, 22]⟩), (10, ⟨[(6, .sl)], [0, 1, 2]⟩)] [] [.pointer q, .int .i64 nexus, .int .u16 code] w R by kernel_rfl) h)
/-- (*pallet/slots.Slots).Load -/
def Fslots_Slots_Load (s : Option Addr) (w : World) (R : Sl → Int → Int → World → Prop) : Prop :=
  Br ((s).isNone) (R (⟨none, 0, 0⟩ : Sl) 0 8 w) (s.isSome = true ∧ Put ((gA s).add 2) (.bool false) w fun w0 => ∃ (I : Sl → Int → Int → Int → World → Prop) (μ : Sl → Int → Int → Int → World → Nat), I (⟨none, 0, 0⟩ : Sl) (-1) 0 0 w0 ∧ ∀ (best : Sl) (at_ : Int) (most : Int) (x : Int) (w01 : World), I best at_ most x w01 → Br (decide (x < 2)) (letX (fun (best1 : Sl) (at_1 : Int) (most1 : Int) (w02 : World) => I best1 at_1 most1 (IntKind.wrap .i64 (x + 1)) w02 ∧ μ best1 at_1 most1 (IntKind.wrap .i64 (x + 1)) w02 < μ best at_ most x w01) fun J_ => ∀ w03, w03 = w01.drew → ∃ S : World → Prop, S w03 ∧ s.isSome = true ∧ ∃ p : Option Addr, (∀ u, S u → u.cell? ((gA s).add 0) = some (.pointer p)) ∧ Cslots_Slots_name s x w03 fun s1 w04 => S w04 ∧ Cworld_World_Read p s1 0 4116 w04 fun xs n w05 => Br ((n != 0) && (n != 8)) (R (⟨none, 0, 0⟩ : Sl) 0 n w05) (Cslots_Decode xs w05 fun n1 xs1 n2 w06 => Br ((n2 == 0) && ((decide (at_ < 0)) || (decide (n1 > most)))) (J_ xs1 x n1 w06) (J_ best at_ most w06))) (s.isSome = true ∧ Put ((gA s).add 3) (.int .i64 at_) w01 fun w08 => s.isSome = true ∧ Put ((gA s).add 4) (.int .u64 most) w08 fun w09 => s.isSome = true ∧ Put ((gA s).add 2) (.bool true) w09 fun w010 => Br (decide (at_ < 0)) (R (⟨none, 0, 0⟩ : Sl) 0 8 w010) (R best most 0 w010)))
theorem Fslots_Slots_Load.calls (s : Option Addr) (w : World) (R : Sl → Int → Int → World → Prop) (h : Fslots_Slots_Load s w R) : Cslots_Slots_Load s w R :=
  calls_of_vc (anOp_ok callable) wide Tryz.func124 [(21, ⟨[(5, .sl), (6, .i .i64), (7, .i .u64), (19, .i .i64)], [0]⟩), (5, ⟨[(5, .sl), (6, .i .i64), (7, .i .u64)], [0, 19]⟩)] [.sl, .i .u64, .i .i64] [.pointer s] w R (Eq.mp (show Fslots_Slots_Load s w R = vcF Tryz.prog G Tryz.f124 [(21, ⟨[(5, .sl), (6, .i .i64), (7, .i .u64), (19, .i .i64)], [0]⟩), (5, ⟨[(5, .sl), (6, .i .i64), (7, .i .u64)], [0, 19]⟩)] [.sl, .i .u64, .i .i64] [.pointer s] w R by kernel_rfl) h)
/-- pallet/inq.text -/
def Finq_text (s : ByteArray) (least : Int) (most : Int) (w : World) (R : Bool → World → Prop) : Prop :=
  ∃ (I : Int → World → Prop) (μ : Int → World → Nat), I 0 w ∧ ∀ (x : Int) (w0 : World), I x w0 → Br (decide (x < (s.size : Int))) ((0 ≤ x ∧ x < (s.size : Int)) ∧ ((!(decide ((bt s x) < 32))) = true → (0 ≤ x ∧ x < (s.size : Int))) ∧ Br ((decide ((bt s x) < 32)) || (decide ((bt s x) > 126))) (R false w0) (I (IntKind.wrap .i64 (x + 1)) w0 ∧ μ (IntKind.wrap .i64 (x + 1)) w0 < μ x w0)) (R ((decide ((s.size : Int) ≥ least)) && (decide ((s.size : Int) ≤ most))) w0)
theorem Finq_text.calls (s : ByteArray) (least : Int) (most : Int) (w : World) (R : Bool → World → Prop) (h : Finq_text s least most w R) : Cinq_text s least most w R :=
  calls_of_vc (anOp_ok callable) wide Tryz.func128 [(6, ⟨[(10, .i .i64)], [0, 1, 2, 9]⟩)] [.b] [.string s, .int .i64 least, .int .i64 most] w R (Eq.mp (show Finq_text s least most w R = vcF Tryz.prog G Tryz.f128 [(6, ⟨[(10, .i .i64)], [0, 1, 2, 9]⟩)] [.b] [.string s, .int .i64 least, .int .i64 most] w R by kernel_rfl) h)
/-- pallet/be.field -/
def Fbe_field (p : Sl) (at_ : Int) (n : Int) (w : World) (R : Int → World → Prop) : Prop :=
  Br ((decide (n < 1)) || (decide (n > 8))) (R 1 w) (Br ((decide (at_ < 0)) || (decide (at_ > (IntKind.wrap .i64 ((p.n : Int) - n))))) (R 4 w) (R 0 w))
theorem Fbe_field.calls (p : Sl) (at_ : Int) (n : Int) (w : World) (R : Int → World → Prop) (h : Fbe_field p at_ n w R) : Cbe_field p at_ n w R :=
  calls_of_vc (anOp_ok callable) wide Tryz.func130 [] [.i .i64] [.slice p.A p.n p.c, .int .i64 at_, .int .i64 n] w R (Eq.mp (show Fbe_field p at_ n w R = vcF Tryz.prog G Tryz.f130 [] [.i .i64] [.slice p.A p.n p.c, .int .i64 at_, .int .i64 n] w R by kernel_rfl) h)
/-- pallet/cdb.number -/
def Fcdb_number (p : Sl) (at_ : Int) (n : Int) (w : World) (R : Int → World → Prop) : Prop :=
  Cbe_Get p at_ n w fun n1 n2 w0 => R n1 w0
theorem Fcdb_number.calls (p : Sl) (at_ : Int) (n : Int) (w : World) (R : Int → World → Prop) (h : Fcdb_number p at_ n w R) : Ccdb_number p at_ n w R :=
  calls_of_vc (anOp_ok callable) wide Tryz.func134 [] [.i .u64] [.slice p.A p.n p.c, .int .i64 at_, .int .i64 n] w R (Eq.mp (show Fcdb_number p at_ n w R = vcF Tryz.prog G Tryz.f134 [] [.i .u64] [.slice p.A p.n p.c, .int .i64 at_, .int .i64 n] w R by kernel_rfl) h)
/-- pallet/cdb.blocks -/
def Fcdb_blocks (c : Option Addr) (p : Sl) (w : World) (R : Int → Int → World → Prop) : Prop :=
  Ccdb_span c p w fun n w0 => letX (fun (w01 : World) => c.isSome = true ∧ ∃ n1 : Int, w01.cell? ((gA c).add 0) = some (.int .u8 n1) ∧ ((n1 != 11) = true → c.isSome = true) ∧ ∃ n2 : Int, ((n1 != 11) = true → w01.cell? ((gA c).add 0) = some (.int .u8 n2)) ∧ (((n1 != 11) && (n2 != 12)) = true → c.isSome = true) ∧ ∃ n3 : Int, (((n1 != 11) && (n2 != 12)) = true → w01.cell? ((gA c).add 3) = some (.int .u64 n3)) ∧ Br (((n1 != 11) && (n2 != 12)) && (decide (n3 > 256))) (R n 7 w01) (R (-1) 0 w01)) fun J_ => Br (decide ((p.n : Int) > 6)) ((0 ≤ (1 : Int) ∧ (1 : Int) < (p.n : Int) ∧ p.A.isSome = true) ∧ ∃ n4 : Int, w0.cell? ((gA p.A).add ((1 : Int).toNat * 1)) = some (.int .u8 n4) ∧ c.isSome = true ∧ Put ((gA c).add 6) (.int .u8 (bShr .u8 n4 5)) w0 fun w02 => c.isSome = true ∧ ∃ n5 : Int, w02.cell? ((gA c).add 0) = some (.int .u8 n5) ∧ letX (fun (x : Bool) (w04 : World) => Br x ((0 ≤ (1 : Int) ∧ (1 : Int) < (p.n : Int) ∧ p.A.isSome = true) ∧ ∃ n6 : Int, w04.cell? ((gA p.A).add ((1 : Int).toNat * 1)) = some (.int .u8 n6) ∧ c.isSome = true ∧ Put ((gA c).add 5) (.bool ((bAnd .u8 n6 8) != 0)) w04 fun w06 => J_ w06) (Br (n5 == 10) ((0 ≤ (1 : Int) ∧ (1 : Int) < (p.n : Int) ∧ p.A.isSome = true) ∧ ∃ n7 : Int, w04.cell? ((gA p.A).add ((1 : Int).toNat * 1)) = some (.int .u8 n7) ∧ c.isSome = true ∧ Put ((gA c).add 14) (.bool ((bAnd .u8 n7 2) != 0)) w04 fun w08 => J_ w08) (Br (n5 == 12) ((0 ≤ (1 : Int) ∧ (1 : Int) < (p.n : Int) ∧ p.A.isSome = true) ∧ ∃ n8 : Int, w04.cell? ((gA p.A).add ((1 : Int).toNat * 1)) = some (.int .u8 n8) ∧ c.isSome = true ∧ Put ((gA c).add 7) (.bool ((bAnd .u8 n8 8) != 0)) w04 fun w010 => J_ w010) (Br (n5 == 11) (c.isSome = true ∧ Put ((gA c).add 6) (.int .u8 0) w04 fun w012 => J_ w012) (J_ w04))))) fun J_1 => Br (n5 == 7) (J_1 (n5 == 7) w02) (J_1 (n5 == 8) w02)) (J_ w0)
theorem Fcdb_blocks.calls (c : Option Addr) (p : Sl) (w : World) (R : Int → Int → World → Prop) (h : Fcdb_blocks c p w R) : Ccdb_blocks c p w R :=
  calls_of_vc (anOp_ok callable) wide Tryz.func135 [(10, ⟨[], [0, 6]⟩), (19, ⟨[(24, .b)], [0, 1, 6, 23]⟩)] [.i .i64, .i .i64] [.pointer c, .slice p.A p.n p.c] w R (Eq.mp (show Fcdb_blocks c p w R = vcF Tryz.prog G Tryz.f135 [(10, ⟨[], [0, 6]⟩), (19, ⟨[(24, .b)], [0, 1, 6, 23]⟩)] [.i .i64, .i .i64] [.pointer c, .slice p.A p.n p.c] w R by kernel_rfl) h)
/-- (*pallet/attn.Queues).in -/
def Fattn_Queues_in (q : Option Addr) (nexus : Int) (w : World) (R : Bool → World → Prop) : Prop :=
  R (((!(q).isNone) && (decide (nexus ≥ 0))) && (decide (nexus < 8))) w
theorem Fattn_Queues_in.calls (q : Option Addr) (nexus : Int) (w : World) (R : Bool → World → Prop) (h : Fattn_Queues_in q nexus w R) : Cattn_Queues_in q nexus w R :=
  calls_of_vc (anOp_ok callable) wide Tryz.func136 [] [.b] [.pointer q, .int .i64 nexus] w R (Eq.mp (show Fattn_Queues_in q nexus w R = vcF Tryz.prog G Tryz.f136 [] [.b] [.pointer q, .int .i64 nexus] w R by kernel_rfl) h)
/-- pallet/attn.rank -/
def Fattn_rank (code : Int) (w : World) (R : Int → World → Prop) : Prop :=
  Br ((bShr .u16 code 8) == 41) (R 0 w) (Br (code == 12032) (R 1 w) (Br (((bShr .u16 code 8) == 42) && (code != 10753)) (R 2 w) (R 3 w)))
theorem Fattn_rank.calls (code : Int) (w : World) (R : Int → World → Prop) (h : Fattn_rank code w R) : Cattn_rank code w R :=
  calls_of_vc (anOp_ok callable) wide Tryz.func137 [] [.i .i64] [.int .u16 code] w R (Eq.mp (show Fattn_rank code w R = vcF Tryz.prog G Tryz.f137 [] [.i .i64] [.int .u16 code] w R by kernel_rfl) h)
end Go.Proofs.YtpmebahhjgkflaaGreatDoor

-- printed by wip/cf/cfprint.py
namespace Go.Proofs.YtpmebahhjgkflaaGreatDoor
open Go CF
set_option linter.unusedVariables false
set_option maxRecDepth 100000
end Go.Proofs.YtpmebahhjgkflaaGreatDoor
