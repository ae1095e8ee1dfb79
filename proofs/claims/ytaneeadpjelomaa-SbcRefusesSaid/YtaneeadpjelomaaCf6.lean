import Derived.Test.YtaneeadpjelomaaCf5
import Derived.WalkKit
/- The condition generator, part 6: what each operation is to it. -/
namespace Go.Proofs.Ytaneeadpjelomaa.CF
open Go

/-- the words that the conditions are told in -/
def RunK (P : Program) (k : Kd) (s : Sem Value) (w : World) (K : k.T → World → Prop) : Prop := ∃ x w1, s.run P w = .ok (k.mk x) w1 ∧ K x w1
def RunU (P : Program) (s : Sem Unit) (w : World) (K : World → Prop) : Prop := ∃ w1, s.run P w = .ok () w1 ∧ K w1
def New (o : Obj) (w : World) (K : Addr → World → Prop) : Prop := ∀ b w1, b = w.heap.size → w1 = w.alloc o → K ⟨b, 0, none⟩ w1
def Put (a : Addr) (v : Value) (w : World) (K : World → Prop) : Prop := (∃ u, w.cell? a = some u) ∧ w.frozen? a = false ∧ v.oneCell' = true ∧ ∀ w1, w1 = w.setCell a v → K w1
def gA (p : Option Addr) : Addr := match p with | some a => a | none => ⟨0, 0, none⟩
def bt (s : ByteArray) (i : Int) : Int := match s[i.toNat]? with | some b => (b.toNat : Int) | none => 0
def bAnd (k : IntKind) (x y : Int) : Int := k.wrap (BitVec.ofInt k.bits x &&& BitVec.ofInt k.bits y).toNat
def bOr (k : IntKind) (x y : Int) : Int := k.wrap (BitVec.ofInt k.bits x ||| BitVec.ofInt k.bits y).toNat
def bXor (k : IntKind) (x y : Int) : Int := k.wrap (BitVec.ofInt k.bits x ^^^ BitVec.ofInt k.bits y).toNat
def bClr (k : IntKind) (x y : Int) : Int := k.wrap (BitVec.ofInt k.bits x &&& ~~~(BitVec.ofInt k.bits y)).toNat
def bNot (k : IntKind) (x : Int) : Int := bXor k (if k.signed then -1 else k.max) x
def bShl (k : IntKind) (x : Int) (n : Nat) : Int := k.wrap (x * 2 ^ (min n k.bits))
def bShr (k : IntKind) (x : Int) (n : Nat) : Int := x.fdiv (2 ^ (min n k.bits))
def sEq (x y : ByteArray) : Bool := x.toList == y.toList
def mn (x y : Int) : Int := if y < x then y else x
def mx (x y : Int) : Int := if y > x then y else x
def typeKs (P : Program) (t : TypeId) : List Kd := match P.underlying t with | some (.tuple ts) => ts.toList.map (kd P) | some d => [kdOf d] | none => []
/-- a call of a function value -/
def CallV (P : Program) (cs : List Nat) (f : Value) (args : Array Value) (w : World) (ks : List Kd) (R : Fn' ks (World → Prop)) : Prop :=
  match f with
  | .func (.func n) first cap => memN n cs = true ∧ CallK P n (first ++ args ++ cap) w ks R
  | _ => False
def sizeT (P : Program) (t : TypeId) : Nat := match P.info? t with | some i => i.size | none => 0

def aInt (op : BinOp) (k : IntKind) (x y : Int) : An :=
  match op with
  | .add => .pv (.int k (k.wrap (x + y))) | .sub => .pv (.int k (k.wrap (x - y))) | .mul => .pv (.int k (k.wrap (x * y)))
  | .quo => .po (y ≠ 0) (.int k (k.wrap (x.tdiv y))) | .rem => .po (y ≠ 0) (.int k (x.tmod y))
  | .and => .pv (.int k (bAnd k x y)) | .or => .pv (.int k (bOr k x y)) | .xor => .pv (.int k (bXor k x y)) | .andNot => .pv (.int k (bClr k x y))
  | .eql => .pv (.bool (x == y)) | .neq => .pv (.bool (x != y)) | .lss => .pv (.bool (x < y)) | .leq => .pv (.bool (x ≤ y)) | .gtr => .pv (.bool (x > y)) | .geq => .pv (.bool (x ≥ y))
  | _ => .no
def isNilP : Operand → Bool
  | .const (.pointer none) => true
  | _ => false
def isNilS : Operand → Bool
  | .const (.slice none 0 0) => true
  | _ => false
def isNilM : Operand → Bool
  | .const (.map none) => true
  | _ => false
def aBin (P : Program) (op : BinOp) (t : TypeId) (x y : Operand) (vx vy : Value) : An :=
  match vx, vy with
  | .int k a, .int k' b => match op with
    | .shl => match y with
      | .const (.int _ (.ofNat m)) => .pv (.int k (bShl k a m))
      | _ => .po (0 ≤ b) (.int k (bShl k a b.toNat))
    | .shr => match y with
      | .const (.int _ (.ofNat m)) => .pv (.int k (bShr k a m))
      | _ => .po (0 ≤ b) (.int k (bShr k a b.toNat))
    | _ => match eqK k k' with | true => aInt op k a b | false => .no
  | .string a, .string b => match op with
    | .eql => .pv (.bool (sEq a b)) | .neq => .pv (.bool (!sEq a b))
    | .add => .po (a.size + b.size ≤ 9223372036854775807) (.string (a ++ b)) | _ => .no
  | .bool a, .bool b => match op, P.underlying t with
    | .eql, some .bool => .pv (.bool (a == b)) | .neq, some .bool => .pv (.bool (!(a == b))) | _, _ => .no
  | .pointer p, _ => match isNilP y with
    | true => match op, P.underlying t with
      | .eql, some (.pointer _) => .pv (.bool p.isNone) | .neq, some (.pointer _) => .pv (.bool (!p.isNone)) | _, _ => .no
    | false => .rd .b (fun w v => (do eqGuard op t x y vx vy; binOp op t vx vy : Sem Value).run P w = .ok v w)
  | .slice a _ _, _ => match isNilS y with
    | true => match op, P.underlying t with
      | .eql, some (.slice _) => .pv (.bool a.isNone) | .neq, some (.slice _) => .pv (.bool (!a.isNone)) | _, _ => .no
    | false => .no
  | .map m, _ => match isNilM y with
    | true => match op, P.underlying t with
      | .eql, some (.map _ _) => .pv (.bool m.isNone) | .neq, some (.map _ _) => .pv (.bool (!m.isNone)) | _, _ => .no
    | false => .no
  | .agg _, _ => .rd .b (fun w v => (do eqGuard op t x y vx vy; binOp op t vx vy : Sem Value).run P w = .ok v w)
  | _, _ => .no
def aLoad (P : Program) (t : TypeId) (v : Value) : An :=
  match v with
  | .pointer (some a) => match P.underlying t with
    | some d => match kdOf d with
      | .ag => .rd .ag (fun w v => (loadVar t a).run P w = .ok v w)
      | k => .rd k (fun w v => w.cell? a = some v)
    | none => .no
  | _ => .no
def aStore (P : Program) (t : TypeId) (p v : Value) : An :=
  match p with
  | .pointer (some a) => match P.underlying t with
    | some d => match kdOf d with
      | .ag => .ac (fun w K => RunU P (storeVar t a v) w (K (.tuple #[])))
      | _ => match Nat.beq (sizeT P t) 1 with
        | true => .ac (fun w K => Put a v w (K (.tuple #[])))
        | false => .no
    | none => .no
  | _ => .no
def aConv (P : Program) (s d : TypeId) (v : Value) : An :=
  match P.underlying s, P.underlying d with
  | some (.int _), some (.int k) => match v with | .int _ n => .pv (.int k (k.wrap n)) | _ => .no
  | some .string, some .string => match v with | .string _ => .pv v | _ => .no
  | some (.slice _), some .string => .rd .s (fun w x => (convert s d v).run P w = .ok x w)
  | some .string, some (.slice _) => .at .sl (fun w K => RunK P .sl (convert s d v) w K)
  | some (.slice _), some (.slice _) => .at .sl (fun w K => RunK P .sl (convert s d v) w K)
  | _, _ => .no
def aFieldAddr (P : Program) (t : TypeId) (v : Value) (i : Nat) : An :=
  match v with
  | .pointer (some a) => match P.underlying t with
    | some (.struct fs) => match fs[i]? with
      | some f => match Nat.beq (sizeT P f.type) 0 with
        | false => .pv (.pointer (some (a.add f.offset)))
        | true => .no
      | none => .no
    | _ => .no
  | _ => .no
def aField (P : Program) (t : TypeId) (v : Value) (i : Nat) : An :=
  match v with
  | .agg cs => match P.underlying t with
    | some (.struct fs) => match fs[i]? with
      | some f => match P.underlying f.type with
        | some d => match kdOf d with
          | .ag => .pv (.agg (cs.extract f.offset (f.offset + sizeT P f.type)))
          | k => .rd k (fun _ v => cs[f.offset]? = some v)
        | none => .no
      | none => .no
    | _ => .no
  | _ => .no
def aIndexAddr (P : Program) (t : TypeId) (v : Value) (i : Value) : An :=
  match i with
  | .int _ n => match P.underlying t, v with
    | some (.slice e), .slice a len _ => match P.info? e with
      | some q => .po (0 ≤ n ∧ n < (len : Int) ∧ a.isSome = true) (.pointer (some ((gA a).add (n.toNat * q.size))))
      | none => .no
    | some (.array len e), .pointer (some a) => match P.info? e with
      | some q => .po (0 ≤ n ∧ n < (len : Int)) (.pointer (some (a.add (n.toNat * q.size))))
      | none => .no
    | _, _ => .no
  | _ => .no
def aIndex (P : Program) (t : TypeId) (v : Value) (i : Value) : An :=
  match i with
  | .int _ n => match P.underlying t, v with
    | some .string, .string s => .po (0 ≤ n ∧ n < (s.size : Int)) (.int .u8 (bt s n))
    | some (.array len e), .agg cs => match P.underlying e with
      | some d => match kdOf d with
        | .ag => .po (0 ≤ n ∧ n < (len : Int)) (.agg (cs.extract (n.toNat * sizeT P e) (n.toNat * sizeT P e + sizeT P e)))
        | k => .rd k (fun _ v => (0 ≤ n ∧ n < (len : Int)) ∧ cs[n.toNat * sizeT P e]? = some v)
      | none => .no
    | _, _ => .no
  | _ => .no
/-- a bound of a slice, if it is told -/
def bnd (F : Fr) (tg : Nat) (C : Gd) (d : Int) : Option Operand → Option Int
  | none => some d
  | some x => match opv F tg C x with
    | some (.int _ n) => some n
    | _ => none
def cutA (a : Option Addr) (m l size : Nat) : Option Addr := if m = l then a else a.map (·.add (l * size))
def aSlice (P : Program) (F : Fr) (tg : Nat) (C : Gd) (t : TypeId) (v : Value) (lo hi : Option Operand) : An :=
  match P.underlying t, v with
  | some .string, .string s => match bnd F tg C 0 lo, bnd F tg C s.size hi with
    | some l, some h => .po (0 ≤ l ∧ l ≤ h ∧ h ≤ (s.size : Int)) (.string (s.extract l.toNat h.toNat))
    | _, _ => .no
  | some (.slice e), .slice a n c => match bnd F tg C 0 lo, bnd F tg C n hi, P.info? e with
    | some l, some h, some q => .po (0 ≤ l ∧ l ≤ h ∧ h ≤ (c : Int) ∧ n ≤ c) (.slice (cutA a c l.toNat q.size) (h.toNat - l.toNat) (c - l.toNat))
    | _, _, _ => .no
  | some (.array n e), .pointer (some a) => match bnd F tg C 0 lo, bnd F tg C n hi, P.info? e with
    | some l, some h, some q => .po (0 ≤ l ∧ l ≤ h ∧ h ≤ (n : Int)) (.slice (some (if n = l.toNat then a else a.add (l.toNat * q.size))) (h.toNat - l.toNat) (n - l.toNat))
    | _, _, _ => .no
  | _, _ => .no
def aCallK (P : Program) (f : Nat) (args : Array Value) (ks : List Kd) : An :=
  match ks with
  | [k] => .at k (fun w K => CallK P f args w [k] K)
  | ks => .ac (fun w K => CallK P f args w ks (cur ks fun vs => K (pack vs)))
def aCallV (P : Program) (cs : List Nat) (f : Value) (args : Array Value) (ks : List Kd) : An :=
  match ks with
  | [k] => .at k (fun w K => CallV P cs f args w [k] K)
  | ks => .ac (fun w K => CallV P cs f args w ks (cur ks fun vs => K (pack vs)))
def evs (F : Fr) (tg : Nat) (C : Gd) : List Operand → Option (List Value)
  | [] => some []
  | x :: r => match opv F tg C x, evs F tg C r with
    | some v, some vs => some (v :: vs)
    | _, _ => none
def aBuiltin (P : Program) (b : Builtin) (ts : Array TypeId) (ty : TypeId) (vs : List Value) : An :=
  match b with
  | .len => match vs, ts.toList with
    | [.string s], [t] => match P.underlying t with | some .string => .pv (.int .i64 s.size) | _ => .no
    | [.slice _ n _], [t] => match P.underlying t with | some (.slice _) => .pv (.int .i64 n) | _ => .no
    | [.map m], [t] => match P.underlying t with | some (.map _ _) => .rd (.i .i64) (fun w v => (Builtin.len_ ts ty #[.map m]).run P w = .ok v w) | _ => .no
    | _, _ => .no
  | .min => match vs with
    | [.int k x, .int k' y] => (match eqK k k' with | true => .pv (.int k (mn x y)) | false => .no)
    | _ => .no
  | .max => match vs with
    | [.int k x, .int k' y] => (match eqK k k' with | true => .pv (.int k (mx x y)) | false => .no)
    | _ => .no
  | .append => .at .sl (fun w K => RunK P .sl (Builtin.append_ ts ty vs.toArray) w K)
  | .copy => .at (.i .i64) (fun w K => RunK P (.i .i64) (Builtin.copy_ ts ty vs.toArray) w K)
  | .delete => .ac (fun w K => RunK P .v (Builtin.delete_ ts ty vs.toArray) w K)
  | .clear => .ac (fun w K => RunK P .v (Builtin.clear_ ts ty vs.toArray) w K)
  | _ => .no
def scalarV : Value → Bool | .int _ _ | .bool _ | .string _ | .pointer _ | .slice _ _ _ | .map _ | .func _ _ _ | .nilFunc => true | _ => false
def allB (p : Value → Bool) : List Value → Bool
  | [] => true
  | v :: r => p v && allB p r
def zip2 : List Nat → List Value → List (Nat × Value)
  | i :: r, v :: s => (i, v) :: zip2 r s
  | _, _ => []
def aBuild (P : Program) (t : TypeId) (is : List Nat) (vs : List Value) : An :=
  match allB scalarV vs with
  | true => match P.built t (zip2 is vs) with
    | some cells => .pv (.agg cells)
    | none => .no
  | false => .rd .ag (fun w v => (Instr.build t (zip2 is vs).toArray).run P w = .ok v w)
def anOp (P : Program) (cs : List Nat) : Ana := fun F tg C o =>
  match o.op with
  | .move x => match opv F tg C x with | some v => .pv v | none => .no
  | .assign x => match opv F tg C x with | some v => .pv v | none => .no
  | .pick c x y => match c with
    | .tmp s => match opv F tg C c, opv F tg ((s, true) :: C) x, opv F tg ((s, false) :: C) y with
      | some (.bool b), some (.bool p), some (.bool q) => match x, y with
        | .const _, _ => match p with | true => .pv (.bool (b || q)) | false => .no
        | _, .const _ => match q with | false => .pv (.bool (b && p)) | true => .no
        | _, _ => .no
      | _, _, _ => .no
    | _ => .no
  | .alloc e => match P.info? e with
    | some i => match i.zero with
      | some z => .at .a (fun w K => New (.cells z.cells e) w K)
      | none => .no
    | none => .no
  | .box e x => match opv F tg C x with | some v => .at .a (fun w K => New (.cells v.cells e) w K) | none => .no
  | .build t parts => match evs F tg C (parts.toList.map (·.2)) with | some vs => aBuild P t (parts.toList.map (·.1)) vs | none => .no
  | .buildSlice t n parts => match evs F tg C (parts.toList.map (·.2)) with
    | some vs => .at .sl (fun w K => RunK P .sl (Instr.buildSlice t n (zip2 (parts.toList.map (·.1)) vs).toArray) w K)
    | none => .no
  | .load t x => match opv F tg C x with | some v => aLoad P t v | none => .no
  | .store t x y => match opv F tg C x, opv F tg C y with | some p, some v => aStore P t p v | _, _ => .no
  | .nilCheck x => match opv F tg C x with
    | some (.pointer p) => .po (p.isSome = true) (.pointer (some (gA p)))
    | _ => .no
  | .binOp op t x y _ => match opv F tg C x, opv F tg C y with | some u, some v => aBin P op t x y u v | _, _ => .no
  | .unOp op _ x => match op, opv F tg C x with
    | .not, some (.bool b) => .pv (.bool (!b))
    | .neg, some (.int k n) => .pv (.int k (k.wrap (0 - n)))
    | .xor, some (.int k n) => .pv (.int k (bNot k n))
    | _, _ => .no
  | .convert s d x => match opv F tg C x with | some v => aConv P s d v | none => .no
  | .makeFunc fn x y => match evs F tg C x.toList, evs F tg C y.toList with | some a, some b => .pv (.func fn a.toArray b.toArray) | _, _ => .no
  | .makeMap t r => match r with | none => .at .m (fun w K => New (.map #[] 0) w (fun a w1 => K (some a.block) w1)) | some _ => .no
  | .makeSlice t x y => match opv F tg C x, opv F tg C y with | some u, some v => .at .sl (fun w K => RunK P .sl (Instr.makeSlice t u v) w K) | _, _ => .no
  | .makeInterface t x => match opv F tg C x with | some v => .rd .v (fun w y => (Instr.makeInterface t v).run P w = .ok y w) | none => .no
  | .slice t x lo hi m => match m, opv F tg C x with | none, some v => aSlice P F tg C t v lo hi | _, _ => .no
  | .fieldAddr t x i => match opv F tg C x with | some v => aFieldAddr P t v i | none => .no
  | .field t x i => match opv F tg C x with | some v => aField P t v i | none => .no
  | .indexAddr t x y => match opv F tg C x, opv F tg C y with | some u, some v => aIndexAddr P t u v | _, _ => .no
  | .index t x y => match opv F tg C x, opv F tg C y with | some u, some v => aIndex P t u v | _, _ => .no
  | .lookup t x y ok => match opv F tg C x, opv F tg C y, P.underlying t with
    | some u, some v, some (.map _ e) => match ok with
      | true => .rd (.ok (kd P e)) (fun w z => (Instr.lookup t u v true).run P w = .ok z w)
      | false => .rd (kd P e) (fun w z => (Instr.lookup t u v false).run P w = .ok z w)
    | _, _, _ => .no
  | .mapUpdate t x y z => match opv F tg C x, opv F tg C y, opv F tg C z with
    | some m, some u, some v => .ac (fun w K => RunU P (Instr.mapUpdate t m u v) w (K (.tuple #[])))
    | _, _, _ => .no
  | .insert t x y z => match opv F tg C x, opv F tg C y, opv F tg C z with
    | some m, some u, some v => .ac (fun w K => RunU P (Instr.mapUpdate t m u v) w (K (.tuple #[])))
    | _, _, _ => .no
  | .extract x i => match opv F tg C x with
    | some (.tuple vs) => match vs.toList[i]? with | some v => .pv v | none => .no
    | _ => .no
  | .call c => match c.callee with
    | .value (.func f) => match evs F tg C c.args.toList with
      | some vs => match memN f cs with | true => aCallK P f vs.toArray (typeKs P o.type) | false => .no
      | none => .no
    | .value x => match opv F tg C x, evs F tg C c.args.toList with
      | some v, some vs => aCallV P cs v vs.toArray (typeKs P o.type)
      | _, _ => .no
    | .builtin b => match evs F tg C c.args.toList with | some vs => aBuiltin P b c.argTypes o.type vs | none => .no
    | .invoke _ _ => .no
  | _ => .no
/-- may it look into memory? is it more than a look? -/
def isROp (P : Program) (o : Oper) : Bool := match o.op with
  | .load .. | .field .. | .index .. | .lookup .. | .makeInterface .. | .build .. => true
  | .binOp _ t _ _ _ => match P.underlying t with | some (.int _) | some .string | some .bool => false | _ => true
  | .convert s d _ => match P.underlying s, P.underlying d with | some (.slice _), some .string => true | _, _ => false
  | .call c => match c.callee with | .builtin .len => true | _ => false
  | _ => false
def isAOp (P : Program) (o : Oper) : Bool := match o.op with
  | .alloc _ | .box .. | .buildSlice .. | .store .. | .makeMap .. | .makeSlice .. | .mapUpdate .. | .insert .. => true
  | .convert s d _ => match P.underlying s, P.underlying d with | some .string, some (.slice _) => true | some (.slice _), some (.slice _) => true | _, _ => false
  | .call c => match c.callee with | .builtin .len | .builtin .min | .builtin .max => false | _ => true
  | _ => false
def gen (P : Program) (cs : List Nat) : Gen := ⟨anOp P cs, isROp P, isAOp P⟩
end Go.Proofs.Ytaneeadpjelomaa.CF
