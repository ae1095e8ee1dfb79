/- Layers 2 and 13: the guard of bytes, blocks as they go over the wire. -/
import Derived.Test.YtaneeadpjelomaaSl1
import Derived.Test.YtaneeadpjelomaaSt10
namespace Go.Proofs.Ytaneeadpjelomaa
open Go CF

def gG (s : Nat) : Nat := if s / 32768 = 1 then (2 * s % 65536) ^^^ 0x8bb7 else 2 * s % 65536
def gGs : Nat → Nat → Nat
  | 0, s => s
  | k + 1, s => gG (gGs k s)
def gB (s : Nat) (b : UInt8) : Nat := gGs 8 (s ^^^ b.toNat * 256)
def c16 (l : L8) : Nat := l.foldl gB 0
theorem xor_lt16 {a b : Nat} (ha : a < 65536) (hb : b < 65536) : a ^^^ b < 65536 := Nat.xor_lt_two_pow (n := 16) ha hb
theorem gG_lt {s : Nat} (h : s < 65536) : gG s < 65536 := by
  unfold gG
  split
  · exact xor_lt16 (Nat.mod_lt _ (by decide)) (by decide)
  · exact Nat.mod_lt _ (by decide)
theorem gGs_lt {s : Nat} (h : s < 65536) : ∀ k, gGs k s < 65536
  | 0 => h
  | k + 1 => gG_lt (gGs_lt h k)
theorem gB_lt {s : Nat} (h : s < 65536) (b : UInt8) : gB s b < 65536 := gGs_lt (xor_lt16 h (by have := b.toNat_lt; omega)) 8
theorem c16f_lt {l : L8} : ∀ {s : Nat}, s < 65536 → l.foldl gB s < 65536 := by
  induction l with
  | nil => intro s h; exact h
  | cons b r ih => intro s h; exact ih (gB_lt h b)
theorem c16_lt (l : L8) : c16 l < 65536 := c16f_lt (by decide)
theorem xor_odd {a : Nat} (h : a % 2 = 0) : (a ^^^ 0x8bb7) % 2 = 1 := by rw [xor_mod2, h]; decide
theorem gG_inj {a b : Nat} (ha : a < 65536) (hb : b < 65536) (h : gG a = gG b) : a = b := by
  unfold gG at h
  split at h <;> split at h
  · have : 2 * a % 65536 = 2 * b % 65536 := by
      have := congrArg (· ^^^ 0x8bb7) h
      simpa [Nat.xor_assoc] using this
    omega
  · have := xor_odd (a := 2 * a % 65536) (by omega)
    rw [h] at this
    omega
  · have := xor_odd (a := 2 * b % 65536) (by omega)
    rw [← h] at this
    omega
  · omega
theorem gGs_inj {a b : Nat} (ha : a < 65536) (hb : b < 65536) : ∀ k, gGs k a = gGs k b → a = b
  | 0, h => h
  | k + 1, h => gGs_inj ha hb k (gG_inj (gGs_lt ha k) (gGs_lt hb k) h)
theorem gB_inj {a b : Nat} {x : UInt8} (ha : a < 65536) (hb : b < 65536) (h : gB a x = gB b x) : a = b := by
  have hx := x.toNat_lt
  have := gGs_inj (xor_lt16 ha (by omega)) (xor_lt16 hb (by omega)) 8 h
  have := congrArg (· ^^^ x.toNat * 256) this
  simpa [Nat.xor_assoc] using this
theorem gB_ne {a : Nat} {x y : UInt8} (ha : a < 65536) (h : x ≠ y) : gB a x ≠ gB a y := by
  intro q
  have hx := x.toNat_lt
  have hy := y.toNat_lt
  have := gGs_inj (xor_lt16 ha (by omega)) (xor_lt16 ha (by omega)) 8 q
  have := congrArg (a ^^^ ·) this
  simp only [← Nat.xor_assoc, Nat.xor_self, Nat.zero_xor] at this
  exact h (UInt8.toNat_inj.1 (by omega))
theorem c16f_inj {l : L8} : ∀ {a b : Nat}, a < 65536 → b < 65536 → l.foldl gB a = l.foldl gB b → a = b := by
  induction l with
  | nil => intro a b _ _ h; exact h
  | cons x r ih => intro a b ha hb h; exact gB_inj ha hb (ih (gB_lt ha x) (gB_lt hb x) h)
/-- one byte turned turns the guard -/
theorem c16_turn {p q : L8} {x y : UInt8} (h : x ≠ y) : c16 (p ++ x :: q) ≠ c16 (p ++ y :: q) := by
  intro e
  unfold c16 at e
  rw [List.foldl_append, List.foldl_append] at e
  have hs : p.foldl gB 0 < 65536 := c16f_lt (by decide)
  exact gB_ne hs h (c16f_inj (gB_lt hs x) (gB_lt hs y) e)
theorem c16_snoc (l : L8) (b : UInt8) : c16 (l ++ [b]) = gB (c16 l) b := by simp [c16, List.foldl_append]
/-! ### the model's words -/
theorem wu16' (n : Nat) : IntKind.wrap .u16 (n : Int) = ((n % 65536 : Nat) : Int) := by
  have e : IntKind.wrap .u16 (n : Int) = (n : Int) % 65536 := by simp [IntKind.wrap, IntKind.signed, IntKind.bits]
  rw [e]; omega
theorem xor16 {a b : Nat} (ha : a < 65536) (hb : b < 65536) : bXor .u16 (a : Int) (b : Int) = ((a ^^^ b : Nat) : Int) := by
  unfold bXor
  show IntKind.wrap .u16 (((BitVec.ofInt 16 (a : Int) ^^^ BitVec.ofInt 16 (b : Int)).toNat : Nat) : Int) = _
  rw [BitVec.ofInt_natCast, BitVec.ofInt_natCast, BitVec.toNat_xor, BitVec.toNat_ofNat, BitVec.toNat_ofNat, Nat.mod_eq_of_lt (by omega), Nat.mod_eq_of_lt (by omega)]
  have := xor_lt16 ha hb
  exact wu16 (by omega) (by omega)
theorem shl16_8 {b : Nat} (h : b < 256) : bShl .u16 (b : Int) 8 = ((b * 256 : Nat) : Int) := by
  unfold bShl
  have e : (min 8 (IntKind.bits .u16)) = 8 := by decide
  rw [e, show (b : Int) * 2 ^ 8 = ((b * 256 : Nat) : Int) by omega]
  exact wu16 (by omega) (by omega)
theorem shl16_1 {s : Nat} : bShl .u16 (s : Int) 1 = ((2 * s % 65536 : Nat) : Int) := by
  unfold bShl
  have e : (min 1 (IntKind.bits .u16)) = 1 := by decide
  rw [e, show (s : Int) * 2 ^ 1 = ((2 * s : Nat) : Int) by omega, wu16']
/-! ### tuples, looks -/
def mkR (kind lba : Nat) : Nat := if kind = 1 ∨ kind = 2 then lba % 4294967296 else 0
theorem mkR_lt (kind lba : Nat) : mkR kind lba < 4294967296 := by unfold mkR; split <;> omega
/-- a block of data, protected -/
def mkB (kind lba : Nat) (d : L8) (h : d.length = 16) : Bk := ⟨d, c16 d, 0, mkR kind lba, h, c16_lt d, by decide, mkR_lt kind lba⟩
def escB (kind : Nat) (b : Bk) : Bool := decide (b.a = 65535) && (decide (kind ≠ 3) || decide (b.r = 4294967295))
def chkB (kind prot lba : Nat) (b : Bk) : Nat :=
  if kind = 0 ∨ 3 < kind ∨ prot = 3 ∨ 4 < prot ∨ escB kind b = true then 0
  else if prot ≠ 2 ∧ b.g ≠ c16 b.d then 0x1001
  else if prot ≠ 4 ∧ kind ≠ 3 ∧ b.r ≠ lba % 4294967296 then 0x1003 else 0
def knownB (kind prot : Nat) : Bool := decide (kind ≤ 3) && (decide (prot = 0) || (decide (0 < kind) && decide (prot ≤ 4)))
/-! ### over the wire -/
def tupB (b : Bk) : L8 := be2 b.g ++ be2 b.a ++ be4 b.r
def wireB (wt : Bool) (b : Bk) : L8 := b.d ++ if wt then tupB b else []
def packB (wt : Bool) (l : List Bk) : L8 := l.flatMap (wireB wt)
def szB (wt : Bool) : Nat := if wt then 24 else 16
theorem wireB_len (wt : Bool) (b : Bk) : (wireB wt b).length = szB wt := by
  cases wt
  · simp [wireB, szB, b.hd]
  · simp [wireB, szB, tupB, be2, be4, b.hd]
theorem packB_len (wt : Bool) (l : List Bk) : (packB wt l).length = l.length * szB wt := by
  unfold packB
  induction l with
  | nil => simp
  | cons a r ih => rw [List.flatMap_cons, List.length_append, ih, wireB_len, List.length_cons, Nat.succ_mul, Nat.add_comm]
def pad16 (l : L8) : L8 := (l ++ List.replicate 16 0).take 16
theorem pad16_len (l : L8) : (pad16 l).length = 16 := by simp [pad16]
theorem pad16_eq {l : L8} (h : l.length = 16) : pad16 l = l := by
  unfold pad16; rw [List.take_append_of_le_length (by omega), List.take_of_length_le (by omega)]
theorem num_take (l : L8) (k : Nat) : num (l.take k) < 256 ^ k :=
  Nat.lt_of_lt_of_le (num_lt _) (Nat.pow_le_pow_right (by decide) (by rw [List.length_take]; omega))
/-- the block that some bytes are -/
def unB (wt : Bool) (l : L8) : Bk :=
  if wt then ⟨pad16 l, num ((l.drop 16).take 2), num ((l.drop 18).take 2), num ((l.drop 20).take 4), pad16_len l, num_take _ 2, num_take _ 2, num_take _ 4⟩
  else ⟨pad16 l, 0, 0, 0, pad16_len l, by decide, by decide, by decide⟩
def unpB (wt : Bool) (l : L8) : List Bk := (List.range (l.length / szB wt)).map fun i => unB wt ((l.drop (i * szB wt)).take (szB wt))
theorem unpB_len (wt : Bool) (l : L8) : (unpB wt l).length = l.length / szB wt := by simp [unpB]
theorem unpB_at {wt : Bool} {l : L8} {i : Nat} (h : i < (unpB wt l).length) : (unpB wt l)[i] = unB wt ((l.drop (i * szB wt)).take (szB wt)) := by simp [unpB]
theorem num_two {a b : UInt8} : num [a, b] = a.toNat * 256 + b.toNat := by simp [num]
theorem unB_wire (b : Bk) : unB true (wireB true b) = b := by
  have hd := b.hd
  have e : wireB true b = b.d ++ (be2 b.g ++ (be2 b.a ++ be4 b.r)) := by simp [wireB, tupB]
  have d16 : (wireB true b).drop 16 = be2 b.g ++ (be2 b.a ++ be4 b.r) := by rw [e, ← hd, List.drop_left]
  have d18 : (wireB true b).drop 18 = be2 b.a ++ be4 b.r := by
    have : (wireB true b).drop 18 = ((wireB true b).drop 16).drop 2 := by rw [List.drop_drop]
    rw [this, d16]; rfl
  have d20 : (wireB true b).drop 20 = be4 b.r := by
    have : (wireB true b).drop 20 = ((wireB true b).drop 18).drop 2 := by rw [List.drop_drop]
    rw [this, d18]; rfl
  unfold unB
  rw [if_pos rfl]
  apply bk_ext
  · show pad16 (wireB true b) = b.d
    unfold pad16
    rw [e, List.append_assoc, List.take_append_of_le_length (by omega), List.take_of_length_le (by omega)]
  · show num (((wireB true b).drop 16).take 2) = b.g
    rw [d16]; exact num_be2 b.hg
  · show num (((wireB true b).drop 18).take 2) = b.a
    rw [d18]; exact num_be2 b.ha
  · show num (((wireB true b).drop 20).take 4) = b.r
    rw [d20]; exact num_be4 b.hr
theorem unB_wire0 (b : Bk) : (unB false (wireB false b)).d = b.d := by
  unfold unB wireB
  show pad16 (b.d ++ []) = b.d
  rw [List.append_nil, pad16_eq b.hd]
end Go.Proofs.Ytaneeadpjelomaa
