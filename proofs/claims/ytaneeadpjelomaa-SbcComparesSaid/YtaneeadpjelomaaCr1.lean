/- Layer 2: the sum of bytes. -/
import Derived.Test.YtaneeadpjelomaaSt5
namespace Go.Proofs.Ytaneeadpjelomaa
open Go CF

def poly : Nat := 0x82f63b78
/-- one bit of the sum -/
def crcG (s : Nat) : Nat := if s % 2 = 1 then (s / 2) ^^^ poly else s / 2
def crcGs : Nat → Nat → Nat
  | 0, s => s
  | k + 1, s => crcG (crcGs k s)
def crcB (s : Nat) (b : UInt8) : Nat := crcGs 8 (s ^^^ b.toNat)
def crcS (s : Nat) (l : L8) : Nat := l.foldl crcB s
def c32 (l : L8) : Nat := crcS 0xffffffff l ^^^ 0xffffffff
theorem xor_lt32 {a b : Nat} (ha : a < 4294967296) (hb : b < 4294967296) : a ^^^ b < 4294967296 := Nat.xor_lt_two_pow (n := 32) ha hb
theorem crcG_lt {s : Nat} (h : s < 4294967296) : crcG s < 4294967296 := by
  unfold crcG
  split
  · exact xor_lt32 (by omega) (by decide)
  · omega
theorem crcGs_lt {s : Nat} (h : s < 4294967296) : ∀ k, crcGs k s < 4294967296
  | 0 => h
  | k + 1 => crcG_lt (crcGs_lt h k)
theorem crcB_lt {s : Nat} (h : s < 4294967296) (b : UInt8) : crcB s b < 4294967296 := crcGs_lt (xor_lt32 h (by have := b.toNat_lt; omega)) 8
theorem crcS_lt {l : L8} : ∀ {s : Nat}, s < 4294967296 → crcS s l < 4294967296 := by
  induction l with
  | nil => intro s h; exact h
  | cons b r ih => intro s h; exact ih (crcB_lt h b)
theorem c32_lt (l : L8) : c32 l < 4294967296 := xor_lt32 (crcS_lt (by decide)) (by decide)
theorem crcS_append (s : Nat) (a b : L8) : crcS s (a ++ b) = crcS (crcS s a) b := by simp [crcS, List.foldl_append]
theorem crcS_snoc (s : Nat) (a : L8) (b : UInt8) : crcS s (a ++ [b]) = crcB (crcS s a) b := by rw [crcS_append]; rfl
/-! ### another byte, another sum -/
theorem xor_top {a : Nat} (h : a < 2147483648) : (a ^^^ poly) / 2147483648 = 1 := by
  have : (a ^^^ poly).testBit 31 = true := by
    rw [Nat.testBit_xor, Nat.testBit_lt_two_pow (i := 31) h]; decide
  have h2 : (a ^^^ poly) < 4294967296 := xor_lt32 (by omega) (by decide)
  rw [Nat.testBit_eq_decide_div_mod_eq, decide_eq_true_eq] at this
  omega
theorem crcG_inj {a b : Nat} (ha : a < 4294967296) (hb : b < 4294967296) (h : crcG a = crcG b) : a = b := by
  unfold crcG at h
  split at h <;> split at h
  · have : a / 2 = b / 2 := by
      have := congrArg (· ^^^ poly) h
      simpa [Nat.xor_assoc] using this
    omega
  · have := xor_top (a := a / 2) (by omega)
    rw [h] at this
    omega
  · have := xor_top (a := b / 2) (by omega)
    rw [← h] at this
    omega
  · omega
theorem crcGs_inj {a b : Nat} (ha : a < 4294967296) (hb : b < 4294967296) : ∀ k, crcGs k a = crcGs k b → a = b
  | 0, h => h
  | k + 1, h => crcGs_inj ha hb k (crcG_inj (crcGs_lt ha k) (crcGs_lt hb k) h)
theorem crcB_inj {a b : Nat} {x : UInt8} (ha : a < 4294967296) (hb : b < 4294967296) (h : crcB a x = crcB b x) : a = b := by
  have hx := x.toNat_lt
  have := crcGs_inj (xor_lt32 ha (by omega)) (xor_lt32 hb (by omega)) 8 h
  have := congrArg (· ^^^ x.toNat) this
  simpa [Nat.xor_assoc] using this
theorem crcB_ne {a : Nat} {x y : UInt8} (ha : a < 4294967296) (h : x ≠ y) : crcB a x ≠ crcB a y := by
  intro q
  have hx := x.toNat_lt
  have hy := y.toNat_lt
  have := crcGs_inj (xor_lt32 ha (by omega)) (xor_lt32 ha (by omega)) 8 q
  have := congrArg (a ^^^ ·) this
  simp only [← Nat.xor_assoc, Nat.xor_self, Nat.zero_xor] at this
  exact h (UInt8.toNat_inj.1 this)
theorem crcS_inj {l : L8} : ∀ {a b : Nat}, a < 4294967296 → b < 4294967296 → crcS a l = crcS b l → a = b := by
  induction l with
  | nil => intro a b _ _ h; exact h
  | cons x r ih => intro a b ha hb h; exact crcB_inj ha hb (ih (crcB_lt ha x) (crcB_lt hb x) h)
/-- one byte turned turns the sum -/
theorem c32_turn {p q : L8} {x y : UInt8} (h : x ≠ y) : c32 (p ++ x :: q) ≠ c32 (p ++ y :: q) := by
  intro e
  have e1 := congrArg (· ^^^ 0xffffffff) e
  simp only [c32, Nat.xor_assoc, Nat.xor_self, Nat.xor_zero, crcS_append] at e1
  have hs : crcS 0xffffffff p < 4294967296 := crcS_lt (by decide)
  exact crcB_ne hs h (crcS_inj (crcB_lt hs x) (crcB_lt hs y) e1)
/-! ### the same, a bit at a time -/
def crcR (s : Nat) (b : Nat) : Nat := if (s ^^^ b % 2) % 2 = 1 then (s / 2) ^^^ poly else s / 2
def crcRs (b : Nat) : Nat → Nat → Nat
  | 0, s => s
  | k + 1, s => crcR (crcRs b k s) (b / 2 ^ k)
theorem xor_mod2 (a b : Nat) : (a ^^^ b) % 2 = (a % 2 ^^^ b % 2) := by
  have := Nat.xor_mod_two_pow (a := a) (b := b) (n := 1)
  simpa using this
theorem xor_div2 (a b : Nat) : (a ^^^ b) / 2 = (a / 2 ^^^ b / 2) := by
  have := Nat.xor_div_two_pow (a := a) (b := b) (n := 1)
  simpa using this
theorem crcRs_eq (b : Nat) (s : Nat) : ∀ k, crcGs k (s ^^^ b) = crcRs b k s ^^^ b / 2 ^ k
  | 0 => by simp [crcGs, crcRs]
  | k + 1 => by
    have ih := crcRs_eq b s k
    simp only [crcGs, crcRs, ih]
    generalize crcRs b k s = t
    have e2 : b / 2 ^ (k + 1) = b / 2 ^ k / 2 := by rw [Nat.pow_succ, Nat.div_div_eq_div_mul]
    rw [e2]
    generalize b / 2 ^ k = c
    unfold crcG crcR
    have h1 : (t ^^^ c % 2) % 2 = (t ^^^ c) % 2 := by rw [xor_mod2, xor_mod2 t c, Nat.mod_mod]
    rw [h1, xor_div2]
    split
    · rw [Nat.xor_assoc, Nat.xor_comm (c / 2), ← Nat.xor_assoc]
    · rfl
theorem crcB_eq (s : Nat) (b : UInt8) : crcB s b = crcRs b.toNat 8 s := by
  unfold crcB
  rw [crcRs_eq]
  have : b.toNat / 2 ^ 8 = 0 := Nat.div_eq_of_lt b.toNat_lt
  rw [this, Nat.xor_zero]
/-! ### the same in the model's words -/
theorem xor32 {a b : Nat} (ha : a < 4294967296) (hb : b < 4294967296) : bXor .u32 (a : Int) (b : Int) = ((a ^^^ b : Nat) : Int) := by
  unfold bXor
  show IntKind.wrap .u32 (((BitVec.ofInt 32 (a : Int) ^^^ BitVec.ofInt 32 (b : Int)).toNat : Nat) : Int) = _
  rw [BitVec.ofInt_natCast, BitVec.ofInt_natCast, BitVec.toNat_xor, BitVec.toNat_ofNat, BitVec.toNat_ofNat, Nat.mod_eq_of_lt (by omega), Nat.mod_eq_of_lt (by omega)]
  have := xor_lt32 ha hb
  exact wu32 (by omega) (by omega)
theorem and32_1 {a : Nat} (ha : a < 4294967296) : bAnd .u32 (a : Int) 1 = ((a % 2 : Nat) : Int) := by
  unfold bAnd
  show IntKind.wrap .u32 (((BitVec.ofInt 32 (a : Int) &&& BitVec.ofInt 32 ((1 : Nat) : Int)).toNat : Nat) : Int) = _
  rw [BitVec.ofInt_natCast, BitVec.ofInt_natCast, BitVec.toNat_and, BitVec.toNat_ofNat, BitVec.toNat_ofNat, Nat.mod_eq_of_lt (by omega), Nat.mod_eq_of_lt (by omega)]
  rw [Nat.and_one_is_mod]
  exact wu32 (by omega) (by omega)
theorem not32 {a : Nat} (ha : a < 4294967296) : bNot .u32 (a : Int) = ((a ^^^ 4294967295 : Nat) : Int) := by
  unfold bNot
  have e : (if IntKind.signed .u32 = true then (-1 : Int) else IntKind.max .u32) = ((4294967295 : Nat) : Int) := by decide
  rw [e, xor32 (by decide) ha, Nat.xor_comm]
end Go.Proofs.Ytaneeadpjelomaa
