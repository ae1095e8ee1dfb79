/- Layer 2: the program's sum and the reference's. -/
import Derived.Test.YtaneeadpjelomaaCr1
namespace Go.Proofs.Ytaneeadpjelomaa
open Go CF

theorem crc_br {s : Nat} (hs : s < 4294967296) {X Y : Prop} (h1 : s % 2 = 1 → X) (h0 : s % 2 = 0 → Y) : Br ((bAnd .u32 (s : Int) 1) == 1) X Y := by
  rw [and32_1 hs]
  exact br_eq (fun q => h1 (by omega)) (fun q => h0 (by omega))
theorem crc_v1 {s : Nat} (hs : s < 4294967296) (h : s % 2 = 1) : bXor .u32 (bShr .u32 (s : Int) 1) 2197175160 = ((crcG s : Nat) : Int) := by
  rw [shr .u32 s 1 (by decide)]
  have := xor32 (a := s / 2) (b := poly) (by omega) (by decide)
  unfold crcG
  rw [if_pos h]
  exact this
theorem crc_v0 {s : Nat} (h : s % 2 = 0) : bShr .u32 (s : Int) 1 = ((crcG s : Nat) : Int) := by
  rw [shr .u32 s 1 (by decide)]
  unfold crcG
  rw [if_neg (by omega)]
theorem crcRs_lt {b s : Nat} (h : s < 4294967296) : ∀ k, crcRs b k s < 4294967296
  | 0 => h
  | k + 1 => by
    have ih := crcRs_lt (b := b) h k
    simp only [crcRs]
    unfold crcR
    split
    · exact xor_lt32 (by omega) (by decide)
    · omega
theorem crc_br_r {s b : Nat} {k : Nat} (hs : s < 4294967296) (hb : b < 256) (hk : k < 8) {X Y : Prop} (h1 : (s ^^^ b / 2 ^ k % 2) % 2 = 1 → X) (h0 : (s ^^^ b / 2 ^ k % 2) % 2 = 0 → Y) :
    Br ((bAnd .u32 (bXor .u32 (s : Int) (bAnd .u32 (IntKind.wrap .u32 (bShr .u8 (b : Int) ((k : Nat) : Int).toNat)) 1)) 1) == 1) X Y := by
  rw [Int.toNat_natCast, shr .u8 b k (by show k ≤ 8; omega)]
  have hq : b / 2 ^ k < 256 := Nat.lt_of_le_of_lt (Nat.div_le_self _ _) hb
  generalize b / 2 ^ k = c at *
  rw [wu32 (by omega) (by omega), and32_1 (by omega), xor32 hs (by omega), and32_1 (xor_lt32 hs (by omega))]
  exact br_eq (fun q => h1 (by omega)) (fun q => h0 (by omega))
theorem crc_r1 {s c : Nat} (hs : s < 4294967296) (h : (s ^^^ c % 2) % 2 = 1) : bXor .u32 (bShr .u32 (s : Int) 1) 2197175160 = ((crcR s c : Nat) : Int) := by
  rw [shr .u32 s 1 (by decide)]
  have := xor32 (a := s / 2) (b := poly) (by omega) (by decide)
  unfold crcR
  rw [if_pos h]
  exact this
theorem crc_r0 {s c : Nat} (h : (s ^^^ c % 2) % 2 = 0) : bShr .u32 (s : Int) 1 = ((crcR s c : Nat) : Int) := by
  rw [shr .u32 s 1 (by decide)]
  unfold crcR
  rw [if_neg (by omega)]
end Go.Proofs.Ytaneeadpjelomaa
