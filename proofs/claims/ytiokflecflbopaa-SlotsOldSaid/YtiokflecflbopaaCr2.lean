/- Layer 2: the program's sum and the reference's. -/
import Derived.Test.YtiokflecflbopaaCr1
namespace Go.Proofs.Ytiokflecflbopaa
open Go CF

theorem crc_br {s : Nat} (hs : s < 4294967296) {X Y : Prop} (h1 : s % 2 = 1 → X) (h0 : s % 2 = 0 → Y) : Br ((bAnd .u32 (s : Int) 1) == 1) X Y := by
  rw [and32_1 hs]
  exact br_eq (fun q => h1 (by omega)) (fun q => h0 (by omega))
theorem crc_v1 {s : Nat} (hs : s < 4294967296) (h : s % 2 = 1) : bXor .u32 (bShr .u32 (s : Int) 1) 2197175160 = ((crcG s : Nat) : Int) := by
  rw [shr .u32 s 1 (by decide)]
  have := xor32 (a := s / 2) (b := poly) (by omega) (by decide)
  unfold crcG
  rw [if_pos h]
  exact this
theorem crc_v0 {s : Nat} (h : s % 2 = 0) : bShr .u32 (s : Int) 1 = ((crcG s : Nat) : Int) := by
  rw [shr .u32 s 1 (by decide)]
  unfold crcG
  rw [if_neg (by omega)]
theorem crc_add32_spec {p : Sl} {l : L8} {s : Nat} {w : World} {R : Int → World → Prop} (hp : Rd w 1 p (bv l)) (hs : s < 4294967296)
    (h : R ((crcS (s ^^^ 4294967295) l ^^^ 4294967295 : Nat) : Int) w) : Ccrc_Add32 (s : Int) p w R := by
  refine Fcrc_Add32.calls _ _ _ _ ?_
  have hln : l.length = p.n := by have := hp.len; rw [bv_length] at this; omega
  have hnb := hp.nb
  have hs' : s ^^^ 4294967295 < 4294967296 := xor_lt32 hs (by decide)
  refine ⟨fun v x w' => w' = w ∧ ∃ j : Nat, x = j ∧ j ≤ p.n ∧ v = ((crcS (s ^^^ 4294967295) (l.take j) : Nat) : Int), fun _ x _ => p.n - x.toNat, ⟨rfl, 0, rfl, Nat.zero_le _, not32 hs⟩, ?_⟩
  rintro v x w0 ⟨rfl, j, rfl, hj, rfl⟩
  have hcs : crcS (s ^^^ 4294967295) (l.take j) < 4294967296 := crcS_lt hs'
  refine br_nat (fun hlt => ?_) (fun hge => ?_)
  · obtain ⟨a, ha, hc⟩ := hp.byte (i := j) hlt
    have hjs : j < l.length := by omega
    have hb8 := l[j].toNat_lt
    refine ⟨⟨by omega, by omega, by rw [ha]; rfl⟩, (l[j].toNat : Int), by rw [ha]; exact hc, ?_⟩
    rw [wu32 (n := (l[j].toNat : Int)) (by omega) (by omega), xor32 hcs (by omega)]
    generalize hT : crcS (s ^^^ 4294967295) (l.take j) ^^^ l[j].toNat = T
    have hTl : T < 4294967296 := by rw [← hT]; exact xor_lt32 hcs (by omega)
    refine ⟨fun v x w' => w' = w0 ∧ ∃ k : Nat, x = k ∧ k ≤ 8 ∧ v = ((crcGs k T : Nat) : Int), fun _ x _ => 8 - x.toNat, ⟨rfl, 0, rfl, by decide, rfl⟩, ?_⟩
    rintro v x w1 ⟨rfl, k, rfl, hk, rfl⟩
    refine br_dec (fun hlt8 => ?_) (fun hge8 => ?_)
    · refine crc_br (crcGs_lt hTl k) (fun q => ?_) (fun q => ?_)
      · rw [crc_v1 (crcGs_lt hTl k) q, w64 (by omega) (by omega)]
        exact ⟨⟨rfl, k + 1, by omega, by omega, rfl⟩, by dsimp only; omega⟩
      · rw [crc_v0 q, w64 (by omega) (by omega)]
        exact ⟨⟨rfl, k + 1, by omega, by omega, rfl⟩, by dsimp only; omega⟩
    · have : k = 8 := by omega
      subst this
      rw [w64 (by omega) (by omega)]
      refine ⟨⟨rfl, j + 1, by omega, by omega, ?_⟩, by dsimp only; omega⟩
      rw [List.take_succ_eq_append_getElem hjs, crcS_snoc]
      unfold crcB
      rw [hT]
  · have : j = p.n := by omega
    subst this
    rw [List.take_of_length_le (by omega)] at hcs ⊢
    rw [not32 hcs]
    exact h
theorem crc_c32_spec {p : Sl} {l : L8} {w : World} {R : Int → World → Prop} (hp : Rd w 1 p (bv l)) (h : R ((c32 l : Nat) : Int) w) : Ccrc_C32 p w R := by
  refine Fcrc_C32.calls _ _ _ ?_
  refine crc_add32_spec (s := 0) hp (by decide) ?_
  rw [Nat.zero_xor]
  exact h
theorem crcRs_lt {b s : Nat} (h : s < 4294967296) : ∀ k, crcRs b k s < 4294967296
  | 0 => h
  | k + 1 => by
    have ih := crcRs_lt (b := b) h k
    simp only [crcRs]
    unfold crcR
    split
    · exact xor_lt32 (by omega) (by decide)
    · omega
theorem crc_br_r {s b : Nat} {k : Nat} (hs : s < 4294967296) (hb : b < 256) (hk : k < 8) {X Y : Prop} (h1 : (s ^^^ b / 2 ^ k % 2) % 2 = 1 → X) (h0 : (s ^^^ b / 2 ^ k % 2) % 2 = 0 → Y) :
    Br ((bAnd .u32 (bXor .u32 (s : Int) (bAnd .u32 (IntKind.wrap .u32 (bShr .u8 (b : Int) ((k : Nat) : Int).toNat)) 1)) 1) == 1) X Y := by
  rw [Int.toNat_natCast, shr .u8 b k (by show k ≤ 8; omega)]
  have hq : b / 2 ^ k < 256 := Nat.lt_of_le_of_lt (Nat.div_le_self _ _) hb
  generalize b / 2 ^ k = c at *
  rw [wu32 (by omega) (by omega), and32_1 (by omega), xor32 hs (by omega), and32_1 (xor_lt32 hs (by omega))]
  exact br_eq (fun q => h1 (by omega)) (fun q => h0 (by omega))
theorem crc_r1 {s c : Nat} (hs : s < 4294967296) (h : (s ^^^ c % 2) % 2 = 1) : bXor .u32 (bShr .u32 (s : Int) 1) 2197175160 = ((crcR s c : Nat) : Int) := by
  rw [shr .u32 s 1 (by decide)]
  have := xor32 (a := s / 2) (b := poly) (by omega) (by decide)
  unfold crcR
  rw [if_pos h]
  exact this
theorem crc_r0 {s c : Nat} (h : (s ^^^ c % 2) % 2 = 0) : bShr .u32 (s : Int) 1 = ((crcR s c : Nat) : Int) := by
  rw [shr .u32 s 1 (by decide)]
  unfold crcR
  rw [if_neg (by omega)]
theorem ref_add32_spec {p : Sl} {l : L8} {s : Nat} {w : World} {R : Int → World → Prop} (hp : Rd w 1 p (bv l)) (hs : s < 4294967296)
    (h : R ((crcS (s ^^^ 4294967295) l ^^^ 4294967295 : Nat) : Int) w) : Cpalletref02_Add32 (s : Int) p w R := by
  refine Fpalletref02_Add32.calls _ _ _ _ ?_
  have hln : l.length = p.n := by have := hp.len; rw [bv_length] at this; omega
  have hnb := hp.nb
  have hs' : s ^^^ 4294967295 < 4294967296 := xor_lt32 hs (by decide)
  refine ⟨fun v x w' => w' = w ∧ ∃ j : Nat, x = j ∧ j ≤ p.n ∧ v = ((crcS (s ^^^ 4294967295) (l.take j) : Nat) : Int), fun _ x _ => p.n - x.toNat, ⟨rfl, 0, rfl, Nat.zero_le _, xor32 hs (by decide)⟩, ?_⟩
  rintro v x w0 ⟨rfl, j, rfl, hj, rfl⟩
  have hcs : crcS (s ^^^ 4294967295) (l.take j) < 4294967296 := crcS_lt hs'
  refine br_nat (fun hlt => ?_) (fun hge => ?_)
  · obtain ⟨a, ha, hc⟩ := hp.byte (i := j) hlt
    have hjs : j < l.length := by omega
    have hb8 := l[j].toNat_lt
    generalize hT : crcS (s ^^^ 4294967295) (l.take j) = T at *
    refine ⟨fun v x w' => w' = w0 ∧ ∃ k : Nat, x = k ∧ k ≤ 8 ∧ v = ((crcRs l[j].toNat k T : Nat) : Int), fun _ x _ => 8 - x.toNat, ⟨rfl, 0, rfl, by decide, rfl⟩, ?_⟩
    rintro v x w1 ⟨rfl, k, rfl, hk, rfl⟩
    refine br_dec (fun hlt8 => ?_) (fun hge8 => ?_)
    · refine ⟨⟨by omega, by omega, by rw [ha]; rfl⟩, (l[j].toNat : Int), by rw [ha]; exact hc, by omega, ?_⟩
      have hk8 : k < 8 := by omega
      refine crc_br_r (crcRs_lt hcs k) hb8 hk8 (fun q => ?_) (fun q => ?_)
      · rw [crc_r1 (crcRs_lt hcs k) q, w64 (by omega) (by omega)]
        exact ⟨⟨rfl, k + 1, by omega, by omega, rfl⟩, by dsimp only; omega⟩
      · rw [crc_r0 q, w64 (by omega) (by omega)]
        exact ⟨⟨rfl, k + 1, by omega, by omega, rfl⟩, by dsimp only; omega⟩
    · have : k = 8 := by omega
      subst this
      rw [w64 (by omega) (by omega)]
      refine ⟨⟨rfl, j + 1, by omega, by omega, ?_⟩, by dsimp only; omega⟩
      rw [List.take_succ_eq_append_getElem hjs, crcS_snoc, crcB_eq, hT]
  · have : j = p.n := by omega
    subst this
    rw [List.take_of_length_le (by omega)] at hcs ⊢
    rw [show bXor .u32 ((crcS (s ^^^ 4294967295) l : Nat) : Int) 4294967295 = _ from xor32 hcs (by decide)]
    exact h
theorem ref_c32_spec {p : Sl} {l : L8} {w : World} {R : Int → World → Prop} (hp : Rd w 1 p (bv l)) (h : R ((c32 l : Nat) : Int) w) : Cpalletref02_C32 p w R := by
  refine Fpalletref02_C32.calls _ _ _ ?_
  refine ref_add32_spec (s := 0) hp (by decide) ?_
  rw [Nat.zero_xor]
  exact h
end Go.Proofs.Ytiokflecflbopaa
