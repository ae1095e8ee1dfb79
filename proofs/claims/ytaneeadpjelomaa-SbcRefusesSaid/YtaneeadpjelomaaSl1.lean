import Derived.Test.YtaneeadpjelomaaSt5
import Derived.Test.YtaneeadpjelomaaCfR
/- Layer 2: the sum of bytes. -/
namespace Go.Proofs.Ytaneeadpjelomaa
open Go CF

def poly : Nat := 0x82f63b78
/-- one bit of the sum -/
def crcG (s : Nat) : Nat := if s % 2 = 1 then (s / 2) ^^^ poly else s / 2
def crcGs : Nat → Nat → Nat
  | 0, s => s
  | k + 1, s => crcG (crcGs k s)
def crcB (s : Nat) (b : UInt8) : Nat := crcGs 8 (s ^^^ b.toNat)
def crcS (s : Nat) (l : L8) : Nat := l.foldl crcB s
def c32 (l : L8) : Nat := crcS 0xffffffff l ^^^ 0xffffffff
theorem xor_lt32 {a b : Nat} (ha : a < 4294967296) (hb : b < 4294967296) : a ^^^ b < 4294967296 := Nat.xor_lt_two_pow (n := 32) ha hb
theorem crcG_lt {s : Nat} (h : s < 4294967296) : crcG s < 4294967296 := by
  unfold crcG
  split
  · exact xor_lt32 (by omega) (by decide)
  · omega
theorem crcGs_lt {s : Nat} (h : s < 4294967296) : ∀ k, crcGs k s < 4294967296
  | 0 => h
  | k + 1 => crcG_lt (crcGs_lt h k)
theorem crcB_lt {s : Nat} (h : s < 4294967296) (b : UInt8) : crcB s b < 4294967296 := crcGs_lt (xor_lt32 h (by have := b.toNat_lt; omega)) 8
theorem crcS_lt {l : L8} : ∀ {s : Nat}, s < 4294967296 → crcS s l < 4294967296 := by
  induction l with
  | nil => intro s h; exact h
  | cons b r ih => intro s h; exact ih (crcB_lt h b)
theorem c32_lt (l : L8) : c32 l < 4294967296 := xor_lt32 (crcS_lt (by decide)) (by decide)
theorem crcS_append (s : Nat) (a b : L8) : crcS s (a ++ b) = crcS (crcS s a) b := by simp [crcS, List.foldl_append]
theorem crcS_snoc (s : Nat) (a : L8) (b : UInt8) : crcS s (a ++ [b]) = crcB (crcS s a) b := by rw [crcS_append]; rfl
/-! ### another byte, another sum -/
theorem xor_top {a : Nat} (h : a < 2147483648) : (a ^^^ poly) / 2147483648 = 1 := by
  have : (a ^^^ poly).testBit 31 = true := by
    rw [Nat.testBit_xor, Nat.testBit_lt_two_pow (i := 31) h]; decide
  have h2 : (a ^^^ poly) < 4294967296 := xor_lt32 (by omega) (by decide)
  rw [Nat.testBit_eq_decide_div_mod_eq, decide_eq_true_eq] at this
  omega
theorem crcG_inj {a b : Nat} (ha : a < 4294967296) (hb : b < 4294967296) (h : crcG a = crcG b) : a = b := by
  unfold crcG at h
  split at h <;> split at h
  · have : a / 2 = b / 2 := by
      have := congrArg (· ^^^ poly) h
      simpa [Nat.xor_assoc] using this
    omega
  · have := xor_top (a := a / 2) (by omega)
    rw [h] at this
    omega
  · have := xor_top (a := b / 2) (by omega)
    rw [← h] at this
    omega
  · omega
theorem crcGs_inj {a b : Nat} (ha : a < 4294967296) (hb : b < 4294967296) : ∀ k, crcGs k a = crcGs k b → a = b
  | 0, h => h
  | k + 1, h => crcGs_inj ha hb k (crcG_inj (crcGs_lt ha k) (crcGs_lt hb k) h)
theorem crcB_inj {a b : Nat} {x : UInt8} (ha : a < 4294967296) (hb : b < 4294967296) (h : crcB a x = crcB b x) : a = b := by
  have hx := x.toNat_lt
  have := crcGs_inj (xor_lt32 ha (by omega)) (xor_lt32 hb (by omega)) 8 h
  have := congrArg (· ^^^ x.toNat) this
  simpa [Nat.xor_assoc] using this
theorem crcB_ne {a : Nat} {x y : UInt8} (ha : a < 4294967296) (h : x ≠ y) : crcB a x ≠ crcB a y := by
  intro q
  have hx := x.toNat_lt
  have hy := y.toNat_lt
  have := crcGs_inj (xor_lt32 ha (by omega)) (xor_lt32 ha (by omega)) 8 q
  have := congrArg (a ^^^ ·) this
  simp only [← Nat.xor_assoc, Nat.xor_self, Nat.zero_xor] at this
  exact h (UInt8.toNat_inj.1 this)
theorem crcS_inj {l : L8} : ∀ {a b : Nat}, a < 4294967296 → b < 4294967296 → crcS a l = crcS b l → a = b := by
  induction l with
  | nil => intro a b _ _ h; exact h
  | cons x r ih => intro a b ha hb h; exact crcB_inj ha hb (ih (crcB_lt ha x) (crcB_lt hb x) h)
/-- one byte turned turns the sum -/
theorem c32_turn {p q : L8} {x y : UInt8} (h : x ≠ y) : c32 (p ++ x :: q) ≠ c32 (p ++ y :: q) := by
  intro e
  have e1 := congrArg (· ^^^ 0xffffffff) e
  simp only [c32, Nat.xor_assoc, Nat.xor_self, Nat.xor_zero, crcS_append] at e1
  have hs : crcS 0xffffffff p < 4294967296 := crcS_lt (by decide)
  exact crcB_ne hs h (crcS_inj (crcB_lt hs x) (crcB_lt hs y) e1)
/-! ### the same, a bit at a time -/
def crcR (s : Nat) (b : Nat) : Nat := if (s ^^^ b % 2) % 2 = 1 then (s / 2) ^^^ poly else s / 2
def crcRs (b : Nat) : Nat → Nat → Nat
  | 0, s => s
  | k + 1, s => crcR (crcRs b k s) (b / 2 ^ k)
theorem xor_mod2 (a b : Nat) : (a ^^^ b) % 2 = (a % 2 ^^^ b % 2) := by
  have := Nat.xor_mod_two_pow (a := a) (b := b) (n := 1)
  simpa using this
theorem xor_div2 (a b : Nat) : (a ^^^ b) / 2 = (a / 2 ^^^ b / 2) := by
  have := Nat.xor_div_two_pow (a := a) (b := b) (n := 1)
  simpa using this
theorem crcRs_eq (b : Nat) (s : Nat) : ∀ k, crcGs k (s ^^^ b) = crcRs b k s ^^^ b / 2 ^ k
  | 0 => by simp [crcGs, crcRs]
  | k + 1 => by
    have ih := crcRs_eq b s k
    simp only [crcGs, crcRs, ih]
    generalize crcRs b k s = t
    have e2 : b / 2 ^ (k + 1) = b / 2 ^ k / 2 := by rw [Nat.pow_succ, Nat.div_div_eq_div_mul]
    rw [e2]
    generalize b / 2 ^ k = c
    unfold crcG crcR
    have h1 : (t ^^^ c % 2) % 2 = (t ^^^ c) % 2 := by rw [xor_mod2, xor_mod2 t c, Nat.mod_mod]
    rw [h1, xor_div2]
    split
    · rw [Nat.xor_assoc, Nat.xor_comm (c / 2), ← Nat.xor_assoc]
    · rfl
theorem crcB_eq (s : Nat) (b : UInt8) : crcB s b = crcRs b.toNat 8 s := by
  unfold crcB
  rw [crcRs_eq]
  have : b.toNat / 2 ^ 8 = 0 := Nat.div_eq_of_lt b.toNat_lt
  rw [this, Nat.xor_zero]
/-! ### the same in the model's words -/
theorem xor32 {a b : Nat} (ha : a < 4294967296) (hb : b < 4294967296) : bXor .u32 (a : Int) (b : Int) = ((a ^^^ b : Nat) : Int) := by
  unfold bXor
  show IntKind.wrap .u32 (((BitVec.ofInt 32 (a : Int) ^^^ BitVec.ofInt 32 (b : Int)).toNat : Nat) : Int) = _
  rw [BitVec.ofInt_natCast, BitVec.ofInt_natCast, BitVec.toNat_xor, BitVec.toNat_ofNat, BitVec.toNat_ofNat, Nat.mod_eq_of_lt (by omega), Nat.mod_eq_of_lt (by omega)]
  have := xor_lt32 ha hb
  exact wu32 (by omega) (by omega)
theorem and32_1 {a : Nat} (ha : a < 4294967296) : bAnd .u32 (a : Int) 1 = ((a % 2 : Nat) : Int) := by
  unfold bAnd
  show IntKind.wrap .u32 (((BitVec.ofInt 32 (a : Int) &&& BitVec.ofInt 32 ((1 : Nat) : Int)).toNat : Nat) : Int) = _
  rw [BitVec.ofInt_natCast, BitVec.ofInt_natCast, BitVec.toNat_and, BitVec.toNat_ofNat, BitVec.toNat_ofNat, Nat.mod_eq_of_lt (by omega), Nat.mod_eq_of_lt (by omega)]
  rw [Nat.and_one_is_mod]
  exact wu32 (by omega) (by omega)
theorem not32 {a : Nat} (ha : a < 4294967296) : bNot .u32 (a : Int) = ((a ^^^ 4294967295 : Nat) : Int) := by
  unfold bNot
  have e : (if IntKind.signed .u32 = true then (-1 : Int) else IntKind.max .u32) = ((4294967295 : Nat) : Int) := by decide
  rw [e, xor32 (by decide) ha, Nat.xor_comm]
end Go.Proofs.Ytaneeadpjelomaa

/- Layer 2: the program's sum and the reference's. -/
namespace Go.Proofs.Ytaneeadpjelomaa
open Go CF

theorem crc_br {s : Nat} (hs : s < 4294967296) {X Y : Prop} (h1 : s % 2 = 1 → X) (h0 : s % 2 = 0 → Y) : Br ((bAnd .u32 (s : Int) 1) == 1) X Y := by
  rw [and32_1 hs]
  exact br_eq (fun q => h1 (by omega)) (fun q => h0 (by omega))
theorem crc_v1 {s : Nat} (hs : s < 4294967296) (h : s % 2 = 1) : bXor .u32 (bShr .u32 (s : Int) 1) 2197175160 = ((crcG s : Nat) : Int) := by
  rw [shr .u32 s 1 (by decide)]
  have := xor32 (a := s / 2) (b := poly) (by omega) (by decide)
  unfold crcG
  rw [if_pos h]
  exact this
theorem crc_v0 {s : Nat} (h : s % 2 = 0) : bShr .u32 (s : Int) 1 = ((crcG s : Nat) : Int) := by
  rw [shr .u32 s 1 (by decide)]
  unfold crcG
  rw [if_neg (by omega)]
theorem crcRs_lt {b s : Nat} (h : s < 4294967296) : ∀ k, crcRs b k s < 4294967296
  | 0 => h
  | k + 1 => by
    have ih := crcRs_lt (b := b) h k
    simp only [crcRs]
    unfold crcR
    split
    · exact xor_lt32 (by omega) (by decide)
    · omega
theorem crc_br_r {s b : Nat} {k : Nat} (hs : s < 4294967296) (hb : b < 256) (hk : k < 8) {X Y : Prop} (h1 : (s ^^^ b / 2 ^ k % 2) % 2 = 1 → X) (h0 : (s ^^^ b / 2 ^ k % 2) % 2 = 0 → Y) :
    Br ((bAnd .u32 (bXor .u32 (s : Int) (bAnd .u32 (IntKind.wrap .u32 (bShr .u8 (b : Int) ((k : Nat) : Int).toNat)) 1)) 1) == 1) X Y := by
  rw [Int.toNat_natCast, shr .u8 b k (by show k ≤ 8; omega)]
  have hq : b / 2 ^ k < 256 := Nat.lt_of_le_of_lt (Nat.div_le_self _ _) hb
  generalize b / 2 ^ k = c at *
  rw [wu32 (by omega) (by omega), and32_1 (by omega), xor32 hs (by omega), and32_1 (xor_lt32 hs (by omega))]
  exact br_eq (fun q => h1 (by omega)) (fun q => h0 (by omega))
theorem crc_r1 {s c : Nat} (hs : s < 4294967296) (h : (s ^^^ c % 2) % 2 = 1) : bXor .u32 (bShr .u32 (s : Int) 1) 2197175160 = ((crcR s c : Nat) : Int) := by
  rw [shr .u32 s 1 (by decide)]
  have := xor32 (a := s / 2) (b := poly) (by omega) (by decide)
  unfold crcR
  rw [if_pos h]
  exact this
theorem crc_r0 {s c : Nat} (h : (s ^^^ c % 2) % 2 = 0) : bShr .u32 (s : Int) 1 = ((crcR s c : Nat) : Int) := by
  rw [shr .u32 s 1 (by decide)]
  unfold crcR
  rw [if_neg (by omega)]
end Go.Proofs.Ytaneeadpjelomaa

/- Layer 1: numbers laid in bytes. -/
namespace Go.Proofs.Ytaneeadpjelomaa
open Go CF

def beN : Nat → Nat → L8
  | 0, _ => []
  | j + 1, v => UInt8.ofNat (v / 256 ^ j) :: beN j v
theorem beN_len : ∀ (n v : Nat), (beN n v).length = n
  | 0, _ => rfl
  | n + 1, v => by simp [beN, beN_len n v]
theorem num_foldl (l : L8) : ∀ v : Nat, l.foldl (fun v b => v * 256 + b.toNat) v = v * 256 ^ l.length + num l := by
  induction l with
  | nil => intro v; simp [num]
  | cons b r ih =>
    intro v
    unfold num
    simp only [List.foldl_cons, List.length_cons]
    rw [ih, ih (0 * 256 + b.toNat), Nat.pow_succ]
    simp only [Nat.zero_mul, Nat.zero_add]
    rw [Nat.add_mul, Nat.mul_assoc, Nat.mul_comm (256 ^ r.length) 256]
    omega
theorem num_cons (b : UInt8) (l : L8) : num (b :: l) = b.toNat * 256 ^ l.length + num l := by
  show List.foldl _ (0 * 256 + b.toNat) l = _
  rw [num_foldl]; simp
theorem num_append (a b : L8) : num (a ++ b) = num a * 256 ^ b.length + num b := by
  show List.foldl _ 0 (a ++ b) = _
  rw [List.foldl_append, num_foldl]; rfl
theorem num_beN : ∀ (n v : Nat), num (beN n v) = v % 256 ^ n
  | 0, v => by simp [beN, num, Nat.mod_one]
  | n + 1, v => by
    simp only [beN]
    have e : (256 : Nat) ^ (n + 1) = 256 ^ n * 256 := Nat.pow_succ ..
    rw [num_cons, beN_len, num_beN n v, UInt8.toNat_ofNat', e, Nat.mod_mul, Nat.mul_comm, Nat.add_comm]
theorem num_beN_lt {n v : Nat} (h : v < 256 ^ n) : num (beN n v) = v := by rw [num_beN, Nat.mod_eq_of_lt h]
theorem bv_set (l : L8) (i : Nat) (b : UInt8) : (bv l).set i (.int .u8 (b.toNat : Int)) = bv (l.set i b) := by
  simp [bv, List.map_set]
/-- l with a number laid in, as it is while j bytes of n are laid -/
def layN (l : L8) (at_ n j v : Nat) : L8 := l.take (at_ + (n - j)) ++ beN j v ++ l.drop (at_ + n)
theorem layN_zero (l : L8) (at_ n v : Nat) : layN l at_ n 0 v = l := by simp [layN, beN]
theorem layN_len {l : L8} {at_ n j : Nat} (v : Nat) (h : at_ + n ≤ l.length) (hj : j ≤ n) : (layN l at_ n j v).length = l.length := by
  simp [layN, beN_len]; omega
theorem layN_step {l : L8} {at_ n j : Nat} (v : Nat) (h : at_ + n ≤ l.length) (hj : j < n) :
    (layN l at_ n j v).set (at_ + (n - 1 - j)) (UInt8.ofNat (v / 256 ^ j)) = layN l at_ n (j + 1) v := by
  unfold layN
  have e1 : at_ + (n - j) = at_ + (n - (j + 1)) + 1 := by omega
  have e2 : at_ + (n - 1 - j) = at_ + (n - (j + 1)) := by omega
  have hl : at_ + (n - (j + 1)) < l.length := by omega
  rw [e1, e2, List.take_succ_eq_append_getElem hl]
  generalize hm : at_ + (n - (j + 1)) = m at *
  have ht : (l.take m).length = m := by rw [List.length_take]; omega
  simp only [List.append_assoc]
  rw [List.set_append_right _ _ (by omega), ht, Nat.sub_self]
  rfl
def lay (l : L8) (at_ n v : Nat) : L8 := l.take at_ ++ beN n v ++ l.drop (at_ + n)
theorem layN_all (l : L8) (at_ n v : Nat) : layN l at_ n n v = lay l at_ n v := by simp [layN, lay]
theorem div_step (v j : Nat) : v / 256 ^ j / 256 = v / 256 ^ (j + 1) := by rw [Nat.pow_succ, Nat.div_div_eq_div_mul]
theorem field_spec {p : Sl} {at_ n : Nat} {w : World} {R : Int → World → Prop} (hb : p.n ≤ 140737489403904) (hn : 1 ≤ n) (hn8 : n ≤ 8) (hat : at_ + n ≤ p.n) (h : R 0 w) : Cbe_field p (at_ : Int) (n : Int) w R := by
  refine Fbe_field.calls _ _ _ _ _ ?_
  have e1 : IntKind.wrap .i64 ((p.n : Int) - (n : Int)) = (p.n : Int) - (n : Int) := w64 (by omega) (by omega)
  exact br_f (by rw [Bool.or_eq_false_iff, decide_eq_false_iff_not, decide_eq_false_iff_not]; omega) (br_f (by rw [Bool.or_eq_false_iff, decide_eq_false_iff_not, decide_eq_false_iff_not, e1]; omega) h)
theorem put_spec {p : Sl} {l : L8} {at_ n v : Nat} {w : World} {R : Sl → Int → World → Prop} (hp : Rd w 1 p (bv l)) (hb : p.n ≤ 1000000000) (hn : 1 ≤ n) (hn8 : n ≤ 8) (hat : at_ + n ≤ l.length) (hv : v < 256 ^ n)
    (h : ∀ s w', Own w' w.heap.size t_uint8 1 s (bv (lay l at_ n v)) → Grow w w' → R s 0 w') : Cbe_Put p (at_ : Int) (n : Int) (v : Int) w R := by
  refine Fbe_Put.calls _ _ _ _ _ _ ?_
  have hln : l.length = p.n := by have := hp.len; rw [bv_length] at this; omega
  refine field_spec (by omega) hn hn8 (by omega) ?_
  have e8 : IntKind.wrap .i64 (8 * (n : Int)) = ((8 * n : Nat) : Int) := by rw [w64 (by omega) (by omega)]; omega
  rw [e8, Int.toNat_natCast, shr .u64 v (8 * n) (by show 8 * n ≤ 64; omega)]
  have hz : v / 2 ^ (8 * n) = 0 := by
    refine Nat.div_eq_of_lt ?_
    rw [Nat.pow_mul]
    exact hv
  rw [hz]
  refine ⟨fun _ => by omega, br_f (by simp) (br_f rfl ?_)⟩
  refine append_rule (s := ⟨none, 0, 0⟩) (vs := []) (base := w.heap.size) u_sl_uint8 i_uint8 rfl (by decide) (by decide) (own_nil _ _ _ _) hp (bv_one' _) (by show (0 + p.n) * 1 ≤ _; omega) (Nat.le_refl _) fun s1 w1 hn1 hown1 hk1 _ => ?_
  have hg1 : Grow w w1 := hk1.mono fun i hi q => by cases q
  rw [List.nil_append] at hown1
  have hn1 : s1.n = p.n := by rw [hn1]; exact Nat.zero_add _
  refine ⟨fun x i u => ∃ j : Nat, j ≤ n ∧ i = ((n : Int) - 1 - (j : Int)) ∧ x = ((v / 256 ^ j : Nat) : Int) ∧ Grow w u ∧ Own u w.heap.size t_uint8 1 s1 (bv (layN l at_ n j v)), fun _ i _ => (i + 1).toNat,
    ⟨0, Nat.zero_le _, by rw [w64 (by omega) (by omega)]; omega, by simp, hg1, by rw [layN_zero]; exact hown1⟩, ?_⟩
  rintro x i w2 ⟨j, hj, rfl, rfl, hg2, hown2⟩
  refine br_dec (fun hlt => ?_) (fun hge => ?_)
  · have e1 : IntKind.wrap .i64 ((at_ : Int) + ((n : Int) - 1 - (j : Int))) = ((at_ + (n - 1 - j) : Nat) : Int) := by rw [w64 (by omega) (by omega)]; omega
    rw [e1, Int.toNat_natCast, wrap_u8]
    have hs1A : s1.A.isSome = true := by
      have hne : bv (layN l at_ n j v) ≠ [] := fun q => by have := congrArg List.length q; rw [bv_length, layN_len v hat (by omega), List.length_nil] at this; omega
      obtain ⟨a, ha, _⟩ := (hown2.rd (by omega)).at_ hne
      rw [ha]; rfl
    refine ⟨⟨by omega, by omega, hs1A⟩, ?_⟩
    refine own_put (i := at_ + (n - 1 - j)) hown2 (by omega) rfl fun w3 hown3 hk3 _ => ?_
    rw [bv_set, layN_step v hat (by omega)] at hown3
    rw [shr .u64 _ 8 (by decide), w64 (by omega) (by omega)]
    refine ⟨⟨j + 1, by omega, by omega, ?_, hg2.keep hk3 fun i hi q => by have := (hown2.ge i q.symm).1; omega, hown3⟩, by dsimp only; omega⟩
    rw [← div_step]
  · have : j = n := by omega
    subst this
    rw [layN_all] at hown2
    exact h s1 w2 hown2 hg2
theorem ref_field_spec {all at_ n : Nat} {w : World} {R : Int → World → Prop} (hb : all ≤ 140737489403904) (hn : 1 ≤ n) (hn8 : n ≤ 8) (hat : at_ + n ≤ all) (h : R 0 w) : Cpalletref01_field (all : Int) (at_ : Int) (n : Int) w R := by
  refine Fpalletref01_field.calls _ _ _ _ _ ?_
  have e1 : IntKind.wrap .i64 ((all : Int) - (at_ : Int)) = (all : Int) - (at_ : Int) := w64 (by omega) (by omega)
  refine br_f (by rw [Bool.or_eq_false_iff, decide_eq_false_iff_not, decide_eq_false_iff_not]; omega) (br_f ?_ h)
  rw [Bool.or_eq_false_iff, Bool.or_eq_false_iff, decide_eq_false_iff_not, decide_eq_false_iff_not, decide_eq_false_iff_not, e1]
  omega
theorem num_small {l : L8} {j : Nat} (h : l.length = j) (hj : j ≤ 7) : num l < 72057594037927936 := by
  refine Nat.lt_of_lt_of_le (num_lt l) ?_
  rw [h]
  calc 256 ^ j ≤ 256 ^ 7 := Nat.pow_le_pow_right (by decide) hj
    _ = 72057594037927936 := by decide
theorem ref_num_spec {p : Sl} {l : L8} {at_ n : Nat} {w : World} {R : Int → World → Prop} (hp : Rd w 1 p (bv l)) (hn : 1 ≤ n) (hn8 : n ≤ 8) (hat : at_ + n ≤ l.length)
    (h : R ((num ((l.drop at_).take n) : Nat) : Int) w) : Cpalletref01_Num p (at_ : Int) (n : Int) w R := by
  refine Fpalletref01_Num.calls _ _ _ _ _ ?_
  refine Fpalletref01_Get.calls _ _ _ _ _ ?_
  have hnb := hp.nb
  have hln : l.length = p.n := by have := hp.len; rw [bv_length] at this; omega
  refine ref_field_spec (all := p.n) (by omega) hn hn8 (by omega) (br_f rfl ?_)
  generalize hseg : (l.drop at_).take n = seg at *
  have hsl : seg.length = n := by rw [← hseg, List.length_take, List.length_drop]; omega
  refine ⟨fun v x w' => w' = w ∧ ∃ j : Nat, x = j ∧ j ≤ n ∧ v = ((num (seg.take j) : Nat) : Int), fun _ x _ => n - x.toNat, ⟨rfl, 0, rfl, Nat.zero_le _, rfl⟩, ?_⟩
  rintro v x w0 ⟨rfl, j, rfl, hj, rfl⟩
  refine br_nat (fun hlt => ?_) (fun hge => ?_)
  · obtain ⟨a, ha, hc⟩ := hp.byte (i := at_ + j) (by omega)
    have hjs : j < seg.length := by omega
    have hseg' : seg[j] = l[at_ + j]'(by omega) := by subst hseg; simp
    have e1 : IntKind.wrap .i64 ((at_ : Int) + (j : Int)) = ((at_ + j : Nat) : Int) := by rw [w64 (by omega) (by omega)]; omega
    rw [e1, Int.toNat_natCast]
    refine ⟨⟨by omega, by omega, by rw [ha]; rfl⟩, (seg[j].toNat : Int), by rw [ha, hseg']; exact hc, ?_⟩
    have hb8 := seg[j].toNat_lt
    have hsm : num (seg.take j) < 72057594037927936 := num_small (j := j) (by rw [List.length_take]; omega) (by omega)
    rw [wu64 (n := ((num (seg.take j) : Nat) : Int) * 256) (by omega) (by omega), wu64 (n := (seg[j].toNat : Int)) (by omega) (by omega), wu64 (by omega) (by omega), w64 (by omega) (by omega)]
    refine ⟨⟨rfl, j + 1, by omega, by omega, ?_⟩, by dsimp only; omega⟩
    rw [List.take_succ_eq_append_getElem hjs, num_snoc]; omega
  · have : j = n := by omega
    subst this
    rw [List.take_of_length_le (by omega)]
    exact h
end Go.Proofs.Ytaneeadpjelomaa
