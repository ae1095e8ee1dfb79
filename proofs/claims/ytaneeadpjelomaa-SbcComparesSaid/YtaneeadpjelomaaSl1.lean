/- Layer 1: numbers laid in bytes. -/
import Derived.Test.YtaneeadpjelomaaCr2
import Derived.Test.YtaneeadpjelomaaCfR
namespace Go.Proofs.Ytaneeadpjelomaa
open Go CF

def beN : Nat → Nat → L8
  | 0, _ => []
  | j + 1, v => UInt8.ofNat (v / 256 ^ j) :: beN j v
theorem beN_len : ∀ (n v : Nat), (beN n v).length = n
  | 0, _ => rfl
  | n + 1, v => by simp [beN, beN_len n v]
theorem num_foldl (l : L8) : ∀ v : Nat, l.foldl (fun v b => v * 256 + b.toNat) v = v * 256 ^ l.length + num l := by
  induction l with
  | nil => intro v; simp [num]
  | cons b r ih =>
    intro v
    unfold num
    simp only [List.foldl_cons, List.length_cons]
    rw [ih, ih (0 * 256 + b.toNat), Nat.pow_succ]
    simp only [Nat.zero_mul, Nat.zero_add]
    rw [Nat.add_mul, Nat.mul_assoc, Nat.mul_comm (256 ^ r.length) 256]
    omega
theorem num_cons (b : UInt8) (l : L8) : num (b :: l) = b.toNat * 256 ^ l.length + num l := by
  show List.foldl _ (0 * 256 + b.toNat) l = _
  rw [num_foldl]; simp
theorem num_append (a b : L8) : num (a ++ b) = num a * 256 ^ b.length + num b := by
  show List.foldl _ 0 (a ++ b) = _
  rw [List.foldl_append, num_foldl]; rfl
theorem num_beN : ∀ (n v : Nat), num (beN n v) = v % 256 ^ n
  | 0, v => by simp [beN, num, Nat.mod_one]
  | n + 1, v => by
    simp only [beN]
    have e : (256 : Nat) ^ (n + 1) = 256 ^ n * 256 := Nat.pow_succ ..
    rw [num_cons, beN_len, num_beN n v, UInt8.toNat_ofNat', e, Nat.mod_mul, Nat.mul_comm, Nat.add_comm]
theorem num_beN_lt {n v : Nat} (h : v < 256 ^ n) : num (beN n v) = v := by rw [num_beN, Nat.mod_eq_of_lt h]
theorem bv_set (l : L8) (i : Nat) (b : UInt8) : (bv l).set i (.int .u8 (b.toNat : Int)) = bv (l.set i b) := by
  simp [bv, List.map_set]
/-- l with a number laid in, as it is while j bytes of n are laid -/
def layN (l : L8) (at_ n j v : Nat) : L8 := l.take (at_ + (n - j)) ++ beN j v ++ l.drop (at_ + n)
theorem layN_zero (l : L8) (at_ n v : Nat) : layN l at_ n 0 v = l := by simp [layN, beN]
theorem layN_len {l : L8} {at_ n j : Nat} (v : Nat) (h : at_ + n ≤ l.length) (hj : j ≤ n) : (layN l at_ n j v).length = l.length := by
  simp [layN, beN_len]; omega
theorem layN_step {l : L8} {at_ n j : Nat} (v : Nat) (h : at_ + n ≤ l.length) (hj : j < n) :
    (layN l at_ n j v).set (at_ + (n - 1 - j)) (UInt8.ofNat (v / 256 ^ j)) = layN l at_ n (j + 1) v := by
  unfold layN
  have e1 : at_ + (n - j) = at_ + (n - (j + 1)) + 1 := by omega
  have e2 : at_ + (n - 1 - j) = at_ + (n - (j + 1)) := by omega
  have hl : at_ + (n - (j + 1)) < l.length := by omega
  rw [e1, e2, List.take_succ_eq_append_getElem hl]
  generalize hm : at_ + (n - (j + 1)) = m at *
  have ht : (l.take m).length = m := by rw [List.length_take]; omega
  simp only [List.append_assoc]
  rw [List.set_append_right _ _ (by omega), ht, Nat.sub_self]
  rfl
def lay (l : L8) (at_ n v : Nat) : L8 := l.take at_ ++ beN n v ++ l.drop (at_ + n)
theorem layN_all (l : L8) (at_ n v : Nat) : layN l at_ n n v = lay l at_ n v := by simp [layN, lay]
theorem div_step (v j : Nat) : v / 256 ^ j / 256 = v / 256 ^ (j + 1) := by rw [Nat.pow_succ, Nat.div_div_eq_div_mul]
theorem field_spec {p : Sl} {at_ n : Nat} {w : World} {R : Int → World → Prop} (hb : p.n ≤ 140737489403904) (hn : 1 ≤ n) (hn8 : n ≤ 8) (hat : at_ + n ≤ p.n) (h : R 0 w) : Cbe_field p (at_ : Int) (n : Int) w R := by
  refine Fbe_field.calls _ _ _ _ _ ?_
  have e1 : IntKind.wrap .i64 ((p.n : Int) - (n : Int)) = (p.n : Int) - (n : Int) := w64 (by omega) (by omega)
  exact br_f (by rw [Bool.or_eq_false_iff, decide_eq_false_iff_not, decide_eq_false_iff_not]; omega) (br_f (by rw [Bool.or_eq_false_iff, decide_eq_false_iff_not, decide_eq_false_iff_not, e1]; omega) h)
theorem put_spec {p : Sl} {l : L8} {at_ n v : Nat} {w : World} {R : Sl → Int → World → Prop} (hp : Rd w 1 p (bv l)) (hb : p.n ≤ 1000000000) (hn : 1 ≤ n) (hn8 : n ≤ 8) (hat : at_ + n ≤ l.length) (hv : v < 256 ^ n)
    (h : ∀ s w', Own w' w.heap.size t_uint8 1 s (bv (lay l at_ n v)) → Grow w w' → R s 0 w') : Cbe_Put p (at_ : Int) (n : Int) (v : Int) w R := by
  refine Fbe_Put.calls _ _ _ _ _ _ ?_
  have hln : l.length = p.n := by have := hp.len; rw [bv_length] at this; omega
  refine field_spec (by omega) hn hn8 (by omega) ?_
  have e8 : IntKind.wrap .i64 (8 * (n : Int)) = ((8 * n : Nat) : Int) := by rw [w64 (by omega) (by omega)]; omega
  rw [e8, Int.toNat_natCast, shr .u64 v (8 * n) (by show 8 * n ≤ 64; omega)]
  have hz : v / 2 ^ (8 * n) = 0 := by
    refine Nat.div_eq_of_lt ?_
    rw [Nat.pow_mul]
    exact hv
  rw [hz]
  refine ⟨fun _ => by omega, br_f (by simp) (br_f rfl ?_)⟩
  refine append_rule (s := ⟨none, 0, 0⟩) (vs := []) (base := w.heap.size) u_sl_uint8 i_uint8 rfl (by decide) (by decide) (own_nil _ _ _ _) hp (bv_one' _) (by show (0 + p.n) * 1 ≤ _; omega) (Nat.le_refl _) fun s1 w1 hn1 hown1 hk1 _ => ?_
  have hg1 : Grow w w1 := hk1.mono fun i hi q => by cases q
  rw [List.nil_append] at hown1
  have hn1 : s1.n = p.n := by rw [hn1]; exact Nat.zero_add _
  refine ⟨fun x i u => ∃ j : Nat, j ≤ n ∧ i = ((n : Int) - 1 - (j : Int)) ∧ x = ((v / 256 ^ j : Nat) : Int) ∧ Grow w u ∧ Own u w.heap.size t_uint8 1 s1 (bv (layN l at_ n j v)), fun _ i _ => (i + 1).toNat,
    ⟨0, Nat.zero_le _, by rw [w64 (by omega) (by omega)]; omega, by simp, hg1, by rw [layN_zero]; exact hown1⟩, ?_⟩
  rintro x i w2 ⟨j, hj, rfl, rfl, hg2, hown2⟩
  refine br_dec (fun hlt => ?_) (fun hge => ?_)
  · have e1 : IntKind.wrap .i64 ((at_ : Int) + ((n : Int) - 1 - (j : Int))) = ((at_ + (n - 1 - j) : Nat) : Int) := by rw [w64 (by omega) (by omega)]; omega
    rw [e1, Int.toNat_natCast, wrap_u8]
    have hs1A : s1.A.isSome = true := by
      have hne : bv (layN l at_ n j v) ≠ [] := fun q => by have := congrArg List.length q; rw [bv_length, layN_len v hat (by omega), List.length_nil] at this; omega
      obtain ⟨a, ha, _⟩ := (hown2.rd (by omega)).at_ hne
      rw [ha]; rfl
    refine ⟨⟨by omega, by omega, hs1A⟩, ?_⟩
    refine own_put (i := at_ + (n - 1 - j)) hown2 (by omega) rfl fun w3 hown3 hk3 _ => ?_
    rw [bv_set, layN_step v hat (by omega)] at hown3
    rw [shr .u64 _ 8 (by decide), w64 (by omega) (by omega)]
    refine ⟨⟨j + 1, by omega, by omega, ?_, hg2.keep hk3 fun i hi q => by have := (hown2.ge i q.symm).1; omega, hown3⟩, by dsimp only; omega⟩
    rw [← div_step]
  · have : j = n := by omega
    subst this
    rw [layN_all] at hown2
    exact h s1 w2 hown2 hg2
theorem ref_field_spec {all at_ n : Nat} {w : World} {R : Int → World → Prop} (hb : all ≤ 140737489403904) (hn : 1 ≤ n) (hn8 : n ≤ 8) (hat : at_ + n ≤ all) (h : R 0 w) : Cpalletref01_field (all : Int) (at_ : Int) (n : Int) w R := by
  refine Fpalletref01_field.calls _ _ _ _ _ ?_
  have e1 : IntKind.wrap .i64 ((all : Int) - (at_ : Int)) = (all : Int) - (at_ : Int) := w64 (by omega) (by omega)
  refine br_f (by rw [Bool.or_eq_false_iff, decide_eq_false_iff_not, decide_eq_false_iff_not]; omega) (br_f ?_ h)
  rw [Bool.or_eq_false_iff, Bool.or_eq_false_iff, decide_eq_false_iff_not, decide_eq_false_iff_not, decide_eq_false_iff_not, e1]
  omega
theorem num_small {l : L8} {j : Nat} (h : l.length = j) (hj : j ≤ 7) : num l < 72057594037927936 := by
  refine Nat.lt_of_lt_of_le (num_lt l) ?_
  rw [h]
  calc 256 ^ j ≤ 256 ^ 7 := Nat.pow_le_pow_right (by decide) hj
    _ = 72057594037927936 := by decide
theorem ref_num_spec {p : Sl} {l : L8} {at_ n : Nat} {w : World} {R : Int → World → Prop} (hp : Rd w 1 p (bv l)) (hn : 1 ≤ n) (hn8 : n ≤ 8) (hat : at_ + n ≤ l.length)
    (h : R ((num ((l.drop at_).take n) : Nat) : Int) w) : Cpalletref01_Num p (at_ : Int) (n : Int) w R := by
  refine Fpalletref01_Num.calls _ _ _ _ _ ?_
  refine Fpalletref01_Get.calls _ _ _ _ _ ?_
  have hnb := hp.nb
  have hln : l.length = p.n := by have := hp.len; rw [bv_length] at this; omega
  refine ref_field_spec (all := p.n) (by omega) hn hn8 (by omega) (br_f rfl ?_)
  generalize hseg : (l.drop at_).take n = seg at *
  have hsl : seg.length = n := by rw [← hseg, List.length_take, List.length_drop]; omega
  refine ⟨fun v x w' => w' = w ∧ ∃ j : Nat, x = j ∧ j ≤ n ∧ v = ((num (seg.take j) : Nat) : Int), fun _ x _ => n - x.toNat, ⟨rfl, 0, rfl, Nat.zero_le _, rfl⟩, ?_⟩
  rintro v x w0 ⟨rfl, j, rfl, hj, rfl⟩
  refine br_nat (fun hlt => ?_) (fun hge => ?_)
  · obtain ⟨a, ha, hc⟩ := hp.byte (i := at_ + j) (by omega)
    have hjs : j < seg.length := by omega
    have hseg' : seg[j] = l[at_ + j]'(by omega) := by subst hseg; simp
    have e1 : IntKind.wrap .i64 ((at_ : Int) + (j : Int)) = ((at_ + j : Nat) : Int) := by rw [w64 (by omega) (by omega)]; omega
    rw [e1, Int.toNat_natCast]
    refine ⟨⟨by omega, by omega, by rw [ha]; rfl⟩, (seg[j].toNat : Int), by rw [ha, hseg']; exact hc, ?_⟩
    have hb8 := seg[j].toNat_lt
    have hsm : num (seg.take j) < 72057594037927936 := num_small (j := j) (by rw [List.length_take]; omega) (by omega)
    rw [wu64 (n := ((num (seg.take j) : Nat) : Int) * 256) (by omega) (by omega), wu64 (n := (seg[j].toNat : Int)) (by omega) (by omega), wu64 (by omega) (by omega), w64 (by omega) (by omega)]
    refine ⟨⟨rfl, j + 1, by omega, by omega, ?_⟩, by dsimp only; omega⟩
    rw [List.take_succ_eq_append_getElem hjs, num_snoc]; omega
  · have : j = n := by omega
    subst this
    rw [List.take_of_length_le (by omega)]
    exact h
end Go.Proofs.Ytaneeadpjelomaa
