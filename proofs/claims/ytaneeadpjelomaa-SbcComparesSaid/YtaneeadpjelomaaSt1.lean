/- Layer 4: numbers in bytes, blocks as records. -/
import Derived.Test.YtaneeadpjelomaaWo4
import Derived.Test.YtaneeadpjelomaaOpn
namespace Go.Proofs.Ytaneeadpjelomaa
open Go CF

def num (l : L8) : Nat := l.foldl (fun v b => v * 256 + b.toNat) 0
theorem num_snoc (l : L8) (b : UInt8) : num (l ++ [b]) = num l * 256 + b.toNat := by simp [num, List.foldl_append]
theorem num_lt (l : L8) : num l < 256 ^ l.length := by
  have key : ∀ (l : L8) (v : Nat), l.foldl (fun v b => v * 256 + b.toNat) v < (v + 1) * 256 ^ l.length := by
    intro l
    induction l with
    | nil => intro v; simp
    | cons b r ih =>
      intro v
      rw [List.foldl_cons, List.length_cons, Nat.pow_succ]
      have h1 := ih (v * 256 + b.toNat)
      have h2 := b.toNat_lt
      have h3 : (v * 256 + b.toNat + 1) * 256 ^ r.length ≤ (v + 1) * 256 * 256 ^ r.length := Nat.mul_le_mul_right _ (by omega)
      have h4 : (v + 1) * 256 * 256 ^ r.length = (v + 1) * (256 ^ r.length * 256) := by rw [Nat.mul_assoc, Nat.mul_comm 256]
      omega
  have := key l 0
  rw [Nat.zero_add, Nat.one_mul] at this
  exact this
theorem bor_add {a b : Nat} (ha : a < 72057594037927936) (hb : b < 256) : bOr .u64 ((a * 256 : Nat) : Int) (b : Int) = ((a * 256 + b : Nat) : Int) := by
  unfold bOr
  show IntKind.wrap .u64 (((BitVec.ofInt 64 ((a * 256 : Nat) : Int) ||| BitVec.ofInt 64 (b : Int)).toNat : Nat) : Int) = _
  rw [BitVec.ofInt_natCast, BitVec.ofInt_natCast, BitVec.toNat_or, BitVec.toNat_ofNat, BitVec.toNat_ofNat, Nat.mod_eq_of_lt (by omega), Nat.mod_eq_of_lt (by omega)]
  have e : a * 256 ||| b = a * 256 + b := by
    have := Nat.shiftLeft_add_eq_or_of_lt (i := 8) (b := b) (by omega) a
    rw [Nat.shiftLeft_eq] at this
    exact this.symm
  rw [e]
  exact wu64 (by omega) (by omega)
theorem shl8 {a : Nat} (ha : a < 72057594037927936) : bShl .u64 (a : Int) 8 = ((a * 256 : Nat) : Int) := by
  unfold bShl
  have e : (min 8 (IntKind.bits .u64)) = 8 := by decide
  rw [e, wu64 (by omega) (by omega)]
  omega
theorem get_spec {p : Sl} {l : L8} {at_ n : Nat} {w : World} {R : Int → Int → World → Prop} (hp : Rd w 1 p (bv l)) (hb : p.n ≤ 140737489403904) (hn : 1 ≤ n) (hn8 : n ≤ 8) (hat : at_ + n ≤ l.length)
    (h : R ((num ((l.drop at_).take n) : Nat) : Int) 0 w) : Cbe_Get p (at_ : Int) (n : Int) w R := by
  refine Fbe_Get.calls _ _ _ _ _ ?_
  have hln : l.length = p.n := by have := hp.len; rw [bv_length] at this; omega
  have hcap := hp.cap
  refine Fbe_field.calls _ _ _ _ _ ?_
  have e1 : IntKind.wrap .i64 ((p.n : Int) - (n : Int)) = (p.n : Int) - (n : Int) := w64 (by omega) (by omega)
  refine br_f (by rw [Bool.or_eq_false_iff, decide_eq_false_iff_not, decide_eq_false_iff_not]; omega) (br_f (by rw [Bool.or_eq_false_iff, decide_eq_false_iff_not, decide_eq_false_iff_not, e1]; omega) (br_f rfl ?_))
  have e2 : IntKind.wrap .i64 ((at_ : Int) + (n : Int)) = ((at_ + n : Nat) : Int) := by rw [w64 (by omega) (by omega)]; omega
  rw [e2]
  simp only [Int.toNat_natCast]
  refine ⟨⟨by omega, by omega, by omega, hcap⟩, ?_⟩
  have hx := hp.cutB (l := at_) (k := at_ + n) (by omega) (by omega)
  rw [show at_ + n - at_ = n by omega] at hx
  generalize hseg : (l.drop at_).take n = seg at *
  have hsl : seg.length = n := by rw [← hseg, List.length_take, List.length_drop]; omega
  refine ⟨fun v x w' => w' = w ∧ ∃ j : Nat, x = j ∧ j ≤ n ∧ v = ((num (seg.take j) : Nat) : Int), fun _ x _ => n - x.toNat, ⟨rfl, 0, rfl, Nat.zero_le _, rfl⟩, ?_⟩
  rintro v x w0 ⟨rfl, j, rfl, hj, rfl⟩
  refine br_nat (fun hlt => ?_) (fun hge => ?_)
  · obtain ⟨a, ha, hc⟩ := hx.byte (i := j) (by show j < n; omega)
    have ha : cutA p.A p.c at_ 1 = some a := ha
    have hjs : j < seg.length := by omega
    refine ⟨⟨by omega, by omega, by rw [ha]; rfl⟩, ((seg[j]).toNat : Int), by rw [ha]; exact hc, ?_⟩
    have hnl := num_lt (seg.take j)
    have hb8 := seg[j].toNat_lt
    have hsm : num (seg.take j) < 72057594037927936 := by
      refine Nat.lt_of_lt_of_le hnl ?_
      rw [List.length_take, Nat.min_eq_left (by omega)]
      calc 256 ^ j ≤ 256 ^ 7 := Nat.pow_le_pow_right (by decide) (by omega)
        _ = 72057594037927936 := by decide
    rw [shl8 hsm, wu64 (by omega) (by omega), bor_add hsm (by omega), w64 (by omega) (by omega)]
    refine ⟨⟨rfl, j + 1, by omega, by omega, ?_⟩, by dsimp only; omega⟩
    rw [List.take_succ_eq_append_getElem hjs, num_snoc]
  · have : j = n := by omega
    subst this
    rw [List.take_of_length_le (by omega)]
    exact h
/-- a block -/
structure Bk where
  d : L8
  g : Nat
  a : Nat
  r : Nat
  hd : d.length = 16
  hg : g < 65536
  ha : a < 65536
  hr : r < 4294967296
def bc (b : Bk) : List Value := bv b.d ++ [.int .u16 (b.g : Int), .int .u16 (b.a : Int), .int .u32 (b.r : Int)]
theorem bc_len (b : Bk) : (bc b).length = 19 := by simp [bc, bv_length, b.hd]
theorem bv_inj {a b : L8} (h : bv a = bv b) : a = b := by
  induction a generalizing b with
  | nil => cases b with
    | nil => rfl
    | cons _ _ => simp [bv] at h
  | cons x r ih =>
    cases b with
    | nil => simp [bv] at h
    | cons y s =>
      simp only [bv, List.map_cons, List.cons.injEq, Value.int.injEq] at h
      have e : x = y := UInt8.toNat_inj.1 (by omega)
      rw [e, ih h.2]
theorem bc_inj {a b : Bk} (h : bc a = bc b) : a = b := by
  unfold bc at h
  obtain ⟨h1, h2⟩ := List.append_inj h (by rw [bv_length, bv_length, a.hd, b.hd])
  simp only [List.cons.injEq, Value.int.injEq, and_true, true_and] at h2
  have e1 := bv_inj h1
  have e2 : a.g = b.g := by omega
  have e3 : a.a = b.a := by omega
  have e4 : a.r = b.r := by omega
  cases a; cases b
  simp only at e1 e2 e3 e4
  subst e1; subst e2; subst e3; subst e4
  rfl
def kBk : List Kd := [.i .u8, .i .u8, .i .u8, .i .u8, .i .u8, .i .u8, .i .u8, .i .u8, .i .u8, .i .u8, .i .u8, .i .u8, .i .u8, .i .u8, .i .u8, .i .u8, .i .u16, .i .u16, .i .u32]
theorem flat_api_Block : flatK Try.prog 8 t_api_Block = some kBk := by kernel_rfl
theorem kd_api_Block : kd Try.prog t_api_Block = .ag := by kernel_rfl
theorem gt_api_Block : Try.prog.eqGuardType Try.prog.depth t_api_Block = false := by kernel_rfl
theorem fit_bytes : ∀ (l : L8) (n : Nat), l.length = n → FitL (List.replicate n (.i .u8)) (bv l)
  | [], 0, _ => trivial
  | _ :: l, n + 1, h => ⟨rfl, fit_bytes l n (by simpa using h)⟩
theorem fit_bc (b : Bk) : FitL kBk (bc b) := by
  have := (fit_bytes b.d 16 b.hd).join (ls := [.i .u16, .i .u16, .i .u32]) (b := [.int .u16 (b.g : Int), .int .u16 (b.a : Int), .int .u32 (b.r : Int)]) ⟨rfl, rfl, rfl, trivial⟩
  exact this
def emptyB : Bk := ⟨[0, 0, 0, 0, 0, 0, 0, 0, 0, 0, 0, 0, 0, 0, 0, 0], 65535, 65535, 4294967295, rfl, by decide, by decide, by decide⟩
def be2 (n : Nat) : L8 := [UInt8.ofNat (n / 2 ^ 8), UInt8.ofNat n]
def be4 (n : Nat) : L8 := [UInt8.ofNat (n / 2 ^ 24), UInt8.ofNat (n / 2 ^ 16), UInt8.ofNat (n / 2 ^ 8), UInt8.ofNat n]
def recB (b : Bk) : L8 := [1] ++ b.d ++ (be2 b.g ++ be2 b.a) ++ be4 b.r
theorem recB_len (b : Bk) : (recB b).length = 25 := by simp [recB, be2, be4, b.hd]
theorem wrap_u8 (n : Nat) : IntKind.wrap .u8 (n : Int) = ((UInt8.ofNat n).toNat : Int) := by
  rw [UInt8.toNat_ofNat']
  have e : IntKind.wrap .u8 (n : Int) = (n : Int) % 256 := by simp [IntKind.wrap, IntKind.signed, IntKind.bits]
  rw [e]
  omega
theorem shr (k : IntKind) (n s : Nat) (hs : s ≤ k.bits) : bShr k (n : Int) s = ((n / 2 ^ s : Nat) : Int) := by
  unfold bShr
  rw [Nat.min_eq_left hs, show ((2 : Int) ^ s) = ((2 ^ s : Nat) : Int) by norm_cast]
  exact (Int.ofNat_fdiv n (2 ^ s)).symm
end Go.Proofs.Ytaneeadpjelomaa
