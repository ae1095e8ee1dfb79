import Derived.Test.YtaneeadpjelomaaSl1
import Derived.Test.YtaneeadpjelomaaSt10
/- Layers 2 and 13: the guard of bytes, blocks as they go over the wire. -/
namespace Go.Proofs.Ytaneeadpjelomaa
open Go CF

def gG (s : Nat) : Nat := if s / 32768 = 1 then (2 * s % 65536) ^^^ 0x8bb7 else 2 * s % 65536
def gGs : Nat → Nat → Nat
  | 0, s => s
  | k + 1, s => gG (gGs k s)
def gB (s : Nat) (b : UInt8) : Nat := gGs 8 (s ^^^ b.toNat * 256)
def c16 (l : L8) : Nat := l.foldl gB 0
theorem xor_lt16 {a b : Nat} (ha : a < 65536) (hb : b < 65536) : a ^^^ b < 65536 := Nat.xor_lt_two_pow (n := 16) ha hb
theorem gG_lt {s : Nat} (h : s < 65536) : gG s < 65536 := by
  unfold gG
  split
  · exact xor_lt16 (Nat.mod_lt _ (by decide)) (by decide)
  · exact Nat.mod_lt _ (by decide)
theorem gGs_lt {s : Nat} (h : s < 65536) : ∀ k, gGs k s < 65536
  | 0 => h
  | k + 1 => gG_lt (gGs_lt h k)
theorem gB_lt {s : Nat} (h : s < 65536) (b : UInt8) : gB s b < 65536 := gGs_lt (xor_lt16 h (by have := b.toNat_lt; omega)) 8
theorem c16f_lt {l : L8} : ∀ {s : Nat}, s < 65536 → l.foldl gB s < 65536 := by
  induction l with
  | nil => intro s h; exact h
  | cons b r ih => intro s h; exact ih (gB_lt h b)
theorem c16_lt (l : L8) : c16 l < 65536 := c16f_lt (by decide)
theorem xor_odd {a : Nat} (h : a % 2 = 0) : (a ^^^ 0x8bb7) % 2 = 1 := by rw [xor_mod2, h]; decide
theorem gG_inj {a b : Nat} (ha : a < 65536) (hb : b < 65536) (h : gG a = gG b) : a = b := by
  unfold gG at h
  split at h <;> split at h
  · have : 2 * a % 65536 = 2 * b % 65536 := by
      have := congrArg (· ^^^ 0x8bb7) h
      simpa [Nat.xor_assoc] using this
    omega
  · have := xor_odd (a := 2 * a % 65536) (by omega)
    rw [h] at this
    omega
  · have := xor_odd (a := 2 * b % 65536) (by omega)
    rw [← h] at this
    omega
  · omega
theorem gGs_inj {a b : Nat} (ha : a < 65536) (hb : b < 65536) : ∀ k, gGs k a = gGs k b → a = b
  | 0, h => h
  | k + 1, h => gGs_inj ha hb k (gG_inj (gGs_lt ha k) (gGs_lt hb k) h)
theorem gB_inj {a b : Nat} {x : UInt8} (ha : a < 65536) (hb : b < 65536) (h : gB a x = gB b x) : a = b := by
  have hx := x.toNat_lt
  have := gGs_inj (xor_lt16 ha (by omega)) (xor_lt16 hb (by omega)) 8 h
  have := congrArg (· ^^^ x.toNat * 256) this
  simpa [Nat.xor_assoc] using this
theorem gB_ne {a : Nat} {x y : UInt8} (ha : a < 65536) (h : x ≠ y) : gB a x ≠ gB a y := by
  intro q
  have hx := x.toNat_lt
  have hy := y.toNat_lt
  have := gGs_inj (xor_lt16 ha (by omega)) (xor_lt16 ha (by omega)) 8 q
  have := congrArg (a ^^^ ·) this
  simp only [← Nat.xor_assoc, Nat.xor_self, Nat.zero_xor] at this
  exact h (UInt8.toNat_inj.1 (by omega))
theorem c16f_inj {l : L8} : ∀ {a b : Nat}, a < 65536 → b < 65536 → l.foldl gB a = l.foldl gB b → a = b := by
  induction l with
  | nil => intro a b _ _ h; exact h
  | cons x r ih => intro a b ha hb h; exact gB_inj ha hb (ih (gB_lt ha x) (gB_lt hb x) h)
/-- one byte turned turns the guard -/
theorem c16_turn {p q : L8} {x y : UInt8} (h : x ≠ y) : c16 (p ++ x :: q) ≠ c16 (p ++ y :: q) := by
  intro e
  unfold c16 at e
  rw [List.foldl_append, List.foldl_append] at e
  have hs : p.foldl gB 0 < 65536 := c16f_lt (by decide)
  exact gB_ne hs h (c16f_inj (gB_lt hs x) (gB_lt hs y) e)
theorem c16_snoc (l : L8) (b : UInt8) : c16 (l ++ [b]) = gB (c16 l) b := by simp [c16, List.foldl_append]
/-! ### the model's words -/
theorem wu16' (n : Nat) : IntKind.wrap .u16 (n : Int) = ((n % 65536 : Nat) : Int) := by
  have e : IntKind.wrap .u16 (n : Int) = (n : Int) % 65536 := by simp [IntKind.wrap, IntKind.signed, IntKind.bits]
  rw [e]; omega
theorem xor16 {a b : Nat} (ha : a < 65536) (hb : b < 65536) : bXor .u16 (a : Int) (b : Int) = ((a ^^^ b : Nat) : Int) := by
  unfold bXor
  show IntKind.wrap .u16 (((BitVec.ofInt 16 (a : Int) ^^^ BitVec.ofInt 16 (b : Int)).toNat : Nat) : Int) = _
  rw [BitVec.ofInt_natCast, BitVec.ofInt_natCast, BitVec.toNat_xor, BitVec.toNat_ofNat, BitVec.toNat_ofNat, Nat.mod_eq_of_lt (by omega), Nat.mod_eq_of_lt (by omega)]
  have := xor_lt16 ha hb
  exact wu16 (by omega) (by omega)
theorem shl16_8 {b : Nat} (h : b < 256) : bShl .u16 (b : Int) 8 = ((b * 256 : Nat) : Int) := by
  unfold bShl
  have e : (min 8 (IntKind.bits .u16)) = 8 := by decide
  rw [e, show (b : Int) * 2 ^ 8 = ((b * 256 : Nat) : Int) by omega]
  exact wu16 (by omega) (by omega)
theorem shl16_1 {s : Nat} : bShl .u16 (s : Int) 1 = ((2 * s % 65536 : Nat) : Int) := by
  unfold bShl
  have e : (min 1 (IntKind.bits .u16)) = 1 := by decide
  rw [e, show (s : Int) * 2 ^ 1 = ((2 * s : Nat) : Int) by omega, wu16']
/-! ### tuples, looks -/
def mkR (kind lba : Nat) : Nat := if kind = 1 ∨ kind = 2 then lba % 4294967296 else 0
theorem mkR_lt (kind lba : Nat) : mkR kind lba < 4294967296 := by unfold mkR; split <;> omega
/-- a block of data, protected -/
def mkB (kind lba : Nat) (d : L8) (h : d.length = 16) : Bk := ⟨d, c16 d, 0, mkR kind lba, h, c16_lt d, by decide, mkR_lt kind lba⟩
def escB (kind : Nat) (b : Bk) : Bool := decide (b.a = 65535) && (decide (kind ≠ 3) || decide (b.r = 4294967295))
def chkB (kind prot lba : Nat) (b : Bk) : Nat :=
  if kind = 0 ∨ 3 < kind ∨ prot = 3 ∨ 4 < prot ∨ escB kind b = true then 0
  else if prot ≠ 2 ∧ b.g ≠ c16 b.d then 0x1001
  else if prot ≠ 4 ∧ kind ≠ 3 ∧ b.r ≠ lba % 4294967296 then 0x1003 else 0
def knownB (kind prot : Nat) : Bool := decide (kind ≤ 3) && (decide (prot = 0) || (decide (0 < kind) && decide (prot ≤ 4)))
/-! ### over the wire -/
def tupB (b : Bk) : L8 := be2 b.g ++ be2 b.a ++ be4 b.r
def wireB (wt : Bool) (b : Bk) : L8 := b.d ++ if wt then tupB b else []
def packB (wt : Bool) (l : List Bk) : L8 := l.flatMap (wireB wt)
def szB (wt : Bool) : Nat := if wt then 24 else 16
theorem wireB_len (wt : Bool) (b : Bk) : (wireB wt b).length = szB wt := by
  cases wt
  · simp [wireB, szB, b.hd]
  · simp [wireB, szB, tupB, be2, be4, b.hd]
theorem packB_len (wt : Bool) (l : List Bk) : (packB wt l).length = l.length * szB wt := by
  unfold packB
  induction l with
  | nil => simp
  | cons a r ih => rw [List.flatMap_cons, List.length_append, ih, wireB_len, List.length_cons, Nat.succ_mul, Nat.add_comm]
def pad16 (l : L8) : L8 := (l ++ List.replicate 16 0).take 16
theorem pad16_len (l : L8) : (pad16 l).length = 16 := by simp [pad16]
theorem pad16_eq {l : L8} (h : l.length = 16) : pad16 l = l := by
  unfold pad16; rw [List.take_append_of_le_length (by omega), List.take_of_length_le (by omega)]
theorem num_take (l : L8) (k : Nat) : num (l.take k) < 256 ^ k :=
  Nat.lt_of_lt_of_le (num_lt _) (Nat.pow_le_pow_right (by decide) (by rw [List.length_take]; omega))
/-- the block that some bytes are -/
def unB (wt : Bool) (l : L8) : Bk :=
  if wt then ⟨pad16 l, num ((l.drop 16).take 2), num ((l.drop 18).take 2), num ((l.drop 20).take 4), pad16_len l, num_take _ 2, num_take _ 2, num_take _ 4⟩
  else ⟨pad16 l, 0, 0, 0, pad16_len l, by decide, by decide, by decide⟩
def unpB (wt : Bool) (l : L8) : List Bk := (List.range (l.length / szB wt)).map fun i => unB wt ((l.drop (i * szB wt)).take (szB wt))
theorem unpB_len (wt : Bool) (l : L8) : (unpB wt l).length = l.length / szB wt := by simp [unpB]
theorem unpB_at {wt : Bool} {l : L8} {i : Nat} (h : i < (unpB wt l).length) : (unpB wt l)[i] = unB wt ((l.drop (i * szB wt)).take (szB wt)) := by simp [unpB]
theorem num_two {a b : UInt8} : num [a, b] = a.toNat * 256 + b.toNat := by simp [num]
theorem unB_wire (b : Bk) : unB true (wireB true b) = b := by
  have hd := b.hd
  have e : wireB true b = b.d ++ (be2 b.g ++ (be2 b.a ++ be4 b.r)) := by simp [wireB, tupB]
  have d16 : (wireB true b).drop 16 = be2 b.g ++ (be2 b.a ++ be4 b.r) := by rw [e, ← hd, List.drop_left]
  have d18 : (wireB true b).drop 18 = be2 b.a ++ be4 b.r := by
    have : (wireB true b).drop 18 = ((wireB true b).drop 16).drop 2 := by rw [List.drop_drop]
    rw [this, d16]; rfl
  have d20 : (wireB true b).drop 20 = be4 b.r := by
    have : (wireB true b).drop 20 = ((wireB true b).drop 18).drop 2 := by rw [List.drop_drop]
    rw [this, d18]; rfl
  unfold unB
  rw [if_pos rfl]
  apply bk_ext
  · show pad16 (wireB true b) = b.d
    unfold pad16
    rw [e, List.append_assoc, List.take_append_of_le_length (by omega), List.take_of_length_le (by omega)]
  · show num (((wireB true b).drop 16).take 2) = b.g
    rw [d16]; exact num_be2 b.hg
  · show num (((wireB true b).drop 18).take 2) = b.a
    rw [d18]; exact num_be2 b.ha
  · show num (((wireB true b).drop 20).take 4) = b.r
    rw [d20]; exact num_be4 b.hr
theorem unB_wire0 (b : Bk) : (unB false (wireB false b)).d = b.d := by
  unfold unB wireB
  show pad16 (b.d ++ []) = b.d
  rw [List.append_nil, pad16_eq b.hd]
end Go.Proofs.Ytaneeadpjelomaa

/- Layers 2 and 13: the walks of the guard, of tuples and of blocks over the wire. -/
namespace Go.Proofs.Ytaneeadpjelomaa
open Go CF

theorem c16_br {s : Nat} (hs : s < 65536) {X Y : Prop} (h1 : s / 32768 = 1 → X) (h0 : ¬ s / 32768 = 1 → Y) : Br ((bShr .u16 (s : Int) 15) == 1) X Y := by
  rw [shr .u16 s 15 (by decide)]
  exact br_eq (fun q => h1 (by have : (2 : Nat) ^ 15 = 32768 := rfl; omega)) (fun q => h0 (by have : (2 : Nat) ^ 15 = 32768 := rfl; omega))
theorem c16_spec {p : Sl} {l : L8} {w : World} {R : Int → World → Prop} (hp : Rd w 1 p (bv l)) (h : R ((c16 l : Nat) : Int) w) : Ccrc_C16 p w R := by
  refine Fcrc_C16.calls _ _ _ ?_
  refine Fcrc_Add16.calls _ _ _ _ ?_
  have hln : l.length = p.n := by have := hp.len; rw [bv_length] at this; omega
  have hnb := hp.nb
  refine ⟨fun v x w' => w' = w ∧ ∃ j : Nat, x = j ∧ j ≤ p.n ∧ v = ((c16 (l.take j) : Nat) : Int), fun _ x _ => p.n - x.toNat, ⟨rfl, 0, rfl, Nat.zero_le _, rfl⟩, ?_⟩
  rintro v x w0 ⟨rfl, j, rfl, hj, rfl⟩
  have hcs := c16_lt (l.take j)
  refine br_nat (fun hlt => ?_) (fun hge => ?_)
  · obtain ⟨a, ha, hc⟩ := hp.byte (i := j) hlt
    have hjs : j < l.length := by omega
    have hb8 := l[j].toNat_lt
    refine ⟨⟨by omega, by omega, by rw [ha]; rfl⟩, (l[j].toNat : Int), by rw [ha]; exact hc, ?_⟩
    rw [wu16 (n := (l[j].toNat : Int)) (by omega) (by omega), shl16_8 hb8, xor16 hcs (by omega)]
    generalize hT : c16 (l.take j) ^^^ l[j].toNat * 256 = T
    have hTl : T < 65536 := by rw [← hT]; exact xor_lt16 hcs (by omega)
    refine ⟨fun v x w' => w' = w0 ∧ ∃ k : Nat, x = k ∧ k ≤ 8 ∧ v = ((gGs k T : Nat) : Int), fun _ x _ => 8 - x.toNat, ⟨rfl, 0, rfl, by decide, rfl⟩, ?_⟩
    rintro v x w1 ⟨rfl, k, rfl, hk, rfl⟩
    have hgl := gGs_lt hTl k
    refine br_dec (fun hlt8 => ?_) (fun hge8 => ?_)
    · refine c16_br hgl (fun q => ?_) (fun q => ?_)
      · rw [shl16_1, show bXor .u16 ((2 * gGs k T % 65536 : Nat) : Int) 35767 = ((2 * gGs k T % 65536 ^^^ 35767 : Nat) : Int) from xor16 (by omega) (by decide), w64 (by omega) (by omega)]
        refine ⟨⟨rfl, k + 1, by omega, by omega, ?_⟩, by dsimp only; omega⟩
        simp only [gGs]; unfold gG; rw [if_pos q]
      · rw [shl16_1, w64 (by omega) (by omega)]
        refine ⟨⟨rfl, k + 1, by omega, by omega, ?_⟩, by dsimp only; omega⟩
        simp only [gGs]; unfold gG; rw [if_neg q]
    · have : k = 8 := by omega
      subst this
      rw [w64 (by omega) (by omega)]
      refine ⟨⟨rfl, j + 1, by omega, by omega, ?_⟩, by dsimp only; omega⟩
      rw [List.take_succ_eq_append_getElem hjs, c16_snoc]
      unfold gB
      rw [hT]
  · have : j = p.n := by omega
    subst this
    rw [List.take_of_length_le (by omega)]
    exact h
/-! ### blocks in memory -/
def tc (g a r : Nat) : List Value := [.int .u16 (g : Int), .int .u16 (a : Int), .int .u32 (r : Int)]
theorem dRd {w : World} {pb : Nat} {b : Bk} (h : Blk w pb (bc b).toArray t_api_Block) : Rd w 1 ⟨some ⟨pb, 0, none⟩, 16, 16⟩ (bv b.d) :=
  ⟨by rw [bv_length, b.hd]; rfl, Nat.le_refl _, by show 16 ≤ _; decide, fun _ => ⟨_, rfl, fun j v hj => blk_cells h j v (by rw [bc, List.getElem?_append_left (List.getElem?_eq_some_iff.1 hj).1]; exact hj)⟩⟩
theorem bc_tail (b : Bk) : (bc b).drop 16 = tc b.g b.a b.r := by
  unfold bc
  rw [List.drop_append, List.drop_of_length_le (by rw [bv_length, b.hd]; omega), bv_length, b.hd]; rfl
theorem bc_head (b : Bk) : (bc b).take 16 = bv b.d := by
  unfold bc
  rw [List.take_append_of_le_length (by rw [bv_length, b.hd]; omega), List.take_of_length_le (by rw [bv_length, b.hd]; omega)]
theorem cells_tail {w : World} {a : Addr} {b : Bk} (h : Cells w a (bc b)) : Cells w (a.add 16) (tc b.g b.a b.r) := fun j v hj => by
  rw [addr_add]
  refine h (16 + j) v ?_
  rw [← bc_tail, List.getElem?_drop] at hj
  exact hj
theorem cells_head {w : World} {a : Addr} {b : Bk} (h : Cells w a (bc b)) : Cells w (a.add 0) (bv b.d) := fun j v hj => by
  rw [addr_zero]
  refine h j v ?_
  rw [← bc_head, List.getElem?_take] at hj
  split at hj
  · exact hj
  · cases hj
theorem tLoad {w : World} {a : Addr} {g n r : Nat} (h : Cells w a (tc g n r)) : (loadVar t_api_Tuple a).run Try.prog w = .ok (.agg (tc g n r).toArray) w :=
  loadVar_rule g_api_Tuple i_api_Tuple rfl h
theorem dLoad {w : World} {a : Addr} {d : L8} (hd : d.length = 16) (h : Cells w a (bv d)) : (loadVar t_16_uint8 a).run Try.prog w = .ok (.agg (bv d).toArray) w :=
  loadVar_rule g_16_uint8 i_16_uint8 (by rw [bv_length, hd]) h
theorem bLoad {w : World} {a : Addr} {b : Bk} (h : Cells w a (bc b)) : (loadVar t_api_Block a).run Try.prog w = .ok (.agg (bc b).toArray) w :=
  loadVar_rule g_api_Block i_api_Block (by rw [bc_len]) h
theorem make_spec {kind lba app : Nat} {d : L8} {w : World} {R : Array Value → World → Prop} (hd : d.length = 16) (h : ∀ w', Grow w w' → R (tc (c16 d) app (mkR kind lba)).toArray w') : Cpi_Make (kind : Int) (lba : Int) (bv d).toArray (app : Int) w R := by
  refine Fpi_Make.calls _ _ _ _ _ _ ?_
  refine new_rule fun db w0 hdb hb0 hg0 hsz0 => ?_
  have hb0 : Blk w0 db (bv d).toArray t_16_uint8 := hb0
  refine new_rule fun ab w1 hab hb1 hg1 hsz1 => ⟨by decide, ?_⟩
  have hb0' := hg1.heap hb0 (fun q => q)
  have hrd : Rd w1 1 ⟨some ⟨db, 0, none⟩, 16, 16⟩ (bv d) := ⟨by rw [bv_length, hd]; rfl, Nat.le_refl _, by show 16 ≤ _; decide, fun _ => ⟨_, rfl, fun j v hj => blk_cells hb0' j v hj⟩⟩
  refine c16_spec (p := ⟨some ⟨db, 0, none⟩, 16, 16⟩) hrd ?_
  refine new_rule fun tb w2 htb hb2 hg2 hsz2 => ?_
  refine storeVar_rule (cells := (tc (c16 d) app 0).toArray) hb2 i_api_Tuple rfl rfl (by simp [tc, Value.oneCell']) fun w3 hb3 hk3 hsz3 => ?_
  have hb1' : Blk w2 ab _ t_api_Tuple := hg2.heap hb1 (fun q => q)
  have hb13 : Blk w3 ab _ t_api_Tuple := hk3.heap hb1' (by omega)
  have hg03 : Grow w w3 := ((hg0.trans hg1).trans hg2).keep hk3 fun i hi q => by omega
  refine letX0 (fun u => Grow w u ∧ Blk u tb (tc (c16 d) app (mkR kind lba)).toArray t_api_Tuple ∧ Blk u ab #[.int .u16 0, .int .u16 0, .int .u32 0] t_api_Tuple) ?_ (fun J => ?_)
  · rintro u ⟨hgu, hbt, hba⟩
    refine ⟨_, tLoad (blk_cells hbt), ?_⟩
    refine storeVar_rule (cells := (tc (c16 d) app (mkR kind lba)).toArray) hba i_api_Tuple rfl rfl (by simp [tc, Value.oneCell']) fun u2 hb2' hk2' _ => ?_
    exact ⟨_, tLoad (blk_cells hb2'), h u2 (hgu.keep hk2' fun i hi q => by have := hg0.size; omega)⟩
  · by_cases q : kind = 1 ∨ kind = 2
    · refine br_t (by rw [Bool.or_eq_true, beq_iff_eq, beq_iff_eq]; omega) ?_
      rw [add0]
      refine put_rule hb3 (by show 2 < 3; decide) rfl fun w4 hb4 hk4 _ => J w4 ⟨hg03.keep hk4 fun i hi q => by have := hg0.size; omega, ?_, hk4.heap hb13 (by omega)⟩
      have e : IntKind.wrap .u32 (lba : Int) = ((mkR kind lba : Nat) : Int) := by
        unfold mkR; rw [if_pos q]
        have e : IntKind.wrap .u32 (lba : Int) = (lba : Int) % 4294967296 := by simp [IntKind.wrap, IntKind.signed, IntKind.bits]
        rw [e]; omega
      rw [e] at hb4
      exact hb4
    · refine br_f (by rw [Bool.or_eq_false_iff, beq_eq_false_iff_ne, beq_eq_false_iff_ne]; omega) (J w3 ⟨hg03, ?_, hb13⟩)
      unfold mkR; rw [if_neg q]; exact hb3
theorem escapes_spec {kind : Nat} {b : Bk} {w : World} {R : Bool → World → Prop} (h : ∀ w', Grow w w' → R (escB kind b) w') : Cpi_escapes (kind : Int) (tc b.g b.a b.r).toArray w R := by
  refine Fpi_escapes.calls _ _ _ _ ?_
  refine new_rule fun tb w0 htb hb0 hg0 hsz0 => ?_
  have hb0 : Blk w0 tb (tc b.g b.a b.r).toArray t_api_Tuple := hb0
  refine ⟨(b.a : Int), by rw [add0, hb0.cell]; rfl, ?_⟩
  have := h w0 hg0
  unfold escB at this
  refine br_ne (fun q => ?_) (fun q => ⟨(b.r : Int), fun _ => by rw [add0, hb0.cell]; rfl, ?_⟩)
  · rw [decide_eq_false (by omega)] at this; exact this
  · have e : ((kind : Int) != 3 || (b.r : Int) == 4294967295) = (decide (b.a = 65535) && (decide (kind ≠ 3) || decide (b.r = 4294967295))) := by
      rw [decide_eq_true (by omega : b.a = 65535), Bool.true_and, Bool.eq_iff_iff, Bool.or_eq_true, Bool.or_eq_true, bne_iff_ne, beq_iff_eq, decide_eq_true_eq, decide_eq_true_eq]
      omega
    rw [e]; exact this
theorem check_b_spec {kind prot lba : Nat} {b : Bk} {w : World} {R : Int → World → Prop} (h : ∀ w', Grow w w' → R ((chkB kind prot lba b : Nat) : Int) w') : Cpi_Check (kind : Int) (prot : Int) (lba : Int) (bc b).toArray w R := by
  refine Fpi_Check.calls _ _ _ _ _ _ ?_
  refine new_rule fun bb w0 hbb hb0 hg0 hsz0 => ?_
  have hb0 : Blk w0 bb (bc b).toArray t_api_Block := hb0
  have ht0 : Cells w0 (⟨bb, 0, none⟩ : Addr) (bc b) := blk_cells hb0
  refine ⟨_, fun _ => tLoad (cells_tail ht0), ?_⟩
  generalize hG : (((((kind : Int) == 0) || decide ((kind : Int) > 3)) || ((prot : Int) == 3)) || decide ((prot : Int) > 4)) = G
  have hGiff : G = true ↔ (kind = 0 ∨ 3 < kind ∨ prot = 3 ∨ 4 < prot) := by
    rw [← hG, Bool.or_eq_true, Bool.or_eq_true, Bool.or_eq_true, beq_iff_eq, beq_iff_eq, decide_eq_true_eq, decide_eq_true_eq]
    omega
  refine letJ1 (fun x u => Grow w0 u ∧ (G = false → x = escB kind b)) ?_ (fun J => ⟨fun q => escapes_spec fun u hu => J _ _ ⟨hu, fun _ => rfl⟩, fun q => J _ _ ⟨Keep.refl _ _, fun e => by rw [e] at q; cases q⟩⟩)
  rintro x u ⟨hgu, hx⟩
  by_cases hz : G = true ∨ escB kind b = true
  · have hc : chkB kind prot lba b = 0 := by
      unfold chkB
      refine if_pos ?_
      rcases hz with q | q
      · have := hGiff.1 q; omega
      · simp [q]
    have := h u (hg0.trans hgu)
    rw [hc] at this
    refine br_t ?_ this
    rw [Bool.or_eq_true]
    cases hg : G with
    | true => exact .inl rfl
    | false => right; rw [hx hg]; exact hz.resolve_left (by rw [hg]; decide)
  have hGf : G = false := by cases hg : G with | false => rfl | true => exact absurd (.inl hg) hz
  have hE : escB kind b = false := by cases hg : escB kind b with | false => rfl | true => exact absurd (.inr hg) hz
  have hn : ¬ (kind = 0 ∨ 3 < kind ∨ prot = 3 ∨ 4 < prot ∨ escB kind b = true) := by
    have hx : ¬ (kind = 0 ∨ 3 < kind ∨ prot = 3 ∨ 4 < prot) := fun q => hz (.inl (hGiff.2 q))
    rintro (q | q | q | q | q)
    · exact hx (.inl q)
    · exact hx (.inr (.inl q))
    · exact hx (.inr (.inr (.inl q)))
    · exact hx (.inr (.inr (.inr q)))
    · rw [hE] at q; cases q
  refine br_f (by rw [hGf, hx hGf, hE]; rfl) ?_
  rintro w2 rfl
  have hg2 : Grow w0 u.drew := hgu.trans (keep_drew u)
  have hbu : ∀ {v : World}, Grow w0 v → Blk v bb (bc b).toArray t_api_Block := fun g => g.heap hb0 (fun q => q)
  obtain ⟨e16, e17, e18⟩ := bc_at b
  refine ⟨fun v => Grow w0 v, hg2, (b.g : Int), fun _ v hv => by rw [add0, add0, (hbu hv).cell]; exact e16, fun _ => by decide, ?_⟩
  have hd : ∀ {v : World}, Grow w0 v → Rd v 1 ⟨some ⟨bb, 0, none⟩, 16, 16⟩ (bv b.d) := fun g => dRd (hbu g)
  refine letJ1 (fun x v => Grow w0 v ∧ ((prot : Int) ≠ 2 → x = ((c16 b.d : Nat) : Int))) ?_ (fun J => ⟨fun q => c16_spec (p := ⟨some ⟨bb, 0, none⟩, 16, 16⟩) (hd hg2) (J _ _ ⟨hg2, fun _ => rfl⟩), fun q => J _ _ ⟨hg2, fun e => absurd (by simpa using q) e⟩⟩)
  rintro x v ⟨hgv, hxv⟩
  refine ⟨hgv, ?_⟩
  have hfin := h v (hg0.trans hgv)
  by_cases q1 : prot ≠ 2 ∧ b.g ≠ c16 b.d
  · have hc : chkB kind prot lba b = 4097 := by unfold chkB; rw [if_neg hn, if_pos q1]
    rw [hc] at hfin
    refine br_t ?_ hfin
    rw [hxv (by omega), Bool.and_eq_true, bne_iff_ne, bne_iff_ne]
    omega
  refine br_f ?_ ⟨(b.r : Int), fun _ => by rw [add0, add0, (hbu hgv).cell]; exact e18, ?_⟩
  · rw [Bool.and_eq_false_iff, bne_eq_false_iff_eq, bne_eq_false_iff_eq]
    by_cases e : prot = 2
    · left; omega
    · right; rw [hxv (by omega)]; omega
  have e32 : IntKind.wrap .u32 (lba : Int) = ((lba % 4294967296 : Nat) : Int) := by
    have e : IntKind.wrap .u32 (lba : Int) = (lba : Int) % 4294967296 := by simp [IntKind.wrap, IntKind.signed, IntKind.bits]
    rw [e]; omega
  rw [e32]
  by_cases q2 : prot ≠ 4 ∧ kind ≠ 3 ∧ b.r ≠ lba % 4294967296
  · have hc : chkB kind prot lba b = 4099 := by unfold chkB; rw [if_neg hn, if_neg q1, if_pos q2]
    rw [hc] at hfin
    refine br_t ?_ hfin
    rw [Bool.and_eq_true, Bool.and_eq_true, bne_iff_ne, bne_iff_ne, bne_iff_ne]
    omega
  · have hc : chkB kind prot lba b = 0 := by unfold chkB; rw [if_neg hn, if_neg q1, if_neg q2]
    rw [hc] at hfin
    refine br_f ?_ hfin
    rw [Bool.and_eq_false_iff, Bool.and_eq_false_iff, bne_eq_false_iff_eq, bne_eq_false_iff_eq, bne_eq_false_iff_eq]
    omega
theorem size_spec {wt : Bool} {w : World} {R : Int → World → Prop} (h : R ((szB wt : Nat) : Int) w) : Cpi_Size wt w R := by
  refine Fpi_Size.calls _ _ _ ?_
  cases wt
  · exact br_f rfl h
  · exact br_t rfl h
end Go.Proofs.Ytaneeadpjelomaa
