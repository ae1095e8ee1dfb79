import Derived.Test.YtaneeadpjelomaaWo4
import Derived.Test.YtaneeadpjelomaaOpn
/- Layer 4: numbers in bytes, blocks as records. -/
namespace Go.Proofs.Ytaneeadpjelomaa
open Go CF

def num (l : L8) : Nat := l.foldl (fun v b => v * 256 + b.toNat) 0
theorem num_snoc (l : L8) (b : UInt8) : num (l ++ [b]) = num l * 256 + b.toNat := by simp [num, List.foldl_append]
theorem num_lt (l : L8) : num l < 256 ^ l.length := by
  have key : ∀ (l : L8) (v : Nat), l.foldl (fun v b => v * 256 + b.toNat) v < (v + 1) * 256 ^ l.length := by
    intro l
    induction l with
    | nil => intro v; simp
    | cons b r ih =>
      intro v
      rw [List.foldl_cons, List.length_cons, Nat.pow_succ]
      have h1 := ih (v * 256 + b.toNat)
      have h2 := b.toNat_lt
      have h3 : (v * 256 + b.toNat + 1) * 256 ^ r.length ≤ (v + 1) * 256 * 256 ^ r.length := Nat.mul_le_mul_right _ (by omega)
      have h4 : (v + 1) * 256 * 256 ^ r.length = (v + 1) * (256 ^ r.length * 256) := by rw [Nat.mul_assoc, Nat.mul_comm 256]
      omega
  have := key l 0
  rw [Nat.zero_add, Nat.one_mul] at this
  exact this
theorem bor_add {a b : Nat} (ha : a < 72057594037927936) (hb : b < 256) : bOr .u64 ((a * 256 : Nat) : Int) (b : Int) = ((a * 256 + b : Nat) : Int) := by
  unfold bOr
  show IntKind.wrap .u64 (((BitVec.ofInt 64 ((a * 256 : Nat) : Int) ||| BitVec.ofInt 64 (b : Int)).toNat : Nat) : Int) = _
  rw [BitVec.ofInt_natCast, BitVec.ofInt_natCast, BitVec.toNat_or, BitVec.toNat_ofNat, BitVec.toNat_ofNat, Nat.mod_eq_of_lt (by omega), Nat.mod_eq_of_lt (by omega)]
  have e : a * 256 ||| b = a * 256 + b := by
    have := Nat.shiftLeft_add_eq_or_of_lt (i := 8) (b := b) (by omega) a
    rw [Nat.shiftLeft_eq] at this
    exact this.symm
  rw [e]
  exact wu64 (by omega) (by omega)
theorem shl8 {a : Nat} (ha : a < 72057594037927936) : bShl .u64 (a : Int) 8 = ((a * 256 : Nat) : Int) := by
  unfold bShl
  have e : (min 8 (IntKind.bits .u64)) = 8 := by decide
  rw [e, wu64 (by omega) (by omega)]
  omega
theorem get_spec {p : Sl} {l : L8} {at_ n : Nat} {w : World} {R : Int → Int → World → Prop} (hp : Rd w 1 p (bv l)) (hb : p.n ≤ 140737489403904) (hn : 1 ≤ n) (hn8 : n ≤ 8) (hat : at_ + n ≤ l.length)
    (h : R ((num ((l.drop at_).take n) : Nat) : Int) 0 w) : Cbe_Get p (at_ : Int) (n : Int) w R := by
  refine Fbe_Get.calls _ _ _ _ _ ?_
  have hln : l.length = p.n := by have := hp.len; rw [bv_length] at this; omega
  have hcap := hp.cap
  refine Fbe_field.calls _ _ _ _ _ ?_
  have e1 : IntKind.wrap .i64 ((p.n : Int) - (n : Int)) = (p.n : Int) - (n : Int) := w64 (by omega) (by omega)
  refine br_f (by rw [Bool.or_eq_false_iff, decide_eq_false_iff_not, decide_eq_false_iff_not]; omega) (br_f (by rw [Bool.or_eq_false_iff, decide_eq_false_iff_not, decide_eq_false_iff_not, e1]; omega) (br_f rfl ?_))
  have e2 : IntKind.wrap .i64 ((at_ : Int) + (n : Int)) = ((at_ + n : Nat) : Int) := by rw [w64 (by omega) (by omega)]; omega
  rw [e2]
  simp only [Int.toNat_natCast]
  refine ⟨⟨by omega, by omega, by omega, hcap⟩, ?_⟩
  have hx := hp.cutB (l := at_) (k := at_ + n) (by omega) (by omega)
  rw [show at_ + n - at_ = n by omega] at hx
  generalize hseg : (l.drop at_).take n = seg at *
  have hsl : seg.length = n := by rw [← hseg, List.length_take, List.length_drop]; omega
  refine ⟨fun v x w' => w' = w ∧ ∃ j : Nat, x = j ∧ j ≤ n ∧ v = ((num (seg.take j) : Nat) : Int), fun _ x _ => n - x.toNat, ⟨rfl, 0, rfl, Nat.zero_le _, rfl⟩, ?_⟩
  rintro v x w0 ⟨rfl, j, rfl, hj, rfl⟩
  refine br_nat (fun hlt => ?_) (fun hge => ?_)
  · obtain ⟨a, ha, hc⟩ := hx.byte (i := j) (by show j < n; omega)
    have ha : cutA p.A p.c at_ 1 = some a := ha
    have hjs : j < seg.length := by omega
    refine ⟨⟨by omega, by omega, by rw [ha]; rfl⟩, ((seg[j]).toNat : Int), by rw [ha]; exact hc, ?_⟩
    have hnl := num_lt (seg.take j)
    have hb8 := seg[j].toNat_lt
    have hsm : num (seg.take j) < 72057594037927936 := by
      refine Nat.lt_of_lt_of_le hnl ?_
      rw [List.length_take, Nat.min_eq_left (by omega)]
      calc 256 ^ j ≤ 256 ^ 7 := Nat.pow_le_pow_right (by decide) (by omega)
        _ = 72057594037927936 := by decide
    rw [shl8 hsm, wu64 (by omega) (by omega), bor_add hsm (by omega), w64 (by omega) (by omega)]
    refine ⟨⟨rfl, j + 1, by omega, by omega, ?_⟩, by dsimp only; omega⟩
    rw [List.take_succ_eq_append_getElem hjs, num_snoc]
  · have : j = n := by omega
    subst this
    rw [List.take_of_length_le (by omega)]
    exact h
/-- a block -/
structure Bk where
  d : L8
  g : Nat
  a : Nat
  r : Nat
  hd : d.length = 16
  hg : g < 65536
  ha : a < 65536
  hr : r < 4294967296
def bc (b : Bk) : List Value := bv b.d ++ [.int .u16 (b.g : Int), .int .u16 (b.a : Int), .int .u32 (b.r : Int)]
theorem bc_len (b : Bk) : (bc b).length = 19 := by simp [bc, bv_length, b.hd]
theorem bv_inj {a b : L8} (h : bv a = bv b) : a = b := by
  induction a generalizing b with
  | nil => cases b with
    | nil => rfl
    | cons _ _ => simp [bv] at h
  | cons x r ih =>
    cases b with
    | nil => simp [bv] at h
    | cons y s =>
      simp only [bv, List.map_cons, List.cons.injEq, Value.int.injEq] at h
      have e : x = y := UInt8.toNat_inj.1 (by omega)
      rw [e, ih h.2]
theorem bc_inj {a b : Bk} (h : bc a = bc b) : a = b := by
  unfold bc at h
  obtain ⟨h1, h2⟩ := List.append_inj h (by rw [bv_length, bv_length, a.hd, b.hd])
  simp only [List.cons.injEq, Value.int.injEq, and_true, true_and] at h2
  have e1 := bv_inj h1
  have e2 : a.g = b.g := by omega
  have e3 : a.a = b.a := by omega
  have e4 : a.r = b.r := by omega
  cases a; cases b
  simp only at e1 e2 e3 e4
  subst e1; subst e2; subst e3; subst e4
  rfl
def kBk : List Kd := [.i .u8, .i .u8, .i .u8, .i .u8, .i .u8, .i .u8, .i .u8, .i .u8, .i .u8, .i .u8, .i .u8, .i .u8, .i .u8, .i .u8, .i .u8, .i .u8, .i .u16, .i .u16, .i .u32]
theorem flat_api_Block : flatK Try.prog 8 t_api_Block = some kBk := by kernel_rfl
theorem kd_api_Block : kd Try.prog t_api_Block = .ag := by kernel_rfl
theorem gt_api_Block : Try.prog.eqGuardType Try.prog.depth t_api_Block = false := by kernel_rfl
theorem fit_bytes : ∀ (l : L8) (n : Nat), l.length = n → FitL (List.replicate n (.i .u8)) (bv l)
  | [], 0, _ => trivial
  | _ :: l, n + 1, h => ⟨rfl, fit_bytes l n (by simpa using h)⟩
theorem fit_bc (b : Bk) : FitL kBk (bc b) := by
  have := (fit_bytes b.d 16 b.hd).join (ls := [.i .u16, .i .u16, .i .u32]) (b := [.int .u16 (b.g : Int), .int .u16 (b.a : Int), .int .u32 (b.r : Int)]) ⟨rfl, rfl, rfl, trivial⟩
  exact this
def emptyB : Bk := ⟨[0, 0, 0, 0, 0, 0, 0, 0, 0, 0, 0, 0, 0, 0, 0, 0], 65535, 65535, 4294967295, rfl, by decide, by decide, by decide⟩
def be2 (n : Nat) : L8 := [UInt8.ofNat (n / 2 ^ 8), UInt8.ofNat n]
def be4 (n : Nat) : L8 := [UInt8.ofNat (n / 2 ^ 24), UInt8.ofNat (n / 2 ^ 16), UInt8.ofNat (n / 2 ^ 8), UInt8.ofNat n]
def recB (b : Bk) : L8 := [1] ++ b.d ++ (be2 b.g ++ be2 b.a) ++ be4 b.r
theorem recB_len (b : Bk) : (recB b).length = 25 := by simp [recB, be2, be4, b.hd]
theorem wrap_u8 (n : Nat) : IntKind.wrap .u8 (n : Int) = ((UInt8.ofNat n).toNat : Int) := by
  rw [UInt8.toNat_ofNat']
  have e : IntKind.wrap .u8 (n : Int) = (n : Int) % 256 := by simp [IntKind.wrap, IntKind.signed, IntKind.bits]
  rw [e]
  omega
theorem shr (k : IntKind) (n s : Nat) (hs : s ≤ k.bits) : bShr k (n : Int) s = ((n / 2 ^ s : Nat) : Int) := by
  unfold bShr
  rw [Nat.min_eq_left hs, show ((2 : Int) ^ s) = ((2 ^ s : Nat) : Int) by norm_cast]
  exact (Int.ofNat_fdiv n (2 ^ s)).symm
end Go.Proofs.Ytaneeadpjelomaa

/- Layer 4: records, blocks. -/
namespace Go.Proofs.Ytaneeadpjelomaa
open Go CF

theorem storeAt_rule {P : Program} {w : World} {b o : Nat} {t ty : TypeId} {zv : Option Value} {z bytes : Nat} {old cells : Array Value} (hb : Blk w b old t) (hinfo : (P.info? ty).map (fun i => (i.zero, i.size, i.bytes)) = some (zv, z, bytes)) (hz : z = cells.size) (ho : o + cells.size ≤ old.size)
    (h1 : ∀ v ∈ cells.toList, v.oneCell' = true) {K : World → Prop} (h : ∀ w1, Blk w1 b (old.toList.take o ++ cells.toList ++ old.toList.drop (o + cells.size)).toArray t → Keep (fun k => k = b) w w1 → w1.heap.size = w.heap.size → K w1) : RunU P (storeVar ty ⟨b, o, none⟩ (.agg cells)) w K := by
  obtain ⟨i, hi, hzz⟩ := Option.map_eq_some_iff.1 hinfo
  simp only [Prod.mk.injEq] at hzz
  have hst := run_storeCells_at P b o t cells.toList 0 old w hb (by simpa using ho) h1
  have hs : cells.size = i.size := by omega
  refine ⟨_, ?_, h (w.setRow b (old.toList.take o ++ cells.toList ++ old.toList.drop (o + cells.size)).toArray) (setRow_heap w b old _ t (0, 0) hb) ⟨rfl, rfl, rfl, by simp, fun k _ hn => setRow_other w b k _ hn⟩ (by simp)⟩
  simp only [Nat.add_zero, Array.length_toList] at hst
  simp [storeVar, sizeOf, typeInfo, hi, Value.cells, hs]
  rw [hs, List.append_assoc] at hst
  exact hst
theorem bc_at (b : Bk) : (bc b).toArray[16]? = some (.int .u16 (b.g : Int)) ∧ (bc b).toArray[17]? = some (.int .u16 (b.a : Int)) ∧ (bc b).toArray[18]? = some (.int .u32 (b.r : Int)) := by
  have hl : (bv b.d).length = 16 := by rw [bv_length, b.hd]
  refine ⟨?_, ?_, ?_⟩ <;> · simp only [bc, List.getElem?_toArray]; rw [List.getElem?_append_right (by omega), hl]; rfl
theorem bc_ones (b : Bk) : ∀ v ∈ bc b, v.oneCell' = true := by
  intro v hv
  rcases List.mem_append.1 hv with q | q
  · exact bv_one' _ v q
  · simp only [List.mem_cons, List.not_mem_nil, or_false] at q
    rcases q with rfl | rfl | rfl <;> rfl
theorem bc_all (b : Bk) : ((bc b).toArray.all (·.oneCell')) = true := by
  rw [Array.all_eq_true_iff_forall_mem]; intro v hv; exact bc_ones b v (by simpa using hv)
theorem record_spec {b : Bk} {w : World} {R : Sl → World → Prop} (h : ∀ s w', Grow w w' → Own w' w.heap.size t_uint8 1 s (bv (recB b)) → R s w') : Cstore_record (bc b).toArray w R := by
  refine Fstore_record.calls _ _ _ ?_
  refine new_rule fun pb w0 hpb hb0 hg0 hsz0 => ?_
  have hb0 : Blk w0 pb (bc b).toArray t_api_Block := hb0
  have hl : (bv b.d).length = 16 := by rw [bv_length, b.hd]
  refine lit_rule (cells := #[.int .u8 1]) (e := t_uint8) (z := 1) (base := w0.heap.size) (by kernel_rfl) rfl (by decide) (Nat.le_refl _) fun w1 hlit1 hg1 _ => ⟨by decide, ?_⟩
  have hb1 := hg1.heap hb0 (fun q => q)
  have hd1 : Rd w1 1 ⟨some ⟨pb, 0, none⟩, 16, 16⟩ (bv b.d) := ⟨hl, Nat.le_refl _, by show 16 ≤ _; decide, fun _ => ⟨_, rfl, fun j v hj => blk_cells hb1 j v (by rw [bc, List.getElem?_append_left (by have := (List.getElem?_eq_some_iff.1 hj).1; exact this)]; exact hj)⟩⟩
  refine append_rule (x := ⟨some ⟨pb, 0, none⟩, 16, 16⟩) u_sl_uint8 i_uint8 rfl (by decide) (by decide) hlit1 hd1 (bv_one' _) (by show (1 + 16) * 1 ≤ _; decide) hg1.size fun s2 w2 hn2 hown2 hk2 _ => ?_
  have up : ∀ {u u' : World} {s : Sl} {vs : List Value}, Grow w0 u → Own u w0.heap.size t_uint8 1 s vs → Keep (fun k => some k = s.blk) u u' → Grow w0 u' := fun hg ho hk => hg.keep hk fun i hi q => by have := (ho.ge i q.symm).1; omega
  have hg2 := up hg1 hlit1 hk2
  have hb2 := hg2.heap hb0 (fun q => q)
  obtain ⟨e16, e17, e18⟩ := bc_at b
  have cg : ∀ {u : World}, Blk u pb (bc b).toArray t_api_Block → u.cell? (((⟨pb, 0, none⟩ : Addr).add 16).add 0) = some (.int .u16 (b.g : Int)) := fun q => by rw [add0, add0, q.cell]; exact e16
  have ca : ∀ {u : World}, Blk u pb (bc b).toArray t_api_Block → u.cell? (((⟨pb, 0, none⟩ : Addr).add 16).add 1) = some (.int .u16 (b.a : Int)) := fun q => by rw [add0, add0, q.cell]; exact e17
  have cr : ∀ {u : World}, Blk u pb (bc b).toArray t_api_Block → u.cell? (((⟨pb, 0, none⟩ : Addr).add 16).add 2) = some (.int .u32 (b.r : Int)) := fun q => by rw [add0, add0, q.cell]; exact e18
  refine ⟨_, cg hb2, _, cg hb2, _, ca hb2, _, ca hb2, ?_⟩
  rw [shr .u16 b.g 8 (by decide), shr .u16 b.a 8 (by decide), wrap_u8, wrap_u8, wrap_u8, wrap_u8]
  refine lit_rule (cells := (bv (be2 b.g ++ be2 b.a)).toArray) (e := t_uint8) (z := 1) (base := w0.heap.size) (by kernel_rfl) rfl (by decide) hg2.size fun w3 hlit3 hg3 _ => ?_
  have n2 : s2.n = 17 := hn2
  refine append_rule u_sl_uint8 i_uint8 rfl (by decide) (by decide) (hown2.grow hg3) (hlit3.rd (by show 4 ≤ _; decide)) (bv_one' _) (by rw [n2]; show (17 + 4) * 1 ≤ _; decide) (hg2.trans hg3).size fun s4 w4 hn4 hown4 hk4 _ => ?_
  have hg4 := up (hg2.trans hg3) (hown2.grow hg3) hk4
  have hb4 := hg4.heap hb0 (fun q => q)
  refine ⟨_, cr hb4, _, cr hb4, _, cr hb4, _, cr hb4, ?_⟩
  rw [shr .u32 b.r 24 (by decide), shr .u32 b.r 16 (by decide), shr .u32 b.r 8 (by decide), wrap_u8, wrap_u8, wrap_u8, wrap_u8]
  refine lit_rule (cells := (bv (be4 b.r)).toArray) (e := t_uint8) (z := 1) (base := w0.heap.size) (by kernel_rfl) rfl (by decide) hg4.size fun w5 hlit5 hg5 _ => ?_
  have n4 : s4.n = 21 := hn4.trans (by rw [n2]; rfl)
  refine append_rule u_sl_uint8 i_uint8 rfl (by decide) (by decide) (hown4.grow hg5) (hlit5.rd (by show 4 ≤ _; decide)) (bv_one' _) (by rw [n4]; show (21 + 4) * 1 ≤ _; decide) (hg4.trans hg5).size fun s6 w6 hn6 hown6 hk6 _ => ?_
  have hg6 := up (hg4.trans hg5) (hown4.grow hg5) hk6
  refine h s6 w6 (hg0.trans hg6) (Own.mono (base := w0.heap.size) ?_ (by omega))
  have e : bv (recB b) = [.int .u8 1] ++ bv b.d ++ bv (be2 b.g ++ be2 b.a) ++ bv (be4 b.r) := by
    unfold recB; rw [bv_append, bv_append, bv_append]; rfl
  rw [e]
  exact hown6
theorem empty_spec {w : World} {R : Array Value → World → Prop} (h : ∀ w', Grow w w' → R (bc emptyB).toArray w') : Cstore_empty w R := by
  refine Fstore_empty.calls _ _ ?_
  refine new_rule fun pb w0 hpb hb0 hg0 hsz0 => ?_
  refine ⟨(bc emptyB).toArray, by kernel_rfl, ?_⟩
  refine storeVar_rule (cells := (bc emptyB).toArray) hb0 i_api_Block rfl rfl (bc_all _) fun w1 hb1 hk1 _ => ?_
  have hg1 : Grow w w1 := hg0.keep hk1 fun i hi q => by omega
  refine ⟨(bc emptyB).toArray, loadVar_rule g_api_Block i_api_Block rfl (blk_cells hb1), h w1 hg1⟩
theorem num2 (l : L8) (h : l.length = 2) : num l < 65536 := by have := num_lt l; rw [h] at this; exact this
theorem num4 (l : L8) (h : l.length = 4) : num l < 4294967296 := by have := num_lt l; rw [h] at this; exact this
def blkOf (l : L8) : Bk :=
  if h : 25 ≤ l.length ∧ l[0]? = some 1 then
    ⟨(l.drop 1).take 16, num ((l.drop 17).take 2), num ((l.drop 19).take 2), num ((l.drop 21).take 4), by simp; omega, num2 _ (by simp; omega), num2 _ (by simp; omega), num4 _ (by simp; omega)⟩
  else emptyB
theorem block_spec {p : Sl} {l : L8} {w : World} {R : Array Value → World → Prop} (hp : Rd w 1 p (bv l)) (hb : p.n ≤ 1000000000) (h : ∀ w', Grow w w' → R (bc (blkOf l)).toArray w') : Cstore_block p w R := by
  refine Fstore_block.calls _ _ _ ?_
  have hln : l.length = p.n := by have := hp.len; rw [bv_length] at this; omega
  have hcap := hp.cap
  refine new_rule fun pa w0 hpa hb0 hg0 hsz0 => ?_
  by_cases h25 : 25 ≤ l.length
  case neg =>
    have hd : decide ((p.n : Int) < 25) = true := decide_eq_true (by omega)
    refine ⟨fun q => (by rw [hd] at q; cases q), 0, fun q => (by rw [hd] at q; cases q), br_t (by rw [hd]; rfl) ?_⟩
    refine empty_spec fun w1 hg1 => ?_
    refine storeVar_rule (cells := (bc emptyB).toArray) (hg1.heap hb0 (fun q => q)) i_api_Block rfl rfl (bc_all _) fun w2 hb2 hk2 _ => ?_
    refine ⟨(bc emptyB).toArray, loadVar_rule g_api_Block i_api_Block rfl (blk_cells hb2), ?_⟩
    have := h w2 ((hg0.trans hg1).keep hk2 fun i hi q => by omega)
    rwa [show blkOf l = emptyB from dif_neg fun q => h25 q.1] at this
  have hd : decide ((p.n : Int) < 25) = false := decide_eq_false (by omega)
  obtain ⟨a, ha, hc⟩ := (hp.grow hg0).byte (i := 0) (by omega)
  have h0l : 0 < l.length := by omega
  refine ⟨fun _ => ⟨by omega, by omega, by rw [ha]; rfl⟩, (l[0].toNat : Int), fun _ => (by rw [ha]; exact hc), ?_⟩
  by_cases h1 : l[0] = 1
  case neg =>
    refine br_t (by rw [hd, Bool.false_or, bne_iff_ne]; exact fun q => h1 (UInt8.toNat_inj.1 (by show l[0].toNat = 1; omega))) ?_
    refine empty_spec fun w1 hg1 => ?_
    refine storeVar_rule (cells := (bc emptyB).toArray) (hg1.heap hb0 (fun q => q)) i_api_Block rfl rfl (bc_all _) fun w2 hb2 hk2 _ => ?_
    refine ⟨(bc emptyB).toArray, loadVar_rule g_api_Block i_api_Block rfl (blk_cells hb2), ?_⟩
    have := h w2 ((hg0.trans hg1).keep hk2 fun i hi q => by omega)
    rwa [show blkOf l = emptyB from dif_neg fun q => h1 (by have := q.2; rw [List.getElem?_eq_getElem h0l] at this; exact Option.some.inj this)] at this
  refine br_f (by rw [hd, h1]; rfl) ?_
  refine new_rule fun pb w3 hpb hb3 hg3 hsz3 => ?_
  rintro w4 rfl
  have hg4 : Grow w3 w3.drew := keep_drew w3
  refine ⟨by decide, ⟨by omega, by omega, by omega, hcap⟩, ?_⟩
  have hgw4 := (hg0.trans hg3).trans hg4
  have hx := (hp.grow hgw4).cutB (l := 1) (k := p.n) (by omega) (Nat.le_refl _)
  simp only [Int.toNat_natCast]
  have hdl : ((l.drop 1).take 16).length = 16 := by simp; omega
  have hne : bv ((l.drop 1).take (p.n - 1)) ≠ [] := fun e => by
    have := congrArg List.length e
    simp [bv_length] at this
    omega
  obtain ⟨a2, ha2, hc2⟩ := hx.at_ hne
  have ha2 : cutA p.A p.c 1 1 = some a2 := ha2
  have hsrc : ∀ j v, (bv ((l.drop 1).take 16))[j]? = some v → w3.drew.cell? (a2.add j) = some v := fun j v hj => hc2 j v (by
    have hj16 : j < 16 := by have := (List.getElem?_eq_some_iff.1 hj).1; rw [bv_length, hdl] at this; exact this
    rw [← hj, ← bv_take, ← bv_take, List.getElem?_take, List.getElem?_take, if_pos (by omega), if_pos hj16])
  have hb4 : Blk w3.drew pb _ t_api_Block := hg4.heap hb3 (fun q => q)
  have hcp := run_copy_row (P := Try.prog) w3.drew t_sl_uint8 t_sl_uint8 t_int t_uint8 pb 0 16 16 a2 (p.n - 1) (p.c - 1) _ t_api_Block (bv ((l.drop 1).take 16)) u_sl_uint8 (by kernel_rfl) hb4 (by rw [bv_length, hdl]; exact (Nat.min_eq_right (by omega)).symm) hsrc (by rw [bv_length, hdl]; decide) (bv_one' _)
  rw [ha2]
  refine ⟨16, _, hcp.trans (by rw [bv_length, hdl]; rfl), ?_⟩
  generalize hw5 : w3.drew.setRow pb _ = w5
  have hb5 : Blk w5 pb (bv ((l.drop 1).take 16) ++ [Value.int .u16 0, Value.int .u16 0, Value.int .u32 0]).toArray t_api_Block := by
    rw [← hw5]
    have := setRow_heap w3.drew pb _ ((#[.int .u8 0, .int .u8 0, .int .u8 0, .int .u8 0, .int .u8 0, .int .u8 0, .int .u8 0, .int .u8 0, .int .u8 0, .int .u8 0, .int .u8 0, .int .u8 0, .int .u8 0, .int .u8 0, .int .u8 0, .int .u8 0, .int .u16 0, .int .u16 0, .int .u32 0] : Array Value).toList.take 0 ++ bv ((l.drop 1).take 16) ++ (#[.int .u8 0, .int .u8 0, .int .u8 0, .int .u8 0, .int .u8 0, .int .u8 0, .int .u8 0, .int .u8 0, .int .u8 0, .int .u8 0, .int .u8 0, .int .u8 0, .int .u8 0, .int .u8 0, .int .u8 0, .int .u8 0, .int .u16 0, .int .u16 0, .int .u32 0] : Array Value).toList.drop (0 + (bv ((l.drop 1).take 16)).length)).toArray t_api_Block (0, 0) hb4
    rw [bv_length, hdl] at this
    exact this
  have hk5 : Keep (fun k => k = pb) w3.drew w5 := by
    rw [← hw5]; exact ⟨rfl, rfl, rfl, by simp, fun k _ hn => setRow_other w3.drew pb k _ hn⟩
  have hg5 : Grow w w5 := hgw4.keep hk5 fun i hi q => by have := hg0.size; omega
  have hp5 := hp.grow hg5
  refine get_spec (at_ := 17) (n := 2) hp5 (Nat.le_trans hb (by decide)) (by decide) (by decide) (by omega) ?_
  refine get_spec (at_ := 19) (n := 2) hp5 (Nat.le_trans hb (by decide)) (by decide) (by decide) (by omega) ?_
  refine get_spec (at_ := 21) (n := 4) hp5 (Nat.le_trans hb (by decide)) (by decide) (by decide) (by omega) ?_
  have g2 := num2 ((l.drop 17).take 2) (by simp; omega)
  have a2' := num2 ((l.drop 19).take 2) (by simp; omega)
  have r4 := num4 ((l.drop 21).take 4) (by simp; omega)
  rw [wu16 (by omega) (by omega), wu16 (by omega) (by omega), wu32 (by omega) (by omega), add0]
  have hbl : blkOf l = ⟨(l.drop 1).take 16, num ((l.drop 17).take 2), num ((l.drop 19).take 2), num ((l.drop 21).take 4), hdl, g2, a2', r4⟩ := dif_pos ⟨h25, by rw [List.getElem?_eq_getElem h0l, h1]⟩
  refine storeAt_rule (o := 0 + 16) hb5 i_api_Tuple rfl (by simp [bv_length]; omega) (by simp [Value.oneCell']) fun w6 hb6 hk6 _ => ?_
  have e6 : ((bv ((l.drop 1).take 16) ++ [Value.int .u16 0, .int .u16 0, .int .u32 0]).toArray.toList.take (0 + 16) ++ (#[Value.int .u16 ((num ((l.drop 17).take 2) : Nat) : Int), .int .u16 ((num ((l.drop 19).take 2) : Nat) : Int), .int .u32 ((num ((l.drop 21).take 4) : Nat) : Int)] : Array Value).toList ++ (bv ((l.drop 1).take 16) ++ [Value.int .u16 0, .int .u16 0, .int .u32 0]).toArray.toList.drop (0 + 16 + 3)) = bc (blkOf l) := by
    rw [hbl]
    have hl16 : (bv ((l.drop 1).take 16)).length = 16 := by rw [bv_length, hdl]
    unfold bc
    dsimp only
    generalize bv ((l.drop 1).take 16) = B at hl16 ⊢
    generalize num ((l.drop 17).take 2) = x1
    generalize num ((l.drop 19).take 2) = x2
    generalize num ((l.drop 21).take 4) = x3
    simp only [Nat.zero_add]
    rw [List.take_append_of_le_length (by omega), List.take_of_length_le (by omega), List.drop_append, List.drop_of_length_le (by omega), hl16]
    simp
  have hb6 : Blk w6 pb (bc (blkOf l)).toArray t_api_Block := by rw [← e6]; exact hb6
  refine ⟨(bc (blkOf l)).toArray, loadVar_rule g_api_Block i_api_Block (by rw [bc_len]) (blk_cells hb6), ?_⟩
  have hpne : pa ≠ pb := by omega
  have hba : Blk w6 pa _ t_api_Block := hk6.heap (hk5.heap (hg4.heap (hg3.heap hb0 (fun q => q)) (fun q => q)) hpne) hpne
  refine storeVar_rule (cells := (bc (blkOf l)).toArray) hba i_api_Block (by simp [bc_len]) (by simp [bc_len]) (bc_all _) fun w7 hb7 hk7 _ => ?_
  refine ⟨(bc (blkOf l)).toArray, loadVar_rule g_api_Block i_api_Block (by rw [bc_len]) (blk_cells hb7), h w7 ?_⟩
  exact (hg5.keep hk6 fun i hi q => by have := hg0.size; omega).keep hk7 fun i hi q => by omega
end Go.Proofs.Ytaneeadpjelomaa
