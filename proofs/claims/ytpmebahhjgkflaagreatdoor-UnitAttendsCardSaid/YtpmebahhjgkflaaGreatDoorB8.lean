import Derived.Laws.MakeOwn
import Derived.Lib.AppendZerosOnto
import Derived.Deep.DeepAppendWide
import Derived.Test.YtpmebahhjgkflaaGreatDoorB7
/- Layer 4: records, blocks. -/
namespace Go.Proofs.YtpmebahhjgkflaaGreatDoor
open Go CF
set_option maxRecDepth 100000

theorem storeAt_rule {P : Program} {w : World} {b o : Nat} {t ty : TypeId} {zv : Option Value} {z bytes : Nat} {old cells : Array Value} (hb : Blk w b old t) (hinfo : (P.info? ty).map (fun i => (i.zero, i.size, i.bytes)) = some (zv, z, bytes)) (hz : z = cells.size) (ho : o + cells.size ≤ old.size)
    (h1 : ∀ v ∈ cells.toList, v.oneCell' = true) {K : World → Prop} (h : ∀ w1, Blk w1 b (old.toList.take o ++ cells.toList ++ old.toList.drop (o + cells.size)).toArray t → Keep (fun k => k = b) w w1 → w1.heap.size = w.heap.size → K w1) : RunU P (storeVar ty ⟨b, o, none⟩ (.agg cells)) w K := by
  obtain ⟨i, hi, hzz⟩ := Option.map_eq_some_iff.1 hinfo
  simp only [Prod.mk.injEq] at hzz
  have hst := run_storeCells_at P b o t cells.toList 0 old w hb (by simpa using ho) h1
  have hs : cells.size = i.size := by omega
  refine ⟨_, ?_, h (w.setRow b (old.toList.take o ++ cells.toList ++ old.toList.drop (o + cells.size)).toArray) (setRow_heap w b old _ t (0, 0) hb) ⟨rfl, rfl, rfl, by simp, fun k _ hn => setRow_other w b k _ hn⟩ (by simp)⟩
  simp only [Nat.add_zero, Array.length_toList] at hst
  simp [storeVar, sizeOf, typeInfo, hi, Value.cells, hs]
  rw [hs, List.append_assoc] at hst
  exact hst
theorem bc_at (b : Bk) : (bc b).toArray[16]? = some (.int .u16 (b.g : Int)) ∧ (bc b).toArray[17]? = some (.int .u16 (b.a : Int)) ∧ (bc b).toArray[18]? = some (.int .u32 (b.r : Int)) := by
  have hl : (bv b.d).length = 16 := by rw [bv_length, b.hd]
  refine ⟨?_, ?_, ?_⟩ <;> · simp only [bc, List.getElem?_toArray]; rw [List.getElem?_append_right (by omega), hl]; rfl
theorem bc_ones (b : Bk) : ∀ v ∈ bc b, v.oneCell' = true := by
  intro v hv
  rcases List.mem_append.1 hv with q | q
  · exact bv_one' _ v q
  · simp only [List.mem_cons, List.not_mem_nil, or_false] at q
    rcases q with rfl | rfl | rfl <;> rfl
theorem bc_all (b : Bk) : ((bc b).toArray.all (·.oneCell')) = true := by
  rw [Array.all_eq_true_iff_forall_mem]; intro v hv; exact bc_ones b v (by simpa using hv)
theorem record_spec {b : Bk} {w : World} {R : Sl → World → Prop} (h : ∀ s w', Grow w w' → Own w' w.heap.size t_uint8 1 s (bv (recB b)) → R s w') : Cstore_record (bc b).toArray w R := by
  refine Fstore_record.calls _ _ _ ?_
  refine new_rule fun pb w0 hpb hb0 hg0 hsz0 => ?_
  have hb0 : Blk w0 pb (bc b).toArray t_api_Block := hb0
  have hl : (bv b.d).length = 16 := by rw [bv_length, b.hd]
  refine lit_rule (cells := #[.int .u8 1]) (e := t_uint8) (z := 1) (base := w0.heap.size) (by kernel_rfl) rfl (by decide) (Nat.le_refl _) fun w1 hlit1 hg1 _ => ⟨by decide, ?_⟩
  have hb1 := hg1.heap hb0 (fun q => q)
  have hd1 : Rd w1 1 ⟨some ⟨pb, 0, none⟩, 16, 16⟩ (bv b.d) := ⟨hl, Nat.le_refl _, by show 16 ≤ _; decide, fun _ => ⟨_, rfl, fun j v hj => blk_cells hb1 j v (by rw [bc, List.getElem?_append_left (by have := (List.getElem?_eq_some_iff.1 hj).1; exact this)]; exact hj)⟩⟩
  refine append_rule (x := ⟨some ⟨pb, 0, none⟩, 16, 16⟩) u_sl_uint8 i_uint8 rfl (by decide) (by decide) hlit1 hd1 (bv_one' _) (by show (1 + 16) * 1 ≤ _; decide) hg1.size fun s2 w2 hn2 hown2 hk2 _ => ?_
  have up : ∀ {u u' : World} {s : Sl} {vs : List Value}, Grow w0 u → Own u w0.heap.size t_uint8 1 s vs → Keep (fun k => some k = s.blk) u u' → Grow w0 u' := fun hg ho hk => hg.keep hk fun i hi q => by have := (ho.ge i q.symm).1; omega
  have hg2 := up hg1 hlit1 hk2
  have hb2 := hg2.heap hb0 (fun q => q)
  obtain ⟨e16, e17, e18⟩ := bc_at b
  have cg : ∀ {u : World}, Blk u pb (bc b).toArray t_api_Block → u.cell? (((⟨pb, 0, none⟩ : Addr).add 16).add 0) = some (.int .u16 (b.g : Int)) := fun q => by rw [add0, add0, q.cell]; exact e16
  have ca : ∀ {u : World}, Blk u pb (bc b).toArray t_api_Block → u.cell? (((⟨pb, 0, none⟩ : Addr).add 16).add 1) = some (.int .u16 (b.a : Int)) := fun q => by rw [add0, add0, q.cell]; exact e17
  have cr : ∀ {u : World}, Blk u pb (bc b).toArray t_api_Block → u.cell? (((⟨pb, 0, none⟩ : Addr).add 16).add 2) = some (.int .u32 (b.r : Int)) := fun q => by rw [add0, add0, q.cell]; exact e18
  refine ⟨_, cg hb2, _, cg hb2, _, ca hb2, _, ca hb2, ?_⟩
  rw [shr .u16 b.g 8 (by decide), shr .u16 b.a 8 (by decide), wrap_u8, wrap_u8, wrap_u8, wrap_u8]
  refine lit_rule (cells := (bv (be2 b.g ++ be2 b.a)).toArray) (e := t_uint8) (z := 1) (base := w0.heap.size) (by kernel_rfl) rfl (by decide) hg2.size fun w3 hlit3 hg3 _ => ?_
  have n2 : s2.n = 17 := hn2
  refine append_rule u_sl_uint8 i_uint8 rfl (by decide) (by decide) (hown2.grow hg3) (hlit3.rd (by show 4 ≤ _; decide)) (bv_one' _) (by rw [n2]; show (17 + 4) * 1 ≤ _; decide) (hg2.trans hg3).size fun s4 w4 hn4 hown4 hk4 _ => ?_
  have hg4 := up (hg2.trans hg3) (hown2.grow hg3) hk4
  have hb4 := hg4.heap hb0 (fun q => q)
  refine ⟨_, cr hb4, _, cr hb4, _, cr hb4, _, cr hb4, ?_⟩
  rw [shr .u32 b.r 24 (by decide), shr .u32 b.r 16 (by decide), shr .u32 b.r 8 (by decide), wrap_u8, wrap_u8, wrap_u8, wrap_u8]
  refine lit_rule (cells := (bv (be4 b.r)).toArray) (e := t_uint8) (z := 1) (base := w0.heap.size) (by kernel_rfl) rfl (by decide) hg4.size fun w5 hlit5 hg5 _ => ?_
  have n4 : s4.n = 21 := hn4.trans (by rw [n2]; rfl)
  refine append_rule u_sl_uint8 i_uint8 rfl (by decide) (by decide) (hown4.grow hg5) (hlit5.rd (by show 4 ≤ _; decide)) (bv_one' _) (by rw [n4]; show (21 + 4) * 1 ≤ _; decide) (hg4.trans hg5).size fun s6 w6 hn6 hown6 hk6 _ => ?_
  have hg6 := up (hg4.trans hg5) (hown4.grow hg5) hk6
  refine h s6 w6 (hg0.trans hg6) (Own.mono (base := w0.heap.size) ?_ (by omega))
  have e : bv (recB b) = [.int .u8 1] ++ bv b.d ++ bv (be2 b.g ++ be2 b.a) ++ bv (be4 b.r) := by
    unfold recB; rw [bv_append, bv_append, bv_append]; rfl
  rw [e]
  exact hown6
theorem empty_spec {w : World} {R : Array Value → World → Prop} (h : ∀ w', Grow w w' → R (bc emptyB).toArray w') : Cstore_empty w R := by
  refine Fstore_empty.calls _ _ ?_
  refine new_rule fun pb w0 hpb hb0 hg0 hsz0 => ?_
  refine ⟨(bc emptyB).toArray, by kernel_rfl, ?_⟩
  refine storeVar_rule (cells := (bc emptyB).toArray) hb0 i_api_Block rfl rfl (bc_all _) fun w1 hb1 hk1 _ => ?_
  have hg1 : Grow w w1 := hg0.keep hk1 fun i hi q => by omega
  refine ⟨(bc emptyB).toArray, loadVar_rule g_api_Block i_api_Block rfl (blk_cells hb1), h w1 hg1⟩
theorem num2 (l : L8) (h : l.length = 2) : num l < 65536 := by have := num_lt l; rw [h] at this; exact this
theorem num4 (l : L8) (h : l.length = 4) : num l < 4294967296 := by have := num_lt l; rw [h] at this; exact this
def blkOf (l : L8) : Bk :=
  if h : 25 ≤ l.length ∧ l[0]? = some 1 then
    ⟨(l.drop 1).take 16, num ((l.drop 17).take 2), num ((l.drop 19).take 2), num ((l.drop 21).take 4), by simp; omega, num2 _ (by simp; omega), num2 _ (by simp; omega), num4 _ (by simp; omega)⟩
  else emptyB
theorem block_spec {p : Sl} {l : L8} {w : World} {R : Array Value → World → Prop} (hp : Rd w 1 p (bv l)) (hb : p.n ≤ 1000000000) (h : ∀ w', Grow w w' → R (bc (blkOf l)).toArray w') : Cstore_block p w R := by
  refine Fstore_block.calls _ _ _ ?_
  have hln : l.length = p.n := by have := hp.len; rw [bv_length] at this; omega
  have hcap := hp.cap
  refine new_rule fun pa w0 hpa hb0 hg0 hsz0 => ?_
  by_cases h25 : 25 ≤ l.length
  case neg =>
    have hd : decide ((p.n : Int) < 25) = true := decide_eq_true (by omega)
    refine ⟨fun q => (by rw [hd] at q; cases q), 0, fun q => (by rw [hd] at q; cases q), br_t (by rw [hd]; rfl) ?_⟩
    refine empty_spec fun w1 hg1 => ?_
    refine storeVar_rule (cells := (bc emptyB).toArray) (hg1.heap hb0 (fun q => q)) i_api_Block rfl rfl (bc_all _) fun w2 hb2 hk2 _ => ?_
    refine ⟨(bc emptyB).toArray, loadVar_rule g_api_Block i_api_Block rfl (blk_cells hb2), ?_⟩
    have := h w2 ((hg0.trans hg1).keep hk2 fun i hi q => by omega)
    rwa [show blkOf l = emptyB from dif_neg fun q => h25 q.1] at this
  have hd : decide ((p.n : Int) < 25) = false := decide_eq_false (by omega)
  obtain ⟨a, ha, hc⟩ := (hp.grow hg0).byte (i := 0) (by omega)
  have h0l : 0 < l.length := by omega
  refine ⟨fun _ => ⟨by omega, by omega, by rw [ha]; rfl⟩, (l[0].toNat : Int), fun _ => (by rw [ha]; exact hc), ?_⟩
  by_cases h1 : l[0] = 1
  case neg =>
    refine br_t (by rw [hd, Bool.false_or, bne_iff_ne]; exact fun q => h1 (UInt8.toNat_inj.1 (by show l[0].toNat = 1; omega))) ?_
    refine empty_spec fun w1 hg1 => ?_
    refine storeVar_rule (cells := (bc emptyB).toArray) (hg1.heap hb0 (fun q => q)) i_api_Block rfl rfl (bc_all _) fun w2 hb2 hk2 _ => ?_
    refine ⟨(bc emptyB).toArray, loadVar_rule g_api_Block i_api_Block rfl (blk_cells hb2), ?_⟩
    have := h w2 ((hg0.trans hg1).keep hk2 fun i hi q => by omega)
    rwa [show blkOf l = emptyB from dif_neg fun q => h1 (by have := q.2; rw [List.getElem?_eq_getElem h0l] at this; exact Option.some.inj this)] at this
  refine br_f (by rw [hd, h1]; rfl) ?_
  refine new_rule fun pb w3 hpb hb3 hg3 hsz3 => ?_
  rintro w4 rfl
  have hg4 : Grow w3 w3.drew := keep_drew w3
  refine ⟨by decide, ⟨by omega, by omega, by omega, hcap⟩, ?_⟩
  have hgw4 := (hg0.trans hg3).trans hg4
  have hx := (hp.grow hgw4).cutB (l := 1) (k := p.n) (by omega) (Nat.le_refl _)
  simp only [Int.toNat_natCast]
  have hdl : ((l.drop 1).take 16).length = 16 := by simp; omega
  have hne : bv ((l.drop 1).take (p.n - 1)) ≠ [] := fun e => by
    have := congrArg List.length e
    simp [bv_length] at this
    omega
  obtain ⟨a2, ha2, hc2⟩ := hx.at_ hne
  have ha2 : cutA p.A p.c 1 1 = some a2 := ha2
  have hsrc : ∀ j v, (bv ((l.drop 1).take 16))[j]? = some v → w3.drew.cell? (a2.add j) = some v := fun j v hj => hc2 j v (by
    have hj16 : j < 16 := by have := (List.getElem?_eq_some_iff.1 hj).1; rw [bv_length, hdl] at this; exact this
    rw [← hj, ← bv_take, ← bv_take, List.getElem?_take, List.getElem?_take, if_pos (by omega), if_pos hj16])
  have hb4 : Blk w3.drew pb _ t_api_Block := hg4.heap hb3 (fun q => q)
  have hcp := run_copy_row (P := Tryz.prog) w3.drew t_sl_uint8 t_sl_uint8 t_int t_uint8 pb 0 16 16 a2 (p.n - 1) (p.c - 1) _ t_api_Block (bv ((l.drop 1).take 16)) u_sl_uint8 (by kernel_rfl) hb4 (by rw [bv_length, hdl]; exact (Nat.min_eq_right (by omega)).symm) hsrc (by rw [bv_length, hdl]; decide) (bv_one' _)
  rw [ha2]
  refine ⟨16, _, hcp.trans (by rw [bv_length, hdl]; rfl), ?_⟩
  generalize hw5 : w3.drew.setRow pb _ = w5
  have hb5 : Blk w5 pb (bv ((l.drop 1).take 16) ++ [Value.int .u16 0, Value.int .u16 0, Value.int .u32 0]).toArray t_api_Block := by
    rw [← hw5]
    have := setRow_heap w3.drew pb _ ((#[.int .u8 0, .int .u8 0, .int .u8 0, .int .u8 0, .int .u8 0, .int .u8 0, .int .u8 0, .int .u8 0, .int .u8 0, .int .u8 0, .int .u8 0, .int .u8 0, .int .u8 0, .int .u8 0, .int .u8 0, .int .u8 0, .int .u16 0, .int .u16 0, .int .u32 0] : Array Value).toList.take 0 ++ bv ((l.drop 1).take 16) ++ (#[.int .u8 0, .int .u8 0, .int .u8 0, .int .u8 0, .int .u8 0, .int .u8 0, .int .u8 0, .int .u8 0, .int .u8 0, .int .u8 0, .int .u8 0, .int .u8 0, .int .u8 0, .int .u8 0, .int .u8 0, .int .u8 0, .int .u16 0, .int .u16 0, .int .u32 0] : Array Value).toList.drop (0 + (bv ((l.drop 1).take 16)).length)).toArray t_api_Block (0, 0) hb4
    rw [bv_length, hdl] at this
    exact this
  have hk5 : Keep (fun k => k = pb) w3.drew w5 := by
    rw [← hw5]; exact ⟨rfl, rfl, rfl, by simp, fun k _ hn => setRow_other w3.drew pb k _ hn⟩
  have hg5 : Grow w w5 := hgw4.keep hk5 fun i hi q => by have := hg0.size; omega
  have hp5 := hp.grow hg5
  refine get_spec (at_ := 17) (n := 2) hp5 (Nat.le_trans hb (by decide)) (by decide) (by decide) (by omega) ?_
  refine get_spec (at_ := 19) (n := 2) hp5 (Nat.le_trans hb (by decide)) (by decide) (by decide) (by omega) ?_
  refine get_spec (at_ := 21) (n := 4) hp5 (Nat.le_trans hb (by decide)) (by decide) (by decide) (by omega) ?_
  have g2 := num2 ((l.drop 17).take 2) (by simp; omega)
  have a2' := num2 ((l.drop 19).take 2) (by simp; omega)
  have r4 := num4 ((l.drop 21).take 4) (by simp; omega)
  rw [wu16 (by omega) (by omega), wu16 (by omega) (by omega), wu32 (by omega) (by omega), add0]
  have hbl : blkOf l = ⟨(l.drop 1).take 16, num ((l.drop 17).take 2), num ((l.drop 19).take 2), num ((l.drop 21).take 4), hdl, g2, a2', r4⟩ := dif_pos ⟨h25, by rw [List.getElem?_eq_getElem h0l, h1]⟩
  refine storeAt_rule (o := 0 + 16) hb5 i_api_Tuple rfl (by simp [bv_length]; omega) (by simp [Value.oneCell']) fun w6 hb6 hk6 _ => ?_
  have e6 : ((bv ((l.drop 1).take 16) ++ [Value.int .u16 0, .int .u16 0, .int .u32 0]).toArray.toList.take (0 + 16) ++ (#[Value.int .u16 ((num ((l.drop 17).take 2) : Nat) : Int), .int .u16 ((num ((l.drop 19).take 2) : Nat) : Int), .int .u32 ((num ((l.drop 21).take 4) : Nat) : Int)] : Array Value).toList ++ (bv ((l.drop 1).take 16) ++ [Value.int .u16 0, .int .u16 0, .int .u32 0]).toArray.toList.drop (0 + 16 + 3)) = bc (blkOf l) := by
    rw [hbl]
    have hl16 : (bv ((l.drop 1).take 16)).length = 16 := by rw [bv_length, hdl]
    unfold bc
    dsimp only
    generalize bv ((l.drop 1).take 16) = B at hl16 ⊢
    generalize num ((l.drop 17).take 2) = x1
    generalize num ((l.drop 19).take 2) = x2
    generalize num ((l.drop 21).take 4) = x3
    simp only [Nat.zero_add]
    rw [List.take_append_of_le_length (by omega), List.take_of_length_le (by omega), List.drop_append, List.drop_of_length_le (by omega), hl16]
    simp
  have hb6 : Blk w6 pb (bc (blkOf l)).toArray t_api_Block := by rw [← e6]; exact hb6
  refine ⟨(bc (blkOf l)).toArray, loadVar_rule g_api_Block i_api_Block (by rw [bc_len]) (blk_cells hb6), ?_⟩
  have hpne : pa ≠ pb := by omega
  have hba : Blk w6 pa _ t_api_Block := hk6.heap (hk5.heap (hg4.heap (hg3.heap hb0 (fun q => q)) (fun q => q)) hpne) hpne
  refine storeVar_rule (cells := (bc (blkOf l)).toArray) hba i_api_Block (by simp [bc_len]) (by simp [bc_len]) (bc_all _) fun w7 hb7 hk7 _ => ?_
  refine ⟨(bc (blkOf l)).toArray, loadVar_rule g_api_Block i_api_Block (by rw [bc_len]) (blk_cells hb7), h w7 ?_⟩
  exact (hg5.keep hk6 fun i hi q => by have := hg0.size; omega).keep hk7 fun i hi q => by omega
end Go.Proofs.YtpmebahhjgkflaaGreatDoor

/- Layer 4: what a file says of blocks. -/
namespace Go.Proofs.YtpmebahhjgkflaaGreatDoor
open Go CF
set_option maxRecDepth 100000

theorem getD_wr (f : L8) (o : Nat) (p : L8) (k : Nat) : (wr f o p).getD k 0 = if o ≤ k ∧ k < o + p.length then p.getD (k - o) 0 else f.getD k 0 := by
  unfold wr
  simp only [List.getD_eq_getElem?_getD]
  generalize hg : f ++ List.replicate (o + p.length - f.length) 0 = g
  have hgl : g.length = max f.length (o + p.length) := by rw [← hg]; simp; omega
  have hgk : ∀ k : Nat, (g[k]?).getD 0 = (f[k]?).getD 0 := fun k => by
    rw [← hg]
    rcases Nat.lt_or_ge k f.length with q | q
    · rw [List.getElem?_append_left q]
    · rw [List.getElem?_append_right q, List.getElem?_eq_none q, List.getElem?_replicate]
      split <;> rfl
  have htl : (g.take o).length = o := by rw [List.length_take]; omega
  rcases Nat.lt_or_ge k o with q | q
  · rw [if_neg (by omega), List.append_assoc, List.getElem?_append_left (by omega), List.getElem?_take, if_pos q, hgk]
  · rcases Nat.lt_or_ge k (o + p.length) with q2 | q2
    · rw [if_pos ⟨q, q2⟩, List.append_assoc, List.getElem?_append_right (by omega), htl, List.getElem?_append_left (by omega)]
    · rw [if_neg (by omega), List.getElem?_append_right (by rw [List.length_append, htl]; omega), List.length_append, htl, List.getElem?_drop, show o + p.length + (k - (o + p.length)) = k by omega, hgk]
/-- a record is there at whole -/
def Good (f : L8) : Prop := ∀ j : Nat, f.getD (25 * j) 0 = 1 → 25 * j + 25 ≤ f.length
def blkAt (f : L8) (j : Nat) : Bk := blkOf ((f.drop (25 * j)).take 25)
def sl25 (f : L8) (j : Nat) : L8 := (List.range 25).map fun t => f.getD (25 * j + t) 0
theorem blkOf_not {l : L8} (h : ¬ (25 ≤ l.length ∧ l[0]? = some 1)) : blkOf l = emptyB := dif_neg h
theorem blkAt_good {f : L8} (h : Good f) (j : Nat) : blkAt f j = blkOf (sl25 f j) := by
  unfold blkAt
  by_cases h1 : f.getD (25 * j) 0 = 1
  · have hl := h j h1
    have e : (f.drop (25 * j)).take 25 = sl25 f j := by
      unfold sl25
      apply List.ext_getElem?
      intro t
      simp only [List.getElem?_take, List.getElem?_drop, List.getElem?_map, List.getElem?_range]
      by_cases q : t < 25
      · rw [if_pos q, List.getElem?_eq_getElem (show 25 * j + t < f.length by omega)]
        simp [q, List.getD_eq_getElem?_getD, List.getElem?_eq_getElem (show 25 * j + t < f.length by omega)]
      · simp [q]
    rw [e]
  · rw [blkOf_not, blkOf_not]
    · intro q
      have := q.2
      simp [sl25] at this
      exact h1 (by simpa using this)
    · intro q
      have hq := q.2
      have hlen := q.1
      rw [List.length_take, List.length_drop] at hlen
      rw [List.getElem?_take, if_pos (by decide), List.getElem?_drop, Nat.add_zero] at hq
      exact h1 (by rw [List.getD_eq_getElem?_getD, hq]; rfl)
theorem good_nil : Good [] := fun j h => by simp at h
theorem getD_off {f p : L8} {i j t : Nat} (hp : p.length ≤ 25) (hij : j ≠ i) (ht : t < 25) : (wr f (25 * i) p).getD (25 * j + t) 0 = f.getD (25 * j + t) 0 := by
  rw [getD_wr, if_neg (by omega)]
theorem num_be2 {n : Nat} (h : n < 65536) : num (be2 n) = n := by
  simp only [num, be2, List.foldl_cons, List.foldl_nil, UInt8.toNat_ofNat']
  omega
theorem num_be4 {n : Nat} (h : n < 4294967296) : num (be4 n) = n := by
  simp only [num, be4, List.foldl_cons, List.foldl_nil, UInt8.toNat_ofNat']
  omega
theorem bk_ext {a b : Bk} (h1 : a.d = b.d) (h2 : a.g = b.g) (h3 : a.a = b.a) (h4 : a.r = b.r) : a = b := by
  cases a; cases b; simp only at h1 h2 h3 h4; subst h1; subst h2; subst h3; subst h4; rfl
theorem blkOf_rec (b : Bk) : blkOf (recB b) = b := by
  have h : 25 ≤ (recB b).length ∧ (recB b)[0]? = some 1 := ⟨by rw [recB_len]; decide, rfl⟩
  have hd := b.hd
  have e : recB b = 1 :: (b.d ++ (be2 b.g ++ (be2 b.a ++ be4 b.r))) := by simp [recB]
  have d1 : (recB b).drop 1 = b.d ++ (be2 b.g ++ (be2 b.a ++ be4 b.r)) := by rw [e]; rfl
  have d17 : (recB b).drop 17 = be2 b.g ++ (be2 b.a ++ be4 b.r) := by
    rw [e, List.drop_succ_cons, List.drop_append, List.drop_of_length_le (by omega), hd]; rfl
  have d19 : (recB b).drop 19 = be2 b.a ++ be4 b.r := by
    have : (recB b).drop 19 = ((recB b).drop 17).drop 2 := by rw [List.drop_drop]
    rw [this, d17]; rfl
  have d21 : (recB b).drop 21 = be4 b.r := by
    have : (recB b).drop 21 = ((recB b).drop 19).drop 2 := by rw [List.drop_drop]
    rw [this, d19]; rfl
  unfold blkOf
  rw [dif_pos h]
  apply bk_ext
  · show ((recB b).drop 1).take 16 = b.d
    rw [d1, List.take_append_of_le_length (by omega), List.take_of_length_le (by omega)]
  · show num (((recB b).drop 17).take 2) = b.g
    rw [d17]; exact num_be2 b.hg
  · show num (((recB b).drop 19).take 2) = b.a
    rw [d19]; exact num_be2 b.ha
  · show num (((recB b).drop 21).take 4) = b.r
    rw [d21]; exact num_be4 b.hr
theorem good_rec {f : L8} (h : Good f) (i : Nat) (b : Bk) : Good (wr f (25 * i) (recB b)) := by
  intro j hj
  rw [wr_len, recB_len]
  by_cases e : j = i
  · subst e; omega
  · have := getD_off (f := f) (p := recB b) (t := 0) (by rw [recB_len]; decide) e (by decide)
    rw [Nat.add_zero] at this
    rw [this] at hj
    have := h j hj
    omega
theorem good_zero {f : L8} (h : Good f) (i : Nat) : Good (wr f (25 * i) [0]) := by
  intro j hj
  rw [wr_len]
  by_cases e : j = i
  · subst e
    rw [getD_wr, if_pos ⟨Nat.le_refl _, by simp⟩, Nat.sub_self] at hj
    cases hj
  · have := getD_off (f := f) (p := [0]) (t := 0) (by decide) e (by decide)
    rw [Nat.add_zero] at this
    rw [this] at hj
    have := h j hj
    omega
theorem sl25_off {f p : L8} {i j : Nat} (hp : p.length ≤ 25) (hij : j ≠ i) : sl25 (wr f (25 * i) p) j = sl25 f j := by
  unfold sl25
  apply List.map_congr_left
  intro t ht
  exact getD_off hp hij (List.mem_range.1 ht)
theorem blkAt_rec {f : L8} (h : Good f) (i : Nat) (b : Bk) (j : Nat) : blkAt (wr f (25 * i) (recB b)) j = if j = i then b else blkAt f j := by
  rw [blkAt_good (good_rec h i b)]
  by_cases e : j = i
  · subst e
    rw [if_pos rfl]
    have e2 : sl25 (wr f (25 * j) (recB b)) j = recB b := by
      unfold sl25
      apply List.ext_getElem?
      intro t
      rw [List.getElem?_map]
      by_cases q : t < 25
      · rw [List.getElem?_range q, Option.map_some, getD_wr, if_pos ⟨by omega, by rw [recB_len]; omega⟩, show 25 * j + t - 25 * j = t by omega, List.getD_eq_getElem?_getD, List.getElem?_eq_getElem (by rw [recB_len]; exact q)]
        rfl
      · rw [List.getElem?_eq_none (l := List.range 25) (by simp; omega), List.getElem?_eq_none (l := recB b) (by rw [recB_len]; omega)]; rfl
    rw [e2, blkOf_rec]
  · rw [if_neg e, sl25_off (by rw [recB_len]; decide) e, blkAt_good h]
theorem blkAt_zero {f : L8} (h : Good f) (i j : Nat) : blkAt (wr f (25 * i) [0]) j = if j = i then emptyB else blkAt f j := by
  rw [blkAt_good (good_zero h i)]
  by_cases e : j = i
  · subst e
    rw [if_pos rfl, blkOf_not]
    intro q
    have := q.2
    rw [sl25, List.getElem?_map, List.getElem?_range (by decide), Option.map_some, Nat.add_zero, getD_wr, if_pos ⟨Nat.le_refl _, by simp⟩, Nat.sub_self] at this
    cases this
  · rw [if_neg e, sl25_off (by decide) e, blkAt_good h]
end Go.Proofs.YtpmebahhjgkflaaGreatDoor

/- Layer 4: the store's calls. -/
namespace Go.Proofs.YtpmebahhjgkflaaGreatDoor
open Go CF
set_option maxRecDepth 100000

def scells (pw : Nat) (file : ByteArray) (blocks : Nat) (cache : Bool) : Array Value := #[.pointer (some ⟨pw, 0, none⟩), .string file, .int .i64 (blocks : Int), .bool cache]
abbrev IsS (w : World) (ps pw : Nat) (file : ByteArray) (blocks : Nat) (cache : Bool) : Prop := Blk w ps (scells pw file blocks cache) t_store_Store
theorem open_spec {w : World} {pw : Nat} {file : ByteArray} {blocks : Nat} {cache : Bool} {R : Option Addr → Int → World → Prop} (hs : 1 ≤ file.size ∧ file.size ≤ 32) (hb : 1 ≤ blocks ∧ blocks ≤ 4096)
    (h : ∀ ps w', ps = w.heap.size → Grow w w' → IsS w' ps pw file blocks cache → R (some ⟨ps, 0, none⟩) 0 w') : Cstore_Open (some ⟨pw, 0, none⟩) file (blocks : Int) cache w R := by
  refine Fstore_Open.calls _ _ _ _ _ _ ?_
  refine br_f (by rw [Bool.or_eq_false_iff, Bool.or_eq_false_iff, Bool.or_eq_false_iff, decide_eq_false_iff_not, decide_eq_false_iff_not, decide_eq_false_iff_not, decide_eq_false_iff_not]; omega) (br_f rfl ?_)
  exact new_rule fun ps w1 hps hb1 hg1 _ => h ps w1 hps hg1 hb1
theorem check_spec {w : World} {ps pw : Nat} {file : ByteArray} {blocks : Nat} {cache : Bool} {lba n : Nat} {R : Int → World → Prop} (hs : IsS w ps pw file blocks cache) (hb : blocks ≤ 4096) (hl : lba ≤ 1000000000)
    (h : R (if lba + n ≤ blocks then 0 else 4) w) : Cstore_Store_check (some ⟨ps, 0, none⟩) (lba : Int) (n : Int) w R := by
  refine Fstore_Store_check.calls _ _ _ _ _ ?_
  have c2 : w.cell? ((gA (some ⟨ps, 0, none⟩)).add 2) = some (.int .i64 (blocks : Int)) := by rw [gA, add0, hs.cell]; rfl
  refine br_f rfl ⟨fun _ => rfl, (blocks : Int), fun _ => c2, fun _ => rfl, (blocks : Int), fun _ => c2, ?_⟩
  have e : IntKind.wrap .i64 ((blocks : Int) - (lba : Int)) = (blocks : Int) - (lba : Int) := w64 (by omega) (by omega)
  by_cases q : lba + n ≤ blocks
  · rw [if_pos q] at h
    refine br_f ?_ h
    rw [Bool.or_eq_false_iff, Bool.or_eq_false_iff, Bool.or_eq_false_iff, decide_eq_false_iff_not, decide_eq_false_iff_not, decide_eq_false_iff_not, decide_eq_false_iff_not, e]
    omega
  · rw [if_neg q] at h
    refine br_t ?_ h
    rw [Bool.or_eq_true, Bool.or_eq_true, Bool.or_eq_true, decide_eq_true_eq, decide_eq_true_eq, decide_eq_true_eq, decide_eq_true_eq, e]
    omega
def stepW (st : Wst) (file : ByteArray) (o : Nat) (r : L8) : Wst := ⟨applyWr st.seen file o r, st.dur, st.waits ++ [⟨119, file, ⟨#[]⟩, o, r⟩], st.ops + 1⟩
def layW (st : Wst) (file : ByteArray) (lba : Nat) (rs : Nat → L8) : Nat → Wst
  | 0 => st
  | k + 1 => stepW (layW st file lba rs k) file (25 * (lba + k)) (rs k)
theorem layW_ops (st : Wst) (file : ByteArray) (lba : Nat) (rs : Nat → L8) : ∀ k, (layW st file lba rs k).ops = st.ops + k ∧ (layW st file lba rs k).waits.length = st.waits.length + k
  | 0 => ⟨rfl, rfl⟩
  | k + 1 => by
    obtain ⟨h1, h2⟩ := layW_ops st file lba rs k
    simp only [layW, stepW, List.length_append, List.length_singleton, h1, h2]
    omega
theorem lay_any {w : World} {ps pw : Nat} {D : Nat → Prop} {st : Wst} {F : Int → Bool} {file : ByteArray} {blocks : Nat} {cache fua : Bool} {lba n : Nat} {one : Value} {rs : Nat → L8} {R : Int → Int → World → Prop}
    (hS : IsS w ps pw file blocks cache) (hps : ¬ D ps) (hw : IsWq w pw D st F) (hs : 1 ≤ file.size ∧ file.size ≤ 32) (hb : lba + n ≤ 4096) (hlen : ∀ i, (rs i).length ≤ 25) (ho : st.ops < 100000000000) (hn : st.waits.length < 900000000)
    (hone : ∀ (x : Nat) (u : World) (K : Sl → World → Prop), x < n → Keep D w u → (∀ s u', Grow u u' → Own u' 0 t_uint8 1 s (bv (rs x)) → K s u') → CallV Tryz.prog cs one #[.int .i64 (x : Int)] u [.sl] K)
    (h : (∀ i : Nat, i < n → F ((st.ops + i : Nat) : Int) = false) → ∀ u D', Keep D w u → IsWq u pw D' (layW st file lba rs n) F → (∀ k, D' k → D k ∨ w.heap.size ≤ k) → IsS u ps pw file blocks cache →
      if 0 < n ∧ (fua = true ∨ cache = false) then Cworld_World_Sync (some ⟨pw, 0, none⟩) u (fun e v => R (n : Int) e v) else R (n : Int) 0 u)
    (hbad : ∀ k : Nat, k < n → (∀ i : Nat, i < k → F ((st.ops + i : Nat) : Int) = false) → F ((st.ops + k : Nat) : Int) = true → ∀ u D', Keep D w u → IsWq u pw D' { layW st file lba rs k with ops := st.ops + k + 1 } F → (∀ k, D' k → D k ∨ w.heap.size ≤ k) → IsS u ps pw file blocks cache → R (k : Int) 6 u) :
    Cstore_Store_lay (some ⟨ps, 0, none⟩) (lba : Int) (n : Int) one fua w R := by
  refine Fstore_Store_lay.calls _ _ _ _ _ _ _ ?_
  have hS' : ∀ {u : World}, Keep D w u → IsS u ps pw file blocks cache := fun k => k.heap hS hps
  refine ⟨fun x w' => ∃ k : Nat, x = k ∧ k ≤ n ∧ (∀ i : Nat, i < k → F ((st.ops + i : Nat) : Int) = false) ∧ ∃ Dk, Keep D w w' ∧ IsWq w' pw Dk (layW st file lba rs k) F ∧ ∀ j, Dk j → D j ∨ w.heap.size ≤ j, fun x _ => n - x.toNat,
    ⟨0, rfl, Nat.zero_le _, (fun i hi => absurd hi (Nat.not_lt_zero _)), D, Keep.mono (Keep.refl (fun _ => False) w) (fun _ _ q => q.elim), hw, fun _ q => .inl q⟩, ?_⟩
  rintro x w0 ⟨k, rfl, hk, hfl, Dk, hk0, hw0, hD0⟩
  refine br_nat (fun hlt => ?_) (fun hge => ?_)
  · rintro w1 rfl
    have hg1 : Grow w0 w0.drew := keep_drew w0
    have hk1 : Keep D w w0.drew := hk0.grow hg1
    refine ⟨fun u => IsS u ps pw file blocks cache, hS' hk1, rfl, some ⟨pw, 0, none⟩, fun u hu => by rw [gA, add0, Blk.cell hu]; rfl, rfl, file, fun u hu => by rw [gA, add0, Blk.cell hu]; rfl, ?_⟩
    refine hone k w0.drew _ hlt hk1 fun s w2 hg2 hown2 => ⟨hS' (hk1.grow hg2), ?_⟩
    have e : IntKind.wrap .i64 ((IntKind.wrap .i64 ((lba : Int) + (k : Int))) * 25) = ((25 * (lba + k) : Nat) : Int) := by
      rw [w64 (n := (lba : Int) + (k : Int)) (by omega) (by omega), w64 (by omega) (by omega)]; omega
    rw [e]
    obtain ⟨lo, lw⟩ := layW_ops st file lba rs k
    have hl25 := hlen k
    have hsn : s.n = (rs k).length := by have := hown2.len; rw [bv_length] at this; omega
    have hDk : ∀ i, i < w.heap.size → Dk i → D i := fun i hi q => (hD0 i q).elim id (fun r => by omega)
    refine world_write_any (bs := rs k) ((hw0.grow hg1).grow hg2) hs (hown2.rd (by omega)) (by omega) (by omega) (by omega) (fun hf w3 D' hk3 hw3 hD3 => br_f rfl ?_) (fun hf w3 hk3 hw3 => br_t rfl (hbad k hlt hfl (by rw [← lo]; exact hf) w3 Dk ((hk1.grow hg2).trans hk3 hDk) (by rw [← lo]; exact hw3) hD0 (hS' ((hk1.grow hg2).trans hk3 hDk))))
    rw [w64 (by omega) (by omega)]
    have hsz1 := hg1.size
    have hsz2 := hg2.size
    have hsz0 := hk0.size
    refine ⟨⟨k + 1, by omega, by omega, fun i hi => ?_, D', (hk1.grow hg2).trans hk3 fun i hi q => ?_, hw3, fun j hj => ?_⟩, by dsimp only; omega⟩
    · by_cases q : i = k
      · subst q; rw [← lo]; exact hf
      · exact hfl i (by omega)
    · rcases hD0 i q with r | r
      · exact r
      · omega
    · rcases hD3 j hj with q | q
      · exact hD0 j q
      · exact .inr (by omega)
  · have hkn : k = n := by omega
    subst hkn
    have := h hfl w0 Dk hk0 hw0 hD0 (hS' hk0)
    have hc : w0.cell? ((gA (some ⟨ps, 0, none⟩)).add 3) = some (.bool cache) := by rw [gA, add0, Blk.cell (hS' hk0)]; rfl
    refine ⟨fun _ => rfl, cache, fun _ => hc, ?_⟩
    by_cases q : 0 < k ∧ (fua = true ∨ cache = false)
    · rw [if_pos q] at this
      refine br_t ?_ ⟨rfl, some ⟨pw, 0, none⟩, by rw [gA, add0, Blk.cell (hS' hk0)]; rfl, this⟩
      rw [Bool.and_eq_true, decide_eq_true_eq, Bool.or_eq_true, Bool.not_eq_true']
      exact ⟨by omega, q.2⟩
    · rw [if_neg q] at this
      refine br_f ?_ this
      rw [Bool.and_eq_false_iff, decide_eq_false_iff_not, Bool.or_eq_false_iff, Bool.not_eq_false']
      by_cases q1 : 0 < k
      · right
        cases fua <;> cases cache <;> simp_all
      · left; omega
theorem lay_spec {w : World} {ps pw : Nat} {D : Nat → Prop} {st : Wst} {file : ByteArray} {blocks : Nat} {cache fua : Bool} {lba n : Nat} {one : Value} {rs : Nat → L8} {R : Int → Int → World → Prop}
    (hS : IsS w ps pw file blocks cache) (hps : ¬ D ps) (hw : IsW w pw D st) (hs : 1 ≤ file.size ∧ file.size ≤ 32) (hb : lba + n ≤ 4096) (hlen : ∀ i, (rs i).length ≤ 25) (ho : st.ops < 100000000000) (hn : st.waits.length < 900000000)
    (hone : ∀ (x : Nat) (u : World) (K : Sl → World → Prop), x < n → Keep D w u → (∀ s u', Grow u u' → Own u' 0 t_uint8 1 s (bv (rs x)) → K s u') → CallV Tryz.prog cs one #[.int .i64 (x : Int)] u [.sl] K)
    (h : ∀ u D', Keep D w u → IsW u pw D' (layW st file lba rs n) → (∀ k, D' k → D k ∨ w.heap.size ≤ k) → IsS u ps pw file blocks cache →
      if 0 < n ∧ (fua = true ∨ cache = false) then Cworld_World_Sync (some ⟨pw, 0, none⟩) u (fun e v => R (n : Int) e v) else R (n : Int) 0 u) :
    Cstore_Store_lay (some ⟨ps, 0, none⟩) (lba : Int) (n : Int) one fua w R :=
  lay_any hS hps hw.q hs hb hlen ho hn hone (fun _ u D' k hw' hd hS' => h u D' k hw'.isW hd hS') (fun k _ _ q => by cases q)
end Go.Proofs.YtpmebahhjgkflaaGreatDoor

/- Layer 4: writing and reading blocks. -/
namespace Go.Proofs.YtpmebahhjgkflaaGreatDoor
open Go CF
set_option maxRecDepth 100000

theorem IsWq.lt {w : World} {pw : Nat} {D : Nat → Prop} {st : Wst} {F : Int → Bool} (h : IsWq w pw D st F) {k : Nat} (hk : D k) : k < w.heap.size := by
  obtain ⟨_, _, mb, md, ws, cs, h⟩ := h
  exact h.lt k hk
def rsOf (bs : List Bk) (i : Nat) : L8 := match bs[i]? with | some b => recB b | none => []
theorem rsOf_len (bs : List Bk) (i : Nat) : (rsOf bs i).length ≤ 25 := by
  unfold rsOf; split
  · rw [recB_len]; exact Nat.le_refl _
  · decide
theorem rd_bk {w : World} {s : Sl} {bs : List Bk} (h : Rd w 19 s (bs.flatMap bc)) : bs.length = s.n := by
  have := h.len; rw [flat_length bc_len] at this; omega
theorem rd_bk_at {w : World} {s : Sl} {bs : List Bk} (h : Rd w 19 s (bs.flatMap bc)) {i : Nat} (hi : i < bs.length) : ∃ a, s.A = some a ∧ Cells w (a.add (i * 19)) (bc bs[i]) := by
  obtain ⟨a, ha, hc⟩ := h.elem (i := i) (by rw [← rd_bk h]; exact hi) (by decide)
  exact ⟨a, ha, by rw [flat_elem bc_len hi] at hc; exact hc⟩
theorem store_write_any {w : World} {ps pw : Nat} {D : Nat → Prop} {st : Wst} {F : Int → Bool} {file : ByteArray} {blocks : Nat} {cache fua : Bool} {lba : Nat} {L : Sl} {bs : List Bk} {R : Int → Int → World → Prop}
    (hS : IsS w ps pw file blocks cache) (hps : ¬ D ps) (hw : IsWq w pw D st F) (hs : 1 ≤ file.size ∧ file.size ≤ 32) (hbk : blocks ≤ 4096) (hl : lba ≤ 1000000000) (hL : ∀ u, Keep D w u → Rd u 19 L (bs.flatMap bc))
    (ho : st.ops < 100000000000) (hn : st.waits.length < 900000000)
    (h1 : blocks < lba + bs.length → ∀ u, Grow w u → R 0 4 u)
    (h2 : lba + bs.length ≤ blocks → (∀ i : Nat, i < bs.length → F ((st.ops + i : Nat) : Int) = false) → ∀ u D', Keep D w u → IsWq u pw D' (layW st file lba (rsOf bs) bs.length) F → (∀ k, D' k → D k ∨ w.heap.size ≤ k) → IsS u ps pw file blocks cache →
      if 0 < bs.length ∧ (fua = true ∨ cache = false) then Cworld_World_Sync (some ⟨pw, 0, none⟩) u (fun e v => R (bs.length : Int) e v) else R (bs.length : Int) 0 u)
    (hbad : lba + bs.length ≤ blocks → ∀ k : Nat, k < bs.length → (∀ i : Nat, i < k → F ((st.ops + i : Nat) : Int) = false) → F ((st.ops + k : Nat) : Int) = true → ∀ u D', Keep D w u → IsWq u pw D' { layW st file lba (rsOf bs) k with ops := st.ops + k + 1 } F → (∀ k, D' k → D k ∨ w.heap.size ≤ k) → IsS u ps pw file blocks cache → R (k : Int) 6 u) :
    Cstore_Store_Write (some ⟨ps, 0, none⟩) (lba : Int) L fua w R := by
  refine Fstore_Store_Write.calls _ _ _ _ _ _ ?_
  have hbn := rd_bk (hL w (Keep.mono (Keep.refl (fun _ => False) w) fun _ _ q => q.elim))
  refine new_rule fun lb w0 hlb hb0 hg0 hsz0 => ?_
  have hsz : w.heap.size ≤ w0.heap.size := hg0.size
  have hc0 : w0.cell? ⟨lb, 0, none⟩ = some (.slice L.A L.n L.c) := by rw [Blk.cell hb0]; rfl
  have hS0 : IsS w0 ps pw file blocks cache := hg0.heap hS (fun q => q)
  refine ⟨L, hc0, check_spec hS0 hbk hl ?_⟩
  by_cases q : lba + bs.length ≤ blocks
  case neg => rw [if_neg (by omega)]; exact br_t rfl (h1 (by omega) w0 hg0)
  rw [if_pos (by omega)]
  refine br_f rfl ⟨L, hc0, ?_⟩
  rw [← hbn]
  have hlD : ¬ D lb := fun e => by have := hw.lt e; omega
  refine lay_any (n := bs.length) (rs := rsOf bs) hS0 hps (hw.grow hg0) hs (by omega) (rsOf_len bs) ho hn (fun x u K hx hk hK => ?_) (fun hfl u D' hk hw' hD' hS' => ?_) (fun k hkl hfl hf u D' hk hw' hD' hS' => hbad q k hkl hfl hf u D' ((hg0.mono (fun _ _ e => e.elim)).trans hk fun _ _ e => e) hw' (fun j hj => ?_) hS')
  · refine ⟨rfl, ?_⟩
    show Cstore_Store_Write_1 (x : Int) ⟨lb, 0, none⟩ u K
    refine Fstore_Store_Write_1.calls _ _ _ _ ?_
    have hLu : Rd u 19 L (bs.flatMap bc) := hL u ((hg0.mono (fun _ _ e => e.elim)).trans hk fun _ _ e => e)
    obtain ⟨a, ha, hc⟩ := rd_bk_at hLu hx
    refine ⟨L, hk.cell hc0 hlD, ⟨by omega, by omega, by rw [ha]; rfl⟩, (bc bs[x]).toArray, ?_, ?_⟩
    · rw [ha]; exact loadVar_rule g_api_Block i_api_Block (by rw [bc_len]) hc
    · refine record_spec fun s u' hg hown => hK s u' hg (Own.mono ?_ (Nat.zero_le u.heap.size))
      unfold rsOf
      rw [List.getElem?_eq_getElem hx]
      exact hown
  · refine h2 q hfl u D' ((hg0.mono (fun _ _ e => e.elim)).trans hk fun _ _ e => e) hw' (fun k hk' => ?_) hS'
    rcases hD' k hk' with e | e
    · exact .inl e
    · exact .inr (by omega)
  · rcases hD' j hj with e | e
    · exact .inl e
    · exact .inr (by omega)
def rdBl (st : Wst) (file : ByteArray) (lba n : Nat) : List Bk := (List.range n).map fun i => blkAt ((st.seen file).getD []) (lba + i)
theorem lit_block (w : World) (b : Bk) : (Instr.buildSlice t_sl_api_Block 1 #[(0, .agg (bc b).toArray)]).run Tryz.prog w = .ok (.slice (some ⟨w.heap.size, 0, none⟩) 1 1) (w.alloc (.cells (bc b).toArray t_api_Block)) := by
  obtain ⟨d, g, a, r, hd, hg, ha, hr⟩ := b
  match d, hd with
  | [x0, x1, x2, x3, x4, x5, x6, x7, x8, x9, x10, x11, x12, x13, x14, x15], _ =>
    show (Instr.buildSlice t_sl_api_Block 1 #[(0, .agg #[.int .u8 (x0.toNat : Int), .int .u8 (x1.toNat : Int), .int .u8 (x2.toNat : Int), .int .u8 (x3.toNat : Int), .int .u8 (x4.toNat : Int), .int .u8 (x5.toNat : Int), .int .u8 (x6.toNat : Int), .int .u8 (x7.toNat : Int), .int .u8 (x8.toNat : Int), .int .u8 (x9.toNat : Int), .int .u8 (x10.toNat : Int), .int .u8 (x11.toNat : Int), .int .u8 (x12.toNat : Int), .int .u8 (x13.toNat : Int), .int .u8 (x14.toNat : Int), .int .u8 (x15.toNat : Int), .int .u16 (g : Int), .int .u16 (a : Int), .int .u32 (r : Int)])]).run Tryz.prog w = _
    kernel_rfl
theorem store_readR_any {w : World} {ps pw : Nat} {D : Nat → Prop} {st : Wst} {F : Int → Bool} {file : ByteArray} {blocks : Nat} {cache : Bool} {lba n : Nat} {R : Sl → Int → Int → World → Prop}
    (hS : IsS w ps pw file blocks cache) (hps : ¬ D ps) (hw : IsWq w pw D st F) (hs : 1 ≤ file.size ∧ file.size ≤ 32) (hbk : blocks ≤ 4096) (hl : lba + n ≤ blocks) (ho : st.ops < 100000000000)
    (h : (∀ i : Nat, i < n → F ((st.ops + i : Nat) : Int) = false) → ∀ out u, Keep D w u → RdW w u pw D st n → Own u w.heap.size t_api_Block 19 out ((rdBl st file lba n).flatMap bc) → out.n = n → R out (n : Int) 0 u)
    (hbad : ∀ k : Nat, k < n → (∀ i : Nat, i < k → F ((st.ops + i : Nat) : Int) = false) → F ((st.ops + k : Nat) : Int) = true → ∀ u, Keep D w u → RdW w u pw D st (k + 1) → R ⟨none, 0, 0⟩ (k : Int) 6 u) :
    Cstore_Store_Read (some ⟨ps, 0, none⟩) (lba : Int) (n : Int) w R := by
  refine Fstore_Store_Read.calls _ _ _ _ _ ?_
  refine check_spec hS hbk (by omega) ?_
  rw [if_pos hl]
  refine br_f rfl ?_
  refine ⟨fun out x u => ∃ k : Nat, x = k ∧ k ≤ n ∧ (∀ i : Nat, i < k → F ((st.ops + i : Nat) : Int) = false) ∧ Keep D w u ∧ RdW w u pw D st k ∧ Own u w.heap.size t_api_Block 19 out ((rdBl st file lba k).flatMap bc), fun _ x _ => n - x.toNat,
    ⟨0, rfl, Nat.zero_le _, (fun i hi => absurd hi (Nat.not_lt_zero _)), Keep.mono (Keep.refl (fun _ => False) w) (fun _ _ q => q.elim), RdW.refl _ _ _ _, own_nil _ _ _ _⟩, ?_⟩
  rintro out x w0 ⟨k, rfl, hk, hfl, hk0, hr0, hown⟩
  have hw0 := hr0.isWq hw
  have hol : out.n = k := by have := hown.len; rw [flat_length bc_len] at this; simp [rdBl] at this; omega
  refine br_nat (fun hlt => ?_) (fun hge => ?_)
  · rintro w1 rfl
    have hg1 : Grow w0 w0.drew := keep_drew w0
    have hk1 : Keep D w w0.drew := hk0.grow hg1
    have hS1 : IsS w0.drew ps pw file blocks cache := hk1.heap hS hps
    refine ⟨fun u => IsS u ps pw file blocks cache, hS1, rfl, some ⟨pw, 0, none⟩, fun u hu => by rw [gA, add0, Blk.cell hu]; rfl, rfl, file, fun u hu => by rw [gA, add0, Blk.cell hu]; rfl, ?_⟩
    have e : IntKind.wrap .i64 ((IntKind.wrap .i64 ((lba : Int) + (k : Int))) * 25) = ((25 * (lba + k) : Nat) : Int) := by
      rw [w64 (n := (lba : Int) + (k : Int)) (by omega) (by omega), w64 (by omega) (by omega)]; omega
    rw [e]
    refine world_readR_any (n := 25) (hw0.grow hg1) hs (by omega) (by decide) (by show st.ops + k < _; omega) (fun hf s w2 hk2 hr2 hown2 hsn => ?_) (fun hf w2 hk2 hr2 => br_t rfl (hbad k hlt hfl hf w2 (hk1.trans hk2 fun _ _ q => q) ((hr0.grow hg1).trans hr2)))
    refine br_f (by
      show ((_ : Int) != 0 && _) = false
      cases (st.seen file).isSome <;> rfl) ?_
    have hown2 : Own w2 w0.drew.heap.size t_uint8 1 s (bv ((((st.seen file).getD []).drop (25 * (lba + k))).take 25)) := hown2
    refine block_spec (hown2.rd (by omega)) (by omega) fun w3 hg3 => ?_
    refine lit_rule (cells := (bc (blkAt ((st.seen file).getD []) (lba + k))).toArray) (e := t_api_Block) (z := 19) (base := 0) ?_ (by simp [bc_len]) (by decide) (Nat.zero_le _) fun w4 hlit4 hg4 _ => ?_
    · exact lit_block _ _
    have outD : ∀ b, out.blk = some b → ¬ D b := fun b hb q => by
      have h1 := (hown.ge b hb).1
      have h2 := hw.lt q
      omega
    have hown4 : Own w4 w.heap.size t_api_Block 19 out ((rdBl st file lba k).flatMap bc) := (((hown.grow hg1).keep hk2 outD).grow hg3).grow hg4
    have hk4 : Keep D w w4 := ((hk1.trans hk2 fun _ _ q => q).grow hg3).grow hg4
    refine append_rule u_sl_api_Block i_api_Block rfl (by decide) (by decide) hown4 (hlit4.rd (by show 1 ≤ _; decide)) (fun v hv => bc_ones _ v (by simpa using hv)) (by show (out.n + 1) * 24 ≤ _; omega) hk4.size fun s' w5 hn5 hown5 hk5 _ => ?_
    have hk5' : Keep D w w5 := hk4.trans (S' := fun k => some k = out.blk) hk5 fun i hi q => by
      have := (hown4.ge i q.symm).1; omega
    rw [w64 (by omega) (by omega)]
    refine ⟨⟨k + 1, by omega, by omega, fun i hi => ?_, hk5', ?_, ?_⟩, by dsimp only; omega⟩
    · by_cases e : i = k
      · subst e; exact hf
      · exact hfl i (by omega)
    · have := (((hr0.grow hg1).trans hr2).grow hg3 |>.grow hg4).keep hk5 (fun k hk q => outD k q.symm hk) (fun g cur hg q => ?_)
      · exact this
      · obtain ⟨cur', hc'⟩ := own_heap hown4 q.symm
        rw [hc'] at hg
        injection hg with hg
        injection hg with _ ht
        exact absurd ht (by decide)
    · have er : (rdBl st file lba (k + 1)).flatMap bc = (rdBl st file lba k).flatMap bc ++ bc (blkAt ((st.seen file).getD []) (lba + k)) := by
        unfold rdBl
        rw [List.range_succ, List.map_append, List.flatMap_append]
        simp
      rw [er]
      simpa using hown5
  · have hkn : k = n := by omega
    subst hkn
    exact h hfl out w0 hk0 hr0 hown hol
end Go.Proofs.YtpmebahhjgkflaaGreatDoor

/- Layer 2: the sum of bytes. -/
namespace Go.Proofs.YtpmebahhjgkflaaGreatDoor
open Go CF
set_option maxRecDepth 100000

def poly : Nat := 0x82f63b78
/-- one bit of the sum -/
def crcG (s : Nat) : Nat := if s % 2 = 1 then (s / 2) ^^^ poly else s / 2
def crcGs : Nat → Nat → Nat
  | 0, s => s
  | k + 1, s => crcG (crcGs k s)
def crcB (s : Nat) (b : UInt8) : Nat := crcGs 8 (s ^^^ b.toNat)
def crcS (s : Nat) (l : L8) : Nat := l.foldl crcB s
def c32 (l : L8) : Nat := crcS 0xffffffff l ^^^ 0xffffffff
theorem xor_lt32 {a b : Nat} (ha : a < 4294967296) (hb : b < 4294967296) : a ^^^ b < 4294967296 := Nat.xor_lt_two_pow (n := 32) ha hb
theorem crcG_lt {s : Nat} (h : s < 4294967296) : crcG s < 4294967296 := by
  unfold crcG
  split
  · exact xor_lt32 (by omega) (by decide)
  · omega
theorem crcGs_lt {s : Nat} (h : s < 4294967296) : ∀ k, crcGs k s < 4294967296
  | 0 => h
  | k + 1 => crcG_lt (crcGs_lt h k)
theorem crcB_lt {s : Nat} (h : s < 4294967296) (b : UInt8) : crcB s b < 4294967296 := crcGs_lt (xor_lt32 h (by have := b.toNat_lt; omega)) 8
theorem crcS_lt {l : L8} : ∀ {s : Nat}, s < 4294967296 → crcS s l < 4294967296 := by
  induction l with
  | nil => intro s h; exact h
  | cons b r ih => intro s h; exact ih (crcB_lt h b)
theorem crcS_append (s : Nat) (a b : L8) : crcS s (a ++ b) = crcS (crcS s a) b := by simp [crcS, List.foldl_append]
theorem crcS_snoc (s : Nat) (a : L8) (b : UInt8) : crcS s (a ++ [b]) = crcB (crcS s a) b := by rw [crcS_append]; rfl
/-! ### another byte, another sum -/
/-! ### the same, a bit at a time -/
/-! ### the same in the model's words -/
theorem xor32 {a b : Nat} (ha : a < 4294967296) (hb : b < 4294967296) : bXor .u32 (a : Int) (b : Int) = ((a ^^^ b : Nat) : Int) := by
  unfold bXor
  show IntKind.wrap .u32 (((BitVec.ofInt 32 (a : Int) ^^^ BitVec.ofInt 32 (b : Int)).toNat : Nat) : Int) = _
  rw [BitVec.ofInt_natCast, BitVec.ofInt_natCast, BitVec.toNat_xor, BitVec.toNat_ofNat, BitVec.toNat_ofNat, Nat.mod_eq_of_lt (by omega), Nat.mod_eq_of_lt (by omega)]
  have := xor_lt32 ha hb
  exact wu32 (by omega) (by omega)
theorem and32_1 {a : Nat} (ha : a < 4294967296) : bAnd .u32 (a : Int) 1 = ((a % 2 : Nat) : Int) := by
  unfold bAnd
  show IntKind.wrap .u32 (((BitVec.ofInt 32 (a : Int) &&& BitVec.ofInt 32 ((1 : Nat) : Int)).toNat : Nat) : Int) = _
  rw [BitVec.ofInt_natCast, BitVec.ofInt_natCast, BitVec.toNat_and, BitVec.toNat_ofNat, BitVec.toNat_ofNat, Nat.mod_eq_of_lt (by omega), Nat.mod_eq_of_lt (by omega)]
  rw [Nat.and_one_is_mod]
  exact wu32 (by omega) (by omega)
theorem not32 {a : Nat} (ha : a < 4294967296) : bNot .u32 (a : Int) = ((a ^^^ 4294967295 : Nat) : Int) := by
  unfold bNot
  have e : (if IntKind.signed .u32 = true then (-1 : Int) else IntKind.max .u32) = ((4294967295 : Nat) : Int) := by decide
  rw [e, xor32 (by decide) ha, Nat.xor_comm]
end Go.Proofs.YtpmebahhjgkflaaGreatDoor

/- Layer 2: the program's sum and the reference's. -/
namespace Go.Proofs.YtpmebahhjgkflaaGreatDoor
open Go CF
set_option maxRecDepth 100000

theorem crc_br {s : Nat} (hs : s < 4294967296) {X Y : Prop} (h1 : s % 2 = 1 → X) (h0 : s % 2 = 0 → Y) : Br ((bAnd .u32 (s : Int) 1) == 1) X Y := by
  rw [and32_1 hs]
  exact br_eq (fun q => h1 (by omega)) (fun q => h0 (by omega))
theorem crc_v1 {s : Nat} (hs : s < 4294967296) (h : s % 2 = 1) : bXor .u32 (bShr .u32 (s : Int) 1) 2197175160 = ((crcG s : Nat) : Int) := by
  rw [shr .u32 s 1 (by decide)]
  have := xor32 (a := s / 2) (b := poly) (by omega) (by decide)
  unfold crcG
  rw [if_pos h]
  exact this
theorem crc_v0 {s : Nat} (h : s % 2 = 0) : bShr .u32 (s : Int) 1 = ((crcG s : Nat) : Int) := by
  rw [shr .u32 s 1 (by decide)]
  unfold crcG
  rw [if_neg (by omega)]
theorem crc_add32_spec {p : Sl} {l : L8} {s : Nat} {w : World} {R : Int → World → Prop} (hp : Rd w 1 p (bv l)) (hs : s < 4294967296)
    (h : R ((crcS (s ^^^ 4294967295) l ^^^ 4294967295 : Nat) : Int) w) : Ccrc_Add32 (s : Int) p w R := by
  refine Fcrc_Add32.calls _ _ _ _ ?_
  have hln : l.length = p.n := by have := hp.len; rw [bv_length] at this; omega
  have hnb := hp.nb
  have hs' : s ^^^ 4294967295 < 4294967296 := xor_lt32 hs (by decide)
  refine ⟨fun v x w' => w' = w ∧ ∃ j : Nat, x = j ∧ j ≤ p.n ∧ v = ((crcS (s ^^^ 4294967295) (l.take j) : Nat) : Int), fun _ x _ => p.n - x.toNat, ⟨rfl, 0, rfl, Nat.zero_le _, not32 hs⟩, ?_⟩
  rintro v x w0 ⟨rfl, j, rfl, hj, rfl⟩
  have hcs : crcS (s ^^^ 4294967295) (l.take j) < 4294967296 := crcS_lt hs'
  refine br_nat (fun hlt => ?_) (fun hge => ?_)
  · obtain ⟨a, ha, hc⟩ := hp.byte (i := j) hlt
    have hjs : j < l.length := by omega
    have hb8 := l[j].toNat_lt
    refine ⟨⟨by omega, by omega, by rw [ha]; rfl⟩, (l[j].toNat : Int), by rw [ha]; exact hc, ?_⟩
    rw [wu32 (n := (l[j].toNat : Int)) (by omega) (by omega), xor32 hcs (by omega)]
    generalize hT : crcS (s ^^^ 4294967295) (l.take j) ^^^ l[j].toNat = T
    have hTl : T < 4294967296 := by rw [← hT]; exact xor_lt32 hcs (by omega)
    refine ⟨fun v x w' => w' = w0 ∧ ∃ k : Nat, x = k ∧ k ≤ 8 ∧ v = ((crcGs k T : Nat) : Int), fun _ x _ => 8 - x.toNat, ⟨rfl, 0, rfl, by decide, rfl⟩, ?_⟩
    rintro v x w1 ⟨rfl, k, rfl, hk, rfl⟩
    refine br_dec (fun hlt8 => ?_) (fun hge8 => ?_)
    · refine crc_br (crcGs_lt hTl k) (fun q => ?_) (fun q => ?_)
      · rw [crc_v1 (crcGs_lt hTl k) q, w64 (by omega) (by omega)]
        exact ⟨⟨rfl, k + 1, by omega, by omega, rfl⟩, by dsimp only; omega⟩
      · rw [crc_v0 q, w64 (by omega) (by omega)]
        exact ⟨⟨rfl, k + 1, by omega, by omega, rfl⟩, by dsimp only; omega⟩
    · have : k = 8 := by omega
      subst this
      rw [w64 (by omega) (by omega)]
      refine ⟨⟨rfl, j + 1, by omega, by omega, ?_⟩, by dsimp only; omega⟩
      rw [List.take_succ_eq_append_getElem hjs, crcS_snoc]
      unfold crcB
      rw [hT]
  · have : j = p.n := by omega
    subst this
    rw [List.take_of_length_le (by omega)] at hcs ⊢
    rw [not32 hcs]
    exact h
theorem crc_c32_spec {p : Sl} {l : L8} {w : World} {R : Int → World → Prop} (hp : Rd w 1 p (bv l)) (h : R ((c32 l : Nat) : Int) w) : Ccrc_C32 p w R := by
  refine Fcrc_C32.calls _ _ _ ?_
  refine crc_add32_spec (s := 0) hp (by decide) ?_
  rw [Nat.zero_xor]
  exact h
end Go.Proofs.YtpmebahhjgkflaaGreatDoor

/- Rules: a byte put into a row of one's own, rows that are made, noughts behind a row. -/
namespace Go.Proofs.YtpmebahhjgkflaaGreatDoor.CF
open Go Go.RowKit
set_option maxRecDepth 100000

theorem own_put {w : World} {base : Nat} {e : TypeId} {s : Sl} {vs : List Value} (hs : Own w base e 1 s vs) {i : Nat} (hi : i < s.n) {v : Value} (hv : v.oneCell' = true)
    {K : World → Prop} (h : ∀ w1, Own w1 base e 1 s (vs.set i v) → Keep (fun k => some k = s.blk) w w1 → w1.heap.size = w.heap.size → K w1) : Put ((gA s.A).add (i * 1)) v w K := by
  obtain ⟨hlen, hown⟩ := hs
  rcases hown with ⟨_, hn0⟩ | ⟨g, cap, cur, hv', hbg, hg, hnc, hcm, hcs, htake⟩
  · omega
  · injection hv' with hA hN hC
    have hcs' : cur.size = cap := by simpa using hcs
    rw [Nat.mul_one, hA, gA, add0, Nat.zero_add]
    refine put_rule hg (by omega) hv fun w1 hb1 hk1 hsz1 => ?_
    refine h w1 ⟨by rw [List.length_set]; exact hlen, .inr ⟨g, cap, _, by rw [hA, hC], hbg, hb1, hnc, hcm, by simpa using hcs, ?_⟩⟩ (hk1.mono fun k _ q => by simp [Sl.blk, hA, q]) hsz1
    have hF : cur.toList.take (s.n * 1) = vs := htake
    rw [← hF, Array.toList_setIfInBounds, List.take_set]
theorem make_rule {P : Program} {w : World} {t e : TypeId} {zv : Value} {bytes n base : Nat} (ht : P.underlying t = some (.slice e)) (hinfo : (P.info? e).map (fun i => (i.zero, i.size, i.bytes)) = some (some zv, 1, bytes)) (hzc : zv.cells = #[zv])
    (hb : bytes * n ≤ 281474976710656) (hn : n ≤ 140737488355328) (hbase : base ≤ w.heap.size)
    {K : Sl → World → Prop} (h : ∀ w1, Own w1 base e 1 ⟨some ⟨w.heap.size, 0, none⟩, n, n⟩ (List.replicate n zv) → Grow w w1 → w1.heap.size = w.heap.size + 1 → K ⟨some ⟨w.heap.size, 0, none⟩, n, n⟩ w1) :
    RunK P .sl (Instr.makeSlice t (.int .i64 (n : Int)) (.int .i64 (n : Int))) w K := by
  obtain ⟨i, hi, hzz⟩ := Option.map_eq_some_iff.1 hinfo
  simp only [Prod.mk.injEq] at hzz
  obtain ⟨hz, hsz, hby⟩ := hzz
  have hb' : (i.bytes : Int) * (n : Int) ≤ 281474976710656 := by
    rw [hby, ← Int.natCast_mul]; omega
  have hr := run_make (P := P) w t e i zv ht hi hz .i64 .i64 (n : Int) (n : Int) (by omega) (Int.le_refl _) hb' (by omega)
  simp only [Int.toNat_natCast] at hr
  refine ⟨⟨some ⟨w.heap.size, 0, none⟩, n, n⟩, _, hr, h _ ?_ (keep_alloc w _) (by simp)⟩
  have hm : madeCells zv.cells (n * i.size) = (List.replicate n zv).toArray := by
    rw [hzc, hsz, Nat.mul_one]
    apply Array.ext
    · simp [madeCells]
    · intro k h1 h2
      simp [madeCells, Nat.mod_one]
  rw [hm]
  have := World.ownsRow_lit (e := e) (size := 1) (base := base) w (List.replicate n zv).toArray n hbase (by unfold maxLen; omega) (by simp)
  exact this
theorem append_zeros_rule {P : Program} {w : World} {t tn ty e : TypeId} {zv : Value} {base k : Nat} (ht : P.underlying t = some (.slice e)) (htn : P.underlying tn = some (.int .i64)) (hinfo : (P.info? e).map (fun i => (i.zero, i.size, i.bytes)) = some (some zv, 1, 1)) (hzc : zv.cells = #[zv])
    {s : Sl} {vs : List Value} (hs : Rd w 1 s vs) (hc : s.c < s.n + k) (hk : 0 < k) (hbd : s.n + k ≤ 1000000000) (hbase : base ≤ w.heap.size)
    {K : Sl → World → Prop} (h : ∀ s' w', s'.n = s.n + k → Own w' base e 1 s' (vs ++ List.replicate k zv) → Grow w w' → s'.blk = some w.heap.size → K s' w') :
    RunK P .sl (Builtin.append_ #[t, tn] ty #[.slice s.A s.n s.c, .int .i64 (k : Int)]) w K := by
  obtain ⟨i, hi, hzz⟩ := Option.map_eq_some_iff.1 hinfo
  simp only [Prod.mk.injEq] at hzz
  obtain ⟨hz, hsz, hby⟩ := hzz
  have hvl : vs.length = s.n := by have := hs.len; omega
  have hold : (Builtin.firstCells i.size s.n (.slice s.A s.n s.c)).run P w.drew = .ok vs.toArray w.drew := by
    rw [hsz]
    by_cases hne : vs = []
    · subst hne
      simp only [List.length_nil] at hvl
      rw [← hvl]
      cases hA : s.A with
      | none => exact run_firstCells_none (P := P) (w := w.drew) 1 0 0 _
      | some a => exact run_firstCells_some (P := P) (w := w.drew) 1 0 a 0 s.c [] rfl (fun j v hj => by simp at hj)
    · obtain ⟨a, ha, hc⟩ := (hs.grow (keep_drew w)).at_ hne
      rw [ha]
      exact run_firstCells_some (P := P) (w := w.drew) 1 s.n a s.n s.c vs (by omega) hc
  have hr := Go.Lib.run_append_grow_zeros (P := P) w t tn ty e i zv .i64 .i64 ht htn hi hz s.A s.n s.c vs hold k hk (by omega) hc (by omega) (by rw [hby]; omega) (by rw [hby]; exact growslice_fits (by omega) (by omega))
  refine ⟨⟨some ⟨w.heap.size, 0, none⟩, s.n + k, grownCap w (s.n + k) s.c e⟩, _, hr, h _ _ rfl ?_ ⟨rfl, rfl, rfl, by simp, fun k hk _ => heap_alloc_lt w.drew _ k hk⟩ rfl⟩
  have hge := grownCap_ge w (s.n + k) s.c e
  have hcm : grownCap w (s.n + k) s.c e ≤ maxLen := grownCap_le_maxLen w (s.n + k) s.c e (by unfold maxLen; omega)
  have hzk : ∀ m, (Builtin.zeroCells zv.cells m).size = m := fun m => by rw [size_zeroCells, hzc]; simp
  have hzr : (Builtin.zeroCells zv.cells k).toList = List.replicate k zv := by
    rw [hzc]
    apply List.ext_getElem
    · rw [Array.length_toList, ← hzc, hzk]; simp
    · intro j h1 h2
      simp [Builtin.zeroCells, Nat.mod_one]
  refine ⟨by simp; omega, .inr ⟨w.heap.size, grownCap w (s.n + k) s.c e, _, rfl, hbase, heap_alloc_new w.drew _, hge, hcm, ?_, ?_⟩⟩
  · simp only [Array.size_append, List.size_toArray, hzk, hvl]
    omega
  · simp only [Array.toList_append, hzr]
    have : (vs ++ List.replicate k zv).length = (s.n + k) * 1 := by simp; omega
    rw [← this]
    exact List.take_left
/-- append(s, x...) where both together are greater than half of what a row may be -/
theorem append_wide_rule {P : Program} {w : World} {base : Nat} {t ty e : TypeId} {zv : Value} {z bytes : Nat} (ht : P.underlying t = some (.slice e)) (hinfo : (P.info? e).map (fun i => (i.zero, i.size, i.bytes)) = some (some zv, z, bytes))
    (hzc : zv.cells.size = z) (hz0 : 0 < z) (hb0 : 0 < bytes) {s x : Sl} {vs xs : List Value} (hs : Own w base e z s vs) (hx : Rd w z x xs) (h1 : ∀ u ∈ xs, u.oneCell' = true)
    (hm : s.n + x.n ≤ 140737489403904) (hbd : ((s.n + x.n) + (s.n + x.n) / 4 + 192) * bytes ≤ 281474976710656) (hbase : base ≤ w.heap.size) {K : Sl → World → Prop}
    (h : ∀ s' w', s'.n = s.n + x.n → Own w' base e z s' (vs ++ xs) → Keep (fun k => some k = s.blk) w w' → K s' w') :
    RunK P .sl (Builtin.append_ #[t, t] ty #[.slice s.A s.n s.c, .slice x.A x.n x.c]) w K := by
  obtain ⟨i, hi, hzz⟩ := Option.map_eq_some_iff.1 hinfo
  simp only [Prod.mk.injEq] at hzz
  obtain ⟨hz, hsz, hby⟩ := hzz
  have blk : (Value.slice s.A s.n s.c).ownBlock = s.blk := by unfold Sl.blk; cases s.A <;> rfl
  have hxl : xs.length = x.n * z := hx.len
  by_cases hne : xs = []
  · have hn0 : x.n = 0 := by
      rw [hne, List.length_nil] at hxl
      rcases Nat.mul_eq_zero.1 hxl.symm with q | q <;> omega
    have hsl := hs.len
    have hc : s.n + x.n ≤ s.c := by
      rcases hs.2 with ⟨h2, q⟩ | ⟨g, cap, cur, hv, _, _, h4, _⟩
      · injection h2 with _ e1 e2; omega
      · injection hv with _ _ e2; omega
    have hfc : (Builtin.firstCells i.size x.n (.slice x.A x.n x.c)).run P w = .ok #[] w := by
      rw [hn0]
      cases hA : x.A with
      | none => exact run_firstCells_none (P := P) (w := w) i.size 0 0 _
      | some a => exact run_firstCells_some (P := P) (w := w) i.size 0 a 0 x.c [] (by simp) (fun j v hj => by simp at hj)
    refine ⟨s, w, ?_, h s w (by omega) (by rw [hne, List.append_nil]; exact hs) (Keep.refl _ _)⟩
    show _ = Result.ok (Value.slice s.A s.n s.c) w
    rw [hn0] at hc hfc ⊢
    obtain ⟨A, n, c⟩ := s
    simp only [Nat.add_zero] at hc ⊢
    cases A <;> simp [Builtin.append_, run_underlying ht, sizeOf, typeInfo, hi, Builtin.lenOf, hfc, hc, storeCells]
  · obtain ⟨a, ha, hcells⟩ := hx.at_ hne
    obtain ⟨v', w', hr, hown, hg, _⟩ := run_append_own_wide (P := P) w base t ty e i zv z bytes ht hi hz hsz hby hzc hz0 _ s.n vs hs a x.n x.c xs hx.len hcells h1 (by unfold maxLen; omega) hbd hbase
    have hv' : ∃ s' : Sl, v' = .slice s'.A s'.n s'.c ∧ s'.n = s.n + x.n := by
      rcases hown.2 with ⟨rfl, hn⟩ | ⟨g, cap, cur, rfl, _⟩
      · exact ⟨⟨none, 0, 0⟩, rfl, hn.symm⟩
      · exact ⟨⟨some ⟨g, 0, none⟩, _, cap⟩, rfl, rfl⟩
    obtain ⟨s', rfl, hn'⟩ := hv'
    rw [ha]
    exact ⟨s', w', hr, h s' w' hn' (by have q := hown; rw [← hn'] at q; exact q) (blk ▸ keep_grownBy hg)⟩
/-! ### where ways meet: what holds there, told once -/
theorem letX0 {j : World → Prop} {body : (World → Prop) → Prop} (I : World → Prop) (h1 : ∀ u, I u → j u) (h2 : (∀ u, I u → j u) → body j) : letX j body := h2 h1
theorem letX1 {α : Type} {j : α → World → Prop} {body : (α → World → Prop) → Prop} (I : α → World → Prop) (h1 : ∀ x u, I x u → j x u) (h2 : (∀ x u, I x u → j x u) → body j) : letX j body := h2 h1
theorem letX2 {α β : Type} {j : α → β → World → Prop} {body : (α → β → World → Prop) → Prop} (I : α → β → World → Prop) (h1 : ∀ x y u, I x y u → j x y u) (h2 : (∀ x y u, I x y u → j x y u) → body j) : letX j body := h2 h1
theorem letJ1 {α : Type} {j : α → World → Prop} {body : (α → World → Prop) → Prop} (I : α → World → Prop) (h1 : ∀ x u, I x u → j x u) (h2 : (∀ x u, I x u → j x u) → body j) : letJ j body := h2 h1
end Go.Proofs.YtpmebahhjgkflaaGreatDoor.CF

/- Layer 1: numbers laid in bytes. -/
namespace Go.Proofs.YtpmebahhjgkflaaGreatDoor
open Go CF
set_option maxRecDepth 100000

def beN : Nat → Nat → L8
  | 0, _ => []
  | j + 1, v => UInt8.ofNat (v / 256 ^ j) :: beN j v
theorem beN_len : ∀ (n v : Nat), (beN n v).length = n
  | 0, _ => rfl
  | n + 1, v => by simp [beN, beN_len n v]
theorem bv_set (l : L8) (i : Nat) (b : UInt8) : (bv l).set i (.int .u8 (b.toNat : Int)) = bv (l.set i b) := by
  simp [bv, List.map_set]
/-- l with a number laid in, as it is while j bytes of n are laid -/
def layN (l : L8) (at_ n j v : Nat) : L8 := l.take (at_ + (n - j)) ++ beN j v ++ l.drop (at_ + n)
theorem layN_zero (l : L8) (at_ n v : Nat) : layN l at_ n 0 v = l := by simp [layN, beN]
theorem layN_len {l : L8} {at_ n j : Nat} (v : Nat) (h : at_ + n ≤ l.length) (hj : j ≤ n) : (layN l at_ n j v).length = l.length := by
  simp [layN, beN_len]; omega
theorem layN_step {l : L8} {at_ n j : Nat} (v : Nat) (h : at_ + n ≤ l.length) (hj : j < n) :
    (layN l at_ n j v).set (at_ + (n - 1 - j)) (UInt8.ofNat (v / 256 ^ j)) = layN l at_ n (j + 1) v := by
  unfold layN
  have e1 : at_ + (n - j) = at_ + (n - (j + 1)) + 1 := by omega
  have e2 : at_ + (n - 1 - j) = at_ + (n - (j + 1)) := by omega
  have hl : at_ + (n - (j + 1)) < l.length := by omega
  rw [e1, e2, List.take_succ_eq_append_getElem hl]
  generalize hm : at_ + (n - (j + 1)) = m at *
  have ht : (l.take m).length = m := by rw [List.length_take]; omega
  simp only [List.append_assoc]
  rw [List.set_append_right _ _ (by omega), ht, Nat.sub_self]
  rfl
def lay (l : L8) (at_ n v : Nat) : L8 := l.take at_ ++ beN n v ++ l.drop (at_ + n)
theorem layN_all (l : L8) (at_ n v : Nat) : layN l at_ n n v = lay l at_ n v := by simp [layN, lay]
theorem div_step (v j : Nat) : v / 256 ^ j / 256 = v / 256 ^ (j + 1) := by rw [Nat.pow_succ, Nat.div_div_eq_div_mul]
theorem field_spec {p : Sl} {at_ n : Nat} {w : World} {R : Int → World → Prop} (hb : p.n ≤ 140737489403904) (hn : 1 ≤ n) (hn8 : n ≤ 8) (hat : at_ + n ≤ p.n) (h : R 0 w) : Cbe_field p (at_ : Int) (n : Int) w R := by
  refine Fbe_field.calls _ _ _ _ _ ?_
  have e1 : IntKind.wrap .i64 ((p.n : Int) - (n : Int)) = (p.n : Int) - (n : Int) := w64 (by omega) (by omega)
  exact br_f (by rw [Bool.or_eq_false_iff, decide_eq_false_iff_not, decide_eq_false_iff_not]; omega) (br_f (by rw [Bool.or_eq_false_iff, decide_eq_false_iff_not, decide_eq_false_iff_not, e1]; omega) h)
theorem put_spec {p : Sl} {l : L8} {at_ n v : Nat} {w : World} {R : Sl → Int → World → Prop} (hp : Rd w 1 p (bv l)) (hb : p.n ≤ 1000000000) (hn : 1 ≤ n) (hn8 : n ≤ 8) (hat : at_ + n ≤ l.length) (hv : v < 256 ^ n)
    (h : ∀ s w', Own w' w.heap.size t_uint8 1 s (bv (lay l at_ n v)) → Grow w w' → R s 0 w') : Cbe_Put p (at_ : Int) (n : Int) (v : Int) w R := by
  refine Fbe_Put.calls _ _ _ _ _ _ ?_
  have hln : l.length = p.n := by have := hp.len; rw [bv_length] at this; omega
  refine field_spec (by omega) hn hn8 (by omega) ?_
  have e8 : IntKind.wrap .i64 (8 * (n : Int)) = ((8 * n : Nat) : Int) := by rw [w64 (by omega) (by omega)]; omega
  rw [e8, Int.toNat_natCast, shr .u64 v (8 * n) (by show 8 * n ≤ 64; omega)]
  have hz : v / 2 ^ (8 * n) = 0 := by
    refine Nat.div_eq_of_lt ?_
    rw [Nat.pow_mul]
    exact hv
  rw [hz]
  refine ⟨fun _ => by omega, br_f (by simp) (br_f rfl ?_)⟩
  refine append_rule (s := ⟨none, 0, 0⟩) (vs := []) (base := w.heap.size) u_sl_uint8 i_uint8 rfl (by decide) (by decide) (own_nil _ _ _ _) hp (bv_one' _) (by show (0 + p.n) * 1 ≤ _; omega) (Nat.le_refl _) fun s1 w1 hn1 hown1 hk1 _ => ?_
  have hg1 : Grow w w1 := hk1.mono fun i hi q => by cases q
  rw [List.nil_append] at hown1
  have hn1 : s1.n = p.n := by rw [hn1]; exact Nat.zero_add _
  refine ⟨fun x i u => ∃ j : Nat, j ≤ n ∧ i = ((n : Int) - 1 - (j : Int)) ∧ x = ((v / 256 ^ j : Nat) : Int) ∧ Grow w u ∧ Own u w.heap.size t_uint8 1 s1 (bv (layN l at_ n j v)), fun _ i _ => (i + 1).toNat,
    ⟨0, Nat.zero_le _, by rw [w64 (by omega) (by omega)]; omega, by simp, hg1, by rw [layN_zero]; exact hown1⟩, ?_⟩
  rintro x i w2 ⟨j, hj, rfl, rfl, hg2, hown2⟩
  refine br_dec (fun hlt => ?_) (fun hge => ?_)
  · have e1 : IntKind.wrap .i64 ((at_ : Int) + ((n : Int) - 1 - (j : Int))) = ((at_ + (n - 1 - j) : Nat) : Int) := by rw [w64 (by omega) (by omega)]; omega
    rw [e1, Int.toNat_natCast, wrap_u8]
    have hs1A : s1.A.isSome = true := by
      have hne : bv (layN l at_ n j v) ≠ [] := fun q => by have := congrArg List.length q; rw [bv_length, layN_len v hat (by omega), List.length_nil] at this; omega
      obtain ⟨a, ha, _⟩ := (hown2.rd (by omega)).at_ hne
      rw [ha]; rfl
    refine ⟨⟨by omega, by omega, hs1A⟩, ?_⟩
    refine own_put (i := at_ + (n - 1 - j)) hown2 (by omega) rfl fun w3 hown3 hk3 _ => ?_
    rw [bv_set, layN_step v hat (by omega)] at hown3
    rw [shr .u64 _ 8 (by decide), w64 (by omega) (by omega)]
    refine ⟨⟨j + 1, by omega, by omega, ?_, hg2.keep hk3 fun i hi q => by have := (hown2.ge i q.symm).1; omega, hown3⟩, by dsimp only; omega⟩
    rw [← div_step]
  · have : j = n := by omega
    subst this
    rw [layN_all] at hown2
    exact h s1 w2 hown2 hg2
end Go.Proofs.YtpmebahhjgkflaaGreatDoor

/- Layer 4: what was written is read; lists of blocks that are alike. -/
namespace Go.Proofs.YtpmebahhjgkflaaGreatDoor
open Go CF
set_option maxRecDepth 100000

def cont (st : Wst) (file : ByteArray) : L8 := (st.seen file).getD []
theorem cont_step (st : Wst) (file : ByteArray) (o : Nat) (r : L8) : cont (stepW st file o r) file = wr (cont st file) o r := by
  simp [cont, stepW, applyWr, setF]
theorem layW_file {st : Wst} {file : ByteArray} {lba : Nat} {bs : List Bk} (hg : Good (cont st file)) : ∀ k, k ≤ bs.length → Good (cont (layW st file lba (rsOf bs) k) file) ∧
    ∀ j, blkAt (cont (layW st file lba (rsOf bs) k) file) j = if lba ≤ j ∧ j < lba + k then (bs[j - lba]?).getD emptyB else blkAt (cont st file) j
  | 0, _ => ⟨hg, fun j => by rw [if_neg (by omega)]; rfl⟩
  | k + 1, hk => by
    obtain ⟨h1, h2⟩ := layW_file (lba := lba) (bs := bs) hg k (by omega)
    have hr : rsOf bs k = recB (bs[k]'(by omega)) := by unfold rsOf; rw [List.getElem?_eq_getElem (by omega)]
    refine ⟨?_, fun j => ?_⟩
    · show Good (cont (stepW _ file _ _) file)
      rw [cont_step, hr]; exact good_rec h1 _ _
    · show blkAt (cont (stepW _ file _ _) file) j = _
      rw [cont_step, hr, blkAt_rec h1, h2]
      by_cases e : j = lba + k
      · subst e
        rw [if_pos rfl, if_pos (by omega), Nat.add_sub_cancel_left, List.getElem?_eq_getElem (by omega)]
        rfl
      · rw [if_neg e]
        by_cases q : lba ≤ j ∧ j < lba + k
        · rw [if_pos q, if_pos (by omega)]
        · rw [if_neg q, if_neg (by omega)]
end Go.Proofs.YtpmebahhjgkflaaGreatDoor

/- Layer 4: blocks as arguments; the law of two pieces. -/
namespace Go.Proofs.YtpmebahhjgkflaaGreatDoor
open Go CF
set_option maxRecDepth 100000

section
variable {H : Type} {enc : TypeId × Value → H} {w : World} {base : Nat} {spare : Nat → Bool} {held : Bool}
end
theorem rdBl_list {st : Wst} {file : ByteArray} {a n : Nat} {l : List Bk} (hn : l.length = n) (h : ∀ i (hi : i < l.length), blkAt (cont st file) (a + i) = l[i]) : rdBl st file a n = l := by
  unfold rdBl
  apply List.ext_getElem
  · simp [hn]
  · intro i h1 h2
    rw [List.getElem_map, List.getElem_range]
    exact h i h2
end Go.Proofs.YtpmebahhjgkflaaGreatDoor

/- Layer 3: what waits is done; how much waits. -/
namespace Go.Proofs.YtpmebahhjgkflaaGreatDoor
open Go CF
set_option maxRecDepth 100000

def apC (F : Files) (c : Cg) : Files := applyWr F c.name c.off c.p
def apAll (F : Files) (l : List Cg) : Files := l.foldl apC F
theorem apAll_snoc (F : Files) (l : List Cg) (c : Cg) : apAll F (l ++ [c]) = apC (apAll F l) c := by simp [apAll]
/-- all that waits is written within bounds -/
def Wok (st : Wst) : Prop := ∀ c ∈ st.waits, c.kind = 119 ∧ c.off + c.p.length ≤ 1048576
theorem sync_any {w : World} {pw : Nat} {D : Nat → Prop} {st : Wst} {F : Int → Bool} {R : Int → World → Prop} (hw : IsWq w pw D st F) (hk : Wok st) (ho : st.ops < 1000000000000) (hn : st.waits.length < 1000000000)
    (h : F (st.ops : Int) = false → ∀ w' D', Keep D w w' → IsWq w' pw D' ⟨st.seen, apAll st.dur st.waits, [], st.ops + 1⟩ F → (∀ k, D' k → D k ∨ w.heap.size ≤ k) → R 0 w')
    (hbad : F (st.ops : Int) = true → ∀ w', Keep D w w' → IsWq w' pw D { st with ops := st.ops + 1 } F → R 6 w') : Cworld_World_Sync (some ⟨pw, 0, none⟩) w R := by
  obtain ⟨pl, hF, mb, md, ws, cs, hw⟩ := hw
  subst hF
  refine Fworld_World_Sync.calls _ _ _ ?_
  refine br_f rfl ?_
  refine call_any hw ho fun w1 hk1 hw1 => ?_
  have hk1D : Keep D w w1 := hk1.mono fun _ _ q => by subst q; exact hw.dw
  cases hfl : pl.F (st.ops : Int) with
  | true => exact br_t rfl (hbad hfl w1 hk1D ⟨pl, rfl, mb, md, ws, cs, hw1⟩)
  | false =>
  have h := h hfl
  refine br_f rfl ⟨rfl, ws, by rw [gA, add0, hw1.blk.cell]; rfl, ?_⟩
  have hlen : cs.length = st.waits.length := by rw [← hw.waits, List.length_map]
  have hwn : ws.n = cs.length := by have := hw.own.len; rw [cgv_flat] at this; omega
  refine ⟨fun x u => ∃ j : Nat, x = j ∧ j ≤ cs.length ∧ Keep D w u ∧ IsWd u pw D ⟨st.seen, apAll st.dur (st.waits.take j), st.waits, st.ops + 1⟩ pl mb md ws cs, fun x _ => cs.length - x.toNat,
    ⟨0, rfl, Nat.zero_le _, hk1D, hw1⟩, ?_⟩
  rintro x w2 ⟨j, rfl, hj, hk2, hw2⟩
  refine br_nat (fun hlt => ?_) (fun hge => ?_)
  · have hjc : j < cs.length := by omega
    have hjw : j < st.waits.length := by omega
    have hcj : cs[j].1 = st.waits[j] := by
      have := hw.waits
      simp only [← this, List.getElem_map]
    obtain ⟨hkind, hbnd⟩ := hk _ (List.getElem_mem hjw)
    obtain ⟨a, ha, hc⟩ := (hw2.own.rd (by omega)).elem (i := j) (by omega) (by decide)
    rw [flat_elem cgv_len hjc] at hc
    have lv : ∀ {u : World} {b : Addr}, Cells u b (cgv cs[j]) → (loadVar t_world_change b).run Tryz.prog u = .ok (.agg (cgv cs[j]).toArray) u := fun q => loadVar_rule g_world_change i_world_change rfl q
    refine ⟨⟨by omega, by omega, by rw [ha]; rfl⟩, (cgv cs[j]).toArray, by rw [ha]; exact lv hc, ?_⟩
    refine new_rule fun cb w3 hcb hb3 hg3 hsz3 => ?_
    have hw3 := hw2.keep hg3 (fun _ _ q => q) (nobytes_none w2)
    refine storeVar_rule (cells := (cgv cs[j]).toArray) hb3 i_world_change rfl rfl (by simp [cgv, Value.oneCell']) fun w4 hb4 hk4 hsz4 => ?_
    have hg4 : Grow w2 w4 := hg3.keep hk4 fun i hi q => by omega
    have hw4 := hw2.keep hg4 (fun _ _ q => q) (nobytes_none w2)
    rintro w5 rfl
    have hg5 : Grow w4 w4.drew := keep_drew w4
    have hw5 := hw4.keep hg5 (fun _ _ q => q) (nobytes_none w4)
    have hb5 : Blk w4.drew cb (cgv cs[j]).toArray t_world_change := hg5.heap hb4 (fun q => q)
    refine ⟨fun u => Blk u pw (wcells pl.mf mb md ws (st.ops + 1)) t_world_World ∧ Blk u cb (cgv cs[j]).toArray t_world_change, ⟨hw5.blk, hb5⟩, rfl, some md, fun u hu => by rw [gA, add0, hu.1.cell]; rfl, (cgv cs[j]).toArray, fun u hu => lv (blk_cells hu.2), cs[j].2, fun u hu => by rw [add0, hu.2.cell]; rfl, ?_⟩
    have hrow := hw5.rows _ (List.getElem_mem hjc)
    have hpl : cs[j].1.p.length = cs[j].2.n := by have := hrow.len; rw [bv_length] at this; omega
    have e : (cgv cs[j]).toArray = #[.int .u8 119, .string cs[j].1.name, .string cs[j].1.to, .int .i64 (cs[j].1.off : Int), .slice cs[j].2.A cs[j].2.n cs[j].2.c] := by
      unfold cgv; rw [hcj, hkind]
    rw [e]
    refine apply_w_spec hw5.dur (hrow.rd (by rw [hcj] at hpl; omega)) (by rw [hcj]; exact hbnd) fun w6 hk6 hF6 => ?_
    have hw6 := hw5.setDur hk6 hF6
    rw [show (cs[j].1.p).take cs[j].2.n = cs[j].1.p from List.take_of_length_le (by omega)] at hw6
    have hk6D : Keep D w w6 := (((hk2.grow hg4).grow hg5)).trans hk6 fun _ _ q => by subst q; exact hw.dd
    rw [w64 (by omega) (by omega)]
    refine ⟨⟨j + 1, by omega, by omega, hk6D, ?_⟩, by dsimp only; omega⟩
    rw [List.take_succ_eq_append_getElem hjw, apAll_snoc, ← hcj]
    exact hw6
  · have hjn : j = st.waits.length := by omega
    rw [hjn, List.take_length] at hw2
    refine ⟨rfl, ?_⟩
    rw [gA, add0]
    refine put_rule hw2.blk (by show 2 < 7; decide) rfl fun w3 hb3 hk3 hsz3 => ?_
    have hfin := hw2.setWaits (w1 := w2) (w2 := w3) (ws' := ⟨none, 0, 0⟩) (cs' := []) (Keep.mono (Keep.refl (fun _ => False) w2) fun _ _ q => q.elim) (own_nil _ _ _ _) (.inr (.inr rfl)) (fun c hc => by cases hc) hb3 hk3
    have s2 := hk2.size
    refine h w3 (fun k => ((k = pw ∨ k = mb ∨ k = md) ∨ some k = (⟨none, 0, 0⟩ : Sl).blk) ∨ pl.mf = some k) (hk2.trans hfin.2.1 fun _ _ q => q) ⟨pl, rfl, mb, md, ⟨none, 0, 0⟩, [], hfin.1⟩ fun k hk => ?_
    rcases hfin.2.2 k hk with q | q
    · exact .inl q
    · exact .inr (by omega)
theorem sync_spec {w : World} {pw : Nat} {D : Nat → Prop} {st : Wst} {R : Int → World → Prop} (hw : IsW w pw D st) (hk : Wok st) (ho : st.ops < 1000000000000) (hn : st.waits.length < 1000000000)
    (h : ∀ w' D', Keep D w w' → IsW w' pw D' ⟨st.seen, apAll st.dur st.waits, [], st.ops + 1⟩ → (∀ k, D' k → D k ∨ w.heap.size ≤ k) → R 0 w') : Cworld_World_Sync (some ⟨pw, 0, none⟩) w R :=
  sync_any hw.q hk ho hn (fun _ w' D' k hw' hd => h w' D' k hw'.isW hd) (fun q => by cases q)
end Go.Proofs.YtpmebahhjgkflaaGreatDoor

/- Layer 4: writing with what is made durable; the law of caches. -/
namespace Go.Proofs.YtpmebahhjgkflaaGreatDoor
open Go CF
set_option maxRecDepth 100000

def synced (s : Wst) : Wst := ⟨s.seen, apAll s.dur s.waits, [], s.ops + 1⟩
def syncIf (y : Bool) (s : Wst) : Wst := if y then synced s else s
theorem syncIf_seen (y : Bool) (s : Wst) : (syncIf y s).seen = s.seen := by cases y <;> rfl
theorem syncIf_ops (y : Bool) (s : Wst) : (syncIf y s).ops ≤ s.ops + 1 := by
  cases y
  · exact Nat.le_succ _
  · exact Nat.le_refl _
theorem syncIf_waits (y : Bool) (s : Wst) : (syncIf y s).waits = if y then [] else s.waits := by cases y <;> rfl
theorem syncIf_ok {y : Bool} {s : Wst} (h : Wok s) : Wok (syncIf y s) := by
  cases y
  · exact h
  · exact fun c hc => by cases hc
theorem layW_ok {st : Wst} {file : ByteArray} {lba : Nat} {rs : Nat → L8} (h : Wok st) (hlen : ∀ i, (rs i).length ≤ 25) : ∀ k, lba + k ≤ 4096 → Wok (layW st file lba rs k)
  | 0, _ => h
  | k + 1, hb => by
    intro c hc
    have ih := layW_ok (lba := lba) (file := file) h hlen k (by omega)
    rcases List.mem_append.1 hc with q | q
    · exact ih c q
    · rw [List.mem_singleton.1 q]
      refine ⟨rfl, ?_⟩
      have := hlen k
      show 25 * (lba + k) + (rs k).length ≤ _
      omega
/-- does a write end with a sync? -/
def syncs (n : Nat) (fua cache : Bool) : Bool := decide (0 < n) && (fua || !cache)
theorem store_write2_any {w : World} {ps pw : Nat} {D : Nat → Prop} {st : Wst} {F : Int → Bool} {file : ByteArray} {blocks : Nat} {cache fua : Bool} {lba : Nat} {L : Sl} {bs : List Bk} {R : Int → Int → World → Prop}
    (hS : IsS w ps pw file blocks cache) (hps : ¬ D ps) (hw : IsWq w pw D st F) (hok : Wok st) (hs : 1 ≤ file.size ∧ file.size ≤ 32) (hbk : blocks ≤ 4096) (hl : lba + bs.length ≤ blocks) (hL : ∀ u, Keep D w u → Rd u 19 L (bs.flatMap bc))
    (ho : st.ops < 10000000000) (hn : st.waits.length < 800000000)
    (h : (∀ i : Nat, i < bs.length + (if syncs bs.length fua cache then 1 else 0) → F ((st.ops + i : Nat) : Int) = false) → ∀ u D', Keep D w u → IsWq u pw D' (syncIf (syncs bs.length fua cache) (layW st file lba (rsOf bs) bs.length)) F → (∀ k, D' k → D k ∨ w.heap.size ≤ k) → IsS u ps pw file blocks cache → R (bs.length : Int) 0 u)
    (hbad : ∀ k : Nat, k < bs.length + (if syncs bs.length fua cache then 1 else 0) → (∀ i : Nat, i < k → F ((st.ops + i : Nat) : Int) = false) → F ((st.ops + k : Nat) : Int) = true → ∀ u D', Keep D w u → IsWq u pw D' { layW st file lba (rsOf bs) k with ops := st.ops + k + 1 } F → (∀ k, D' k → D k ∨ w.heap.size ≤ k) → IsS u ps pw file blocks cache → R (k : Int) 6 u) :
    Cstore_Store_Write (some ⟨ps, 0, none⟩) (lba : Int) L fua w R := by
  refine store_write_any hS hps hw hs hbk (by omega) hL (by omega) (by omega) (fun q => absurd q (by omega)) (fun _ hfl u D' hk hw' hD' hS' => ?_) (fun _ k hk0 hfl hf u D' hk hw' hD' hS' => hbad k (by omega) hfl hf u D' hk hw' hD' hS')
  obtain ⟨lo, lw⟩ := layW_ops st file lba (rsOf bs) bs.length
  by_cases q : 0 < bs.length ∧ (fua = true ∨ cache = false)
  · rw [if_pos q]
    have hy : syncs bs.length fua cache = true := by
      unfold syncs
      rw [Bool.and_eq_true, decide_eq_true_eq, Bool.or_eq_true, Bool.not_eq_true']
      exact q
    have s1 := hk.size
    have lt := lt_of_heap hS
    have hS2 : ∀ {u2 : World}, Keep D' u u2 → IsS u2 ps pw file blocks cache := fun hk2 => hk2.heap hS' fun e => by
      rcases hD' _ e with r | r
      · exact hps r
      · omega
    have hkk : ∀ {u2 : World}, Keep D' u u2 → Keep D w u2 := fun hk2 => hk.trans hk2 fun i hi e => by
      rcases hD' i e with r | r
      · exact r
      · omega
    refine sync_any hw' (layW_ok hok (rsOf_len bs) _ (by omega)) (by omega) (by omega) (fun hf u2 D2 hk2 hw2 hD2 => ?_) (fun hf u2 hk2 hw2 => hbad bs.length (by rw [hy]; simp) hfl (by rw [← lo]; exact hf) u2 D' (hkk hk2) (by rw [← lo]; exact hw2) hD' (hS2 hk2))
    refine h (fun i hi => ?_) u2 D2 (hk.trans hk2 fun i hi e => ?_) (by rw [hy]; exact hw2) (fun k hk' => ?_) (hk2.heap hS' fun e => ?_)
    · rw [hy] at hi
      by_cases e : i = bs.length
      · subst e; rw [← lo]; exact hf
      · exact hfl i (by simp at hi; omega)
    · rcases hD' i e with r | r
      · exact r
      · omega
    · rcases hD2 k hk' with r | r
      · exact hD' k r
      · exact .inr (by omega)
    · rcases hD' _ e with r | r
      · exact hps r
      · omega
  · rw [if_neg q]
    have hy : syncs bs.length fua cache = false := by
      unfold syncs
      by_cases q1 : 0 < bs.length
      · rw [decide_eq_true q1, Bool.true_and]
        cases fua <;> cases cache <;> simp_all
      · rw [decide_eq_false q1, Bool.false_and]
    exact h (fun i hi => hfl i (by rw [hy] at hi; simpa using hi)) u D' hk (by rw [hy]; exact hw') hD' hS'
theorem store_sync_any {w : World} {ps pw : Nat} {D : Nat → Prop} {st : Wst} {F : Int → Bool} {file : ByteArray} {blocks : Nat} {cache : Bool} {R : Int → World → Prop} (hS : IsS w ps pw file blocks cache) (hps : ¬ D ps) (hw : IsWq w pw D st F) (hok : Wok st)
    (ho : st.ops < 10000000000) (hn : st.waits.length < 800000000)
    (h : F (st.ops : Int) = false → ∀ u D', Keep D w u → IsWq u pw D' (synced st) F → (∀ k, D' k → D k ∨ w.heap.size ≤ k) → IsS u ps pw file blocks cache → R 0 u)
    (hbad : F (st.ops : Int) = true → ∀ u, Keep D w u → IsWq u pw D { st with ops := st.ops + 1 } F → IsS u ps pw file blocks cache → R 6 u) : Cstore_Store_Sync (some ⟨ps, 0, none⟩) w R := by
  refine Fstore_Store_Sync.calls _ _ _ (br_f rfl ⟨rfl, some ⟨pw, 0, none⟩, by rw [gA, add0, Blk.cell hS]; rfl, ?_⟩)
  exact sync_any hw hok (by omega) (by omega) (fun hf u D' hk hw' hD' => h hf u D' hk hw' hD' (hk.heap hS hps)) (fun hf u hk hw' => hbad hf u hk hw' (hk.heap hS hps))
end Go.Proofs.YtpmebahhjgkflaaGreatDoor

/- Layer 4: unmapping; an array of blocks as a variable. -/
namespace Go.Proofs.YtpmebahhjgkflaaGreatDoor
open Go CF
set_option maxRecDepth 100000

theorem layW_zero {st : Wst} {file : ByteArray} {lba : Nat} (hg : Good (cont st file)) : ∀ k, Good (cont (layW st file lba (fun _ => [0]) k) file) ∧
    ∀ j, blkAt (cont (layW st file lba (fun _ => [0]) k) file) j = if lba ≤ j ∧ j < lba + k then emptyB else blkAt (cont st file) j
  | 0 => ⟨hg, fun j => by rw [if_neg (by omega)]; rfl⟩
  | k + 1 => by
    obtain ⟨h1, h2⟩ := layW_zero (lba := lba) hg k
    refine ⟨?_, fun j => ?_⟩
    · show Good (cont (stepW _ file _ _) file)
      rw [cont_step]; exact good_zero h1 _
    · show blkAt (cont (stepW _ file _ _) file) j = _
      rw [cont_step, blkAt_zero h1, h2]
      by_cases e : j = lba + k
      · subst e
        rw [if_pos rfl, if_pos (by omega)]
      · rw [if_neg e]
        by_cases q : lba ≤ j ∧ j < lba + k
        · rw [if_pos q, if_pos (by omega)]
        · rw [if_neg q, if_neg (by omega)]
theorem store_unmap_spec {w : World} {ps pw : Nat} {D : Nat → Prop} {st : Wst} {file : ByteArray} {blocks : Nat} {cache : Bool} {lba n : Nat} {R : Int → Int → World → Prop}
    (hS : IsS w ps pw file blocks cache) (hps : ¬ D ps) (hw : IsW w pw D st) (hok : Wok st) (hs : 1 ≤ file.size ∧ file.size ≤ 32) (hbk : blocks ≤ 4096) (hl : lba + n ≤ blocks)
    (ho : st.ops < 10000000000) (hn : st.waits.length < 800000000)
    (h : ∀ u D', Keep D w u → IsW u pw D' (syncIf (syncs n false cache) (layW st file lba (fun _ => [0]) n)) → (∀ k, D' k → D k ∨ w.heap.size ≤ k) → IsS u ps pw file blocks cache → R (n : Int) 0 u) :
    Cstore_Store_Unmap (some ⟨ps, 0, none⟩) (lba : Int) (n : Int) w R := by
  refine Fstore_Store_Unmap.calls _ _ _ _ _ ?_
  refine check_spec hS hbk (by omega) ?_
  rw [if_pos hl]
  refine br_f rfl ?_
  refine lay_spec (n := n) (rs := fun _ => [0]) hS hps hw hs (by omega) (fun _ => by decide) (by omega) (by omega) (fun x u K hx hk hK => ?_) fun u D' hk hw' hD' hS' => ?_
  · refine ⟨rfl, ?_⟩
    show Cstore_Store_Unmap_1 (x : Int) u K
    refine Fstore_Store_Unmap_1.calls _ _ _ ?_
    refine lit_rule (cells := #[.int .u8 0]) (e := t_uint8) (z := 1) (base := 0) (by kernel_rfl) rfl (by decide) (Nat.zero_le _) fun w3 hlit3 hg3 _ => hK _ w3 hg3 hlit3
  · obtain ⟨lo, lw⟩ := layW_ops st file lba (fun _ => [0]) n
    by_cases q : 0 < n ∧ (false = true ∨ cache = false)
    · rw [if_pos q]
      have hy : syncs n false cache = true := by
        unfold syncs
        rw [Bool.and_eq_true, decide_eq_true_eq, Bool.or_eq_true, Bool.not_eq_true']
        exact q
      refine sync_spec hw' (layW_ok hok (fun _ => by decide) _ (by omega)) (by omega) (by omega) fun u2 D2 hk2 hw2 hD2 => ?_
      have s1 := hk.size
      have lt := lt_of_heap hS
      refine h u2 D2 (hk.trans hk2 fun i hi e => ?_) (by rw [hy]; exact hw2) (fun k hk' => ?_) (hk2.heap hS' fun e => ?_)
      · rcases hD' i e with r | r
        · exact r
        · omega
      · rcases hD2 k hk' with r | r
        · exact hD' k r
        · exact .inr (by omega)
      · rcases hD' _ e with r | r
        · exact hps r
        · omega
    · rw [if_neg q]
      have hy : syncs n false cache = false := by
        unfold syncs
        by_cases q1 : 0 < n
        · rw [decide_eq_true q1, Bool.true_and]
          cases cache <;> simp_all
        · rw [decide_eq_false q1, Bool.false_and]
      exact h u D' hk (by rw [hy]; exact hw') hD' hS'
end Go.Proofs.YtpmebahhjgkflaaGreatDoor

/- Layer 4: a script of writes and unmappings. -/
namespace Go.Proofs.YtpmebahhjgkflaaGreatDoor
open Go CF
set_option maxRecDepth 100000

/-- an entry of a script -/
structure Act4 where
  kind : Nat
  a : Int
  n : Int
  l : Sl
  bs : List Bk
  on : Bool
def ac (x : Act4) : List Value := [.int .u8 (x.kind : Int), .int .i64 x.a, .int .i64 x.n, .slice x.l.A x.l.n x.l.c, .bool x.on]
/-- the array behind a write of a list from a place on -/
def setAll (bs : List Bk) (F : Nat) (xs : List Bk) : Nat → List Bk
  | 0 => bs
  | k + 1 => (setAll bs F xs k).set (F + k) ((xs[k]?).getD emptyB)
theorem setAll_len (bs : List Bk) (F : Nat) (xs : List Bk) : ∀ k, (setAll bs F xs k).length = bs.length
  | 0 => rfl
  | k + 1 => by simp [setAll, setAll_len bs F xs k]
theorem setAll_get (bs : List Bk) (F : Nat) (xs : List Bk) : ∀ k, F + k ≤ bs.length → ∀ j, j < bs.length → (setAll bs F xs k)[j]? = if F ≤ j ∧ j < F + k then some ((xs[j - F]?).getD emptyB) else bs[j]?
  | 0, _, j, _ => by rw [if_neg (by omega)]; rfl
  | k + 1, hk, j, hj => by
    have ih := setAll_get bs F xs k (by omega) j hj
    simp only [setAll]
    rw [List.getElem?_set, setAll_len]
    by_cases e : F + k = j
    · subst e
      rw [if_pos rfl, if_pos (by omega), if_pos (by omega), Nat.add_sub_cancel_left]
    · rw [if_neg e, ih]
      by_cases q : F ≤ j ∧ j < F + k
      · rw [if_pos q, if_pos (by omega)]
      · rw [if_neg q, if_neg (by omega)]
/-- a file tells these blocks -/
def Tells (st : Wst) (file : ByteArray) (bs : List Bk) : Prop := Good (cont st file) ∧ ∀ j, j < bs.length → some (blkAt (cont st file) j) = bs[j]?
theorem cont_syncIf (y : Bool) (s : Wst) (file : ByteArray) : cont (syncIf y s) file = cont s file := by
  unfold cont; rw [syncIf_seen]
theorem tells_write {st : Wst} {file : ByteArray} {bs xs : List Bk} {F : Nat} {y : Bool} (h : Tells st file bs) (hF : F + xs.length ≤ bs.length) :
    Tells (syncIf y (layW st file F (rsOf xs) xs.length)) file (setAll bs F xs xs.length) := by
  obtain ⟨h1, h2⟩ := layW_file (lba := F) (bs := xs) h.1 xs.length (Nat.le_refl _)
  refine ⟨by rw [cont_syncIf]; exact h1, fun j hj => ?_⟩
  rw [setAll_len] at hj
  rw [cont_syncIf, h2, setAll_get _ _ _ _ hF _ hj]
  split
  · rfl
  · exact h.2 j hj
theorem tells_write_k {st : Wst} {file : ByteArray} {bs xs : List Bk} {F k o : Nat} (h : Tells st file bs) (hF : F + xs.length ≤ bs.length) (hk : k ≤ xs.length) :
    Tells { layW st file F (rsOf xs) k with ops := o } file (setAll bs F xs k) := by
  obtain ⟨h1, h2⟩ := layW_file (lba := F) (bs := xs) h.1 k hk
  refine ⟨h1, fun j hj => ?_⟩
  rw [setAll_len] at hj
  show some (blkAt (cont (layW st file F (rsOf xs) k) file) j) = _
  rw [h2, setAll_get _ _ _ _ (by omega) _ hj]
  split
  · rfl
  · exact h.2 j hj
theorem tells_unmap {st : Wst} {file : ByteArray} {bs : List Bk} {F n : Nat} {y : Bool} (h : Tells st file bs) (hF : F + n ≤ bs.length) :
    Tells (syncIf y (layW st file F (fun _ => [0]) n)) file (setAll bs F [] n) := by
  obtain ⟨h1, h2⟩ := layW_zero (lba := F) h.1 n
  refine ⟨by rw [cont_syncIf]; exact h1, fun j hj => ?_⟩
  rw [setAll_len] at hj
  rw [cont_syncIf, h2, setAll_get _ _ _ _ hF _ hj]
  split
  · simp
  · exact h.2 j hj
theorem tells_read {st : Wst} {file : ByteArray} {bs : List Bk} (h : Tells st file bs) : rdBl st file 0 bs.length = bs :=
  rdBl_list rfl fun i hi => by
    have := h.2 i hi
    rw [List.getElem?_eq_getElem hi] at this
    rw [Nat.zero_add]
    exact Option.some.inj this
end Go.Proofs.YtpmebahhjgkflaaGreatDoor

/- Layers 2 and 13: the guard of bytes, blocks as they go over the wire. -/
namespace Go.Proofs.YtpmebahhjgkflaaGreatDoor
open Go CF
set_option maxRecDepth 100000

def gG (s : Nat) : Nat := if s / 32768 = 1 then (2 * s % 65536) ^^^ 0x8bb7 else 2 * s % 65536
def gGs : Nat → Nat → Nat
  | 0, s => s
  | k + 1, s => gG (gGs k s)
def gB (s : Nat) (b : UInt8) : Nat := gGs 8 (s ^^^ b.toNat * 256)
def c16 (l : L8) : Nat := l.foldl gB 0
theorem xor_lt16 {a b : Nat} (ha : a < 65536) (hb : b < 65536) : a ^^^ b < 65536 := Nat.xor_lt_two_pow (n := 16) ha hb
theorem gG_lt {s : Nat} (h : s < 65536) : gG s < 65536 := by
  unfold gG
  split
  · exact xor_lt16 (Nat.mod_lt _ (by decide)) (by decide)
  · exact Nat.mod_lt _ (by decide)
theorem gGs_lt {s : Nat} (h : s < 65536) : ∀ k, gGs k s < 65536
  | 0 => h
  | k + 1 => gG_lt (gGs_lt h k)
theorem gB_lt {s : Nat} (h : s < 65536) (b : UInt8) : gB s b < 65536 := gGs_lt (xor_lt16 h (by have := b.toNat_lt; omega)) 8
theorem c16f_lt {l : L8} : ∀ {s : Nat}, s < 65536 → l.foldl gB s < 65536 := by
  induction l with
  | nil => intro s h; exact h
  | cons b r ih => intro s h; exact ih (gB_lt h b)
theorem c16_lt (l : L8) : c16 l < 65536 := c16f_lt (by decide)
theorem c16_snoc (l : L8) (b : UInt8) : c16 (l ++ [b]) = gB (c16 l) b := by simp [c16, List.foldl_append]
/-! ### the model's words -/
theorem wu16' (n : Nat) : IntKind.wrap .u16 (n : Int) = ((n % 65536 : Nat) : Int) := by
  have e : IntKind.wrap .u16 (n : Int) = (n : Int) % 65536 := by simp [IntKind.wrap, IntKind.signed, IntKind.bits]
  rw [e]; omega
theorem xor16 {a b : Nat} (ha : a < 65536) (hb : b < 65536) : bXor .u16 (a : Int) (b : Int) = ((a ^^^ b : Nat) : Int) := by
  unfold bXor
  show IntKind.wrap .u16 (((BitVec.ofInt 16 (a : Int) ^^^ BitVec.ofInt 16 (b : Int)).toNat : Nat) : Int) = _
  rw [BitVec.ofInt_natCast, BitVec.ofInt_natCast, BitVec.toNat_xor, BitVec.toNat_ofNat, BitVec.toNat_ofNat, Nat.mod_eq_of_lt (by omega), Nat.mod_eq_of_lt (by omega)]
  have := xor_lt16 ha hb
  exact wu16 (by omega) (by omega)
theorem shl16_8 {b : Nat} (h : b < 256) : bShl .u16 (b : Int) 8 = ((b * 256 : Nat) : Int) := by
  unfold bShl
  have e : (min 8 (IntKind.bits .u16)) = 8 := by decide
  rw [e, show (b : Int) * 2 ^ 8 = ((b * 256 : Nat) : Int) by omega]
  exact wu16 (by omega) (by omega)
theorem shl16_1 {s : Nat} : bShl .u16 (s : Int) 1 = ((2 * s % 65536 : Nat) : Int) := by
  unfold bShl
  have e : (min 1 (IntKind.bits .u16)) = 1 := by decide
  rw [e, show (s : Int) * 2 ^ 1 = ((2 * s : Nat) : Int) by omega, wu16']
/-! ### tuples, looks -/
def mkR (kind lba : Nat) : Nat := if kind = 1 ∨ kind = 2 then lba % 4294967296 else 0
theorem mkR_lt (kind lba : Nat) : mkR kind lba < 4294967296 := by unfold mkR; split <;> omega
/-- a block of data, protected -/
def mkB (kind lba : Nat) (d : L8) (h : d.length = 16) : Bk := ⟨d, c16 d, 0, mkR kind lba, h, c16_lt d, by decide, mkR_lt kind lba⟩
def escB (kind : Nat) (b : Bk) : Bool := decide (b.a = 65535) && (decide (kind ≠ 3) || decide (b.r = 4294967295))
def chkB (kind prot lba : Nat) (b : Bk) : Nat :=
  if kind = 0 ∨ 3 < kind ∨ prot = 3 ∨ 4 < prot ∨ escB kind b = true then 0
  else if prot ≠ 2 ∧ b.g ≠ c16 b.d then 0x1001
  else if prot ≠ 4 ∧ kind ≠ 3 ∧ b.r ≠ lba % 4294967296 then 0x1003 else 0
def knownB (kind prot : Nat) : Bool := decide (kind ≤ 3) && (decide (prot = 0) || (decide (0 < kind) && decide (prot ≤ 4)))
/-! ### over the wire -/
def tupB (b : Bk) : L8 := be2 b.g ++ be2 b.a ++ be4 b.r
def wireB (wt : Bool) (b : Bk) : L8 := b.d ++ if wt then tupB b else []
def packB (wt : Bool) (l : List Bk) : L8 := l.flatMap (wireB wt)
def szB (wt : Bool) : Nat := if wt then 24 else 16
theorem wireB_len (wt : Bool) (b : Bk) : (wireB wt b).length = szB wt := by
  cases wt
  · simp [wireB, szB, b.hd]
  · simp [wireB, szB, tupB, be2, be4, b.hd]
theorem packB_len (wt : Bool) (l : List Bk) : (packB wt l).length = l.length * szB wt := by
  unfold packB
  induction l with
  | nil => simp
  | cons a r ih => rw [List.flatMap_cons, List.length_append, ih, wireB_len, List.length_cons, Nat.succ_mul, Nat.add_comm]
def pad16 (l : L8) : L8 := (l ++ List.replicate 16 0).take 16
theorem pad16_len (l : L8) : (pad16 l).length = 16 := by simp [pad16]
theorem num_take (l : L8) (k : Nat) : num (l.take k) < 256 ^ k :=
  Nat.lt_of_lt_of_le (num_lt _) (Nat.pow_le_pow_right (by decide) (by rw [List.length_take]; omega))
/-- the block that some bytes are -/
def unB (wt : Bool) (l : L8) : Bk :=
  if wt then ⟨pad16 l, num ((l.drop 16).take 2), num ((l.drop 18).take 2), num ((l.drop 20).take 4), pad16_len l, num_take _ 2, num_take _ 2, num_take _ 4⟩
  else ⟨pad16 l, 0, 0, 0, pad16_len l, by decide, by decide, by decide⟩
def unpB (wt : Bool) (l : L8) : List Bk := (List.range (l.length / szB wt)).map fun i => unB wt ((l.drop (i * szB wt)).take (szB wt))
theorem unpB_len (wt : Bool) (l : L8) : (unpB wt l).length = l.length / szB wt := by simp [unpB]
theorem unpB_at {wt : Bool} {l : L8} {i : Nat} (h : i < (unpB wt l).length) : (unpB wt l)[i] = unB wt ((l.drop (i * szB wt)).take (szB wt)) := by simp [unpB]
theorem num_two {a b : UInt8} : num [a, b] = a.toNat * 256 + b.toNat := by simp [num]
end Go.Proofs.YtpmebahhjgkflaaGreatDoor

/- Layers 2 and 13: the walks of the guard, of tuples and of blocks over the wire. -/
namespace Go.Proofs.YtpmebahhjgkflaaGreatDoor
open Go CF
set_option maxRecDepth 100000

theorem c16_br {s : Nat} (hs : s < 65536) {X Y : Prop} (h1 : s / 32768 = 1 → X) (h0 : ¬ s / 32768 = 1 → Y) : Br ((bShr .u16 (s : Int) 15) == 1) X Y := by
  rw [shr .u16 s 15 (by decide)]
  exact br_eq (fun q => h1 (by have : (2 : Nat) ^ 15 = 32768 := rfl; omega)) (fun q => h0 (by have : (2 : Nat) ^ 15 = 32768 := rfl; omega))
theorem c16_spec {p : Sl} {l : L8} {w : World} {R : Int → World → Prop} (hp : Rd w 1 p (bv l)) (h : R ((c16 l : Nat) : Int) w) : Ccrc_C16 p w R := by
  refine Fcrc_C16.calls _ _ _ ?_
  refine Fcrc_Add16.calls _ _ _ _ ?_
  have hln : l.length = p.n := by have := hp.len; rw [bv_length] at this; omega
  have hnb := hp.nb
  refine ⟨fun v x w' => w' = w ∧ ∃ j : Nat, x = j ∧ j ≤ p.n ∧ v = ((c16 (l.take j) : Nat) : Int), fun _ x _ => p.n - x.toNat, ⟨rfl, 0, rfl, Nat.zero_le _, rfl⟩, ?_⟩
  rintro v x w0 ⟨rfl, j, rfl, hj, rfl⟩
  have hcs := c16_lt (l.take j)
  refine br_nat (fun hlt => ?_) (fun hge => ?_)
  · obtain ⟨a, ha, hc⟩ := hp.byte (i := j) hlt
    have hjs : j < l.length := by omega
    have hb8 := l[j].toNat_lt
    refine ⟨⟨by omega, by omega, by rw [ha]; rfl⟩, (l[j].toNat : Int), by rw [ha]; exact hc, ?_⟩
    rw [wu16 (n := (l[j].toNat : Int)) (by omega) (by omega), shl16_8 hb8, xor16 hcs (by omega)]
    generalize hT : c16 (l.take j) ^^^ l[j].toNat * 256 = T
    have hTl : T < 65536 := by rw [← hT]; exact xor_lt16 hcs (by omega)
    refine ⟨fun v x w' => w' = w0 ∧ ∃ k : Nat, x = k ∧ k ≤ 8 ∧ v = ((gGs k T : Nat) : Int), fun _ x _ => 8 - x.toNat, ⟨rfl, 0, rfl, by decide, rfl⟩, ?_⟩
    rintro v x w1 ⟨rfl, k, rfl, hk, rfl⟩
    have hgl := gGs_lt hTl k
    refine br_dec (fun hlt8 => ?_) (fun hge8 => ?_)
    · refine c16_br hgl (fun q => ?_) (fun q => ?_)
      · rw [shl16_1, show bXor .u16 ((2 * gGs k T % 65536 : Nat) : Int) 35767 = ((2 * gGs k T % 65536 ^^^ 35767 : Nat) : Int) from xor16 (by omega) (by decide), w64 (by omega) (by omega)]
        refine ⟨⟨rfl, k + 1, by omega, by omega, ?_⟩, by dsimp only; omega⟩
        simp only [gGs]; unfold gG; rw [if_pos q]
      · rw [shl16_1, w64 (by omega) (by omega)]
        refine ⟨⟨rfl, k + 1, by omega, by omega, ?_⟩, by dsimp only; omega⟩
        simp only [gGs]; unfold gG; rw [if_neg q]
    · have : k = 8 := by omega
      subst this
      rw [w64 (by omega) (by omega)]
      refine ⟨⟨rfl, j + 1, by omega, by omega, ?_⟩, by dsimp only; omega⟩
      rw [List.take_succ_eq_append_getElem hjs, c16_snoc]
      unfold gB
      rw [hT]
  · have : j = p.n := by omega
    subst this
    rw [List.take_of_length_le (by omega)]
    exact h
/-! ### blocks in memory -/
def tc (g a r : Nat) : List Value := [.int .u16 (g : Int), .int .u16 (a : Int), .int .u32 (r : Int)]
theorem dRd {w : World} {pb : Nat} {b : Bk} (h : Blk w pb (bc b).toArray t_api_Block) : Rd w 1 ⟨some ⟨pb, 0, none⟩, 16, 16⟩ (bv b.d) :=
  ⟨by rw [bv_length, b.hd]; rfl, Nat.le_refl _, by show 16 ≤ _; decide, fun _ => ⟨_, rfl, fun j v hj => blk_cells h j v (by rw [bc, List.getElem?_append_left (List.getElem?_eq_some_iff.1 hj).1]; exact hj)⟩⟩
theorem bc_tail (b : Bk) : (bc b).drop 16 = tc b.g b.a b.r := by
  unfold bc
  rw [List.drop_append, List.drop_of_length_le (by rw [bv_length, b.hd]; omega), bv_length, b.hd]; rfl
theorem bc_head (b : Bk) : (bc b).take 16 = bv b.d := by
  unfold bc
  rw [List.take_append_of_le_length (by rw [bv_length, b.hd]; omega), List.take_of_length_le (by rw [bv_length, b.hd]; omega)]
theorem cells_tail {w : World} {a : Addr} {b : Bk} (h : Cells w a (bc b)) : Cells w (a.add 16) (tc b.g b.a b.r) := fun j v hj => by
  rw [addr_add]
  refine h (16 + j) v ?_
  rw [← bc_tail, List.getElem?_drop] at hj
  exact hj
theorem cells_head {w : World} {a : Addr} {b : Bk} (h : Cells w a (bc b)) : Cells w (a.add 0) (bv b.d) := fun j v hj => by
  rw [addr_zero]
  refine h j v ?_
  rw [← bc_head, List.getElem?_take] at hj
  split at hj
  · exact hj
  · cases hj
theorem tLoad {w : World} {a : Addr} {g n r : Nat} (h : Cells w a (tc g n r)) : (loadVar t_api_Tuple a).run Tryz.prog w = .ok (.agg (tc g n r).toArray) w :=
  loadVar_rule g_api_Tuple i_api_Tuple rfl h
theorem dLoad {w : World} {a : Addr} {d : L8} (hd : d.length = 16) (h : Cells w a (bv d)) : (loadVar t_16_uint8 a).run Tryz.prog w = .ok (.agg (bv d).toArray) w :=
  loadVar_rule g_16_uint8 i_16_uint8 (by rw [bv_length, hd]) h
theorem bLoad {w : World} {a : Addr} {b : Bk} (h : Cells w a (bc b)) : (loadVar t_api_Block a).run Tryz.prog w = .ok (.agg (bc b).toArray) w :=
  loadVar_rule g_api_Block i_api_Block (by rw [bc_len]) h
theorem make_spec {kind lba app : Nat} {d : L8} {w : World} {R : Array Value → World → Prop} (hd : d.length = 16) (h : ∀ w', Grow w w' → R (tc (c16 d) app (mkR kind lba)).toArray w') : Cpi_Make (kind : Int) (lba : Int) (bv d).toArray (app : Int) w R := by
  refine Fpi_Make.calls _ _ _ _ _ _ ?_
  refine new_rule fun db w0 hdb hb0 hg0 hsz0 => ?_
  have hb0 : Blk w0 db (bv d).toArray t_16_uint8 := hb0
  refine new_rule fun ab w1 hab hb1 hg1 hsz1 => ⟨by decide, ?_⟩
  have hb0' := hg1.heap hb0 (fun q => q)
  have hrd : Rd w1 1 ⟨some ⟨db, 0, none⟩, 16, 16⟩ (bv d) := ⟨by rw [bv_length, hd]; rfl, Nat.le_refl _, by show 16 ≤ _; decide, fun _ => ⟨_, rfl, fun j v hj => blk_cells hb0' j v hj⟩⟩
  refine c16_spec (p := ⟨some ⟨db, 0, none⟩, 16, 16⟩) hrd ?_
  refine new_rule fun tb w2 htb hb2 hg2 hsz2 => ?_
  refine storeVar_rule (cells := (tc (c16 d) app 0).toArray) hb2 i_api_Tuple rfl rfl (by simp [tc, Value.oneCell']) fun w3 hb3 hk3 hsz3 => ?_
  have hb1' : Blk w2 ab _ t_api_Tuple := hg2.heap hb1 (fun q => q)
  have hb13 : Blk w3 ab _ t_api_Tuple := hk3.heap hb1' (by omega)
  have hg03 : Grow w w3 := ((hg0.trans hg1).trans hg2).keep hk3 fun i hi q => by omega
  refine letX0 (fun u => Grow w u ∧ Blk u tb (tc (c16 d) app (mkR kind lba)).toArray t_api_Tuple ∧ Blk u ab #[.int .u16 0, .int .u16 0, .int .u32 0] t_api_Tuple) ?_ (fun J => ?_)
  · rintro u ⟨hgu, hbt, hba⟩
    refine ⟨_, tLoad (blk_cells hbt), ?_⟩
    refine storeVar_rule (cells := (tc (c16 d) app (mkR kind lba)).toArray) hba i_api_Tuple rfl rfl (by simp [tc, Value.oneCell']) fun u2 hb2' hk2' _ => ?_
    exact ⟨_, tLoad (blk_cells hb2'), h u2 (hgu.keep hk2' fun i hi q => by have := hg0.size; omega)⟩
  · by_cases q : kind = 1 ∨ kind = 2
    · refine br_t (by rw [Bool.or_eq_true, beq_iff_eq, beq_iff_eq]; omega) ?_
      rw [add0]
      refine put_rule hb3 (by show 2 < 3; decide) rfl fun w4 hb4 hk4 _ => J w4 ⟨hg03.keep hk4 fun i hi q => by have := hg0.size; omega, ?_, hk4.heap hb13 (by omega)⟩
      have e : IntKind.wrap .u32 (lba : Int) = ((mkR kind lba : Nat) : Int) := by
        unfold mkR; rw [if_pos q]
        have e : IntKind.wrap .u32 (lba : Int) = (lba : Int) % 4294967296 := by simp [IntKind.wrap, IntKind.signed, IntKind.bits]
        rw [e]; omega
      rw [e] at hb4
      exact hb4
    · refine br_f (by rw [Bool.or_eq_false_iff, beq_eq_false_iff_ne, beq_eq_false_iff_ne]; omega) (J w3 ⟨hg03, ?_, hb13⟩)
      unfold mkR; rw [if_neg q]; exact hb3
theorem escapes_spec {kind : Nat} {b : Bk} {w : World} {R : Bool → World → Prop} (h : ∀ w', Grow w w' → R (escB kind b) w') : Cpi_escapes (kind : Int) (tc b.g b.a b.r).toArray w R := by
  refine Fpi_escapes.calls _ _ _ _ ?_
  refine new_rule fun tb w0 htb hb0 hg0 hsz0 => ?_
  have hb0 : Blk w0 tb (tc b.g b.a b.r).toArray t_api_Tuple := hb0
  refine ⟨(b.a : Int), by rw [add0, hb0.cell]; rfl, ?_⟩
  have := h w0 hg0
  unfold escB at this
  refine br_ne (fun q => ?_) (fun q => ⟨(b.r : Int), fun _ => by rw [add0, hb0.cell]; rfl, ?_⟩)
  · rw [decide_eq_false (by omega)] at this; exact this
  · have e : ((kind : Int) != 3 || (b.r : Int) == 4294967295) = (decide (b.a = 65535) && (decide (kind ≠ 3) || decide (b.r = 4294967295))) := by
      rw [decide_eq_true (by omega : b.a = 65535), Bool.true_and, Bool.eq_iff_iff, Bool.or_eq_true, Bool.or_eq_true, bne_iff_ne, beq_iff_eq, decide_eq_true_eq, decide_eq_true_eq]
      omega
    rw [e]; exact this
theorem check_b_spec {kind prot lba : Nat} {b : Bk} {w : World} {R : Int → World → Prop} (h : ∀ w', Grow w w' → R ((chkB kind prot lba b : Nat) : Int) w') : Cpi_Check (kind : Int) (prot : Int) (lba : Int) (bc b).toArray w R := by
  refine Fpi_Check.calls _ _ _ _ _ _ ?_
  refine new_rule fun bb w0 hbb hb0 hg0 hsz0 => ?_
  have hb0 : Blk w0 bb (bc b).toArray t_api_Block := hb0
  have ht0 : Cells w0 (⟨bb, 0, none⟩ : Addr) (bc b) := blk_cells hb0
  refine ⟨_, fun _ => tLoad (cells_tail ht0), ?_⟩
  generalize hG : (((((kind : Int) == 0) || decide ((kind : Int) > 3)) || ((prot : Int) == 3)) || decide ((prot : Int) > 4)) = G
  have hGiff : G = true ↔ (kind = 0 ∨ 3 < kind ∨ prot = 3 ∨ 4 < prot) := by
    rw [← hG, Bool.or_eq_true, Bool.or_eq_true, Bool.or_eq_true, beq_iff_eq, beq_iff_eq, decide_eq_true_eq, decide_eq_true_eq]
    omega
  refine letJ1 (fun x u => Grow w0 u ∧ (G = false → x = escB kind b)) ?_ (fun J => ⟨fun q => escapes_spec fun u hu => J _ _ ⟨hu, fun _ => rfl⟩, fun q => J _ _ ⟨Keep.refl _ _, fun e => by rw [e] at q; cases q⟩⟩)
  rintro x u ⟨hgu, hx⟩
  by_cases hz : G = true ∨ escB kind b = true
  · have hc : chkB kind prot lba b = 0 := by
      unfold chkB
      refine if_pos ?_
      rcases hz with q | q
      · have := hGiff.1 q; omega
      · simp [q]
    have := h u (hg0.trans hgu)
    rw [hc] at this
    refine br_t ?_ this
    rw [Bool.or_eq_true]
    cases hg : G with
    | true => exact .inl rfl
    | false => right; rw [hx hg]; exact hz.resolve_left (by rw [hg]; decide)
  have hGf : G = false := by cases hg : G with | false => rfl | true => exact absurd (.inl hg) hz
  have hE : escB kind b = false := by cases hg : escB kind b with | false => rfl | true => exact absurd (.inr hg) hz
  have hn : ¬ (kind = 0 ∨ 3 < kind ∨ prot = 3 ∨ 4 < prot ∨ escB kind b = true) := by
    have hx : ¬ (kind = 0 ∨ 3 < kind ∨ prot = 3 ∨ 4 < prot) := fun q => hz (.inl (hGiff.2 q))
    rintro (q | q | q | q | q)
    · exact hx (.inl q)
    · exact hx (.inr (.inl q))
    · exact hx (.inr (.inr (.inl q)))
    · exact hx (.inr (.inr (.inr q)))
    · rw [hE] at q; cases q
  refine br_f (by rw [hGf, hx hGf, hE]; rfl) ?_
  rintro w2 rfl
  have hg2 : Grow w0 u.drew := hgu.trans (keep_drew u)
  have hbu : ∀ {v : World}, Grow w0 v → Blk v bb (bc b).toArray t_api_Block := fun g => g.heap hb0 (fun q => q)
  obtain ⟨e16, e17, e18⟩ := bc_at b
  refine ⟨fun v => Grow w0 v, hg2, (b.g : Int), fun _ v hv => by rw [add0, add0, (hbu hv).cell]; exact e16, fun _ => by decide, ?_⟩
  have hd : ∀ {v : World}, Grow w0 v → Rd v 1 ⟨some ⟨bb, 0, none⟩, 16, 16⟩ (bv b.d) := fun g => dRd (hbu g)
  refine letJ1 (fun x v => Grow w0 v ∧ ((prot : Int) ≠ 2 → x = ((c16 b.d : Nat) : Int))) ?_ (fun J => ⟨fun q => c16_spec (p := ⟨some ⟨bb, 0, none⟩, 16, 16⟩) (hd hg2) (J _ _ ⟨hg2, fun _ => rfl⟩), fun q => J _ _ ⟨hg2, fun e => absurd (by simpa using q) e⟩⟩)
  rintro x v ⟨hgv, hxv⟩
  refine ⟨hgv, ?_⟩
  have hfin := h v (hg0.trans hgv)
  by_cases q1 : prot ≠ 2 ∧ b.g ≠ c16 b.d
  · have hc : chkB kind prot lba b = 4097 := by unfold chkB; rw [if_neg hn, if_pos q1]
    rw [hc] at hfin
    refine br_t ?_ hfin
    rw [hxv (by omega), Bool.and_eq_true, bne_iff_ne, bne_iff_ne]
    omega
  refine br_f ?_ ⟨(b.r : Int), fun _ => by rw [add0, add0, (hbu hgv).cell]; exact e18, ?_⟩
  · rw [Bool.and_eq_false_iff, bne_eq_false_iff_eq, bne_eq_false_iff_eq]
    by_cases e : prot = 2
    · left; omega
    · right; rw [hxv (by omega)]; omega
  have e32 : IntKind.wrap .u32 (lba : Int) = ((lba % 4294967296 : Nat) : Int) := by
    have e : IntKind.wrap .u32 (lba : Int) = (lba : Int) % 4294967296 := by simp [IntKind.wrap, IntKind.signed, IntKind.bits]
    rw [e]; omega
  rw [e32]
  by_cases q2 : prot ≠ 4 ∧ kind ≠ 3 ∧ b.r ≠ lba % 4294967296
  · have hc : chkB kind prot lba b = 4099 := by unfold chkB; rw [if_neg hn, if_neg q1, if_pos q2]
    rw [hc] at hfin
    refine br_t ?_ hfin
    rw [Bool.and_eq_true, Bool.and_eq_true, bne_iff_ne, bne_iff_ne, bne_iff_ne]
    omega
  · have hc : chkB kind prot lba b = 0 := by unfold chkB; rw [if_neg hn, if_neg q1, if_neg q2]
    rw [hc] at hfin
    refine br_f ?_ hfin
    rw [Bool.and_eq_false_iff, Bool.and_eq_false_iff, bne_eq_false_iff_eq, bne_eq_false_iff_eq, bne_eq_false_iff_eq]
    omega
theorem size_spec {wt : Bool} {w : World} {R : Int → World → Prop} (h : R ((szB wt : Nat) : Int) w) : Cpi_Size wt w R := by
  refine Fpi_Size.calls _ _ _ ?_
  cases wt
  · exact br_f rfl h
  · exact br_t rfl h
end Go.Proofs.YtpmebahhjgkflaaGreatDoor

/- What a command brings: a sense, a result. -/
namespace Go.Proofs.YtpmebahhjgkflaaGreatDoor
open Go CF
set_option maxRecDepth 100000

/-- a sense -/
structure Sn where
  key : Nat
  code : Nat
  info : Nat
  hi : Bool
  field : Int
  bit : Int
  hf : Bool
  ic : Bool
def sn0 : Sn := ⟨0, 0, 0, false, 0, 0, false, false⟩
def snv (s : Sn) : List Value := [.int .u8 (s.key : Int), .int .u16 (s.code : Int), .int .u64 (s.info : Int), .bool s.hi, .int .i64 s.field, .int .i64 s.bit, .bool s.hf, .bool s.ic]
def badS (code : Nat) : Sn := ⟨5, code, 0, false, 0, 0, false, false⟩
def badF (field : Nat) : Sn := ⟨5, 0x2600, 0, false, (field : Int), -1, true, false⟩
def atS (key code info : Nat) : Sn := ⟨key, code, info, true, 0, 0, false, false⟩
/-- a result: status, sense, data -/
def rsv (st : Nat) (s : Sn) (d : Sl) : List Value := [.int .u8 (st : Int)] ++ snv s ++ [.slice d.A d.n d.c]
abbrev nilS : Sl := ⟨none, 0, 0⟩
theorem rsv_ones (st : Nat) (s : Sn) (d : Sl) : (rsv st s d).toArray.all (·.oneCell') = true := by simp [rsv, snv, Value.oneCell']
theorem rLoad {w : World} {a : Addr} {st : Nat} {s : Sn} {d : Sl} (h : Cells w a (rsv st s d)) : (loadVar t_api_Result a).run Tryz.prog w = .ok (.agg (rsv st s d).toArray) w := loadVar_rule g_api_Result i_api_Result rfl h
theorem sLoad {w : World} {a : Addr} {s : Sn} (h : Cells w a (snv s)) : (loadVar t_api_Sense a).run Tryz.prog w = .ok (.agg (snv s).toArray) w := loadVar_rule g_api_Sense i_api_Sense rfl h
/-- a result that is laid and handed back -/
theorem ret_rule {w : World} {a : Nat} {old : Array Value} {st : Nat} {s : Sn} {d : Sl} {K : Array Value → World → Prop} (hb : Blk w a old t_api_Result) (ho : old.size = 10)
    (h : ∀ w', Keep (fun k => k = a) w w' → K (rsv st s d).toArray w') :
    RunU Tryz.prog (storeVar t_api_Result ⟨a, 0, none⟩ (.agg (rsv st s d).toArray)) w fun w' => ∃ res : Array Value, (loadVar t_api_Result ⟨a, 0, none⟩).run Tryz.prog w' = .ok (.agg res) w' ∧ K res w' :=
  storeVar_rule (cells := (rsv st s d).toArray) hb i_api_Result rfl ho (rsv_ones _ _ _) fun w1 hb1 hk1 _ => ⟨_, rLoad (blk_cells hb1), h w1 hk1⟩
/-- a result that is laid into a variable -/
theorem lay_rule {w : World} {a : Nat} {old : Array Value} {st : Nat} {s : Sn} {d : Sl} {K : World → Prop} (hb : Blk w a old t_api_Result) (ho : old.size = 10)
    (h : ∀ w', Blk w' a (rsv st s d).toArray t_api_Result → Keep (fun k => k = a) w w' → w'.heap.size = w.heap.size → K w') : RunU Tryz.prog (storeVar t_api_Result ⟨a, 0, none⟩ (.agg (rsv st s d).toArray)) w K :=
  storeVar_rule (cells := (rsv st s d).toArray) hb i_api_Result rfl ho (rsv_ones _ _ _) h
theorem grow_new {w u v : World} {a : Nat} (hg : Grow w u) (ha : w.heap.size ≤ a) (hk : Keep (fun k => k = a) u v) : Grow w v := hg.keep hk fun i hi q => by omega
theorem fails_spec {s : Sn} {w : World} {R : Array Value → World → Prop} (h : ∀ w', Grow w w' → R (rsv 2 s nilS).toArray w') : Csbc_fails (snv s).toArray w R := by
  refine Fsbc_fails.calls _ _ _ ?_
  refine new_rule fun sb w0 hsb hb0 hg0 hsz0 => ?_
  have hb0 : Blk w0 sb (snv s).toArray t_api_Sense := hb0
  refine new_rule fun ab w1 hab hb1 hg1 hsz1 => ⟨_, sLoad (blk_cells (hg1.heap hb0 (fun q => q))), (rsv 2 s nilS).toArray, by kernel_rfl, ?_⟩
  exact ret_rule hb1 rfl fun w2 hk2 => h w2 (grow_new (hg0.trans hg1) (by have := hg0.size; omega) hk2)
theorem at_spec {key code info : Nat} {w : World} {R : Array Value → World → Prop} (h : ∀ w', Grow w w' → R (rsv 2 (atS key code info) nilS).toArray w') : Csbc_at (key : Int) (code : Int) (info : Int) w R := by
  refine Fsbc_at.calls _ _ _ _ _ ?_
  refine new_rule fun ab w0 hab hb0 hg0 hsz0 => ?_
  refine fails_spec (s := atS key code info) fun w1 hg1 => ?_
  exact ret_rule (hg1.heap hb0 (fun q => q)) rfl fun w2 hk2 => h w2 (grow_new (hg0.trans hg1) (by omega) hk2)
theorem good_spec {d : Sl} {w : World} {R : Array Value → World → Prop} (h : ∀ w', Grow w w' → R (rsv 0 sn0 d).toArray w') : Csbc_good d w R := by
  refine Fsbc_good.calls _ _ _ ?_
  refine new_rule fun ab w0 hab hb0 hg0 hsz0 => ?_
  exact ret_rule (st := 0) (s := sn0) (d := d) hb0 rfl fun w2 hk2 => h w2 (grow_new hg0 (by omega) hk2)
theorem length_spec {w : World} {R : Array Value → World → Prop} (h : ∀ w', Grow w w' → R (rsv 2 (badS 0x1a00) nilS).toArray w') : Csbc_length w R := by
  refine Fsbc_length.calls _ _ ?_
  refine new_rule fun ab w0 hab hb0 hg0 hsz0 => ?_
  refine fails_spec (s := badS 0x1a00) fun w1 hg1 => ?_
  exact ret_rule (hg1.heap hb0 (fun q => q)) rfl fun w2 hk2 => h w2 (grow_new (hg0.trans hg1) (by omega) hk2)
theorem within_spec {a b c : Nat} {w : World} {R : Bool → World → Prop} (ha : a < 18446744073709551616) (hb : b < 18446744073709551616) (hc : c < 18446744073709551616) (h : R (decide (a + b ≤ c)) w) : Cbe_Within (a : Int) (b : Int) (c : Int) w R := by
  refine Fbe_Within.calls _ _ _ _ _ ?_
  unfold Fbe_Within
  have e : (decide ((a : Int) ≤ (c : Int)) && decide ((b : Int) ≤ IntKind.wrap .u64 ((c : Int) - (a : Int)))) = decide (a + b ≤ c) := by
    rw [Bool.eq_iff_iff, Bool.and_eq_true, decide_eq_true_eq, decide_eq_true_eq, decide_eq_true_eq]
    by_cases q : a ≤ c
    · rw [wu64 (by omega) (by omega)]; omega
    · omega
  first
    | (rw [e]; exact h)
    | exact e ▸ h
end Go.Proofs.YtpmebahhjgkflaaGreatDoor

/- Layer 13: blocks packed and unpacked. -/
namespace Go.Proofs.YtpmebahhjgkflaaGreatDoor
open Go CF
set_option maxRecDepth 100000

def zeroBk : Bk := ⟨[0, 0, 0, 0, 0, 0, 0, 0, 0, 0, 0, 0, 0, 0, 0, 0], 0, 0, 0, rfl, by decide, by decide, by decide⟩
theorem own_n' {w : World} {base : Nat} {e : TypeId} {s : Sl} {l : L8} (h : Own w base e 1 s (bv l)) : s.n = l.length := by have := h.len; rw [bv_length] at this; omega
theorem rd_n' {w : World} {s : Sl} {l : L8} (h : Rd w 1 s (bv l)) : l.length = s.n := by have := h.len; rw [bv_length] at this; omega
theorem own_grow' {w u u' : World} {base : Nat} {e : TypeId} {z : Nat} {s : Sl} {vs : List Value} (hg : Grow w u) (ho : Own u base e z s vs) (hb : w.heap.size ≤ base) (hk : Keep (fun k => some k = s.blk) u u') : Grow w u' :=
  hg.keep hk fun i hi q => by have := (ho.ge i q.symm).1; omega
theorem copy16_rule {w : World} {pb : Nat} {p : Sl} {l : L8} (hb : Blk w pb (bc zeroBk).toArray t_api_Block) (hp : Rd w 1 p (bv l)) (h16 : 16 ≤ l.length) {K : Int → World → Prop}
    (h : ∀ w', Blk w' pb (bv (l.take 16) ++ tc 0 0 0).toArray t_api_Block → Keep (fun k => k = pb) w w' → w'.heap.size = w.heap.size → K 16 w') :
    RunK Tryz.prog (.i .i64) (Builtin.copy_ #[t_sl_uint8, t_sl_uint8] t_int #[.slice (some ⟨pb, 0, none⟩) 16 16, .slice p.A p.n p.c]) w K := by
  have hln := rd_n' hp
  have hdl : (l.take 16).length = 16 := by rw [List.length_take]; omega
  have hne : bv l ≠ [] := fun e => by have := congrArg List.length e; rw [bv_length, List.length_nil] at this; omega
  obtain ⟨a2, ha2, hc2⟩ := hp.at_ hne
  have hsrc : ∀ j v, (bv (l.take 16))[j]? = some v → w.cell? (a2.add j) = some v := fun j v hj => hc2 j v (by
    rw [← bv_take, List.getElem?_take] at hj
    split at hj
    · exact hj
    · cases hj)
  have hcp := run_copy_row (P := Tryz.prog) w t_sl_uint8 t_sl_uint8 t_int t_uint8 pb 0 16 16 a2 p.n p.c _ t_api_Block (bv (l.take 16)) u_sl_uint8 (by kernel_rfl) hb (by rw [bv_length, hdl]; exact (Nat.min_eq_right (by omega)).symm) hsrc (by rw [bv_length, hdl]; decide) (bv_one' _)
  have hset := setRow_heap w pb _ ((bc zeroBk).toArray.toList.take 0 ++ bv (l.take 16) ++ (bc zeroBk).toArray.toList.drop (0 + 16)).toArray t_api_Block (0, 0) hb
  have hoth := fun k (hn : ¬ k = pb) => setRow_other w pb k ((bc zeroBk).toArray.toList.take 0 ++ bv (l.take 16) ++ (bc zeroBk).toArray.toList.drop (0 + 16)).toArray hn
  have hos : ∀ x, (w.setRow pb x).os = w.os ∧ (w.setRow pb x).tape = w.tape ∧ (w.setRow pb x).output = w.output ∧ (w.setRow pb x).heap.size = w.heap.size := fun x => ⟨rfl, rfl, rfl, by simp⟩
  have hos := hos ((bc zeroBk).toArray.toList.take 0 ++ bv (l.take 16) ++ (bc zeroBk).toArray.toList.drop (0 + 16)).toArray
  rw [ha2]
  refine ⟨16, _, hcp.trans (by rw [bv_length, hdl]; rfl), ?_⟩
  generalize w.setRow pb ((bc zeroBk).toArray.toList.take 0 ++ bv (l.take 16) ++ (bc zeroBk).toArray.toList.drop (0 + 16)).toArray = w5 at *
  refine h w5 ?_ ⟨hos.1, hos.2.1, hos.2.2.1, by omega, fun k _ hn => hoth k hn⟩ hos.2.2.2
  exact hset
theorem wire_cells (b : Bk) : bv (wireB false b) = bv b.d := by simp [wireB]
theorem packB_succ (wt : Bool) {bs : List Bk} {j : Nat} (h : j < bs.length) : packB wt (bs.take (j + 1)) = packB wt (bs.take j) ++ wireB wt bs[j] := by
  unfold packB
  rw [List.take_succ_eq_append_getElem h, List.flatMap_append]
  simp
theorem pack_spec {ls : Sl} {wt : Bool} {bs : List Bk} {w : World} {R : Sl → World → Prop} (hl : Rd w 19 ls (bs.flatMap bc)) (hn : bs.length ≤ 4096)
    (h : ∀ s w', Own w' w.heap.size t_uint8 1 s (bv (packB wt bs)) → Grow w w' → R s w') : Cpi_Pack ls wt w R := by
  refine Fpi_Pack.calls _ _ _ _ ?_
  have hbn := rd_bk hl
  refine ⟨fun p x u => ∃ j : Nat, x = j ∧ j ≤ bs.length ∧ Grow w u ∧ Own u w.heap.size t_uint8 1 p (bv (packB wt (bs.take j))), fun _ x _ => bs.length - x.toNat, ⟨0, rfl, Nat.zero_le _, Keep.refl _ _, own_nil _ _ _ _⟩, ?_⟩
  rintro p x u ⟨j, rfl, hj, hgu, hown⟩
  refine br_nat (fun hlt => ?_) (fun hge => ?_)
  · have hjb : j < bs.length := by omega
    have hpn := own_n' hown
    rw [packB_len, List.length_take, Nat.min_eq_left hj] at hpn
    have hsz : szB wt ≤ 24 := by unfold szB; split <;> decide
    have hjs : j * szB wt ≤ 4096 * 24 := Nat.mul_le_mul (by omega) hsz
    refine letX1 (fun q v => Grow w v ∧ Own v w.heap.size t_uint8 1 q (bv (packB wt (bs.take (j + 1))))) (fun q v ⟨h1, h2⟩ => by
      rw [w64 (by omega) (by omega)]
      exact ⟨⟨j + 1, by omega, by omega, h1, h2⟩, by dsimp only; omega⟩) (fun J => ?_)
    obtain ⟨a0, ha0, hc0⟩ := rd_bk_at (hl.grow hgu) hjb
    refine ⟨⟨by omega, by omega, by rw [ha0]; rfl⟩, (bc bs[j]).toArray, by rw [ha0, Int.toNat_natCast]; exact bLoad hc0, ?_⟩
    rw [packB_succ wt hjb] at J
    generalize bs[j] = b at *
    refine new_rule fun pb w1 hpb hb1 hg1 hsz1 => ?_
    refine storeVar_rule (cells := (bc b).toArray) hb1 i_api_Block (by simp [bc_len]) (by simp [bc_len]) (bc_all _) fun w2 hb2 hk2 hsz2 => ⟨by decide, ?_⟩
    have hg2 : Grow u w2 := hg1.keep hk2 fun i hi q => by omega
    have hgw2 := hgu.trans hg2
    refine append_rule (x := ⟨some ⟨pb, 0, none⟩, 16, 16⟩) u_sl_uint8 i_uint8 rfl (by decide) (by decide) (hown.grow hg2) (dRd hb2) (bv_one' _) (by show (p.n + 16) * 1 ≤ _; omega) hgw2.size fun q w3 hn3 hown3 hk3 hat3 => ?_
    rw [← bv_append] at hown3
    have hgw3 := own_grow' hgw2 (hown.grow hg2) (Nat.le_refl _) hk3
    have hpq : pb ≠ q.n ∨ True := .inr trivial
    have hb3 : Blk w3 pb (bc b).toArray t_api_Block := hk3.heap hb2 fun e => by have := (hown.ge pb e.symm).2; omega
    cases wt with
    | false =>
      refine br_f rfl (J q w3 ⟨hgw3, ?_⟩)
      rw [bv_append, wire_cells, ← bv_append]
      exact hown3
    | true =>
      refine br_t rfl ⟨_, tLoad (cells_tail (blk_cells hb3)), ?_⟩
      refine new_rule fun tb w4 htb hb4 hg4 hsz4 => ?_
      refine storeVar_rule (cells := (tc b.g b.a b.r).toArray) hb4 i_api_Tuple rfl rfl (by simp [tc, Value.oneCell']) fun w5 hb5 hk5 hsz5 => ?_
      have hg35 : Grow w3 w5 := hg4.keep hk5 fun i hi q => by omega
      have cg : w5.cell? ((⟨tb, 0, none⟩ : Addr).add 0) = some (.int .u16 (b.g : Int)) := by rw [add0, hb5.cell]; rfl
      have ca : w5.cell? ((⟨tb, 0, none⟩ : Addr).add 1) = some (.int .u16 (b.a : Int)) := by rw [add0, hb5.cell]; rfl
      have cr : w5.cell? ((⟨tb, 0, none⟩ : Addr).add 2) = some (.int .u32 (b.r : Int)) := by rw [add0, hb5.cell]; rfl
      refine ⟨_, cg, _, cg, _, ca, _, ca, _, cr, _, cr, _, cr, _, cr, ?_⟩
      rw [shr .u16 b.g 8 (by decide), shr .u16 b.a 8 (by decide), shr .u32 b.r 24 (by decide), shr .u32 b.r 16 (by decide), shr .u32 b.r 8 (by decide), wrap_u8, wrap_u8, wrap_u8, wrap_u8, wrap_u8, wrap_u8, wrap_u8, wrap_u8]
      refine lit_rule (cells := (bv (tupB b)).toArray) (e := t_uint8) (z := 1) (base := w.heap.size) (by kernel_rfl) rfl (by decide) (hgw3.trans hg35).size fun w6 hlit6 hg6 _ => ?_
      have hn3 : q.n = p.n + 16 := hn3
      refine append_rule u_sl_uint8 i_uint8 rfl (by decide) (by decide) ((hown3.grow hg35).grow hg6) (hlit6.rd (by show 8 ≤ _; decide)) (bv_one' _) (by rw [hn3]; show (p.n + 16 + 8) * 1 ≤ _; omega) ((hgw3.trans hg35).trans hg6).size fun q2 w7 hn7 hown7 hk7 _ => ?_
      refine J q2 w7 ⟨own_grow' ((hgw3.trans hg35).trans hg6) ((hown3.grow hg35).grow hg6) (Nat.le_refl _) hk7, ?_⟩
      have e : bv (packB true (bs.take j) ++ wireB true b) = bv (packB true (bs.take j) ++ b.d) ++ bv (tupB b) := by
        rw [← bv_append]; simp [wireB]
      rw [e]
      exact hown7
  · have : j = bs.length := by omega
    subst this
    rw [List.take_length] at hown
    exact h p u hown hgu
/-! ### unpacked -/
theorem or16 {a b : Nat} (ha : a < 256) (hb : b < 256) : bOr .u16 (bShl .u16 (IntKind.wrap .u16 (a : Int)) 8) (IntKind.wrap .u16 (b : Int)) = ((a * 256 + b : Nat) : Int) := by
  rw [wu16 (n := (a : Int)) (by omega) (by omega), wu16 (n := (b : Int)) (by omega) (by omega), shl16_8 ha]
  unfold bOr
  show IntKind.wrap .u16 (((BitVec.ofInt 16 ((a * 256 : Nat) : Int) ||| BitVec.ofInt 16 (b : Int)).toNat : Nat) : Int) = _
  rw [BitVec.ofInt_natCast, BitVec.ofInt_natCast, BitVec.toNat_or, BitVec.toNat_ofNat, BitVec.toNat_ofNat, Nat.mod_eq_of_lt (by omega), Nat.mod_eq_of_lt (by omega)]
  have e : a * 256 ||| b = a * 256 + b := by
    have := Nat.shiftLeft_add_eq_or_of_lt (i := 8) (b := b) (by omega) a
    rw [Nat.shiftLeft_eq] at this
    exact this.symm
  rw [e]
  exact wu16 (by omega) (by omega)
theorem or32 {x y m : Nat} (hm : ∃ k, m = 2 ^ k) (hx : ∃ a, x = a * m) (hy : y < m) (hs : x + y < 4294967296) : bOr .u32 (x : Int) (y : Int) = ((x + y : Nat) : Int) := by
  obtain ⟨k, rfl⟩ := hm
  obtain ⟨a, rfl⟩ := hx
  unfold bOr
  show IntKind.wrap .u32 (((BitVec.ofInt 32 ((a * 2 ^ k : Nat) : Int) ||| BitVec.ofInt 32 (y : Int)).toNat : Nat) : Int) = _
  rw [BitVec.ofInt_natCast, BitVec.ofInt_natCast, BitVec.toNat_or, BitVec.toNat_ofNat, BitVec.toNat_ofNat, Nat.mod_eq_of_lt (by omega), Nat.mod_eq_of_lt (by omega)]
  have e : a * 2 ^ k ||| y = a * 2 ^ k + y := by
    have := Nat.shiftLeft_add_eq_or_of_lt (i := k) (b := y) hy a
    rw [Nat.shiftLeft_eq] at this
    exact this.symm
  rw [e]
  exact wu32 (by omega) (by omega)
theorem shl32 {a k m : Nat} (hm : m = 2 ^ k) (hk : k ≤ 32) (h : a * m < 4294967296) : bShl .u32 (a : Int) k = ((a * m : Nat) : Int) := by
  subst hm
  unfold bShl
  have e : (min k (IntKind.bits .u32)) = k := Nat.min_eq_left hk
  have e2 : (a : Int) * 2 ^ k = ((a * 2 ^ k : Nat) : Int) := by norm_cast
  rw [e, e2]
  exact wu32 (by omega) (by omega)
theorem be32 {a b c d : Nat} (ha : a < 256) (hb : b < 256) (hc : c < 256) (hd : d < 256) :
    bOr .u32 (bOr .u32 (bOr .u32 (bShl .u32 (IntKind.wrap .u32 (a : Int)) 24) (bShl .u32 (IntKind.wrap .u32 (b : Int)) 16)) (bShl .u32 (IntKind.wrap .u32 (c : Int)) 8)) (IntKind.wrap .u32 (d : Int)) = ((a * 16777216 + b * 65536 + c * 256 + d : Nat) : Int) := by
  rw [wu32 (n := (a : Int)) (by omega) (by omega), wu32 (n := (b : Int)) (by omega) (by omega), wu32 (n := (c : Int)) (by omega) (by omega), wu32 (n := (d : Int)) (by omega) (by omega)]
  rw [shl32 (a := a) (k := 24) (m := 16777216) rfl (by decide) (by omega), shl32 (a := b) (k := 16) (m := 65536) rfl (by decide) (by omega), shl32 (a := c) (k := 8) (m := 256) rfl (by decide) (by omega)]
  rw [or32 (m := 16777216) ⟨24, rfl⟩ ⟨a, rfl⟩ (by omega) (by omega), or32 (m := 65536) ⟨16, rfl⟩ ⟨a * 256 + b, by omega⟩ (by omega) (by omega), or32 (m := 256) ⟨8, rfl⟩ ⟨a * 65536 + b * 256 + c, by omega⟩ (by omega) (by omega)]
theorem num_4 {a b c d : UInt8} : num [a, b, c, d] = a.toNat * 16777216 + b.toNat * 65536 + c.toNat * 256 + d.toNat := by simp [num]; omega
theorem unB_false (l : L8) (h : 16 ≤ l.length) : bc (unB false l) = bv (l.take 16) ++ tc 0 0 0 := by
  have e : pad16 l = l.take 16 := by unfold pad16; rw [List.take_append_of_le_length h]
  show bv (pad16 l) ++ tc 0 0 0 = _
  rw [e]
theorem unB_true (l : L8) (h : 16 ≤ l.length) : bc (unB true l) = bv (l.take 16) ++ tc (num ((l.drop 16).take 2)) (num ((l.drop 18).take 2)) (num ((l.drop 20).take 4)) := by
  have e : pad16 l = l.take 16 := by unfold pad16; rw [List.take_append_of_le_length h]
  show bv (pad16 l) ++ tc (num ((l.drop 16).take 2)) (num ((l.drop 18).take 2)) (num ((l.drop 20).take 4)) = _
  rw [e]
theorem unB_take {wt : Bool} {l : L8} : unB wt (l.take (szB wt)) = unB wt l := by
  cases wt with
  | false =>
    unfold unB szB
    have e : pad16 (l.take 16) = pad16 l := by
      unfold pad16
      rcases Nat.le_total 16 l.length with q | q
      · rw [List.take_append_of_le_length (by rw [List.length_take]; omega), List.take_take, List.take_append_of_le_length q]; rfl
      · rw [List.take_of_length_le q]
    simp only [Bool.false_eq_true, if_false, e]
  | true =>
    unfold unB szB
    have e : pad16 (l.take 24) = pad16 l := by
      unfold pad16
      rcases Nat.le_total 24 l.length with q | q
      · rw [List.take_append_of_le_length (by rw [List.length_take]; omega), List.take_take, List.take_append_of_le_length (by omega)]; rfl
      · rw [List.take_of_length_le q]
    have f : ∀ d n, d + n ≤ 24 → ((l.take 24).drop d).take n = (l.drop d).take n := fun d n h => by
      rw [List.drop_take, List.take_take, Nat.min_eq_left (by omega)]
    simp only [if_true, e, f 16 2 (by decide), f 18 2 (by decide), f 20 4 (by decide)]
end Go.Proofs.YtpmebahhjgkflaaGreatDoor

/- Layer 13: unpacking. -/
namespace Go.Proofs.YtpmebahhjgkflaaGreatDoor
open Go CF
set_option maxRecDepth 100000

theorem take2 {X : L8} {d : Nat} (h : d + 2 ≤ X.length) : (X.drop d).take 2 = [X[d], X[d + 1]] := by
  rw [List.drop_eq_getElem_cons (show d < X.length by omega), List.take_succ_cons, List.drop_eq_getElem_cons (show d + 1 < X.length by omega), List.take_succ_cons, List.take_zero]
theorem take4 {X : L8} {d : Nat} (h : d + 4 ≤ X.length) : (X.drop d).take 4 = [X[d], X[d + 1], X[d + 2], X[d + 3]] := by
  rw [List.drop_eq_getElem_cons (show d < X.length by omega), List.take_succ_cons, List.drop_eq_getElem_cons (show d + 1 < X.length by omega), List.take_succ_cons, List.drop_eq_getElem_cons (show d + 2 < X.length by omega), List.take_succ_cons,
    List.drop_eq_getElem_cons (show d + 3 < X.length by omega), List.take_succ_cons, List.take_zero]
theorem unpack_spec {p : Sl} {l : L8} {wt : Bool} {w : World} {R : Sl → Bool → World → Prop} (hp : Rd w 1 p (bv l)) (hb : p.n ≤ 140737488351232)
    (h1 : l.length % szB wt ≠ 0 → R nilS false w) (h2 : l.length % szB wt = 0 → ∀ out u, Grow w u → Own u w.heap.size t_api_Block 19 out ((unpB wt l).flatMap bc) → R out true u) : Cpi_Unpack p wt w R := by
  refine Fpi_Unpack.calls _ _ _ _ ?_
  have hln := rd_n' hp
  have hs16 : 16 ≤ szB wt ∧ szB wt ≤ 24 := by unfold szB; split <;> decide
  refine size_spec ⟨by omega, ?_⟩
  have em : ((p.n : Int).tmod ((szB wt : Nat) : Int)) = ((l.length % szB wt : Nat) : Int) := by rw [hln]; rfl
  rw [em]
  refine br_ne (fun q => h1 (by omega)) (fun q => ?_)
  have hm : l.length % szB wt = 0 := by omega
  have hN : l.length = l.length / szB wt * szB wt := by have := Nat.div_add_mod l.length (szB wt); rw [hm, Nat.mul_comm] at this; omega
  have h2 := h2 hm
  generalize hNN : l.length / szB wt = N at *
  have hN16 : N * 16 ≤ l.length := by rw [hN]; exact Nat.mul_le_mul_left _ hs16.1
  have hul : (unpB wt l).length = N := by rw [unpB_len, hNN]
  refine ⟨fun p1 out u => ∃ j : Nat, j ≤ N ∧ Grow w u ∧ (∀ v, Grow w v → Rd v 1 p1 (bv (l.drop (j * szB wt)))) ∧ Own u w.heap.size t_api_Block 19 out (((unpB wt l).take j).flatMap bc), fun p1 _ _ => p1.n,
    ⟨0, Nat.zero_le _, Keep.refl _ _, fun v hv => by rw [Nat.zero_mul, List.drop_zero]; exact hp.grow hv, own_nil _ _ _ _⟩, ?_⟩
  rintro p1 out u ⟨j, hj, hgu, hp1, hown⟩
  have hpu := hp1 u hgu
  have hpn := rd_n' hpu
  rw [List.length_drop] at hpn
  have hjs : j * szB wt ≤ N * szB wt := Nat.mul_le_mul_right _ hj
  by_cases hjN : j = N
  · subst hjN
    refine br_f (by rw [decide_eq_false_iff_not]; omega) ?_
    rw [List.take_of_length_le (by omega)] at hown
    exact h2 out u hgu hown
  have hjs1 : j * szB wt + szB wt ≤ N * szB wt := by rw [← Nat.succ_mul]; exact Nat.mul_le_mul_right _ (by omega)
  have hcap := hpu.cap
  refine br_t (by rw [decide_eq_true_eq]; omega) ?_
  have hXl : (l.drop (j * szB wt)).length = p1.n := by rw [List.length_drop]; exact hpn
  have hun : (unpB wt l)[j]'(by omega) = unB wt (l.drop (j * szB wt)) := by rw [unpB_at, unB_take]
  have hou := rd_bk (hown.rd (by
    have := hown.len
    rw [flat_length bc_len, List.length_take] at this
    omega))
  rw [List.length_take, hul, Nat.min_eq_left hj] at hou
  refine letX1 (fun out1 v => Grow w v ∧ Own v w.heap.size t_api_Block 19 out1 (((unpB wt l).take (j + 1)).flatMap bc)) ?_ (fun J => ?_)
  · rintro out1 v ⟨h3, h5⟩
    refine ⟨⟨by omega, by omega, by omega, hcap⟩, ⟨j + 1, by omega, h3, fun x hx => ?_, h5⟩, ?_⟩
    · have := (hp1 x hx).cutB (l := szB wt) (k := p1.n) (by omega) (Nat.le_refl _)
      rw [List.take_of_length_le (by rw [List.length_drop]; omega), List.drop_drop] at this
      rw [Nat.succ_mul]
      exact this
    · show ((p1.n : Int)).toNat - ((szB wt : Nat) : Int).toNat < p1.n
      rw [Int.toNat_natCast, Int.toNat_natCast]; omega
  have hflat : ((unpB wt l).take (j + 1)).flatMap bc = ((unpB wt l).take j).flatMap bc ++ bc (unB wt (l.drop (j * szB wt))) := by
    rw [List.take_succ_eq_append_getElem (by omega), List.flatMap_append, hun]; simp
  rw [hflat] at J
  generalize hX : l.drop (j * szB wt) = X at *
  refine new_rule fun pb w1 hpb hb1 hg1 hsz1 => ⟨by decide, ?_⟩
  have hb1 : Blk w1 pb (bc zeroBk).toArray t_api_Block := hb1
  refine copy16_rule hb1 (hp1 w1 (hgu.trans hg1)) (by omega) fun w2 hb2 hk2 hsz2 => ?_
  have hg2 : Grow u w2 := hg1.keep hk2 fun i hi q => by omega
  refine letX0 (fun v => Grow u v ∧ Blk v pb (bc (unB wt X)).toArray t_api_Block) ?_ (fun J1 => ?_)
  · rintro v ⟨hgv, hbv⟩
    refine ⟨_, bLoad (blk_cells hbv), ?_⟩
    refine lit_rule (cells := (bc (unB wt X)).toArray) (e := t_api_Block) (z := 19) (base := 0) (lit_block _ _) (by simp [bc_len]) (by decide) (Nat.zero_le _) fun w3 hlit3 hg3 _ => ?_
    refine append_wide_rule u_sl_api_Block i_api_Block rfl (by decide) (by decide) ((hown.grow hgv).grow hg3) (hlit3.rd (by show 1 ≤ _; decide)) (fun x hx => bc_ones _ x (by simpa using hx)) (by show out.n + 1 ≤ _; omega) (by show (out.n + 1 + (out.n + 1) / 4 + 192) * 24 ≤ _; omega) ((hgu.trans hgv).trans hg3).size fun s' w4 hn4 hown4 hk4 => ?_
    exact J s' w4 ⟨own_grow' ((hgu.trans hgv).trans hg3) ((hown.grow hgv).grow hg3) (Nat.le_refl _) hk4, by simpa using hown4⟩
  · have hgw2 := hgu.trans hg2
    cases wt with
    | false =>
      refine br_f rfl (J1 w2 ⟨hg2, ?_⟩)
      rw [unB_false X (by omega)]
      exact hb2
    | true =>
      have h24 : 24 ≤ X.length := by have : szB true = 24 := rfl; omega
      refine br_t rfl ⟨⟨by decide, by omega, by omega, hcap⟩, ?_⟩
      rintro w3 rfl
      have hg3 : Grow w2 w2.drew := keep_drew w2
      have hcut : ∀ v, Grow w v → Rd v 1 ⟨cutA p1.A p1.c 16 1, p1.n - 16, p1.c - 16⟩ (bv (X.drop 16)) := fun v hv => by
        have := (hp1 v hv).cutB (l := 16) (k := p1.n) (by omega) (Nat.le_refl _)
        rwa [List.take_of_length_le (by rw [List.length_drop]; omega)] at this
      have rd : ∀ i (hi : 16 + i < X.length) v, Grow w v → v.cell? ((gA (cutA p1.A p1.c 16 1)).add (i * 1)) = some (.int .u8 (X[16 + i].toNat : Int)) := fun i hi v hv => by
        obtain ⟨a, ha, hc⟩ := (hcut v hv).byte (i := i) (by show i < p1.n - 16; omega)
        have ha : cutA p1.A p1.c 16 1 = some a := ha
        rw [ha, gA]
        simpa using hc
      have hA : (cutA p1.A p1.c 16 1).isSome = true := by
        obtain ⟨a, ha, _⟩ := (hcut w2 hgw2).byte (i := 0) (by show 0 < p1.n - 16; omega)
        have ha : cutA p1.A p1.c 16 1 = some a := ha
        rw [ha]; rfl
      have bd : ∀ i : Nat, i < 8 → (0 : Int) ≤ (i : Int) ∧ (i : Int) < (((((p1.n : Int)).toNat - 16) : Nat) : Int) ∧ (cutA p1.A p1.c 16 1).isSome = true := fun i hi => ⟨by omega, by rw [Int.toNat_natCast]; omega, hA⟩
      refine ⟨fun v => Grow w v, hgw2.trans hg3, bd 0 (by decide), _, rd 0 (by omega), bd 1 (by decide), _, rd 1 (by omega), bd 2 (by decide), _, rd 2 (by omega), bd 3 (by decide), _, rd 3 (by omega),
        bd 4 (by decide), _, rd 4 (by omega), bd 5 (by decide), _, rd 5 (by omega), bd 6 (by decide), _, rd 6 (by omega), bd 7 (by decide), _, rd 7 (by omega), ?_⟩
      rw [or16 (UInt8.toNat_lt _) (UInt8.toNat_lt _), or16 (UInt8.toNat_lt _) (UInt8.toNat_lt _), be32 (UInt8.toNat_lt _) (UInt8.toNat_lt _) (UInt8.toNat_lt _) (UInt8.toNat_lt _)]
      have hb3 : Blk w2.drew pb _ t_api_Block := hg3.heap hb2 (fun q => q)
      rw [add0]
      refine storeAt_rule (o := 0 + 16) (cells := (tc (X[16 + 0].toNat * 256 + X[16 + 1].toNat) (X[16 + 2].toNat * 256 + X[16 + 3].toNat) (X[16 + 4].toNat * 16777216 + X[16 + 5].toNat * 65536 + X[16 + 6].toNat * 256 + X[16 + 7].toNat)).toArray) hb3 i_api_Tuple rfl
        (by have : (bv (X.take 16)).length = 16 := by rw [bv_length, List.length_take]; omega
            simp [this, tc]) (by intro v hv; simp [tc] at hv; rcases hv with rfl | rfl | rfl <;> rfl) fun w4 hb4 hk4 hsz4 => ?_
      refine J1 w4 ⟨(hg2.trans hg3).keep hk4 fun i hi q => by omega, ?_⟩
      have e : (unB true X) = unB true X := rfl
      rw [unB_true X (by omega), take2 (by omega), take2 (by omega), take4 (by omega), num_two, num_two, num_4]
      have hl16 : (bv (X.take 16)).length = 16 := by rw [bv_length, List.length_take]; omega
      have e2 : ((bv (X.take 16) ++ tc 0 0 0).take (0 + 16)) = bv (X.take 16) := by rw [List.take_append_of_le_length (by omega), List.take_of_length_le (by omega)]
      have e3 : ((bv (X.take 16) ++ tc 0 0 0).drop (0 + 16 + 3)) = [] := List.drop_of_length_le (by rw [List.length_append, hl16]; decide)
      have hb4 : Blk w4 pb ((bv (X.take 16) ++ tc 0 0 0).take (0 + 16) ++ tc (X[16 + 0].toNat * 256 + X[16 + 1].toNat) (X[16 + 2].toNat * 256 + X[16 + 3].toNat) (X[16 + 4].toNat * 16777216 + X[16 + 5].toNat * 65536 + X[16 + 6].toNat * 256 + X[16 + 7].toNat) ++ (bv (X.take 16) ++ tc 0 0 0).drop (0 + 16 + 3)).toArray t_api_Block := hb4
      rw [e2, e3, List.append_nil] at hb4
      exact hb4
end Go.Proofs.YtpmebahhjgkflaaGreatDoor

/- Layer 14: a device; its reading and writing. -/
namespace Go.Proofs.YtpmebahhjgkflaaGreatDoor
open Go CF
set_option maxRecDepth 100000

/-- a command, taken apart -/
structure Cm where
  kind : Nat
  long : Bool
  lba : Nat
  blocks : Nat
  alloc : Int
  fua : Bool
  prot : Nat
  unmap : Bool
  evpd : Bool
  page : Nat
  control : Nat
  save : Bool
  service : Nat
  type : Nat
  bytes : Bool
def cmv (c : Cm) : List Value := [.int .u8 (c.kind : Int), .bool c.long, .int .u64 (c.lba : Int), .int .u64 (c.blocks : Int), .int .i64 c.alloc, .bool c.fua, .int .u8 (c.prot : Int), .bool c.unmap, .bool c.evpd, .int .u8 (c.page : Int), .int .u8 (c.control : Int),
  .bool c.save, .int .u8 (c.service : Int), .int .u8 (c.type : Int), .bool c.bytes]
theorem cLoad {w : World} {a : Addr} {c : Cm} (h : Cells w a (cmv c)) : (loadVar t_api_Cmd a).run Tryz.prog w = .ok (.agg (cmv c).toArray) w := loadVar_rule g_api_Cmd i_api_Cmd rfl h
def dvcells (ps kind : Nat) : Array Value := #[.pointer (some ⟨ps, 0, none⟩), .int .u8 (kind : Int)]
/-- a device, what it keeps, and what it may write over -/
structure Dvq (w : World) (dv ps pw : Nat) (file : ByteArray) (kind n : Nat) (cache : Bool) (D : Nat → Prop) (st : Wst) (bs : List Bk) (m : Nat) (F : Int → Bool) : Prop where
  dev : Blk w dv (dvcells ps kind) t_sbc_Dev
  isS : IsS w ps pw file n cache
  isW : IsWq w pw D st F
  nps : ¬ D ps
  ndv : ¬ D dv
  ok : Wok st
  tells : Tells st file bs
  len : bs.length = n
  size : 1 ≤ n ∧ n ≤ 4096
  nm : 1 ≤ file.size ∧ file.size ≤ 32
  kd : kind ≤ 3
  few : st.ops ≤ m ∧ st.waits.length ≤ m
/-- the device where no call fails -/
abbrev Dv (w : World) (dv ps pw : Nat) (file : ByteArray) (kind n : Nat) (cache : Bool) (D : Nat → Prop) (st : Wst) (bs : List Bk) (m : Nat) : Prop := Dvq w dv ps pw file kind n cache D st bs m quiet
section
variable {w u : World} {dv ps pw : Nat} {file : ByteArray} {kind n : Nat} {cache : Bool} {D D' : Nat → Prop} {st st' : Wst} {bs bs' : List Bk} {m m' : Nat} {F : Int → Bool}
theorem Dvq.step (h : Dvq w dv ps pw file kind n cache D st bs m F) (k : Keep D w u) (hw : IsWq u pw D' st' F) (hD : ∀ k, D' k → D k ∨ w.heap.size ≤ k) (hok : Wok st') (ht : Tells st' file bs') (hl : bs'.length = n) (hf : st'.ops ≤ m' ∧ st'.waits.length ≤ m') :
    Dvq u dv ps pw file kind n cache D' st' bs' m' F := by
  have l1 := lt_of_heap h.dev
  have l2 := lt_of_heap h.isS
  refine ⟨k.heap h.dev h.ndv, k.heap h.isS h.nps, hw, fun q => ?_, fun q => ?_, hok, ht, hl, h.size, h.nm, h.kd, hf⟩
  · rcases hD _ q with r | r
    · exact h.nps r
    · omega
  · rcases hD _ q with r | r
    · exact h.ndv r
    · omega
theorem Dvq.grow (h : Dvq w dv ps pw file kind n cache D st bs m F) (g : Grow w u) : Dvq u dv ps pw file kind n cache D st bs m F :=
  ⟨g.heap h.dev (fun q => q), g.heap h.isS (fun q => q), h.isW.grow g, h.nps, h.ndv, h.ok, h.tells, h.len, h.size, h.nm, h.kd, h.few⟩
theorem Dvq.mono (h : Dvq w dv ps pw file kind n cache D st bs m F) (hm : m ≤ m') : Dvq w dv ps pw file kind n cache D st bs m' F :=
  ⟨h.dev, h.isS, h.isW, h.nps, h.ndv, h.ok, h.tells, h.len, h.size, h.nm, h.kd, by have := h.few; omega⟩
theorem dev0 (h : Blk w dv (dvcells ps kind) t_sbc_Dev) : w.cell? ((gA (some ⟨dv, 0, none⟩)).add 0) = some (.pointer (some ⟨ps, 0, none⟩)) := by rw [gA, add0, h.cell]; rfl
theorem dev1 (h : Blk w dv (dvcells ps kind) t_sbc_Dev) : w.cell? ((gA (some ⟨dv, 0, none⟩)).add 1) = some (.int .u8 (kind : Int)) := by rw [gA, add0, h.cell]; rfl
theorem rdBl_tells (ht : Tells st file bs) {lba k : Nat} (h : lba + k ≤ bs.length) : rdBl st file lba k = (bs.drop lba).take k := by
  apply List.ext_getElem?
  intro i
  unfold rdBl
  rw [List.getElem?_map, List.getElem?_take, List.getElem?_drop]
  by_cases q : i < k
  · rw [List.getElem?_range q, if_pos q, Option.map_some]
    exact ht.2 (lba + i) (by omega)
  · rw [if_neg q, List.getElem?_eq_none (by simp; omega)]; rfl
theorem blocks_spec {R : Int → World → Prop} (h : Dvq w dv ps pw file kind n cache D st bs m F) (hR : R (n : Int) w) : Csbc_Dev_blocks (some ⟨dv, 0, none⟩) w R := by
  refine Fsbc_Dev_blocks.calls _ _ _ ⟨rfl, some ⟨ps, 0, none⟩, dev0 h.dev, ?_⟩
  refine Fstore_Store_Blocks.calls _ _ _ (br_f rfl ⟨rfl, (n : Int), by rw [gA, add0, Blk.cell h.isS]; rfl, ?_⟩)
  have := h.size
  dsimp only
  rw [wu64 (by omega) (by omega)]
  exact hR
theorem dev_read_any {c : Cm} {R : Sl → Array Value → Bool → World → Prop} (h : Dvq w dv ps pw file kind n cache D st bs m F) (hm : m ≤ 600000000) (hc : c.lba + c.blocks ≤ n)
    (h1 : (∀ i : Nat, i < c.blocks → F ((st.ops + i : Nat) : Int) = false) → (∀ i (hi : i < ((bs.drop c.lba).take c.blocks).length), chkB kind c.prot (c.lba + i) ((bs.drop c.lba).take c.blocks)[i] = 0) → ∀ xs u, Keep D w u → RdW w u pw D st c.blocks →
      Own u w.heap.size t_api_Block 19 xs (((bs.drop c.lba).take c.blocks).flatMap bc) → R xs (rsv 0 sn0 nilS).toArray true u)
    (h2 : (∀ i : Nat, i < c.blocks → F ((st.ops + i : Nat) : Int) = false) → ∀ i (hi : i < ((bs.drop c.lba).take c.blocks).length), chkB kind c.prot (c.lba + i) ((bs.drop c.lba).take c.blocks)[i] ≠ 0 → ∀ u, Keep D w u → RdW w u pw D st c.blocks →
      R nilS (rsv 2 (atS 11 (chkB kind c.prot (c.lba + i) ((bs.drop c.lba).take c.blocks)[i]) (c.lba + i)) nilS).toArray false u)
    (hbad : ∀ k : Nat, k < c.blocks → (∀ i : Nat, i < k → F ((st.ops + i : Nat) : Int) = false) → F ((st.ops + k : Nat) : Int) = true → ∀ u, Keep D w u → RdW w u pw D st (k + 1) → R nilS (rsv 2 (atS 3 0x1100 (c.lba + k)) nilS).toArray false u) :
    Csbc_Dev_read (some ⟨dv, 0, none⟩) (cmv c).toArray w R := by
  refine Fsbc_Dev_read.calls _ _ _ _ ?_
  have hlen := h.len
  have hsz := h.size
  refine new_rule fun cb w0 hcb hb0 hg0 hsz0 => ?_
  have hb0 : Blk w0 cb (cmv c).toArray t_api_Cmd := hb0
  refine new_rule fun ab w1 hab hb1 hg1 hsz1 => ?_
  rintro w2 rfl
  have hg2 : Grow w1 w1.drew := keep_drew w1
  have hgw2 := (hg0.trans hg1).trans hg2
  have hw2 := h.grow hgw2
  have hc2 : Blk w1.drew cb (cmv c).toArray t_api_Cmd := (hg1.trans hg2).heap hb0 (fun q => q)
  have c2 : ∀ {v : World}, Blk v cb (cmv c).toArray t_api_Cmd → v.cell? ((⟨cb, 0, none⟩ : Addr).add 2) = some (.int .u64 (c.lba : Int)) := fun q => by rw [add0, q.cell]; rfl
  have c3 : ∀ {v : World}, Blk v cb (cmv c).toArray t_api_Cmd → v.cell? ((⟨cb, 0, none⟩ : Addr).add 3) = some (.int .u64 (c.blocks : Int)) := fun q => by rw [add0, q.cell]; rfl
  have c6 : ∀ {v : World}, Blk v cb (cmv c).toArray t_api_Cmd → v.cell? ((⟨cb, 0, none⟩ : Addr).add 6) = some (.int .u8 (c.prot : Int)) := fun q => by rw [add0, q.cell]; rfl
  refine ⟨fun v => Blk v dv (dvcells ps kind) t_sbc_Dev ∧ Blk v cb (cmv c).toArray t_api_Cmd, ⟨hw2.dev, hc2⟩, rfl, some ⟨ps, 0, none⟩, fun v hv => dev0 hv.1, (c.lba : Int), fun v hv => c2 hv.2, (c.blocks : Int), fun v hv => c3 hv.2, ?_⟩
  rw [w64 (n := (c.lba : Int)) (by omega) (by omega), w64 (n := (c.blocks : Int)) (by omega) (by omega)]
  have hfew := h.few
  refine store_readR_any hw2.isS hw2.nps hw2.isW h.nm hsz.2 hc (by omega) (fun hfl xs w3 hk3 hw3 hown3 hn3 => br_f rfl ?_) (fun k hkl hfl hf w3 hk3 hw3 => br_t rfl ?_)
  case refine_2 =>
    have lt0 := fun k (q : D k) => h.isW.lt q
    have hc3 : Blk w3 cb (cmv c).toArray t_api_Cmd := hk3.heap hc2 fun q => by have := lt0 _ q; omega
    refine ⟨(c.lba : Int), c2 hc3, ?_⟩
    rw [wu64 (n := (k : Int)) (by omega) (by omega), wu64 (by omega) (by omega), show ((c.lba : Int) + (k : Int)) = ((c.lba + k : Nat) : Int) by omega]
    refine at_spec (key := 3) fun w4 hg4 => ?_
    have ha4 : Blk w4 ab _ t_api_Result := hg4.heap (hk3.heap (hg2.heap hb1 (fun q => q)) (fun q => by have := lt0 _ q; omega)) (fun q => q)
    refine ret_rule ha4 rfl fun w5 hk5 => ?_
    have hkw : Keep D w w4 := ((hgw2.mono fun _ _ q => q.elim).trans hk3 fun _ _ q => q).grow hg4
    have hab2 : w.heap.size ≤ ab := by have := hg0.size; omega
    refine hbad k hkl hfl hf w5 (hkw.trans hk5 fun i hi q => by omega) (((hw3.pre hgw2).grow hg4).keep hk5 (fun k hk q => by have := lt0 _ hk; omega) (fun g cur hg q => by subst q; exact absurd (blk_type ha4 hg) (by decide)))
  rw [rdBl_tells h.tells (by omega)] at hown3
  have hLl : ((bs.drop c.lba).take c.blocks).length = c.blocks := by rw [List.length_take, List.length_drop]; omega
  generalize (bs.drop c.lba).take c.blocks = L at *
  have lt0 := fun k (q : D k) => h.isW.lt q
  have hkw3 : Keep D w w3 := (hgw2.mono fun _ _ q => q.elim).trans hk3 fun _ _ q => q
  have hc3 : Blk w3 cb (cmv c).toArray t_api_Cmd := hk3.heap hc2 fun q => by have := lt0 _ q; omega
  have hd3 : Blk w3 dv (dvcells ps kind) t_sbc_Dev := hk3.heap hw2.dev h.ndv
  have ha3 : ∀ {cs}, Blk w1 ab cs t_api_Result → Blk w3 ab cs t_api_Result := fun q => hk3.heap (hg2.heap q (fun q => q)) fun q => by have := lt0 _ q; omega
  have hown3 : Own w3 w.heap.size t_api_Block 19 xs (L.flatMap bc) := hown3.mono hgw2.size
  have hxr := hown3.rd (by omega)
  have s2 := hgw2.size
  have s3 := hkw3.size
  refine ⟨fun x v => ∃ j : Nat, x = j ∧ j ≤ L.length ∧ Grow w3 v ∧ ∀ i (hi : i < L.length), i < j → chkB kind c.prot (c.lba + i) L[i] = 0, fun x _ => L.length - x.toNat, ⟨0, rfl, Nat.zero_le _, Keep.refl _ _, fun _ _ q => absurd q (Nat.not_lt_zero _)⟩, ?_⟩
  rintro x v ⟨j, rfl, hj, hgv, hall⟩
  have hav : Blk v ab _ t_api_Result := hgv.heap (ha3 hb1) (fun q => q)
  have fin : ∀ {y : World} , Grow w3 y → ∀ {z : World}, Keep (fun k => k = ab) y z → Keep D w z ∧ RdW w z pw D st c.blocks := fun {y} hy {z} hz => by
    have hgz : Grow w3 y := hy
    have hzD : Keep (fun k => k = ab) w3 z := (hgz.mono fun _ _ q => q.elim).trans hz fun _ _ q => q
    refine ⟨⟨hzD.os.trans hkw3.os, hzD.tape.trans hkw3.tape, hzD.output.trans hkw3.output, Nat.le_trans hkw3.size hzD.size, fun k hk hn => ?_⟩, ?_⟩
    · rw [hzD.block k (by omega) (by omega), hkw3.block k hk hn]
    · refine ((hw3.pre hgw2).grow hgz).keep hz (fun k hk q => ?_) (fun g cur hg q => ?_)
      · have := lt0 _ hk; omega
      · subst q
        have := hgz.heap (ha3 hb1) (fun q => q)
        exact absurd (blk_type this hg) (by decide)
  refine br_nat (fun hlt => ?_) (fun hge => ?_)
  · have hjL : j < L.length := by omega
    obtain ⟨a0, ha0, hc0⟩ := rd_bk_at (hxr.grow hgv) hjL
    refine ⟨⟨by omega, by omega, by rw [ha0]; rfl⟩, (bc L[j]).toArray, by rw [ha0, Int.toNat_natCast]; exact bLoad hc0, ?_⟩
    refine new_rule fun bb w4 hbb hb4 hg4 hsz4 => ?_
    refine storeVar_rule (cells := (bc L[j]).toArray) hb4 i_api_Block (by simp [bc_len]) (by simp [bc_len]) (bc_all _) fun w5 hb5 hk5 hsz5 => ?_
    have hg5 : Grow v w5 := hg4.keep hk5 fun i hi q => by omega
    have hg35 := hgv.trans hg5
    have hc5 := hg35.heap hc3 (fun q => q)
    refine ⟨(c.lba : Int), c2 hc5, ?_⟩
    rintro w6 rfl
    have hg6 : Grow w5 w5.drew := keep_drew w5
    have hg36 := hg35.trans hg6
    refine ⟨fun y => Blk y dv (dvcells ps kind) t_sbc_Dev ∧ Blk y cb (cmv c).toArray t_api_Cmd ∧ Blk y bb (bc L[j]).toArray t_api_Block, ⟨hg36.heap hd3 (fun q => q), hg36.heap hc3 (fun q => q), hg6.heap hb5 (fun q => q)⟩, rfl, (kind : Int), fun y hy => dev1 hy.1, (c.prot : Int), fun y hy => c6 hy.2.1,
      (bc L[j]).toArray, fun y hy => bLoad (blk_cells hy.2.2), ?_⟩
    have e1 : IntKind.wrap .u64 ((c.lba : Int) + IntKind.wrap .u64 (j : Int)) = ((c.lba + j : Nat) : Int) := by
      rw [wu64 (n := (j : Int)) (by omega) (by omega), wu64 (by omega) (by omega)]; omega
    rw [e1]
    refine check_b_spec fun w7 hg7 => ?_
    have hg37 := hg36.trans hg7
    by_cases hz : chkB kind c.prot (c.lba + j) L[j] = 0
    · refine br_f (by rw [hz]; rfl) ?_
      rw [w64 (by omega) (by omega)]
      refine ⟨⟨j + 1, by omega, by omega, hg37, fun i hi q => ?_⟩, by dsimp only; omega⟩
      by_cases e : i = j
      · subst e; exact hz
      · exact hall i hi (by omega)
    · refine br_t (by rw [bne_iff_ne]; omega) ?_
      refine at_spec (key := 11) fun w8 hg8 => ?_
      have hg38 := hg37.trans hg8
      refine ret_rule (hg38.heap (ha3 hb1) (fun q => q)) rfl fun w9 hk9 => ?_
      obtain ⟨f1, f2⟩ := fin hg38 hk9
      exact h2 hfl j hjL hz w9 f1 f2
  · refine ret_rule (st := 0) (s := sn0) (d := nilS) hav rfl fun w4 hk4 => ?_
    obtain ⟨f1, f2⟩ := fin hgv hk4
    refine h1 hfl (fun i hi => hall i hi (by omega)) xs w4 f1 f2 ((hown3.grow hgv).keep hk4 fun b hb q => ?_)
    obtain ⟨cur, hcur⟩ := own_heap (hown3.grow hgv) hb
    subst q
    exact absurd (blk_type hav hcur) (by decide)
end
end Go.Proofs.YtpmebahhjgkflaaGreatDoor
