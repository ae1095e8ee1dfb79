import Derived.Test.YtaneeadpjelomaaSt4
/- Layer 4: writing and reading blocks. -/
namespace Go.Proofs.Ytaneeadpjelomaa
open Go CF

theorem IsW.lt {w : World} {pw : Nat} {D : Nat → Prop} {st : Wst} (h : IsW w pw D st) {k : Nat} (hk : D k) : k < w.heap.size := by
  obtain ⟨mb, md, ws, cs, h⟩ := h
  exact h.lt k hk
def rsOf (bs : List Bk) (i : Nat) : L8 := match bs[i]? with | some b => recB b | none => []
theorem rsOf_len (bs : List Bk) (i : Nat) : (rsOf bs i).length ≤ 25 := by
  unfold rsOf; split
  · rw [recB_len]; exact Nat.le_refl _
  · decide
theorem rd_bk {w : World} {s : Sl} {bs : List Bk} (h : Rd w 19 s (bs.flatMap bc)) : bs.length = s.n := by
  have := h.len; rw [flat_length bc_len] at this; omega
theorem rd_bk_at {w : World} {s : Sl} {bs : List Bk} (h : Rd w 19 s (bs.flatMap bc)) {i : Nat} (hi : i < bs.length) : ∃ a, s.A = some a ∧ Cells w (a.add (i * 19)) (bc bs[i]) := by
  obtain ⟨a, ha, hc⟩ := h.elem (i := i) (by rw [← rd_bk h]; exact hi) (by decide)
  exact ⟨a, ha, by rw [flat_elem bc_len hi] at hc; exact hc⟩
theorem store_write_spec {w : World} {ps pw : Nat} {D : Nat → Prop} {st : Wst} {file : ByteArray} {blocks : Nat} {cache fua : Bool} {lba : Nat} {L : Sl} {bs : List Bk} {R : Int → Int → World → Prop}
    (hS : IsS w ps pw file blocks cache) (hps : ¬ D ps) (hw : IsW w pw D st) (hs : 1 ≤ file.size ∧ file.size ≤ 32) (hbk : blocks ≤ 4096) (hl : lba ≤ 1000000000) (hL : ∀ u, Keep D w u → Rd u 19 L (bs.flatMap bc))
    (ho : st.ops < 100000000000) (hn : st.waits.length < 100000000)
    (h1 : blocks < lba + bs.length → ∀ u, Grow w u → R 0 4 u)
    (h2 : lba + bs.length ≤ blocks → ∀ u D', Keep D w u → IsW u pw D' (layW st file lba (rsOf bs) bs.length) → (∀ k, D' k → D k ∨ w.heap.size ≤ k) → IsS u ps pw file blocks cache →
      if 0 < bs.length ∧ (fua = true ∨ cache = false) then Cworld_World_Sync (some ⟨pw, 0, none⟩) u (fun e v => R (bs.length : Int) e v) else R (bs.length : Int) 0 u) :
    Cstore_Store_Write (some ⟨ps, 0, none⟩) (lba : Int) L fua w R := by
  refine Fstore_Store_Write.calls _ _ _ _ _ _ ?_
  have hbn := rd_bk (hL w (Keep.mono (Keep.refl (fun _ => False) w) fun _ _ q => q.elim))
  refine new_rule fun lb w0 hlb hb0 hg0 hsz0 => ?_
  have hsz : w.heap.size ≤ w0.heap.size := hg0.size
  have hc0 : w0.cell? ⟨lb, 0, none⟩ = some (.slice L.A L.n L.c) := by rw [Blk.cell hb0]; rfl
  have hS0 : IsS w0 ps pw file blocks cache := hg0.heap hS (fun q => q)
  refine ⟨L, hc0, check_spec hS0 hbk hl ?_⟩
  by_cases q : lba + bs.length ≤ blocks
  case neg => rw [if_neg (by omega)]; exact br_t rfl (h1 (by omega) w0 hg0)
  rw [if_pos (by omega)]
  refine br_f rfl ⟨L, hc0, ?_⟩
  rw [← hbn]
  have hlD : ¬ D lb := fun e => by have := hw.lt e; omega
  refine lay_spec (n := bs.length) (rs := rsOf bs) hS0 hps (hw.grow hg0) hs (by omega) (rsOf_len bs) ho hn (fun x u K hx hk hK => ?_) fun u D' hk hw' hD' hS' => ?_
  · refine ⟨rfl, ?_⟩
    show Cstore_Store_Write_1 (x : Int) ⟨lb, 0, none⟩ u K
    refine Fstore_Store_Write_1.calls _ _ _ _ ?_
    have hLu : Rd u 19 L (bs.flatMap bc) := hL u ((hg0.mono (fun _ _ e => e.elim)).trans hk fun _ _ e => e)
    obtain ⟨a, ha, hc⟩ := rd_bk_at hLu hx
    refine ⟨L, hk.cell hc0 hlD, ⟨by omega, by omega, by rw [ha]; rfl⟩, (bc bs[x]).toArray, ?_, ?_⟩
    · rw [ha]; exact loadVar_rule g_api_Block i_api_Block (by rw [bc_len]) hc
    · refine record_spec fun s u' hg hown => hK s u' hg (Own.mono ?_ (Nat.zero_le u.heap.size))
      unfold rsOf
      rw [List.getElem?_eq_getElem hx]
      exact hown
  · refine h2 q u D' ((hg0.mono (fun _ _ e => e.elim)).trans hk fun _ _ e => e) hw' (fun k hk' => ?_) hS'
    rcases hD' k hk' with e | e
    · exact .inl e
    · exact .inr (by omega)
def rdBl (st : Wst) (file : ByteArray) (lba n : Nat) : List Bk := (List.range n).map fun i => blkAt ((st.seen file).getD []) (lba + i)
theorem bc_flat_one (l : List Bk) : ∀ v ∈ l.flatMap bc, v.oneCell' = true := fun v hv => by
  obtain ⟨b, _, hb⟩ := List.mem_flatMap.1 hv
  exact bc_ones b v hb
theorem lit_block (w : World) (b : Bk) : (Instr.buildSlice t_sl_api_Block 1 #[(0, .agg (bc b).toArray)]).run Try.prog w = .ok (.slice (some ⟨w.heap.size, 0, none⟩) 1 1) (w.alloc (.cells (bc b).toArray t_api_Block)) := by
  obtain ⟨d, g, a, r, hd, hg, ha, hr⟩ := b
  match d, hd with
  | [x0, x1, x2, x3, x4, x5, x6, x7, x8, x9, x10, x11, x12, x13, x14, x15], _ =>
    show (Instr.buildSlice t_sl_api_Block 1 #[(0, .agg #[.int .u8 (x0.toNat : Int), .int .u8 (x1.toNat : Int), .int .u8 (x2.toNat : Int), .int .u8 (x3.toNat : Int), .int .u8 (x4.toNat : Int), .int .u8 (x5.toNat : Int), .int .u8 (x6.toNat : Int), .int .u8 (x7.toNat : Int), .int .u8 (x8.toNat : Int), .int .u8 (x9.toNat : Int), .int .u8 (x10.toNat : Int), .int .u8 (x11.toNat : Int), .int .u8 (x12.toNat : Int), .int .u8 (x13.toNat : Int), .int .u8 (x14.toNat : Int), .int .u8 (x15.toNat : Int), .int .u16 (g : Int), .int .u16 (a : Int), .int .u32 (r : Int)])]).run Try.prog w = _
    kernel_rfl
theorem store_readR_spec {w : World} {ps pw : Nat} {D : Nat → Prop} {st : Wst} {file : ByteArray} {blocks : Nat} {cache : Bool} {lba n : Nat} {R : Sl → Int → Int → World → Prop}
    (hS : IsS w ps pw file blocks cache) (hps : ¬ D ps) (hw : IsW w pw D st) (hs : 1 ≤ file.size ∧ file.size ≤ 32) (hbk : blocks ≤ 4096) (hl : lba + n ≤ blocks) (ho : st.ops < 100000000000)
    (h : ∀ out u, Keep D w u → RdW w u pw D st n → Own u w.heap.size t_api_Block 19 out ((rdBl st file lba n).flatMap bc) → out.n = n → R out (n : Int) 0 u) :
    Cstore_Store_Read (some ⟨ps, 0, none⟩) (lba : Int) (n : Int) w R := by
  refine Fstore_Store_Read.calls _ _ _ _ _ ?_
  refine check_spec hS hbk (by omega) ?_
  rw [if_pos hl]
  refine br_f rfl ?_
  refine ⟨fun out x u => ∃ k : Nat, x = k ∧ k ≤ n ∧ Keep D w u ∧ RdW w u pw D st k ∧ Own u w.heap.size t_api_Block 19 out ((rdBl st file lba k).flatMap bc), fun _ x _ => n - x.toNat,
    ⟨0, rfl, Nat.zero_le _, Keep.mono (Keep.refl (fun _ => False) w) (fun _ _ q => q.elim), RdW.refl _ _ _ _, own_nil _ _ _ _⟩, ?_⟩
  rintro out x w0 ⟨k, rfl, hk, hk0, hr0, hown⟩
  have hw0 := hr0.isW hw
  have hol : out.n = k := by have := hown.len; rw [flat_length bc_len] at this; simp [rdBl] at this; omega
  refine br_nat (fun hlt => ?_) (fun hge => ?_)
  · rintro w1 rfl
    have hg1 : Grow w0 w0.drew := keep_drew w0
    have hk1 : Keep D w w0.drew := hk0.grow hg1
    have hS1 : IsS w0.drew ps pw file blocks cache := hk1.heap hS hps
    refine ⟨fun u => IsS u ps pw file blocks cache, hS1, rfl, some ⟨pw, 0, none⟩, fun u hu => by rw [gA, add0, Blk.cell hu]; rfl, rfl, file, fun u hu => by rw [gA, add0, Blk.cell hu]; rfl, ?_⟩
    have e : IntKind.wrap .i64 ((IntKind.wrap .i64 ((lba : Int) + (k : Int))) * 25) = ((25 * (lba + k) : Nat) : Int) := by
      rw [w64 (n := (lba : Int) + (k : Int)) (by omega) (by omega), w64 (by omega) (by omega)]; omega
    rw [e]
    refine world_readR_spec (n := 25) (hw0.grow hg1) hs (by omega) (by decide) (by show st.ops + k < _; omega) fun s w2 hk2 hr2 hown2 hsn => ?_
    refine br_f (by
      show ((_ : Int) != 0 && _) = false
      cases (st.seen file).isSome <;> rfl) ?_
    have hown2 : Own w2 w0.drew.heap.size t_uint8 1 s (bv ((((st.seen file).getD []).drop (25 * (lba + k))).take 25)) := hown2
    refine block_spec (hown2.rd (by omega)) (by omega) fun w3 hg3 => ?_
    refine lit_rule (cells := (bc (blkAt ((st.seen file).getD []) (lba + k))).toArray) (e := t_api_Block) (z := 19) (base := 0) ?_ (by simp [bc_len]) (by decide) (Nat.zero_le _) fun w4 hlit4 hg4 _ => ?_
    · exact lit_block _ _
    have outD : ∀ b, out.blk = some b → ¬ D b := fun b hb q => by
      have h1 := (hown.ge b hb).1
      have h2 := hw.lt q
      omega
    have hown4 : Own w4 w.heap.size t_api_Block 19 out ((rdBl st file lba k).flatMap bc) := (((hown.grow hg1).keep hk2 outD).grow hg3).grow hg4
    have hk4 : Keep D w w4 := ((hk1.trans hk2 fun _ _ q => q).grow hg3).grow hg4
    refine append_rule u_sl_api_Block i_api_Block rfl (by decide) (by decide) hown4 (hlit4.rd (by show 1 ≤ _; decide)) (fun v hv => bc_ones _ v (by simpa using hv)) (by show (out.n + 1) * 24 ≤ _; omega) hk4.size fun s' w5 hn5 hown5 hk5 _ => ?_
    have hk5' : Keep D w w5 := hk4.trans (S' := fun k => some k = out.blk) hk5 fun i hi q => by
      have := (hown4.ge i q.symm).1; omega
    rw [w64 (by omega) (by omega)]
    refine ⟨⟨k + 1, by omega, by omega, hk5', ?_, ?_⟩, by dsimp only; omega⟩
    · have := (((hr0.grow hg1).trans hr2).grow hg3 |>.grow hg4).keep hk5 (fun k hk q => outD k q.symm hk) (fun g cur hg q => ?_)
      · exact this
      · obtain ⟨cur', hc'⟩ := own_heap hown4 q.symm
        rw [hc'] at hg
        injection hg with hg
        injection hg with _ ht
        exact absurd ht (by decide)
    · have er : (rdBl st file lba (k + 1)).flatMap bc = (rdBl st file lba k).flatMap bc ++ bc (blkAt ((st.seen file).getD []) (lba + k)) := by
        unfold rdBl
        rw [List.range_succ, List.map_append, List.flatMap_append]
        simp
      rw [er]
      simpa using hown5
  · have hkn : k = n := by omega
    subst hkn
    exact h out w0 hk0 hr0 hown hol
theorem store_read_spec {w : World} {ps pw : Nat} {D : Nat → Prop} {st : Wst} {file : ByteArray} {blocks : Nat} {cache : Bool} {lba n : Nat} {R : Sl → Int → Int → World → Prop}
    (hS : IsS w ps pw file blocks cache) (hps : ¬ D ps) (hw : IsW w pw D st) (hs : 1 ≤ file.size ∧ file.size ≤ 32) (hbk : blocks ≤ 4096) (hl : lba + n ≤ blocks) (ho : st.ops < 100000000000)
    (h : ∀ out u, Keep D w u → IsW u pw D { st with ops := st.ops + n } → Own u w.heap.size t_api_Block 19 out ((rdBl st file lba n).flatMap bc) → out.n = n → R out (n : Int) 0 u) :
    Cstore_Store_Read (some ⟨ps, 0, none⟩) (lba : Int) (n : Int) w R := store_readR_spec hS hps hw hs hbk hl ho fun out u k r => h out u k (r.isW hw)
end Go.Proofs.Ytaneeadpjelomaa
