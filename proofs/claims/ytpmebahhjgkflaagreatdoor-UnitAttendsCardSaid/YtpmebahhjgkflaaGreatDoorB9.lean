import Derived.Test.YtpmebahhjgkflaaGreatDoorB8
/- Layer 14: blocks are written; blocks that came. -/
namespace Go.Proofs.YtpmebahhjgkflaaGreatDoor
open Go CF
set_option maxRecDepth 100000

theorem keepD_new {w y z : World} {D : Nat → Prop} {ab : Nat} (hk : Keep D w y) (ha : w.heap.size ≤ ab) (hz : Keep (fun k => k = ab) y z) : Keep D w z :=
  ⟨hz.os.trans hk.os, hz.tape.trans hk.tape, hz.output.trans hk.output, Nat.le_trans hk.size hz.size, fun k hk' hn => by rw [hz.block k (by have := hk.size; omega) (by omega), hk.block k hk' hn]⟩
theorem isWq_new {y z : World} {pw : Nat} {D : Nat → Prop} {st : Wst} {F : Int → Bool} {ab : Nat} {cs : Array Value} {t : TypeId} (hw : IsWq y pw D st F) (hb : Blk y ab cs t) (ht : t ≠ t_uint8) (hn : ¬ D ab) (hz : Keep (fun k => k = ab) y z) : IsWq z pw D st F :=
  hw.keep hz (fun k hk q => hn (q ▸ hk)) (fun g cur hg q => by subst q; exact ht (blk_type hb hg))
theorem rdW_new {x y z : World} {pw k : Nat} {D : Nat → Prop} {st : Wst} {ab : Nat} {cs : Array Value} {t : TypeId} (hw : RdW x y pw D st k) (hb : Blk y ab cs t) (ht : t ≠ t_uint8) (hn : ¬ D ab) (hz : Keep (fun k => k = ab) y z) : RdW x z pw D st k :=
  hw.keep hz (fun k hk q => hn (q ▸ hk)) fun g cur hg q => by subst q; exact ht (blk_type hb hg)
theorem tne_result : t_api_Result ≠ t_uint8 := by decide
section
variable {w u : World} {dv ps pw : Nat} {file : ByteArray} {kind n : Nat} {cache : Bool} {D D' : Nat → Prop} {st st' : Wst} {bs bs' : List Bk} {m m' : Nat}
theorem dev_write_any {F : Int → Bool} {lba : Nat} {ls : Sl} {L : List Bk} {fua : Bool} {R : Array Value → World → Prop} (h : Dvq w dv ps pw file kind n cache D st bs m F) (hm : m ≤ 600000000) (hc : lba + L.length ≤ n) (hL : ∀ v, Keep D w v → Rd v 19 ls (L.flatMap bc))
    (hR : (∀ i : Nat, i < L.length + (if syncs L.length fua cache then 1 else 0) → F ((st.ops + i : Nat) : Int) = false) → ∀ u D' , Keep D w u → Dvq u dv ps pw file kind n cache D' (syncIf (syncs L.length fua cache) (layW st file lba (rsOf L) L.length)) (setAll bs lba L L.length) (m + L.length + 1) F → (∀ k, D' k → D k ∨ w.heap.size ≤ k) → R (rsv 0 sn0 nilS).toArray u)
    (hbad : ∀ k : Nat, k < L.length + (if syncs L.length fua cache then 1 else 0) → (∀ i : Nat, i < k → F ((st.ops + i : Nat) : Int) = false) → F ((st.ops + k : Nat) : Int) = true → ∀ u D' , Keep D w u → Dvq u dv ps pw file kind n cache D' { layW st file lba (rsOf L) k with ops := st.ops + k + 1 } (setAll bs lba L k) (m + L.length + 1) F → (∀ k, D' k → D k ∨ w.heap.size ≤ k) → R (rsv 2 (atS 3 0x0c00 (lba + k)) nilS).toArray u) :
    Csbc_Dev_write (some ⟨dv, 0, none⟩) (lba : Int) ls fua w R := by
  refine Fsbc_Dev_write.calls _ _ _ _ _ _ ?_
  have hsz := h.size
  have hlen := h.len
  have hfew := h.few
  refine new_rule fun ab w1 hab hb1 hg1 hsz1 => ⟨rfl, some ⟨ps, 0, none⟩, dev0 (h.grow hg1).dev, ?_⟩
  have h1 := h.grow hg1
  rw [w64 (n := (lba : Int)) (by omega) (by omega)]
  have nab : ¬ D ab := fun q => by have := h.isW.lt q; omega
  refine store_write2_any h1.isS h1.nps h1.isW h1.ok h.nm hsz.2 hc (fun v hk => hL v ((hg1.mono fun _ _ q => q.elim).trans hk fun _ _ q => q)) (by omega) (by omega) (fun hfl w2 D2 hk2 hw2 hD2 hS2 => br_f rfl ?_) (fun k hk0 hfl hf w2 D2 hk2 hw2 hD2 hS2 => br_t rfl ?_)
  case refine_2 =>
    have hkl : k ≤ L.length := by split at hk0 <;> omega
    rw [wu64 (n := (k : Int)) (by omega) (by omega), wu64 (by omega) (by omega), show ((lba : Int) + (k : Int)) = ((lba + k : Nat) : Int) by omega]
    refine at_spec (key := 3) fun w3 hg3 => ?_
    have s1 := hg1.size
    have s2 := hk2.size
    have nab2 : ¬ D2 ab := fun q => by
      rcases hD2 _ q with r | r
      · exact nab r
      · omega
    have hb3 : Blk w3 ab _ t_api_Result := hg3.heap (hk2.heap hb1 nab) (fun q => q)
    refine ret_rule hb3 rfl fun w4 hk4 => ?_
    have hkD : Keep D w w4 := keepD_new (((hg1.mono fun _ _ q => q.elim).trans hk2 fun _ _ q => q).grow hg3) (by omega) hk4
    have hDD : ∀ k, D2 k → D k ∨ w.heap.size ≤ k := fun k q => by
      rcases hD2 k q with r | r
      · exact .inl r
      · exact .inr (by omega)
    obtain ⟨lo, lw⟩ := layW_ops st file lba (rsOf L) k
    exact hbad k hk0 hfl hf w4 D2 hkD (h.step hkD (isWq_new (hw2.grow hg3) hb3 tne_result nab2 hk4) hDD (layW_ok h.ok (rsOf_len L) k (by omega)) (tells_write_k h.tells (by omega) hkl) (by rw [setAll_len]; exact hlen) ⟨by show st.ops + k + 1 ≤ _; omega, by show (layW st file lba (rsOf L) k).waits.length ≤ _; omega⟩) hDD
  refine good_spec fun w3 hg3 => ?_
  have s1 := hg1.size
  have s2 := hk2.size
  have nab2 : ¬ D2 ab := fun q => by
    rcases hD2 _ q with r | r
    · exact nab r
    · omega
  have hb3 : Blk w3 ab _ t_api_Result := hg3.heap (hk2.heap hb1 nab) (fun q => q)
  refine ret_rule (st := 0) (s := sn0) (d := nilS) hb3 rfl fun w4 hk4 => ?_
  have hkD : Keep D w w4 := keepD_new (((hg1.mono fun _ _ q => q.elim).trans hk2 fun _ _ q => q).grow hg3) (by omega) hk4
  have hDD : ∀ k, D2 k → D k ∨ w.heap.size ≤ k := fun k q => by
    rcases hD2 k q with r | r
    · exact .inl r
    · exact .inr (by omega)
  obtain ⟨lo, lw⟩ := layW_ops st file lba (rsOf L) L.length
  have so := syncIf_ops (syncs L.length fua cache) (layW st file lba (rsOf L) L.length)
  have sw : (syncIf (syncs L.length fua cache) (layW st file lba (rsOf L) L.length)).waits.length ≤ st.waits.length + L.length := by
    rw [syncIf_waits]
    split
    · exact Nat.zero_le _
    · omega
  refine hR hfl w4 D2 hkD (h.step hkD (isWq_new (hw2.grow hg3) hb3 tne_result nab2 hk4) hDD (syncIf_ok (layW_ok h.ok (rsOf_len L) L.length (by omega))) (tells_write h.tells (by omega)) (by rw [setAll_len]; exact hlen) (by omega)) hDD
end
/-! ### a row of blocks changed in place -/
theorem own_storeAt {P : Program} {w : World} {base : Nat} {e ty : TypeId} {z o : Nat} {zv : Option Value} {q bytes : Nat} {s : Sl} {vs : List Value} {cells : Array Value} (hs : Own w base e z s vs) (hinfo : (P.info? ty).map (fun i => (i.zero, i.size, i.bytes)) = some (zv, q, bytes)) (hq : q = cells.size)
    (ho : o + cells.size ≤ vs.length) (hpos : 0 < cells.size) (h1 : ∀ v ∈ cells.toList, v.oneCell' = true) {K : World → Prop}
    (h : ∀ w1, Own w1 base e z s (vs.take o ++ cells.toList ++ vs.drop (o + cells.size)) → Keep (fun k => some k = s.blk) w w1 → w1.heap.size = w.heap.size → K w1) : RunU P (storeVar ty ((gA s.A).add o) (.agg cells)) w K := by
  obtain ⟨hlen, hown⟩ := hs
  rcases hown with ⟨h2, hn0⟩ | ⟨g, cap, cur, hv', hbg, hg, hnc, hcm, hcs, htake⟩
  · rw [hn0, Nat.zero_mul] at hlen; omega
  · injection hv' with hA hN hC
    have hle : s.n * z ≤ cur.size := by rw [hcs]; exact Nat.mul_le_mul_right _ hnc
    rw [hA, gA, add0, Nat.zero_add]
    refine storeAt_rule hg hinfo hq (by omega) h1 fun w1 hb1 hk1 hsz1 => ?_
    refine h w1 ⟨by simp only [List.length_append, List.length_take, List.length_drop, Array.length_toList]; omega, .inr ⟨g, cap, _, by rw [hA, hC], hbg, hb1, hnc, hcm, ?_, ?_⟩⟩ (hk1.mono fun k _ q => by simp [Sl.blk, hA, q]) hsz1
    · simp only [List.size_toArray, List.length_append, List.length_take, List.length_drop, Array.length_toList]; omega
    · have hF : cur.toList.take (s.n * z) = vs := htake
      have hl : vs.length = s.n * z := hlen
      rw [← hF]
      apply List.ext_getElem?
      intro j
      simp only [List.getElem?_take, List.getElem?_append, List.length_append, List.length_take, Array.length_toList, List.getElem?_drop]
      have e1 : min o cur.size = o := by omega
      have e2 : min o (min (s.n * z) cur.size) = o := by omega
      simp only [e1, e2]
      by_cases q1 : j < o
      · have q2 : j < o + cells.size := by omega
        have q3 : j < s.n * z := by omega
        simp only [if_pos q1, if_pos q2, if_pos q3]
      · by_cases q2 : j < o + cells.size
        · have q3 : j < s.n * z := by omega
          simp only [if_neg q1, if_pos q2, if_pos q3]
        · by_cases q3 : j < s.n * z
          · have q4 : o + cells.size + (j - (o + cells.size)) < s.n * z := by omega
            simp only [if_neg q2, if_pos q3, if_pos q4]
          · have q4 : ¬ o + cells.size + (j - (o + cells.size)) < s.n * z := by omega
            simp only [if_neg q2, if_neg q3, if_neg q4]
theorem flat_bc_len (l : List Bk) : (l.flatMap bc).length = l.length * 19 := flat_length bc_len l
theorem flat_set {l : List Bk} {j : Nat} {b : Bk} (hj : j < l.length) (hd : b.d = l[j].d) : (l.flatMap bc).take (j * 19 + 16) ++ tc b.g b.a b.r ++ (l.flatMap bc).drop (j * 19 + 16 + 3) = (l.set j b).flatMap bc := by
  have e : l = l.take j ++ l[j] :: l.drop (j + 1) := by rw [List.getElem_cons_drop, List.take_append_drop]
  have hA : ((l.take j).flatMap bc).length = j * 19 := by rw [flat_bc_len, List.length_take, Nat.min_eq_left (by omega)]
  have hl : l.flatMap bc = (l.take j).flatMap bc ++ (bc l[j] ++ (l.drop (j + 1)).flatMap bc) := by
    conv => lhs; rw [e]
    rw [List.flatMap_append, List.flatMap_cons]
  have hs : (l.set j b).flatMap bc = (l.take j).flatMap bc ++ (bc b ++ (l.drop (j + 1)).flatMap bc) := by
    rw [List.set_eq_take_append_cons_drop, if_pos hj, List.flatMap_append, List.flatMap_cons]
  have hb : bc b = bv l[j].d ++ tc b.g b.a b.r := by unfold bc tc; rw [hd]
  have t1 : ((l.take j).flatMap bc ++ (bc l[j] ++ (l.drop (j + 1)).flatMap bc)).take (j * 19 + 16) = (l.take j).flatMap bc ++ bv l[j].d := by
    rw [← hA, List.take_length_add_append, List.take_append_of_le_length (by rw [bc_len]; omega), bc_head]
  have t2 : ((l.take j).flatMap bc ++ (bc l[j] ++ (l.drop (j + 1)).flatMap bc)).drop (j * 19 + 16 + 3) = (l.drop (j + 1)).flatMap bc := by
    rw [Nat.add_assoc, ← hA, List.drop_length_add_append]
    have : 16 + 3 = (bc l[j]).length := by rw [bc_len]
    rw [this, List.drop_left]
  rw [hl, hs, t1, t2, hb]
  simp
end Go.Proofs.YtpmebahhjgkflaaGreatDoor

/- Layer 14: blocks that came with a command. -/
namespace Go.Proofs.YtpmebahhjgkflaaGreatDoor
open Go CF
set_option maxRecDepth 100000

def mk1 (kind lba : Nat) (b : Bk) : Bk := mkB kind lba b.d b.hd
/-- blocks given their tuples, the first j of them -/
def mkAll (kind lba : Nat) (U : List Bk) : Nat → List Bk
  | 0 => U
  | j + 1 => (mkAll kind lba U j).set j (mk1 kind (lba + j) (U.getD j zeroBk))
theorem mkAll_len (kind lba : Nat) (U : List Bk) : ∀ j, (mkAll kind lba U j).length = U.length
  | 0 => rfl
  | j + 1 => by simp [mkAll, mkAll_len kind lba U j]
theorem mkAll_at (kind lba : Nat) (U : List Bk) : ∀ (j i : Nat) (hi : i < U.length), (mkAll kind lba U j)[i]'(by rw [mkAll_len]; exact hi) = if i < j then mk1 kind (lba + i) U[i] else U[i]
  | 0, i, hi => by rw [if_neg (by omega)]; rfl
  | j + 1, i, hi => by
    have ih := mkAll_at kind lba U j i hi
    simp only [mkAll, List.getElem_set]
    by_cases e : j = i
    · subst e
      rw [if_pos rfl, if_pos (by omega), List.getD_eq_getElem?_getD, List.getElem?_eq_getElem hi]; rfl
    · rw [if_neg e, ih]
      by_cases q : i < j
      · rw [if_pos q, if_pos (by omega)]
      · rw [if_neg q, if_neg (by omega)]
theorem mk1_cells (kind lba : Nat) (b : Bk) : tc (mk1 kind lba b).g (mk1 kind lba b).a (mk1 kind lba b).r = tc (c16 b.d) 0 (mkR kind lba) := rfl
theorem dev_come_spec {w : World} {dv ps kind : Nat} {c : Cm} {p : Sl} {l : L8} {N : Nat} {R : Sl → Array Value → Bool → World → Prop} (hd : Blk w dv (dvcells ps kind) t_sbc_Dev) (hp : Rd w 1 p (bv l)) (hb : p.n ≤ 140737488351232) (hlba : c.lba ≤ 4096) (hN : N ≤ 4096)
    (h1 : (l.length % szB (decide (c.prot ≠ 0)) ≠ 0 ∨ l.length / szB (decide (c.prot ≠ 0)) ≠ N) → ∀ u, Grow w u → R nilS (rsv 2 (badS 0x1a00) nilS).toArray false u)
    (h2 : l.length % 16 = 0 → l.length / 16 = N → c.prot = 0 → ∀ xs u, Grow w u → Own u w.heap.size t_api_Block 19 xs ((mkAll kind c.lba (unpB false l) N).flatMap bc) → R xs (rsv 0 sn0 nilS).toArray true u)
    (h3 : l.length % 24 = 0 → l.length / 24 = N → c.prot ≠ 0 → (∀ i (hi : i < (unpB true l).length), chkB kind c.prot (c.lba + i) (unpB true l)[i] = 0) → ∀ xs u, Grow w u → Own u w.heap.size t_api_Block 19 xs ((unpB true l).flatMap bc) → R xs (rsv 0 sn0 nilS).toArray true u)
    (h4 : l.length % 24 = 0 → l.length / 24 = N → c.prot ≠ 0 → ∀ i (hi : i < (unpB true l).length), chkB kind c.prot (c.lba + i) (unpB true l)[i] ≠ 0 → (∀ j (hj : j < i), chkB kind c.prot (c.lba + j) ((unpB true l)[j]'(by omega)) = 0) → ∀ u, Grow w u →
      R nilS (rsv 2 (atS 11 (chkB kind c.prot (c.lba + i) (unpB true l)[i]) (c.lba + i)) nilS).toArray false u) :
    Csbc_Dev_come (some ⟨dv, 0, none⟩) (cmv c).toArray p (N : Int) w R := by
  refine Fsbc_Dev_come.calls _ _ _ _ _ _ ?_
  refine new_rule fun cb w0 hcb hb0 hg0 hsz0 => ?_
  have hb0 : Blk w0 cb (cmv c).toArray t_api_Cmd := hb0
  refine new_rule fun ab w1 hab hb1 hg1 hsz1 => ?_
  have hgw1 := hg0.trans hg1
  have hc1 : Blk w1 cb (cmv c).toArray t_api_Cmd := hg1.heap hb0 (fun q => q)
  refine ⟨(c.prot : Int), by rw [add0, hc1.cell]; rfl, ?_⟩
  have ew : ((c.prot : Int) != 0) = decide (c.prot ≠ 0) := by rw [Bool.eq_iff_iff, bne_iff_ne, decide_eq_true_eq]; omega
  rw [ew]
  generalize hwt : decide (c.prot ≠ 0) = wt at *
  have hd1 := hgw1.heap hd (fun q => q)
  have hln := rd_n' hp
  refine unpack_spec (hp.grow hgw1) hb (fun q => br_t rfl (length_spec fun w2 hg2 => ret_rule (hg2.heap hb1 (fun q => q)) rfl fun w3 hk3 => h1 (.inl q) w3 (grow_new (hgw1.trans hg2) (by omega) hk3))) fun hm xs w2 hg2 hown2 => ?_
  have hgw2 := hgw1.trans hg2
  have hUl : (unpB wt l).length = l.length / szB wt := unpB_len wt l
  have hs16 : 16 ≤ szB wt := by unfold szB; split <;> decide
  have hdiv : l.length / szB wt ≤ l.length := Nat.div_le_self _ _
  have hown2 : Own w2 w.heap.size t_api_Block 19 xs ((unpB wt l).flatMap bc) := hown2.mono hgw1.size
  have hxn : xs.n = (unpB wt l).length := by have := hown2.len; rw [flat_bc_len] at this; omega
  rw [wu64 (n := (xs.n : Int)) (by omega) (by omega)]
  have hb2 : Blk w2 ab _ t_api_Result := hg2.heap hb1 (fun q => q)
  by_cases hN' : l.length / szB wt = N
  case neg =>
    refine br_t (by rw [Bool.or_eq_true, bne_iff_ne]; right; omega) (length_spec fun w3 hg3 => ret_rule (hg3.heap hb2 (fun q => q)) rfl fun w4 hk4 => h1 (.inr hN') w4 (grow_new (hgw2.trans hg3) (by omega) hk4))
  refine br_f (by rw [Bool.or_eq_false_iff, bne_eq_false_iff_eq]; exact ⟨rfl, by omega⟩) ?_
  generalize hU : unpB wt l = U at *
  have hc2 : Blk w2 cb (cmv c).toArray t_api_Cmd := hg2.heap hc1 (fun q => q)
  have hd2 : Blk w2 dv (dvcells ps kind) t_sbc_Dev := hg2.heap hd1 (fun q => q)
  have c2 : ∀ {v : World}, Blk v cb (cmv c).toArray t_api_Cmd → v.cell? ((⟨cb, 0, none⟩ : Addr).add 2) = some (.int .u64 (c.lba : Int)) := fun q => by rw [add0, q.cell]; rfl
  have c6 : ∀ {v : World}, Blk v cb (cmv c).toArray t_api_Cmd → v.cell? ((⟨cb, 0, none⟩ : Addr).add 6) = some (.int .u8 (c.prot : Int)) := fun q => by rw [add0, q.cell]; rfl
  have xblk : ∀ {v : World} {L : List Bk}, Own v w.heap.size t_api_Block 19 xs (L.flatMap bc) → ∀ {b : Nat} {cs : Array Value} {t : TypeId}, Blk v b cs t → t ≠ t_api_Block → xs.blk ≠ some b := fun ho b cs t hbb ht => own_ne ho hbb ht
  refine ⟨fun x v => ∃ j : Nat, x = j ∧ j ≤ U.length ∧ Grow w v ∧ Blk v cb (cmv c).toArray t_api_Cmd ∧ Blk v dv (dvcells ps kind) t_sbc_Dev ∧ Blk v ab _ t_api_Result ∧
      ((wt = false ∧ Own v w.heap.size t_api_Block 19 xs ((mkAll kind c.lba U j).flatMap bc)) ∨ (wt = true ∧ Own v w.heap.size t_api_Block 19 xs (U.flatMap bc) ∧ ∀ i (hi : i < U.length), i < j → chkB kind c.prot (c.lba + i) U[i] = 0)), fun x _ => U.length - x.toNat,
    ⟨0, rfl, Nat.zero_le _, hgw2, hc2, hd2, hb2, by cases wt with
      | false => exact .inl ⟨rfl, hown2⟩
      | true => exact .inr ⟨rfl, hown2, fun _ _ q => absurd q (Nat.not_lt_zero _)⟩⟩, ?_⟩
  rintro x v ⟨j, rfl, hj, hgv, hcv, hdv, hav, hcase⟩
  refine br_nat (fun hlt => ?_) (fun hge => ?_)
  · have hjU : j < U.length := by omega
    have e1 : IntKind.wrap .u64 ((c.lba : Int) + IntKind.wrap .u64 (j : Int)) = ((c.lba + j : Nat) : Int) := by
      rw [wu64 (n := (j : Int)) (by omega) (by omega), wu64 (by omega) (by omega)]; omega
    rw [w64 (n := (j : Int) + 1) (by omega) (by omega)]
    refine letX0 (fun y => Grow w y ∧ Blk y cb (cmv c).toArray t_api_Cmd ∧ Blk y dv (dvcells ps kind) t_sbc_Dev ∧ Blk y ab _ t_api_Result ∧
      ((wt = false ∧ Own y w.heap.size t_api_Block 19 xs ((mkAll kind c.lba U (j + 1)).flatMap bc)) ∨ (wt = true ∧ Own y w.heap.size t_api_Block 19 xs (U.flatMap bc) ∧ ∀ i (hi : i < U.length), i < j + 1 → chkB kind c.prot (c.lba + i) U[i] = 0)))
      (fun y hy => ⟨⟨j + 1, by omega, by omega, hy⟩, by dsimp only; omega⟩) (fun J => ⟨(c.lba : Int), c2 hcv, ?_⟩)
    rw [e1]
    rcases hcase with ⟨hwf, hown⟩ | ⟨hwt', hown, hall⟩
    · refine br_t (by rw [hwf]; rfl) ?_
      rintro w3 rfl
      have hg3 : Grow v v.drew := keep_drew v
      have hVl : (mkAll kind c.lba U j).length = U.length := mkAll_len _ _ _ _
      have hVj : (mkAll kind c.lba U j)[j]'(by omega) = U[j] := by rw [mkAll_at _ _ _ _ _ hjU, if_neg (by omega)]
      obtain ⟨a0, ha0, hc0⟩ := rd_bk_at (hown.rd (by omega)) (i := j) (by omega)
      rw [hVj] at hc0
      have bnd : (0 : Int) ≤ (j : Int) ∧ (j : Int) < (xs.n : Int) ∧ xs.A.isSome = true := ⟨by omega, by omega, by rw [ha0]; rfl⟩
      refine ⟨fun y => Grow v y, hg3, rfl, (kind : Int), fun y hy => dev1 (hy.heap hdv (fun q => q)), bnd, (bv U[j].d).toArray, fun y hy => ?_, ?_⟩
      · rw [ha0, Int.toNat_natCast]
        exact dLoad U[j].hd (cells_head (fun i x hx => hy.cell (hc0 i x hx) (fun q => q)))
      refine make_spec (app := 0) U[j].hd fun w4 hg4 => ⟨bnd, ?_⟩
      have hg14 := hg3.trans hg4
      have hown4 := hown.grow hg14
      rw [Int.toNat_natCast, addr_add]
      refine own_storeAt (o := j * 19 + 16) (cells := (tc (c16 U[j].d) 0 (mkR kind (c.lba + j))).toArray) hown4 i_api_Tuple rfl (by rw [flat_bc_len, hVl]; show j * 19 + 16 + 3 ≤ _; omega) (by show 0 < 3; decide) (by intro q hq; simp [tc] at hq; rcases hq with rfl | rfl | rfl <;> rfl) fun w5 hown5 hk5 _ => ?_
      have hfs := flat_set (l := mkAll kind c.lba U j) (j := j) (b := mk1 kind (c.lba + j) U[j]) (by omega) (by rw [hVj]; rfl)
      rw [mk1_cells] at hfs
      have hown5 : Own w5 w.heap.size t_api_Block 19 xs (((mkAll kind c.lba U j).flatMap bc).take (j * 19 + 16) ++ tc (c16 U[j].d) 0 (mkR kind (c.lba + j)) ++ ((mkAll kind c.lba U j).flatMap bc).drop (j * 19 + 16 + 3)) := hown5
      rw [hfs] at hown5
      have hnb : ∀ {b : Nat} {cs : Array Value} {t : TypeId}, Blk w4 b cs t → t ≠ t_api_Block → Blk w5 b cs t := fun hbb ht => hk5.heap hbb fun q => own_ne hown4 hbb ht q.symm
      refine J w5 ⟨own_grow' (hgv.trans hg14) hown4 (Nat.le_refl _) hk5, hnb (hg14.heap hcv (fun q => q)) (by decide), hnb (hg14.heap hdv (fun q => q)) (by decide), hnb (hg14.heap hav (fun q => q)) (by decide), .inl ⟨hwf, ?_⟩⟩
      have e2 : mkAll kind c.lba U (j + 1) = (mkAll kind c.lba U j).set j (mk1 kind (c.lba + j) U[j]) := by
        simp only [mkAll]; rw [List.getD_eq_getElem?_getD, List.getElem?_eq_getElem hjU]; rfl
      rw [e2]; exact hown5
    · refine br_f (by rw [hwt']; rfl) ?_
      rintro w3 rfl
      have hg3 : Grow v v.drew := keep_drew v
      obtain ⟨a0, ha0, hc0⟩ := rd_bk_at (hown.rd (by omega)) hjU
      have bnd : (0 : Int) ≤ (j : Int) ∧ (j : Int) < (xs.n : Int) ∧ xs.A.isSome = true := ⟨by omega, by omega, by rw [ha0]; rfl⟩
      refine ⟨fun y => Grow v y, hg3, rfl, (kind : Int), fun y hy => dev1 (hy.heap hdv (fun q => q)), (c.prot : Int), fun y hy => c6 (hy.heap hcv (fun q => q)), bnd, (bc U[j]).toArray, fun y hy => ?_, ?_⟩
      · rw [ha0, Int.toNat_natCast]
        exact bLoad (fun i x hx => hy.cell (hc0 i x hx) (fun q => q))
      refine check_b_spec fun w4 hg4 => ?_
      have hg14 := hg3.trans hg4
      subst hwt'
      have hp0 : c.prot ≠ 0 := by simpa using hwt
      by_cases hz : chkB kind c.prot (c.lba + j) U[j] = 0
      · refine br_f (by rw [hz]; rfl) (J w4 ⟨hgv.trans hg14, hg14.heap hcv (fun q => q), hg14.heap hdv (fun q => q), hg14.heap hav (fun q => q), .inr ⟨rfl, hown.grow hg14, fun i hi q => ?_⟩⟩)
        by_cases e : i = j
        · subst e; exact hz
        · exact hall i hi (by omega)
      · refine br_t (by rw [bne_iff_ne]; omega) (at_spec (key := 11) fun w5 hg5 => ?_)
        refine ret_rule ((hg14.trans hg5).heap hav (fun q => q)) rfl fun w6 hk6 => ?_
        subst hU
        exact h4 hm hN' hp0 j hjU hz (fun i hi => hall i (by omega) hi) w6 (grow_new ((hgv.trans hg14).trans hg5) (by omega) hk6)
  · have hjn : j = U.length := by omega
    refine ret_rule (st := 0) (s := sn0) (d := nilS) hav rfl fun w3 hk3 => ?_
    have hg3 := grow_new hgv (by omega) hk3
    have ok : ∀ {L : List Bk}, Own v w.heap.size t_api_Block 19 xs (L.flatMap bc) → Own w3 w.heap.size t_api_Block 19 xs (L.flatMap bc) := fun ho => ho.keep hk3 fun b hb q => own_ne ho hav (by decide) (by rw [hb, q])
    rcases hcase with ⟨hwf, hown⟩ | ⟨hwt', hown, hall⟩
    · subst hwf
      have hp0 : c.prot = 0 := by simpa using hwt
      subst hU
      rw [hjn, hUl, hN'] at hown
      exact h2 hm hN' hp0 xs w3 hg3 (ok hown)
    · subst hwt'
      have hp0 : c.prot ≠ 0 := by simpa using hwt
      subst hU
      exact h3 hm hN' hp0 (fun i hi => hall i hi (by omega)) xs w3 hg3 (ok hown)
end Go.Proofs.YtpmebahhjgkflaaGreatDoor

/- Layer 14: a command is done. -/
namespace Go.Proofs.YtpmebahhjgkflaaGreatDoor
open Go CF
set_option maxRecDepth 100000

def z10 : Array Value := #[.int .u8 0, .int .u8 0, .int .u16 0, .int .u64 0, .bool false, .int .i64 0, .int .i64 0, .bool false, .bool false, .slice none 0 0]
def unkS : Sn := ⟨5, 0x2400, 0, false, 1, 7, true, true⟩
def invS : Sn := ⟨5, 0x2000, 0, false, 0, 7, true, true⟩
/-- the blocks that a write lays -/
def cameB (kind : Nat) (c : Cm) (l : L8) (N : Nat) : List Bk := if c.prot = 0 then mkAll kind c.lba (unpB false l) N else unpB true l
theorem cameB_len {kind : Nat} {c : Cm} {l : L8} {N : Nat} (h : l.length / szB (decide (c.prot ≠ 0)) = N) : (cameB kind c l N).length = N := by
  unfold cameB
  split
  · rename_i q
    rw [mkAll_len, unpB_len]
    rw [decide_eq_false (by simpa using q)] at h
    exact h
  · rename_i q
    rw [unpB_len]
    rw [decide_eq_true (by simpa using q)] at h
    exact h
section
variable {w u : World} {dv ps pw : Nat} {file : ByteArray} {kind n : Nat} {cache : Bool} {D D' : Nat → Prop} {st st' : Wst} {bs bs' : List Bk} {m m' : Nat}
theorem Dvq.put {F : Int → Bool} (h : Dvq w dv ps pw file kind n cache D st bs m F) {ab : Nat} {cs : Array Value} {t : TypeId} (hb : Blk w ab cs t) (h1 : t ≠ t_uint8) (h2 : t ≠ t_sbc_Dev) (h3 : t ≠ t_store_Store) (hn : ¬ D ab) (hk : Keep (fun k => k = ab) w u) :
    Dvq u dv ps pw file kind n cache D st bs m F := by
  refine ⟨hk.heap h.dev fun q => ?_, hk.heap h.isS fun q => ?_, isWq_new h.isW hb h1 hn hk, h.nps, h.ndv, h.ok, h.tells, h.len, h.size, h.nm, h.kd, h.few⟩
  · have hd := h.dev
    rw [q] at hd
    exact h2 (blk_type hb hd)
  · have hd := h.isS
    rw [q] at hd
    exact h3 (blk_type hb hd)
theorem callK1_mono {P : Program} {f : FuncId} {args : Array Value} {w : World} {k : Kd} {R R' : k.T → World → Prop} (h : CallK P f args w [k] R) (hR : ∀ x w', R x w' → R' x w') : CallK P f args w [k] R' :=
  h.mono fun _ w' ⟨x, h1, h2⟩ => ⟨x, h1, by
    have h2 : R (k.un (k.mk x)) w' := h2
    show R' (k.un (k.mk x)) w'
    exact hR _ _ h2⟩
/-- what a command's own part leaves, in front of its last step -/
def wfS : Sn := ⟨3, 0x0c00, 0, false, 0, 0, false, false⟩
def Ends (D : Nat → Prop) (u : World) (ab : Nat) (R : Array Value → World → Prop) (g : Array Value) (v : World) : Prop :=
  Keep D u v ∧ ∃ (s : Nat) (sn : Sn) (d : Sl), g = (rsv s sn d).toArray ∧ ∀ v', Keep (fun k => k = ab) v v' → R g v'
theorem Ends.ret {ab : Nat} {R : Array Value → World → Prop} {g : Array Value} {v : World} (hb : Blk u ab z10 t_api_Result) (hn : ¬ D ab) (h : Ends D u ab R g v) :
    RunU Tryz.prog (storeVar t_api_Result ⟨ab, 0, none⟩ (.agg g)) v fun w' => ∃ res : Array Value, (loadVar t_api_Result ⟨ab, 0, none⟩).run Tryz.prog w' = .ok (.agg res) w' ∧ R res w' := by
  obtain ⟨h1, s, sn, d, rfl, h2⟩ := h
  exact ret_rule (h1.heap hb hn) rfl fun w' hk => h2 w' hk
/-- what the kinds of their own come to -/
def Part (D : Nat → Prop) (dv : Nat) (c : Cm) (p : Sl) (u : World) (K : Array Value → World → Prop) : Prop :=
  (c.kind = 10 → Csbc_Dev_verify (some ⟨dv, 0, none⟩) (cmv c).toArray p u K) ∧ (c.kind = 12 → Csbc_Dev_same (some ⟨dv, 0, none⟩) (cmv c).toArray p u K) ∧ (c.kind = 13 → Csbc_Dev_unmap (some ⟨dv, 0, none⟩) p u K) ∧
  (c.kind = 14 → Csbc_Dev_compare (some ⟨dv, 0, none⟩) (cmv c).toArray p u K) ∧ (c.kind = 6 → Csbc_Dev_capacity (some ⟨dv, 0, none⟩) (cmv c).toArray u K)
theorem known_spec {kind prot : Nat} {w : World} {R : Bool → World → Prop} (h : R (knownB kind prot) w) : Cpi_Known (kind : Int) (prot : Int) w R := by
  refine Fpi_Known.calls _ _ _ _ ?_
  have e : (decide ((kind : Int) ≤ 3) && (((prot : Int) == 0) || (decide ((kind : Int) > 0) && decide ((prot : Int) ≤ 4)))) = knownB kind prot := by
    unfold knownB
    rw [Bool.eq_iff_iff]
    simp only [Bool.and_eq_true, Bool.or_eq_true, decide_eq_true_eq, beq_iff_eq]
    omega
  unfold Fpi_Known
  rw [e]
  exact h
theorem do_plan {F : Int → Bool} {c : Cm} {p : Sl} {l : L8} {R : Array Value → World → Prop} (h : Dvq w dv ps pw file kind n cache D st bs m F) (hm : m ≤ 600000000) (hp : Rd w 1 p (bv l)) (hb : p.n ≤ 140737488351232) (hlb : c.lba < 18446744073709551616) (hbl : c.blocks < 18446744073709551616)
    (hunk : knownB kind c.prot = false → ∀ u, Grow w u → R (rsv 2 unkS nilS).toArray u)
    (hout : knownB kind c.prot = true → c.kind ≠ 13 → c.kind ≠ 6 → n < c.lba + c.blocks → ∀ u, Grow w u → R (rsv 2 (atS 5 0x2100 c.lba) nilS).toArray u)
    (h7 : (∀ i : Nat, i < c.blocks → F ((st.ops + i : Nat) : Int) = false) → knownB kind c.prot = true → c.kind = 7 → c.lba + c.blocks ≤ n → (∀ i (hi : i < ((bs.drop c.lba).take c.blocks).length), chkB kind c.prot (c.lba + i) ((bs.drop c.lba).take c.blocks)[i] = 0) → ∀ d u, Keep D w u → RdW w u pw D st c.blocks →
      Own u w.heap.size t_uint8 1 d (bv (packB (decide (c.prot ≠ 0)) ((bs.drop c.lba).take c.blocks))) → R (rsv 0 sn0 d).toArray u)
    (h7b : (∀ i : Nat, i < c.blocks → F ((st.ops + i : Nat) : Int) = false) → knownB kind c.prot = true → c.kind = 7 → c.lba + c.blocks ≤ n → ∀ i (hi : i < ((bs.drop c.lba).take c.blocks).length), chkB kind c.prot (c.lba + i) ((bs.drop c.lba).take c.blocks)[i] ≠ 0 → ∀ u, Keep D w u → RdW w u pw D st c.blocks →
      R (rsv 2 (atS 11 (chkB kind c.prot (c.lba + i) ((bs.drop c.lba).take c.blocks)[i]) (c.lba + i)) nilS).toArray u)
    (h8l : knownB kind c.prot = true → (c.kind = 8 ∨ c.kind = 9) → c.lba + c.blocks ≤ n → (l.length % szB (decide (c.prot ≠ 0)) ≠ 0 ∨ l.length / szB (decide (c.prot ≠ 0)) ≠ c.blocks) → ∀ u, Grow w u → R (rsv 2 (badS 0x1a00) nilS).toArray u)
    (h8b : knownB kind c.prot = true → (c.kind = 8 ∨ c.kind = 9) → c.lba + c.blocks ≤ n → c.prot ≠ 0 → l.length % 24 = 0 → l.length / 24 = c.blocks → ∀ i (hi : i < (unpB true l).length), chkB kind c.prot (c.lba + i) (unpB true l)[i] ≠ 0 → (∀ j (hj : j < i), chkB kind c.prot (c.lba + j) ((unpB true l)[j]'(by omega)) = 0) → ∀ u, Grow w u →
      R (rsv 2 (atS 11 (chkB kind c.prot (c.lba + i) (unpB true l)[i]) (c.lba + i)) nilS).toArray u)
    (h8 : (∀ i : Nat, i < c.blocks + (if syncs c.blocks (c.fua || decide (c.kind = 9)) cache then 1 else 0) → F ((st.ops + i : Nat) : Int) = false) → knownB kind c.prot = true → (c.kind = 8 ∨ c.kind = 9) → c.lba + c.blocks ≤ n → l.length % szB (decide (c.prot ≠ 0)) = 0 → l.length / szB (decide (c.prot ≠ 0)) = c.blocks → (c.prot ≠ 0 → ∀ i (hi : i < (unpB true l).length), chkB kind c.prot (c.lba + i) (unpB true l)[i] = 0) →
      ∀ u D', Keep D w u → Dvq u dv ps pw file kind n cache D' (syncIf (syncs c.blocks (c.fua || decide (c.kind = 9)) cache) (layW st file c.lba (rsOf (cameB kind c l c.blocks)) c.blocks)) (setAll bs c.lba (cameB kind c l c.blocks) c.blocks) (m + c.blocks + 1) F →
      (∀ k, D' k → D k ∨ w.heap.size ≤ k) → R (rsv 0 sn0 nilS).toArray u)
    (h11 : F (st.ops : Int) = false → knownB kind c.prot = true → c.kind = 11 → c.lba + c.blocks ≤ n → ∀ u D', Keep D w u → Dvq u dv ps pw file kind n cache D' (synced st) bs (m + 1) F → (∀ k, D' k → D k ∨ w.heap.size ≤ k) → R (rsv 0 sn0 nilS).toArray u)
    (hpart : knownB kind c.prot = true → (c.kind = 13 ∨ c.kind = 6 ∨ c.lba + c.blocks ≤ n) → ∀ ab u, Grow w u → w.heap.size ≤ ab → Blk u ab z10 t_api_Result → Part D dv c p u (Ends D u ab R))
    (f7 : knownB kind c.prot = true → c.kind = 7 → c.lba + c.blocks ≤ n → ∀ k : Nat, k < c.blocks → (∀ i : Nat, i < k → F ((st.ops + i : Nat) : Int) = false) → F ((st.ops + k : Nat) : Int) = true → ∀ u, Keep D w u → RdW w u pw D st (k + 1) → R (rsv 2 (atS 3 0x1100 (c.lba + k)) nilS).toArray u)
    (f8 : knownB kind c.prot = true → (c.kind = 8 ∨ c.kind = 9) → c.lba + c.blocks ≤ n → l.length % szB (decide (c.prot ≠ 0)) = 0 → l.length / szB (decide (c.prot ≠ 0)) = c.blocks → (c.prot ≠ 0 → ∀ i (hi : i < (unpB true l).length), chkB kind c.prot (c.lba + i) (unpB true l)[i] = 0) →
      ∀ k : Nat, k < c.blocks + (if syncs c.blocks (c.fua || decide (c.kind = 9)) cache then 1 else 0) → (∀ i : Nat, i < k → F ((st.ops + i : Nat) : Int) = false) → F ((st.ops + k : Nat) : Int) = true →
      ∀ u D', Keep D w u → Dvq u dv ps pw file kind n cache D' { layW st file c.lba (rsOf (cameB kind c l c.blocks)) k with ops := st.ops + k + 1 } (setAll bs c.lba (cameB kind c l c.blocks) k) (m + c.blocks + 1) F → (∀ k, D' k → D k ∨ w.heap.size ≤ k) → R (rsv 2 (atS 3 0x0c00 (c.lba + k)) nilS).toArray u)
    (f11 : knownB kind c.prot = true → c.kind = 11 → c.lba + c.blocks ≤ n → F (st.ops : Int) = true → ∀ u, Keep D w u → Dvq u dv ps pw file kind n cache D { st with ops := st.ops + 1 } bs (m + 1) F → R (rsv 2 wfS nilS).toArray u)
    (hinv : knownB kind c.prot = true → c.kind ≠ 7 → c.kind ≠ 8 → c.kind ≠ 9 → c.kind ≠ 10 → c.kind ≠ 11 → c.kind ≠ 12 → c.kind ≠ 13 → c.kind ≠ 14 → c.kind ≠ 6 → ∀ u, Grow w u → R (rsv 2 invS nilS).toArray u) :
    Csbc_Dev_Do (some ⟨dv, 0, none⟩) (cmv c).toArray p w R := by
  refine Fsbc_Dev_Do.calls _ _ _ _ _ ?_
  have hsz := h.size
  have hlen := h.len
  have hfew := h.few
  refine new_rule fun cb w0 hcb hb0 hg0 hsz0 => ?_
  have hb0 : Blk w0 cb (cmv c).toArray t_api_Cmd := hb0
  refine new_rule fun ab w1 hab hb1 hg1 hsz1 => ?_
  have hb1 : Blk w1 ab z10 t_api_Result := hb1
  have hgw1 := hg0.trans hg1
  have hc1 : Blk w1 cb (cmv c).toArray t_api_Cmd := hg1.heap hb0 (fun q => q)
  have hD1 := h.grow hgw1
  have cAt : ∀ {v : World} {i : Nat} {x : Value}, Grow w1 v → (cmv c).toArray[i]? = some x → v.cell? ((⟨cb, 0, none⟩ : Addr).add i) = some x := fun g e => by rw [add0, Blk.cell (g.heap hc1 (fun q => q)), Nat.zero_add]; exact e
  have nab : ¬ D ab := fun q => by have := h.isW.lt q; omega
  have ncb : ¬ D cb := fun q => by have := h.isW.lt q; omega
  have sw := hg0.size
  have ret : ∀ {v : World} {s : Nat} {sn : Sn} {d : Sl}, Grow w1 v → (∀ v', Keep (fun k => k = ab) v v' → R (rsv s sn d).toArray v') →
      RunU Tryz.prog (storeVar t_api_Result ⟨ab, 0, none⟩ (.agg (rsv s sn d).toArray)) v fun w' => ∃ res : Array Value, (loadVar t_api_Result ⟨ab, 0, none⟩).run Tryz.prog w' = .ok (.agg res) w' ∧ R res w' := fun g hR => ret_rule (g.heap hb1 (fun q => q)) rfl hR
  have gn : ∀ {v v' : World}, Grow w1 v → Keep (fun k => k = ab) v v' → Grow w v' := fun g k => grow_new (hgw1.trans g) (by omega) k
  refine ⟨fun _ => rfl, some ⟨ps, 0, none⟩, fun _ => dev0 hD1.dev, br_f rfl ?_⟩
  rintro w2 rfl
  have hg2 : Grow w1 w1.drew := keep_drew w1
  refine ⟨fun v => Grow w1 v, hg2, rfl, (kind : Int), fun v hv => dev1 (hD1.grow hv).dev, (c.prot : Int), fun v hv => cAt hv rfl, known_spec ?_⟩
  cases hkn : knownB kind c.prot with
  | false => exact br_t rfl (fails_spec (s := unkS) fun w3 hg3 => ret (hg2.trans hg3) fun v' hk => hunk hkn v' (gn (hg2.trans hg3) hk))
  | true =>
  refine br_f rfl ?_
  rintro w3 rfl
  have hg3 : Grow w1 w1.drew.drew := hg2.trans (keep_drew _)
  refine ⟨fun v => Grow w1 v, hg3, (c.lba : Int), fun v hv => cAt hv rfl, (c.blocks : Int), fun v hv => cAt hv rfl, blocks_spec (hD1.grow hg3) ⟨hg3, ?_⟩⟩
  refine within_spec hlb hbl (by omega) ⟨hg3, fun v => Grow w1 v, hg3, fun _ q => q, (c.kind : Int), fun _ v hv => cAt hv rfl, fun v => Grow w1 v, hg3, fun _ q => q, (c.kind : Int), fun _ v hv => cAt hv rfl, ?_⟩
  by_cases hin : c.kind = 13 ∨ c.kind = 6 ∨ c.lba + c.blocks ≤ n
  case neg =>
    refine br_t (by rw [Bool.and_eq_true, Bool.and_eq_true, Bool.not_eq_true', decide_eq_false_iff_not, bne_iff_ne, bne_iff_ne]; omega) ⟨(c.lba : Int), cAt hg3 rfl, at_spec (key := 5) fun w4 hg4 => ret (hg3.trans hg4) fun v' hk => hout hkn (by omega) (by omega) (by omega) v' (gn (hg3.trans hg4) hk)⟩
  refine br_f (by rw [Bool.and_eq_false_iff, Bool.and_eq_false_iff, Bool.not_eq_false', decide_eq_true_eq, bne_eq_false_iff_eq, bne_eq_false_iff_eq]; omega) ⟨(c.kind : Int), cAt hg3 rfl, ?_⟩
  generalize w1.drew.drew = w3 at *
  have hpt := hpart hkn hin ab w3 (hgw1.trans hg3) (by omega) (hg3.heap hb1 (fun q => q))
  have hb3 : Blk w3 ab z10 t_api_Result := hg3.heap hb1 (fun q => q)
  have hc3 : Blk w3 cb (cmv c).toArray t_api_Cmd := hg3.heap hc1 (fun q => q)
  have cl : (loadVar t_api_Cmd ⟨cb, 0, none⟩).run Tryz.prog w3 = .ok (.agg (cmv c).toArray) w3 := cLoad (blk_cells hc3)
  have hgw3 := hgw1.trans hg3
  have h3 := h.grow hgw3
  refine letX0 (fun v => v = w3 ∧ c.kind ≠ 7 ∧ c.kind ≠ 8 ∧ c.kind ≠ 9 ∧ c.kind ≠ 10 ∧ c.kind ≠ 11 ∧ c.kind ≠ 12 ∧ c.kind ≠ 13 ∧ c.kind ≠ 14 ∧ c.kind ≠ 6) ?_ (fun J => ?_)
  · rintro v ⟨rfl, a1, a2, a3, a4, a5, a6, a7, a8, a9⟩
    exact fails_spec (s := invS) fun w4 hg4 => ret (hg3.trans hg4) fun v' hk => hinv hkn a1 a2 a3 a4 a5 a6 a7 a8 a9 v' (gn (hg3.trans hg4) hk)
  refine br_eq (fun k7 => ⟨_, cl, ?_⟩) (fun k7 => ?_)
  · have k7 : c.kind = 7 := by omega
    have hlb7 : c.lba + c.blocks ≤ n := by omega
    refine dev_read_any h3 hm hlb7 (fun hfl hchk xs w4 hk4 hw4 hown4 => ?_) (fun hfl i hi hz w4 hk4 hw4 => ?_) (fun k hkl hfl hf w4 hk4 hw4 => ?_)
    · refine new_rule fun rb w5 hrb hb5 hg5 hsz5 => ?_
      refine lay_rule hb5 rfl fun w6 hb6 hk6 hsz6 => br_f rfl ?_
      have hg46 : Grow w4 w6 := hg5.keep hk6 fun i hi q => by omega
      have hc6 : Blk w6 cb (cmv c).toArray t_api_Cmd := hg46.heap (hk4.heap hc3 ncb) (fun q => q)
      have hb6' : Blk w6 ab z10 t_api_Result := hg46.heap (hk4.heap hb3 nab) (fun q => q)
      refine ⟨(c.prot : Int), by rw [add0, hc6.cell]; rfl, ?_⟩
      have ew : ((c.prot : Int) != 0) = decide (c.prot ≠ 0) := by rw [Bool.eq_iff_iff, bne_iff_ne, decide_eq_true_eq]; omega
      rw [ew]
      have hown6 := hown4.grow hg46
      have hLl : ((bs.drop c.lba).take c.blocks).length ≤ 4096 := by rw [List.length_take, List.length_drop]; omega
      refine pack_spec (hown6.rd (by have := hown6.len; rw [flat_bc_len] at this; omega)) hLl fun d w7 hown7 hg7 => good_spec fun w8 hg8 => ?_
      have hb8 : Blk w8 ab z10 t_api_Result := (hg7.trans hg8).heap hb6' (fun q => q)
      refine ret_rule hb8 rfl fun w9 hk9 => ?_
      have hkD : Keep D w w8 := ((((hgw3.mono fun _ _ q => q.elim).trans hk4 fun _ _ q => q).grow hg46).grow hg7).grow hg8
      have s4 := hk4.size
      have s46 := hg46.size
      refine h7 hfl hkn k7 hlb7 hchk d w9 (keepD_new hkD (by omega) hk9) (rdW_new ((((hw4.pre hgw3).grow hg46).grow hg7).grow hg8) hb8 tne_result nab hk9) ?_
      have ho8 : Own w8 w.heap.size t_uint8 1 d _ := (hown7.mono (by have := hgw3.size; omega)).grow hg8
      exact ho8.keep hk9 fun b hbb q => own_ne ho8 hb8 (by decide) (by rw [hbb, q])
    · refine new_rule fun rb w5 hrb hb5 hg5 hsz5 => ?_
      refine lay_rule hb5 rfl fun w6 hb6 hk6 hsz6 => br_t rfl ⟨_, rLoad (blk_cells hb6), ?_⟩
      have hg46 : Grow w4 w6 := hg5.keep hk6 fun i hi q => by omega
      have hb6' : Blk w6 ab z10 t_api_Result := hg46.heap (hk4.heap hb3 nab) (fun q => q)
      refine ret_rule hb6' rfl fun w7 hk7 => ?_
      exact h7b hfl hkn k7 hlb7 i hi hz w7 (keepD_new (((hgw3.mono fun _ _ q => q.elim).trans hk4 fun _ _ q => q).grow hg46) (by omega) hk7) (rdW_new ((hw4.pre hgw3).grow hg46) hb6' tne_result nab hk7)
    · refine new_rule fun rb w5 hrb hb5 hg5 hsz5 => ?_
      refine lay_rule hb5 rfl fun w6 hb6 hk6 hsz6 => br_t rfl ⟨_, rLoad (blk_cells hb6), ?_⟩
      have hg46 : Grow w4 w6 := hg5.keep hk6 fun i hi q => by omega
      have hb6' : Blk w6 ab z10 t_api_Result := hg46.heap (hk4.heap hb3 nab) (fun q => q)
      refine ret_rule hb6' rfl fun w7 hk7 => ?_
      exact f7 hkn k7 hlb7 k hkl hfl hf w7 (keepD_new (((hgw3.mono fun _ _ q => q.elim).trans hk4 fun _ _ q => q).grow hg46) (by omega) hk7) (rdW_new ((hw4.pre hgw3).grow hg46) hb6' tne_result nab hk7)
  refine letX1 (fun (x : Bool) v => v = w3 ∧ (x = true ↔ (c.kind = 8 ∨ c.kind = 9))) ?_ (fun J1 => br_eq (fun k8 => J1 _ _ ⟨rfl, by rw [beq_iff_eq]; omega⟩) (fun k8 => J1 _ _ ⟨rfl, by rw [beq_iff_eq]; omega⟩))
  rintro x v ⟨rfl, hx⟩
  by_cases k89 : c.kind = 8 ∨ c.kind = 9
  · refine br_t (hx.2 k89) ⟨_, cl, (c.blocks : Int), by rw [add0, hc3.cell]; rfl, ?_⟩
    have hlb8 : c.lba + c.blocks ≤ n := by omega
    have bad : ∀ {y : World} {sn : Sn}, Grow v y → (∀ z, Grow w z → R (rsv 2 sn nilS).toArray z) → _ := fun {y sn} hy hR => True.intro
    have after : ∀ {y : World} {sn : Sn}, Grow v y → (∀ z, Grow w z → R (rsv 2 sn nilS).toArray z) → ∀ rb z, rb = y.heap.size → Blk z rb (rsv 2 sn nilS).toArray t_api_Result → Grow y z →
        ∃ g10 : Array Value, (loadVar t_api_Result ⟨rb, 0, none⟩).run Tryz.prog z = .ok (.agg g10) z ∧ RunU Tryz.prog (storeVar t_api_Result ⟨ab, 0, none⟩ (.agg g10)) z fun w028 => ∃ res6 : Array Value, (loadVar t_api_Result ⟨ab, 0, none⟩).run Tryz.prog w028 = .ok (.agg res6) w028 ∧ R res6 w028 := by
      intro y sn hy hR rb z hrb hbz hyz
      refine ⟨_, rLoad (blk_cells hbz), ret_rule ((hy.trans hyz).heap hb3 (fun q => q)) rfl fun z' hk' => hR z' (grow_new ((hgw3.trans hy).trans hyz) (by omega) hk')⟩
    have okw : ∀ xs y, Grow v y → l.length % szB (decide (c.prot ≠ 0)) = 0 → l.length / szB (decide (c.prot ≠ 0)) = c.blocks → (c.prot ≠ 0 → ∀ i (hi : i < (unpB true l).length), chkB kind c.prot (c.lba + i) (unpB true l)[i] = 0) →
        Own y v.heap.size t_api_Block 19 xs ((cameB kind c l c.blocks).flatMap bc) → ∀ rb z, rb = y.heap.size → Blk z rb (rsv 0 sn0 nilS).toArray t_api_Result → Grow y z →
        ∃ n11 : Int, z.cell? ((⟨cb, 0, none⟩ : Addr).add 2) = some (.int .u64 n11) ∧ ∃ b4 : Bool, z.cell? ((⟨cb, 0, none⟩ : Addr).add 5) = some (.bool b4) ∧ ∃ n12 : Int, ((!b4) = true → z.cell? ((⟨cb, 0, none⟩ : Addr).add 0) = some (.int .u8 n12)) ∧
          Csbc_Dev_write (some ⟨dv, 0, none⟩) n11 xs (b4 || (n12 == 9)) z fun g11 w029 => RunU Tryz.prog (storeVar t_api_Result ⟨ab, 0, none⟩ (.agg g11)) w029 fun w030 => ∃ res7 : Array Value, (loadVar t_api_Result ⟨ab, 0, none⟩).run Tryz.prog w030 = .ok (.agg res7) w030 ∧ R res7 w030 := by
      intro xs y hy hm1 hm2 hck hown rb z hrb hbz hyz
      have hvz := hy.trans hyz
      have hcz : Blk z cb (cmv c).toArray t_api_Cmd := hvz.heap hc3 (fun q => q)
      refine ⟨(c.lba : Int), by rw [add0, hcz.cell]; rfl, c.fua, by rw [add0, hcz.cell]; rfl, (c.kind : Int), fun _ => by rw [add0, hcz.cell]; rfl, ?_⟩
      have e9 : ((c.kind : Int) == 9) = decide (c.kind = 9) := by
        rw [Bool.eq_iff_iff, beq_iff_eq, decide_eq_true_eq]; omega
      rw [e9]
      have hLl := cameB_len (kind := kind) hm2
      have hz := h3.grow hvz
      have lD := fun k (q : D k) => h.isW.lt q
      have svz := hvz.size
      refine dev_write_any (L := cameB kind c l c.blocks) hz hm (by omega) (fun z' hk' => ?_) (fun hfl z2 D2 hk2 hd2 hD2 => ?_) (fun k hkl hfl hf z2 D2 hk2 hd2 hD2 => ?_)
      · have ho : Own z' v.heap.size t_api_Block 19 xs ((cameB kind c l c.blocks).flatMap bc) := (hown.grow hyz).keep hk' fun b hbb q => by
          have := ((hown.grow hyz).ge b hbb).1
          have := lD _ q
          have := hgw3.size
          omega
        exact ho.rd (by have := ho.len; rw [flat_bc_len] at this; omega)
      · rw [hLl] at hd2 hfl
        have hbz2 : Blk z2 ab z10 t_api_Result := hk2.heap (hvz.heap hb3 (fun q => q)) nab
        have nab2 : ¬ D2 ab := fun q => by
          rcases hD2 _ q with r | r
          · exact nab r
          · have := lt_of_heap hb3; omega
        refine ret_rule (st := 0) (s := sn0) (d := nilS) hbz2 rfl fun z3 hk3 => ?_
        have hkD : Keep D w z2 := ((hgw3.trans hvz).mono fun _ _ q => q.elim).trans hk2 fun _ _ q => q
        have s3 := hgw3.size
        refine h8 hfl hkn k89 hlb8 hm1 hm2 hck z3 D2 (keepD_new hkD (by omega) hk3) ?_ (fun k q => ?_)
        · exact hd2.put hbz2 tne_result (by decide) (by decide) nab2 hk3
        · rcases hD2 k q with r | r
          · exact .inl r
          · exact .inr (by omega)
      · rw [hLl] at hd2 hkl
        have hbz2 : Blk z2 ab z10 t_api_Result := hk2.heap (hvz.heap hb3 (fun q => q)) nab
        have nab2 : ¬ D2 ab := fun q => by
          rcases hD2 _ q with r | r
          · exact nab r
          · have := lt_of_heap hb3; omega
        refine ret_rule hbz2 rfl fun z3 hk3 => ?_
        have hkD : Keep D w z2 := ((hgw3.trans hvz).mono fun _ _ q => q.elim).trans hk2 fun _ _ q => q
        have s3 := hgw3.size
        refine f8 hkn k89 hlb8 hm1 hm2 hck k hkl hfl hf z3 D2 (keepD_new hkD (by omega) hk3) ?_ (fun k q => ?_)
        · exact hd2.put hbz2 tne_result (by decide) (by decide) nab2 hk3
        · rcases hD2 k q with r | r
          · exact .inl r
          · exact .inr (by omega)
    refine dev_come_spec (N := c.blocks) h3.dev (hp.grow hgw3) hb (by omega) (by omega) (fun q y hy => ?_) (fun q1 q2 q3 xs y hy hown => ?_) (fun q1 q2 q3 q4 xs y hy hown => ?_) (fun q1 q2 q3 i hi hz hall y hy => ?_)
    · refine new_rule fun rb w5 hrb hb5 hg5 hsz5 => lay_rule hb5 rfl fun w6 hb6 hk6 hsz6 => br_t rfl ?_
      exact after hy (h8l hkn k89 hlb8 q) rb w6 hrb hb6 (hg5.keep hk6 fun i hi q => by omega)
    · refine new_rule fun rb w5 hrb hb5 hg5 hsz5 => lay_rule hb5 rfl fun w6 hb6 hk6 hsz6 => br_f rfl ?_
      have e0 : decide (c.prot ≠ 0) = false := by simpa using q3
      refine okw xs y hy (by rw [e0]; exact q1) (by rw [e0]; exact q2) (fun e => absurd q3 e) ?_ rb w6 hrb hb6 (hg5.keep hk6 fun i hi q => by omega)
      unfold cameB; rw [if_pos q3]; exact hown
    · refine new_rule fun rb w5 hrb hb5 hg5 hsz5 => lay_rule hb5 rfl fun w6 hb6 hk6 hsz6 => br_f rfl ?_
      have e0 : decide (c.prot ≠ 0) = true := by simpa using q3
      refine okw xs y hy (by rw [e0]; exact q1) (by rw [e0]; exact q2) (fun _ => q4) ?_ rb w6 hrb hb6 (hg5.keep hk6 fun i hi q => by omega)
      unfold cameB; rw [if_neg q3]; exact hown
    · refine new_rule fun rb w5 hrb hb5 hg5 hsz5 => lay_rule hb5 rfl fun w6 hb6 hk6 hsz6 => br_t rfl ?_
      exact after hy (h8b hkn k89 hlb8 q3 q1 q2 i hi hz hall) rb w6 hrb hb6 (hg5.keep hk6 fun i hi q => by omega)
  refine br_f (by cases hxx : x with | false => rfl | true => exact absurd (hx.1 hxx) k89) ?_
  refine br_eq (fun k => ⟨_, cl, ?_⟩) (fun k10 => br_eq (fun k => ?_) (fun k11 => br_eq (fun k => ⟨_, cl, ?_⟩) (fun k12 => br_eq (fun k => ?_) (fun k13 => br_eq (fun k => ⟨_, cl, ?_⟩) (fun k14 => br_eq (fun k => ⟨_, cl, ?_⟩) (fun k6 => J v ⟨rfl, by omega, by omega, by omega, by omega, by omega, by omega, by omega, by omega, by omega⟩))))))
  · exact callK1_mono (hpt.1 (by omega)) fun g y hy => hy.ret hb3 nab
  · have k11' : c.kind = 11 := by omega
    refine ⟨rfl, some ⟨ps, 0, none⟩, dev0 h3.dev, ?_⟩
    refine store_sync_any h3.isS h3.nps h3.isW h.ok (by omega) (by omega) (fun hfl y D2 hk2 hw2 hD2 hS2 => br_f rfl (good_spec fun z hz => ?_)) (fun hfl y hk2 hw2 hS2 => br_t rfl (fails_spec (s := wfS) fun z hz => ?_))
    case refine_2 =>
      have hbz : Blk z ab z10 t_api_Result := hz.heap (hk2.heap hb3 nab) (fun q => q)
      refine ret_rule hbz rfl fun z2 hk3 => ?_
      have hkD : Keep D w y := (hgw3.mono fun _ _ q => q.elim).trans hk2 fun _ _ q => q
      have s3 := hgw3.size
      have hdy : Dvq y dv ps pw file kind n cache D { st with ops := st.ops + 1 } bs (m + 1) F := h.step hkD hw2 (fun _ q => .inl q) h.ok h.tells h.len (by
        show st.ops + 1 ≤ _ ∧ st.waits.length ≤ _
        omega)
      exact f11 hkn k11' (by omega) hfl z2 (keepD_new (hkD.grow hz) (by omega) hk3) ((hdy.grow hz).put hbz tne_result (by decide) (by decide) nab hk3)
    have nab2 : ¬ D2 ab := fun q => by
      rcases hD2 _ q with r | r
      · exact nab r
      · have := lt_of_heap hb3; omega
    have hbz : Blk z ab z10 t_api_Result := hz.heap (hk2.heap hb3 nab) (fun q => q)
    refine ret_rule (st := 0) (s := sn0) (d := nilS) hbz rfl fun z2 hk3 => ?_
    have hkD : Keep D w y := (hgw3.mono fun _ _ q => q.elim).trans hk2 fun _ _ q => q
    have s3 := hgw3.size
    have hDD : ∀ k, D2 k → D k ∨ w.heap.size ≤ k := fun k q => by
      rcases hD2 k q with r | r
      · exact .inl r
      · exact .inr (by omega)
    have hdy : Dvq y dv ps pw file kind n cache D2 (synced st) bs (m + 1) F := h.step hkD hw2 hDD (fun c hc => by cases hc) h.tells h.len (by
      show st.ops + 1 ≤ _ ∧ 0 ≤ _
      omega)
    exact h11 hfl hkn k11' (by omega) z2 D2 (keepD_new (hkD.grow hz) (by omega) hk3) ((hdy.grow hz).put hbz tne_result (by decide) (by decide) nab2 hk3) hDD
  · exact callK1_mono (hpt.2.1 (by omega)) fun g y hy => hy.ret hb3 nab
  · exact callK1_mono (hpt.2.2.1 (by omega)) fun g y hy => hy.ret hb3 nab
  · exact callK1_mono (hpt.2.2.2.1 (by omega)) fun g y hy => hy.ret hb3 nab
  · exact callK1_mono (hpt.2.2.2.2 (by omega)) fun g y hy => hy.ret hb3 nab
theorem do_spec {c : Cm} {p : Sl} {l : L8} {R : Array Value → World → Prop} (h : Dv w dv ps pw file kind n cache D st bs m) (hm : m ≤ 600000000) (hp : Rd w 1 p (bv l)) (hb : p.n ≤ 140737488351232) (hlb : c.lba < 18446744073709551616) (hbl : c.blocks < 18446744073709551616)
    (hunk : knownB kind c.prot = false → ∀ u, Grow w u → R (rsv 2 unkS nilS).toArray u)
    (hout : knownB kind c.prot = true → c.kind ≠ 13 → c.kind ≠ 6 → n < c.lba + c.blocks → ∀ u, Grow w u → R (rsv 2 (atS 5 0x2100 c.lba) nilS).toArray u)
    (h7 : knownB kind c.prot = true → c.kind = 7 → c.lba + c.blocks ≤ n → (∀ i (hi : i < ((bs.drop c.lba).take c.blocks).length), chkB kind c.prot (c.lba + i) ((bs.drop c.lba).take c.blocks)[i] = 0) → ∀ d u, Keep D w u → RdW w u pw D st c.blocks →
      Own u w.heap.size t_uint8 1 d (bv (packB (decide (c.prot ≠ 0)) ((bs.drop c.lba).take c.blocks))) → R (rsv 0 sn0 d).toArray u)
    (h7b : knownB kind c.prot = true → c.kind = 7 → c.lba + c.blocks ≤ n → ∀ i (hi : i < ((bs.drop c.lba).take c.blocks).length), chkB kind c.prot (c.lba + i) ((bs.drop c.lba).take c.blocks)[i] ≠ 0 → ∀ u, Keep D w u → RdW w u pw D st c.blocks →
      R (rsv 2 (atS 11 (chkB kind c.prot (c.lba + i) ((bs.drop c.lba).take c.blocks)[i]) (c.lba + i)) nilS).toArray u)
    (h8l : knownB kind c.prot = true → (c.kind = 8 ∨ c.kind = 9) → c.lba + c.blocks ≤ n → (l.length % szB (decide (c.prot ≠ 0)) ≠ 0 ∨ l.length / szB (decide (c.prot ≠ 0)) ≠ c.blocks) → ∀ u, Grow w u → R (rsv 2 (badS 0x1a00) nilS).toArray u)
    (h8b : knownB kind c.prot = true → (c.kind = 8 ∨ c.kind = 9) → c.lba + c.blocks ≤ n → c.prot ≠ 0 → l.length % 24 = 0 → l.length / 24 = c.blocks → ∀ i (hi : i < (unpB true l).length), chkB kind c.prot (c.lba + i) (unpB true l)[i] ≠ 0 → (∀ j (hj : j < i), chkB kind c.prot (c.lba + j) ((unpB true l)[j]'(by omega)) = 0) → ∀ u, Grow w u →
      R (rsv 2 (atS 11 (chkB kind c.prot (c.lba + i) (unpB true l)[i]) (c.lba + i)) nilS).toArray u)
    (h8 : knownB kind c.prot = true → (c.kind = 8 ∨ c.kind = 9) → c.lba + c.blocks ≤ n → l.length % szB (decide (c.prot ≠ 0)) = 0 → l.length / szB (decide (c.prot ≠ 0)) = c.blocks → (c.prot ≠ 0 → ∀ i (hi : i < (unpB true l).length), chkB kind c.prot (c.lba + i) (unpB true l)[i] = 0) →
      ∀ u D', Keep D w u → Dv u dv ps pw file kind n cache D' (syncIf (syncs c.blocks (c.fua || decide (c.kind = 9)) cache) (layW st file c.lba (rsOf (cameB kind c l c.blocks)) c.blocks)) (setAll bs c.lba (cameB kind c l c.blocks) c.blocks) (m + c.blocks + 1) →
      (∀ k, D' k → D k ∨ w.heap.size ≤ k) → R (rsv 0 sn0 nilS).toArray u)
    (h11 : knownB kind c.prot = true → c.kind = 11 → c.lba + c.blocks ≤ n → ∀ u D', Keep D w u → Dv u dv ps pw file kind n cache D' (synced st) bs (m + 1) → (∀ k, D' k → D k ∨ w.heap.size ≤ k) → R (rsv 0 sn0 nilS).toArray u)
    (hpart : knownB kind c.prot = true → (c.kind = 13 ∨ c.kind = 6 ∨ c.lba + c.blocks ≤ n) → ∀ ab u, Grow w u → w.heap.size ≤ ab → Blk u ab z10 t_api_Result → Part D dv c p u (Ends D u ab R))
    (hinv : knownB kind c.prot = true → c.kind ≠ 7 → c.kind ≠ 8 → c.kind ≠ 9 → c.kind ≠ 10 → c.kind ≠ 11 → c.kind ≠ 12 → c.kind ≠ 13 → c.kind ≠ 14 → c.kind ≠ 6 → ∀ u, Grow w u → R (rsv 2 invS nilS).toArray u) :
    Csbc_Dev_Do (some ⟨dv, 0, none⟩) (cmv c).toArray p w R :=
  do_plan h hm hp hb hlb hbl hunk hout (fun _ => h7) (fun _ => h7b) h8l h8b (fun _ => h8) (fun _ => h11) hpart (fun _ _ _ k _ _ q => by cases q) (fun _ _ _ _ _ _ k _ _ q => by cases q) (fun _ _ _ q => by cases q) hinv
end
end Go.Proofs.YtpmebahhjgkflaaGreatDoor

/- Layer 14: blocks compared. -/
namespace Go.Proofs.YtpmebahhjgkflaaGreatDoor
open Go CF
set_option maxRecDepth 100000

def firstNe (X Y : L8) : Option Nat := (List.range X.length).find? fun i => decide (X.getD i 0 ≠ Y.getD i 0)
theorem rd_at {w : World} {s : Sl} {l : L8} (h : Rd w 1 s (bv l)) {i : Nat} (hi : i < l.length) : s.A.isSome = true ∧ w.cell? ((gA s.A).add (i * 1)) = some (.int .u8 ((l.getD i 0).toNat : Int)) := by
  obtain ⟨a, ha, hc⟩ := h.byte (i := i) (by rw [← rd_n' h]; exact hi)
  rw [ha]
  refine ⟨rfl, ?_⟩
  rw [List.getD_eq_getElem?_getD, List.getElem?_eq_getElem hi]
  exact hc
section
variable {w u : World} {dv ps pw : Nat} {file : ByteArray} {kind n : Nat} {cache : Bool} {D D' : Nat → Prop} {st st' : Wst} {bs bs' : List Bk} {m m' : Nat}
end
end Go.Proofs.YtpmebahhjgkflaaGreatDoor

/- Layer 14: where a law stands: a device, results that are held, rows that are held. -/
namespace Go.Proofs.YtpmebahhjgkflaaGreatDoor
open Go CF
set_option maxRecDepth 100000

/-! ### blocks and their bytes -/
/-! ### blocks that stand every look -/
def Fine (kind : Nat) (bs : List Bk) : Prop := ∀ i (hi : i < bs.length), ∀ prot, chkB kind prot i bs[i] = 0
theorem fine_part {kind lba k : Nat} {bs : List Bk} (h : Fine kind bs) : ∀ i (hi : i < ((bs.drop lba).take k).length) prot, chkB kind prot (lba + i) ((bs.drop lba).take k)[i] = 0 := fun i hi prot => by
  have hi2 : i < k ∧ lba + i < bs.length := by rw [List.length_take, List.length_drop] at hi; omega
  have e : ((bs.drop lba).take k)[i] = bs[lba + i]'hi2.2 := by simp
  rw [e]
  exact h _ hi2.2 prot
/-! ### where a law stands -/
section
variable {w u v : World} {dv ps pw : Nat} {file : ByteArray} {kind n : Nat} {cache : Bool} {D D' : Nat → Prop} {st st' : Wst} {bs bs' : List Bk} {m m' : Nat} {ls : List (Nat × List Value × TypeId)} {rows : List (Sl × L8)}
theorem Dvq.ops (h : Dv u dv ps pw file kind n cache D st bs m) (k : Keep D u v) {j : Nat} (hw : IsW v pw D { st with ops := st.ops + j }) : Dv v dv ps pw file kind n cache D { st with ops := st.ops + j } bs (m + j) :=
  h.step k hw (fun _ q => .inl q) h.ok h.tells h.len (by have := h.few; show st.ops + j ≤ _ ∧ st.waits.length ≤ _; omega)
end
end Go.Proofs.YtpmebahhjgkflaaGreatDoor

/- Layer 14: ranges hold nothing any more. -/
namespace Go.Proofs.YtpmebahhjgkflaaGreatDoor
open Go CF
set_option maxRecDepth 100000

/-- the ranges that parameters tell -/
def rngL (l : L8) (j : Nat) : Nat := num ((l.drop (8 + 16 * j)).take 8)
def rngK (l : L8) (j : Nat) : Nat := num ((l.drop (8 + 16 * j + 8)).take 4)
def sumK (l : L8) : Nat → Nat
  | 0 => 0
  | j + 1 => sumK l j + rngK l j
section
variable {w u : World} {dv ps pw : Nat} {file : ByteArray} {kind n : Nat} {cache : Bool} {D D' : Nat → Prop} {st st' : Wst} {bs bs' : List Bk} {m m' : Nat}
theorem Dvq.unmap (h : Dv w dv ps pw file kind n cache D st bs m) (hm : m ≤ 600000000) {lba k : Nat} {R : Int → Int → World → Prop} (hk : lba + k ≤ n)
    (hR : ∀ u D' st', Keep D w u → Dv u dv ps pw file kind n cache D' st' (setAll bs lba [] k) (m + k + 1) → (∀ k, D' k → D k ∨ w.heap.size ≤ k) → R (k : Int) 0 u) : Cstore_Store_Unmap (some ⟨ps, 0, none⟩) (lba : Int) (k : Int) w R := by
  have hsz := h.size
  have hlen := h.len
  have hfew := h.few
  refine store_unmap_spec h.isS h.nps h.isW h.ok h.nm hsz.2 hk (by omega) (by omega) fun u D2 hk2 hw2 hD2 hS2 => ?_
  obtain ⟨lo, lw⟩ := layW_ops st file lba (fun _ => [0]) k
  have so := syncIf_ops (syncs k false cache) (layW st file lba (fun _ => [0]) k)
  have sw : (syncIf (syncs k false cache) (layW st file lba (fun _ => [0]) k)).waits.length ≤ st.waits.length + k := by
    rw [syncIf_waits]
    split
    · exact Nat.zero_le _
    · omega
  exact hR u D2 _ hk2 (h.step hk2 hw2 hD2 (syncIf_ok (layW_ok h.ok (fun _ => by decide) k (by omega))) (tells_unmap h.tells (by omega)) (by rw [setAll_len]; exact hlen) (by omega)) hD2
end
end Go.Proofs.YtpmebahhjgkflaaGreatDoor

/- Layer 14: one block is written many times. -/
namespace Go.Proofs.YtpmebahhjgkflaaGreatDoor
open Go CF
set_option maxRecDepth 100000

def z16 : L8 := [0, 0, 0, 0, 0, 0, 0, 0, 0, 0, 0, 0, 0, 0, 0, 0]
def withR (b : Bk) (r : Nat) : Bk := ⟨b.d, b.g, b.a, r % 4294967296, b.hd, b.hg, b.ha, by omega⟩
/-- the block that is written at a place -/
def sameB (kind : Nat) (c : Cm) (b0 : Bk) (i : Nat) : Bk := if c.prot = 0 then mk1 kind (c.lba + i) b0 else if kind = 1 ∨ kind = 2 then withR b0 (c.lba + i) else b0
def samesB (kind : Nat) (c : Cm) (b0 : Bk) (N : Nat) : List Bk := (List.range N).map (sameB kind c b0)
def sameN (n : Nat) (c : Cm) : Nat := if c.blocks = 0 then n - c.lba else c.blocks
section
variable {w u : World} {dv ps pw : Nat} {file : ByteArray} {kind n : Nat} {cache : Bool} {D D' : Nat → Prop} {st st' : Wst} {bs bs' : List Bk} {m m' : Nat}
end
end Go.Proofs.YtpmebahhjgkflaaGreatDoor

/- Layer 14: devices made; results compared; the device is awake. -/
namespace Go.Proofs.YtpmebahhjgkflaaGreatDoor
open Go CF
set_option maxRecDepth 100000

theorem rd_nilB (w : World) : Rd w 1 nilS (bv []) := rd_nil w 1
theorem ends14_spec {key code : Nat} {w : World} {R : Array Value → World → Prop} (h : ∀ w', Grow w w' → R (rsv 2 ⟨key, code, 0, false, 0, 0, false, false⟩ nilS).toArray w') : Cpalletref14_Ends (key : Int) (code : Int) w R := by
  refine Fpalletref14_Ends.calls _ _ _ _ ?_
  refine new_rule fun ab w1 hab hb1 hg1 hsz1 => ⟨(rsv 2 ⟨key, code, 0, false, 0, 0, false, false⟩ nilS).toArray, by kernel_rfl, ?_⟩
  exact ret_rule hb1 rfl fun w2 hk2 => h w2 (grow_new hg1 (by omega) hk2)
def kSn : List Kd := [.i .u8, .i .u16, .i .u64, .b, .i .i64, .i .i64, .b, .b]
theorem flat_api_Sense : flatK Tryz.prog 8 t_api_Sense = some kSn := by kernel_rfl
theorem kd_api_Sense : kd Tryz.prog t_api_Sense = .ag := by kernel_rfl
theorem gt_api_Sense : Tryz.prog.eqGuardType Tryz.prog.depth t_api_Sense = false := by kernel_rfl
theorem fit_snv (s : Sn) : FitL kSn (snv s) := ⟨rfl, rfl, rfl, rfl, rfl, rfl, rfl, rfl, trivial⟩
theorem rsv_sense {w : World} {b : Nat} {s : Nat} {sn : Sn} {d : Sl} (h : Blk w b (rsv s sn d).toArray t_api_Result) : Cells w ((⟨b, 0, none⟩ : Addr).add 1) (snv sn) := fun j v hj => by
  rw [addr_add]
  refine blk_cells h (1 + j) v ?_
  have : j < 8 := (List.getElem?_eq_some_iff.1 hj).1
  unfold rsv
  rw [List.append_assoc, List.getElem?_append_right (by simp), show 1 + j - [Value.int .u8 (s : Int)].length = j by simp, List.getElem?_append_left (by exact this)]
  exact hj
theorem same14_spec {s : Nat} {sn : Sn} {d1 d2 : Sl} {l : L8} {w : World} {R : Bool → World → Prop} (h1 : Rd w 1 d1 (bv l)) (h2 : Rd w 1 d2 (bv l)) (h : ∀ w', Grow w w' → R true w') : Cpalletref14_Same (rsv s sn d1).toArray (rsv s sn d2).toArray w R := by
  refine Fpalletref14_Same.calls _ _ _ _ ?_
  refine new_rule fun ab w1 hab hb1 hg1 hsz1 => ?_
  refine new_rule fun bb w2 hbb hb2 hg2 hsz2 => ?_
  have hb1 : Blk w2 ab (rsv s sn d1).toArray t_api_Result := hg2.heap hb1 (fun q => q)
  have hb2 : Blk w2 bb (rsv s sn d2).toArray t_api_Result := hb2
  obtain ⟨r, hr, hrun⟩ := eql_rule (x := .tmp 12) (y := .tmp 14) flat_api_Sense kd_api_Sense gt_api_Sense (fit_snv sn) (fit_snv sn)
  have hr1 : r = true := hr.2 rfl
  subst hr1
  have g := hg1.trans hg2
  refine ⟨(s : Int), by rw [add0, hb1.cell]; rfl, (s : Int), by rw [add0, hb2.cell]; rfl, (snv sn).toArray, fun _ => sLoad (rsv_sense hb1), (snv sn).toArray, fun _ => sLoad (rsv_sense hb2), true, fun _ => hrun w2, d1, fun _ => by rw [add0, hb1.cell]; rfl, str l,
    fun _ => convStr_rule u_sl_uint8 u_uint8 u_string (h1.grow g), d2, fun _ => by rw [add0, hb2.cell]; rfl, str l, fun _ => convStr_rule u_sl_uint8 u_uint8 u_string (h2.grow g), ?_⟩
  have := h w2 g
  simpa [sEq_str] using this
/-! ### awake -/
end Go.Proofs.YtpmebahhjgkflaaGreatDoor

/- Layer 14: the law of what is verified. -/
namespace Go.Proofs.YtpmebahhjgkflaaGreatDoor
open Go CF
set_option maxRecDepth 100000

section
variable {w u u' v v' : World} {dv ps pw : Nat} {file : ByteArray} {kind n : Nat} {cache : Bool} {D D' : Nat → Prop} {st st' : Wst} {bs bs' : List Bk} {m m' : Nat} {ls : List (Nat × List Value × TypeId)} {rows : List (Sl × L8)}
end
end Go.Proofs.YtpmebahhjgkflaaGreatDoor

/- Layer 14: a law takes blocks away, or writes the same block. -/
namespace Go.Proofs.YtpmebahhjgkflaaGreatDoor
open Go CF
set_option maxRecDepth 100000

section
variable {w u u' v v' : World} {dv ps pw : Nat} {file : ByteArray} {kind n : Nat} {cache : Bool} {D D' : Nat → Prop} {st st' : Wst} {bs bs' : List Bk} {m m' : Nat} {ls : List (Nat × List Value × TypeId)} {rows : List (Sl × L8)}
end
end Go.Proofs.YtpmebahhjgkflaaGreatDoor

/- Layer 14: what a command on blocks comes to, as a function. -/
namespace Go.Proofs.YtpmebahhjgkflaaGreatDoor
open Go CF
set_option maxRecDepth 100000
theorem find_range_none {n : Nat} {p : Nat → Bool} (h : ∀ i, i < n → p i = false) : (List.range n).find? p = none := by
  rw [List.find?_eq_none]
  intro i hi
  rw [h i (List.mem_range.1 hi)]; simp
theorem find_range_some {n i : Nat} {p : Nat → Bool} (hi : i < n) (h : ∀ j, j < i → p j = false) (hp : p i = true) : (List.range n).find? p = some i := by
  rw [List.find?_eq_some_iff_append]
  refine ⟨hp, List.range i, (List.range (n - i - 1)).map (fun k => i + 1 + k), ?_, fun j hj => ?_⟩
  · have e : n = i + (1 + (n - i - 1)) := by omega
    conv => lhs; rw [e, List.range_add, List.range_add]
    simp [List.map_map, Nat.add_assoc, Function.comp_def]
  · rw [h j (List.mem_range.1 hj)]; rfl
/-- the first of n calls that fails -/
def ffail (F : Int → Bool) (o n : Nat) : Option Nat := (List.range n).find? fun k => F ((o + k : Nat) : Int)
theorem ffail_none {F : Int → Bool} {o n : Nat} (h : ∀ i : Nat, i < n → F ((o + i : Nat) : Int) = false) : ffail F o n = none := find_range_none h
theorem ffail_some {F : Int → Bool} {o n k : Nat} (hk : k < n) (h : ∀ i : Nat, i < k → F ((o + i : Nat) : Int) = false) (hf : F ((o + k : Nat) : Int) = true) : ffail F o n = some k := find_range_some hk h hf
theorem ffail_quiet (o n : Nat) : ffail quiet o n = none := ffail_none fun _ _ => rfl
/-- a result -/
structure RsX where
  st : Nat
  sn : Sn
  d : L8
def okX (d : L8) : RsX := ⟨0, sn0, d⟩
def snX (s : Sn) : RsX := ⟨2, s, []⟩
def badAt (kind prot lba : Nat) (L : List Bk) : Option Nat := (List.range L.length).find? fun i => decide (chkB kind prot (lba + i) (L.getD i zeroBk) ≠ 0)
def badSn (kind prot lba : Nat) (L : List Bk) (i : Nat) : Sn := atS 11 (chkB kind prot (lba + i) (L.getD i zeroBk)) (lba + i)
theorem getD_at {L : List Bk} {i : Nat} (hi : i < L.length) : L.getD i zeroBk = L[i] := by rw [List.getD_eq_getElem?_getD, List.getElem?_eq_getElem hi]; rfl
theorem badAt_none {kind prot lba : Nat} {L : List Bk} (h : ∀ i (hi : i < L.length), chkB kind prot (lba + i) L[i] = 0) : badAt kind prot lba L = none :=
  find_range_none fun i hi => by rw [getD_at hi, h i hi]; rfl
theorem badAt_some {kind prot lba i : Nat} {L : List Bk} (hi : i < L.length) (hz : chkB kind prot (lba + i) L[i] ≠ 0) (h : ∀ j (hj : j < i), chkB kind prot (lba + j) (L[j]'(by omega)) = 0) : badAt kind prot lba L = some i :=
  find_range_some hi (fun j hj => by rw [getD_at (by omega), h j hj]; rfl) (by rw [getD_at hi, decide_eq_true_eq]; exact hz)
/-- blocks are read and looked at: they, or the sense; and how many calls that was -/
def readX (F : Int → Bool) (kind prot lba n o : Nat) (L : List Bk) : Except Sn (List Bk) × Nat :=
  match ffail F o n with
  | some k => (.error (atS 3 0x1100 (lba + k)), k + 1)
  | none => match badAt kind prot lba L with
    | some i => (.error (badSn kind prot lba L i), n)
    | none => (.ok L, n)
/-- blocks that came -/
def comeX (kind : Nat) (c : Cm) (l : L8) (N : Nat) : Except Sn (List Bk) :=
  if l.length % szB (decide (c.prot ≠ 0)) ≠ 0 ∨ l.length / szB (decide (c.prot ≠ 0)) ≠ N then .error (badS 0x1a00)
  else if c.prot = 0 then .ok (mkAll kind c.lba (unpB false l) N)
  else match badAt kind c.prot c.lba (unpB true l) with
    | some i => .error (badSn kind c.prot c.lba (unpB true l) i)
    | none => .ok (unpB true l)
/-- records are laid: the place of the call that failed, and the files -/
def layX (F : Int → Bool) (file : ByteArray) (cache : Bool) (st : Wst) (lba n : Nat) (rs : Nat → L8) (fua : Bool) : Option Nat × Wst :=
  match ffail F st.ops (n + (if syncs n fua cache then 1 else 0)) with
  | some k => (some k, { layW st file lba rs k with ops := st.ops + k + 1 })
  | none => (none, syncIf (syncs n fua cache) (layW st file lba rs n))
def wroteX (lba : Nat) (x : Option Nat × Wst) : RsX × Wst := match x.1 with
  | some k => (snX (atS 3 0x0c00 (lba + k)), x.2)
  | none => (okX [], x.2)
def writeX (F : Int → Bool) (file : ByteArray) (cache : Bool) (st : Wst) (lba : Nat) (L : List Bk) (fua : Bool) : RsX × Wst := wroteX lba (layX F file cache st lba L.length (rsOf L) fua)
def unmX (F : Int → Bool) (file : ByteArray) (cache : Bool) (st : Wst) (lba n : Nat) : Option Nat × Wst := layX F file cache st lba n (fun _ => [0]) false
def more (st : Wst) (k : Nat) : Wst := { st with ops := st.ops + k }
def verifyX (F : Int → Bool) (kind : Nat) (st : Wst) (bs : List Bk) (c : Cm) (l : L8) : RsX × Wst :=
  if c.bytes = true ∧ (l.length % szB (decide (c.prot ≠ 0)) ≠ 0 ∨ l.length / szB (decide (c.prot ≠ 0)) ≠ c.blocks) then (snX (badS 0x1a00), st)
  else match readX F kind c.prot c.lba c.blocks st.ops ((bs.drop c.lba).take c.blocks) with
    | (.error s, k) => (snX s, more st k)
    | (.ok L, k) => if c.bytes = true then (match firstNe (packB false L) (packB false (unpB (decide (c.prot ≠ 0)) l)) with
        | some i => (snX (atS 14 0x1d00 i), more st k)
        | none => (okX [], more st k)) else (okX [], more st k)
def sameX (F : Int → Bool) (kind n : Nat) (cache : Bool) (file : ByteArray) (st : Wst) (c : Cm) (l : L8) : RsX × Wst :=
  match comeX kind c l 1 with
  | .error s => (snX s, st)
  | .ok L => if c.unmap = true ∧ (L.getD 0 zeroBk).d = z16 then wroteX c.lba (unmX F file cache st c.lba (sameN n c)) else writeX F file cache st c.lba (samesB kind c (L.getD 0 zeroBk) (sameN n c)) false
/-- what is wrong with a range -/
def unB1 (n : Nat) (l : L8) (j : Nat) : Option Sn :=
  if n < rngL l j + rngK l j then some (atS 5 0x2100 (rngL l j)) else if 256 < sumK l (j + 1) then some ⟨5, 0x2600, 0, false, ((8 + 16 * j + 8 : Nat) : Int), -1, true, false⟩ else none
def unBad (n : Nat) (l : L8) (N : Nat) : Option Sn := (List.range N).findSome? (unB1 n l)
theorem findSome_range {α : Type} {f : Nat → Option α} {a : α} : ∀ {N i : Nat}, i < N → (∀ j, j < i → f j = none) → f i = some a → (List.range N).findSome? f = some a := by
  intro N i hi h ha
  have e : N = i + (1 + (N - i - 1)) := by omega
  have h0 : (List.range i).findSome? f = none := by
    rw [List.findSome?_eq_none_iff]
    exact fun x hx => h x (List.mem_range.1 hx)
  rw [e, List.range_add, List.range_add, List.findSome?_append, h0]
  simp [ha]
theorem findSome_range_none {α : Type} {f : Nat → Option α} {N : Nat} (h : ∀ j, j < N → f j = none) : (List.range N).findSome? f = none := by
  rw [List.findSome?_eq_none_iff]
  exact fun x hx => h x (List.mem_range.1 hx)
/-- ranges are unmapped, one behind the other, till one fails -/
def unGo (F : Int → Bool) (file : ByteArray) (cache : Bool) (st : Wst) (l : L8) : Nat → Option Sn × Wst
  | 0 => (none, st)
  | k + 1 => match unGo F file cache st l k with
    | (some s, x) => (some s, x)
    | (none, x) => match unmX F file cache x (rngL l k) (rngK l k) with
      | (some j, y) => (some (atS 3 0x0c00 (rngL l k + j)), y)
      | (none, y) => (none, y)
def unOk (l : L8) : Prop := 8 ≤ l.length ∧ num ((l.drop 0).take 2) = l.length - 2 ∧ num ((l.drop 2).take 2) = l.length - 8 ∧ (l.length - 8) % 16 = 0
instance (l : L8) : Decidable (unOk l) := by unfold unOk; infer_instance
def unmapX (F : Int → Bool) (n : Nat) (cache : Bool) (file : ByteArray) (st : Wst) (l : L8) : RsX × Wst :=
  if l.length = 0 then (okX [], st)
  else if ¬ unOk l then (snX (badS 0x1a00), st)
  else match unBad n l ((l.length - 8) / 16) with
    | some s => (snX s, st)
    | none => match unGo F file cache st l ((l.length - 8) / 16) with
      | (some s, x) => (snX s, x)
      | (none, x) => (okX [], x)
def compareX (F : Int → Bool) (kind : Nat) (cache : Bool) (file : ByteArray) (st : Wst) (bs : List Bk) (c : Cm) (l : L8) : RsX × Wst :=
  if l.length ≠ 2 * (szB (decide (c.prot ≠ 0)) * c.blocks) then (snX (badS 0x1a00), st)
  else match comeX kind c (l.drop (szB (decide (c.prot ≠ 0)) * c.blocks)) c.blocks with
    | .error s => (snX s, st)
    | .ok fresh => match readX F kind c.prot c.lba c.blocks st.ops ((bs.drop c.lba).take c.blocks) with
      | (.error s, k) => (snX s, more st k)
      | (.ok L, k) => match firstNe (packB false L) (packB false (unpB (decide (c.prot ≠ 0)) (l.take (szB (decide (c.prot ≠ 0)) * c.blocks)))) with
        | some i => (snX (atS 14 0x1d00 i), more st k)
        | none => writeX F file cache (more st k) c.lba fresh c.fua
def capX (kind n : Nat) (c : Cm) : L8 :=
  if c.long = false then lay (lay (List.replicate 8 0) 0 4 (n - 1)) 4 4 16
  else ((if 0 < kind then (lay (lay (List.replicate 32 0) 0 8 (n - 1)) 8 4 16).set 12 (UInt8.ofNat ((kind - 1) * 2 + 1)) else lay (lay (List.replicate 32 0) 0 8 (n - 1)) 8 4 16).set 14 128).take (min (max c.alloc 0) 32).toNat
/-- a command on blocks -/
def doX (F : Int → Bool) (kind n : Nat) (cache : Bool) (file : ByteArray) (st : Wst) (c : Cm) (l : L8) : RsX × Wst :=
  if knownB kind c.prot = false then (snX unkS, st)
  else if c.kind ≠ 13 ∧ c.kind ≠ 6 ∧ n < c.lba + c.blocks then (snX (atS 5 0x2100 c.lba), st)
  else if c.kind = 7 then (match readX F kind c.prot c.lba c.blocks st.ops (((rdBl st file 0 n).drop c.lba).take c.blocks) with
    | (.error s, k) => (snX s, more st k)
    | (.ok L, k) => (okX (packB (decide (c.prot ≠ 0)) L), more st k))
  else if c.kind = 8 ∨ c.kind = 9 then (match comeX kind c l c.blocks with
    | .error s => (snX s, st)
    | .ok L => writeX F file cache st c.lba L (c.fua || decide (c.kind = 9)))
  else if c.kind = 10 then verifyX F kind st (rdBl st file 0 n) c l
  else if c.kind = 11 then (if F (st.ops : Int) = true then (snX wfS, more st 1) else (okX [], synced st))
  else if c.kind = 12 then sameX F kind n cache file st c l
  else if c.kind = 13 then unmapX F n cache file st l
  else if c.kind = 14 then compareX F kind cache file st (rdBl st file 0 n) c l
  else if c.kind = 6 then (okX (capX kind n c), st)
  else (snX invS, st)
section
variable {w u : World} {dv ps pw : Nat} {file : ByteArray} {kind n : Nat} {cache : Bool} {D D' : Nat → Prop} {st st' : Wst} {bs bs' : List Bk} {m m' : Nat} {F : Int → Bool}
/-- what is so behind a command that comes to X -/
def DevOut (w : World) (dv ps pw : Nat) (file : ByteArray) (kind n : Nat) (cache : Bool) (D : Nat → Prop) (m : Nat) (F : Int → Bool) (X : RsX × Wst) (R : Array Value → World → Prop) : Prop :=
  ∀ u D' bs' d, Keep D w u → Dvq u dv ps pw file kind n cache D' X.2 bs' (m + 9000) F → (∀ k, D' k → D k ∨ w.heap.size ≤ k) → Own u w.heap.size t_uint8 1 d (bv X.1.d) → R (rsv X.1.st X.1.sn d).toArray u
theorem DevOut.plain {X : RsX × Wst} {R : Array Value → World → Prop} (h : DevOut w dv ps pw file kind n cache D m F X R) (hd : X.1.d = []) {D' : Nat → Prop} {bs' : List Bk} (k : Keep D w u) (hv : Dvq u dv ps pw file kind n cache D' X.2 bs' m' F) (hm : m' ≤ m + 9000) (hD : ∀ k, D' k → D k ∨ w.heap.size ≤ k) : R (rsv X.1.st X.1.sn nilS).toArray u :=
  h u D' bs' nilS k (hv.mono hm) hD (by rw [hd]; exact own_nil _ _ _ _)
theorem tells_bs (h : Dvq w dv ps pw file kind n cache D st bs m F) : rdBl st file 0 n = bs := by
  have := tells_read h.tells
  rw [h.len] at this; exact this
/-- a device behind reads -/
theorem Dvq.reads (h : Dvq w dv ps pw file kind n cache D st bs m F) (k : Keep D w u) {j : Nat} (hr : RdW w u pw D st j) : Dvq u dv ps pw file kind n cache D (more st j) bs (m + j) F :=
  h.step k (hr.isWq h.isW) (fun _ q => .inl q) h.ok h.tells h.len ⟨by show st.ops + j ≤ _; have := h.few; omega, by show st.waits.length ≤ _; have := h.few; omega⟩
end
end Go.Proofs.YtpmebahhjgkflaaGreatDoor

/- Layer 14: reads, writes and what came, as functions. -/
namespace Go.Proofs.YtpmebahhjgkflaaGreatDoor
open Go CF
set_option maxRecDepth 100000
section
variable {w u : World} {dv ps pw : Nat} {file : ByteArray} {kind n : Nat} {cache : Bool} {D D' : Nat → Prop} {st st' : Wst} {bs bs' : List Bk} {m m' : Nat} {F : Int → Bool}
theorem dev_come_fun {c : Cm} {p : Sl} {l : L8} {N : Nat} {R : Sl → Array Value → Bool → World → Prop} (hd : Blk w dv (dvcells ps kind) t_sbc_Dev) (hp : Rd w 1 p (bv l)) (hb : p.n ≤ 140737488351232) (hlba : c.lba ≤ 4096) (hN : N ≤ 4096)
    (hR : match comeX kind c l N with
      | .ok L => L.length = N → ∀ xs u, Grow w u → Own u w.heap.size t_api_Block 19 xs (L.flatMap bc) → R xs (rsv 0 sn0 nilS).toArray true u
      | .error s => ∀ u, Grow w u → R nilS (rsv 2 s nilS).toArray false u) : Csbc_Dev_come (some ⟨dv, 0, none⟩) (cmv c).toArray p (N : Int) w R := by
  unfold comeX at hR
  refine dev_come_spec hd hp hb hlba hN (fun q u g => ?_) (fun h1 h2 h3 xs u g ho => ?_) (fun h1 h2 h3 h4 xs u g ho => ?_) (fun h1 h2 h3 i hi hz hall u g => ?_)
  · rw [if_pos q] at hR; exact hR u g
  · have e : szB (decide (c.prot ≠ 0)) = 16 := by rw [decide_eq_false (by simpa using h3)]; rfl
    rw [e, if_neg (by omega), if_pos h3] at hR
    exact hR (by rw [mkAll_len, unpB_len]; exact h2) xs u g ho
  · have e : szB (decide (c.prot ≠ 0)) = 24 := by rw [decide_eq_true h3]; rfl
    rw [e, if_neg (by omega), if_neg h3, badAt_none h4] at hR
    exact hR (by rw [unpB_len]; exact h2) xs u g ho
  · have e : szB (decide (c.prot ≠ 0)) = 24 := by rw [decide_eq_true h3]; rfl
    rw [e, if_neg (by omega), if_neg h3, badAt_some hi hz hall] at hR
    have := hR u g
    unfold badSn at this
    rw [getD_at hi] at this
    exact this
end
end Go.Proofs.YtpmebahhjgkflaaGreatDoor
