import Derived.Test.YtaneeadpjelomaaDb1
import Derived.Test.YtaneeadpjelomaaSt9
/- Layer 14: blocks are written; blocks that came. -/
namespace Go.Proofs.Ytaneeadpjelomaa
open Go CF

theorem keepD_new {w y z : World} {D : Nat → Prop} {ab : Nat} (hk : Keep D w y) (ha : w.heap.size ≤ ab) (hz : Keep (fun k => k = ab) y z) : Keep D w z :=
  ⟨hz.os.trans hk.os, hz.tape.trans hk.tape, hz.output.trans hk.output, Nat.le_trans hk.size hz.size, fun k hk' hn => by rw [hz.block k (by have := hk.size; omega) (by omega), hk.block k hk' hn]⟩
theorem isW_new {y z : World} {pw : Nat} {D : Nat → Prop} {st : Wst} {ab : Nat} {cs : Array Value} {t : TypeId} (hw : IsW y pw D st) (hb : Blk y ab cs t) (ht : t ≠ t_uint8) (hn : ¬ D ab) (hz : Keep (fun k => k = ab) y z) : IsW z pw D st :=
  hw.keep hz (fun k hk q => hn (q ▸ hk)) fun g cur hg q => by subst q; exact ht (blk_type hb hg)
theorem rdW_new {x y z : World} {pw k : Nat} {D : Nat → Prop} {st : Wst} {ab : Nat} {cs : Array Value} {t : TypeId} (hw : RdW x y pw D st k) (hb : Blk y ab cs t) (ht : t ≠ t_uint8) (hn : ¬ D ab) (hz : Keep (fun k => k = ab) y z) : RdW x z pw D st k :=
  hw.keep hz (fun k hk q => hn (q ▸ hk)) fun g cur hg q => by subst q; exact ht (blk_type hb hg)
theorem tne_result : t_api_Result ≠ t_uint8 := by decide
section
variable {w u : World} {dv ps pw : Nat} {file : ByteArray} {kind n : Nat} {cache : Bool} {D D' : Nat → Prop} {st st' : Wst} {bs bs' : List Bk} {m m' : Nat}
theorem dev_write_spec {lba : Nat} {ls : Sl} {L : List Bk} {fua : Bool} {R : Array Value → World → Prop} (h : Dv w dv ps pw file kind n cache D st bs m) (hm : m ≤ 1000000) (hc : lba + L.length ≤ n) (hL : ∀ v, Keep D w v → Rd v 19 ls (L.flatMap bc))
    (hR : ∀ u D' , Keep D w u → Dv u dv ps pw file kind n cache D' (syncIf (syncs L.length fua cache) (layW st file lba (rsOf L) L.length)) (setAll bs lba L L.length) (m + L.length + 1) → (∀ k, D' k → D k ∨ w.heap.size ≤ k) → R (rsv 0 sn0 nilS).toArray u) :
    Csbc_Dev_write (some ⟨dv, 0, none⟩) (lba : Int) ls fua w R := by
  refine Fsbc_Dev_write.calls _ _ _ _ _ _ ?_
  have hsz := h.size
  have hlen := h.len
  have hfew := h.few
  refine new_rule fun ab w1 hab hb1 hg1 hsz1 => ⟨rfl, some ⟨ps, 0, none⟩, dev0 (h.grow hg1).dev, ?_⟩
  have h1 := h.grow hg1
  rw [w64 (n := (lba : Int)) (by omega) (by omega)]
  have nab : ¬ D ab := fun q => by have := h.isW.lt q; omega
  refine store_write2_spec h1.isS h1.nps h1.isW h1.ok h.nm hsz.2 hc (fun v hk => hL v ((hg1.mono fun _ _ q => q.elim).trans hk fun _ _ q => q)) (by omega) (by omega) fun w2 D2 hk2 hw2 hD2 hS2 => br_f rfl ?_
  refine good_spec fun w3 hg3 => ?_
  have s1 := hg1.size
  have s2 := hk2.size
  have nab2 : ¬ D2 ab := fun q => by
    rcases hD2 _ q with r | r
    · exact nab r
    · omega
  have hb3 : Blk w3 ab _ t_api_Result := hg3.heap (hk2.heap hb1 nab) (fun q => q)
  refine ret_rule (st := 0) (s := sn0) (d := nilS) hb3 rfl fun w4 hk4 => ?_
  have hkD : Keep D w w4 := keepD_new (((hg1.mono fun _ _ q => q.elim).trans hk2 fun _ _ q => q).grow hg3) (by omega) hk4
  have hDD : ∀ k, D2 k → D k ∨ w.heap.size ≤ k := fun k q => by
    rcases hD2 k q with r | r
    · exact .inl r
    · exact .inr (by omega)
  obtain ⟨lo, lw⟩ := layW_ops st file lba (rsOf L) L.length
  have so := syncIf_ops (syncs L.length fua cache) (layW st file lba (rsOf L) L.length)
  have sw : (syncIf (syncs L.length fua cache) (layW st file lba (rsOf L) L.length)).waits.length ≤ st.waits.length + L.length := by
    rw [syncIf_waits]
    split
    · exact Nat.zero_le _
    · omega
  refine hR w4 D2 hkD (h.step hkD (isW_new (hw2.grow hg3) hb3 tne_result nab2 hk4) hDD (syncIf_ok (layW_ok h.ok (rsOf_len L) L.length (by omega))) (tells_write h.tells (by omega)) (by rw [setAll_len]; exact hlen) (by omega)) hDD
end
/-! ### a row of blocks changed in place -/
theorem own_storeAt {P : Program} {w : World} {base : Nat} {e ty : TypeId} {z o : Nat} {zv : Option Value} {q bytes : Nat} {s : Sl} {vs : List Value} {cells : Array Value} (hs : Own w base e z s vs) (hinfo : (P.info? ty).map (fun i => (i.zero, i.size, i.bytes)) = some (zv, q, bytes)) (hq : q = cells.size)
    (ho : o + cells.size ≤ vs.length) (hpos : 0 < cells.size) (h1 : ∀ v ∈ cells.toList, v.oneCell' = true) {K : World → Prop}
    (h : ∀ w1, Own w1 base e z s (vs.take o ++ cells.toList ++ vs.drop (o + cells.size)) → Keep (fun k => some k = s.blk) w w1 → w1.heap.size = w.heap.size → K w1) : RunU P (storeVar ty ((gA s.A).add o) (.agg cells)) w K := by
  obtain ⟨hlen, hown⟩ := hs
  rcases hown with ⟨h2, hn0⟩ | ⟨g, cap, cur, hv', hbg, hg, hnc, hcm, hcs, htake⟩
  · rw [hn0, Nat.zero_mul] at hlen; omega
  · injection hv' with hA hN hC
    have hle : s.n * z ≤ cur.size := by rw [hcs]; exact Nat.mul_le_mul_right _ hnc
    rw [hA, gA, add0, Nat.zero_add]
    refine storeAt_rule hg hinfo hq (by omega) h1 fun w1 hb1 hk1 hsz1 => ?_
    refine h w1 ⟨by simp only [List.length_append, List.length_take, List.length_drop, Array.length_toList]; omega, .inr ⟨g, cap, _, by rw [hA, hC], hbg, hb1, hnc, hcm, ?_, ?_⟩⟩ (hk1.mono fun k _ q => by simp [Sl.blk, hA, q]) hsz1
    · simp only [List.size_toArray, List.length_append, List.length_take, List.length_drop, Array.length_toList]; omega
    · have hF : cur.toList.take (s.n * z) = vs := htake
      have hl : vs.length = s.n * z := hlen
      rw [← hF]
      apply List.ext_getElem?
      intro j
      simp only [List.getElem?_take, List.getElem?_append, List.length_append, List.length_take, Array.length_toList, List.getElem?_drop]
      have e1 : min o cur.size = o := by omega
      have e2 : min o (min (s.n * z) cur.size) = o := by omega
      simp only [e1, e2]
      by_cases q1 : j < o
      · have q2 : j < o + cells.size := by omega
        have q3 : j < s.n * z := by omega
        simp only [if_pos q1, if_pos q2, if_pos q3]
      · by_cases q2 : j < o + cells.size
        · have q3 : j < s.n * z := by omega
          simp only [if_neg q1, if_pos q2, if_pos q3]
        · by_cases q3 : j < s.n * z
          · have q4 : o + cells.size + (j - (o + cells.size)) < s.n * z := by omega
            simp only [if_neg q2, if_pos q3, if_pos q4]
          · have q4 : ¬ o + cells.size + (j - (o + cells.size)) < s.n * z := by omega
            simp only [if_neg q2, if_neg q3, if_neg q4]
theorem flat_bc_len (l : List Bk) : (l.flatMap bc).length = l.length * 19 := flat_length bc_len l
theorem flat_set {l : List Bk} {j : Nat} {b : Bk} (hj : j < l.length) (hd : b.d = l[j].d) : (l.flatMap bc).take (j * 19 + 16) ++ tc b.g b.a b.r ++ (l.flatMap bc).drop (j * 19 + 16 + 3) = (l.set j b).flatMap bc := by
  have e : l = l.take j ++ l[j] :: l.drop (j + 1) := by rw [List.getElem_cons_drop, List.take_append_drop]
  have hA : ((l.take j).flatMap bc).length = j * 19 := by rw [flat_bc_len, List.length_take, Nat.min_eq_left (by omega)]
  have hl : l.flatMap bc = (l.take j).flatMap bc ++ (bc l[j] ++ (l.drop (j + 1)).flatMap bc) := by
    conv => lhs; rw [e]
    rw [List.flatMap_append, List.flatMap_cons]
  have hs : (l.set j b).flatMap bc = (l.take j).flatMap bc ++ (bc b ++ (l.drop (j + 1)).flatMap bc) := by
    rw [List.set_eq_take_append_cons_drop, if_pos hj, List.flatMap_append, List.flatMap_cons]
  have hb : bc b = bv l[j].d ++ tc b.g b.a b.r := by unfold bc tc; rw [hd]
  have t1 : ((l.take j).flatMap bc ++ (bc l[j] ++ (l.drop (j + 1)).flatMap bc)).take (j * 19 + 16) = (l.take j).flatMap bc ++ bv l[j].d := by
    rw [← hA, List.take_length_add_append, List.take_append_of_le_length (by rw [bc_len]; omega), bc_head]
  have t2 : ((l.take j).flatMap bc ++ (bc l[j] ++ (l.drop (j + 1)).flatMap bc)).drop (j * 19 + 16 + 3) = (l.drop (j + 1)).flatMap bc := by
    rw [Nat.add_assoc, ← hA, List.drop_length_add_append]
    have : 16 + 3 = (bc l[j]).length := by rw [bc_len]
    rw [this, List.drop_left]
  rw [hl, hs, t1, t2, hb]
  simp
end Go.Proofs.Ytaneeadpjelomaa

/- Layer 14: blocks that came with a command. -/
namespace Go.Proofs.Ytaneeadpjelomaa
open Go CF

def mk1 (kind lba : Nat) (b : Bk) : Bk := mkB kind lba b.d b.hd
/-- blocks given their tuples, the first j of them -/
def mkAll (kind lba : Nat) (U : List Bk) : Nat → List Bk
  | 0 => U
  | j + 1 => (mkAll kind lba U j).set j (mk1 kind (lba + j) (U.getD j zeroBk))
theorem mkAll_len (kind lba : Nat) (U : List Bk) : ∀ j, (mkAll kind lba U j).length = U.length
  | 0 => rfl
  | j + 1 => by simp [mkAll, mkAll_len kind lba U j]
theorem mkAll_at (kind lba : Nat) (U : List Bk) : ∀ (j i : Nat) (hi : i < U.length), (mkAll kind lba U j)[i]'(by rw [mkAll_len]; exact hi) = if i < j then mk1 kind (lba + i) U[i] else U[i]
  | 0, i, hi => by rw [if_neg (by omega)]; rfl
  | j + 1, i, hi => by
    have ih := mkAll_at kind lba U j i hi
    simp only [mkAll, List.getElem_set]
    by_cases e : j = i
    · subst e
      rw [if_pos rfl, if_pos (by omega), List.getD_eq_getElem?_getD, List.getElem?_eq_getElem hi]; rfl
    · rw [if_neg e, ih]
      by_cases q : i < j
      · rw [if_pos q, if_pos (by omega)]
      · rw [if_neg q, if_neg (by omega)]
theorem mk1_cells (kind lba : Nat) (b : Bk) : tc (mk1 kind lba b).g (mk1 kind lba b).a (mk1 kind lba b).r = tc (c16 b.d) 0 (mkR kind lba) := rfl
theorem dev_come_spec {w : World} {dv ps kind : Nat} {c : Cm} {p : Sl} {l : L8} {N : Nat} {R : Sl → Array Value → Bool → World → Prop} (hd : Blk w dv (dvcells ps kind) t_sbc_Dev) (hp : Rd w 1 p (bv l)) (hb : p.n ≤ 140737488351232) (hlba : c.lba ≤ 4096) (hN : N ≤ 4096)
    (h1 : (l.length % szB (decide (c.prot ≠ 0)) ≠ 0 ∨ l.length / szB (decide (c.prot ≠ 0)) ≠ N) → ∀ u, Grow w u → R nilS (rsv 2 (badS 0x1a00) nilS).toArray false u)
    (h2 : l.length % 16 = 0 → l.length / 16 = N → c.prot = 0 → ∀ xs u, Grow w u → Own u w.heap.size t_api_Block 19 xs ((mkAll kind c.lba (unpB false l) N).flatMap bc) → R xs (rsv 0 sn0 nilS).toArray true u)
    (h3 : l.length % 24 = 0 → l.length / 24 = N → c.prot ≠ 0 → (∀ i (hi : i < (unpB true l).length), chkB kind c.prot (c.lba + i) (unpB true l)[i] = 0) → ∀ xs u, Grow w u → Own u w.heap.size t_api_Block 19 xs ((unpB true l).flatMap bc) → R xs (rsv 0 sn0 nilS).toArray true u)
    (h4 : l.length % 24 = 0 → l.length / 24 = N → c.prot ≠ 0 → ∀ i (hi : i < (unpB true l).length), chkB kind c.prot (c.lba + i) (unpB true l)[i] ≠ 0 → (∀ j (hj : j < i), chkB kind c.prot (c.lba + j) ((unpB true l)[j]'(by omega)) = 0) → ∀ u, Grow w u →
      R nilS (rsv 2 (atS 11 (chkB kind c.prot (c.lba + i) (unpB true l)[i]) (c.lba + i)) nilS).toArray false u) :
    Csbc_Dev_come (some ⟨dv, 0, none⟩) (cmv c).toArray p (N : Int) w R := by
  refine Fsbc_Dev_come.calls _ _ _ _ _ _ ?_
  refine new_rule fun cb w0 hcb hb0 hg0 hsz0 => ?_
  have hb0 : Blk w0 cb (cmv c).toArray t_api_Cmd := hb0
  refine new_rule fun ab w1 hab hb1 hg1 hsz1 => ?_
  have hgw1 := hg0.trans hg1
  have hc1 : Blk w1 cb (cmv c).toArray t_api_Cmd := hg1.heap hb0 (fun q => q)
  refine ⟨(c.prot : Int), by rw [add0, hc1.cell]; rfl, ?_⟩
  have ew : ((c.prot : Int) != 0) = decide (c.prot ≠ 0) := by rw [Bool.eq_iff_iff, bne_iff_ne, decide_eq_true_eq]; omega
  rw [ew]
  generalize hwt : decide (c.prot ≠ 0) = wt at *
  have hd1 := hgw1.heap hd (fun q => q)
  have hln := rd_n' hp
  refine unpack_spec (hp.grow hgw1) hb (fun q => br_t rfl (length_spec fun w2 hg2 => ret_rule (hg2.heap hb1 (fun q => q)) rfl fun w3 hk3 => h1 (.inl q) w3 (grow_new (hgw1.trans hg2) (by omega) hk3))) fun hm xs w2 hg2 hown2 => ?_
  have hgw2 := hgw1.trans hg2
  have hUl : (unpB wt l).length = l.length / szB wt := unpB_len wt l
  have hs16 : 16 ≤ szB wt := by unfold szB; split <;> decide
  have hdiv : l.length / szB wt ≤ l.length := Nat.div_le_self _ _
  have hown2 : Own w2 w.heap.size t_api_Block 19 xs ((unpB wt l).flatMap bc) := hown2.mono hgw1.size
  have hxn : xs.n = (unpB wt l).length := by have := hown2.len; rw [flat_bc_len] at this; omega
  rw [wu64 (n := (xs.n : Int)) (by omega) (by omega)]
  have hb2 : Blk w2 ab _ t_api_Result := hg2.heap hb1 (fun q => q)
  by_cases hN' : l.length / szB wt = N
  case neg =>
    refine br_t (by rw [Bool.or_eq_true, bne_iff_ne]; right; omega) (length_spec fun w3 hg3 => ret_rule (hg3.heap hb2 (fun q => q)) rfl fun w4 hk4 => h1 (.inr hN') w4 (grow_new (hgw2.trans hg3) (by omega) hk4))
  refine br_f (by rw [Bool.or_eq_false_iff, bne_eq_false_iff_eq]; exact ⟨rfl, by omega⟩) ?_
  generalize hU : unpB wt l = U at *
  have hc2 : Blk w2 cb (cmv c).toArray t_api_Cmd := hg2.heap hc1 (fun q => q)
  have hd2 : Blk w2 dv (dvcells ps kind) t_sbc_Dev := hg2.heap hd1 (fun q => q)
  have c2 : ∀ {v : World}, Blk v cb (cmv c).toArray t_api_Cmd → v.cell? ((⟨cb, 0, none⟩ : Addr).add 2) = some (.int .u64 (c.lba : Int)) := fun q => by rw [add0, q.cell]; rfl
  have c6 : ∀ {v : World}, Blk v cb (cmv c).toArray t_api_Cmd → v.cell? ((⟨cb, 0, none⟩ : Addr).add 6) = some (.int .u8 (c.prot : Int)) := fun q => by rw [add0, q.cell]; rfl
  have xblk : ∀ {v : World} {L : List Bk}, Own v w.heap.size t_api_Block 19 xs (L.flatMap bc) → ∀ {b : Nat} {cs : Array Value} {t : TypeId}, Blk v b cs t → t ≠ t_api_Block → xs.blk ≠ some b := fun ho b cs t hbb ht => own_ne ho hbb ht
  refine ⟨fun x v => ∃ j : Nat, x = j ∧ j ≤ U.length ∧ Grow w v ∧ Blk v cb (cmv c).toArray t_api_Cmd ∧ Blk v dv (dvcells ps kind) t_sbc_Dev ∧ Blk v ab _ t_api_Result ∧
      ((wt = false ∧ Own v w.heap.size t_api_Block 19 xs ((mkAll kind c.lba U j).flatMap bc)) ∨ (wt = true ∧ Own v w.heap.size t_api_Block 19 xs (U.flatMap bc) ∧ ∀ i (hi : i < U.length), i < j → chkB kind c.prot (c.lba + i) U[i] = 0)), fun x _ => U.length - x.toNat,
    ⟨0, rfl, Nat.zero_le _, hgw2, hc2, hd2, hb2, by cases wt with
      | false => exact .inl ⟨rfl, hown2⟩
      | true => exact .inr ⟨rfl, hown2, fun _ _ q => absurd q (Nat.not_lt_zero _)⟩⟩, ?_⟩
  rintro x v ⟨j, rfl, hj, hgv, hcv, hdv, hav, hcase⟩
  refine br_nat (fun hlt => ?_) (fun hge => ?_)
  · have hjU : j < U.length := by omega
    have e1 : IntKind.wrap .u64 ((c.lba : Int) + IntKind.wrap .u64 (j : Int)) = ((c.lba + j : Nat) : Int) := by
      rw [wu64 (n := (j : Int)) (by omega) (by omega), wu64 (by omega) (by omega)]; omega
    rw [w64 (n := (j : Int) + 1) (by omega) (by omega)]
    refine letX0 (fun y => Grow w y ∧ Blk y cb (cmv c).toArray t_api_Cmd ∧ Blk y dv (dvcells ps kind) t_sbc_Dev ∧ Blk y ab _ t_api_Result ∧
      ((wt = false ∧ Own y w.heap.size t_api_Block 19 xs ((mkAll kind c.lba U (j + 1)).flatMap bc)) ∨ (wt = true ∧ Own y w.heap.size t_api_Block 19 xs (U.flatMap bc) ∧ ∀ i (hi : i < U.length), i < j + 1 → chkB kind c.prot (c.lba + i) U[i] = 0)))
      (fun y hy => ⟨⟨j + 1, by omega, by omega, hy⟩, by dsimp only; omega⟩) (fun J => ⟨(c.lba : Int), c2 hcv, ?_⟩)
    rw [e1]
    rcases hcase with ⟨hwf, hown⟩ | ⟨hwt', hown, hall⟩
    · refine br_t (by rw [hwf]; rfl) ?_
      rintro w3 rfl
      have hg3 : Grow v v.drew := keep_drew v
      have hVl : (mkAll kind c.lba U j).length = U.length := mkAll_len _ _ _ _
      have hVj : (mkAll kind c.lba U j)[j]'(by omega) = U[j] := by rw [mkAll_at _ _ _ _ _ hjU, if_neg (by omega)]
      obtain ⟨a0, ha0, hc0⟩ := rd_bk_at (hown.rd (by omega)) (i := j) (by omega)
      rw [hVj] at hc0
      have bnd : (0 : Int) ≤ (j : Int) ∧ (j : Int) < (xs.n : Int) ∧ xs.A.isSome = true := ⟨by omega, by omega, by rw [ha0]; rfl⟩
      refine ⟨fun y => Grow v y, hg3, rfl, (kind : Int), fun y hy => dev1 (hy.heap hdv (fun q => q)), bnd, (bv U[j].d).toArray, fun y hy => ?_, ?_⟩
      · rw [ha0, Int.toNat_natCast]
        exact dLoad U[j].hd (cells_head (fun i x hx => hy.cell (hc0 i x hx) (fun q => q)))
      refine make_spec (app := 0) U[j].hd fun w4 hg4 => ⟨bnd, ?_⟩
      have hg14 := hg3.trans hg4
      have hown4 := hown.grow hg14
      rw [Int.toNat_natCast, addr_add]
      refine own_storeAt (o := j * 19 + 16) (cells := (tc (c16 U[j].d) 0 (mkR kind (c.lba + j))).toArray) hown4 i_api_Tuple rfl (by rw [flat_bc_len, hVl]; show j * 19 + 16 + 3 ≤ _; omega) (by show 0 < 3; decide) (by intro q hq; simp [tc] at hq; rcases hq with rfl | rfl | rfl <;> rfl) fun w5 hown5 hk5 _ => ?_
      have hfs := flat_set (l := mkAll kind c.lba U j) (j := j) (b := mk1 kind (c.lba + j) U[j]) (by omega) (by rw [hVj]; rfl)
      rw [mk1_cells] at hfs
      have hown5 : Own w5 w.heap.size t_api_Block 19 xs (((mkAll kind c.lba U j).flatMap bc).take (j * 19 + 16) ++ tc (c16 U[j].d) 0 (mkR kind (c.lba + j)) ++ ((mkAll kind c.lba U j).flatMap bc).drop (j * 19 + 16 + 3)) := hown5
      rw [hfs] at hown5
      have hnb : ∀ {b : Nat} {cs : Array Value} {t : TypeId}, Blk w4 b cs t → t ≠ t_api_Block → Blk w5 b cs t := fun hbb ht => hk5.heap hbb fun q => own_ne hown4 hbb ht q.symm
      refine J w5 ⟨own_grow' (hgv.trans hg14) hown4 (Nat.le_refl _) hk5, hnb (hg14.heap hcv (fun q => q)) (by decide), hnb (hg14.heap hdv (fun q => q)) (by decide), hnb (hg14.heap hav (fun q => q)) (by decide), .inl ⟨hwf, ?_⟩⟩
      have e2 : mkAll kind c.lba U (j + 1) = (mkAll kind c.lba U j).set j (mk1 kind (c.lba + j) U[j]) := by
        simp only [mkAll]; rw [List.getD_eq_getElem?_getD, List.getElem?_eq_getElem hjU]; rfl
      rw [e2]; exact hown5
    · refine br_f (by rw [hwt']; rfl) ?_
      rintro w3 rfl
      have hg3 : Grow v v.drew := keep_drew v
      obtain ⟨a0, ha0, hc0⟩ := rd_bk_at (hown.rd (by omega)) hjU
      have bnd : (0 : Int) ≤ (j : Int) ∧ (j : Int) < (xs.n : Int) ∧ xs.A.isSome = true := ⟨by omega, by omega, by rw [ha0]; rfl⟩
      refine ⟨fun y => Grow v y, hg3, rfl, (kind : Int), fun y hy => dev1 (hy.heap hdv (fun q => q)), (c.prot : Int), fun y hy => c6 (hy.heap hcv (fun q => q)), bnd, (bc U[j]).toArray, fun y hy => ?_, ?_⟩
      · rw [ha0, Int.toNat_natCast]
        exact bLoad (fun i x hx => hy.cell (hc0 i x hx) (fun q => q))
      refine check_b_spec fun w4 hg4 => ?_
      have hg14 := hg3.trans hg4
      subst hwt'
      have hp0 : c.prot ≠ 0 := by simpa using hwt
      by_cases hz : chkB kind c.prot (c.lba + j) U[j] = 0
      · refine br_f (by rw [hz]; rfl) (J w4 ⟨hgv.trans hg14, hg14.heap hcv (fun q => q), hg14.heap hdv (fun q => q), hg14.heap hav (fun q => q), .inr ⟨rfl, hown.grow hg14, fun i hi q => ?_⟩⟩)
        by_cases e : i = j
        · subst e; exact hz
        · exact hall i hi (by omega)
      · refine br_t (by rw [bne_iff_ne]; omega) (at_spec (key := 11) fun w5 hg5 => ?_)
        refine ret_rule ((hg14.trans hg5).heap hav (fun q => q)) rfl fun w6 hk6 => ?_
        subst hU
        exact h4 hm hN' hp0 j hjU hz (fun i hi => hall i (by omega) hi) w6 (grow_new ((hgv.trans hg14).trans hg5) (by omega) hk6)
  · have hjn : j = U.length := by omega
    refine ret_rule (st := 0) (s := sn0) (d := nilS) hav rfl fun w3 hk3 => ?_
    have hg3 := grow_new hgv (by omega) hk3
    have ok : ∀ {L : List Bk}, Own v w.heap.size t_api_Block 19 xs (L.flatMap bc) → Own w3 w.heap.size t_api_Block 19 xs (L.flatMap bc) := fun ho => ho.keep hk3 fun b hb q => own_ne ho hav (by decide) (by rw [hb, q])
    rcases hcase with ⟨hwf, hown⟩ | ⟨hwt', hown, hall⟩
    · subst hwf
      have hp0 : c.prot = 0 := by simpa using hwt
      subst hU
      rw [hjn, hUl, hN'] at hown
      exact h2 hm hN' hp0 xs w3 hg3 (ok hown)
    · subst hwt'
      have hp0 : c.prot ≠ 0 := by simpa using hwt
      subst hU
      exact h3 hm hN' hp0 (fun i hi => hall i hi (by omega)) xs w3 hg3 (ok hown)
end Go.Proofs.Ytaneeadpjelomaa
