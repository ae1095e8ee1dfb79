import Derived.Test.YtaneeadpjelomaaDoorB6
/- Layer 14: compare and write. -/
namespace Go.Proofs.YtaneeadpjelomaaDoor
open Go CF

/-- what is behind the blocks that came -/
def cmpTail (dv cb ab : Nat) (told : Sl) (K : Array Value → World → Prop) (r : Addr) (xs1 : Sl) (g2 : Array Value) (b1 : Bool) (w010 : World) : Prop :=
  RunU Tryd.prog (storeVar t_api_Result r (.agg g2)) w010 fun w011 => Br (!b1)
    (∃ g3 : Array Value, (loadVar t_api_Result r).run Tryd.prog w011 = .ok (.agg g3) w011 ∧ RunU Tryd.prog (storeVar t_api_Result ⟨ab, 0, none⟩ (.agg g3)) w011 fun w012 => ∃ res1 : Array Value, (loadVar t_api_Result ⟨ab, 0, none⟩).run Tryd.prog w012 = .ok (.agg res1) w012 ∧ K res1 w012)
    (∃ g4 : Array Value, (loadVar t_api_Cmd ⟨cb, 0, none⟩).run Tryd.prog w011 = .ok (.agg g4) w011 ∧ Csbc_Dev_read (some ⟨dv, 0, none⟩) g4 w011 fun xs2 g5 b2 w013 => RunU Tryd.prog (storeVar t_api_Result r (.agg g5)) w013 fun w014 => Br (!b2)
      (∃ g6 : Array Value, (loadVar t_api_Result r).run Tryd.prog w014 = .ok (.agg g6) w014 ∧ RunU Tryd.prog (storeVar t_api_Result ⟨ab, 0, none⟩ (.agg g6)) w014 fun w015 => ∃ res2 : Array Value, (loadVar t_api_Result ⟨ab, 0, none⟩).run Tryd.prog w015 = .ok (.agg res2) w015 ∧ K res2 w015)
      (Csbc_differ xs2 told w014 fun n5 w016 => Br (decide (n5 ≥ 0))
        (Csbc_at 14 7424 (IntKind.wrap .u64 n5) w016 fun g7 w017 => RunU Tryd.prog (storeVar t_api_Result ⟨ab, 0, none⟩ (.agg g7)) w017 fun w018 => ∃ res3 : Array Value, (loadVar t_api_Result ⟨ab, 0, none⟩).run Tryd.prog w018 = .ok (.agg res3) w018 ∧ K res3 w018)
        (∃ n6 : Int, w016.cell? ((⟨cb, 0, none⟩ : Addr).add 2) = some (.int .u64 n6) ∧ ∃ b3 : Bool, w016.cell? ((⟨cb, 0, none⟩ : Addr).add 5) = some (.bool b3) ∧ Csbc_Dev_write (some ⟨dv, 0, none⟩) n6 xs1 b3 w016 fun g8 w019 => RunU Tryd.prog (storeVar t_api_Result ⟨ab, 0, none⟩ (.agg g8)) w019 fun w020 =>
          ∃ res4 : Array Value, (loadVar t_api_Result ⟨ab, 0, none⟩).run Tryd.prog w020 = .ok (.agg res4) w020 ∧ K res4 w020)))
section
variable {w u : World} {dv ps pw : Nat} {file : ByteArray} {kind n : Nat} {cache : Bool} {D D' : Nat → Prop} {st st' : Wst} {bs bs' : List Bk} {m m' : Nat}
theorem dev_compare_spec {c : Cm} {p : Sl} {l : L8} {H : Nat} {K : Array Value → World → Prop} (h : Dv w dv ps pw file kind n cache D st bs m) (hm : m ≤ 900000) (hp : Rd w 1 p (bv l)) (hb : p.n ≤ 140737488351232) (hc : c.lba + c.blocks ≤ n) (hH : H = szB (decide (c.prot ≠ 0)) * c.blocks)
    (k1 : l.length ≠ 2 * H → ∀ u, Grow w u → K (rsv 2 (badS 0x1a00) nilS).toArray u)
    (k2 : ¬ (c.prot = 0 ∧ ∀ i (hi : i < ((bs.drop c.lba).take c.blocks).length), chkB kind c.prot (c.lba + i) ((bs.drop c.lba).take c.blocks)[i] = 0) → ∀ code info u j, Keep D w u → IsW u pw D { st with ops := st.ops + j } → j ≤ c.blocks → K (rsv 2 (atS 11 code info) nilS).toArray u)
    (k4 : l.length = 2 * H → ∀ i, firstNe (packB false ((bs.drop c.lba).take c.blocks)) (packB false (unpB (decide (c.prot ≠ 0)) (l.take H))) = some i → ∀ u, Keep D w u → IsW u pw D { st with ops := st.ops + c.blocks } → K (rsv 2 (atS 14 0x1d00 i) nilS).toArray u)
    (k5 : l.length = 2 * H → firstNe (packB false ((bs.drop c.lba).take c.blocks)) (packB false (unpB (decide (c.prot ≠ 0)) (l.take H))) = none → ∀ u D', Keep D w u →
      Dv u dv ps pw file kind n cache D' (syncIf (syncs c.blocks c.fua cache) (layW { st with ops := st.ops + c.blocks } file c.lba (rsOf (cameB kind c (l.drop H) c.blocks)) c.blocks)) (setAll bs c.lba (cameB kind c (l.drop H) c.blocks) c.blocks) (m + c.blocks + c.blocks + 1) →
      (∀ k, D' k → D k ∨ w.heap.size ≤ k) → K (rsv 0 sn0 nilS).toArray u) : Csbc_Dev_compare (some ⟨dv, 0, none⟩) (cmv c).toArray p w K := by
  refine Fsbc_Dev_compare.calls _ _ _ _ _ ?_
  have hsz := h.size
  have hlen := h.len
  have hfew := h.few
  have hln := rd_n' hp
  have hcap := hp.cap
  refine new_rule fun cb w0 hcb hb0 hg0 hsz0 => ?_
  have hb0 : Blk w0 cb (cmv c).toArray t_api_Cmd := hb0
  refine new_rule fun ab w1 hab hb1 hg1 hsz1 => ?_
  have hb1 : Blk w1 ab z10 t_api_Result := hb1
  have hgw1 := hg0.trans hg1
  have hc1 : Blk w1 cb (cmv c).toArray t_api_Cmd := hg1.heap hb0 (fun q => q)
  have lD := fun k (q : D k) => h.isW.lt q
  have nab : ¬ D ab := fun q => by have := lD _ q; omega
  have ncb : ¬ D cb := fun q => by have := lD _ q; omega
  have sw := hg0.size
  have cAt : ∀ {v : World} {i : Nat} {x : Value}, Grow w1 v → (cmv c).toArray[i]? = some x → v.cell? ((⟨cb, 0, none⟩ : Addr).add i) = some x := fun g e => by rw [add0, Blk.cell (g.heap hc1 (fun q => q)), Nat.zero_add]; exact e
  generalize hwt : decide (c.prot ≠ 0) = wt at *
  have ew : ((c.prot : Int) != 0) = wt := by rw [← hwt, Bool.eq_iff_iff, bne_iff_ne, decide_eq_true_eq]; omega
  have hs24 : 16 ≤ szB wt ∧ szB wt ≤ 24 := by unfold szB; split <;> decide
  have hHle : H ≤ 24 * 4096 := by rw [hH]; exact Nat.mul_le_mul hs24.2 (by omega)
  rintro w2 rfl
  have hg2 : Grow w1 w1.drew := keep_drew w1
  refine ⟨fun v => Grow w1 v, hg2, (c.prot : Int), fun v hv => cAt hv rfl, (c.blocks : Int), fun v hv => cAt hv rfl, ?_⟩
  rw [ew]
  refine size_spec ⟨hg2, ?_⟩
  have eH : IntKind.wrap .i64 (((szB wt : Nat) : Int) * IntKind.wrap .i64 (c.blocks : Int)) = (H : Int) := by
    rw [w64 (n := (c.blocks : Int)) (by omega) (by omega)]
    have : ((szB wt : Nat) : Int) * (c.blocks : Int) = ((H : Nat) : Int) := by rw [hH]; exact (Int.natCast_mul _ _).symm
    rw [this]; exact w64 (by omega) (by omega)
  have e2H : IntKind.wrap .i64 (2 * (H : Int)) = ((2 * H : Nat) : Int) := by rw [w64 (by omega) (by omega)]; omega
  rw [eH, e2H]
  have ret : ∀ {v : World} {s : Nat} {sn : Sn} {d : Sl}, Grow w1 v → (∀ v', Grow w v' → K (rsv s sn d).toArray v') →
      RunU Tryd.prog (storeVar t_api_Result ⟨ab, 0, none⟩ (.agg (rsv s sn d).toArray)) v fun w' => ∃ res : Array Value, (loadVar t_api_Result ⟨ab, 0, none⟩).run Tryd.prog w' = .ok (.agg res) w' ∧ K res w' := fun g hR => ret_rule (g.heap hb1 (fun q => q)) rfl fun v' hk => hR v' (grow_new (hgw1.trans g) (by omega) hk)
  by_cases hl2 : l.length = 2 * H
  case neg => exact br_t (by rw [bne_iff_ne]; omega) (length_spec fun w3 hg3 => ret (hg2.trans hg3) fun v' hv' => k1 hl2 v' hv')
  refine br_f (by rw [bne_eq_false_iff_eq]; omega) ?_
  rintro w3 rfl
  have hg3 : Grow w1 w1.drew.drew := hg2.trans (keep_drew _)
  simp only [Int.toNat_natCast]
  refine ⟨fun v => Grow w1 v, hg3, ⟨by decide, by omega, by omega, hcap⟩, (c.prot : Int), fun v hv => cAt hv rfl, ?_⟩
  rw [ew]
  have hdm : H % szB wt = 0 ∧ H / szB wt = c.blocks := by rw [hH]; exact ⟨Nat.mul_mod_right _ _, Nat.mul_div_cancel_left _ (by omega)⟩
  have hcut0 : ∀ v, Grow w v → Rd v 1 ⟨cutA p.A p.c 0 1, H - 0, p.c - 0⟩ (bv (l.take H)) := fun v hv => (hp.grow hv).cutB (l := 0) (k := H) (Nat.zero_le _) (by omega)
  have hcut1 : ∀ v, Grow w v → Rd v 1 ⟨cutA p.A p.c H 1, p.n - H, p.c - H⟩ (bv (l.drop H)) := fun v hv => by
    have := (hp.grow hv).cutB (l := H) (k := p.n) (by omega) (Nat.le_refl _)
    rwa [List.take_of_length_le (by rw [List.length_drop]; omega)] at this
  have hl0 : (l.take H).length = H := by rw [List.length_take]; omega
  have hl1 : (l.drop H).length = H := by rw [List.length_drop]; omega
  refine unpack_spec (hcut0 _ (hgw1.trans hg3)) (by show H - 0 ≤ _; omega) (fun q => absurd (by rw [hl0]; exact hdm.1) q) fun _ told w4 hg4 hown4 => ?_
  have hgw4 := (hgw1.trans hg3).trans hg4
  have hown4 : Own w4 w.heap.size t_api_Block 19 told ((unpB wt (l.take H)).flatMap bc) := hown4.mono (hgw1.trans hg3).size
  have hUl : (unpB wt (l.take H)).length = c.blocks := by rw [unpB_len, hl0]; exact hdm.2
  rintro w5 rfl
  have hg15 : Grow w1 w4.drew := (hg3.trans hg4).trans (keep_drew _)
  have hown5 : Own w4.drew w.heap.size t_api_Block 19 told ((unpB wt (l.take H)).flatMap bc) := hown4.grow (keep_drew _)
  generalize w4.drew = w5 at *
  have hgw5 := hgw1.trans hg15
  have h5 := h.grow hgw5
  refine ⟨fun v => Grow w1 v, hg15, (cmv c).toArray, fun v hv => cLoad (blk_cells (hv.heap hc1 (fun q => q))), ⟨by omega, by omega, by omega, hcap⟩, (c.blocks : Int), fun v hv => cAt hv rfl, ?_⟩
  have hLl : ((bs.drop c.lba).take c.blocks).length = c.blocks := by rw [List.length_take, List.length_drop]; omega
  have lab5 : ab < w5.heap.size := lt_of_heap (hg15.heap hb1 (fun q => q))
  have lcb5 : cb < w5.heap.size := lt_of_heap (hg15.heap hc1 (fun q => q))
  -- behind a fault
  have tailE : ∀ (code info : Nat) (rb : Nat) (v : World) (old : Array Value), ¬ (c.prot = 0 ∧ ∀ i (hi : i < ((bs.drop c.lba).take c.blocks).length), chkB kind c.prot (c.lba + i) ((bs.drop c.lba).take c.blocks)[i] = 0) → Grow w5 v → Blk v rb old t_api_Result → old.size = 10 → w5.heap.size ≤ rb →
      cmpTail dv cb ab told K ⟨rb, 0, none⟩ nilS (rsv 2 (atS 11 code info) nilS).toArray false v := fun code info rb v old hnot hgv hbr ho hrb =>
    lay_rule hbr ho fun v2 hb2 hk2 _ => br_t rfl ⟨_, rLoad (blk_cells hb2), by
      have hg2' : Grow w5 v2 := hgv.keep hk2 fun i hi q => by omega
      have hab2 := (hg15.trans hg2').heap hb1 (fun q => q)
      refine ret_rule hab2 rfl fun v3 hk3 => ?_
      have hgw2 := hgw5.trans hg2'
      have hD2 : Keep D w v3 := keepD_new (hgw2.mono fun _ _ q => q.elim) (by omega) hk3
      exact k2 hnot code info v3 0 hD2 (isW_new (h.isW.grow hgw2) hab2 tne_result nab hk3) (Nat.zero_le _)⟩
  -- behind blocks that are right
  have tailG : ∀ (xs1 : Sl) (rb : Nat) (v : World) (old : Array Value), Grow w5 v → Blk v rb old t_api_Result → old.size = 10 → w5.heap.size ≤ rb → (xs1.blk ≠ some rb) → Own v w.heap.size t_api_Block 19 xs1 ((cameB kind c (l.drop H) c.blocks).flatMap bc) →
      cmpTail dv cb ab told K ⟨rb, 0, none⟩ xs1 (rsv 0 sn0 nilS).toArray true v := fun xs1 rb v old hgv hbr ho hrb hxr hown1 =>
    lay_rule hbr ho fun v2 hb2 hk2 _ => br_f rfl (by
      have hg2' : Grow w5 v2 := hgv.keep hk2 fun i hi q => by omega
      have hg1' := hg15.trans hg2'
      have hgw2 := hgw5.trans hg2'
      have hc2 := hg1'.heap hc1 (fun q => q)
      have ha2 := hg1'.heap hb1 (fun q => q)
      have hown2 : Own v2 w.heap.size t_api_Block 19 xs1 ((cameB kind c (l.drop H) c.blocks).flatMap bc) := hown1.keep hk2 fun b hbb q => hxr (by rw [hbb, q])
      have htold2 := hown5.grow hg2'
      have h2 := h.grow hgw2
      have nrb : ¬ D rb := fun q => by have := lD _ q; have := hgw5.size; omega
      have sw2 := hgw2.size
      have sw5 := hgw5.size
      refine ⟨_, cLoad (blk_cells hc2), dev_read_spec h2 (by omega) hc (fun hchk xs2 v3 hk3 hr3 hown3 => ?_) (fun i hi hz v3 hk3 hr3 => ?_)⟩
      · have hkD3 : Keep D w v3 := (hgw2.mono fun _ _ q => q.elim).trans hk3 fun _ _ q => q
        have ro : ∀ {x : Sl} {L : List Bk}, Own v2 w.heap.size t_api_Block 19 x (L.flatMap bc) → Own v3 w.heap.size t_api_Block 19 x (L.flatMap bc) := fun ho => ho.keep hk3 fun b hbb q => by
          have := (ho.ge b hbb).1
          have := lD _ q
          omega
        refine lay_rule (hk3.heap hb2 nrb) rfl fun v4 hb4 hk4 _ => br_f rfl ?_
        have ro4 : ∀ {x : Sl} {L : List Bk}, Own v3 w.heap.size t_api_Block 19 x (L.flatMap bc) → Own v4 w.heap.size t_api_Block 19 x (L.flatMap bc) := fun ho => ho.keep hk4 fun b hbb q => own_ne ho (hk3.heap hb2 nrb) (by decide) (by rw [hbb, q])
        have hkD4 : Keep D w v4 := keepD_new hkD3 (by omega) hk4
        have hw4 : IsW v4 pw D { st with ops := st.ops + c.blocks } := isW_new (hr3.isW h2.isW) (hk3.heap hb2 nrb) tne_result nrb hk4
        have o2 := ro4 (hown3.mono sw2)
        have oT := ro4 (ro htold2)
        have oX := ro4 (ro hown2)
        have ha4 : Blk v4 ab z10 t_api_Result := hk4.heap (hk3.heap ha2 nab) (by omega)
        have hc4 : Blk v4 cb (cmv c).toArray t_api_Cmd := hk4.heap (hk3.heap hc2 ncb) (by omega)
        have rdo : ∀ {y : World} {x : Sl} {L : List Bk}, L.length ≤ 4096 → Own y w.heap.size t_api_Block 19 x (L.flatMap bc) → Rd y 19 x (L.flatMap bc) := fun hL ho => ho.rd (by have := ho.len; rw [flat_bc_len] at this; omega)
        refine differ_spec (rdo (by omega) o2) (rdo (by omega) oT) (by omega) (by omega) (by omega) fun v5 hg5 => ?_
        have hkD5 := hkD4.grow hg5
        cases hf : firstNe (packB false ((bs.drop c.lba).take c.blocks)) (packB false (unpB wt (l.take H))) with
        | some i =>
          have hil : i < 65536 + 1 := by
            have := List.mem_of_find?_eq_some hf
            rw [List.mem_range, packB_len] at this
            have e16 : szB false = 16 := rfl
            rw [e16] at this
            omega
          rw [dif_some hf]
          refine br_t (by rw [decide_eq_true_eq]; omega) ?_
          rw [wu64 (by omega) (by omega)]
          refine at_spec (key := 14) (code := 0x1d00) (info := i) fun v6 hg6 => ?_
          have ha6 := (hg5.trans hg6).heap ha4 (fun q => q)
          refine ret_rule ha6 rfl fun v7 hk7 => ?_
          exact k4 hl2 i hf v7 (keepD_new (hkD5.grow hg6) (by omega) hk7) (isW_new ((hw4.grow hg5).grow hg6) ha6 tne_result nab hk7)
        | none =>
          rw [dif_none hf]
          have hc5 := hg5.heap hc4 (fun q => q)
          refine br_f (by rw [decide_eq_false_iff_not]; omega) ⟨(c.lba : Int), by rw [add0, Blk.cell hc5]; rfl, c.fua, by rw [add0, Blk.cell hc5]; rfl, ?_⟩
          have hVl : (cameB kind c (l.drop H) c.blocks).length = c.blocks := cameB_len (by rw [hwt, hl1]; exact hdm.2)
          have hd5 : Dv v5 dv ps pw file kind n cache D { st with ops := st.ops + c.blocks } bs (m + c.blocks) := h.ops hkD5 (hw4.grow hg5)
          have oX5 := oX.grow hg5
          have s5 := hkD5.size
          refine dev_write_spec (L := cameB kind c (l.drop H) c.blocks) hd5 (by omega) (by omega) (fun y hy => rdo (by omega) (oX5.keep hy fun b hbb q => by
            have := (oX5.ge b hbb).1
            have := lD _ q
            omega)) fun v6 D6 hk6 hd6 hD6 => ?_
          rw [hVl] at hd6
          have ha6 : Blk v6 ab z10 t_api_Result := hk6.heap (hg5.heap ha4 (fun q => q)) nab
          have nab6 : ¬ D6 ab := fun q => by
            rcases hD6 _ q with r | r
            · exact nab r
            · have := lt_of_heap (hg5.heap ha4 (fun q => q)); omega
          refine ret_rule (st := 0) (s := sn0) (d := nilS) ha6 rfl fun v7 hk7 => ?_
          refine k5 hl2 hf v7 D6 (keepD_new (hkD5.trans hk6 fun _ _ q => q) (by omega) hk7) (hd6.put ha6 tne_result (by decide) (by decide) nab6 hk7) fun k q => ?_
          rcases hD6 k q with r | r
          · exact .inl r
          · exact .inr (by omega)
      · refine lay_rule (hk3.heap hb2 nrb) rfl fun v4 hb4 hk4 _ => br_t rfl ⟨_, rLoad (blk_cells hb4), ?_⟩
        have hkD3 : Keep D w v3 := (hgw2.mono fun _ _ q => q.elim).trans hk3 fun _ _ q => q
        have ha4 : Blk v4 ab z10 t_api_Result := hk4.heap (hk3.heap ha2 nab) (by omega)
        refine ret_rule ha4 rfl fun v5 hk5 => ?_
        exact k2 (fun q => hz (q.2 i hi)) _ _ v5 c.blocks (keepD_new (keepD_new hkD3 (by omega) hk4) (by omega) hk5) (isW_new (isW_new (hr3.isW h2.isW) (hk3.heap hb2 nrb) tne_result nrb hk4) ha4 tne_result nab hk5) (Nat.le_refl _))
  have come : ∀ (v : World) (hgv : Grow w5 v) (R : Sl → Array Value → Bool → World → Prop), (∀ code info v2, ¬ (c.prot = 0 ∧ ∀ i (hi : i < ((bs.drop c.lba).take c.blocks).length), chkB kind c.prot (c.lba + i) ((bs.drop c.lba).take c.blocks)[i] = 0) → Grow v v2 → R nilS (rsv 2 (atS 11 code info) nilS).toArray false v2) →
      (∀ xs v2, Grow v v2 → Own v2 v.heap.size t_api_Block 19 xs ((cameB kind c (l.drop H) c.blocks).flatMap bc) → R xs (rsv 0 sn0 nilS).toArray true v2) →
      Csbc_Dev_come (some ⟨dv, 0, none⟩) (cmv c).toArray ⟨cutA p.A p.c H 1, p.n - H, p.c - H⟩ (c.blocks : Int) v R := by
    intro v hgv R hE hG
    refine dev_come_spec (N := c.blocks) (h5.grow hgv).dev (hcut1 v (hgw5.trans hgv)) (by show p.n - H ≤ _; omega) (by omega) (by omega) (fun q => ?_) (fun q1 q2 q3 xs v2 hv2 ho => ?_) (fun q1 q2 q3 q4 xs v2 hv2 ho => ?_) (fun q1 q2 q3 i hi hz hall v2 hv2 => hE _ _ v2 (fun q => q3 q.1) hv2)
    · exfalso
      rw [hwt, hl1] at q
      rcases q with q | q
      · exact q hdm.1
      · exact q hdm.2
    · refine hG xs v2 hv2 ?_
      unfold cameB; rw [if_pos q3]; exact ho
    · refine hG xs v2 hv2 ?_
      unfold cameB; rw [if_neg q3]; exact ho
  refine ⟨?_, ?_⟩
  · refine come w5 (Keep.refl _ _) _ (fun code info v2 hnot hv2 => ?_) (fun xs v2 hv2 ho => ?_)
    · refine new_rule fun rb v3 hrb hb3 hg3' hsz3 => ⟨hg15.trans (hv2.trans hg3'), ?_⟩
      exact tailE code info rb v3 _ hnot (hv2.trans hg3') hb3 rfl (by have := hv2.size; omega)
    · refine new_rule fun rb v3 hrb hb3 hg3' hsz3 => ⟨hg15.trans (hv2.trans hg3'), ?_⟩
      exact tailG xs rb v3 _ (hv2.trans hg3') hb3 rfl (by have := hv2.size; omega) (fun q => by have := (ho.ge _ q).2; omega) ((ho.grow hg3').mono hgw5.size)
  · refine new_rule fun rb v3 hrb hb3 hg3' hsz3 => ⟨hg15.trans hg3', ?_⟩
    refine come v3 hg3' _ (fun code info v2 hnot hv2 => ?_) (fun xs v2 hv2 ho => ?_)
    · exact tailE code info rb v2 _ hnot (hg3'.trans hv2) (hv2.heap hb3 (fun q => q)) rfl (by omega)
    · exact tailG xs rb v2 _ (hg3'.trans hv2) (hv2.heap hb3 (fun q => q)) rfl (by omega) (fun q => by have := (ho.ge _ q).1; omega) (ho.mono (hgw5.trans hg3').size)
end
end Go.Proofs.YtaneeadpjelomaaDoor

/- Layer 14: the law of COMPARE AND WRITE. -/
namespace Go.Proofs.YtaneeadpjelomaaDoor
open Go CF

section
variable {w u u' v v' : World} {dv ps pw : Nat} {file : ByteArray} {kind n : Nat} {cache : Bool} {D D' : Nat → Prop} {st st' : Wst} {bs bs' : List Bk} {m m' : Nat} {ls : List (Nat × List Value × TypeId)} {rows : List (Sl × L8)}
theorem Lw.compare (L : Lw w u dv ps pw file kind n cache D st bs m ls rows) (hm : m ≤ 900000) {c : Cm} {p : Sl} {l : L8} {K : Array Value → World → Prop} (hk : c.kind = 14) (hp0 : c.prot = 0) (hc : c.lba + c.blocks ≤ n) (hp : Rd u 1 p (bv l)) (hl : l.length = 2 * (16 * c.blocks)) (hf : Fine kind bs)
    (h : ∀ s sn v D' st' B', Lw w v dv ps pw file kind n cache D' st' B' (m + c.blocks + c.blocks + 1) ls rows →
      ((s = 0 ∧ sn = sn0 ∧ firstNe (packB false ((bs.drop c.lba).take c.blocks)) (l.take (16 * c.blocks)) = none ∧ B' = setAll bs c.lba (mkAll kind c.lba (unpB false (l.drop (16 * c.blocks))) c.blocks) c.blocks) ∨
        ∃ i, s = 2 ∧ sn = atS 14 0x1d00 i ∧ firstNe (packB false ((bs.drop c.lba).take c.blocks)) (l.take (16 * c.blocks)) = some i ∧ B' = bs) → K (rsv s sn nilS).toArray v) :
    Csbc_Dev_Do (some ⟨dv, 0, none⟩) (cmv c).toArray p u K := by
  have hsz := L.dvs.size
  have hkd := L.dvs.kd
  have hln := rd_n' hp
  have hkn : knownB kind c.prot = true := by unfold knownB; rw [hp0]; simp [hkd]
  have e0 : decide (c.prot ≠ 0) = false := by simpa using hp0
  have e16 : szB false = 16 := rfl
  refine do_spec L.dvs (by omega) hp (by omega) (by omega) (by omega) (fun q => by rw [hkn] at q; cases q) (fun _ _ _ q => by omega) (fun _ q => by omega) (fun _ q => by omega) (fun _ q => by omega) (fun _ q => by omega) (fun _ q => by omega) (fun _ q => by omega)
    (fun _ _ ab y hy hab hby => ⟨fun q => by omega, fun q => by omega, fun q => by omega, fun _ => ?_, fun q => by omega⟩) (fun _ _ _ _ _ _ _ _ a _ => by omega)
  have hun : packB false (unpB (decide (c.prot ≠ 0)) (l.take (16 * c.blocks))) = l.take (16 * c.blocks) := by rw [e0]; exact unpB_bytes (by rw [List.length_take]; omega)
  refine dev_compare_spec (H := 16 * c.blocks) (L.dvs.grow hy) hm (hp.grow hy) (by omega) hc (by rw [e0, e16]) (fun q => absurd hl q) (fun q => absurd ⟨hp0, fun i hi => fine_part hf i hi c.prot⟩ q) (fun _ i hi z hz hw => ⟨hz, 2, _, nilS, rfl, fun v' hv' => ?_⟩) (fun _ hno z D2 hz hd hD2 => ⟨hz, 0, sn0, nilS, rfl, fun v' hv' => ?_⟩)
  · rw [hun] at hi
    refine h 2 _ v' D _ bs (L.fin hy hby hab hz (((L.dvs.grow hy).ops hz hw).mono (by omega)) (fun _ q => .inl q) hv') (.inr ⟨i, rfl, rfl, hi, rfl⟩)
  · rw [hun] at hno
    have hcame : cameB kind c (l.drop (16 * c.blocks)) c.blocks = mkAll kind c.lba (unpB false (l.drop (16 * c.blocks))) c.blocks := by unfold cameB; rw [if_pos hp0]
    rw [hcame] at hd
    exact h 0 _ v' D2 _ _ (L.fin hy hby hab hz hd hD2 hv') (.inl ⟨rfl, rfl, hno, rfl⟩)
end
end Go.Proofs.YtaneeadpjelomaaDoor

/- Layer 14: the law of blocks taken away. -/
namespace Go.Proofs.YtaneeadpjelomaaDoor
open Go CF

theorem fine_un {kind F k : Nat} {bs : List Bk} (h : Fine kind bs) (hF : F + k ≤ bs.length) : Fine kind (setAll bs F [] k) := fun i hi prot => by
  have hi' : i < bs.length := by rw [setAll_len] at hi; exact hi
  have e := setAll_get bs F [] k hF i hi'
  rw [List.getElem?_eq_getElem hi] at e
  split at e
  · rw [Option.some.inj e]
    exact fine_empty _ _ _
  · rw [List.getElem?_eq_getElem hi'] at e
    rw [Option.some.inj e]
    exact h i hi' prot
theorem packB_getD : ∀ {bs : List Bk} {i : Nat}, i < 16 * bs.length → (packB false bs).getD i 0 = ((bs[i / 16]?).getD emptyB).d.getD (i % 16) 0
  | [], i, h => by simp at h
  | b :: r, i, h => by
    have hd := b.hd
    have e : packB false (b :: r) = b.d ++ packB false r := by simp [packB, wireB]
    rw [e]
    rw [List.length_cons] at h
    by_cases q : i < 16
    · rw [List.getD_eq_getElem?_getD, List.getElem?_append_left (by omega), show i / 16 = 0 by omega, show i % 16 = i by omega, List.getD_eq_getElem?_getD]; rfl
    · have ih := packB_getD (bs := r) (i := i - 16) (by omega)
      rw [List.getD_eq_getElem?_getD, List.getElem?_append_right (by omega), hd, ← List.getD_eq_getElem?_getD, ih, show (i - 16) % 16 = i % 16 by omega]
      have : i / 16 = (i - 16) / 16 + 1 := by omega
      rw [this]; rfl
theorem empty_getD (j : Nat) : emptyB.d.getD j 0 = 0 := by
  have e : emptyB.d = List.replicate 16 0 := rfl
  rw [e, List.getD_eq_getElem?_getD, List.getElem?_replicate]
  split <;> rfl
theorem un_getD {bs : List Bk} {F k i : Nat} (hF : F + k ≤ bs.length) (hi : i < 16 * bs.length) : (packB false (setAll bs F [] k)).getD i 0 = if 16 * F ≤ i ∧ i < 16 * (F + k) then 0 else (packB false bs).getD i 0 := by
  rw [packB_getD (by rw [setAll_len]; exact hi), setAll_get _ _ _ _ hF _ (by omega)]
  by_cases q : 16 * F ≤ i ∧ i < 16 * (F + k)
  · rw [if_pos (by omega), if_pos q]; exact empty_getD _
  · rw [if_neg (by omega), if_neg q, packB_getD hi]
def unQ (at_ k : Nat) : L8 := [0, 22, 0, 16, 0, 0, 0, 0, 0, 0, 0, 0, 0, 0, 0, UInt8.ofNat at_, 0, 0, 0, UInt8.ofNat k, 0, 0, 0, 0]
theorem unQ_lit' (w : World) (a b : UInt8) : (Instr.buildSlice 22 24 #[(0, .int .u8 0), (1, .int .u8 22), (2, .int .u8 0), (3, .int .u8 16), (4, .int .u8 0), (5, .int .u8 0), (6, .int .u8 0), (7, .int .u8 0), (8, .int .u8 0), (9, .int .u8 0), (10, .int .u8 0), (11, .int .u8 0), (12, .int .u8 0), (13, .int .u8 0), (14, .int .u8 0), (15, .int .u8 (a.toNat : Int)), (16, .int .u8 0), (17, .int .u8 0), (18, .int .u8 0), (19, .int .u8 (b.toNat : Int)), (20, .int .u8 0), (21, .int .u8 0), (22, .int .u8 0), (23, .int .u8 0)]).run Tryd.prog w = .ok (.slice (some ⟨w.heap.size, 0, none⟩) 24 24) (w.alloc (.cells (bv [0, 22, 0, 16, 0, 0, 0, 0, 0, 0, 0, 0, 0, 0, 0, a, 0, 0, 0, b, 0, 0, 0, 0]).toArray t_uint8)) := by kernel_rfl
theorem unQ_lit (w : World) {A N : Nat} (hA : A < 256) (hN : N < 256) : (Instr.buildSlice 22 24 #[(0, .int .u8 0), (1, .int .u8 22), (2, .int .u8 0), (3, .int .u8 16), (4, .int .u8 0), (5, .int .u8 0), (6, .int .u8 0), (7, .int .u8 0), (8, .int .u8 0), (9, .int .u8 0), (10, .int .u8 0), (11, .int .u8 0), (12, .int .u8 0), (13, .int .u8 0), (14, .int .u8 0), (15, .int .u8 (A : Int)), (16, .int .u8 0), (17, .int .u8 0), (18, .int .u8 0), (19, .int .u8 (N : Int)), (20, .int .u8 0), (21, .int .u8 0), (22, .int .u8 0), (23, .int .u8 0)]).run Tryd.prog w = .ok (.slice (some ⟨w.heap.size, 0, none⟩) 24 24) (w.alloc (.cells (bv (unQ A N)).toArray t_uint8)) := by
  have h := unQ_lit' w (UInt8.ofNat A) (UInt8.ofNat N)
  rw [UInt8.toNat_ofNat', UInt8.toNat_ofNat', Nat.mod_eq_of_lt hA, Nat.mod_eq_of_lt hN] at h
  exact h
end Go.Proofs.YtaneeadpjelomaaDoor

/- Layer 15: the law of copies that go well. -/
namespace Go.Proofs.YtaneeadpjelomaaDoor
open Go CF

theorem packB_cons (b : Bk) (r : List Bk) : packB false (b :: r) = b.d ++ packB false r := by simp [packB, wireB]
theorem packB_drop : ∀ (bs : List Bk) (F : Nat), packB false (bs.drop F) = (packB false bs).drop (16 * F)
  | bs, 0 => by simp
  | [], F + 1 => by simp [packB]
  | b :: r, F + 1 => by
    have hd := b.hd
    rw [List.drop_succ_cons, packB_drop r F, packB_cons, Nat.mul_succ, Nat.add_comm, ← List.drop_drop, List.drop_append, List.drop_of_length_le (l := b.d) (by omega), hd, List.nil_append]
    rfl
theorem packB_take : ∀ (bs : List Bk) (F : Nat), packB false (bs.take F) = (packB false bs).take (16 * F)
  | bs, 0 => by simp [packB]
  | [], F + 1 => by simp [packB]
  | b :: r, F + 1 => by
    have hd := b.hd
    rw [List.take_succ_cons, packB_cons, packB_take r F, packB_cons, List.take_append, List.take_of_length_le (l := b.d) (by omega), hd, show 16 * (F + 1) - 16 = 16 * F by omega]
theorem packB_zero : ∀ n : Nat, packB false (List.replicate n emptyB) = List.replicate (16 * n) 0
  | 0 => rfl
  | n + 1 => by
    rw [List.replicate_succ, packB_cons, packB_zero n, Nat.mul_succ, Nat.add_comm, ← List.replicate_append_replicate]
    rfl
/-- a device's blocks behind a write of K blocks from its beginning on -/
def B0 (kind K : Nat) (P : L8) : List Bk := setAll e32 0 (mkAll kind 0 (unpB false P) K) K
theorem b0_len (kind K : Nat) (P : L8) : (B0 kind K P).length = 32 := by unfold B0; rw [setAll_len]; rfl
theorem b0_pack {kind K : Nat} {P : L8} (hP : P.length = 16 * K) (hK : K ≤ 32) : packB false (B0 kind K P) = P ++ List.replicate (16 * (32 - K)) 0 := by
  have hmk := mk_len (kind := kind) (lba := 0) (N := K) (l := P) hP
  have e := setAll_eq (bs := e32) (xs := mkAll kind 0 (unpB false P) K) (F := 0) (by rw [hmk]; show 0 + K ≤ 32; omega)
  rw [hmk] at e
  unfold B0
  rw [e, List.take_zero, List.nil_append, packB_append, mk_bytes (by rw [hP]; omega), Nat.zero_add]
  congr 1
  unfold e32
  rw [List.drop_replicate, packB_zero]
theorem b0_part {kind K F C : Nat} {P : L8} (hP : P.length = 16 * K) (hK : K ≤ 32) (hF : F + C ≤ K) : packB false (((B0 kind K P).drop F).take C) = (P.drop (16 * F)).take (16 * C) := by
  rw [packB_take, packB_drop, b0_pack hP hK, List.drop_append_of_le_length (by omega), List.take_append_of_le_length (by rw [List.length_drop]; omega)]
theorem fine_b0 {kind K : Nat} {P : L8} (hP : P.length = 16 * K) (hK : K ≤ 32) : Fine kind (B0 kind K P) := by
  have hmk := mk_len (kind := kind) (lba := 0) (N := K) (l := P) hP
  have := fine_set (fine_rep kind 32) (F := 0) (xs := mkAll kind 0 (unpB false P) K) (by rw [hmk, List.length_replicate]; omega) (fine_mk (by rw [unpB_len, hP]; show 16 * K / 16 = K; omega))
  rwa [hmk] at this
theorem cp_pack {b0 b1 : List Bk} {x : SegX} {M : L8} {C : Nat} (hl : b1.length = 32) (hC : x.blocks.toNat = C) (hM : packB false ((b0.drop x.src).take C) = M) (hMl : M.length = 16 * C) (hT : x.dst + C ≤ 32) :
    packB false (cpB b0 b1 x) = (packB false b1).take (16 * x.dst) ++ M ++ (packB false b1).drop (16 * (x.dst + C)) := by
  unfold cpB
  rw [hC, hM]
  have hmk := mk_len (kind := 1) (lba := x.dst) (N := C) (l := M) hMl
  have e := setAll_eq (bs := b1) (xs := mkAll 1 x.dst (unpB false M) C) (F := x.dst) (by rw [hmk]; omega)
  rw [hmk] at e
  rw [e, packB_append, packB_append, mk_bytes (by rw [hMl]; omega), packB_take, packB_drop]
/-- what is read of a device whose first blocks were written -/
theorem write_first {w : World} {pw : Nat} {dv ps : Nat → Nat} {D : Nat → Prop} {K : Nat} {p : Sl} {P : L8} {S : World → Prop} {Q : Addr → World → Prop} (T : Pw w pw dv ps D st0 e32 e32 0) (hK : 1 ≤ K ∧ K ≤ 32) (hp : Rd w 1 p (bv P)) (hP : P.length = 16 * K) (hS : ∀ v, Keep D w v → S v)
    (h : ∀ D' st' m' rb v, Keep D w v → (∀ k, D' k → D k ∨ w.heap.size ≤ k) → Pw v pw dv ps D' st' (B0 0 K P) e32 m' → m' ≤ 40 → Blk v rb (rsv 0 sn0 nilS).toArray t_api_Result → ¬ D' rb → w.heap.size ≤ rb → Q ⟨rb, 0, none⟩ v) :
    (Csbc_Dev_Do (some ⟨dv 0, 0, none⟩) (cmv (wrC 0 K)).toArray p w fun g w1 => New (.cells z10 t_api_Result) w1 fun r w2 => S w2 ∧ RunU Tryd.prog (storeVar t_api_Result r (.agg g)) w2 fun w3 => Q r w3) ∧
    (New (.cells z10 t_api_Result) w fun r w1 => S w1 ∧ Csbc_Dev_Do (some ⟨dv 0, 0, none⟩) (cmv (wrC 0 K)).toArray p w1 fun g w2 => RunU Tryd.prog (storeVar t_api_Result r (.agg g)) w2 fun w3 => Q r w3) := by
  have lD : ∀ k, D k → k < w.heap.size := fun k q => T.a.isW.lt q
  refine do_new2 D lD (fun u s sn d v => s = 0 ∧ sn = sn0 ∧ d = nilS ∧ Keep D u v ∧ ∃ D' st' m', (∀ k, D' k → D k ∨ u.heap.size ≤ k) ∧ Pw v pw dv ps D' st' (B0 0 K P) e32 m' ∧ m' ≤ 40) (fun u hu Q' hQ' => ?_) (fun u s sn d v _ hp => hp.2.2.2.1) hS ?_
  · have Tu := T.grow hu
    refine Tu.a.write0 (by decide) (c := wrC 0 K) (.inl rfl) rfl (by show 0 + K ≤ 32; omega) (hp.grow hu) hP fun v D' hk hDD hdv => ?_
    refine hQ' 0 sn0 nilS v ⟨rfl, rfl, rfl, hk, D', _, _, hDD, ⟨hdv, Tu.b.beside hk hdv hDD (by rw [cont_syncIf]; exact cont_layW_ne (by decide) _)⟩, by show 0 + K + 1 ≤ 40; omega⟩
  · rintro u s sn d v rb v' hu ⟨rfl, rfl, rfl, hk, D', st', m', hDD, hP', hm⟩ hside hb hrb hkv hor
    have nrb : ¬ D' rb := fun q => by
      rcases hor with e | e
      · rcases hDD _ q with r | r
        · have := lD _ r; omega
        · omega
      · have := hP'.a.isW.lt q; omega
    have su := hu.size
    refine h D' st' m' rb v' hkv (fun k q => ?_) ⟨hside.dv hP'.a nrb, hside.dv hP'.b nrb⟩ hm hb nrb hrb
    rcases hDD k q with r | r
    · exact .inl r
    · exact .inr (by omega)
set_option maxHeartbeats 1000000 in
theorem xcopyMoves_spec {p : Sl} {lp : L8} {SRC DST N : Nat} {w : World} {R : Bool → World → Prop} (hp : Rd w 1 p (bv lp)) (hS : SRC < 256) (hD : DST < 256) (hN : N < 256) (h : ∀ w', Grow w w' → R true w') :
    Cpalletlaw15_XcopyMoves p (SRC : Int) (DST : Int) (N : Int) w R := by
  refine Fpalletlaw15_XcopyMoves.calls _ _ _ _ _ _ ?_
  unfold Fpalletlaw15_XcopyMoves
  have hln := rd_n' hp
  have hcap := hp.cap
  have hnb := hp.nb
  have eA : mn (IntKind.wrap .i64 ((p.n : Int).tdiv 16)) 32 = ((min (p.n / 16) 32 : Nat) : Int) := by
    have : ((p.n : Int).tdiv 16) = ((p.n / 16 : Nat) : Int) := rfl
    rw [this, w64 (by omega) (by omega)]
    exact mn_nat (p.n / 16) 32
  have hKle : min (p.n / 16) 32 ≤ 32 ∧ 16 * min (p.n / 16) 32 ≤ p.n := by omega
  rw [eA]
  generalize min (p.n / 16) 32 = K at *
  refine awake15_spec fun w0 hg0 => br_f rfl ?_
  refine pair_spec fun xs xs1 pw p1 dv ps D w1 hg1 T hD1 hxs hxD => ⟨by decide, ?_⟩
  have g1 := hg0.trans hg1
  by_cases hK0 : K = 0
  · exact br_t (by rw [hK0]; rfl) (h w1 g1)
  have eS : ((IntKind.wrap .i64 (SRC : Int)).tmod (K : Int)) = ((SRC % K : Nat) : Int) := by rw [w64 (by omega) (by omega)]; rfl
  rw [eS]
  have hF : SRC % K < K := Nat.mod_lt _ (by omega)
  generalize SRC % K = F at *
  have eKF : IntKind.wrap .i64 (IntKind.wrap .i64 ((K : Int) - (F : Int)) + 1) = ((K - F + 1 : Nat) : Int) := by rw [w64 (n := (K : Int) - (F : Int)) (by omega) (by omega), w64 (by omega) (by omega)]; omega
  rw [eKF]
  have eC : ((IntKind.wrap .i64 (N : Int)).tmod ((K - F + 1 : Nat) : Int)) = ((N % (K - F + 1) : Nat) : Int) := by rw [w64 (by omega) (by omega)]; rfl
  rw [eC]
  have hC : N % (K - F + 1) < K - F + 1 := Nat.mod_lt _ (by omega)
  generalize N % (K - F + 1) = C at *
  have e33 : IntKind.wrap .i64 (33 - (C : Int)) = ((33 - C : Nat) : Int) := by rw [w64 (by omega) (by omega)]; omega
  rw [e33]
  have eT : ((IntKind.wrap .i64 (DST : Int)).tmod ((33 - C : Nat) : Int)) = ((DST % (33 - C) : Nat) : Int) := by rw [w64 (by omega) (by omega)]; rfl
  rw [eT]
  have hT : DST % (33 - C) < 33 - C := Nat.mod_lt _ (by omega)
  generalize DST % (33 - C) = TO at *
  have x1 : IntKind.wrap .i64 (16 * (K : Int)) = ((16 * K : Nat) : Int) := by rw [w64 (by omega) (by omega)]; omega
  have x2 : IntKind.wrap .i64 (16 * (TO : Int)) = ((16 * TO : Nat) : Int) := by rw [w64 (by omega) (by omega)]; omega
  have x3 : IntKind.wrap .i64 (16 * (C : Int)) = ((16 * C : Nat) : Int) := by rw [w64 (by omega) (by omega)]; omega
  have x4 : IntKind.wrap .i64 (16 * (F : Int)) = ((16 * F : Nat) : Int) := by rw [w64 (by omega) (by omega)]; omega
  have x5 : IntKind.wrap .u64 (K : Int) = (K : Int) := wu64 (by omega) (by omega)
  have x6 : IntKind.wrap .u64 (F : Int) = (F : Int) := wu64 (by omega) (by omega)
  have x7 : IntKind.wrap .u64 (TO : Int) = (TO : Int) := wu64 (by omega) (by omega)
  rw [x1, x2, x3, x4, x5, x6, x7]
  refine br_f (by rw [beq_eq_false_iff_ne]; omega) ⟨by omega, by omega, by omega, ?_⟩
  have hxn : xs.n = 2 := by have := hxs.len; rw [flat_length (fun j => nmv_len _), List.length_range] at this; omega
  have hxr := hxs.rd (by omega)
  have lD := fun k (q : D k) => T.a.isW.lt q
  rintro w2 rfl
  have hg2 := keep_drew w1
  have T2 := T.grow hg2
  have nxs : ∀ a, xs.A = some a → ¬ D a.block := fun a ha => hxD a.block (by simp [Sl.blk, ha])
  have hxk : ∀ {v : World}, Keep D w1.drew v → Rd v 3 xs ((List.range 2).flatMap fun j => nmv (nm j, dv j, 0)) := fun k => (hxr.grow hg2).keep k fun a ha _ => nxs a ha
  have sg0 := hg0.size
  have hpk : ∀ {v : World}, Keep D w1.drew v → Rd v 1 p (bv lp) := fun k => hp.keep (keep_grow_first (g1.trans hg2) k) fun a _ hlt q => by have := hD1 _ q; omega
  have k0 : Keep D w1.drew w1.drew := Keep.mono (Keep.refl (fun _ => False) _) fun _ _ q => q.elim
  have cdev : ∀ {v : World}, Keep D w1.drew v → xs.A.isSome = true ∧ v.cell? (((gA xs.A).add ((0 : Int).toNat * 3)).add 1) = some (.pointer (some ⟨dv 0, 0, none⟩)) ∧ v.cell? (((gA xs.A).add ((1 : Int).toNat * 3)).add 1) = some (.pointer (some ⟨dv 1, 0, none⟩)) := fun k => by
    have hx := hxk k
    obtain ⟨e1, e2⟩ := rd_str (f := fun j => nmv (nm j, dv j, 0)) (fun j => nmv_len _) (by decide) hx (i := 0) (by decide)
    obtain ⟨_, e3⟩ := rd_str (f := fun j => nmv (nm j, dv j, 0)) (fun j => nmv_len _) (by decide) hx (i := 1) (by decide)
    exact ⟨e1, e2 1 _ rfl, e3 1 _ rfl⟩
  have hxA := (cdev k0).1
  refine ⟨fun v => Keep D w1.drew v, k0, ⟨by decide, by omega, hxA⟩, some ⟨dv 0, 0, none⟩, fun v hv => (cdev hv).2.1, ⟨by decide, by omega, by omega, hcap⟩, ?_⟩
  rw [Int.toNat_natCast]
  have hcut : ∀ {v : World}, Keep D w1.drew v → Rd v 1 ⟨cutA p.A p.c 0 1, 16 * K - 0, p.c - 0⟩ (bv (lp.take (16 * K))) := fun k => by
    have := (hpk k).cutB (l := 0) (k := 16 * K) (Nat.zero_le _) (by omega)
    rw [List.drop_zero, Nat.sub_zero] at this
    exact this
  have hPl : (lp.take (16 * K)).length = 16 * K := by rw [List.length_take]; omega
  have hPg : ∀ i, i < 16 * K → (lp.take (16 * K)).getD i 0 = lp.getD i 0 := fun i hi => by rw [List.getD_eq_getElem?_getD, List.getD_eq_getElem?_getD, List.getElem?_take, if_pos hi]
  generalize lp.take (16 * K) = P at *
  refine write_first T2 (by omega) (hcut k0) hPl (fun v hv => hv) fun D3 st3 m3 wb w3 hk3 hDD3 T3 hm3 hwb3 nwb _ => ?_
  have s3 := hk3.size
  refine lit_rule (cells := #[.string s_a, .string s_b]) (e := t_string) (z := 1) (base := w3.heap.size) (two_lit _ _ _) rfl (by decide) (Nat.le_refl _) fun w4 hlit4 hg4 hsz4 => ?_
  refine lit_rule (cells := (sgv ⟨0, 1, (C : Int), F, TO⟩).toArray) (e := t_xcopy_Seg) (z := 5) (base := w4.heap.size) (seg_lit _ ⟨0, 1, (C : Int), F, TO⟩) rfl (by decide) (Nat.le_refl _) fun w5 hlit5 hg5 hsz5 => ?_
  have hg35 := hg4.trans hg5
  have T5 := T3.grow hg35
  have k5 : Keep D w1.drew w5 := hk3.grow hg35
  have hU5 : Rd w5 1 ⟨some ⟨w3.heap.size, 0, none⟩, 2, 2⟩ (strsV [[97], [98]]) := (hlit4.grow hg5).rd (by show 2 ≤ _; decide)
  have hS5 : Rd w5 5 ⟨some ⟨w4.heap.size, 0, none⟩, 1, 1⟩ ([(⟨0, 1, (C : Int), F, TO⟩ : SegX)].flatMap sgv) := by simpa using hlit5.rd (by show 1 ≤ _; decide)
  have lD3 := fun k (q : D3 k) => T3.a.isW.lt q
  have nx3 : ∀ a, xs.A = some a → ¬ D3 a.block := fun a ha q => by
    rcases hDD3 _ q with e | e
    · exact nxs a ha e
    · obtain ⟨a', ha', hc⟩ := (hxk k0).at_ (fun q => by have := congrArg List.length q; rw [flat_length (fun j => nmv_len _), List.length_range] at this; exact absurd this (by decide))
      rw [ha] at ha'
      obtain rfl := Option.some.inj ha'
      have := cell_lt (hc 0 _ rfl)
      rw [add_block] at this
      omega
  have hgood : SegGood ⟨0, 1, (C : Int), F, TO⟩ := ⟨⟨rfl, by show (0 : Int) ≤ (C : Int); omega, by show F + (C : Int).toNat ≤ 32; omega⟩, rfl, by show TO + (C : Int).toNat ≤ 32; omega⟩
  refine run15_spec (U := ⟨some ⟨w3.heap.size, 0, none⟩, 2, 2⟩) (S := ⟨some ⟨w4.heap.size, 0, none⟩, 1, 1⟩) (n0 := 1) (code := 0) T5 (by omega) hU5 hS5 (hxk k5) (fun a ha q => by injection ha with ha; subst ha; have := lD3 _ q; simp at this) (fun a ha q => by injection ha with ha; subst ha; have := lD3 _ q; simp at this; omega) nx3
    (by decide) rfl rfl (fun s hs => by cases hs) (by show 1 ≤ 8; decide) (fine_b0 hPl (by omega)) (fine_rep 1 32) (Nat.le_refl 1) (fun i hi _ => by
      have : i = 0 := by simp at hi; omega
      subst this; exact hgood) (fun q => absurd q (Nat.lt_irrefl 1)) fun w6 D6 st6 m6 hm6 hk6 hDD6 T6 hf6 => ?_
  have er : resX [(⟨0, 1, (C : Int), F, TO⟩ : SegX)] 1 0 = rsv 0 sn0 nilS := if_pos rfl
  have ec : cpN (B0 0 K P) e32 [(⟨0, 1, (C : Int), F, TO⟩ : SegX)] 1 = cpB (B0 0 K P) e32 ⟨0, 1, (C : Int), F, TO⟩ := rfl
  rw [ec] at T6 hf6
  rw [er]
  have hpk6 := cp_pack (b0 := B0 0 K P) (b1 := e32) (x := ⟨0, 1, (C : Int), F, TO⟩) (C := C) rfl (by show (C : Int).toNat = C; omega) (b0_part (F := F) (C := C) hPl (by omega) (by omega)) (by rw [List.length_take, List.length_drop]; omega) (by show TO + C ≤ 32; omega)
  have hcl := cpB_len (B0 0 K P) e32 ⟨0, 1, (C : Int), F, TO⟩
  generalize cpB (B0 0 K P) e32 ⟨0, 1, (C : Int), F, TO⟩ = B1 at *
  have hcl : B1.length = 32 := hcl
  have s5 := hg35.size
  have k6 : Keep D w1.drew w6 := k5.trans hk6 fun i hi q => by
    rcases hDD3 i q with e | e
    · exact e
    · omega
  have nwb6 : ¬ D6 wb := fun q => by
    rcases hDD6 _ q with e | e
    · exact nwb e
    · have := lt_of_heap (hg35.heap hwb3 (fun q => q)); omega
  have hwb6 : Blk w6 wb (rsv 0 sn0 nilS).toArray t_api_Result := hk6.heap (hg35.heap hwb3 (fun q => q)) nwb
  refine res_new fun rb w7 hrb hg7 hb7 => ⟨⟨by decide, by omega, hxA⟩, some ⟨dv 1, 0, none⟩, (cdev (k6.grow hg7)).2.2, ?_⟩
  have T7 := T6.grow hg7
  have lD6 := fun k (q : D6 k) => T6.a.isW.lt q
  have nrb : ¬ D6 rb := fun q => by have := lD6 _ q; omega
  have sub6 : ∀ i, i < w1.drew.heap.size → D6 i → D i := fun i hi q => by
    have s6 := k5.size
    rcases hDD6 i q with e | e
    · rcases hDD3 i e with e | e
      · exact e
      · omega
    · omega
  have T7b : Dv w7 (dv 1) (ps 1) pw s_b 1 32 true D6 st6 B1 m6 := T7.b
  refine T7b.read (by omega) (c := rdC 0 32) rfl rfl (by decide) (rd_nilB _) (by decide) hf6 fun d1 w8 hk8 hr8 hv8 hdn8 hown8 => ?_
  have k8 : Keep D w1.drew w8 := (k6.grow hg7).trans hk8 sub6
  refine res_new fun lb w9 hlb hg9 hb9 => ⟨⟨by decide, by omega, hxA⟩, some ⟨dv 0, 0, none⟩, (cdev (k8.grow hg9)).2.1, ?_⟩
  have T9a : Dv w9 (dv 0) (ps 0) pw s_a 0 32 true D6 { st6 with ops := st6.ops + 32 } (B0 0 K P) (m6 + 32) := (T7.a.ops hk8 (hr8.isW T7.a.isW)).grow hg9
  have nlb : ¬ D6 lb := fun q => by have := hv8.isW.lt q; omega
  refine T9a.read (by omega) (c := rdC 0 K) rfl rfl (by show 0 + K ≤ 32; omega) (rd_nilB _) (by decide) (fine_b0 hPl (by omega)) fun d2 w10 hk10 hr10 hv10 hdn10 hown10 => ?_
  have k10 : Keep D w1.drew w10 := (k8.grow hg9).trans hk10 sub6
  refine res_new fun ob w11 hob hg11 hb11 => ?_
  rintro w12 rfl
  have hg12 := keep_drew w11
  have k79 : Keep D6 w7 w9 := hk8.grow hg9
  have bw : Blk w11 wb (rsv 0 sn0 nilS).toArray t_api_Result := hg11.heap (hk10.heap (k79.heap (hg7.heap hwb6 (fun q => q)) nwb6) nwb6) (fun q => q)
  have br_ : Blk w11 rb (rsv 0 sn0 nilS).toArray t_api_Result := hg11.heap (hk10.heap (k79.heap hb7 nrb) nrb) (fun q => q)
  have bl : Blk w11 lb (rsv 0 sn0 d1).toArray t_api_Result := hg11.heap (hk10.heap hb9 nlb) (fun q => q)
  have hd2 : ∀ {v : World}, Grow w11 v → Rd v 1 d2 (bv P) := fun g => by
    have e : packB (decide ((rdC 0 K).prot ≠ 0)) (((B0 0 K P).drop (rdC 0 K).lba).take (rdC 0 K).blocks) = P := by
      show packB false (((B0 0 K P).drop 0).take K) = P
      rw [b0_part (F := 0) (C := K) hPl (by omega) (by omega), Nat.mul_zero, List.drop_zero, List.take_of_length_le (by omega)]
    rw [e] at hown10
    exact ((hown10.grow hg11).grow g).rd (by rw [own_n' hown10]; omega)
  have hd1 : ∀ {v : World}, Grow w11 v → Rd v 1 d1 (bv (packB false B1)) := fun g => by
    have e : packB (decide ((rdC 0 32).prot ≠ 0)) ((B1.drop (rdC 0 32).lba).take (rdC 0 32).blocks) = packB false B1 := by
      show packB false ((B1.drop 0).take 32) = _
      rw [List.drop_zero, List.take_of_length_le (by omega)]
    rw [e] at hown8
    have hr := (hown8.grow hg9).rd (by rw [hdn8]; decide)
    refine ((hr.keep hk10 fun a ha _ q => ?_).grow hg11).grow g
    have h1 := (hown8.ge a.block (by simp [Sl.blk, ha])).1
    have := T7.a.isW.lt q
    omega
  have k11 : Keep D w1.drew w11 := k10.grow hg11
  have hd1n : d1.n = 512 := hdn8
  have g12 := hg12
  have hc9 : ∀ {v : World}, Grow w11 v → v.cell? ((⟨lb, 0, none⟩ : Addr).add 9) = some (.slice d1.A d1.n d1.c) := fun g => by rw [add0, Blk.cell (g.heap bl (fun q => q))]; rfl
  refine ⟨fun v => Grow w11 v, g12, 0, fun v hv => by rw [add0, Blk.cell (hv.heap bw (fun q => q))]; rfl, 0, fun _ v hv => by rw [add0, Blk.cell (hv.heap br_ (fun q => q))]; rfl, d1, fun _ v hv => hc9 hv, d2, fun _ v hv => by rw [add0, Blk.cell (hv.heap hb11 (fun q => q))]; rfl,
    str P, fun _ v hv => convStr_rule u_sl_uint8 u_uint8 u_string (hd2 hv), fun _ => ⟨by decide, by omega, by omega, hcap⟩, str P, fun _ v hv => convStr_rule (s := ⟨cutA p.A p.c 0 1, 16 * K - 0, p.c - 0⟩) u_sl_uint8 u_uint8 u_string (hcut (k11.grow hv)), ?_⟩
  refine br_f (by rw [hd1n, sEq_str]; simp) ?_
  have gw : Grow w w11 := (g1.trans hg2).keep k11 fun i hi q => by have := hD1 _ q; omega
  have hpb : packB false B1 = List.replicate (16 * TO) 0 ++ (P.drop (16 * F)).take (16 * C) ++ List.replicate (512 - 16 * (TO + C)) 0 := by
    rw [hpk6]
    have e0 : packB false e32 = List.replicate 512 0 := packB_zero 32
    rw [e0, List.take_replicate, List.drop_replicate, show min (16 * TO) 512 = 16 * TO by omega]
  have hgt : ∀ i, i < 512 → (packB false B1).getD i 0 = if 16 * TO ≤ i ∧ i < 16 * TO + 16 * C then lp.getD (16 * F + (i - 16 * TO)) 0 else 0 := fun i hi => by
    have hml : ((P.drop (16 * F)).take (16 * C)).length = 16 * C := by rw [List.length_take, List.length_drop]; omega
    have hz : ∀ (n i : Nat), (List.replicate n (0 : UInt8)).getD i 0 = 0 := fun n i => by rw [List.getD_eq_getElem?_getD, List.getElem?_replicate]; split <;> rfl
    rw [hpb, List.append_assoc]
    by_cases q1 : i < 16 * TO
    · rw [if_neg (by omega), List.getD_eq_getElem?_getD, List.getElem?_append_left (by rw [List.length_replicate]; exact q1), ← List.getD_eq_getElem?_getD, hz]
    · rw [List.getD_eq_getElem?_getD, List.getElem?_append_right (by rw [List.length_replicate]; omega), List.length_replicate]
      by_cases q2 : i < 16 * TO + 16 * C
      · rw [if_pos ⟨by omega, q2⟩, List.getElem?_append_left (by rw [hml]; omega), List.getElem?_take, if_pos (by omega), List.getElem?_drop, ← List.getD_eq_getElem?_getD, hPg _ (by omega)]
      · rw [if_neg (by omega), List.getElem?_append_right (by rw [hml]; omega), ← List.getD_eq_getElem?_getD, hz]
  have hpl : (packB false B1).length = 512 := by rw [packB_len, hcl]; rfl
  refine ⟨fun i v => ∃ j : Nat, i = j ∧ j ≤ 512 ∧ Grow w11 v, fun i _ => 512 - i.toNat, ⟨0, rfl, Nat.zero_le _, g12⟩, ?_⟩
  rintro i v ⟨j, rfl, hj, hgv⟩
  refine br_nat (y := 512) (fun hlt => ?_) (fun hge => h v (gw.trans hgv))
  refine letX0 (fun z => z = v) (fun z hz => by
    subst hz
    rw [w64 (by omega) (by omega)]
    exact ⟨⟨j + 1, by omega, by omega, hgv⟩, by dsimp only; omega⟩) (fun J => ?_)
  refine letX1 (fun (x : Int) z => z = v ∧ x = ((packB false B1).getD j 0).toNat) ?_ (fun J1 => ?_)
  · rintro x z ⟨rfl, rfl⟩
    obtain ⟨aD, cD⟩ := rd_at (hd1 hgv) (i := j) (by omega)
    exact ⟨d1, hc9 hgv, ⟨by omega, by omega, aD⟩, _, by rw [Int.toNat_natCast]; exact cD, br_f (by rw [bne_eq_false_iff_eq]) (J _ rfl)⟩
  · rw [w64 (n := (j : Int) - ((16 * TO : Nat) : Int)) (by omega) (by omega)]
    by_cases hin : 16 * TO ≤ j ∧ j < 16 * TO + 16 * C
    · refine br_t (by rw [Bool.and_eq_true, decide_eq_true_eq, decide_eq_true_eq]; omega) ?_
      have ei : IntKind.wrap .i64 (((16 * F : Nat) : Int) + ((j : Int) - ((16 * TO : Nat) : Int))) = ((16 * F + (j - 16 * TO) : Nat) : Int) := by rw [w64 (by omega) (by omega)]; omega
      rw [ei]
      obtain ⟨aP, cP⟩ := rd_at (hpk (k11.grow hgv)) (i := 16 * F + (j - 16 * TO)) (by omega)
      refine ⟨⟨by omega, by omega, aP⟩, _, by rw [Int.toNat_natCast]; exact cP, J1 _ _ ⟨rfl, ?_⟩⟩
      rw [hgt j (by omega), if_pos hin]
    · refine br_f (by rw [Bool.and_eq_false_iff, decide_eq_false_iff_not, decide_eq_false_iff_not]; omega) (J1 _ _ ⟨rfl, ?_⟩)
      rw [hgt j (by omega), if_neg hin]; rfl
theorem xcopyMoves_row {p : Sl} {lp : L8} {x y z : Int} {w : World} {R : Bool → World → Prop} (hp : Rd w 1 p (bv lp)) (hx : (Lit.int .u8 x).wf = true) (hy : (Lit.int .u8 y).wf = true) (hz : (Lit.int .u8 z).wf = true) (h : ∀ w', Grow w w' → R true w') :
    Cpalletlaw15_XcopyMoves p x y z w R := by
  obtain ⟨A, rfl, hA⟩ := int_u8 hx
  obtain ⟨B, rfl, hB⟩ := int_u8 hy
  obtain ⟨C, rfl, hC⟩ := int_u8 hz
  exact xcopyMoves_spec hp hA hB hC h
end Go.Proofs.YtaneeadpjelomaaDoor

/- Layer 15: the law of copies that stop. -/
namespace Go.Proofs.YtaneeadpjelomaaDoor
open Go CF

/-- the segments of the law: the k-th can't be done -/
def stS (k : Nat) (shut : Bool) (i : Nat) : SegX := ⟨0, if i = k ∧ shut = true then 2 else 1, 1, i, if i = k ∧ shut = false then 32 else i⟩
def stL (k : Nat) (shut : Bool) (n : Nat) : List SegX := (List.range n).map (stS k shut)
theorem stL_len (k : Nat) (shut : Bool) (n : Nat) : (stL k shut n).length = n := by simp [stL]
theorem stL_succ (k : Nat) (shut : Bool) (n : Nat) : (stL k shut (n + 1)).flatMap sgv = (stL k shut n).flatMap sgv ++ sgv (stS k shut n) := by simp [stL, List.range_succ]
theorem stL_get {k n i : Nat} {shut : Bool} (hi : i < (stL k shut n).length) : (stL k shut n)[i] = stS k shut i := by simp [stL]
theorem three_lit (w : World) (s t r : ByteArray) : (Instr.buildSlice t_sl_string 3 #[(0, .string s), (1, .string t), (2, .string r)]).run Tryd.prog w = .ok (.slice (some ⟨w.heap.size, 0, none⟩) 3 3) (w.alloc (.cells #[.string s, .string t, .string r] t_string)) := by kernel_rfl
/-- what is there behind j copies -/
theorem st_pack {P : L8} (hP : P.length = 128) {k : Nat} {shut : Bool} (hk : k < 8) : ∀ j, j ≤ k → packB false (cpN (B0 0 8 P) e32 (stL k shut 8) j) = P.take (16 * j) ++ List.replicate (512 - 16 * j) 0
  | 0, _ => by
    show packB false e32 = _
    rw [show packB false e32 = List.replicate 512 0 from packB_zero 32, Nat.mul_zero, List.take_zero, List.nil_append, Nat.sub_zero]
  | j + 1, hj => by
    have ih := st_pack hP hk (shut := shut) j (by omega)
    have hl := cpN_len (B0 0 8 P) e32 (stL k shut 8) j
    have hl : (cpN (B0 0 8 P) e32 (stL k shut 8) j).length = 32 := hl
    have hst : stS k shut j = ⟨0, 1, 1, j, j⟩ := by
      unfold stS
      rw [if_neg (by omega), if_neg (by omega)]
    have e : cpN (B0 0 8 P) e32 (stL k shut 8) (j + 1) = cpB (B0 0 8 P) (cpN (B0 0 8 P) e32 (stL k shut 8) j) ⟨0, 1, 1, j, j⟩ := by
      show (match (stL k shut 8)[j]? with | some x => cpB (B0 0 8 P) (cpN (B0 0 8 P) e32 (stL k shut 8) j) x | none => cpN (B0 0 8 P) e32 (stL k shut 8) j) = _
      rw [List.getElem?_eq_getElem (by rw [stL_len]; omega), stL_get, hst]
    rw [e, cp_pack (C := 1) hl rfl (b0_part (kind := 0) (F := j) (C := 1) (by rw [hP]) (by decide) (by omega)) (by rw [List.length_take, List.length_drop]; omega) (by show j + 1 ≤ 32; omega), ih]
    show (P.take (16 * j) ++ List.replicate (512 - 16 * j) 0).take (16 * j) ++ (P.drop (16 * j)).take (16 * 1) ++ (P.take (16 * j) ++ List.replicate (512 - 16 * j) 0).drop (16 * (j + 1)) = _
    have l1 : (P.take (16 * j)).length = 16 * j := by rw [List.length_take]; omega
    rw [List.take_append_of_le_length (by omega), List.take_of_length_le (by omega), ← List.take_add, List.drop_append, List.drop_of_length_le (by omega), List.nil_append, l1, List.drop_replicate]
    congr 2
    omega
set_option maxHeartbeats 1000000 in
theorem xcopyStops_spec {p : Sl} {lp : L8} {BAD : Nat} {shut : Bool} {w : World} {R : Bool → World → Prop} (hp : Rd w 1 p (bv lp)) (hB : BAD < 256) (h : ∀ w', Grow w w' → R true w') : Cpalletlaw15_XcopyStops p (BAD : Int) shut w R := by
  refine Fpalletlaw15_XcopyStops.calls _ _ _ _ _ ?_
  unfold Fpalletlaw15_XcopyStops
  have hln := rd_n' hp
  have hcap := hp.cap
  have hnb := hp.nb
  have eB : ((IntKind.wrap .i64 (BAD : Int)).tmod 8) = ((BAD % 8 : Nat) : Int) := by rw [w64 (by omega) (by omega)]; rfl
  rw [eB]
  have hk8 : BAD % 8 < 8 := Nat.mod_lt _ (by decide)
  generalize BAD % 8 = k at *
  refine awake15_spec fun w0 hg0 => ?_
  by_cases h128 : p.n < 128
  · exact br_t (by rw [Bool.or_eq_true, decide_eq_true_eq]; omega) (awake15_spec fun w1 hg1 => h w1 (hg0.trans hg1))
  refine br_f (by rw [Bool.or_eq_false_iff, decide_eq_false_iff_not]; exact ⟨rfl, by omega⟩) ?_
  refine pair_spec fun xs xs1 pw p1 dv ps D w1 hg1 T hD1 hxs hxD => ?_
  have g1 := hg0.trans hg1
  have hxn : xs.n = 2 := by have := hxs.len; rw [flat_length (fun j => nmv_len _), List.length_range] at this; omega
  have hxr := hxs.rd (by omega)
  have lD := fun k (q : D k) => T.a.isW.lt q
  rintro w2 rfl
  have hg2 := keep_drew w1
  have T2 := T.grow hg2
  have nxs : ∀ a, xs.A = some a → ¬ D a.block := fun a ha => hxD a.block (by simp [Sl.blk, ha])
  have hxk : ∀ {v : World}, Keep D w1.drew v → Rd v 3 xs ((List.range 2).flatMap fun j => nmv (nm j, dv j, 0)) := fun k => (hxr.grow hg2).keep k fun a ha _ => nxs a ha
  have sg0 := hg0.size
  have hpk : ∀ {v : World}, Keep D w1.drew v → Rd v 1 p (bv lp) := fun k => hp.keep (keep_grow_first (g1.trans hg2) k) fun a _ hlt q => by have := hD1 _ q; omega
  have k0 : Keep D w1.drew w1.drew := Keep.mono (Keep.refl (fun _ => False) _) fun _ _ q => q.elim
  have cdev : ∀ {v : World}, Keep D w1.drew v → xs.A.isSome = true ∧ v.cell? (((gA xs.A).add ((0 : Int).toNat * 3)).add 1) = some (.pointer (some ⟨dv 0, 0, none⟩)) ∧ v.cell? (((gA xs.A).add ((1 : Int).toNat * 3)).add 1) = some (.pointer (some ⟨dv 1, 0, none⟩)) := fun k => by
    have hx := hxk k
    obtain ⟨e1, e2⟩ := rd_str (f := fun j => nmv (nm j, dv j, 0)) (fun j => nmv_len _) (by decide) hx (i := 0) (by decide)
    obtain ⟨_, e3⟩ := rd_str (f := fun j => nmv (nm j, dv j, 0)) (fun j => nmv_len _) (by decide) hx (i := 1) (by decide)
    exact ⟨e1, e2 1 _ rfl, e3 1 _ rfl⟩
  have hxA := (cdev k0).1
  refine ⟨fun v => Keep D w1.drew v, k0, ⟨by decide, by omega, hxA⟩, some ⟨dv 0, 0, none⟩, fun v hv => (cdev hv).2.1, ⟨by decide, by decide, by omega, hcap⟩, ?_⟩
  have hcut : Rd w1.drew 1 ⟨cutA p.A p.c 0 1, 128 - 0, p.c - 0⟩ (bv (lp.take 128)) := by
    have := (hpk k0).cutB (l := 0) (k := 128) (Nat.zero_le _) (by omega)
    rw [List.drop_zero, Nat.sub_zero] at this
    exact this
  have hPl : (lp.take 128).length = 128 := by rw [List.length_take]; omega
  have hPg : ∀ i, i < 128 → (lp.take 128).getD i 0 = lp.getD i 0 := fun i hi => by rw [List.getD_eq_getElem?_getD, List.getD_eq_getElem?_getD, List.getElem?_take, if_pos hi]
  generalize lp.take 128 = P at *
  refine write_first (K := 8) T2 (by decide) hcut hPl (fun v hv => hv) fun D3 st3 m3 wb w3 hk3 hDD3 T3 hm3 hwb3 nwb _ => ?_
  have s3 := hk3.size
  refine lit_rule (cells := #[.string s_a, .string s_b, .string s_c]) (e := t_string) (z := 1) (base := w3.heap.size) (three_lit _ _ _ _) rfl (by decide) (Nat.le_refl _) fun w4 hlit4 hg4 hsz4 => ?_
  refine new_rule fun lb w5 hlb hb5 hg5 hsz5 => ?_
  refine storeVar_rule (cells := lsv ⟨some ⟨w3.heap.size, 0, none⟩, 3, 3⟩ nilS) hb5 i_xcopy_List rfl rfl (by simp [lsv, Value.oneCell']) fun w6 hb6 hk6 hsz6 => ⟨by decide, ?_⟩
  have hg46 : Grow w4 w6 := hg5.keep hk6 fun i hi q => by omega
  have hg36 := hg4.trans hg46
  refine ⟨fun i v => ∃ (j : Nat) (S : Sl), i = j ∧ j ≤ 8 ∧ Grow w4 v ∧ Keep (fun k => k = lb) w6 v ∧ Blk v lb (lsv ⟨some ⟨w3.heap.size, 0, none⟩, 3, 3⟩ S) t_xcopy_List ∧ Own v w6.heap.size t_xcopy_Seg 5 S ((stL k shut j).flatMap sgv), fun i _ => 8 - i.toNat,
    ⟨0, nilS, rfl, Nat.zero_le _, hg46, Keep.refl _ _, hb6, own_nil _ _ _ _⟩, ?_⟩
  rintro i v ⟨j, S, rfl, hj, hg4v, hk6v, hbl, hS⟩
  have llb := lt_of_heap hb6
  have hSn : S.n = j := by have := hS.len; rw [flat_len5, stL_len] at this; omega
  refine br_nat (y := 8) (fun hlt => ?_) (fun hge => ?_)
  · refine letX0 (fun y => ∃ S : Sl, Grow w4 y ∧ Keep (fun k => k = lb) w6 y ∧ Blk y lb (lsv ⟨some ⟨w3.heap.size, 0, none⟩, 3, 3⟩ S) t_xcopy_List ∧ Own y w6.heap.size t_xcopy_Seg 5 S ((stL k shut (j + 1)).flatMap sgv)) ?_ (fun J => ?_)
    · rintro y ⟨S', q1, q2, q3, q4⟩
      rw [w64 (by omega) (by omega)]
      exact ⟨⟨j + 1, S', by omega, by omega, q1, q2, q3, q4⟩, by dsimp only; omega⟩
    refine new_rule fun xb v1 hxb hbx1 hgx1 hszx1 => ?_
    rw [wu64 (n := (j : Int)) (by omega) (by omega)]
    refine storeVar_rule (cells := (sgv ⟨0, 1, 1, j, j⟩).toArray) hbx1 i_xcopy_Seg rfl rfl (by simp [sgv, Value.oneCell']) fun v2 hbx2 hkx2 hszx2 => ?_
    have hgv2 : Grow v v2 := hgx1.keep hkx2 fun i hi q => by omega
    refine letX0 (fun y => Grow v y ∧ Blk y xb (sgv (stS k shut j)).toArray t_xcopy_Seg) ?_ (fun J1 => ?_)
    · rintro y ⟨hgy, hby⟩
      have hbly := hgy.heap hbl (fun q => q)
      refine ⟨S, by rw [add0, Blk.cell hbly]; rfl, _, segLoad (blk_cells hby), ?_⟩
      refine lit_rule (cells := (sgv (stS k shut j)).toArray) (e := t_xcopy_Seg) (z := 5) (base := y.heap.size) (seg_lit _ _) rfl (by decide) (Nat.le_refl _) fun y1 hlit hgy1 _ => ?_
      have g1 := hgy.trans hgy1
      refine append_rule u_sl_xcopy_Seg i_xcopy_Seg rfl (by decide) (by decide) (hS.grow g1) (hlit.rd (by show 1 ≤ _; decide)) (fun v hv => sgv_ones [stS k shut j] v (by simpa using hv)) (by show (S.n + 1) * 40 ≤ _; omega) (by have := hk6v.size; have := g1.size; omega) fun S1 y2 hn2 hown2 hk2 _ => ?_
      have sb : ∀ b, S.blk = some b → b ≠ lb := fun b hb e => by have := (hS.ge b hb).1; omega
      have sb1 : ∀ b, S1.blk = some b → b ≠ lb := fun b hb e => by have := (hown2.ge b hb).1; omega
      have hbl2 : Blk y2 lb (lsv ⟨some ⟨w3.heap.size, 0, none⟩, 3, 3⟩ S) t_xcopy_List := hk2.heap (hgy1.heap hbly (fun q => q)) fun e => sb lb e.symm rfl
      rw [add0]
      refine put_rule hbl2 (by show 1 < 2; decide) rfl fun y3 hb3 hk3' _ => ?_
      have s46 := hg46.size
      have s5 := hg5.size
      have hg4y2 : Grow w4 y2 := (hg4v.trans g1).keep hk2 fun i hi q => by have := (hS.ge i q.symm).1; omega
      refine J y3 ⟨S1, hg4y2.keep hk3' fun i hi q => by omega, ((hk6v.grow g1).trans hk2 fun i hi q => by have := (hS.ge i q.symm).1; omega).trans hk3' fun _ _ q => q, hb3, ?_⟩
      rw [stL_succ]
      exact hown2.keep hk3' fun b hb e => sb1 b hb e
    · have ej : ((j : Int) == (k : Int)) = decide (j = k) := by rw [Bool.eq_iff_iff, beq_iff_eq, decide_eq_true_eq]; omega
      rw [ej]
      by_cases q : j = k
      · subst q
        cases shut with
        | true =>
          refine br_t (by simp) ?_
          rw [add0]
          refine put_rule hbx2 (by show 1 < 5; decide) rfl fun v3 hb3 hk3' _ => J1 v3 ⟨hgv2.keep hk3' fun i hi q => by omega, ?_⟩
          have e : stS j true j = ⟨0, 2, 1, j, j⟩ := by unfold stS; rw [if_pos ⟨rfl, rfl⟩, if_neg (by simp)]
          rw [e]; exact hb3
        | false =>
          refine br_f (by simp) (br_t (by simp) ?_)
          rw [add0]
          refine put_rule hbx2 (by show 4 < 5; decide) rfl fun v3 hb3 hk3' _ => J1 v3 ⟨hgv2.keep hk3' fun i hi q => by omega, ?_⟩
          have e : stS j false j = ⟨0, 1, 1, j, 32⟩ := by unfold stS; rw [if_neg (by simp), if_pos ⟨rfl, rfl⟩]
          rw [e]; exact hb3
      · refine br_f (by simp [q]) (br_f (by simp [q]) (J1 v2 ⟨hgv2, ?_⟩))
        have e : stS k shut j = ⟨0, 1, 1, j, j⟩ := by unfold stS; rw [if_neg (by omega), if_neg (by omega)]
        rw [e]; exact hbx2
  · have hj8 : j = 8 := by omega
    subst hj8
    refine ⟨_, lLoad hbl, ?_⟩
    have hg3v := hg4.trans hg4v
    have T5 := T3.grow hg3v
    have k5 : Keep D w1.drew v := hk3.grow hg3v
    have hU5 : Rd v 1 ⟨some ⟨w3.heap.size, 0, none⟩, 3, 3⟩ (strsV [[97], [98], [99]]) := (hlit4.grow hg4v).rd (by show 3 ≤ _; decide)
    have hS5 : Rd v 5 S ((stL k shut 8).flatMap sgv) := hS.rd (by omega)
    have lD3 := fun k (q : D3 k) => T3.a.isW.lt q
    have nx3 : ∀ a, xs.A = some a → ¬ D3 a.block := fun a ha q => by
      rcases hDD3 _ q with e | e
      · exact nxs a ha e
      · obtain ⟨a', ha', hc⟩ := (hxk k0).at_ (fun q => by have := congrArg List.length q; rw [flat_length (fun j => nmv_len _), List.length_range] at this; exact absurd this (by decide))
        rw [ha] at ha'
        obtain rfl := Option.some.inj ha'
        have := cell_lt (hc 0 _ rfl)
        rw [add_block] at this
        omega
    have hR : ∀ i, i < 8 → SegR (stS k shut i) := fun i hi => ⟨rfl, by show (0 : Int) ≤ 1; decide, by show i + 1 ≤ 32; omega⟩
    have s36 := hg36.size
    refine run15_spec (U := ⟨some ⟨w3.heap.size, 0, none⟩, 3, 3⟩) (S := S) (n0 := k) (code := if shut then 3330 else 8448) T5 (by omega) hU5 hS5 (hxk k5) (fun a ha q => by injection ha with ha; subst ha; have := lD3 _ q; simp at this) (fun a ha q => by
        have h1 := (hS.ge a.block (by simp [Sl.blk, ha])).1
        have := lD3 _ q; omega) nx3
      (by decide) rfl rfl (fun s hs => by injection hs with hs; subst hs; exact ⟨by decide, by decide⟩) (by rw [stL_len]; decide) (fine_b0 (by rw [hPl]) (by decide)) (fine_rep 1 32) (by rw [stL_len]; omega) (fun i hi hik => by
        have hi8 : i < 8 := by rw [stL_len] at hi; exact hi
        rw [stL_get]
        exact ⟨hR i hi8, by show (if i = k ∧ shut = true then (2 : Int) else 1) = 1; rw [if_neg (by omega)], by show (if i = k ∧ shut = false then 32 else i) + 1 ≤ 32; rw [if_neg (by omega)]; omega⟩)
      (fun hlt => by
        rw [stL_get]
        refine ⟨hR k hk8, ?_⟩
        cases shut with
        | true => exact .inl ⟨by show (if k = k ∧ true = true then (2 : Int) else 1) = 2; rw [if_pos ⟨rfl, rfl⟩], rfl⟩
        | false => exact .inr ⟨by show (if k = k ∧ false = true then (2 : Int) else 1) = 1; rw [if_neg (by simp)], by show 32 < (if k = k ∧ false = false then 32 else k) + 1; rw [if_pos ⟨rfl, rfl⟩]; decide, by show (if k = k ∧ false = false then 32 else k) < _; rw [if_pos ⟨rfl, rfl⟩]; decide, rfl⟩) fun w6' D6 st6 m6 hm6 hk6' hDD6 T6 hf6 => ?_
    have er : resX (stL k shut 8) k (if shut then 3330 else 8448) = rsv 2 (atS 10 (if shut then 3330 else 8448) k) nilS := by unfold resX; rw [stL_len, if_neg (by omega)]
    rw [er]
    have hpk6 := st_pack (shut := shut) hPl hk8 k (Nat.le_refl _)
    have hcl := cpN_len (B0 0 8 P) e32 (stL k shut 8) k
    generalize cpN (B0 0 8 P) e32 (stL k shut 8) k = B1 at *
    have hcl : B1.length = 32 := hcl
    generalize hcode : (if shut = true then 3330 else 8448) = code at *
    have hcs : code < 65536 := by subst hcode; split <;> decide
    have s3v := hg3v.size
    have k6 : Keep D w1.drew w6' := k5.trans hk6' fun i hi q => by
      rcases hDD3 i q with e | e
      · exact e
      · omega
    have nwb6 : ¬ D6 wb := fun q => by
      rcases hDD6 _ q with e | e
      · exact nwb e
      · have := lt_of_heap (hg3v.heap hwb3 (fun q => q)); omega
    have hwb6 : Blk w6' wb (rsv 0 sn0 nilS).toArray t_api_Result := hk6'.heap (hg3v.heap hwb3 (fun q => q)) nwb
    refine res_new fun rb w7 hrb hg7 hb7 => ?_
    have T7 := T6.grow hg7
    have lD6 := fun k (q : D6 k) => T6.a.isW.lt q
    have nrb : ¬ D6 rb := fun q => by have := lD6 _ q; omega
    have sub6 : ∀ i, i < w1.drew.heap.size → D6 i → D i := fun i hi q => by
      have s6 := k5.size
      rcases hDD6 i q with e | e
      · rcases hDD3 i e with e | e
        · exact e
        · omega
      · omega
    have hbw7 := hg7.heap hwb6 (fun q => q)
    refine letX1 (fun (c : Int) y => y = w7 ∧ c = (code : Int)) ?_ (fun J => ?_)
    case refine_2 =>
      cases shut with
      | true => exact br_t rfl (J _ _ ⟨rfl, by rw [← hcode]; rfl⟩)
      | false => exact br_f rfl (J _ _ ⟨rfl, by rw [← hcode]; rfl⟩)
    rintro c y ⟨rfl, rfl⟩
    refine ⟨0, by rw [add0, Blk.cell hbw7]; rfl, 2, fun _ => by rw [add0, Blk.cell hb7]; rfl, 10, fun _ => by rw [addr_add, add0, Blk.cell hb7]; rfl, (code : Int), fun _ => by rw [addr_add, add0, Blk.cell hb7]; rfl, (k : Int), fun _ => by rw [addr_add, add0, Blk.cell hb7]; rfl, ?_⟩
    refine br_f (by rw [w64 (by omega) (by omega)]; simp) ⟨⟨by decide, by omega, hxA⟩, some ⟨dv 1, 0, none⟩, (cdev (k6.grow hg7)).2.2, ?_⟩
    have T7b : Dv y (dv 1) (ps 1) pw s_b 1 32 true D6 st6 B1 m6 := T7.b
    refine T7b.read (by omega) (c := rdC 0 8) rfl rfl (by decide) (rd_nilB _) (by decide) hf6 fun d1 w8 hk8' hr8 hv8 hdn8 hown8 => ?_
    have k8 : Keep D w1.drew w8 := (k6.grow hg7).trans hk8' sub6
    refine res_new fun ob w9 hob hg9 hb9 => ?_
    have hd1n : d1.n = 128 := hdn8
    refine ⟨d1, by rw [add0, Blk.cell hb9]; rfl, br_f (by rw [hd1n]; rfl) ?_⟩
    have e8 : packB (decide ((rdC 0 8).prot ≠ 0)) ((B1.drop (rdC 0 8).lba).take (rdC 0 8).blocks) = P.take (16 * k) ++ List.replicate (128 - 16 * k) 0 := by
      show packB false ((B1.drop 0).take 8) = _
      rw [List.drop_zero, packB_take, hpk6]
      have l1 : (P.take (16 * k)).length = 16 * k := by rw [List.length_take]; omega
      rw [List.take_append, List.take_of_length_le (by omega), l1, List.take_replicate]
      congr 2
      omega
    rw [e8] at hown8
    have hd1 : ∀ {z : World}, Grow w9 z → Rd z 1 d1 (bv (P.take (16 * k) ++ List.replicate (128 - 16 * k) 0)) := fun g => ((hown8.grow hg9).grow g).rd (by omega)
    have gw : Grow w w9 := (g1.trans hg2).keep (k8.grow hg9) fun i hi q => by have := hD1 _ q; omega
    have hgt : ∀ i, i < 128 → (P.take (16 * k) ++ List.replicate (128 - 16 * k) 0).getD i 0 = if i < 16 * k then lp.getD i 0 else 0 := fun i hi => by
      have l1 : (P.take (16 * k)).length = 16 * k := by rw [List.length_take]; omega
      by_cases q : i < 16 * k
      · rw [if_pos q, List.getD_eq_getElem?_getD, List.getElem?_append_left (by omega), List.getElem?_take, if_pos q, ← List.getD_eq_getElem?_getD, hPg i hi]
      · rw [if_neg q, List.getD_eq_getElem?_getD, List.getElem?_append_right (by omega), List.getElem?_replicate]
        split <;> rfl
    have hdl : (P.take (16 * k) ++ List.replicate (128 - 16 * k) 0).length = 128 := by rw [List.length_append, List.length_take, List.length_replicate]; omega
    have e16 : IntKind.wrap .i64 (16 * (k : Int)) = ((16 * k : Nat) : Int) := by rw [w64 (by omega) (by omega)]; omega
    rw [e16]
    refine ⟨fun i z => ∃ j : Nat, i = j ∧ j ≤ 128 ∧ Grow w9 z, fun i _ => 128 - i.toNat, ⟨0, rfl, Nat.zero_le _, Keep.refl _ _⟩, ?_⟩
    rintro i z ⟨j, rfl, hj, hgz⟩
    refine br_nat (y := 128) (fun hlt => ?_) (fun hge => h z (gw.trans hgz))
    refine letX0 (fun y => y = z) (fun y hy => by
      subst hy
      rw [w64 (by omega) (by omega)]
      exact ⟨⟨j + 1, by omega, by omega, hgz⟩, by dsimp only; omega⟩) (fun J => ?_)
    refine letX1 (fun (x : Int) y => y = z ∧ x = ((P.take (16 * k) ++ List.replicate (128 - 16 * k) 0).getD j 0).toNat) ?_ (fun J1 => ?_)
    · rintro x y ⟨rfl, rfl⟩
      obtain ⟨aD, cD⟩ := rd_at (hd1 hgz) (i := j) (by omega)
      exact ⟨d1, by rw [add0, Blk.cell (hgz.heap hb9 (fun q => q))]; rfl, ⟨by omega, by omega, aD⟩, _, by rw [Int.toNat_natCast]; exact cD, br_f (by rw [bne_eq_false_iff_eq]) (J _ rfl)⟩
    · refine br_nat (fun hin => ?_) (fun hin => J1 _ _ ⟨rfl, by rw [hgt j (by omega), if_neg hin]; rfl⟩)
      obtain ⟨aP, cP⟩ := rd_at (hpk ((k8.grow hg9).grow hgz)) (i := j) (by omega)
      exact ⟨⟨by omega, by omega, aP⟩, _, by rw [Int.toNat_natCast]; exact cP, J1 _ _ ⟨rfl, by rw [hgt j (by omega), if_pos hin]⟩⟩
theorem xcopyStops_row {p : Sl} {lp : L8} {x : Int} {shut : Bool} {w : World} {R : Bool → World → Prop} (hp : Rd w 1 p (bv lp)) (hx : (Lit.int .u8 x).wf = true) (h : ∀ w', Grow w w' → R true w') : Cpalletlaw15_XcopyStops p x shut w R := by
  obtain ⟨A, rfl, hA⟩ := int_u8 hx
  exact xcopyStops_spec hp hA h
end Go.Proofs.YtaneeadpjelomaaDoor

/- Layer 15: what the rows of its laws of copies import. -/
