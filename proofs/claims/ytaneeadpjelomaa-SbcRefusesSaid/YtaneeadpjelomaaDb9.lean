import Derived.Test.YtaneeadpjelomaaDb6
/- Layer 14: compare and write. -/
namespace Go.Proofs.Ytaneeadpjelomaa
open Go CF

/-- what is behind the blocks that came -/
def cmpTail (dv cb ab : Nat) (told : Sl) (K : Array Value → World → Prop) (r : Addr) (xs1 : Sl) (g2 : Array Value) (b1 : Bool) (w010 : World) : Prop :=
  RunU Try.prog (storeVar t_api_Result r (.agg g2)) w010 fun w011 => Br (!b1)
    (∃ g3 : Array Value, (loadVar t_api_Result r).run Try.prog w011 = .ok (.agg g3) w011 ∧ RunU Try.prog (storeVar t_api_Result ⟨ab, 0, none⟩ (.agg g3)) w011 fun w012 => ∃ res1 : Array Value, (loadVar t_api_Result ⟨ab, 0, none⟩).run Try.prog w012 = .ok (.agg res1) w012 ∧ K res1 w012)
    (∃ g4 : Array Value, (loadVar t_api_Cmd ⟨cb, 0, none⟩).run Try.prog w011 = .ok (.agg g4) w011 ∧ Csbc_Dev_read (some ⟨dv, 0, none⟩) g4 w011 fun xs2 g5 b2 w013 => RunU Try.prog (storeVar t_api_Result r (.agg g5)) w013 fun w014 => Br (!b2)
      (∃ g6 : Array Value, (loadVar t_api_Result r).run Try.prog w014 = .ok (.agg g6) w014 ∧ RunU Try.prog (storeVar t_api_Result ⟨ab, 0, none⟩ (.agg g6)) w014 fun w015 => ∃ res2 : Array Value, (loadVar t_api_Result ⟨ab, 0, none⟩).run Try.prog w015 = .ok (.agg res2) w015 ∧ K res2 w015)
      (Csbc_differ xs2 told w014 fun n5 w016 => Br (decide (n5 ≥ 0))
        (Csbc_at 14 7424 (IntKind.wrap .u64 n5) w016 fun g7 w017 => RunU Try.prog (storeVar t_api_Result ⟨ab, 0, none⟩ (.agg g7)) w017 fun w018 => ∃ res3 : Array Value, (loadVar t_api_Result ⟨ab, 0, none⟩).run Try.prog w018 = .ok (.agg res3) w018 ∧ K res3 w018)
        (∃ n6 : Int, w016.cell? ((⟨cb, 0, none⟩ : Addr).add 2) = some (.int .u64 n6) ∧ ∃ b3 : Bool, w016.cell? ((⟨cb, 0, none⟩ : Addr).add 5) = some (.bool b3) ∧ Csbc_Dev_write (some ⟨dv, 0, none⟩) n6 xs1 b3 w016 fun g8 w019 => RunU Try.prog (storeVar t_api_Result ⟨ab, 0, none⟩ (.agg g8)) w019 fun w020 =>
          ∃ res4 : Array Value, (loadVar t_api_Result ⟨ab, 0, none⟩).run Try.prog w020 = .ok (.agg res4) w020 ∧ K res4 w020)))
section
variable {w u : World} {dv ps pw : Nat} {file : ByteArray} {kind n : Nat} {cache : Bool} {D D' : Nat → Prop} {st st' : Wst} {bs bs' : List Bk} {m m' : Nat}
theorem dev_compare_spec {c : Cm} {p : Sl} {l : L8} {H : Nat} {K : Array Value → World → Prop} (h : Dv w dv ps pw file kind n cache D st bs m) (hm : m ≤ 900000) (hp : Rd w 1 p (bv l)) (hb : p.n ≤ 140737488351232) (hc : c.lba + c.blocks ≤ n) (hH : H = szB (decide (c.prot ≠ 0)) * c.blocks)
    (k1 : l.length ≠ 2 * H → ∀ u, Grow w u → K (rsv 2 (badS 0x1a00) nilS).toArray u)
    (k2 : ¬ (c.prot = 0 ∧ ∀ i (hi : i < ((bs.drop c.lba).take c.blocks).length), chkB kind c.prot (c.lba + i) ((bs.drop c.lba).take c.blocks)[i] = 0) → ∀ code info u j, Keep D w u → IsW u pw D { st with ops := st.ops + j } → j ≤ c.blocks → K (rsv 2 (atS 11 code info) nilS).toArray u)
    (k4 : l.length = 2 * H → ∀ i, firstNe (packB false ((bs.drop c.lba).take c.blocks)) (packB false (unpB (decide (c.prot ≠ 0)) (l.take H))) = some i → ∀ u, Keep D w u → IsW u pw D { st with ops := st.ops + c.blocks } → K (rsv 2 (atS 14 0x1d00 i) nilS).toArray u)
    (k5 : l.length = 2 * H → firstNe (packB false ((bs.drop c.lba).take c.blocks)) (packB false (unpB (decide (c.prot ≠ 0)) (l.take H))) = none → ∀ u D', Keep D w u →
      Dv u dv ps pw file kind n cache D' (syncIf (syncs c.blocks c.fua cache) (layW { st with ops := st.ops + c.blocks } file c.lba (rsOf (cameB kind c (l.drop H) c.blocks)) c.blocks)) (setAll bs c.lba (cameB kind c (l.drop H) c.blocks) c.blocks) (m + c.blocks + c.blocks + 1) →
      (∀ k, D' k → D k ∨ w.heap.size ≤ k) → K (rsv 0 sn0 nilS).toArray u) : Csbc_Dev_compare (some ⟨dv, 0, none⟩) (cmv c).toArray p w K := by
  refine Fsbc_Dev_compare.calls _ _ _ _ _ ?_
  have hsz := h.size
  have hlen := h.len
  have hfew := h.few
  have hln := rd_n' hp
  have hcap := hp.cap
  refine new_rule fun cb w0 hcb hb0 hg0 hsz0 => ?_
  have hb0 : Blk w0 cb (cmv c).toArray t_api_Cmd := hb0
  refine new_rule fun ab w1 hab hb1 hg1 hsz1 => ?_
  have hb1 : Blk w1 ab z10 t_api_Result := hb1
  have hgw1 := hg0.trans hg1
  have hc1 : Blk w1 cb (cmv c).toArray t_api_Cmd := hg1.heap hb0 (fun q => q)
  have lD := fun k (q : D k) => h.isW.lt q
  have nab : ¬ D ab := fun q => by have := lD _ q; omega
  have ncb : ¬ D cb := fun q => by have := lD _ q; omega
  have sw := hg0.size
  have cAt : ∀ {v : World} {i : Nat} {x : Value}, Grow w1 v → (cmv c).toArray[i]? = some x → v.cell? ((⟨cb, 0, none⟩ : Addr).add i) = some x := fun g e => by rw [add0, Blk.cell (g.heap hc1 (fun q => q)), Nat.zero_add]; exact e
  generalize hwt : decide (c.prot ≠ 0) = wt at *
  have ew : ((c.prot : Int) != 0) = wt := by rw [← hwt, Bool.eq_iff_iff, bne_iff_ne, decide_eq_true_eq]; omega
  have hs24 : 16 ≤ szB wt ∧ szB wt ≤ 24 := by unfold szB; split <;> decide
  have hHle : H ≤ 24 * 4096 := by rw [hH]; exact Nat.mul_le_mul hs24.2 (by omega)
  rintro w2 rfl
  have hg2 : Grow w1 w1.drew := keep_drew w1
  refine ⟨fun v => Grow w1 v, hg2, (c.prot : Int), fun v hv => cAt hv rfl, (c.blocks : Int), fun v hv => cAt hv rfl, ?_⟩
  rw [ew]
  refine size_spec ⟨hg2, ?_⟩
  have eH : IntKind.wrap .i64 (((szB wt : Nat) : Int) * IntKind.wrap .i64 (c.blocks : Int)) = (H : Int) := by
    rw [w64 (n := (c.blocks : Int)) (by omega) (by omega)]
    have : ((szB wt : Nat) : Int) * (c.blocks : Int) = ((H : Nat) : Int) := by rw [hH]; exact (Int.natCast_mul _ _).symm
    rw [this]; exact w64 (by omega) (by omega)
  have e2H : IntKind.wrap .i64 (2 * (H : Int)) = ((2 * H : Nat) : Int) := by rw [w64 (by omega) (by omega)]; omega
  rw [eH, e2H]
  have ret : ∀ {v : World} {s : Nat} {sn : Sn} {d : Sl}, Grow w1 v → (∀ v', Grow w v' → K (rsv s sn d).toArray v') →
      RunU Try.prog (storeVar t_api_Result ⟨ab, 0, none⟩ (.agg (rsv s sn d).toArray)) v fun w' => ∃ res : Array Value, (loadVar t_api_Result ⟨ab, 0, none⟩).run Try.prog w' = .ok (.agg res) w' ∧ K res w' := fun g hR => ret_rule (g.heap hb1 (fun q => q)) rfl fun v' hk => hR v' (grow_new (hgw1.trans g) (by omega) hk)
  by_cases hl2 : l.length = 2 * H
  case neg => exact br_t (by rw [bne_iff_ne]; omega) (length_spec fun w3 hg3 => ret (hg2.trans hg3) fun v' hv' => k1 hl2 v' hv')
  refine br_f (by rw [bne_eq_false_iff_eq]; omega) ?_
  rintro w3 rfl
  have hg3 : Grow w1 w1.drew.drew := hg2.trans (keep_drew _)
  simp only [Int.toNat_natCast]
  refine ⟨fun v => Grow w1 v, hg3, ⟨by decide, by omega, by omega, hcap⟩, (c.prot : Int), fun v hv => cAt hv rfl, ?_⟩
  rw [ew]
  have hdm : H % szB wt = 0 ∧ H / szB wt = c.blocks := by rw [hH]; exact ⟨Nat.mul_mod_right _ _, Nat.mul_div_cancel_left _ (by omega)⟩
  have hcut0 : ∀ v, Grow w v → Rd v 1 ⟨cutA p.A p.c 0 1, H - 0, p.c - 0⟩ (bv (l.take H)) := fun v hv => (hp.grow hv).cutB (l := 0) (k := H) (Nat.zero_le _) (by omega)
  have hcut1 : ∀ v, Grow w v → Rd v 1 ⟨cutA p.A p.c H 1, p.n - H, p.c - H⟩ (bv (l.drop H)) := fun v hv => by
    have := (hp.grow hv).cutB (l := H) (k := p.n) (by omega) (Nat.le_refl _)
    rwa [List.take_of_length_le (by rw [List.length_drop]; omega)] at this
  have hl0 : (l.take H).length = H := by rw [List.length_take]; omega
  have hl1 : (l.drop H).length = H := by rw [List.length_drop]; omega
  refine unpack_spec (hcut0 _ (hgw1.trans hg3)) (by show H - 0 ≤ _; omega) (fun q => absurd (by rw [hl0]; exact hdm.1) q) fun _ told w4 hg4 hown4 => ?_
  have hgw4 := (hgw1.trans hg3).trans hg4
  have hown4 : Own w4 w.heap.size t_api_Block 19 told ((unpB wt (l.take H)).flatMap bc) := hown4.mono (hgw1.trans hg3).size
  have hUl : (unpB wt (l.take H)).length = c.blocks := by rw [unpB_len, hl0]; exact hdm.2
  rintro w5 rfl
  have hg15 : Grow w1 w4.drew := (hg3.trans hg4).trans (keep_drew _)
  have hown5 : Own w4.drew w.heap.size t_api_Block 19 told ((unpB wt (l.take H)).flatMap bc) := hown4.grow (keep_drew _)
  generalize w4.drew = w5 at *
  have hgw5 := hgw1.trans hg15
  have h5 := h.grow hgw5
  refine ⟨fun v => Grow w1 v, hg15, (cmv c).toArray, fun v hv => cLoad (blk_cells (hv.heap hc1 (fun q => q))), ⟨by omega, by omega, by omega, hcap⟩, (c.blocks : Int), fun v hv => cAt hv rfl, ?_⟩
  have hLl : ((bs.drop c.lba).take c.blocks).length = c.blocks := by rw [List.length_take, List.length_drop]; omega
  have lab5 : ab < w5.heap.size := lt_of_heap (hg15.heap hb1 (fun q => q))
  have lcb5 : cb < w5.heap.size := lt_of_heap (hg15.heap hc1 (fun q => q))
  -- behind a fault
  have tailE : ∀ (code info : Nat) (rb : Nat) (v : World) (old : Array Value), ¬ (c.prot = 0 ∧ ∀ i (hi : i < ((bs.drop c.lba).take c.blocks).length), chkB kind c.prot (c.lba + i) ((bs.drop c.lba).take c.blocks)[i] = 0) → Grow w5 v → Blk v rb old t_api_Result → old.size = 10 → w5.heap.size ≤ rb →
      cmpTail dv cb ab told K ⟨rb, 0, none⟩ nilS (rsv 2 (atS 11 code info) nilS).toArray false v := fun code info rb v old hnot hgv hbr ho hrb =>
    lay_rule hbr ho fun v2 hb2 hk2 _ => br_t rfl ⟨_, rLoad (blk_cells hb2), by
      have hg2' : Grow w5 v2 := hgv.keep hk2 fun i hi q => by omega
      have hab2 := (hg15.trans hg2').heap hb1 (fun q => q)
      refine ret_rule hab2 rfl fun v3 hk3 => ?_
      have hgw2 := hgw5.trans hg2'
      have hD2 : Keep D w v3 := keepD_new (hgw2.mono fun _ _ q => q.elim) (by omega) hk3
      exact k2 hnot code info v3 0 hD2 (isW_new (h.isW.grow hgw2) hab2 tne_result nab hk3) (Nat.zero_le _)⟩
  -- behind blocks that are right
  have tailG : ∀ (xs1 : Sl) (rb : Nat) (v : World) (old : Array Value), Grow w5 v → Blk v rb old t_api_Result → old.size = 10 → w5.heap.size ≤ rb → (xs1.blk ≠ some rb) → Own v w.heap.size t_api_Block 19 xs1 ((cameB kind c (l.drop H) c.blocks).flatMap bc) →
      cmpTail dv cb ab told K ⟨rb, 0, none⟩ xs1 (rsv 0 sn0 nilS).toArray true v := fun xs1 rb v old hgv hbr ho hrb hxr hown1 =>
    lay_rule hbr ho fun v2 hb2 hk2 _ => br_f rfl (by
      have hg2' : Grow w5 v2 := hgv.keep hk2 fun i hi q => by omega
      have hg1' := hg15.trans hg2'
      have hgw2 := hgw5.trans hg2'
      have hc2 := hg1'.heap hc1 (fun q => q)
      have ha2 := hg1'.heap hb1 (fun q => q)
      have hown2 : Own v2 w.heap.size t_api_Block 19 xs1 ((cameB kind c (l.drop H) c.blocks).flatMap bc) := hown1.keep hk2 fun b hbb q => hxr (by rw [hbb, q])
      have htold2 := hown5.grow hg2'
      have h2 := h.grow hgw2
      have nrb : ¬ D rb := fun q => by have := lD _ q; have := hgw5.size; omega
      have sw2 := hgw2.size
      have sw5 := hgw5.size
      refine ⟨_, cLoad (blk_cells hc2), dev_read_spec h2 (by omega) hc (fun hchk xs2 v3 hk3 hr3 hown3 => ?_) (fun i hi hz v3 hk3 hr3 => ?_)⟩
      · have hkD3 : Keep D w v3 := (hgw2.mono fun _ _ q => q.elim).trans hk3 fun _ _ q => q
        have ro : ∀ {x : Sl} {L : List Bk}, Own v2 w.heap.size t_api_Block 19 x (L.flatMap bc) → Own v3 w.heap.size t_api_Block 19 x (L.flatMap bc) := fun ho => ho.keep hk3 fun b hbb q => by
          have := (ho.ge b hbb).1
          have := lD _ q
          omega
        refine lay_rule (hk3.heap hb2 nrb) rfl fun v4 hb4 hk4 _ => br_f rfl ?_
        have ro4 : ∀ {x : Sl} {L : List Bk}, Own v3 w.heap.size t_api_Block 19 x (L.flatMap bc) → Own v4 w.heap.size t_api_Block 19 x (L.flatMap bc) := fun ho => ho.keep hk4 fun b hbb q => own_ne ho (hk3.heap hb2 nrb) (by decide) (by rw [hbb, q])
        have hkD4 : Keep D w v4 := keepD_new hkD3 (by omega) hk4
        have hw4 : IsW v4 pw D { st with ops := st.ops + c.blocks } := isW_new (hr3.isW h2.isW) (hk3.heap hb2 nrb) tne_result nrb hk4
        have o2 := ro4 (hown3.mono sw2)
        have oT := ro4 (ro htold2)
        have oX := ro4 (ro hown2)
        have ha4 : Blk v4 ab z10 t_api_Result := hk4.heap (hk3.heap ha2 nab) (by omega)
        have hc4 : Blk v4 cb (cmv c).toArray t_api_Cmd := hk4.heap (hk3.heap hc2 ncb) (by omega)
        have rdo : ∀ {y : World} {x : Sl} {L : List Bk}, L.length ≤ 4096 → Own y w.heap.size t_api_Block 19 x (L.flatMap bc) → Rd y 19 x (L.flatMap bc) := fun hL ho => ho.rd (by have := ho.len; rw [flat_bc_len] at this; omega)
        refine differ_spec (rdo (by omega) o2) (rdo (by omega) oT) (by omega) (by omega) (by omega) fun v5 hg5 => ?_
        have hkD5 := hkD4.grow hg5
        cases hf : firstNe (packB false ((bs.drop c.lba).take c.blocks)) (packB false (unpB wt (l.take H))) with
        | some i =>
          have hil : i < 65536 + 1 := by
            have := List.mem_of_find?_eq_some hf
            rw [List.mem_range, packB_len] at this
            have e16 : szB false = 16 := rfl
            rw [e16] at this
            omega
          rw [dif_some hf]
          refine br_t (by rw [decide_eq_true_eq]; omega) ?_
          rw [wu64 (by omega) (by omega)]
          refine at_spec (key := 14) (code := 0x1d00) (info := i) fun v6 hg6 => ?_
          have ha6 := (hg5.trans hg6).heap ha4 (fun q => q)
          refine ret_rule ha6 rfl fun v7 hk7 => ?_
          exact k4 hl2 i hf v7 (keepD_new (hkD5.grow hg6) (by omega) hk7) (isW_new ((hw4.grow hg5).grow hg6) ha6 tne_result nab hk7)
        | none =>
          rw [dif_none hf]
          have hc5 := hg5.heap hc4 (fun q => q)
          refine br_f (by rw [decide_eq_false_iff_not]; omega) ⟨(c.lba : Int), by rw [add0, Blk.cell hc5]; rfl, c.fua, by rw [add0, Blk.cell hc5]; rfl, ?_⟩
          have hVl : (cameB kind c (l.drop H) c.blocks).length = c.blocks := cameB_len (by rw [hwt, hl1]; exact hdm.2)
          have hd5 : Dv v5 dv ps pw file kind n cache D { st with ops := st.ops + c.blocks } bs (m + c.blocks) := h.ops hkD5 (hw4.grow hg5)
          have oX5 := oX.grow hg5
          have s5 := hkD5.size
          refine dev_write_spec (L := cameB kind c (l.drop H) c.blocks) hd5 (by omega) (by omega) (fun y hy => rdo (by omega) (oX5.keep hy fun b hbb q => by
            have := (oX5.ge b hbb).1
            have := lD _ q
            omega)) fun v6 D6 hk6 hd6 hD6 => ?_
          rw [hVl] at hd6
          have ha6 : Blk v6 ab z10 t_api_Result := hk6.heap (hg5.heap ha4 (fun q => q)) nab
          have nab6 : ¬ D6 ab := fun q => by
            rcases hD6 _ q with r | r
            · exact nab r
            · have := lt_of_heap (hg5.heap ha4 (fun q => q)); omega
          refine ret_rule (st := 0) (s := sn0) (d := nilS) ha6 rfl fun v7 hk7 => ?_
          refine k5 hl2 hf v7 D6 (keepD_new (hkD5.trans hk6 fun _ _ q => q) (by omega) hk7) (hd6.put ha6 tne_result (by decide) (by decide) nab6 hk7) fun k q => ?_
          rcases hD6 k q with r | r
          · exact .inl r
          · exact .inr (by omega)
      · refine lay_rule (hk3.heap hb2 nrb) rfl fun v4 hb4 hk4 _ => br_t rfl ⟨_, rLoad (blk_cells hb4), ?_⟩
        have hkD3 : Keep D w v3 := (hgw2.mono fun _ _ q => q.elim).trans hk3 fun _ _ q => q
        have ha4 : Blk v4 ab z10 t_api_Result := hk4.heap (hk3.heap ha2 nab) (by omega)
        refine ret_rule ha4 rfl fun v5 hk5 => ?_
        exact k2 (fun q => hz (q.2 i hi)) _ _ v5 c.blocks (keepD_new (keepD_new hkD3 (by omega) hk4) (by omega) hk5) (isW_new (isW_new (hr3.isW h2.isW) (hk3.heap hb2 nrb) tne_result nrb hk4) ha4 tne_result nab hk5) (Nat.le_refl _))
  have come : ∀ (v : World) (hgv : Grow w5 v) (R : Sl → Array Value → Bool → World → Prop), (∀ code info v2, ¬ (c.prot = 0 ∧ ∀ i (hi : i < ((bs.drop c.lba).take c.blocks).length), chkB kind c.prot (c.lba + i) ((bs.drop c.lba).take c.blocks)[i] = 0) → Grow v v2 → R nilS (rsv 2 (atS 11 code info) nilS).toArray false v2) →
      (∀ xs v2, Grow v v2 → Own v2 v.heap.size t_api_Block 19 xs ((cameB kind c (l.drop H) c.blocks).flatMap bc) → R xs (rsv 0 sn0 nilS).toArray true v2) →
      Csbc_Dev_come (some ⟨dv, 0, none⟩) (cmv c).toArray ⟨cutA p.A p.c H 1, p.n - H, p.c - H⟩ (c.blocks : Int) v R := by
    intro v hgv R hE hG
    refine dev_come_spec (N := c.blocks) (h5.grow hgv).dev (hcut1 v (hgw5.trans hgv)) (by show p.n - H ≤ _; omega) (by omega) (by omega) (fun q => ?_) (fun q1 q2 q3 xs v2 hv2 ho => ?_) (fun q1 q2 q3 q4 xs v2 hv2 ho => ?_) (fun q1 q2 q3 i hi hz hall v2 hv2 => hE _ _ v2 (fun q => q3 q.1) hv2)
    · exfalso
      rw [hwt, hl1] at q
      rcases q with q | q
      · exact q hdm.1
      · exact q hdm.2
    · refine hG xs v2 hv2 ?_
      unfold cameB; rw [if_pos q3]; exact ho
    · refine hG xs v2 hv2 ?_
      unfold cameB; rw [if_neg q3]; exact ho
  refine ⟨?_, ?_⟩
  · refine come w5 (Keep.refl _ _) _ (fun code info v2 hnot hv2 => ?_) (fun xs v2 hv2 ho => ?_)
    · refine new_rule fun rb v3 hrb hb3 hg3' hsz3 => ⟨hg15.trans (hv2.trans hg3'), ?_⟩
      exact tailE code info rb v3 _ hnot (hv2.trans hg3') hb3 rfl (by have := hv2.size; omega)
    · refine new_rule fun rb v3 hrb hb3 hg3' hsz3 => ⟨hg15.trans (hv2.trans hg3'), ?_⟩
      exact tailG xs rb v3 _ (hv2.trans hg3') hb3 rfl (by have := hv2.size; omega) (fun q => by have := (ho.ge _ q).2; omega) ((ho.grow hg3').mono hgw5.size)
  · refine new_rule fun rb v3 hrb hb3 hg3' hsz3 => ⟨hg15.trans hg3', ?_⟩
    refine come v3 hg3' _ (fun code info v2 hnot hv2 => ?_) (fun xs v2 hv2 ho => ?_)
    · exact tailE code info rb v2 _ hnot (hg3'.trans hv2) (hv2.heap hb3 (fun q => q)) rfl (by omega)
    · exact tailG xs rb v2 _ (hg3'.trans hv2) (hv2.heap hb3 (fun q => q)) rfl (by omega) (fun q => by have := (ho.ge _ q).1; omega) (ho.mono (hgw5.trans hg3').size)
end
end Go.Proofs.Ytaneeadpjelomaa
