import Derived.Test.YtaneeadpjelomaaDb11
/- Layer 14: one block is written many times. -/
namespace Go.Proofs.Ytaneeadpjelomaa
open Go CF

def z16 : L8 := [0, 0, 0, 0, 0, 0, 0, 0, 0, 0, 0, 0, 0, 0, 0, 0]
def withR (b : Bk) (r : Nat) : Bk := ⟨b.d, b.g, b.a, r % 4294967296, b.hd, b.hg, b.ha, by omega⟩
/-- the block that is written at a place -/
def sameB (kind : Nat) (c : Cm) (b0 : Bk) (i : Nat) : Bk := if c.prot = 0 then mk1 kind (c.lba + i) b0 else if kind = 1 ∨ kind = 2 then withR b0 (c.lba + i) else b0
def samesB (kind : Nat) (c : Cm) (b0 : Bk) (N : Nat) : List Bk := (List.range N).map (sameB kind c b0)
theorem samesB_len (kind : Nat) (c : Cm) (b0 : Bk) (N : Nat) : (samesB kind c b0 N).length = N := by simp [samesB]
theorem samesB_succ (kind : Nat) (c : Cm) (b0 : Bk) (N : Nat) : samesB kind c b0 (N + 1) = samesB kind c b0 N ++ [sameB kind c b0 N] := by simp [samesB, List.range_succ]
theorem flat_16_uint8 : flatK Try.prog 8 t_16_uint8 = some (List.replicate 16 (.i .u8)) := by kernel_rfl
theorem kd_16_uint8 : kd Try.prog t_16_uint8 = .ag := by kernel_rfl
theorem gt_16_uint8 : Try.prog.eqGuardType Try.prog.depth t_16_uint8 = false := by kernel_rfl
theorem eq16 {x y : Operand} (a b : L8) (ha : a.length = 16) (hb : b.length = 16) : ∃ r : Bool, (r = true ↔ a = b) ∧ ∀ w, (do eqGuard .eql t_16_uint8 x y (.agg (bv a).toArray) (.agg (bv b).toArray); binOp .eql t_16_uint8 (.agg (bv a).toArray) (.agg (bv b).toArray) : Sem Value).run Try.prog w = .ok (.bool r) w := by
  obtain ⟨r, h1, h2⟩ := eql_rule (x := x) (y := y) flat_16_uint8 kd_16_uint8 gt_16_uint8 (fit_bytes a 16 ha) (fit_bytes b 16 hb)
  exact ⟨r, h1.trans ⟨bv_inj, fun h => by rw [h]⟩, h2⟩
theorem dev_come_all {w : World} {dv ps kind : Nat} {c : Cm} {p : Sl} {l : L8} {N : Nat} {R : Sl → Array Value → Bool → World → Prop} (hd : Blk w dv (dvcells ps kind) t_sbc_Dev) (hp : Rd w 1 p (bv l)) (hb : p.n ≤ 140737488351232) (hlba : c.lba ≤ 4096) (hN : N ≤ 4096)
    (hL : (l.length % szB (decide (c.prot ≠ 0)) ≠ 0 ∨ l.length / szB (decide (c.prot ≠ 0)) ≠ N) → ∀ u, Grow w u → R nilS (rsv 2 (badS 0x1a00) nilS).toArray false u)
    (hC : c.prot ≠ 0 → ∀ code info u, Grow w u → R nilS (rsv 2 (atS 11 code info) nilS).toArray false u)
    (hG : l.length / szB (decide (c.prot ≠ 0)) = N → ∀ xs u, Grow w u → Own u w.heap.size t_api_Block 19 xs ((cameB kind c l N).flatMap bc) → R xs (rsv 0 sn0 nilS).toArray true u) :
    Csbc_Dev_come (some ⟨dv, 0, none⟩) (cmv c).toArray p (N : Int) w R := by
  refine dev_come_spec hd hp hb hlba hN hL (fun q1 q2 q3 xs v hv ho => ?_) (fun q1 q2 q3 q4 xs v hv ho => ?_) (fun q1 q2 q3 i hi hz hall v hv => hC q3 _ _ v hv)
  · have e0 : decide (c.prot ≠ 0) = false := by simpa using q3
    refine hG (by rw [e0]; exact q2) xs v hv ?_
    unfold cameB; rw [if_pos q3]; exact ho
  · have e0 : decide (c.prot ≠ 0) = true := by simpa using q3
    refine hG (by rw [e0]; exact q2) xs v hv ?_
    unfold cameB; rw [if_neg q3]; exact ho
def sameN (n : Nat) (c : Cm) : Nat := if c.blocks = 0 then n - c.lba else c.blocks
section
variable {w u : World} {dv ps pw : Nat} {file : ByteArray} {kind n : Nat} {cache : Bool} {D D' : Nat → Prop} {st st' : Wst} {bs bs' : List Bk} {m m' : Nat}
theorem dev_same_spec {c : Cm} {p : Sl} {l : L8} {K : Array Value → World → Prop} (h : Dv w dv ps pw file kind n cache D st bs m) (hm : m ≤ 900000) (hp : Rd w 1 p (bv l)) (hb : p.n ≤ 140737488351232) (hc : c.lba + c.blocks ≤ n)
    (kL : (l.length % szB (decide (c.prot ≠ 0)) ≠ 0 ∨ l.length / szB (decide (c.prot ≠ 0)) ≠ 1) → ∀ u, Grow w u → K (rsv 2 (badS 0x1a00) nilS).toArray u)
    (kC : c.prot ≠ 0 → ∀ code info u, Grow w u → K (rsv 2 (atS 11 code info) nilS).toArray u)
    (kU : ∀ b0, cameB kind c l 1 = [b0] → c.unmap = true → b0.d = z16 → ∀ u D' st', Keep D w u → Dv u dv ps pw file kind n cache D' st' (setAll bs c.lba [] (sameN n c)) (m + sameN n c + 1) → (∀ k, D' k → D k ∨ w.heap.size ≤ k) → K (rsv 0 sn0 nilS).toArray u)
    (kW : ∀ b0, cameB kind c l 1 = [b0] → ¬ (c.unmap = true ∧ b0.d = z16) → ∀ u D' st', Keep D w u → Dv u dv ps pw file kind n cache D' st' (setAll bs c.lba (samesB kind c b0 (sameN n c)) (sameN n c)) (m + sameN n c + 1) → (∀ k, D' k → D k ∨ w.heap.size ≤ k) → K (rsv 0 sn0 nilS).toArray u) :
    Csbc_Dev_same (some ⟨dv, 0, none⟩) (cmv c).toArray p w K := by
  refine Fsbc_Dev_same.calls _ _ _ _ _ ?_
  have hsz := h.size
  have hlen := h.len
  refine new_rule fun cb w0 hcb hb0 hg0 hsz0 => ?_
  have hb0 : Blk w0 cb (cmv c).toArray t_api_Cmd := hb0
  refine new_rule fun ab w1 hab hb1 hg1 hsz1 => ?_
  have hb1 : Blk w1 ab z10 t_api_Result := hb1
  have hgw1 := hg0.trans hg1
  have hc1 : Blk w1 cb (cmv c).toArray t_api_Cmd := hg1.heap hb0 (fun q => q)
  have lD := fun k (q : D k) => h.isW.lt q
  have nab : ¬ D ab := fun q => by have := lD _ q; omega
  have ncb : ¬ D cb := fun q => by have := lD _ q; omega
  have sw := hg0.size
  have cAt : ∀ {v : World} {i : Nat} {x : Value}, Grow w1 v → (cmv c).toArray[i]? = some x → v.cell? ((⟨cb, 0, none⟩ : Addr).add i) = some x := fun g e => by rw [add0, Blk.cell (g.heap hc1 (fun q => q)), Nat.zero_add]; exact e
  refine ⟨(c.blocks : Int), cAt (Keep.refl _ _) rfl, ?_⟩
  have hNle : c.lba + sameN n c ≤ n := by unfold sameN; split <;> omega
  refine letX1 (fun (n1 : Int) v => n1 = (sameN n c : Int) ∧ Grow w1 v) ?_ (fun J => ?_)
  case refine_2 =>
    refine br_eq (fun q => ?_) (fun q => J _ _ ⟨by unfold sameN; rw [if_neg (by omega)], Keep.refl _ _⟩)
    rintro w2 rfl
    have hg2 : Grow w1 w1.drew := keep_drew w1
    refine ⟨fun v => Grow w1 v, hg2, (c.lba : Int), fun v hv => cAt hv rfl, blocks_spec (h.grow (hgw1.trans hg2)) ⟨hg2, J _ _ ⟨?_, hg2⟩⟩⟩
    unfold sameN; rw [if_pos (by omega), wu64 (by omega) (by omega)]; omega
  rintro n1 v ⟨rfl, hgv⟩
  have hcv := hgv.heap hc1 (fun q => q)
  have hav := hgv.heap hb1 (fun q => q)
  have hwv := hgw1.trans hgv
  have hv := h.grow hwv
  have sv := hwv.size
  have lab := lt_of_heap hav
  generalize hNN : sameN n c = N at *
  refine ⟨_, cLoad (blk_cells hcv), ?_⟩
  have fault : ∀ {y : World} {sn : Sn}, Grow v y → (∀ z, Grow w z → K (rsv 2 sn nilS).toArray z) → ∀ rb z, rb = y.heap.size → Blk z rb (rsv 2 sn nilS).toArray t_api_Result → Grow y z →
      ∃ g10 : Array Value, (loadVar t_api_Result ⟨rb, 0, none⟩).run Try.prog z = .ok (.agg g10) z ∧ RunU Try.prog (storeVar t_api_Result ⟨ab, 0, none⟩ (.agg g10)) z fun w028 => ∃ res6 : Array Value, (loadVar t_api_Result ⟨ab, 0, none⟩).run Try.prog w028 = .ok (.agg res6) w028 ∧ K res6 w028 := by
    intro y sn hy hR rb z hrb hbz hyz
    exact ⟨_, rLoad (blk_cells hbz), ret_rule ((hy.trans hyz).heap hav (fun q => q)) rfl fun z' hk' => hR z' (grow_new ((hwv.trans hy).trans hyz) (by omega) hk')⟩
  refine dev_come_all (N := 1) hv.dev (hp.grow hwv) hb (by omega) (by decide) (fun q y hy => ?_) (fun q code info y hy => ?_) (fun hl1 xs y hy ho => ?_)
  · refine new_rule fun rb w5 hrb hb5 hg5 hsz5 => lay_rule hb5 rfl fun w6 hb6 hk6 hsz6 => br_t rfl ?_
    exact fault hy (kL q) rb w6 hrb hb6 (hg5.keep hk6 fun i hi q => by omega)
  · refine new_rule fun rb w5 hrb hb5 hg5 hsz5 => lay_rule hb5 rfl fun w6 hb6 hk6 hsz6 => br_t rfl ?_
    exact fault hy (kC q code info) rb w6 hrb hb6 (hg5.keep hk6 fun i hi q => by omega)
  refine new_rule fun rb w5 hrb hb5 hg5 hsz5 => lay_rule hb5 rfl fun w6 hb6 hk6 hsz6 => br_f rfl ?_
  have hy6 : Grow y w6 := hg5.keep hk6 fun i hi q => by omega
  have hv6 := hy.trans hy6
  have hw6 := hwv.trans hv6
  have hcl := cameB_len (kind := kind) (c := c) (l := l) (N := 1) hl1
  obtain ⟨b0, hb0c⟩ : ∃ b0, cameB kind c l 1 = [b0] := by
    match hq : cameB kind c l 1, hcl with
    | [b0], _ => exact ⟨b0, rfl⟩
  have kU := kU b0 hb0c
  have kW := kW b0 hb0c
  rw [hb0c] at ho
  have ho6 : Own w6 w.heap.size t_api_Block 19 xs ([b0].flatMap bc) := (ho.grow hy6).mono sv
  have hxn : xs.n = 1 := by have := ho6.len; rw [flat_bc_len] at this; simp at this; omega
  have hat : ∀ z, Grow w6 z → ∃ a, xs.A = some a ∧ Cells z (a.add (0 * 19)) (bc b0) := fun z hz => rd_bk_at ((ho6.grow hz).rd (by omega)) (i := 0) Nat.zero_lt_one
  have hat' : ∀ z, Grow w6 z → Cells z ((gA xs.A).add ((0 : Int).toNat * 19)) (bc b0) := fun z hz => by
    obtain ⟨a, ha, hc⟩ := hat z hz
    rw [ha]; exact hc
  have bd : (0 : Int) ≤ (0 : Int) ∧ (0 : Int) < (xs.n : Int) ∧ xs.A.isSome = true := by
    obtain ⟨a, ha, _⟩ := hat w6 (Keep.refl _ _)
    exact ⟨by decide, by omega, by rw [ha]; rfl⟩
  have hc6 := hv6.heap hcv (fun q => q)
  have ha6 := hv6.heap hav (fun q => q)
  have h6 := h.grow hw6
  have s6 := hv6.size
  obtain ⟨r, hr, hrun⟩ := eq16 (x := .tmp 42) (y := .tmp 43) b0.d z16 b0.hd rfl
  refine ⟨c.unmap, by rw [add0, Blk.cell hc6]; rfl, fun _ => bd, (bv b0.d).toArray, fun _ => dLoad b0.hd (cells_head (hat' w6 (Keep.refl _ _))), r, fun _ => hrun w6, ?_⟩
  have lastW : ∀ {D2 : Nat → Prop} {st2 : Wst} {B2 : List Bk} {m2 : Nat} {y2 : World}, Keep D w6 y2 → Dv y2 dv ps pw file kind n cache D2 st2 B2 m2 → (∀ k, D2 k → D k ∨ w6.heap.size ≤ k) → (∀ z, Keep D w z → Dv z dv ps pw file kind n cache D2 st2 B2 m2 → (∀ k, D2 k → D k ∨ w.heap.size ≤ k) → K (rsv 0 sn0 nilS).toArray z) →
      RunU Try.prog (storeVar t_api_Result ⟨ab, 0, none⟩ (.agg (rsv 0 sn0 nilS).toArray)) y2 fun w' => ∃ res : Array Value, (loadVar t_api_Result ⟨ab, 0, none⟩).run Try.prog w' = .ok (.agg res) w' ∧ K res w' := by
    intro D2 st2 B2 m2 y2 hk2 hd2 hD2 hK
    have hby : Blk y2 ab z10 t_api_Result := hk2.heap ha6 nab
    have nab2 : ¬ D2 ab := fun q => by
      rcases hD2 _ q with r | r
      · exact nab r
      · omega
    refine ret_rule (st := 0) (s := sn0) (d := nilS) hby rfl fun z hz => hK z (keepD_new ((hw6.mono fun _ _ q => q.elim).trans hk2 fun _ _ q => q) (by omega) hz) (hd2.put hby tne_result (by decide) (by decide) nab2 hz) fun k q => ?_
    rcases hD2 k q with r | r
    · exact .inl r
    · exact .inr (by omega)
  by_cases hun : c.unmap = true ∧ b0.d = z16
  · refine br_t (by rw [hun.1, hr.2 hun.2]; rfl) ?_
    rintro w7 rfl
    have hg7 : Grow w6 w6.drew := keep_drew w6
    have h7 := h6.grow hg7
    refine ⟨fun z => Grow w6 z, hg7, rfl, some ⟨ps, 0, none⟩, fun z hz => dev0 (h6.grow hz).dev, (c.lba : Int), fun z hz => by rw [add0, Blk.cell (hz.heap hc6 (fun q => q))]; rfl, ?_⟩
    rw [w64 (by omega) (by omega), w64 (by omega) (by omega)]
    refine h7.unmap (by omega) hNle fun y2 D2 st2 hk2 hd2 hD2 => br_f rfl (good_spec fun y3 hy3 => ?_)
    refine lastW (((hg7.mono fun _ _ q => q.elim).trans hk2 fun _ _ q => q).grow hy3) (hd2.grow hy3) hD2 fun z hz hdz hDz => ?_
    exact kU hun.1 hun.2 z D2 st2 hz hdz hDz
  · have hguard : (c.unmap && r) = false := by
      cases hu : c.unmap with
      | false => rfl
      | true =>
        cases hr' : r with
        | false => rfl
        | true => exact absurd ⟨hu, hr.1 hr'⟩ hun
    refine br_f hguard ⟨fun all x z => ∃ j : Nat, x = j ∧ j ≤ N ∧ Grow w6 z ∧ Own z w6.heap.size t_api_Block 19 all ((samesB kind c b0 j).flatMap bc), fun _ x _ => N - x.toNat, ⟨0, rfl, Nat.zero_le _, Keep.refl _ _, own_nil _ _ _ _⟩, ?_⟩
    rintro all x z ⟨j, rfl, hj, hgz, hown⟩
    have han : all.n = j := by have := hown.len; rw [flat_bc_len, samesB_len] at this; omega
    refine br_nat (fun hlt => ?_) (fun hge => ?_)
    · refine letX1 (fun all1 y2 => Grow w6 y2 ∧ Own y2 w6.heap.size t_api_Block 19 all1 ((samesB kind c b0 (j + 1)).flatMap bc)) (fun all1 y2 hy2 => by
        rw [wu64 (by omega) (by omega)]
        exact ⟨⟨j + 1, by omega, by omega, hy2.1, hy2.2⟩, by dsimp only; omega⟩) (fun J2 => ?_)
      refine ⟨bd, (bc b0).toArray, bLoad (hat' z hgz), ?_⟩
      refine new_rule fun bb w8 hbb hb8 hg8 hsz8 => ?_
      refine storeVar_rule (cells := (bc b0).toArray) hb8 i_api_Block (by simp [bc_len]) (by simp [bc_len]) (bc_all _) fun w9 hb9 hk9 hsz9 => ?_
      have hz9 : Grow z w9 := hg8.keep hk9 fun i hi q => by omega
      have h69 := hgz.trans hz9
      refine ⟨(c.prot : Int), by rw [add0, Blk.cell (h69.heap hc6 (fun q => q))]; rfl, ?_⟩
      have sz := hgz.size
      refine letX0 (fun y2 => Grow w6 y2 ∧ Own y2 w6.heap.size t_api_Block 19 all ((samesB kind c b0 j).flatMap bc) ∧ Blk y2 bb (bc (sameB kind c b0 j)).toArray t_api_Block) ?_ (fun J3 => ?_)
      · rintro y2 ⟨g2, o2, b2⟩
        refine ⟨_, bLoad (blk_cells b2), ?_⟩
        refine lit_rule (cells := (bc (sameB kind c b0 j)).toArray) (e := t_api_Block) (z := 19) (base := 0) (lit_block _ _) (by simp [bc_len]) (by decide) (Nat.zero_le _) fun y3 hlit3 hg3 _ => ?_
        refine append_rule u_sl_api_Block i_api_Block rfl (by decide) (by decide) (o2.grow hg3) (hlit3.rd (by show 1 ≤ _; decide)) (fun x hx => bc_ones _ x (by simpa using hx)) (by show (all.n + 1) * 24 ≤ _; omega) (g2.trans hg3).size fun s' y4 hn4 hown4 hk4 _ => ?_
        refine J2 s' y4 ⟨own_grow' (g2.trans hg3) (o2.grow hg3) (Nat.le_refl _) hk4, ?_⟩
        rw [samesB_succ, List.flatMap_append]
        simpa using hown4
      · have o9 := hown.grow hz9
        have e64 : IntKind.wrap .u64 ((c.lba : Int) + (j : Int)) = ((c.lba + j : Nat) : Int) := by rw [wu64 (by omega) (by omega)]; omega
        have nbb : all.blk ≠ some bb := fun q => by have := (hown.ge bb q).2; omega
        by_cases hp0 : c.prot = 0
        · refine br_t (by rw [beq_iff_eq]; omega) ?_
          rintro y2 rfl
          have g2 : Grow w6 w9.drew := h69.trans (keep_drew w9)
          refine ⟨fun q => Grow w9 q, keep_drew w9, rfl, (kind : Int), fun q hq => dev1 (h6.grow (h69.trans hq)).dev, (c.lba : Int), fun q hq => by rw [add0, Blk.cell ((h69.trans hq).heap hc6 (fun q => q))]; rfl, (bv b0.d).toArray, fun q hq => dLoad b0.hd (cells_head (blk_cells (hq.heap hb9 (fun q => q)))), ?_⟩
          rw [e64]
          refine make_spec (app := 0) b0.hd fun y3 hy3 => ?_
          have hb3 : Blk y3 bb (bc b0).toArray t_api_Block := ((keep_drew w9).trans hy3).heap hb9 (fun q => q)
          rw [add0, Nat.zero_add]
          refine storeAt_rule (o := 16) (cells := (tc (c16 b0.d) 0 (mkR kind (c.lba + j))).toArray) hb3 i_api_Tuple rfl (by simp [bc_len, tc]) (by intro v hv; simp [tc] at hv; rcases hv with rfl | rfl | rfl <;> rfl) fun y4 hb4 hk4 hsz4 => ?_
          have g3 := g2.trans hy3
          refine J3 y4 ⟨g3.keep hk4 fun i hi q => by omega, (((o9.grow (keep_drew w9)).grow hy3).keep hk4 fun b hbb q => nbb (by rw [hbb, q])), ?_⟩
          have e : (bc b0).take 16 ++ tc (c16 b0.d) 0 (mkR kind (c.lba + j)) ++ (bc b0).drop (16 + 3) = bc (sameB kind c b0 j) := by
            rw [bc_head, List.drop_of_length_le (by rw [bc_len]; decide), List.append_nil]
            unfold sameB; rw [if_pos hp0]; rfl
          rw [← e]; exact hb4
        · refine br_f (by rw [beq_eq_false_iff_ne]; omega) ⟨rfl, (kind : Int), dev1 (h6.grow h69).dev, fun _ => rfl, (kind : Int), fun _ => dev1 (h6.grow h69).dev, ?_⟩
          by_cases hk12 : kind = 1 ∨ kind = 2
          · refine br_t (by rw [Bool.or_eq_true, beq_iff_eq, beq_iff_eq]; omega) ⟨(c.lba : Int), by rw [add0, Blk.cell (h69.heap hc6 (fun q => q))]; rfl, ?_⟩
            rw [e64, add0, add0]
            refine put_rule hb9 (by simp [bc_len]) rfl fun y2 hb2 hk2 _ => J3 y2 ⟨h69.keep hk2 fun i hi q => by omega, o9.keep hk2 fun b hbb q => nbb (by rw [hbb, q]), ?_⟩
            have e : ((bc b0).toArray.setIfInBounds (0 + 16 + 2) (.int .u32 (IntKind.wrap .u32 ((c.lba + j : Nat) : Int)))) = (bc (sameB kind c b0 j)).toArray := by
              have ew : IntKind.wrap .u32 ((c.lba + j : Nat) : Int) = (((c.lba + j) % 4294967296 : Nat) : Int) := by
                have e : IntKind.wrap .u32 ((c.lba + j : Nat) : Int) = ((c.lba + j : Nat) : Int) % 4294967296 := by simp [IntKind.wrap, IntKind.signed, IntKind.bits]
                rw [e]; omega
              rw [ew]
              unfold sameB; rw [if_neg hp0, if_pos hk12]
              have hl16 : (bv b0.d).length = 16 := by rw [bv_length, b0.hd]
              show ((bv b0.d ++ [_, _, _]).toArray.setIfInBounds 18 _) = (bv b0.d ++ [_, _, _]).toArray
              rw [← Array.toList_inj]
              simp only [Array.toList_setIfInBounds]
              rw [List.set_append_right _ _ (by omega), hl16]; rfl
            rw [← e]; exact hb2
          · refine br_f (by rw [Bool.or_eq_false_iff, beq_eq_false_iff_ne, beq_eq_false_iff_ne]; omega) (J3 w9 ⟨h69, o9, ?_⟩)
            unfold sameB; rw [if_neg hp0, if_neg hk12]; exact hb9
    · have hjN : j = N := by omega
      subst hjN
      refine ⟨(c.lba : Int), by rw [add0, Blk.cell (hgz.heap hc6 (fun q => q))]; rfl, ?_⟩
      have hz6 := h6.grow hgz
      have sz := hgz.size
      refine dev_write_spec (L := samesB kind c b0 j) hz6 (by omega) (by rw [samesB_len]; omega) (fun q hq => ?_) fun y2 D2 hk2 hd2 hD2 => ?_
      · have oo := hown.keep hq fun b hbb e => by
          have := (hown.ge b hbb).1
          have := lD _ e
          omega
        exact oo.rd (by have := oo.len; rw [flat_bc_len, samesB_len] at this; omega)
      · rw [samesB_len] at hd2
        refine lastW ((hgz.mono fun _ _ q => q.elim).trans hk2 fun _ _ q => q) hd2 (fun k q => ?_) fun q hq hdq hDq => kW hun q D2 _ hq hdq hDq
        rcases hD2 k q with r | r
        · exact .inl r
        · exact .inr (by omega)
end
end Go.Proofs.Ytaneeadpjelomaa
