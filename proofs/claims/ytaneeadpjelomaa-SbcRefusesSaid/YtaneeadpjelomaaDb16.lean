import Derived.Test.YtaneeadpjelomaaDb15
/- Layer 14: the law of writes that are split. -/
namespace Go.Proofs.Ytaneeadpjelomaa
open Go CF

theorem sbcSplits_spec {p : Sl} {lp : L8} {LB P : Nat} {same : Bool} {w : World} {R : Bool → World → Prop} (hp : Rd w 1 p (bv lp)) (hpb : p.n ≤ 140737488351232) (hLB : LB < 256) (hP : P < 256) (h : ∀ w', Grow w w' → R true w') :
    Cpalletlaw14_SbcSplits p (LB : Int) (P : Int) same w R := by
  refine Fpalletlaw14_SbcSplits.calls _ _ _ _ _ _ ?_
  unfold Fpalletlaw14_SbcSplits
  have hln := rd_n' hp
  have hcap := hp.cap
  have eN : mn (IntKind.wrap .i64 ((p.n : Int).tdiv 16)) 6 = ((min (p.n / 16) 6 : Nat) : Int) := by
    have : ((p.n : Int).tdiv 16) = ((p.n / 16 : Nat) : Int) := rfl
    rw [this, w64 (by omega) (by omega)]
    exact mn_nat (p.n / 16) 6
  rw [eN]
  generalize hN : min (p.n / 16) 6 = N
  have e16 : IntKind.wrap .i64 (16 * (N : Int)) = ((16 * N : Nat) : Int) := by rw [w64 (by omega) (by omega)]; omega
  have eL1 : ((IntKind.wrap .i64 (LB : Int)).tmod 10) = ((LB % 10 : Nat) : Int) := by rw [w64 (by omega) (by omega)]; rfl
  have hlb : LB % 10 < 10 := Nat.mod_lt _ (by decide)
  have eL : IntKind.wrap .u64 ((LB % 10 : Nat) : Int) = ((LB % 10 : Nat) : Int) := wu64 (by omega) (by omega)
  have eK : ((P : Int).tmod 4) = ((P % 4 : Nat) : Int) := rfl
  have eB : IntKind.wrap .u64 (N : Int) = (N : Int) := wu64 (by omega) (by omega)
  rw [e16, eL1, eL, eK, eB]
  have hkd : P % 4 ≤ 3 := by omega
  generalize P % 4 = kd at *
  generalize LB % 10 = lba at *
  refine awake14_spec fun w0 hg0 => br_f rfl ⟨by decide, by decide, by decide, ?_⟩
  refine device_specK (n := 16) (kind := kd) (cache := true) (by decide) hkd fun dv ps pw D w1 qd1 qp1 L1 => ?_
  refine device_specK (n := 16) (kind := kd) (cache := true) (by decide) hkd fun dv' ps' pw' D' w2 qd2 qp2 L2 => ?_
  have s1 := L1.grow.size
  have lt1 := fun k (q : D k) => L1.dvs.isW.lt q
  have ld1 := lt_of_heap L1.dvs.dev
  have lp1 := lt_of_heap L1.dvs.isS
  have T2 : Tw w0 w2 kd dv ps pw D st0 (List.replicate 16 emptyB) 0 dv' ps' pw' D' st0 (List.replicate 16 emptyB) 0 [] [] :=
    ⟨L1.go L2.grow, ⟨L1.grow.trans L2.grow, L2.dvs, fun k q => by have := L2.above k q; omega, fun x hx => (by cases hx), fun x hx => (by cases hx)⟩, fun k q r => by have := lt1 k q; have := L2.above k r; omega,
      ⟨fun q => by have := lt1 _ q; omega, fun q => by have := lt1 _ q; omega⟩, ⟨fun q => by have := L2.above _ q; omega, fun q => by have := L2.above _ q; omega⟩⟩
  clear L1 L2
  by_cases hN0 : N = 0
  · exact br_t (by rw [hN0]; rfl) (h w2 (hg0.trans T2.a.grow))
  refine br_f (by rw [Bool.or_eq_false_iff, beq_eq_false_iff_ne]; exact ⟨rfl, by omega⟩) ?_
  refine new_rule fun cb w3 hcb hb3 hg3 hsz3 => ?_
  refine storeVar_rule (cells := (cmv ⟨8, false, lba, N, 0, false, 0, false, false, 0, 0, false, 0, 0, false⟩).toArray) hb3 i_api_Cmd rfl rfl (by simp [cmv, Value.oneCell']) fun w4 hb4 hk4 hsz4 => ?_
  have hg4 : Grow w2 w4 := hg3.keep hk4 fun i hi q => by omega
  have bnd : (0 : Int) ≤ (0 : Int) ∧ (0 : Int) ≤ ((16 * N : Nat) : Int) ∧ ((16 * N : Nat) : Int) ≤ (p.c : Int) ∧ p.n ≤ p.c := ⟨by decide, by omega, by omega, hcap⟩
  have bnd16 : (0 : Int) ≤ (0 : Int) ∧ (0 : Int) ≤ (16 : Int) ∧ (16 : Int) ≤ (p.c : Int) ∧ p.n ≤ p.c := ⟨by decide, by decide, by omega, hcap⟩
  have hE : Fine kd (List.replicate 16 emptyB) := fine_rep kd 16
  have hEl : (List.replicate 16 emptyB).length = 16 := List.length_replicate
  generalize List.replicate 16 emptyB = E at *
  refine ⟨bnd, ?_⟩
  simp only [Int.toNat_natCast]
  refine letX1 (fun (q : Sl) (x : World) => ∀ K : Array Value → World → Prop, (∀ v D1 st1 m1 XS, XsOk kd lba N same lp XS → m1 ≤ 1000 → Tw w0 v kd dv ps pw D1 st1 (setAll E lba XS N) m1 dv' ps' pw' D' st0 E 0 [] [] → K (rsv 0 sn0 nilS).toArray v) →
      ∃ g1 : Array Value, (loadVar t_api_Cmd ⟨cb, 0, none⟩).run Try.prog x = .ok (.agg g1) x ∧ Csbc_Dev_Do (some ⟨dv, 0, none⟩) g1 q x K) ?_ (fun J => ?_)
  case refine_2 =>
    cases same with
    | false =>
      refine br_f rfl (J _ _ fun K hK => ⟨_, cLoad (blk_cells hb4), ?_⟩)
      have T4 := T2.go hg4
      have hcut : Rd w4 1 ⟨cutA p.A p.c 0 1, 16 * N - 0, p.c - 0⟩ (bv (lp.take (16 * N))) := (hp.grow (hg0.trans T4.a.grow)).cutB (l := 0) (k := 16 * N) (Nat.zero_le _) (by omega)
      refine T4.a.write0K (by decide) (c := ⟨8, false, lba, N, 0, false, 0, false, false, 0, 0, false, 0, 0, false⟩) (.inl rfl) rfl (by show lba + N ≤ 16; omega) hcut (by rw [List.length_take]; show _ = 16 * N; omega) fun v D1 hk1 hD1 L1 => ?_
      exact hK v D1 _ (0 + N + 1) _ (xs_many (by omega)) (by omega) (T4.one L1 hk1 hD1 (fun x q => .inl q) (fun x q => .inl q))
    | true =>
      refine br_t rfl ?_
      rw [add0]
      refine put_rule hb4 (by simp [cmv]) rfl fun w5 hb5 hk5 _ => ⟨bnd16, J _ _ fun K hK => ?_⟩
      have hg5 : Grow w2 w5 := hg4.keep hk5 fun i hi q => by omega
      have hb5 : Blk w5 cb (cmv ⟨12, false, lba, N, 0, false, 0, false, false, 0, 0, false, 0, 0, false⟩).toArray t_api_Cmd := hb5
      refine ⟨_, cLoad (blk_cells hb5), ?_⟩
      have T5 := T2.go hg5
      have hcut : Rd w5 1 ⟨cutA p.A p.c 0 1, 16 - 0, p.c - 0⟩ (bv (lp.take 16)) := (hp.grow (hg0.trans T5.a.grow)).cutB (l := 0) (k := 16) (Nat.zero_le _) (by omega)
      refine T5.a.sameK (by decide) (c := ⟨12, false, lba, N, 0, false, 0, false, false, 0, 0, false, 0, 0, false⟩) rfl rfl (by show lba + N ≤ 16; omega) hcut (by rw [List.length_take]; omega) fun v D1 st1 b0 hb0 hk1 hD1 L1 => ?_
      rw [if_neg (fun q => by cases q.1)] at L1
      have es : sameN 16 ⟨12, false, lba, N, 0, false, 0, false, false, 0, 0, false, 0, 0, false⟩ = N := by unfold sameN; exact if_neg (by show ¬ N = 0; omega)
      rw [es] at L1
      exact hK v D1 _ (0 + N + 1) _ (xs_same rfl rfl hb0) (by omega) (T5.one L1 hk1 hD1 (fun x q => .inl q) (fun x q => .inl q))
  intro q x hI
  refine hI _ fun w6 D1 st1 m1 XS hXS hm1 T6 => ?_
  have hXl := hXS.1
  have hfB := xs_fine hXS hE (F := lba) (by omega)
  refine T6.res fun ab w7 hg67 hab T7 => ?_
  refine ⟨fun i y => ∃ (j : Nat) (D2 : Nat → Prop) (st2 : Wst) (m2 : Nat), i = j ∧ j ≤ N ∧ m2 ≤ 2 * j ∧ Tw w0 y kd dv ps pw D1 st1 (setAll E lba XS N) m1 dv' ps' pw' D2 st2 (setAll E lba XS j) m2 [(ab, rsv 0 sn0 nilS, t_api_Result)] [], fun i _ => 6 - i.toNat,
    ⟨0, D', st0, 0, rfl, Nat.zero_le _, Nat.le_refl _, T7⟩, ?_⟩
  rintro i y ⟨j, D2, st2, m2, rfl, hj, hm2, T⟩
  have hpy := hp.grow (hg0.trans T.a.grow)
  refine br_nat (fun hlt => ?_) (fun hge => ?_)
  · refine letX0 (fun z => ∃ (D3 : Nat → Prop) (st3 : Wst) (m3 : Nat), m3 ≤ 2 * (j + 1) ∧ Tw w0 z kd dv ps pw D1 st1 (setAll E lba XS N) m1 dv' ps' pw' D3 st3 (setAll E lba XS (j + 1)) m3 [(ab, rsv 0 sn0 nilS, t_api_Result)] []) (fun z hz => by
      obtain ⟨D3, st3, m3, hm3, T3⟩ := hz
      rw [w64 (by omega) (by omega)]
      exact ⟨⟨j + 1, D3, st3, m3, by omega, by omega, hm3, T3⟩, by dsimp only; omega⟩) (fun J => ?_)
    have f1 : IntKind.wrap .i64 (16 * (j : Int)) = ((16 * j : Nat) : Int) := by rw [w64 (by omega) (by omega)]; omega
    have f2 : IntKind.wrap .i64 (((16 * j : Nat) : Int) + 16) = ((16 * j + 16 : Nat) : Int) := by rw [w64 (by omega) (by omega)]; omega
    have f3 : IntKind.wrap .u64 (IntKind.wrap .i64 ((lba : Int) + (j : Int))) = ((lba + j : Nat) : Int) := by rw [w64 (by omega) (by omega), wu64 (by omega) (by omega)]; omega
    rw [f1, f2, f3]
    refine ⟨⟨by omega, by omega, by omega, hcap⟩, ?_⟩
    refine letX1 (fun (one : Sl) z => z = y ∧ Rd y 1 one (bv (chunkS same lp j))) ?_ (fun J1 => ?_)
    · rintro one z ⟨rfl, hone⟩
      have hcl := chunk_len (same := same) (l := lp) (i := j) (N := N) (by omega) hlt
      refine T.swap.a.write0K (by omega) (c := ⟨8, false, lba + j, 1, 0, false, 0, false, false, 0, 0, false, 0, 0, false⟩) (.inl rfl) rfl (by show lba + j + 1 ≤ 16; omega) hone hcl fun v D3 hk3 hD3 L3 => ?_
      obtain ⟨b, hb1, hb2⟩ := hXS.2 j hlt
      have L3 := L3
      rw [show setAll (setAll E lba XS j) (Cm.lba ⟨8, false, lba + j, 1, 0, false, 0, false, false, 0, 0, false, 0, 0, false⟩) (mkAll kd (Cm.lba ⟨8, false, lba + j, 1, 0, false, 0, false, false, 0, 0, false, 0, 0, false⟩) (unpB false (chunkS same lp j)) (Cm.blocks ⟨8, false, lba + j, 1, 0, false, 0, false, false, 0, 0, false, 0, 0, false⟩)) (Cm.blocks ⟨8, false, lba + j, 1, 0, false, 0, false, false, 0, 0, false, 0, 0, false⟩) = setAll E lba XS (j + 1) from one_step hcl hb1 hb2] at L3
      have T3 := (T.swap.one L3 hk3 hD3 (fun x q => .inl q) (fun x q => .inl q)).swap
      refine T3.res fun sb v2 hg2 hsb T4 => ?_
      refine ⟨0, by rw [add0, Blk.cell T4.a.held]; rfl, br_f rfl (J v2 ⟨D3, _, m2 + 1 + 1, by omega, T4.sub (fun x q => List.mem_cons_of_mem _ q) (fun x q => q)⟩)⟩
    · cases same with
      | false =>
        refine br_f rfl (J1 _ _ ⟨rfl, ?_⟩)
        rw [Int.toNat_natCast, Int.toNat_natCast]
        have := hpy.cutB (l := 16 * j) (k := 16 * j + 16) (by omega) (by omega)
        rw [show 16 * j + 16 - 16 * j = 16 by omega] at this ⊢
        exact this
      | true =>
        exact br_t rfl ⟨bnd16, J1 _ _ ⟨rfl, hpy.cutB (l := 0) (k := 16) (Nat.zero_le _) (by omega)⟩⟩
  have hjN : j = N := by omega
  subst hjN
  generalize hB : setAll E lba XS j = B at *
  have hBl : B.length = 16 := by rw [← hB, setAll_len]; exact hEl
  have hwN : ∃ wN : Nat, wN ≤ 1 ∧ knownB kd wN = true ∧ wN = if kd > 0 then 1 else 0 := by
    refine ⟨if kd > 0 then 1 else 0, by split <;> decide, ?_, rfl⟩
    unfold knownB
    split
    · simp; omega
    · simp; omega
  obtain ⟨wN, hw1, hwk, hwe⟩ := hwN
  refine letX1 (fun (with_ : Int) z => z = y ∧ with_ = (wN : Int)) ?_ (fun J => br_dec (fun q => J _ _ ⟨rfl, by rw [hwe, if_pos (by omega)]; rfl⟩) (fun q => J _ _ ⟨rfl, by rw [hwe, if_neg (by omega)]; rfl⟩))
  rintro with_ z ⟨rfl, rfl⟩
  refine T.a.readK (by omega) (c := ⟨7, false, 0, 16, 0, false, wN, false, false, 0, 0, false, 0, 0, false⟩) rfl hwk (by show 0 + 16 ≤ 16; decide) (rd_nilB _) (by decide) hfB fun d v1 hk1 hr1 L1 hdn hown1 => ?_
  have T1 := T.one L1 hk1 (fun _ q => .inl q) (fun x q => .inl q) (fun x q => by
    rcases List.mem_cons.1 q with rfl | q
    · exact .inr fun b hb => (hown1.ge b hb).1
    · exact .inl q)
  refine T1.res fun xb v2 hg2 hxb T3 => ?_
  have hdl : ((B.drop 0).take 16) = B := by rw [List.drop_zero, List.take_of_length_le (by omega)]
  have T3 : Tw w0 v2 kd dv ps pw D1 { st1 with ops := st1.ops + 16 } B (m1 + 16) dv' ps' pw' D2 st2 B m2 [(xb, rsv 0 sn0 d, t_api_Result), (ab, rsv 0 sn0 nilS, t_api_Result)] [(d, packB (decide (wN ≠ 0)) ((B.drop 0).take 16))] := T3
  rw [hdl] at T3
  generalize hwt : decide (wN ≠ 0) = wt at *
  have hs24 : szB wt ≤ 24 := by unfold szB; split <;> decide
  have hlt2 := fun k (q : D2 k) => T3.b.dvs.isW.lt q
  refine ⟨fun all i u => ∃ k : Nat, i = k ∧ k ≤ 16 ∧ Keep D2 v2 u ∧ IsWB u pw' D2 { st2 with ops := st2.ops + k } v2.heap.size ∧ Own u v2.heap.size t_uint8 1 all (bv (packB wt (B.take k))), fun _ i _ => 16 - i.toNat,
    ⟨0, rfl, Nat.zero_le _, Keep.refl _ _, T3.b.dvs.isW.toB, by rw [List.take_zero]; exact own_nil _ _ _ _⟩, ?_⟩
  rintro all i u ⟨k, rfl, hk, hku, hWu, hown⟩
  have Lu : Lw w0 u dv' ps' pw' s_f kd 16 true D2 { st2 with ops := st2.ops + k } B (m2 + k) [(xb, rsv 0 sn0 d, t_api_Result), (ab, rsv 0 sn0 nilS, t_api_Result)] [(d, packB wt B)] := T3.b.step hku (T3.b.dvs.ops hku hWu.isW) (fun _ q => .inl q)
  have han : all.n = k * szB wt := by
    have := own_n' hown
    rw [packB_len, List.length_take, hBl, Nat.min_eq_left hk] at this
    exact this
  have hmul : k * szB wt ≤ 16 * 24 := Nat.mul_le_mul hk hs24
  refine br_nat (y := 16) (fun hlt => ?_) (fun hge => ?_)
  · rw [wu64 (by omega) (by omega)]
    have hkB : k < B.length := by omega
    refine Lu.readK (by omega) (c := ⟨7, false, k, 1, 0, false, wN, false, false, 0, 0, false, 0, 0, false⟩) rfl hwk (by show k + 1 ≤ 16; omega) (rd_nilB _) (by decide) hfB fun e u1 hk2 hr2 L2 hen howne => ?_
    rw [show decide ((Cm.prot ⟨7, false, k, 1, 0, false, wN, false, false, 0, 0, false, 0, 0, false⟩) ≠ 0) = wt from hwt] at howne hen
    have hone : (B.drop k).take 1 = [B[k]] := by rw [List.drop_eq_getElem_cons hkB]; rfl
    have howne : Own u1 u.heap.size t_uint8 1 e (bv (packB wt ((B.drop k).take 1))) := howne
    have hen : e.n = 1 * szB wt := hen
    rw [hone] at howne
    refine new_rule fun sb u2 hsb hb2 hg3 hsz3 => lay_rule (st := 0) (s := sn0) (d := e) hb2 rfl fun u3 hb3 hk3 hsz4 => ?_
    have hg13 : Grow u1 u3 := hg3.keep hk3 fun i hi q => by omega
    refine ⟨0, by rw [add0, Blk.cell hb3]; rfl, br_f rfl ⟨e, by rw [add0, Blk.cell hb3]; rfl, ?_⟩⟩
    have hku3 : Keep D2 v2 u3 := (hku.trans hk2 fun _ _ q => q).grow hg13
    have nall : ∀ b, all.blk = some b → ¬ D2 b := fun b hb q => by have := (hown.ge b hb).1; have := hlt2 _ q; omega
    have hown3 := (hown.keep hk2 nall).grow hg13
    refine append_rule u_sl_uint8 i_uint8 rfl (by decide) (by decide) hown3 ((howne.grow hg13).rd (by omega)) (bv_one' _) (by show (all.n + e.n) * 1 ≤ _; omega) hku3.size fun all1 u4 hn4 hown4 hk4 _ => ?_
    rw [w64 (by omega) (by omega)]
    refine ⟨⟨k + 1, by omega, by omega, hku3.trans (S' := fun b => some b = all.blk) hk4 fun i hi q => by have := (hown.ge i q.symm).1; omega, ?_, ?_⟩, by dsimp only; omega⟩
    · have hW3 := (hr2 _ hWu).grow hg13
      exact hW3.keep hk4 (fun b hb q => nall b q.symm hb) (fun g cur hg q => (hown.ge g q.symm).1)
    · rw [← bv_append] at hown4
      rw [packB_succ wt hkB]
      have : packB wt [B[k]] = wireB wt B[k] := by simp [packB]
      rw [this] at hown4
      exact hown4
  · have hk16 : k = 16 := by omega
    subst hk16
    rw [List.take_of_length_le (by omega)] at hown
    have hx := (Lu.loc _ List.mem_cons_self).1
    have ha := (Lu.loc _ (List.mem_cons_of_mem _ List.mem_cons_self)).1
    have hd := (Lu.row _ List.mem_cons_self).1
    have hd : Rd u 1 d (bv (packB wt B)) := hd
    refine ⟨0, by rw [add0, Blk.cell ha]; rfl, 0, fun _ => by rw [add0, Blk.cell hx]; rfl, d, fun _ => by rw [add0, Blk.cell hx]; rfl, str (packB wt B), fun _ => convStr_rule u_sl_uint8 u_uint8 u_string hd, str (packB wt B), fun _ => convStr_rule u_sl_uint8 u_uint8 u_string (hown.rd (by omega)), ?_⟩
    have := h u (hg0.trans Lu.grow)
    simpa [sEq_str] using this
theorem sbcSplits_row {p : Sl} {lp : L8} {x y : Int} {same : Bool} {w : World} {R : Bool → World → Prop} (hp : Rd w 1 p (bv lp)) (hpb : p.n ≤ 140737488351232) (hx : (Lit.int .u8 x).wf = true) (hy : (Lit.int .u8 y).wf = true) (h : ∀ w', Grow w w' → R true w') :
    Cpalletlaw14_SbcSplits p x y same w R := by
  obtain ⟨A, rfl, hA⟩ := int_u8 hx
  obtain ⟨B, rfl, hB⟩ := int_u8 hy
  exact sbcSplits_spec hp hpb hA hB h
end Go.Proofs.Ytaneeadpjelomaa
