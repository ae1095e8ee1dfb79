import Derived.Test.YtaneeadpjelomaaB5
/- Layer 14: SbcPrefix. -/
namespace Go.Proofs.Ytaneeadpjelomaa
open Go CF
theorem fine0 (kind : Nat) (hk : kind = 0) (bs : List Bk) : Fine kind bs := fun i hi prot => by subst hk; simp [chkB]
set_option maxHeartbeats 1000000 in
theorem sbcPrefix_spec {p : Sl} {lp : L8} {fl lb : Nat} {same : Bool} {w : World} {R : Bool → World → Prop} (hp : Rd w 1 p (bv lp)) (hpb : p.n ≤ 140737488351232) (hfl : fl < 256) (hlb : lb < 256) (h : ∀ w', Grow w w' → R true w') :
    Cpalletlaw14_SbcPrefix p (fl : Int) (lb : Int) same w R := by
  refine Fpalletlaw14_SbcPrefix.calls _ _ _ _ _ _ ?_
  have hcap := hp.cap
  have hln := rd_n' hp
  unfold Fpalletlaw14_SbcPrefix
  have en : IntKind.wrap .i64 ((p.n : Int).tdiv 16) = ((p.n / 16 : Nat) : Int) := by rw [show (p.n : Int).tdiv 16 = ((p.n / 16 : Nat) : Int) from rfl]; exact w64 (by omega) (by omega)
  have ek : (IntKind.wrap .i64 (fl : Int)).tmod 12 = ((fl % 12 : Nat) : Int) := by rw [w64 (by omega) (by omega)]; rfl
  have ea : (IntKind.wrap .i64 (lb : Int)).tmod 8 = ((lb % 8 : Nat) : Int) := by rw [w64 (by omega) (by omega)]; rfl
  rw [en, ek, ea]
  have hK : fl % 12 < 12 := Nat.mod_lt _ (by decide)
  have hA : lb % 8 < 8 := Nat.mod_lt _ (by decide)
  have hN : p.n / 16 * 16 ≤ p.n := Nat.div_mul_le_self _ _
  generalize fl % 12 = K at *
  generalize lb % 8 = A at *
  generalize p.n / 16 = N at *
  refine awake14_spec fun w0 hg0 => br_f rfl ⟨by decide, by decide, ?_⟩
  by_cases hbad : N = 0 ∨ 8 < N
  · exact br_t (by rw [Bool.or_eq_true, beq_iff_eq, decide_eq_true_eq]; omega) (h w0 hg0)
  refine br_f (by rw [Bool.or_eq_false_iff, beq_eq_false_iff_ne, decide_eq_false_iff_not]; omega) ?_
  refine device_spec (n := 16) (kind := 0) (cache := true) (by decide) (by decide) fun dv ps pw D w1 L1 => br_f rfl ?_
  refine bytes14_spec (n := 256) (b := 85) (by decide) (by decide) fun s w2 hown2 hg2 hsn => ?_
  have L2 := L1.go hg2
  have hQ : (List.replicate 256 (UInt8.ofNat 85)).length = 256 := List.length_replicate
  have hQv : ∀ i, i < 256 → (List.replicate 256 (UInt8.ofNat 85))[i]? = some 85 := fun i hi => by rw [List.getElem?_replicate, if_pos hi]; rfl
  generalize List.replicate 256 (UInt8.ofNat 85) = Q at *
  refine L2.write0 (by decide) (c := ⟨8, false, 0, 16, 0, false, 0, false, false, 0, 0, false, 0, 0, false⟩) (.inl rfl) rfl (by decide) (hown2.rd (by omega)) hQ fun w3 D3 L3 => ?_
  have hmk := mk_len (kind := 0) (lba := 0) (N := 16) (l := Q) hQ
  have hB1l : (setAll (List.replicate 16 emptyB) 0 (mkAll 0 0 (unpB false Q) 16) 16).length = 16 := by rw [setAll_len, List.length_replicate]
  have hpart := setAll_read (bs := List.replicate 16 emptyB) (F := 0) (xs := mkAll 0 0 (unpB false Q) 16) (by rw [hmk, List.length_replicate]; omega)
  rw [hmk, List.drop_zero, List.take_of_length_le (by omega)] at hpart
  have hpB : packB false (setAll (List.replicate 16 emptyB) 0 (mkAll 0 0 (unpB false Q) 16) 16) = Q := by
    rw [hpart]; exact mk_bytes (by rw [hQ])
  have L3 : Lw w0 w3 dv ps pw s_f 0 16 true D3 (syncIf (syncs 16 (false || decide ((8 : Nat) = 9)) true) (layW st0 s_f 0 (rsOf (mkAll 0 0 (unpB false Q) 16)) 16)) (setAll (List.replicate 16 emptyB) 0 (mkAll 0 0 (unpB false Q) 16) 16) (0 + 16 + 1) [] [] := L3
  generalize setAll (List.replicate 16 emptyB) 0 (mkAll 0 0 (unpB false Q) 16) 16 = B at *
  refine L3.res fun rb w4 L4 => ?_
  refine ⟨0, by rw [add0, Blk.cell L4.held]; rfl, br_f rfl ⟨by decide, ?_⟩⟩
  refine lit_rule (cells := #[.int .i64 (K : Int)]) (e := t_int) (z := 1) (base := 0) (by kernel_rfl) rfl (by decide) (Nat.zero_le _) fun w5 hlit5 hg5 hsz5 => ?_
  have L5 := L4.go hg5
  refine L5.plan (ns := [(K : Int)]) (fun v hv => (hlit5.keep hv fun b hb q => ?_).rd (by show 1 ≤ _; decide)) fun w6 D6 hk6 hD6 L6 => ?_
  · obtain rfl : w4.heap.size = b := by simpa [Sl.blk] using hb
    have := L4.dvs.isW.lt q
    omega
  refine new_rule fun cb w7 hcb hb7 hg7 hsz7 => ?_
  have eA : IntKind.wrap .u64 (A : Int) = (A : Int) := wu64 (by omega) (by omega)
  have eN : IntKind.wrap .u64 (N : Int) = (N : Int) := wu64 (by omega) (by omega)
  have e16 : IntKind.wrap .i64 (16 * (N : Int)) = ((16 * N : Nat) : Int) := by rw [w64 (by omega) (by omega)]; omega
  rw [eA, eN, e16]
  refine storeVar_rule (cells := (cmv ⟨8, false, A, N, 0, false, 0, false, false, 0, 0, false, 0, 0, false⟩).toArray) hb7 i_api_Cmd rfl rfl (by simp [cmv, Value.oneCell']) fun w8 hb8 hk8 hsz8 => ?_
  have hg68 : Grow w6 w8 := hg7.keep hk8 fun i hi q => by omega
  have M8 := L6.go hg68
  refine ⟨⟨by decide, by omega, by omega, hcap⟩, ?_⟩
  have hw8 : Grow w w8 := hg0.trans M8.grow
  have hst : ∀ i : Nat, planOf [(K : Int)] (((0 : Nat) + i : Nat) : Int) = decide (i = K) := fun i => by
    unfold planOf
    rw [Nat.zero_add]
    exact decide_eq_decide.2 ⟨fun q => by have := List.mem_singleton.1 q; omega, fun q => List.mem_singleton.2 (by omega)⟩
  refine letX1 (fun (q : Sl) (x : World) => ∃ lq : L8, (∀ u, Grow w u → Rd u 1 q (bv lq)) ∧ (lq.length = 16 * N ∨ lq.length = 16) ∧ ∀ K' : Array Value → World → Prop,
      (∀ v D' st' xs done s sn, Lwq w0 v dv ps pw s_f 0 16 true D' st' (setAll B A xs done) (0 + 16 + 1 + N + 1) [(rb, rsv 0 sn0 nilS, t_api_Result)] [] (planOf [(K : Int)]) → xs.length = N → (∀ i, i < 16 * N → (packB false xs)[i]? = lq[i % lq.length]?) →
        ((K < N ∧ done = K ∧ s = 2 ∧ sn = atS 3 0x0c00 (A + K)) ∨ (N ≤ K ∧ done = N ∧ s = 0 ∧ sn = sn0)) → K' (rsv s sn nilS).toArray v) →
      ∃ g1 : Array Value, (loadVar t_api_Cmd ⟨cb, 0, none⟩).run Try.prog x = .ok (.agg g1) x ∧ Csbc_Dev_Do (some ⟨dv, 0, none⟩) g1 q x K') ?_ (fun J => ?_)
  case refine_2 =>
    cases same with
    | false =>
      have hcut : ∀ u, Grow w u → Rd u 1 ⟨cutA p.A p.c 0 1, 16 * N - 0, p.c - 0⟩ (bv (lp.take (16 * N))) := fun u hu => (hp.grow hu).cutB (l := 0) (k := 16 * N) (Nat.zero_le _) (by omega)
      have hll : (lp.take (16 * N)).length = 16 * N := by rw [List.length_take]; omega
      refine br_f rfl (J _ _ ⟨lp.take (16 * N), hcut, .inl hll, fun K' hK' => ⟨_, cLoad (blk_cells hb8), ?_⟩⟩)
      have hxl := mk_len (kind := 0) (lba := A) (N := N) hll
      have hxb : ∀ i, i < 16 * N → (packB false (mkAll 0 A (unpB false (lp.take (16 * N))) N))[i]? = (lp.take (16 * N))[i % (lp.take (16 * N)).length]? := fun i hi => by
        rw [mk_bytes (by rw [hll]; omega), hll, Nat.mod_eq_of_lt hi]
      refine M8.writeP (by omega) (c := ⟨8, false, A, N, 0, false, 0, false, false, 0, 0, false, 0, 0, false⟩) rfl rfl rfl (by show A + N ≤ 16; omega) (hcut w8 hw8) hll (fun hno v D' st' _ _ LL => ?_) (fun k hk hno hyes v D' st' _ _ LL => ?_)
      · refine hK' v D' st' _ N 0 sn0 LL hxl hxb (.inr ⟨?_, rfl, rfl, rfl⟩)
        refine Nat.le_of_not_lt fun q => ?_
        have := hno K q
        have e := hst K
        rw [decide_eq_true rfl] at e
        exact absurd (this.symm.trans e) (by decide)
      · have hkK : k = K := of_decide_eq_true ((hst k).symm.trans hyes)
        subst hkK
        exact hK' v D' st' _ k 2 _ LL hxl hxb (.inl ⟨hk, rfl, rfl, rfl⟩)
    | true =>
      have hcut : ∀ u, Grow w u → Rd u 1 ⟨cutA p.A p.c 0 1, 16 - 0, p.c - 0⟩ (bv (lp.take 16)) := fun u hu => (hp.grow hu).cutB (l := 0) (k := 16) (Nat.zero_le _) (by omega)
      have hll : (lp.take 16).length = 16 := by rw [List.length_take]; omega
      refine br_t rfl ?_
      rw [add0]
      refine put_rule hb8 (by show 0 < 15; decide) rfl fun w9 hb9 hk9 hsz9 => ?_
      have hb9 : Blk w9 cb (cmv ⟨12, false, A, N, 0, false, 0, false, false, 0, 0, false, 0, 0, false⟩).toArray t_api_Cmd := hb9
      have hg69 : Grow w6 w9 := hg68.keep hk9 fun i hi q => by omega
      have M9 := L6.go hg69
      have hw9 : Grow w w9 := hg0.trans M9.grow
      refine ⟨⟨by decide, by decide, by omega, hcap⟩, J _ _ ⟨lp.take 16, hcut, .inr hll, fun K' hK' => ⟨_, cLoad (blk_cells hb9), ?_⟩⟩⟩
      have hxb : ∀ b0 : Bk, b0.d = lp.take 16 → ∀ i, i < 16 * N → (packB false (samesB 0 ⟨12, false, A, N, 0, false, 0, false, false, 0, 0, false, 0, 0, false⟩ b0 N))[i]? = (lp.take 16)[i % (lp.take 16).length]? := fun b0 e i hi => by
        rw [packB_sames rfl N i hi, hll, e]
      refine M9.sameP (by omega) (c := ⟨12, false, A, N, 0, false, 0, false, false, 0, 0, false, 0, 0, false⟩) rfl rfl (by show 0 < N; omega) rfl (by show A + N ≤ 16; omega) (hcut w9 hw9) hll (fun b0 hb0 hno v D' st' _ _ LL => ?_) (fun b0 hb0 k hk hno hyes v D' st' _ _ LL => ?_)
      · refine hK' v D' st' _ N 0 sn0 LL (samesB_len _ _ _ _) (hxb b0 hb0) (.inr ⟨?_, rfl, rfl, rfl⟩)
        refine Nat.le_of_not_lt fun q => ?_
        have := hno K q
        have e := hst K
        rw [decide_eq_true rfl] at e
        exact absurd (this.symm.trans e) (by decide)
      · have hkK : k = K := of_decide_eq_true ((hst k).symm.trans hyes)
        subst hkK
        exact hK' v D' st' _ k 2 _ LL (samesB_len _ _ _ _) (hxb b0 hb0) (.inl ⟨hk, rfl, rfl, rfl⟩)
  rintro q x ⟨lq, hq, hql, hdo⟩
  refine hdo _ fun v D' st' xs done s sn LL hxl hxb hcase => ?_
  have hdN : done ≤ N := by rcases hcase with ⟨a, b, _⟩ | ⟨a, b, _⟩ <;> omega
  refine LL.res fun r1 w10 L10 => ?_
  refine L10.plan (ns := []) (fun u _ => rd_nil u 1) fun w11 D11 _ _ L11 => ?_
  rw [planOf_nil] at L11
  have hB2l : (setAll B A xs done).length = 16 := by rw [setAll_len]; exact hB1l
  have hbyte : ∀ i, i < 256 → (packB false (setAll B A xs done))[i]? = if 16 * A ≤ i ∧ i < 16 * (A + done) then lq[(i - 16 * A) % lq.length]? else Q[i]? := fun i hi => by
    rw [prefix_at (by omega) (by omega), hpB]
    split
    · rw [hxb _ (by omega)]
    · rfl
  have hfin := fine0 0 rfl (setAll B A xs done)
  have hpl : (packB false (setAll B A xs done)).length = 256 := by rw [packB_len, hB2l]; rfl
  generalize setAll B A xs done = B2 at *
  refine L11.read (by omega) (c := ⟨7, false, 0, 16, 0, false, 0, false, false, 0, 0, false, 0, 0, false⟩) rfl rfl (by decide) (rd_nilB _) (by decide) hfin fun d w12 L12 hdn hown12 => ?_
  refine L12.res fun l1 w13 L13 => ?_
  have hrow := (L13.row _ List.mem_cons_self).1
  have hrow : Rd w13 1 d (bv (packB false ((B2.drop 0).take 16))) := hrow
  rw [List.drop_zero, List.take_of_length_le (by omega)] at hrow
  have hl13 := L13.held
  have hr13 := (L13.loc _ (List.mem_cons_of_mem _ List.mem_cons_self)).1
  have hg13 := hg0.trans L13.grow
  have hdn : d.n = 256 := hdn
  refine ⟨0, by rw [add0, Blk.cell hl13]; rfl, d, fun _ => by rw [add0, Blk.cell hl13]; rfl, br_f (by rw [hdn]; rfl) ⟨by decide, ?_⟩⟩
  refine letX1 (fun (dn : Int) y => dn = (done : Int) ∧ Grow w13 y) ?_ (fun J => ?_)
  case refine_2 =>
    rcases hcase with ⟨hlt, rfl, rfl, rfl⟩ | ⟨hge, rfl, rfl, rfl⟩
    · refine br_t (decide_eq_true (by omega)) ⟨by decide, ?_⟩
      rintro y rfl
      have gy := keep_drew w13
      refine ⟨fun u => Grow w13 u, gy, (rsv 2 (atS 3 0x0c00 (A + done)) nilS).toArray, fun u hu => rLoad (blk_cells (hu.heap hr13 (fun q => q))), ?_⟩
      rw [w64 (by omega) (by omega), wu64 (by omega) (by omega), show ((A : Int) + (done : Int)) = ((A + done : Nat) : Int) by omega]
      refine at14_spec (key := 3) (code := 0x0c00) fun y2 gy2 => ⟨gy.trans gy2, same14_spec (l := []) (rd_nilB _) (rd_nilB _) fun y3 gy3 => br_f rfl (J _ _ ⟨rfl, (gy.trans gy2).trans gy3⟩)⟩
    · refine br_f (decide_eq_false (by omega)) ⟨0, by rw [add0, Blk.cell hr13]; rfl, br_f rfl (J _ _ ⟨rfl, Keep.refl _ _⟩)⟩
  rintro dn y ⟨rfl, hgy⟩
  have hqn : lq.length = q.n := by have := (hq w (Keep.refl _ _)).len; rw [bv_length] at this; omega
  refine ⟨fun i z => ∃ j : Nat, i = j ∧ j ≤ 256 ∧ Grow w13 z, fun i _ => 256 - i.toNat, ⟨0, rfl, Nat.zero_le _, hgy⟩, ?_⟩
  rintro i z ⟨j, rfl, hj, hgz⟩
  refine br_nat (y := 256) (fun hlt => ?_) (fun hge => h z (hg13.trans hgz))
  refine letX0 (fun t => Grow w13 t) (fun t ht => by
    rw [w64 (by omega) (by omega)]
    exact ⟨⟨j + 1, by omega, by omega, ht⟩, by dsimp only; omega⟩) (fun J => ?_)
  have hv := hbyte j hlt
  refine letX1 (fun (want : Int) t => t = z ∧ ∃ c : UInt8, want = (c.toNat : Int) ∧ (packB false B2)[j]? = some c) ?_ (fun J1 => ?_)
  · rintro want t ⟨rfl, c, rfl, hc⟩
    obtain ⟨aD, cD⟩ := rd_at (hrow.grow hgz) (i := j) (by omega)
    have hc2 : (packB false B2).getD j 0 = c := by rw [List.getD_eq_getElem?_getD, hc]; rfl
    refine ⟨d, by rw [add0, Blk.cell (hgz.heap hl13 (fun q => q))]; rfl, ⟨by omega, by omega, aD⟩, _, by rw [Int.toNat_natCast]; exact cD, ?_⟩
    exact br_f (by rw [hc2, bne_eq_false_iff_eq]) (J _ hgz)
  · have e1 : IntKind.wrap .i64 (16 * (A : Int)) = ((16 * A : Nat) : Int) := by rw [w64 (by omega) (by omega)]; omega
    have e2 : IntKind.wrap .i64 (16 * (done : Int)) = ((16 * done : Nat) : Int) := by rw [w64 (by omega) (by omega)]; omega
    have e3 : IntKind.wrap .i64 ((j : Int) - ((16 * A : Nat) : Int)) = (j : Int) - ((16 * A : Nat) : Int) := w64 (by omega) (by omega)
    rw [e1, e2, e3]
    by_cases hin : 16 * A ≤ j ∧ j < 16 * (A + done)
    · rw [if_pos hin] at hv
      have e4 : (j : Int) - ((16 * A : Nat) : Int) = ((j - 16 * A : Nat) : Int) := by omega
      rw [e4]
      have hq0 : 0 < q.n := by omega
      have hmod : (j - 16 * A) % q.n < q.n := Nat.mod_lt _ hq0
      have e5 : (((j - 16 * A : Nat) : Int)).tmod (q.n : Int) = (((j - 16 * A) % q.n : Nat) : Int) := rfl
      rw [e5]
      obtain ⟨aT, cT⟩ := rd_at (hq z (hg13.trans hgz)) (i := (j - 16 * A) % q.n) (by omega)
      refine br_t (by rw [Bool.and_eq_true, decide_eq_true_eq, decide_eq_true_eq]; omega) ⟨by omega, ⟨by omega, by omega, aT⟩, _, by rw [Int.toNat_natCast]; exact cT, J1 _ _ ⟨rfl, _, rfl, ?_⟩⟩
      rw [hv, hqn, List.getD_eq_getElem?_getD, List.getElem?_eq_getElem (by omega)]; rfl
    · rw [if_neg hin] at hv
      refine br_f (by rw [Bool.and_eq_false_iff, decide_eq_false_iff_not, decide_eq_false_iff_not]; omega) (J1 _ _ ⟨rfl, 85, rfl, by rw [hv, hQv j hlt]⟩)
theorem sbcPrefix_row {p : Sl} {lp : L8} {x y : Int} {same : Bool} {w : World} {R : Bool → World → Prop} (hp : Rd w 1 p (bv lp)) (hpb : p.n ≤ 140737488351232) (hx : (Lit.int .u8 x).wf = true) (hy : (Lit.int .u8 y).wf = true) (h : ∀ w', Grow w w' → R true w') :
    Cpalletlaw14_SbcPrefix p x y same w R := by
  obtain ⟨A, rfl, hA⟩ := int_u8 hx
  obtain ⟨B, rfl, hB⟩ := int_u8 hy
  exact sbcPrefix_spec hp hpb hA hB h
end Go.Proofs.Ytaneeadpjelomaa
