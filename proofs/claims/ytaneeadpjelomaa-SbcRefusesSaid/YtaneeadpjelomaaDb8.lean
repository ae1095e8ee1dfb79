import Derived.Test.YtaneeadpjelomaaDb7
import Derived.Test.YtaneeadpjelomaaWo5
/- Layer 14: the law of what is verified. -/
namespace Go.Proofs.Ytaneeadpjelomaa
open Go CF

section
variable {w u u' v v' : World} {dv ps pw : Nat} {file : ByteArray} {kind n : Nat} {cache : Bool} {D D' : Nat → Prop} {st st' : Wst} {bs bs' : List Bk} {m m' : Nat} {ls : List (Nat × List Value × TypeId)} {rows : List (Sl × L8)}
theorem Lw.fin {ab : Nat} (L : Lw w u dv ps pw file kind n cache D st bs m ls rows) (hg : Grow u u') (hb : Blk u' ab z10 t_api_Result) (hab : u.heap.size ≤ ab) (hk : Keep D u' v) (hd : Dv v dv ps pw file kind n cache D' st' bs' m') (hD : ∀ k, D' k → D k ∨ u'.heap.size ≤ k) (hk' : Keep (fun k => k = ab) v v') :
    Lw w v' dv ps pw file kind n cache D' st' bs' m' ls rows := by
  have nab : ¬ D ab := fun q => by have := L.dvs.isW.lt q; omega
  have sg := hg.size
  have nab' : ¬ D' ab := fun q => by
    rcases hD _ q with r | r
    · exact nab r
    · have := lt_of_heap hb; omega
  have hbv := hk.heap hb nab
  refine L.step (keepD_new ((hg.mono fun _ _ q => q.elim).trans hk fun _ _ q => q) hab hk') (hd.put hbv tne_result (by decide) (by decide) nab' hk') fun k q => ?_
  rcases hD k q with r | r
  · exact .inl r
  · exact .inr (by omega)
theorem fin_keep {ab : Nat} (hg : Grow u u') (hab : u.heap.size ≤ ab) (hk : Keep D u' v) (hk' : Keep (fun k => k = ab) v v') : Keep D u v' := keepD_new ((hg.mono fun _ _ q => q.elim).trans hk fun _ _ q => q) hab hk'
theorem Lw.verify (L : Lw w u dv ps pw file kind n cache D st bs m ls rows) (hm : m ≤ 1000000) {c : Cm} {p : Sl} {l : L8} {K : Array Value → World → Prop} (hk : c.kind = 10) (hkn : knownB kind c.prot = true) (hc : c.lba + c.blocks ≤ n) (hp : Rd u 1 p (bv l)) (hpb : p.n ≤ 140737488351232) (hf : Fine kind bs)
    (hl : c.bytes = true → l.length = szB (decide (c.prot ≠ 0)) * c.blocks)
    (h1 : c.bytes = true → ∀ i, firstNe (packB false ((bs.drop c.lba).take c.blocks)) (packB false (unpB (decide (c.prot ≠ 0)) l)) = some i → ∀ v, Lw w v dv ps pw file kind n cache D { st with ops := st.ops + c.blocks } bs (m + c.blocks) ls rows → K (rsv 2 (atS 14 0x1d00 i) nilS).toArray v)
    (h2 : (c.bytes = true → firstNe (packB false ((bs.drop c.lba).take c.blocks)) (packB false (unpB (decide (c.prot ≠ 0)) l)) = none) → ∀ v, Lw w v dv ps pw file kind n cache D { st with ops := st.ops + c.blocks } bs (m + c.blocks) ls rows → K (rsv 0 sn0 nilS).toArray v) :
    Csbc_Dev_Do (some ⟨dv, 0, none⟩) (cmv c).toArray p u K := by
  have hsz := L.dvs.size
  refine do_spec L.dvs hm hp hpb (by omega) (by omega) (fun q => by rw [hkn] at q; cases q) (fun _ _ _ q => by omega) (fun _ q => by omega) (fun _ q => by omega) (fun _ q => by omega) (fun _ q => by omega) (fun _ q => by omega) (fun _ q => by omega)
    (fun _ _ ab y hy hab hby => ⟨fun _ => ?_, fun q => by omega, fun q => by omega, fun q => by omega, fun q => by omega⟩) (fun _ _ _ _ a _ _ _ _ _ => by omega)
  have hs16 : 16 ≤ szB (decide (c.prot ≠ 0)) := by unfold szB; split <;> decide
  have fin : ∀ {z : World}, Keep D y z → IsW z pw D { st with ops := st.ops + c.blocks } → ∀ v', Keep (fun k => k = ab) z v' → Lw w v' dv ps pw file kind n cache D { st with ops := st.ops + c.blocks } bs (m + c.blocks) ls rows := fun {z} hz hw v' hv' =>
    L.fin hy hby hab hz ((L.dvs.grow hy).ops hz hw) (fun _ q => .inl q) hv'
  refine dev_verify_spec (L.dvs.grow hy) hm (hp.grow hy) hpb hc (fun q r => ?_) (fun i hi q => absurd (fine_part hf i hi c.prot) q) (fun _ hby' i hi z hz hw => ⟨hz, 2, _, nilS, rfl, fun v' hv' => h1 hby' i hi v' (fin hz hw v' hv')⟩) (fun _ hno z hz hw => ⟨hz, 0, sn0, nilS, rfl, fun v' hv' => h2 hno v' (fin hz hw v' hv')⟩)
  exfalso
  have := hl q
  rw [this] at r
  rcases r with r | r
  · exact r (Nat.mul_mod_right _ _)
  · exact r (Nat.mul_div_cancel_left _ (by omega))
end
theorem firstNe_self (X : L8) : firstNe X X = none := firstNe_none fun _ _ => rfl
theorem firstNe_set {X : L8} {i : Nat} {y : UInt8} (hi : i < X.length) (hy : y ≠ X[i]) : firstNe X (X.set i y) = some i := by
  refine firstNe_some hi (fun j hj => ?_) ?_
  · rw [List.getD_eq_getElem?_getD, List.getD_eq_getElem?_getD, List.getElem?_set_ne (by omega)]
  · rw [List.getD_eq_getElem?_getD, List.getD_eq_getElem?_getD, List.getElem?_set_self hi, List.getElem?_eq_getElem hi]
    exact fun q => hy q.symm
theorem xor8' {a b : Nat} (ha : a < 256) (hb : b < 256) : bXor .u8 (a : Int) (b : Int) = ((UInt8.ofNat (a ^^^ b)).toNat : Int) ∧ (b ≠ 0 → ∀ x : UInt8, x.toNat = a → UInt8.ofNat (a ^^^ b) ≠ x) := by
  have hlt : a ^^^ b < 256 := Nat.xor_lt_two_pow (n := 8) ha hb
  have e : (UInt8.ofNat (a ^^^ b)).toNat = a ^^^ b := by rw [UInt8.toNat_ofNat', Nat.mod_eq_of_lt hlt]
  refine ⟨?_, fun h x hx q => ?_⟩
  · rw [e]
    unfold bXor
    show IntKind.wrap .u8 (((BitVec.ofInt 8 (a : Int) ^^^ BitVec.ofInt 8 (b : Int)).toNat : Nat) : Int) = _
    rw [BitVec.ofInt_natCast, BitVec.ofInt_natCast, BitVec.toNat_xor, BitVec.toNat_ofNat, BitVec.toNat_ofNat, Nat.mod_eq_of_lt (by omega), Nat.mod_eq_of_lt (by omega)]
    exact wu8 (by omega) (by omega)
  · rw [← q, e] at hx
    have := congrArg (a ^^^ ·) hx
    simp only [← Nat.xor_assoc, Nat.xor_self, Nat.zero_xor] at this
    exact h this
theorem sbcVerifies_spec {p : Sl} {lp : L8} {AT BY LB : Nat} {w : World} {R : Bool → World → Prop} (hp : Rd w 1 p (bv lp)) (hpb : p.n ≤ 140737488351232) (hAT : AT < 65536) (hBY : BY < 256) (hLB : LB < 256) (h : ∀ w', Grow w w' → R true w') :
    Cpalletlaw14_SbcVerifies p (AT : Int) (BY : Int) (LB : Int) w R := by
  refine Fpalletlaw14_SbcVerifies.calls _ _ _ _ _ _ ?_
  unfold Fpalletlaw14_SbcVerifies
  have hln := rd_n' hp
  have hcap := hp.cap
  have eN : mn (IntKind.wrap .i64 ((p.n : Int).tdiv 16)) 6 = ((min (p.n / 16) 6 : Nat) : Int) := by
    have : ((p.n : Int).tdiv 16) = ((p.n / 16 : Nat) : Int) := rfl
    rw [this, w64 (by omega) (by omega)]
    exact mn_nat (p.n / 16) 6
  rw [eN]
  generalize hN : min (p.n / 16) 6 = N
  have e16 : IntKind.wrap .i64 (16 * (N : Int)) = ((16 * N : Nat) : Int) := by rw [w64 (by omega) (by omega)]; omega
  have eL : ((IntKind.wrap .u64 (LB : Int)).tmod 10) = ((LB % 10 : Nat) : Int) := by rw [wu64 (by omega) (by omega)]; rfl
  have eB : IntKind.wrap .u64 (N : Int) = (N : Int) := wu64 (by omega) (by omega)
  rw [e16, eL, eB]
  refine awake14_spec fun w0 hg0 => br_f rfl ⟨by decide, by decide, ?_⟩
  refine device_spec (n := 16) (kind := 0) (cache := true) (by decide) (by decide) fun dv ps pw D w1 L1 => ?_
  have L1 : Lw w0 w1 dv ps pw s_f 0 16 true D st0 (List.replicate 16 emptyB) 0 [] [] := L1
  by_cases hN0 : N = 0
  · exact br_t (by rw [hN0]; rfl) (h w1 (hg0.trans L1.grow))
  have hlb : LB % 10 < 10 := Nat.mod_lt _ (by decide)
  generalize LB % 10 = lba at *
  refine br_f (by rw [Bool.or_eq_false_iff, beq_eq_false_iff_ne]; exact ⟨rfl, by omega⟩) ?_
  have bnd : (0 : Int) ≤ (0 : Int) ∧ (0 : Int) ≤ ((16 * N : Nat) : Int) ∧ ((16 * N : Nat) : Int) ≤ (p.c : Int) ∧ p.n ≤ p.c := ⟨by decide, by omega, by omega, hcap⟩
  simp only [Int.toNat_natCast]
  have hcut : ∀ x, Grow w x → Rd x 1 ⟨cutA p.A p.c 0 1, 16 * N - 0, p.c - 0⟩ (bv (lp.take (16 * N))) := fun x hx => (hp.grow hx).cutB (l := 0) (k := 16 * N) (Nat.zero_le _) (by omega)
  have hll : (lp.take (16 * N)).length = 16 * N := by rw [List.length_take]; omega
  generalize hl : lp.take (16 * N) = l at *
  refine ⟨bnd, L1.write0 (by decide) (c := ⟨9, false, lba, N, 0, false, 0, false, false, 0, 0, false, 0, 0, false⟩) (.inr rfl) rfl (by show lba + N ≤ 16; omega) (hcut w1 (hg0.trans L1.grow)) hll fun w2 D2 L2 => ?_⟩
  have hmk := mk_len (kind := 0) (lba := lba) (N := N) (l := l) hll
  have hfine : Fine 0 (setAll (List.replicate 16 emptyB) lba (mkAll 0 lba (unpB false l) N) N) := by
    have := fine_set (fine_rep 0 16) (F := lba) (xs := mkAll 0 lba (unpB false l) N) (by rw [hmk, List.length_replicate]; omega) (fine_mk (by rw [unpB_len, hll]; show 16 * N / 16 = N; omega))
    rwa [hmk] at this
  have hpart := setAll_read (bs := List.replicate 16 emptyB) (F := lba) (xs := mkAll 0 lba (unpB false l) N) (by rw [hmk, List.length_replicate]; omega)
  rw [hmk] at hpart
  have hpart2 : packB false (((setAll (List.replicate 16 emptyB) lba (mkAll 0 lba (unpB false l) N) N).drop lba).take N) = l := by
    rw [hpart]; exact mk_bytes (by rw [hll]; omega)
  generalize setAll (List.replicate 16 emptyB) lba (mkAll 0 lba (unpB false l) N) N = B at *
  have hsy : syncs N (false || decide ((9 : Nat) = 9)) true = true := by unfold syncs; rw [decide_eq_true (by omega)]; rfl
  have L2 : Lw w0 w2 dv ps pw s_f 0 16 true D2 (syncIf (syncs N (false || decide ((9 : Nat) = 9)) true) (layW st0 s_f lba (rsOf (mkAll 0 lba (unpB false l) N)) N)) B (0 + N + 1) [] [] := L2
  rw [hsy] at L2
  have hwt : (syncIf true (layW st0 s_f lba (rsOf (mkAll 0 lba (unpB false l) N)) N)).waits = [] := rfl
  generalize syncIf true (layW st0 s_f lba (rsOf (mkAll 0 lba (unpB false l) N)) N) = S2 at *
  refine L2.res fun ab w3 L3 => ?_
  refine waits_spec L3.dvs.isW ?_
  rw [hwt]
  have hg3 := hg0.trans L3.grow
  have hun : packB false (unpB (decide ((0 : Nat) ≠ 0)) l) = l := unpB_bytes (by rw [hll]; omega)
  refine ⟨bnd, L3.verify (by omega) (c := ⟨10, false, lba, N, 0, false, 0, false, false, 0, 0, false, 0, 0, true⟩) rfl rfl (by show lba + N ≤ 16; omega) (hcut w3 hg3) (by show 16 * N - 0 ≤ _; omega) hfine (fun _ => hll) (fun _ i hi => ?_) (fun _ w4 L4 => ?_)⟩
  · exfalso
    simp only [hpart2, hun, firstNe_self] at hi
    cases hi
  refine L4.res fun bb w5 L5 => ?_
  refine L5.verify (by show 0 + N + 1 + N ≤ _; omega) (c := ⟨10, false, lba, N, 0, false, 0, false, false, 0, 0, false, 0, 0, false⟩) rfl rfl (by show lba + N ≤ 16; omega) (rd_nilB _) (by decide) hfine (fun q => by cases q) (fun q => by cases q) (fun _ w6 L6 => ?_)
  refine L6.res fun cb w7 L7 => ?_
  have hc7 := L7.held
  have hb7 := (L7.loc _ (List.mem_cons_of_mem _ List.mem_cons_self)).1
  have ha7 := (L7.loc _ (List.mem_cons_of_mem _ (List.mem_cons_of_mem _ List.mem_cons_self))).1
  refine ⟨0, by rw [add0, Blk.cell ha7]; rfl, 0, fun _ => by rw [add0, Blk.cell hb7]; rfl, 0, fun _ => by rw [add0, Blk.cell hc7]; rfl, br_f rfl ?_⟩
  have hg7 := hg0.trans L7.grow
  by_cases hz : BY = 0
  · exact br_t (by rw [hz]; rfl) (h w7 hg7)
  refine br_f (by rw [beq_eq_false_iff_ne]; omega) ⟨by omega, bnd, ?_⟩
  refine append_rule (s := ⟨none, 0, 0⟩) (vs := []) (base := w7.heap.size) u_sl_uint8 i_uint8 rfl (by decide) (by decide) (own_nil _ _ _ _) (hcut w7 hg7) (bv_one' _) (by show (0 + (16 * N - 0)) * 1 ≤ _; omega) (Nat.le_refl _) fun xs w8 hn8 hown8 hk8 _ => ?_
  rw [List.nil_append] at hown8
  have hg8 : Grow w7 w8 := hk8.mono fun i hi q => by cases q
  have L8_ := L7.go hg8
  have hxn : xs.n = 16 * N := by have : xs.n = 0 + (16 * N - 0) := hn8; omega
  have eI : ((IntKind.wrap .i64 (AT : Int)).tmod ((16 * N : Nat) : Int)) = ((AT % (16 * N) : Nat) : Int) := by rw [w64 (by omega) (by omega)]; rfl
  rw [eI]
  have hI : AT % (16 * N) < 16 * N := Nat.mod_lt _ (by omega)
  generalize AT % (16 * N) = I at *
  have hr8 := hown8.rd (by omega)
  have hIl : I < l.length := by omega
  obtain ⟨hsA, hcI⟩ := rd_at hr8 hIl
  have bI : (0 : Int) ≤ (I : Int) ∧ (I : Int) < (xs.n : Int) ∧ xs.A.isSome = true := ⟨by omega, by omega, hsA⟩
  have eg : l.getD I 0 = l[I] := by rw [List.getD_eq_getElem?_getD, List.getElem?_eq_getElem hIl]; rfl
  rw [Int.toNat_natCast]
  rw [eg] at hcI
  refine ⟨bI, (l[I].toNat : Int), hcI, bI, ?_⟩
  obtain ⟨ex, hne⟩ := xor8' (a := l[I].toNat) (b := BY) l[I].toNat_lt hBY
  rw [ex]
  have hne := hne hz l[I] rfl
  generalize UInt8.ofNat (l[I].toNat ^^^ BY) = y at *
  refine own_put (i := I) hown8 (by omega) rfl fun w9 hown9 hk9 _ => ?_
  rw [bv_set] at hown9
  have s7 := L7.grow.size
  have hg79 : Grow w7 w9 := own_grow' hg8 hown8 (Nat.le_refl _) hk9
  have L9 := L7.go hg79
  have hll9 : (l.set I y).length = 16 * N := by rw [List.length_set]; exact hll
  have hun9 : packB false (unpB (decide ((0 : Nat) ≠ 0)) (l.set I y)) = l.set I y := unpB_bytes (by rw [hll9]; omega)
  refine L9.verify (by show 0 + N + 1 + N + N ≤ _; omega) (c := ⟨10, false, lba, N, 0, false, 0, false, false, 0, 0, false, 0, 0, true⟩) rfl rfl (by show lba + N ≤ 16; omega) (hown9.rd (by omega)) (by omega) hfine (fun _ => hll9) (fun _ i hi w10 L10 => ?_) (fun q => ?_)
  · have hi : firstNe l (l.set I y) = some i := by rw [← hi]; simp only [hpart2, hun9]
    rw [firstNe_set hIl hne] at hi
    obtain rfl := Option.some.inj hi
    refine L10.res fun eb w11 L11 => ?_
    rintro w12 rfl
    have hg12 : Grow w11 w11.drew := keep_drew w11
    have he11 := L11.held
    refine ⟨fun x => Grow w11 x, hg12, (rsv 2 (atS 14 0x1d00 I) nilS).toArray, fun x hx => rLoad (blk_cells (hx.heap he11 (fun q => q))), ?_⟩
    rw [wu64 (by omega) (by omega)]
    refine at14_spec (key := 14) (code := 7424) (info := I) fun w13 hg13 => ⟨hg12.trans hg13, ?_⟩
    refine same14_spec (d1 := nilS) (d2 := nilS) (l := []) (rd_nilB _) (rd_nilB _) fun w14 hg14 => ?_
    have hg1114 := (hg12.trans hg13).trans hg14
    refine ⟨fun _ => ?_, fun q => by cases q⟩
    have L14 := L11.go hg1114
    refine waits_spec L14.dvs.isW ?_
    have hwt14 : S2.waits.length = 0 := by rw [hwt]; rfl
    show R (true && (((S2.waits.length : Nat) : Int) == (0 : Int))) w14
    rw [hwt14]
    exact h w14 (hg0.trans L14.grow)
  · exfalso
    have := q rfl
    simp only [hpart2, hun9, firstNe_set hIl hne] at this
    cases this
theorem sbcVerifies_row {p : Sl} {lp : L8} {x y z : Int} {w : World} {R : Bool → World → Prop} (hp : Rd w 1 p (bv lp)) (hpb : p.n ≤ 140737488351232) (hx : (Lit.int .u16 x).wf = true) (hy : (Lit.int .u8 y).wf = true) (hz : (Lit.int .u8 z).wf = true) (h : ∀ w', Grow w w' → R true w') :
    Cpalletlaw14_SbcVerifies p x y z w R := by
  obtain ⟨A, rfl, hA⟩ := int_u16 hx
  obtain ⟨B, rfl, hB⟩ := int_u8 hy
  obtain ⟨C, rfl, hC⟩ := int_u8 hz
  exact sbcVerifies_spec hp hpb hA hB hC h
end Go.Proofs.Ytaneeadpjelomaa
