import Derived.Test.YtaneeadpjelomaaDb13
import Derived.Test.YtaneeadpjelomaaDb10
/- Layer 14: the law of blocks taken away. -/
namespace Go.Proofs.Ytaneeadpjelomaa
open Go CF

theorem fine_un {kind F k : Nat} {bs : List Bk} (h : Fine kind bs) (hF : F + k ≤ bs.length) : Fine kind (setAll bs F [] k) := fun i hi prot => by
  have hi' : i < bs.length := by rw [setAll_len] at hi; exact hi
  have e := setAll_get bs F [] k hF i hi'
  rw [List.getElem?_eq_getElem hi] at e
  split at e
  · rw [Option.some.inj e]
    exact fine_empty _ _ _
  · rw [List.getElem?_eq_getElem hi'] at e
    rw [Option.some.inj e]
    exact h i hi' prot
theorem packB_getD : ∀ {bs : List Bk} {i : Nat}, i < 16 * bs.length → (packB false bs).getD i 0 = ((bs[i / 16]?).getD emptyB).d.getD (i % 16) 0
  | [], i, h => by simp at h
  | b :: r, i, h => by
    have hd := b.hd
    have e : packB false (b :: r) = b.d ++ packB false r := by simp [packB, wireB]
    rw [e]
    rw [List.length_cons] at h
    by_cases q : i < 16
    · rw [List.getD_eq_getElem?_getD, List.getElem?_append_left (by omega), show i / 16 = 0 by omega, show i % 16 = i by omega, List.getD_eq_getElem?_getD]; rfl
    · have ih := packB_getD (bs := r) (i := i - 16) (by omega)
      rw [List.getD_eq_getElem?_getD, List.getElem?_append_right (by omega), hd, ← List.getD_eq_getElem?_getD, ih, show (i - 16) % 16 = i % 16 by omega]
      have : i / 16 = (i - 16) / 16 + 1 := by omega
      rw [this]; rfl
theorem empty_getD (j : Nat) : emptyB.d.getD j 0 = 0 := by
  have e : emptyB.d = List.replicate 16 0 := rfl
  rw [e, List.getD_eq_getElem?_getD, List.getElem?_replicate]
  split <;> rfl
theorem un_getD {bs : List Bk} {F k i : Nat} (hF : F + k ≤ bs.length) (hi : i < 16 * bs.length) : (packB false (setAll bs F [] k)).getD i 0 = if 16 * F ≤ i ∧ i < 16 * (F + k) then 0 else (packB false bs).getD i 0 := by
  rw [packB_getD (by rw [setAll_len]; exact hi), setAll_get _ _ _ _ hF _ (by omega)]
  by_cases q : 16 * F ≤ i ∧ i < 16 * (F + k)
  · rw [if_pos (by omega), if_pos q]; exact empty_getD _
  · rw [if_neg (by omega), if_neg q, packB_getD hi]
def unQ (at_ k : Nat) : L8 := [0, 22, 0, 16, 0, 0, 0, 0, 0, 0, 0, 0, 0, 0, 0, UInt8.ofNat at_, 0, 0, 0, UInt8.ofNat k, 0, 0, 0, 0]
theorem unQ_lit' (w : World) (a b : UInt8) : (Instr.buildSlice 22 24 #[(0, .int .u8 0), (1, .int .u8 22), (2, .int .u8 0), (3, .int .u8 16), (4, .int .u8 0), (5, .int .u8 0), (6, .int .u8 0), (7, .int .u8 0), (8, .int .u8 0), (9, .int .u8 0), (10, .int .u8 0), (11, .int .u8 0), (12, .int .u8 0), (13, .int .u8 0), (14, .int .u8 0), (15, .int .u8 (a.toNat : Int)), (16, .int .u8 0), (17, .int .u8 0), (18, .int .u8 0), (19, .int .u8 (b.toNat : Int)), (20, .int .u8 0), (21, .int .u8 0), (22, .int .u8 0), (23, .int .u8 0)]).run Try.prog w = .ok (.slice (some ⟨w.heap.size, 0, none⟩) 24 24) (w.alloc (.cells (bv [0, 22, 0, 16, 0, 0, 0, 0, 0, 0, 0, 0, 0, 0, 0, a, 0, 0, 0, b, 0, 0, 0, 0]).toArray t_uint8)) := by kernel_rfl
theorem unQ_lit (w : World) {A N : Nat} (hA : A < 256) (hN : N < 256) : (Instr.buildSlice 22 24 #[(0, .int .u8 0), (1, .int .u8 22), (2, .int .u8 0), (3, .int .u8 16), (4, .int .u8 0), (5, .int .u8 0), (6, .int .u8 0), (7, .int .u8 0), (8, .int .u8 0), (9, .int .u8 0), (10, .int .u8 0), (11, .int .u8 0), (12, .int .u8 0), (13, .int .u8 0), (14, .int .u8 0), (15, .int .u8 (A : Int)), (16, .int .u8 0), (17, .int .u8 0), (18, .int .u8 0), (19, .int .u8 (N : Int)), (20, .int .u8 0), (21, .int .u8 0), (22, .int .u8 0), (23, .int .u8 0)]).run Try.prog w = .ok (.slice (some ⟨w.heap.size, 0, none⟩) 24 24) (w.alloc (.cells (bv (unQ A N)).toArray t_uint8)) := by
  have h := unQ_lit' w (UInt8.ofNat A) (UInt8.ofNat N)
  rw [UInt8.toNat_ofNat', UInt8.toNat_ofNat', Nat.mod_eq_of_lt hA, Nat.mod_eq_of_lt hN] at h
  exact h
theorem sbcUnmaps_spec {p : Sl} {lp : L8} {LB CN : Nat} {same : Bool} {w : World} {R : Bool → World → Prop} (hp : Rd w 1 p (bv lp)) (hLB : LB < 256) (hCN : CN < 256) (h : ∀ w', Grow w w' → R true w') :
    Cpalletlaw14_SbcUnmaps p (LB : Int) (CN : Int) same w R := by
  refine Fpalletlaw14_SbcUnmaps.calls _ _ _ _ _ _ ?_
  unfold Fpalletlaw14_SbcUnmaps
  have hln := rd_n' hp
  have hcap := hp.cap
  have eA : ((IntKind.wrap .i64 (LB : Int)).tmod 16) = ((LB % 16 : Nat) : Int) := by rw [w64 (by omega) (by omega)]; rfl
  rw [eA]
  have hA : LB % 16 < 16 := Nat.mod_lt _ (by decide)
  generalize LB % 16 = A at *
  have eS : IntKind.wrap .i64 (16 - (A : Int)) = ((16 - A : Nat) : Int) := by rw [w64 (by omega) (by omega)]; omega
  rw [eS]
  have eK : IntKind.wrap .i64 (1 + ((IntKind.wrap .i64 (CN : Int)).tmod ((16 - A : Nat) : Int))) = ((1 + CN % (16 - A) : Nat) : Int) := by
    rw [w64 (n := (CN : Int)) (by omega) (by omega)]
    have e : ((CN : Int).tmod ((16 - A : Nat) : Int)) = ((CN % (16 - A) : Nat) : Int) := rfl
    rw [e]
    have : CN % (16 - A) < 16 - A := Nat.mod_lt _ (by omega)
    rw [w64 (by omega) (by omega)]; omega
  rw [eK]
  have hK : 1 + CN % (16 - A) ≤ 16 - A ∧ 1 ≤ 1 + CN % (16 - A) := by have : CN % (16 - A) < 16 - A := Nat.mod_lt _ (by omega); omega
  generalize 1 + CN % (16 - A) = N at *
  have e1 : IntKind.wrap .i64 (16 * (A : Int)) = ((16 * A : Nat) : Int) := by rw [w64 (by omega) (by omega)]; omega
  have e2 : IntKind.wrap .i64 (16 * (IntKind.wrap .i64 ((A : Int) + (N : Int)))) = ((16 * (A + N) : Nat) : Int) := by rw [w64 (n := (A : Int) + (N : Int)) (by omega) (by omega), w64 (by omega) (by omega)]; omega
  have e3 : IntKind.wrap .u64 (A : Int) = (A : Int) := wu64 (by omega) (by omega)
  have e4 : IntKind.wrap .u64 (N : Int) = (N : Int) := wu64 (by omega) (by omega)
  have e5 : IntKind.wrap .u8 (A : Int) = (A : Int) := wu8 (by omega) (by omega)
  have e6 : IntKind.wrap .u8 (N : Int) = (N : Int) := wu8 (by omega) (by omega)
  rw [e1, e2, e3, e4, e5, e6]
  refine awake14_spec fun w0 hg0 => ?_
  by_cases hsh : p.n < 256
  · exact br_t (by rw [Bool.or_eq_true, decide_eq_true_eq]; omega) (awake14_spec fun w1 hg1 => h w1 (hg0.trans hg1))
  refine br_f (by rw [Bool.or_eq_false_iff, decide_eq_false_iff_not]; exact ⟨rfl, by omega⟩) ?_
  refine device_spec (n := 16) (kind := 1) (cache := true) (by decide) (by decide) fun dv ps pw D w1 L1 => br_f rfl ⟨by decide, by omega, ⟨by decide, by decide, by omega, hcap⟩, ?_⟩
  have hcut : ∀ x, Grow w x → Rd x 1 ⟨cutA p.A p.c 0 1, 256 - 0, p.c - 0⟩ (bv (lp.take 256)) := fun x hx => (hp.grow hx).cutB (l := 0) (k := 256) (Nat.zero_le _) (by omega)
  have hll : (lp.take 256).length = 256 := by rw [List.length_take]; omega
  have hget : ∀ i, i < 256 → (lp.take 256).getD i 0 = lp.getD i 0 := fun i hi => by rw [List.getD_eq_getElem?_getD, List.getD_eq_getElem?_getD, List.getElem?_take, if_pos hi]
  generalize lp.take 256 = P at *
  refine L1.write0 (by decide) (c := ⟨8, false, 0, 16, 0, false, 0, false, false, 0, 0, false, 0, 0, false⟩) (.inl rfl) rfl (by decide) (hcut w1 (hg0.trans L1.grow)) hll fun w2 D2 L2 => ?_
  have hmk := mk_len (kind := 1) (lba := 0) (N := 16) (l := P) hll
  have hfine : Fine 1 (setAll (List.replicate 16 emptyB) 0 (mkAll 1 0 (unpB false P) 16) 16) := by
    have := fine_set (fine_rep 1 16) (F := 0) (xs := mkAll 1 0 (unpB false P) 16) (by rw [hmk, List.length_replicate]; omega) (fine_mk (by rw [unpB_len, hll]; rfl))
    rwa [hmk] at this
  have hB1l : (setAll (List.replicate 16 emptyB) 0 (mkAll 1 0 (unpB false P) 16) 16).length = 16 := by rw [setAll_len, List.length_replicate]
  have hpart := setAll_read (bs := List.replicate 16 emptyB) (F := 0) (xs := mkAll 1 0 (unpB false P) 16) (by rw [hmk, List.length_replicate]; omega)
  rw [hmk, List.drop_zero, List.take_of_length_le (by omega)] at hpart
  have hpB : packB false (setAll (List.replicate 16 emptyB) 0 (mkAll 1 0 (unpB false P) 16) 16) = P := by
    rw [hpart]; exact mk_bytes (by rw [hll])
  have L2 : Lw w0 w2 dv ps pw s_f 1 16 true D2 (syncIf (syncs 16 (false || decide ((8 : Nat) = 9)) true) (layW st0 s_f 0 (rsOf (mkAll 1 0 (unpB false P) 16)) 16)) (setAll (List.replicate 16 emptyB) 0 (mkAll 1 0 (unpB false P) 16) 16) (0 + 16 + 1) [] [] := L2
  generalize setAll (List.replicate 16 emptyB) 0 (mkAll 1 0 (unpB false P) 16) 16 = B at *
  refine L2.res fun ab w3 L3 => ?_
  refine lit_rule (cells := (bv (unQ A N)).toArray) (e := t_uint8) (z := 1) (base := 0) (unQ_lit w3 (by omega) (by omega)) rfl (by decide) (Nat.zero_le _) fun w4 hlit4 hg4 hsz4 => ?_
  have L4 := L3.go hg4
  refine new_rule fun cb w5 hcb hb5 hg5 hsz5 => ?_
  refine storeVar_rule (cells := (cmv ⟨13, false, 0, 0, 24, false, 0, false, false, 0, 0, false, 0, 0, false⟩).toArray) hb5 i_api_Cmd rfl rfl (by simp [cmv, Value.oneCell']) fun w6 hb6 hk6 hsz6 => ?_
  have hg46 : Grow w4 w6 := hg5.keep hk6 fun i hi q => by omega
  have L6 := L4.go hg46
  have hun1 : unAll B (unQ A N) 1 = setAll B A [] N := by
    have a1 : rngL (unQ A N) 0 = A := by
      show num [0, 0, 0, 0, 0, 0, 0, UInt8.ofNat A] = A
      simp [num]; omega
    have a2 : rngK (unQ A N) 0 = N := by
      show num [0, 0, 0, UInt8.ofNat N] = N
      simp [num]; omega
    show setAll B (rngL (unQ A N) 0) [] (rngK (unQ A N) 0) = _
    rw [a1, a2]
  have hqlen : (unQ A N).length = 24 := rfl
  have hrngL : rngL (unQ A N) 0 = A := by
    show num [0, 0, 0, 0, 0, 0, 0, UInt8.ofNat A] = A
    simp [num]; omega
  have hrngK : rngK (unQ A N) 0 = N := by
    show num [0, 0, 0, UInt8.ofNat N] = N
    simp [num]; omega
  refine letX1 (fun (q : Sl) (x : World) => ∀ K : Array Value → World → Prop, (∀ v D' st' m', m' ≤ 900000 → Lw w0 v dv ps pw s_f 1 16 true D' st' (setAll B A [] N) m' [(ab, rsv 0 sn0 nilS, t_api_Result)] [] → K (rsv 0 sn0 nilS).toArray v) →
      ∃ g1 : Array Value, (loadVar t_api_Cmd ⟨cb, 0, none⟩).run Try.prog x = .ok (.agg g1) x ∧ Csbc_Dev_Do (some ⟨dv, 0, none⟩) g1 q x K) ?_ (fun J => ?_)
  case refine_2 =>
    cases same with
    | false =>
      refine br_f rfl (J _ _ fun K hK => ⟨_, cLoad (blk_cells hb6), ?_⟩)
      refine L6.unmap (by decide) (c := ⟨13, false, 0, 0, 24, false, 0, false, false, 0, 0, false, 0, 0, false⟩) rfl rfl (by decide) (by decide) ((hlit4.grow hg46).rd (by show 24 ≤ _; omega)) (by show 24 ≤ _; omega) (fun b hb q => ?_) (l := unQ A N) (by rw [hqlen]; omega) (by rw [hqlen]; show num [0, 22] = 22; decide) (by rw [hqlen]; show num [0, 16] = 16; decide) (by rw [hqlen]) (fun j hj => ?_) ?_ (fun v D' st' hv => ?_)
      · obtain rfl : w3.heap.size = b := by simpa [Sl.blk] using hb
        have := L3.dvs.isW.lt q
        omega
      · rw [hqlen] at hj
        obtain rfl : j = 0 := by omega
        rw [hrngL, hrngK]; omega
      · rw [hqlen]
        show 0 + rngK (unQ A N) 0 ≤ 256
        rw [hrngK]; omega
      · exact hK v D' st' (0 + 16 + 1 + 5000) (by decide) (by rw [hqlen] at hv; rw [← hun1]; exact hv)
    | true =>
      refine br_t rfl ?_
      refine storeVar_rule (cells := (cmv ⟨12, false, A, N, 0, false, 0, true, false, 0, 0, false, 0, 0, false⟩).toArray) hb6 i_api_Cmd rfl rfl (by simp [cmv, Value.oneCell']) fun w7 hb7 hk7 hsz7 => ?_
      have hg47 : Grow w4 w7 := hg46.keep hk7 fun i hi q => by omega
      have L7 := L4.go hg47
      refine bytes14_spec (n := 16) (b := 0) (by decide) (by decide) fun z w8 hown8 hg8 hz8 => J _ _ fun K hK => ⟨_, cLoad (blk_cells (hg8.heap hb7 (fun q => q))), ?_⟩
      refine (L7.go hg8).same (by decide) (c := ⟨12, false, A, N, 0, false, 0, true, false, 0, 0, false, 0, 0, false⟩) rfl rfl (by show A + N ≤ 16; omega) (hown8.rd (by omega)) rfl (fun v D' st' b0 _ hv => ?_)
      rw [if_pos ⟨rfl, rfl⟩] at hv
      have es : sameN 16 ⟨12, false, A, N, 0, false, 0, true, false, 0, 0, false, 0, 0, false⟩ = N := by unfold sameN; exact if_neg (by show ¬ N = 0; omega)
      rw [es] at hv
      exact hK v D' st' _ (by omega) hv
  intro q x hI
  refine hI _ fun w9 D9 st9 m9 hm9 L9 => ?_
  refine L9.res fun bb w10 L10 => ?_
  have hfin2 := fine_un (F := A) (k := N) hfine (by omega)
  have hlen2 : (setAll B A [] N).length = 16 := by rw [setAll_len]; exact hB1l
  have hgt : ∀ i, i < 256 → (packB false (setAll B A [] N)).getD i 0 = if 16 * A ≤ i ∧ i < 16 * (A + N) then 0 else lp.getD i 0 := fun i hi => by rw [un_getD (by omega) (by omega), hpB, hget i hi]
  have hpl : (packB false (setAll B A [] N)).length = 256 := by rw [packB_len, hlen2]; rfl
  generalize setAll B A [] N = B2 at *
  refine L10.read (by omega) (c := ⟨7, false, 0, 16, 0, false, 0, false, false, 0, 0, false, 0, 0, false⟩) rfl rfl (by decide) (rd_nilB _) (by decide) hfin2 fun d w11 L11 hdn hown11 => ?_
  refine L11.res fun rb w12 L12 => ?_
  have hrow := (L12.row _ List.mem_cons_self).1
  have hrow : Rd w12 1 d (bv (packB false ((B2.drop 0).take 16))) := hrow
  rw [List.drop_zero, List.take_of_length_le (by omega)] at hrow
  have hr12 := L12.held
  have hb12 := (L12.loc _ (List.mem_cons_of_mem _ List.mem_cons_self)).1
  have ha12 := (L12.loc _ (List.mem_cons_of_mem _ (List.mem_cons_of_mem _ List.mem_cons_self))).1
  have hg12 := hg0.trans L12.grow
  have hdn : d.n = 256 := hdn
  refine ⟨0, by rw [add0, Blk.cell ha12]; rfl, 0, fun _ => by rw [add0, Blk.cell hb12]; rfl, 0, fun _ => by rw [add0, Blk.cell hr12]; rfl, d, fun _ => by rw [add0, Blk.cell hr12]; rfl, br_f (by rw [hdn]; rfl) ?_⟩
  refine ⟨fun i x => ∃ j : Nat, i = j ∧ j ≤ 256 ∧ Grow w12 x, fun i _ => 256 - i.toNat, ⟨0, rfl, Nat.zero_le _, Keep.refl _ _⟩, ?_⟩
  rintro i x ⟨j, rfl, hj, hgx⟩
  refine br_nat (y := 256) (fun hlt => ?_) (fun hge => h x (hg12.trans hgx))
  refine letX0 (fun y => Grow w12 y) (fun y hy => by
    rw [w64 (by omega) (by omega)]
    exact ⟨⟨j + 1, by omega, by omega, hy⟩, by dsimp only; omega⟩) (fun J => ?_)
  obtain ⟨aT, cT⟩ := rd_at (hp.grow (hg12.trans hgx)) (i := j) (by omega)
  refine ⟨⟨by omega, by omega, aT⟩, ((lp.getD j 0).toNat : Int), by rw [Int.toNat_natCast]; exact cT, ?_⟩
  refine letX1 (fun (want : Int) y => y = x ∧ want = ((packB false B2).getD j 0).toNat) ?_ (fun J1 => ?_)
  · rintro want y ⟨rfl, rfl⟩
    obtain ⟨aD, cD⟩ := rd_at (hrow.grow hgx) (i := j) (by omega)
    refine ⟨d, by rw [add0, Blk.cell (hgx.heap hr12 (fun q => q))]; rfl, ⟨by omega, by omega, aD⟩, _, by rw [Int.toNat_natCast]; exact cD, ?_⟩
    exact br_f (by rw [bne_eq_false_iff_eq]) (J _ hgx)
  · by_cases hin : 16 * A ≤ j ∧ j < 16 * (A + N)
    · refine br_t (by rw [Bool.and_eq_true, decide_eq_true_eq, decide_eq_true_eq]; omega) (J1 _ _ ⟨rfl, ?_⟩)
      rw [hgt j (by omega), if_pos hin]; rfl
    · refine br_f (by rw [Bool.and_eq_false_iff, decide_eq_false_iff_not, decide_eq_false_iff_not]; omega) (J1 _ _ ⟨rfl, ?_⟩)
      rw [hgt j (by omega), if_neg hin]
theorem sbcUnmaps_row {p : Sl} {lp : L8} {x y : Int} {same : Bool} {w : World} {R : Bool → World → Prop} (hp : Rd w 1 p (bv lp)) (hx : (Lit.int .u8 x).wf = true) (hy : (Lit.int .u8 y).wf = true) (h : ∀ w', Grow w w' → R true w') :
    Cpalletlaw14_SbcUnmaps p x y same w R := by
  obtain ⟨A, rfl, hA⟩ := int_u8 hx
  obtain ⟨B, rfl, hB⟩ := int_u8 hy
  exact sbcUnmaps_spec hp hA hB h
end Go.Proofs.Ytaneeadpjelomaa
