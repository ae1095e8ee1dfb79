/- Layer 4: the law of blocks, its proof. -/
import Derived.Test.YtiokflecflbopaaSt12
namespace Go.Proofs.Ytiokflecflbopaa
open Go CF

theorem rep_set (j : Nat) (hj : j < 32) : (List.replicate j emptyB ++ List.replicate (32 - j) zeroB).set j emptyB = List.replicate (j + 1) emptyB ++ List.replicate (32 - (j + 1)) zeroB := by
  rw [List.set_append_right _ _ (by simp), List.length_replicate, Nat.sub_self]
  have e : List.replicate (32 - j) zeroB = zeroB :: List.replicate (32 - (j + 1)) zeroB := by rw [show 32 - j = (32 - (j + 1)) + 1 by omega]; rfl
  rw [e, List.set_cons_zero, List.replicate_succ', List.append_assoc]; rfl
theorem storeBlocks_spec {s : Sl} {xs : List Act4} {w : World} {R : Bool → World → Prop} (hx : Rd w 5 s (xs.flatMap ac)) (hq : ∀ x ∈ xs, x.kind < 256 ∧ (Lit.int .i64 x.a).wf = true ∧ Rd w 19 x.l (x.bs.flatMap bc))
    (h : ∀ w', Grow w w' → R true w') : Cpalletlaw04_StoreBlocks s w R := by
  refine Fpalletlaw04_StoreBlocks.calls _ _ _ ?_
  refine awake04_spec fun w0 hg0 => br_f rfl ?_
  have hxn := rd_act hx
  have hxb := hx.nb
  refine world_new_spec fun pa D w1 hg1 hw1 hD1 => ?_
  refine open_spec (blocks := 32) size_s_f (by decide) fun ps w2 hps hg2 hS2 => br_f rfl ?_
  refine new_rule fun wb w3 hwb hb3 hg3 hsz3 => ?_
  have s0 := hg0.size
  have s1 := hg1.size
  have s2 := hg2.size
  have hgw3 : Grow w w3 := ((hg0.trans hg1).trans hg2).trans hg3
  have nD : ¬ D ps := fun q => by have := hw1.lt q; omega
  have nDw : ¬ D wb := fun q => by have := hw1.lt q; omega
  have bD : ∀ k, D k → w.heap.size ≤ k := fun k q => by have := hD1 k q; omega
  have hwant0 : Blk w3 wb ((List.replicate 0 emptyB ++ List.replicate (32 - 0) zeroB).flatMap bc).toArray t_32_api_Block := by
    refine Eq.trans hb3 ?_
    kernel_rfl
  refine ⟨fun i u => ∃ j : Nat, i = j ∧ j ≤ 32 ∧ Keep (fun k => k = wb) w3 u ∧ Blk u wb ((List.replicate j emptyB ++ List.replicate (32 - j) zeroB).flatMap bc).toArray t_32_api_Block, fun i _ => 32 - i.toNat,
    ⟨0, rfl, by decide, Keep.mono (Keep.refl (fun _ => False) w3) (fun _ _ q => q.elim), hwant0⟩, ?_⟩
  rintro i u ⟨j, rfl, hj, hk, hbu⟩
  refine br_dec (fun hlt => ?_) (fun hge => ?_)
  · refine ref_empty_spec fun u1 hgu1 => ⟨⟨by omega, hlt⟩, ?_⟩
    simp only [Int.toNat_natCast]
    refine want_set (hgu1.heap hbu (fun q => q)) (by simp; omega) fun u2 hb2 hk2 _ => ?_
    rw [w64 (by omega) (by omega)]
    rw [rep_set j (by omega)] at hb2
    exact ⟨⟨j + 1, by omega, by omega, (hk.grow hgu1).trans hk2 fun _ _ q => q, hb2⟩, by omega⟩
  have hj32 : j = 32 := by omega
  subst hj32
  have P0 : Play w u ps pa wb D st0 (List.replicate 32 emptyB) 0 := by
    have hw3 := (hw1.grow hg2).grow hg3
    have hSw : ps ≠ wb := by have := lt_of_heap hS2; omega
    refine ⟨hgw3.keep hk fun i hi q => by omega, hw3.keep hk (fun k hk' q => nDw (q ▸ hk')) (fun g cur hg q => ?_), hk.heap (hg3.heap hS2 (fun q => q)) hSw, nD, nDw, bD, by omega, by simpa using hbu, by simp, tells_empty 32 s_f, wok0, Nat.le_refl _, Nat.le_refl _⟩
    subst q
    exact absurd (blk_type hwant0 hg) (by decide)
  refine ⟨fun i u => ∃ (j : Nat) (bs : List Bk) (D : Nat → Prop) (st : Wst), i = j ∧ j ≤ xs.length ∧ j ≤ 60 ∧ Play w u ps pa wb D st bs j, fun i _ => 60 - i.toNat, ⟨0, _, D, st0, rfl, Nat.zero_le _, by decide, P0⟩, ?_⟩
  rintro i u1 ⟨j, bs, D, st, rfl, hj1, hj2, P⟩
  by_cases hc : j < xs.length ∧ j < 60
  case neg =>
    refine br_f (by rw [Bool.and_eq_false_iff, decide_eq_false_iff_not, decide_eq_false_iff_not]; omega) ?_
    have hops := P.ops
    refine store_read_spec (lba := 0) (n := 32) P.isS P.nps P.isW size_s_f (by decide) (by decide) (by omega) fun out u2 hk2 hw2 hown hn => ?_
    have hgu2 : Grow w u2 := P.grow.keep hk2 fun i hi q => by have := P.above i q; omega
    refine ⟨fun _ => by decide, fun _ => ?_, fun q => (by cases q)⟩
    have hwb2 : Blk u2 wb (bs.flatMap bc).toArray t_32_api_Block := hk2.heap P.want P.nwb
    have hrw : Rd u2 19 ⟨some ⟨wb, 0, none⟩, 32, 32⟩ (bs.flatMap bc) := ⟨by rw [flat_length bc_len, P.len], Nat.le_refl _, by show 32 ≤ _; decide, fun _ => ⟨_, rfl, blk_cells hwb2⟩⟩
    have hrb : rdBl st s_f 0 32 = bs := by have := tells_read P.tells; rwa [P.len] at this
    rw [hrb] at hown
    refine same04_spec (b := ⟨some ⟨wb, 0, none⟩, 32, 32⟩) (hown.rd (by omega)) hrw (fun _ u3 hg3 => h u3 (hgu2.trans hg3)) (fun q => absurd rfl q)
  refine br_t (by rw [Bool.and_eq_true, decide_eq_true_eq, decide_eq_true_eq]; omega) ?_
  obtain ⟨hc1, hc2⟩ := hc
  obtain ⟨hkx, hax, hlx⟩ := hq _ (List.getElem_mem hc1)
  generalize hX : xs[j] = X at hkx hax hlx
  obtain ⟨a0, ha0, hca⟩ := rd_act_at (hx.grow P.grow) hc1
  rw [hX] at hca
  refine ⟨⟨by omega, by omega, by rw [ha0]; rfl⟩, (ac X).toArray, by rw [ha0]; exact loadVar_rule g_palletlaw04_Act i_palletlaw04_Act rfl hca, ?_⟩
  refine new_rule fun ab u2 hab hb2 hg2' hsz2 => ?_
  refine storeVar_rule (cells := (ac X).toArray) hb2 i_palletlaw04_Act rfl rfl (by simp [ac, Value.oneCell']) fun u3 hb3' hk3 hsz3' => ?_
  have hgu3 : Grow u1 u3 := hg2'.keep hk3 fun i hi q => by omega
  have P3 := P.go hgu3
  refine ⟨X.a, by rw [add0, hb3'.cell]; rfl, by decide, X.l, by rw [add0, hb3'.cell]; rfl, X.l, by rw [add0, hb3'.cell]; rfl, ?_⟩
  obtain ⟨F, hF, hFe⟩ := place_spec X.a
  rw [hFe]
  have e1 : IntKind.wrap .i64 (32 - (F : Int)) = ((32 - F : Nat) : Int) := by rw [w64 (by omega) (by omega)]; omega
  rw [e1, mn_nat]
  have hlb := rd_bk hlx
  have hlc := hlx.cap
  generalize hM : min X.l.n (32 - F) = M
  simp only [Int.toNat_natCast, Nat.sub_zero]
  refine ⟨⟨by omega, by omega, by omega, hlc⟩, (X.kind : Int), by rw [add0, hb3'.cell]; rfl, by decide, ?_⟩
  have hops := P.ops
  have hwts := P.waits
  have lM : ((X.bs.drop 0).take (M - 0)).length = M := by rw [List.length_take, List.length_drop]; omega
  have hXr : ∀ u, Keep D u3 u → Rd u 19 ⟨cutA X.l.A X.l.c 0 19, M - 0, X.l.c - 0⟩ (((X.bs.drop 0).take (M - 0)).flatMap bc) := fun u hk => rd_bk_cut (hlx.grow (P3.grow.keep hk fun i hi q => by have := P.above i q; omega)) (Nat.zero_le _) (by omega)
  have fin : ∀ (u4 u5 : World) (D4 : Nat → Prop) (st4 : Wst) (bs4 : List Bk), Keep D u3 u4 → IsW u4 pa D4 st4 → (∀ k, D4 k → D k ∨ u3.heap.size ≤ k) → IsS u4 ps pa s_f 32 true → Keep (fun k => k = wb) u4 u5 → Blk u5 wb (bs4.flatMap bc).toArray t_32_api_Block → bs4.length = 32 → Tells st4 s_f bs4 → Wok st4 → st4.ops ≤ st.ops + 33 → st4.waits.length ≤ st.waits.length + 33 →
      (∃ (j_1 : Nat) (bs : List Bk) (D : Nat → Prop) (st : Wst), IntKind.wrap .i64 ((j : Int) + 1) = j_1 ∧ j_1 ≤ xs.length ∧ j_1 ≤ 60 ∧ Play w u5 ps pa wb D st bs j_1) ∧ 60 - (IntKind.wrap .i64 ((j : Int) + 1)).toNat < 60 - j := by
    intro u4 u5 D4 st4 bs4 hk4 hw4 hD4 hS4 hk5 hb5 hl5 ht5 hok5 ho5 hn5
    have lps := lt_of_heap P3.isS
    have lwb := lt_of_heap P3.want
    have s3 := P3.grow.size
    have nps4 : ¬ D4 ps := fun q => by rcases hD4 _ q with r | r; · exact P.nps r
                                       · omega
    have nwb4 : ¬ D4 wb := fun q => by rcases hD4 _ q with r | r; · exact P.nwb r
                                       · omega
    have hwb4 : Blk u4 wb (bs.flatMap bc).toArray t_32_api_Block := hk4.heap P3.want P.nwb
    have hne : ps ≠ wb := fun q => by
      have h1 := P.isS
      have h2 := P.want
      subst q
      exact absurd (blk_type h1 h2) (by decide)
    rw [w64 (by omega) (by omega)]
    refine ⟨⟨j + 1, bs4, D4, st4, by omega, by omega, by omega, ⟨(P3.grow.keep hk4 fun i hi q => by have := P.above i q; omega).keep hk5 fun i hi q => by have := P.wba; omega, hw4.keep hk5 (fun k hk' q => nwb4 (q ▸ hk')) (fun g cur hg q => ?_), hk5.heap hS4 hne, nps4, nwb4, fun k hk' => ?_, P.wba, hb5, hl5, ht5, hok5, by omega, by omega⟩⟩, by omega⟩
    · subst q; exact absurd (blk_type hwb4 hg) (by decide)
    · rcases hD4 k hk' with r | r
      · exact P.above k r
      · omega
  have hlen := P.len
  refine ⟨fun _ => ?_, fun _ => ?_⟩
  · refine ⟨X.on, by rw [add0, hb3'.cell]; rfl, ?_⟩
    refine store_write2_spec (lba := F) (bs := (X.bs.drop 0).take (M - 0)) P3.isS P3.nps P3.isW P3.ok size_s_f (by decide) (by rw [lM]; omega) hXr (by omega) (by omega) fun u4 D4 hk4 hw4 hD4 hS4 => ?_
    rw [lM] at hw4 ⊢
    refine br_f (by simp) ?_
    have hwb4 : Blk u4 wb (bs.flatMap bc).toArray t_32_api_Block := hk4.heap P3.want P.nwb
    obtain ⟨lo, lw⟩ := layW_ops st s_f F (rsOf ((X.bs.drop 0).take (M - 0))) M
    have so := syncIf_ops (syncs M X.on true) (layW st s_f F (rsOf ((X.bs.drop 0).take (M - 0))) M)
    have ht := tells_write (F := F) (xs := (X.bs.drop 0).take (M - 0)) (y := syncs M X.on true) P.tells (by rw [lM]; omega)
    rw [lM] at ht
    refine ⟨fun jj u5 => ∃ k : Nat, jj = k ∧ k ≤ M ∧ Keep (fun k => k = wb) u4 u5 ∧ Blk u5 wb ((setAll bs F ((X.bs.drop 0).take (M - 0)) k).flatMap bc).toArray t_32_api_Block, fun jj _ => M - jj.toNat, ⟨0, rfl, Nat.zero_le _, Keep.mono (Keep.refl (fun _ => False) u4) (fun _ _ q => q.elim), hwb4⟩, ?_⟩
    rintro jj u5 ⟨k, rfl, hkM, hk5, hb5⟩
    refine br_nat (fun hlt => ?_) (fun hge => ?_)
    · have hr5 := hXr u5 |> fun f => (hlx.grow ((P3.grow.keep hk4 fun i hi q => by have := P.above i q; omega).keep hk5 fun i hi q => by have := P.wba; omega))
      have hrc := rd_bk_cut hr5 (l := 0) (k := M) (Nat.zero_le _) (by omega)
      obtain ⟨a5, ha5, hc5⟩ := rd_bk_at hrc (i := k) (by rw [lM]; exact hlt)
      have ha5 : cutA X.l.A X.l.c 0 19 = some a5 := ha5
      refine ⟨⟨by omega, by omega, by rw [ha5]; rfl⟩, _, by rw [ha5]; exact loadVar_rule g_api_Block i_api_Block (by rw [bc_len]) hc5, ?_⟩
      have e2 : IntKind.wrap .i64 ((F : Int) + (k : Int)) = ((F + k : Nat) : Int) := by rw [w64 (by omega) (by omega)]; omega
      rw [e2]
      refine ⟨⟨by omega, by omega⟩, ?_⟩
      simp only [Int.toNat_natCast]
      refine want_set hb5 (by rw [setAll_len]; omega) fun u6 hb6 hk6 _ => ?_
      rw [w64 (by omega) (by omega)]
      refine ⟨⟨k + 1, by omega, by omega, hk5.trans hk6 fun _ _ q => q, ?_⟩, by omega⟩
      simp only [setAll]
      rw [List.getElem?_eq_getElem (by rw [lM]; exact hlt)]
      exact hb6
    · have hkm : k = M := by omega
      subst hkm
      exact fin u4 u5 D4 _ _ hk4 hw4 hD4 hS4 hk5 hb5 (by rw [setAll_len]; exact hlen) ht (syncIf_ok (layW_ok P.ok (rsOf_len _) _ (by omega))) (by omega) (by rw [syncIf_waits]; split; exact Nat.zero_le _; omega)
  · refine store_unmap_spec (lba := F) (n := M) P3.isS P3.nps P3.isW P3.ok size_s_f (by decide) (by omega) (by omega) (by omega) fun u4 D4 hk4 hw4 hD4 hS4 => ?_
    refine br_f (by simp) ?_
    have hwb4 : Blk u4 wb (bs.flatMap bc).toArray t_32_api_Block := hk4.heap P3.want P.nwb
    obtain ⟨lo, lw⟩ := layW_ops st s_f F (fun _ => [0]) M
    have so := syncIf_ops (syncs M false true) (layW st s_f F (fun _ => [0]) M)
    have ht := tells_unmap (F := F) (n := M) (y := syncs M false true) P.tells (by omega)
    refine ⟨fun jj u5 => ∃ k : Nat, jj = k ∧ k ≤ M ∧ Keep (fun k => k = wb) u4 u5 ∧ Blk u5 wb ((setAll bs F [] k).flatMap bc).toArray t_32_api_Block, fun jj _ => M - jj.toNat, ⟨0, rfl, Nat.zero_le _, Keep.mono (Keep.refl (fun _ => False) u4) (fun _ _ q => q.elim), hwb4⟩, ?_⟩
    rintro jj u5 ⟨k, rfl, hkM, hk5, hb5⟩
    refine br_nat (fun hlt => ?_) (fun hge => ?_)
    · refine ref_empty_spec fun u6 hg6 => ?_
      have e2 : IntKind.wrap .i64 ((F : Int) + (k : Int)) = ((F + k : Nat) : Int) := by rw [w64 (by omega) (by omega)]; omega
      rw [e2]
      refine ⟨⟨by omega, by omega⟩, ?_⟩
      simp only [Int.toNat_natCast]
      refine want_set (hg6.heap hb5 (fun q => q)) (by rw [setAll_len]; omega) fun u7 hb7 hk7 _ => ?_
      rw [w64 (by omega) (by omega)]
      exact ⟨⟨k + 1, by omega, by omega, (hk5.grow hg6).trans hk7 fun _ _ q => q, by simpa [setAll] using hb7⟩, by omega⟩
    · have hkm : k = M := by omega
      subst hkm
      exact fin u4 u5 D4 _ _ hk4 hw4 hD4 hS4 hk5 hb5 (by rw [setAll_len]; exact hlen) ht (syncIf_ok (layW_ok P.ok (fun _ => by decide) _ (by omega))) (by omega) (by rw [syncIf_waits]; split; exact Nat.zero_le _; omega)
end Go.Proofs.Ytiokflecflbopaa
