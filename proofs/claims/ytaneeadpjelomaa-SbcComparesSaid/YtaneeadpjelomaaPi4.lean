/- Layer 13: unpacking. -/
import Derived.Test.YtaneeadpjelomaaPi3
import Derived.Test.YtaneeadpjelomaaCfR
namespace Go.Proofs.Ytaneeadpjelomaa
open Go CF

theorem take2 {X : L8} {d : Nat} (h : d + 2 ≤ X.length) : (X.drop d).take 2 = [X[d], X[d + 1]] := by
  rw [List.drop_eq_getElem_cons (show d < X.length by omega), List.take_succ_cons, List.drop_eq_getElem_cons (show d + 1 < X.length by omega), List.take_succ_cons, List.take_zero]
theorem take4 {X : L8} {d : Nat} (h : d + 4 ≤ X.length) : (X.drop d).take 4 = [X[d], X[d + 1], X[d + 2], X[d + 3]] := by
  rw [List.drop_eq_getElem_cons (show d < X.length by omega), List.take_succ_cons, List.drop_eq_getElem_cons (show d + 1 < X.length by omega), List.take_succ_cons, List.drop_eq_getElem_cons (show d + 2 < X.length by omega), List.take_succ_cons,
    List.drop_eq_getElem_cons (show d + 3 < X.length by omega), List.take_succ_cons, List.take_zero]
theorem unpack_spec {p : Sl} {l : L8} {wt : Bool} {w : World} {R : Sl → Bool → World → Prop} (hp : Rd w 1 p (bv l)) (hb : p.n ≤ 140737488351232)
    (h1 : l.length % szB wt ≠ 0 → R nilS false w) (h2 : l.length % szB wt = 0 → ∀ out u, Grow w u → Own u w.heap.size t_api_Block 19 out ((unpB wt l).flatMap bc) → R out true u) : Cpi_Unpack p wt w R := by
  refine Fpi_Unpack.calls _ _ _ _ ?_
  have hln := rd_n' hp
  have hs16 : 16 ≤ szB wt ∧ szB wt ≤ 24 := by unfold szB; split <;> decide
  refine size_spec ⟨by omega, ?_⟩
  have em : ((p.n : Int).tmod ((szB wt : Nat) : Int)) = ((l.length % szB wt : Nat) : Int) := by rw [hln]; rfl
  rw [em]
  refine br_ne (fun q => h1 (by omega)) (fun q => ?_)
  have hm : l.length % szB wt = 0 := by omega
  have hN : l.length = l.length / szB wt * szB wt := by have := Nat.div_add_mod l.length (szB wt); rw [hm, Nat.mul_comm] at this; omega
  have h2 := h2 hm
  generalize hNN : l.length / szB wt = N at *
  have hN16 : N * 16 ≤ l.length := by rw [hN]; exact Nat.mul_le_mul_left _ hs16.1
  have hul : (unpB wt l).length = N := by rw [unpB_len, hNN]
  refine ⟨fun p1 out u => ∃ j : Nat, j ≤ N ∧ Grow w u ∧ (∀ v, Grow w v → Rd v 1 p1 (bv (l.drop (j * szB wt)))) ∧ Own u w.heap.size t_api_Block 19 out (((unpB wt l).take j).flatMap bc), fun p1 _ _ => p1.n,
    ⟨0, Nat.zero_le _, Keep.refl _ _, fun v hv => by rw [Nat.zero_mul, List.drop_zero]; exact hp.grow hv, own_nil _ _ _ _⟩, ?_⟩
  rintro p1 out u ⟨j, hj, hgu, hp1, hown⟩
  have hpu := hp1 u hgu
  have hpn := rd_n' hpu
  rw [List.length_drop] at hpn
  have hjs : j * szB wt ≤ N * szB wt := Nat.mul_le_mul_right _ hj
  by_cases hjN : j = N
  · subst hjN
    refine br_f (by rw [decide_eq_false_iff_not]; omega) ?_
    rw [List.take_of_length_le (by omega)] at hown
    exact h2 out u hgu hown
  have hjs1 : j * szB wt + szB wt ≤ N * szB wt := by rw [← Nat.succ_mul]; exact Nat.mul_le_mul_right _ (by omega)
  have hcap := hpu.cap
  refine br_t (by rw [decide_eq_true_eq]; omega) ?_
  have hXl : (l.drop (j * szB wt)).length = p1.n := by rw [List.length_drop]; exact hpn
  have hun : (unpB wt l)[j]'(by omega) = unB wt (l.drop (j * szB wt)) := by rw [unpB_at, unB_take]
  have hou := rd_bk (hown.rd (by
    have := hown.len
    rw [flat_length bc_len, List.length_take] at this
    omega))
  rw [List.length_take, hul, Nat.min_eq_left hj] at hou
  refine letX1 (fun out1 v => Grow w v ∧ Own v w.heap.size t_api_Block 19 out1 (((unpB wt l).take (j + 1)).flatMap bc)) ?_ (fun J => ?_)
  · rintro out1 v ⟨h3, h5⟩
    refine ⟨⟨by omega, by omega, by omega, hcap⟩, ⟨j + 1, by omega, h3, fun x hx => ?_, h5⟩, ?_⟩
    · have := (hp1 x hx).cutB (l := szB wt) (k := p1.n) (by omega) (Nat.le_refl _)
      rw [List.take_of_length_le (by rw [List.length_drop]; omega), List.drop_drop] at this
      rw [Nat.succ_mul]
      exact this
    · show ((p1.n : Int)).toNat - ((szB wt : Nat) : Int).toNat < p1.n
      rw [Int.toNat_natCast, Int.toNat_natCast]; omega
  have hflat : ((unpB wt l).take (j + 1)).flatMap bc = ((unpB wt l).take j).flatMap bc ++ bc (unB wt (l.drop (j * szB wt))) := by
    rw [List.take_succ_eq_append_getElem (by omega), List.flatMap_append, hun]; simp
  rw [hflat] at J
  generalize hX : l.drop (j * szB wt) = X at *
  refine new_rule fun pb w1 hpb hb1 hg1 hsz1 => ⟨by decide, ?_⟩
  have hb1 : Blk w1 pb (bc zeroBk).toArray t_api_Block := hb1
  refine copy16_rule hb1 (hp1 w1 (hgu.trans hg1)) (by omega) fun w2 hb2 hk2 hsz2 => ?_
  have hg2 : Grow u w2 := hg1.keep hk2 fun i hi q => by omega
  refine letX0 (fun v => Grow u v ∧ Blk v pb (bc (unB wt X)).toArray t_api_Block) ?_ (fun J1 => ?_)
  · rintro v ⟨hgv, hbv⟩
    refine ⟨_, bLoad (blk_cells hbv), ?_⟩
    refine lit_rule (cells := (bc (unB wt X)).toArray) (e := t_api_Block) (z := 19) (base := 0) (lit_block _ _) (by simp [bc_len]) (by decide) (Nat.zero_le _) fun w3 hlit3 hg3 _ => ?_
    refine append_wide_rule u_sl_api_Block i_api_Block rfl (by decide) (by decide) ((hown.grow hgv).grow hg3) (hlit3.rd (by show 1 ≤ _; decide)) (fun x hx => bc_ones _ x (by simpa using hx)) (by show out.n + 1 ≤ _; omega) (by show (out.n + 1 + (out.n + 1) / 4 + 192) * 24 ≤ _; omega) ((hgu.trans hgv).trans hg3).size fun s' w4 hn4 hown4 hk4 => ?_
    exact J s' w4 ⟨own_grow' ((hgu.trans hgv).trans hg3) ((hown.grow hgv).grow hg3) (Nat.le_refl _) hk4, by simpa using hown4⟩
  · have hgw2 := hgu.trans hg2
    cases wt with
    | false =>
      refine br_f rfl (J1 w2 ⟨hg2, ?_⟩)
      rw [unB_false X (by omega)]
      exact hb2
    | true =>
      have h24 : 24 ≤ X.length := by have : szB true = 24 := rfl; omega
      refine br_t rfl ⟨⟨by decide, by omega, by omega, hcap⟩, ?_⟩
      rintro w3 rfl
      have hg3 : Grow w2 w2.drew := keep_drew w2
      have hcut : ∀ v, Grow w v → Rd v 1 ⟨cutA p1.A p1.c 16 1, p1.n - 16, p1.c - 16⟩ (bv (X.drop 16)) := fun v hv => by
        have := (hp1 v hv).cutB (l := 16) (k := p1.n) (by omega) (Nat.le_refl _)
        rwa [List.take_of_length_le (by rw [List.length_drop]; omega)] at this
      have rd : ∀ i (hi : 16 + i < X.length) v, Grow w v → v.cell? ((gA (cutA p1.A p1.c 16 1)).add (i * 1)) = some (.int .u8 (X[16 + i].toNat : Int)) := fun i hi v hv => by
        obtain ⟨a, ha, hc⟩ := (hcut v hv).byte (i := i) (by show i < p1.n - 16; omega)
        have ha : cutA p1.A p1.c 16 1 = some a := ha
        rw [ha, gA]
        simpa using hc
      have hA : (cutA p1.A p1.c 16 1).isSome = true := by
        obtain ⟨a, ha, _⟩ := (hcut w2 hgw2).byte (i := 0) (by show 0 < p1.n - 16; omega)
        have ha : cutA p1.A p1.c 16 1 = some a := ha
        rw [ha]; rfl
      have bd : ∀ i : Nat, i < 8 → (0 : Int) ≤ (i : Int) ∧ (i : Int) < (((((p1.n : Int)).toNat - 16) : Nat) : Int) ∧ (cutA p1.A p1.c 16 1).isSome = true := fun i hi => ⟨by omega, by rw [Int.toNat_natCast]; omega, hA⟩
      refine ⟨fun v => Grow w v, hgw2.trans hg3, bd 0 (by decide), _, rd 0 (by omega), bd 1 (by decide), _, rd 1 (by omega), bd 2 (by decide), _, rd 2 (by omega), bd 3 (by decide), _, rd 3 (by omega),
        bd 4 (by decide), _, rd 4 (by omega), bd 5 (by decide), _, rd 5 (by omega), bd 6 (by decide), _, rd 6 (by omega), bd 7 (by decide), _, rd 7 (by omega), ?_⟩
      rw [or16 (UInt8.toNat_lt _) (UInt8.toNat_lt _), or16 (UInt8.toNat_lt _) (UInt8.toNat_lt _), be32 (UInt8.toNat_lt _) (UInt8.toNat_lt _) (UInt8.toNat_lt _) (UInt8.toNat_lt _)]
      have hb3 : Blk w2.drew pb _ t_api_Block := hg3.heap hb2 (fun q => q)
      rw [add0]
      refine storeAt_rule (o := 0 + 16) (cells := (tc (X[16 + 0].toNat * 256 + X[16 + 1].toNat) (X[16 + 2].toNat * 256 + X[16 + 3].toNat) (X[16 + 4].toNat * 16777216 + X[16 + 5].toNat * 65536 + X[16 + 6].toNat * 256 + X[16 + 7].toNat)).toArray) hb3 i_api_Tuple rfl
        (by have : (bv (X.take 16)).length = 16 := by rw [bv_length, List.length_take]; omega
            simp [this, tc]) (by intro v hv; simp [tc] at hv; rcases hv with rfl | rfl | rfl <;> rfl) fun w4 hb4 hk4 hsz4 => ?_
      refine J1 w4 ⟨(hg2.trans hg3).keep hk4 fun i hi q => by omega, ?_⟩
      have e : (unB true X) = unB true X := rfl
      rw [unB_true X (by omega), take2 (by omega), take2 (by omega), take4 (by omega), num_two, num_two, num_4]
      have hl16 : (bv (X.take 16)).length = 16 := by rw [bv_length, List.length_take]; omega
      have e2 : ((bv (X.take 16) ++ tc 0 0 0).take (0 + 16)) = bv (X.take 16) := by rw [List.take_append_of_le_length (by omega), List.take_of_length_le (by omega)]
      have e3 : ((bv (X.take 16) ++ tc 0 0 0).drop (0 + 16 + 3)) = [] := List.drop_of_length_le (by rw [List.length_append, hl16]; decide)
      have hb4 : Blk w4 pb ((bv (X.take 16) ++ tc 0 0 0).take (0 + 16) ++ tc (X[16 + 0].toNat * 256 + X[16 + 1].toNat) (X[16 + 2].toNat * 256 + X[16 + 3].toNat) (X[16 + 4].toNat * 16777216 + X[16 + 5].toNat * 65536 + X[16 + 6].toNat * 256 + X[16 + 7].toNat) ++ (bv (X.take 16) ++ tc 0 0 0).drop (0 + 16 + 3)).toArray t_api_Block := hb4
      rw [e2, e3, List.append_nil] at hb4
      exact hb4
end Go.Proofs.Ytaneeadpjelomaa
