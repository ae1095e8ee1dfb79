/- Layers 2 and 13: the walks of the guard, of tuples and of blocks over the wire. -/
import Derived.Test.YtaneeadpjelomaaPi1
namespace Go.Proofs.Ytaneeadpjelomaa
open Go CF

theorem c16_br {s : Nat} (hs : s < 65536) {X Y : Prop} (h1 : s / 32768 = 1 → X) (h0 : ¬ s / 32768 = 1 → Y) : Br ((bShr .u16 (s : Int) 15) == 1) X Y := by
  rw [shr .u16 s 15 (by decide)]
  exact br_eq (fun q => h1 (by have : (2 : Nat) ^ 15 = 32768 := rfl; omega)) (fun q => h0 (by have : (2 : Nat) ^ 15 = 32768 := rfl; omega))
theorem c16_spec {p : Sl} {l : L8} {w : World} {R : Int → World → Prop} (hp : Rd w 1 p (bv l)) (h : R ((c16 l : Nat) : Int) w) : Ccrc_C16 p w R := by
  refine Fcrc_C16.calls _ _ _ ?_
  refine Fcrc_Add16.calls _ _ _ _ ?_
  have hln : l.length = p.n := by have := hp.len; rw [bv_length] at this; omega
  have hnb := hp.nb
  refine ⟨fun v x w' => w' = w ∧ ∃ j : Nat, x = j ∧ j ≤ p.n ∧ v = ((c16 (l.take j) : Nat) : Int), fun _ x _ => p.n - x.toNat, ⟨rfl, 0, rfl, Nat.zero_le _, rfl⟩, ?_⟩
  rintro v x w0 ⟨rfl, j, rfl, hj, rfl⟩
  have hcs := c16_lt (l.take j)
  refine br_nat (fun hlt => ?_) (fun hge => ?_)
  · obtain ⟨a, ha, hc⟩ := hp.byte (i := j) hlt
    have hjs : j < l.length := by omega
    have hb8 := l[j].toNat_lt
    refine ⟨⟨by omega, by omega, by rw [ha]; rfl⟩, (l[j].toNat : Int), by rw [ha]; exact hc, ?_⟩
    rw [wu16 (n := (l[j].toNat : Int)) (by omega) (by omega), shl16_8 hb8, xor16 hcs (by omega)]
    generalize hT : c16 (l.take j) ^^^ l[j].toNat * 256 = T
    have hTl : T < 65536 := by rw [← hT]; exact xor_lt16 hcs (by omega)
    refine ⟨fun v x w' => w' = w0 ∧ ∃ k : Nat, x = k ∧ k ≤ 8 ∧ v = ((gGs k T : Nat) : Int), fun _ x _ => 8 - x.toNat, ⟨rfl, 0, rfl, by decide, rfl⟩, ?_⟩
    rintro v x w1 ⟨rfl, k, rfl, hk, rfl⟩
    have hgl := gGs_lt hTl k
    refine br_dec (fun hlt8 => ?_) (fun hge8 => ?_)
    · refine c16_br hgl (fun q => ?_) (fun q => ?_)
      · rw [shl16_1, show bXor .u16 ((2 * gGs k T % 65536 : Nat) : Int) 35767 = ((2 * gGs k T % 65536 ^^^ 35767 : Nat) : Int) from xor16 (by omega) (by decide), w64 (by omega) (by omega)]
        refine ⟨⟨rfl, k + 1, by omega, by omega, ?_⟩, by dsimp only; omega⟩
        simp only [gGs]; unfold gG; rw [if_pos q]
      · rw [shl16_1, w64 (by omega) (by omega)]
        refine ⟨⟨rfl, k + 1, by omega, by omega, ?_⟩, by dsimp only; omega⟩
        simp only [gGs]; unfold gG; rw [if_neg q]
    · have : k = 8 := by omega
      subst this
      rw [w64 (by omega) (by omega)]
      refine ⟨⟨rfl, j + 1, by omega, by omega, ?_⟩, by dsimp only; omega⟩
      rw [List.take_succ_eq_append_getElem hjs, c16_snoc]
      unfold gB
      rw [hT]
  · have : j = p.n := by omega
    subst this
    rw [List.take_of_length_le (by omega)]
    exact h
/-! ### blocks in memory -/
def tc (g a r : Nat) : List Value := [.int .u16 (g : Int), .int .u16 (a : Int), .int .u32 (r : Int)]
theorem dRd {w : World} {pb : Nat} {b : Bk} (h : Blk w pb (bc b).toArray t_api_Block) : Rd w 1 ⟨some ⟨pb, 0, none⟩, 16, 16⟩ (bv b.d) :=
  ⟨by rw [bv_length, b.hd]; rfl, Nat.le_refl _, by show 16 ≤ _; decide, fun _ => ⟨_, rfl, fun j v hj => blk_cells h j v (by rw [bc, List.getElem?_append_left (List.getElem?_eq_some_iff.1 hj).1]; exact hj)⟩⟩
theorem bc_tail (b : Bk) : (bc b).drop 16 = tc b.g b.a b.r := by
  unfold bc
  rw [List.drop_append, List.drop_of_length_le (by rw [bv_length, b.hd]; omega), bv_length, b.hd]; rfl
theorem bc_head (b : Bk) : (bc b).take 16 = bv b.d := by
  unfold bc
  rw [List.take_append_of_le_length (by rw [bv_length, b.hd]; omega), List.take_of_length_le (by rw [bv_length, b.hd]; omega)]
theorem cells_tail {w : World} {a : Addr} {b : Bk} (h : Cells w a (bc b)) : Cells w (a.add 16) (tc b.g b.a b.r) := fun j v hj => by
  rw [addr_add]
  refine h (16 + j) v ?_
  rw [← bc_tail, List.getElem?_drop] at hj
  exact hj
theorem cells_head {w : World} {a : Addr} {b : Bk} (h : Cells w a (bc b)) : Cells w (a.add 0) (bv b.d) := fun j v hj => by
  rw [addr_zero]
  refine h j v ?_
  rw [← bc_head, List.getElem?_take] at hj
  split at hj
  · exact hj
  · cases hj
theorem tLoad {w : World} {a : Addr} {g n r : Nat} (h : Cells w a (tc g n r)) : (loadVar t_api_Tuple a).run Try.prog w = .ok (.agg (tc g n r).toArray) w :=
  loadVar_rule g_api_Tuple i_api_Tuple rfl h
theorem dLoad {w : World} {a : Addr} {d : L8} (hd : d.length = 16) (h : Cells w a (bv d)) : (loadVar t_16_uint8 a).run Try.prog w = .ok (.agg (bv d).toArray) w :=
  loadVar_rule g_16_uint8 i_16_uint8 (by rw [bv_length, hd]) h
theorem bLoad {w : World} {a : Addr} {b : Bk} (h : Cells w a (bc b)) : (loadVar t_api_Block a).run Try.prog w = .ok (.agg (bc b).toArray) w :=
  loadVar_rule g_api_Block i_api_Block (by rw [bc_len]) h
theorem make_spec {kind lba app : Nat} {d : L8} {w : World} {R : Array Value → World → Prop} (hd : d.length = 16) (h : ∀ w', Grow w w' → R (tc (c16 d) app (mkR kind lba)).toArray w') : Cpi_Make (kind : Int) (lba : Int) (bv d).toArray (app : Int) w R := by
  refine Fpi_Make.calls _ _ _ _ _ _ ?_
  refine new_rule fun db w0 hdb hb0 hg0 hsz0 => ?_
  have hb0 : Blk w0 db (bv d).toArray t_16_uint8 := hb0
  refine new_rule fun ab w1 hab hb1 hg1 hsz1 => ⟨by decide, ?_⟩
  have hb0' := hg1.heap hb0 (fun q => q)
  have hrd : Rd w1 1 ⟨some ⟨db, 0, none⟩, 16, 16⟩ (bv d) := ⟨by rw [bv_length, hd]; rfl, Nat.le_refl _, by show 16 ≤ _; decide, fun _ => ⟨_, rfl, fun j v hj => blk_cells hb0' j v hj⟩⟩
  refine c16_spec (p := ⟨some ⟨db, 0, none⟩, 16, 16⟩) hrd ?_
  refine new_rule fun tb w2 htb hb2 hg2 hsz2 => ?_
  refine storeVar_rule (cells := (tc (c16 d) app 0).toArray) hb2 i_api_Tuple rfl rfl (by simp [tc, Value.oneCell']) fun w3 hb3 hk3 hsz3 => ?_
  have hb1' : Blk w2 ab _ t_api_Tuple := hg2.heap hb1 (fun q => q)
  have hb13 : Blk w3 ab _ t_api_Tuple := hk3.heap hb1' (by omega)
  have hg03 : Grow w w3 := ((hg0.trans hg1).trans hg2).keep hk3 fun i hi q => by omega
  refine letX0 (fun u => Grow w u ∧ Blk u tb (tc (c16 d) app (mkR kind lba)).toArray t_api_Tuple ∧ Blk u ab #[.int .u16 0, .int .u16 0, .int .u32 0] t_api_Tuple) ?_ (fun J => ?_)
  · rintro u ⟨hgu, hbt, hba⟩
    refine ⟨_, tLoad (blk_cells hbt), ?_⟩
    refine storeVar_rule (cells := (tc (c16 d) app (mkR kind lba)).toArray) hba i_api_Tuple rfl rfl (by simp [tc, Value.oneCell']) fun u2 hb2' hk2' _ => ?_
    exact ⟨_, tLoad (blk_cells hb2'), h u2 (hgu.keep hk2' fun i hi q => by have := hg0.size; omega)⟩
  · by_cases q : kind = 1 ∨ kind = 2
    · refine br_t (by rw [Bool.or_eq_true, beq_iff_eq, beq_iff_eq]; omega) ?_
      rw [add0]
      refine put_rule hb3 (by show 2 < 3; decide) rfl fun w4 hb4 hk4 _ => J w4 ⟨hg03.keep hk4 fun i hi q => by have := hg0.size; omega, ?_, hk4.heap hb13 (by omega)⟩
      have e : IntKind.wrap .u32 (lba : Int) = ((mkR kind lba : Nat) : Int) := by
        unfold mkR; rw [if_pos q]
        have e : IntKind.wrap .u32 (lba : Int) = (lba : Int) % 4294967296 := by simp [IntKind.wrap, IntKind.signed, IntKind.bits]
        rw [e]; omega
      rw [e] at hb4
      exact hb4
    · refine br_f (by rw [Bool.or_eq_false_iff, beq_eq_false_iff_ne, beq_eq_false_iff_ne]; omega) (J w3 ⟨hg03, ?_, hb13⟩)
      unfold mkR; rw [if_neg q]; exact hb3
theorem escapes_spec {kind : Nat} {b : Bk} {w : World} {R : Bool → World → Prop} (h : ∀ w', Grow w w' → R (escB kind b) w') : Cpi_escapes (kind : Int) (tc b.g b.a b.r).toArray w R := by
  refine Fpi_escapes.calls _ _ _ _ ?_
  refine new_rule fun tb w0 htb hb0 hg0 hsz0 => ?_
  have hb0 : Blk w0 tb (tc b.g b.a b.r).toArray t_api_Tuple := hb0
  refine ⟨(b.a : Int), by rw [add0, hb0.cell]; rfl, ?_⟩
  have := h w0 hg0
  unfold escB at this
  refine br_ne (fun q => ?_) (fun q => ⟨(b.r : Int), fun _ => by rw [add0, hb0.cell]; rfl, ?_⟩)
  · rw [decide_eq_false (by omega)] at this; exact this
  · have e : ((kind : Int) != 3 || (b.r : Int) == 4294967295) = (decide (b.a = 65535) && (decide (kind ≠ 3) || decide (b.r = 4294967295))) := by
      rw [decide_eq_true (by omega : b.a = 65535), Bool.true_and, Bool.eq_iff_iff, Bool.or_eq_true, Bool.or_eq_true, bne_iff_ne, beq_iff_eq, decide_eq_true_eq, decide_eq_true_eq]
      omega
    rw [e]; exact this
theorem check_b_spec {kind prot lba : Nat} {b : Bk} {w : World} {R : Int → World → Prop} (h : ∀ w', Grow w w' → R ((chkB kind prot lba b : Nat) : Int) w') : Cpi_Check (kind : Int) (prot : Int) (lba : Int) (bc b).toArray w R := by
  refine Fpi_Check.calls _ _ _ _ _ _ ?_
  refine new_rule fun bb w0 hbb hb0 hg0 hsz0 => ?_
  have hb0 : Blk w0 bb (bc b).toArray t_api_Block := hb0
  have ht0 : Cells w0 (⟨bb, 0, none⟩ : Addr) (bc b) := blk_cells hb0
  refine ⟨_, fun _ => tLoad (cells_tail ht0), ?_⟩
  generalize hG : (((((kind : Int) == 0) || decide ((kind : Int) > 3)) || ((prot : Int) == 3)) || decide ((prot : Int) > 4)) = G
  have hGiff : G = true ↔ (kind = 0 ∨ 3 < kind ∨ prot = 3 ∨ 4 < prot) := by
    rw [← hG, Bool.or_eq_true, Bool.or_eq_true, Bool.or_eq_true, beq_iff_eq, beq_iff_eq, decide_eq_true_eq, decide_eq_true_eq]
    omega
  refine letJ1 (fun x u => Grow w0 u ∧ (G = false → x = escB kind b)) ?_ (fun J => ⟨fun q => escapes_spec fun u hu => J _ _ ⟨hu, fun _ => rfl⟩, fun q => J _ _ ⟨Keep.refl _ _, fun e => by rw [e] at q; cases q⟩⟩)
  rintro x u ⟨hgu, hx⟩
  by_cases hz : G = true ∨ escB kind b = true
  · have hc : chkB kind prot lba b = 0 := by
      unfold chkB
      refine if_pos ?_
      rcases hz with q | q
      · have := hGiff.1 q; omega
      · simp [q]
    have := h u (hg0.trans hgu)
    rw [hc] at this
    refine br_t ?_ this
    rw [Bool.or_eq_true]
    cases hg : G with
    | true => exact .inl rfl
    | false => right; rw [hx hg]; exact hz.resolve_left (by rw [hg]; decide)
  have hGf : G = false := by cases hg : G with | false => rfl | true => exact absurd (.inl hg) hz
  have hE : escB kind b = false := by cases hg : escB kind b with | false => rfl | true => exact absurd (.inr hg) hz
  have hn : ¬ (kind = 0 ∨ 3 < kind ∨ prot = 3 ∨ 4 < prot ∨ escB kind b = true) := by
    have hx : ¬ (kind = 0 ∨ 3 < kind ∨ prot = 3 ∨ 4 < prot) := fun q => hz (.inl (hGiff.2 q))
    rintro (q | q | q | q | q)
    · exact hx (.inl q)
    · exact hx (.inr (.inl q))
    · exact hx (.inr (.inr (.inl q)))
    · exact hx (.inr (.inr (.inr q)))
    · rw [hE] at q; cases q
  refine br_f (by rw [hGf, hx hGf, hE]; rfl) ?_
  rintro w2 rfl
  have hg2 : Grow w0 u.drew := hgu.trans (keep_drew u)
  have hbu : ∀ {v : World}, Grow w0 v → Blk v bb (bc b).toArray t_api_Block := fun g => g.heap hb0 (fun q => q)
  obtain ⟨e16, e17, e18⟩ := bc_at b
  refine ⟨fun v => Grow w0 v, hg2, (b.g : Int), fun _ v hv => by rw [add0, add0, (hbu hv).cell]; exact e16, fun _ => by decide, ?_⟩
  have hd : ∀ {v : World}, Grow w0 v → Rd v 1 ⟨some ⟨bb, 0, none⟩, 16, 16⟩ (bv b.d) := fun g => dRd (hbu g)
  refine letJ1 (fun x v => Grow w0 v ∧ ((prot : Int) ≠ 2 → x = ((c16 b.d : Nat) : Int))) ?_ (fun J => ⟨fun q => c16_spec (p := ⟨some ⟨bb, 0, none⟩, 16, 16⟩) (hd hg2) (J _ _ ⟨hg2, fun _ => rfl⟩), fun q => J _ _ ⟨hg2, fun e => absurd (by simpa using q) e⟩⟩)
  rintro x v ⟨hgv, hxv⟩
  refine ⟨hgv, ?_⟩
  have hfin := h v (hg0.trans hgv)
  by_cases q1 : prot ≠ 2 ∧ b.g ≠ c16 b.d
  · have hc : chkB kind prot lba b = 4097 := by unfold chkB; rw [if_neg hn, if_pos q1]
    rw [hc] at hfin
    refine br_t ?_ hfin
    rw [hxv (by omega), Bool.and_eq_true, bne_iff_ne, bne_iff_ne]
    omega
  refine br_f ?_ ⟨(b.r : Int), fun _ => by rw [add0, add0, (hbu hgv).cell]; exact e18, ?_⟩
  · rw [Bool.and_eq_false_iff, bne_eq_false_iff_eq, bne_eq_false_iff_eq]
    by_cases e : prot = 2
    · left; omega
    · right; rw [hxv (by omega)]; omega
  have e32 : IntKind.wrap .u32 (lba : Int) = ((lba % 4294967296 : Nat) : Int) := by
    have e : IntKind.wrap .u32 (lba : Int) = (lba : Int) % 4294967296 := by simp [IntKind.wrap, IntKind.signed, IntKind.bits]
    rw [e]; omega
  rw [e32]
  by_cases q2 : prot ≠ 4 ∧ kind ≠ 3 ∧ b.r ≠ lba % 4294967296
  · have hc : chkB kind prot lba b = 4099 := by unfold chkB; rw [if_neg hn, if_neg q1, if_pos q2]
    rw [hc] at hfin
    refine br_t ?_ hfin
    rw [Bool.and_eq_true, Bool.and_eq_true, bne_iff_ne, bne_iff_ne, bne_iff_ne]
    omega
  · have hc : chkB kind prot lba b = 0 := by unfold chkB; rw [if_neg hn, if_neg q1, if_neg q2]
    rw [hc] at hfin
    refine br_f ?_ hfin
    rw [Bool.and_eq_false_iff, Bool.and_eq_false_iff, bne_eq_false_iff_eq, bne_eq_false_iff_eq, bne_eq_false_iff_eq]
    omega
theorem size_spec {wt : Bool} {w : World} {R : Int → World → Prop} (h : R ((szB wt : Nat) : Int) w) : Cpi_Size wt w R := by
  refine Fpi_Size.calls _ _ _ ?_
  cases wt
  · exact br_f rfl h
  · exact br_t rfl h
end Go.Proofs.Ytaneeadpjelomaa
