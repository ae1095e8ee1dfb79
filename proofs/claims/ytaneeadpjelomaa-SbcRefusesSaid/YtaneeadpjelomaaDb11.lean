import Derived.Test.YtaneeadpjelomaaDb6
import Derived.Test.YtaneeadpjelomaaSt9
/- Layer 14: ranges hold nothing any more. -/
namespace Go.Proofs.Ytaneeadpjelomaa
open Go CF

theorem get_any {p : Sl} {l : L8} {at_ n : Nat} {w : World} {R : Int → Int → World → Prop} (hp : Rd w 1 p (bv l)) (hb : p.n ≤ 140737489403904) (hn : 1 ≤ n) (hn8 : n ≤ 8) (ha : at_ ≤ 140737489403904)
    (h : R ((if at_ + n ≤ l.length then num ((l.drop at_).take n) else 0 : Nat) : Int) (if at_ + n ≤ l.length then 0 else 4) w) : Cbe_Get p (at_ : Int) (n : Int) w R := by
  by_cases q : at_ + n ≤ l.length
  · rw [if_pos q, if_pos q] at h
    exact get_spec hp hb hn hn8 q h
  · rw [if_neg q, if_neg q] at h
    have hln := rd_n' hp
    refine Fbe_Get.calls _ _ _ _ _ (Fbe_field.calls _ _ _ _ _ ?_)
    have e1 : IntKind.wrap .i64 ((p.n : Int) - (n : Int)) = (p.n : Int) - (n : Int) := w64 (by omega) (by omega)
    refine br_f (by rw [Bool.or_eq_false_iff, decide_eq_false_iff_not, decide_eq_false_iff_not]; omega) (br_t (by rw [Bool.or_eq_true, decide_eq_true_eq, decide_eq_true_eq, e1]; omega) (br_t rfl h))
/-- the ranges that parameters tell -/
def rngL (l : L8) (j : Nat) : Nat := num ((l.drop (8 + 16 * j)).take 8)
def rngK (l : L8) (j : Nat) : Nat := num ((l.drop (8 + 16 * j + 8)).take 4)
def sumK (l : L8) : Nat → Nat
  | 0 => 0
  | j + 1 => sumK l j + rngK l j
def unAll (bs : List Bk) (l : L8) : Nat → List Bk
  | 0 => bs
  | j + 1 => setAll (unAll bs l j) (rngL l j) [] (rngK l j)
theorem unAll_len (bs : List Bk) (l : L8) : ∀ j, (unAll bs l j).length = bs.length
  | 0 => rfl
  | j + 1 => by simp only [unAll]; rw [setAll_len, unAll_len bs l j]
theorem sumK_mono (l : L8) {i j : Nat} (h : i ≤ j) : sumK l i ≤ sumK l j := by
  induction j with
  | zero => rw [Nat.le_zero.1 h]; exact Nat.le_refl _
  | succ j ih =>
    rcases Nat.lt_or_ge i (j + 1) with q | q
    · have := ih (by omega); simp only [sumK]; omega
    · have : i = j + 1 := by omega
      rw [this]; exact Nat.le_refl _
theorem rngK_lt (l : L8) (j : Nat) : rngK l j < 4294967296 := num_take _ 4
theorem rngL_lt (l : L8) (j : Nat) : rngL l j < 18446744073709551616 := num_take _ 8
section
variable {w u : World} {dv ps pw : Nat} {file : ByteArray} {kind n : Nat} {cache : Bool} {D D' : Nat → Prop} {st st' : Wst} {bs bs' : List Bk} {m m' : Nat}
theorem Dv.unmap (h : Dv w dv ps pw file kind n cache D st bs m) (hm : m ≤ 1000000) {lba k : Nat} {R : Int → Int → World → Prop} (hk : lba + k ≤ n)
    (hR : ∀ u D' st', Keep D w u → Dv u dv ps pw file kind n cache D' st' (setAll bs lba [] k) (m + k + 1) → (∀ k, D' k → D k ∨ w.heap.size ≤ k) → R (k : Int) 0 u) : Cstore_Store_Unmap (some ⟨ps, 0, none⟩) (lba : Int) (k : Int) w R := by
  have hsz := h.size
  have hlen := h.len
  have hfew := h.few
  refine store_unmap_spec h.isS h.nps h.isW h.ok h.nm hsz.2 hk (by omega) (by omega) fun u D2 hk2 hw2 hD2 hS2 => ?_
  obtain ⟨lo, lw⟩ := layW_ops st file lba (fun _ => [0]) k
  have so := syncIf_ops (syncs k false cache) (layW st file lba (fun _ => [0]) k)
  have sw : (syncIf (syncs k false cache) (layW st file lba (fun _ => [0]) k)).waits.length ≤ st.waits.length + k := by
    rw [syncIf_waits]
    split
    · exact Nat.zero_le _
    · omega
  exact hR u D2 _ hk2 (h.step hk2 hw2 hD2 (syncIf_ok (layW_ok h.ok (fun _ => by decide) k (by omega))) (tells_unmap h.tells (by omega)) (by rw [setAll_len]; exact hlen) (by omega)) hD2
theorem dev_unmap_spec {p : Sl} {l : L8} {K : Array Value → World → Prop} (h : Dv w dv ps pw file kind n cache D st bs m) (hm : m ≤ 900000) (hp : Rd w 1 p (bv l)) (hb : p.n ≤ 140737488351232)
    (hpk : ∀ v, Keep D w v → Rd v 1 p (bv l))
    (k0 : l.length = 0 → ∀ u, Grow w u → K (rsv 0 sn0 nilS).toArray u)
    (kE : ∀ sn, sn.key = 5 → (l.length < 8 ∨ num ((l.drop 0).take 2) ≠ l.length - 2 ∨ num ((l.drop 2).take 2) ≠ l.length - 8 ∨ (l.length - 8) % 16 ≠ 0 ∨ (∃ j, j < (l.length - 8) / 16 ∧ n < rngL l j + rngK l j) ∨ 256 < sumK l ((l.length - 8) / 16)) → ∀ u, Grow w u → K (rsv 2 sn nilS).toArray u)
    (kG : ∀ u D' st', 8 ≤ l.length → Keep D w u → Dv u dv ps pw file kind n cache D' st' (unAll bs l ((l.length - 8) / 16)) (m + 5000) → (∀ k, D' k → D k ∨ w.heap.size ≤ k) → K (rsv 0 sn0 nilS).toArray u) :
    Csbc_Dev_unmap (some ⟨dv, 0, none⟩) p w K := by
  refine Fsbc_Dev_unmap.calls _ _ _ _ ?_
  have hsz := h.size
  have hlen := h.len
  have hln := rd_n' hp
  refine new_rule fun ab w1 hab hb1 hg1 hsz1 => ?_
  have hb1 : Blk w1 ab z10 t_api_Result := hb1
  have lD := fun k (q : D k) => h.isW.lt q
  have nab : ¬ D ab := fun q => by have := lD _ q; omega
  have ret : ∀ {v : World} {s : Nat} {sn : Sn} {d : Sl}, Grow w1 v → (∀ v', Grow w v' → K (rsv s sn d).toArray v') →
      RunU Try.prog (storeVar t_api_Result ⟨ab, 0, none⟩ (.agg (rsv s sn d).toArray)) v fun w' => ∃ res : Array Value, (loadVar t_api_Result ⟨ab, 0, none⟩).run Try.prog w' = .ok (.agg res) w' ∧ K res w' := fun g hR => ret_rule (g.heap hb1 (fun q => q)) rfl fun v' hk => hR v' (grow_new (hg1.trans g) (by omega) hk)
  by_cases hl0 : l.length = 0
  · exact br_t (by rw [beq_iff_eq]; omega) (good_spec fun v hv => ret hv (k0 hl0))
  refine br_f (by rw [beq_eq_false_iff_ne]; omega) ?_
  have hp1 := hp.grow hg1
  refine get_any (at_ := 0) (n := 2) hp1 (by omega) (by decide) (by decide) (by decide) ?_
  refine get_any (at_ := 2) (n := 2) hp1 (by omega) (by decide) (by decide) (by decide) ⟨fun _ => by decide, ?_⟩
  have n02 := num_take (l.drop 0) 2
  have n22 := num_take (l.drop 2) 2
  have p256 : (256 : Nat) ^ 2 = 65536 := rfl
  rw [p256] at n02 n22
  by_cases hform : 8 ≤ l.length ∧ num ((l.drop 0).take 2) = l.length - 2 ∧ num ((l.drop 2).take 2) = l.length - 8 ∧ (l.length - 8) % 16 = 0
  case neg =>
    refine br_t ?_ (length_spec fun v hv => ret hv (kE _ rfl (by omega)))
    by_cases h8 : l.length < 8
    · simp only [Bool.or_eq_true, decide_eq_true_eq]
      left; left; left; right; omega
    · rw [if_pos (by omega), if_pos (by omega), if_pos (by omega), w64 (by omega) (by omega), w64 (by omega) (by omega), w64 (by omega) (by omega), w64 (by omega) (by omega)]
      have em : (((num ((l.drop 2).take 2) : Nat) : Int).tmod 16) = ((num ((l.drop 2).take 2) % 16 : Nat) : Int) := rfl
      rw [em]
      simp only [Bool.or_eq_true, bne_iff_ne, ne_eq]
      by_cases q1 : num ((l.drop 0).take 2) = l.length - 2
      · by_cases q2 : num ((l.drop 2).take 2) = l.length - 8
        · right; omega
        · left; right; omega
      · left; left; right; omega
  obtain ⟨h8, hf1, hf2, hf3⟩ := hform
  rw [if_pos (by omega), if_pos (by omega), if_pos (by omega)]
  refine br_f ?_ ?_
  · rw [w64 (by omega) (by omega), w64 (by omega) (by omega), w64 (by omega) (by omega), w64 (by omega) (by omega)]
    have em : (((num ((l.drop 2).take 2) : Nat) : Int).tmod 16) = ((num ((l.drop 2).take 2) % 16 : Nat) : Int) := rfl
    rw [em]
    simp only [Bool.or_eq_false_iff, bne_eq_false_iff_eq, decide_eq_false_iff_not]
    exact ⟨⟨⟨⟨trivial, by omega⟩, by omega⟩, by omega⟩, by omega⟩
  generalize hN : (l.length - 8) / 16 = N at *
  have hlN : l.length = 8 + 16 * N := by omega
  refine ⟨fun total i v => ∃ j : Nat, i = ((8 + 16 * j : Nat) : Int) ∧ j ≤ N ∧ Grow w1 v ∧ total = ((sumK l j : Nat) : Int) ∧ sumK l j ≤ 256 ∧ ∀ k, k < j → rngL l k + rngK l k ≤ n, fun _ i _ => 8 + 16 * N - i.toNat, ⟨0, rfl, Nat.zero_le _, Keep.refl _ _, rfl, Nat.zero_le _, fun _ q => absurd q (Nat.not_lt_zero _)⟩, ?_⟩
  rintro total i v ⟨j, rfl, hj, hgv, rfl, hs, hall⟩
  by_cases hjN : j = N
  case neg =>
    refine br_t (by rw [decide_eq_true_eq]; omega) ?_
    have hjl : 8 + 16 * j + 16 ≤ l.length := by omega
    have hpv := hp1.grow hgv
    refine get_spec (at_ := 8 + 16 * j) (n := 8) hpv (by omega) (by decide) (by decide) (by omega) ?_
    have e8 : IntKind.wrap .i64 (((8 + 16 * j : Nat) : Int) + 8) = ((8 + 16 * j + 8 : Nat) : Int) := by rw [w64 (by omega) (by omega)]; omega
    rw [e8]
    refine get_spec (at_ := 8 + 16 * j + 8) (n := 4) hpv (by omega) (by decide) (by decide) (by omega) ?_
    have hrl := rngL_lt l j
    have hrk := rngK_lt l j
    show Csbc_Dev_blocks _ v fun n8 w010 => Cbe_Within ((rngL l j : Nat) : Int) ((rngK l j : Nat) : Int) n8 w010 _
    refine blocks_spec (h.grow (hg1.trans hgv)) (within_spec hrl (by omega) (by omega) ?_)
    by_cases hin : rngL l j + rngK l j ≤ n
    case neg =>
      exact br_t (by rw [decide_eq_false hin]; rfl) (at_spec (key := 5) (code := 0x2100) (info := rngL l j) fun v2 hv2 => ret (hgv.trans hv2) (kE _ rfl (.inr (.inr (.inr (.inr (.inl ⟨j, by omega, by omega⟩)))))))
    refine br_f (by rw [decide_eq_true hin]; rfl) ?_
    have et : IntKind.wrap .u64 (((sumK l j : Nat) : Int) + ((rngK l j : Nat) : Int)) = ((sumK l (j + 1) : Nat) : Int) := by rw [wu64 (by omega) (by omega)]; simp only [sumK]; omega
    show Br (decide (IntKind.wrap .u64 (((sumK l j : Nat) : Int) + ((rngK l j : Nat) : Int)) > 256)) _ _
    by_cases h256 : 256 < sumK l (j + 1)
    · have hmono := sumK_mono l (i := j + 1) (j := N) (by omega)
      refine br_t (by rw [et, decide_eq_true_eq]; omega) (fails_spec (s := ⟨5, 0x2600, 0, false, ((8 + 16 * j + 8 : Nat) : Int), -1, true, false⟩) fun v2 hv2 => ret (hgv.trans hv2) (kE _ rfl (.inr (.inr (.inr (.inr (.inr (by omega))))))))
    · have e16 : IntKind.wrap .i64 (((8 + 16 * j : Nat) : Int) + 16) = ((8 + 16 * (j + 1) : Nat) : Int) := by rw [w64 (by omega) (by omega)]; omega
      refine br_f (by rw [et, decide_eq_false_iff_not]; omega) ?_
      show (∃ j_1 : Nat, IntKind.wrap .i64 (((8 + 16 * j : Nat) : Int) + 16) = ((8 + 16 * j_1 : Nat) : Int) ∧ j_1 ≤ N ∧ Grow w1 v ∧ IntKind.wrap .u64 (((sumK l j : Nat) : Int) + ((rngK l j : Nat) : Int)) = ((sumK l j_1 : Nat) : Int) ∧ sumK l j_1 ≤ 256 ∧ ∀ k, k < j_1 → rngL l k + rngK l k ≤ n) ∧ 8 + 16 * N - (IntKind.wrap .i64 (((8 + 16 * j : Nat) : Int) + 16)).toNat < 8 + 16 * N - (((8 + 16 * j : Nat) : Int)).toNat
      rw [e16, et]
      exact ⟨⟨j + 1, rfl, by omega, hgv, rfl, by omega, fun k hk => by
        by_cases e : k = j
        · rw [e]; exact hin
        · exact hall k (by omega)⟩, by omega⟩
  subst hjN
  refine br_f (by rw [decide_eq_false_iff_not]; omega) ?_
  have hwv := hg1.trans hgv
  have hbv : Blk v ab z10 t_api_Result := hgv.heap hb1 (fun q => q)
  have lab := lt_of_heap hbv
  refine ⟨fun i x => ∃ (k : Nat) (Dk : Nat → Prop) (stk : Wst), i = ((8 + 16 * k : Nat) : Int) ∧ k ≤ j ∧ Keep D v x ∧ Dv x dv ps pw file kind n cache Dk stk (unAll bs l k) (m + sumK l k + k) ∧ (∀ q, Dk q → D q ∨ v.heap.size ≤ q), fun i _ => 8 + 16 * j - i.toNat,
    ⟨0, D, st, rfl, Nat.zero_le _, Keep.refl _ _, h.grow hwv, fun _ q => .inl q⟩, ?_⟩
  rintro i x ⟨k, Dk, stk, rfl, hk, hkx, hdx, hDk⟩
  have hkD : Keep D w x := (hwv.mono fun _ _ q => q.elim).trans hkx fun _ _ q => q
  have sv := hwv.size
  have sx := hkx.size
  by_cases hkj : k = j
  case neg =>
    refine br_t (by rw [decide_eq_true_eq]; omega) ?_
    have hpx := hpk x hkD
    refine get_spec (at_ := 8 + 16 * k) (n := 8) hpx (by omega) (by decide) (by decide) (by omega) ?_
    have e8 : IntKind.wrap .i64 (((8 + 16 * k : Nat) : Int) + 8) = ((8 + 16 * k + 8 : Nat) : Int) := by rw [w64 (by omega) (by omega)]; omega
    rw [e8]
    refine get_spec (at_ := 8 + 16 * k + 8) (n := 4) hpx (by omega) (by decide) (by decide) (by omega) ⟨rfl, some ⟨ps, 0, none⟩, dev0 hdx.dev, ?_⟩
    show Cstore_Store_Unmap _ (IntKind.wrap .i64 ((rngL l k : Nat) : Int)) (IntKind.wrap .i64 ((rngK l k : Nat) : Int)) x _
    have hin := hall k (by omega)
    rw [w64 (by omega) (by omega), w64 (by omega) (by omega)]
    have hsk := sumK_mono l (i := k) (j := j) hk
    have hsk1 := sumK_mono l (i := k + 1) (j := j) (by omega)
    have hj16 : j ≤ 4096 := by omega
    refine hdx.unmap (by omega) hin fun y Dy sty hky hdy hDy => br_f rfl ?_
    have e16 : IntKind.wrap .i64 (((8 + 16 * k : Nat) : Int) + 16) = ((8 + 16 * (k + 1) : Nat) : Int) := by rw [w64 (by omega) (by omega)]; omega
    show (∃ (k_1 : Nat) (Dk : Nat → Prop) (stk : Wst), IntKind.wrap .i64 (((8 + 16 * k : Nat) : Int) + 16) = ((8 + 16 * k_1 : Nat) : Int) ∧ k_1 ≤ j ∧ Keep D v y ∧ Dv y dv ps pw file kind n cache Dk stk (unAll bs l k_1) (m + sumK l k_1 + k_1) ∧ (∀ q, Dk q → D q ∨ v.heap.size ≤ q)) ∧ 8 + 16 * j - (IntKind.wrap .i64 (((8 + 16 * k : Nat) : Int) + 16)).toNat < 8 + 16 * j - (((8 + 16 * k : Nat) : Int)).toNat
    rw [e16]
    refine ⟨⟨k + 1, Dy, sty, rfl, by omega, hkx.trans hky fun i hi q => ?_, hdy.mono (by simp only [sumK]; omega), fun q hq => ?_⟩, by omega⟩
    · rcases hDk i q with r | r
      · exact r
      · omega
    · rcases hDy q hq with r | r
      · exact hDk q r
      · exact .inr (by omega)
  subst hkj
  refine br_f (by rw [decide_eq_false_iff_not]; omega) (good_spec fun y hy => ?_)
  have hby : Blk y ab z10 t_api_Result := hy.heap (hkx.heap hbv nab) (fun q => q)
  have nab2 : ¬ Dk ab := fun q => by
    rcases hDk _ q with r | r
    · exact nab r
    · omega
  refine ret_rule (st := 0) (s := sn0) (d := nilS) hby rfl fun z hz => ?_
  refine kG z Dk stk h8 (keepD_new (hkD.grow hy) (by omega) hz) (((hdx.grow hy).put hby tne_result (by decide) (by decide) nab2 hz).mono (by omega)) fun q hq => ?_
  rcases hDk q hq with r | r
  · exact .inl r
  · exact .inr (by omega)
end
end Go.Proofs.Ytaneeadpjelomaa
