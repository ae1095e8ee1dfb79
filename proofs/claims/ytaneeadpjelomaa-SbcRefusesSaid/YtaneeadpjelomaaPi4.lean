import Derived.Test.YtaneeadpjelomaaSn1
import Derived.Test.YtaneeadpjelomaaSt5
import Derived.Test.YtaneeadpjelomaaCfR
/- Layer 13: blocks packed and unpacked. -/
namespace Go.Proofs.Ytaneeadpjelomaa
open Go CF

def zeroBk : Bk := ⟨[0, 0, 0, 0, 0, 0, 0, 0, 0, 0, 0, 0, 0, 0, 0, 0], 0, 0, 0, rfl, by decide, by decide, by decide⟩
theorem own_n' {w : World} {base : Nat} {e : TypeId} {s : Sl} {l : L8} (h : Own w base e 1 s (bv l)) : s.n = l.length := by have := h.len; rw [bv_length] at this; omega
theorem rd_n' {w : World} {s : Sl} {l : L8} (h : Rd w 1 s (bv l)) : l.length = s.n := by have := h.len; rw [bv_length] at this; omega
theorem own_grow' {w u u' : World} {base : Nat} {e : TypeId} {z : Nat} {s : Sl} {vs : List Value} (hg : Grow w u) (ho : Own u base e z s vs) (hb : w.heap.size ≤ base) (hk : Keep (fun k => some k = s.blk) u u') : Grow w u' :=
  hg.keep hk fun i hi q => by have := (ho.ge i q.symm).1; omega
theorem copy16_rule {w : World} {pb : Nat} {p : Sl} {l : L8} (hb : Blk w pb (bc zeroBk).toArray t_api_Block) (hp : Rd w 1 p (bv l)) (h16 : 16 ≤ l.length) {K : Int → World → Prop}
    (h : ∀ w', Blk w' pb (bv (l.take 16) ++ tc 0 0 0).toArray t_api_Block → Keep (fun k => k = pb) w w' → w'.heap.size = w.heap.size → K 16 w') :
    RunK Try.prog (.i .i64) (Builtin.copy_ #[t_sl_uint8, t_sl_uint8] t_int #[.slice (some ⟨pb, 0, none⟩) 16 16, .slice p.A p.n p.c]) w K := by
  have hln := rd_n' hp
  have hdl : (l.take 16).length = 16 := by rw [List.length_take]; omega
  have hne : bv l ≠ [] := fun e => by have := congrArg List.length e; rw [bv_length, List.length_nil] at this; omega
  obtain ⟨a2, ha2, hc2⟩ := hp.at_ hne
  have hsrc : ∀ j v, (bv (l.take 16))[j]? = some v → w.cell? (a2.add j) = some v := fun j v hj => hc2 j v (by
    rw [← bv_take, List.getElem?_take] at hj
    split at hj
    · exact hj
    · cases hj)
  have hcp := run_copy_row (P := Try.prog) w t_sl_uint8 t_sl_uint8 t_int t_uint8 pb 0 16 16 a2 p.n p.c _ t_api_Block (bv (l.take 16)) u_sl_uint8 (by kernel_rfl) hb (by rw [bv_length, hdl]; exact (Nat.min_eq_right (by omega)).symm) hsrc (by rw [bv_length, hdl]; decide) (bv_one' _)
  have hset := setRow_heap w pb _ ((bc zeroBk).toArray.toList.take 0 ++ bv (l.take 16) ++ (bc zeroBk).toArray.toList.drop (0 + 16)).toArray t_api_Block (0, 0) hb
  have hoth := fun k (hn : ¬ k = pb) => setRow_other w pb k ((bc zeroBk).toArray.toList.take 0 ++ bv (l.take 16) ++ (bc zeroBk).toArray.toList.drop (0 + 16)).toArray hn
  have hos : ∀ x, (w.setRow pb x).os = w.os ∧ (w.setRow pb x).tape = w.tape ∧ (w.setRow pb x).output = w.output ∧ (w.setRow pb x).heap.size = w.heap.size := fun x => ⟨rfl, rfl, rfl, by simp⟩
  have hos := hos ((bc zeroBk).toArray.toList.take 0 ++ bv (l.take 16) ++ (bc zeroBk).toArray.toList.drop (0 + 16)).toArray
  rw [ha2]
  refine ⟨16, _, hcp.trans (by rw [bv_length, hdl]; rfl), ?_⟩
  generalize w.setRow pb ((bc zeroBk).toArray.toList.take 0 ++ bv (l.take 16) ++ (bc zeroBk).toArray.toList.drop (0 + 16)).toArray = w5 at *
  refine h w5 ?_ ⟨hos.1, hos.2.1, hos.2.2.1, by omega, fun k _ hn => hoth k hn⟩ hos.2.2.2
  exact hset
theorem wire_cells (b : Bk) : bv (wireB false b) = bv b.d := by simp [wireB]
theorem packB_succ (wt : Bool) {bs : List Bk} {j : Nat} (h : j < bs.length) : packB wt (bs.take (j + 1)) = packB wt (bs.take j) ++ wireB wt bs[j] := by
  unfold packB
  rw [List.take_succ_eq_append_getElem h, List.flatMap_append]
  simp
theorem pack_spec {ls : Sl} {wt : Bool} {bs : List Bk} {w : World} {R : Sl → World → Prop} (hl : Rd w 19 ls (bs.flatMap bc)) (hn : bs.length ≤ 4096)
    (h : ∀ s w', Own w' w.heap.size t_uint8 1 s (bv (packB wt bs)) → Grow w w' → R s w') : Cpi_Pack ls wt w R := by
  refine Fpi_Pack.calls _ _ _ _ ?_
  have hbn := rd_bk hl
  refine ⟨fun p x u => ∃ j : Nat, x = j ∧ j ≤ bs.length ∧ Grow w u ∧ Own u w.heap.size t_uint8 1 p (bv (packB wt (bs.take j))), fun _ x _ => bs.length - x.toNat, ⟨0, rfl, Nat.zero_le _, Keep.refl _ _, own_nil _ _ _ _⟩, ?_⟩
  rintro p x u ⟨j, rfl, hj, hgu, hown⟩
  refine br_nat (fun hlt => ?_) (fun hge => ?_)
  · have hjb : j < bs.length := by omega
    have hpn := own_n' hown
    rw [packB_len, List.length_take, Nat.min_eq_left hj] at hpn
    have hsz : szB wt ≤ 24 := by unfold szB; split <;> decide
    have hjs : j * szB wt ≤ 4096 * 24 := Nat.mul_le_mul (by omega) hsz
    refine letX1 (fun q v => Grow w v ∧ Own v w.heap.size t_uint8 1 q (bv (packB wt (bs.take (j + 1))))) (fun q v ⟨h1, h2⟩ => by
      rw [w64 (by omega) (by omega)]
      exact ⟨⟨j + 1, by omega, by omega, h1, h2⟩, by dsimp only; omega⟩) (fun J => ?_)
    obtain ⟨a0, ha0, hc0⟩ := rd_bk_at (hl.grow hgu) hjb
    refine ⟨⟨by omega, by omega, by rw [ha0]; rfl⟩, (bc bs[j]).toArray, by rw [ha0, Int.toNat_natCast]; exact bLoad hc0, ?_⟩
    rw [packB_succ wt hjb] at J
    generalize bs[j] = b at *
    refine new_rule fun pb w1 hpb hb1 hg1 hsz1 => ?_
    refine storeVar_rule (cells := (bc b).toArray) hb1 i_api_Block (by simp [bc_len]) (by simp [bc_len]) (bc_all _) fun w2 hb2 hk2 hsz2 => ⟨by decide, ?_⟩
    have hg2 : Grow u w2 := hg1.keep hk2 fun i hi q => by omega
    have hgw2 := hgu.trans hg2
    refine append_rule (x := ⟨some ⟨pb, 0, none⟩, 16, 16⟩) u_sl_uint8 i_uint8 rfl (by decide) (by decide) (hown.grow hg2) (dRd hb2) (bv_one' _) (by show (p.n + 16) * 1 ≤ _; omega) hgw2.size fun q w3 hn3 hown3 hk3 hat3 => ?_
    rw [← bv_append] at hown3
    have hgw3 := own_grow' hgw2 (hown.grow hg2) (Nat.le_refl _) hk3
    have hpq : pb ≠ q.n ∨ True := .inr trivial
    have hb3 : Blk w3 pb (bc b).toArray t_api_Block := hk3.heap hb2 fun e => by have := (hown.ge pb e.symm).2; omega
    cases wt with
    | false =>
      refine br_f rfl (J q w3 ⟨hgw3, ?_⟩)
      rw [bv_append, wire_cells, ← bv_append]
      exact hown3
    | true =>
      refine br_t rfl ⟨_, tLoad (cells_tail (blk_cells hb3)), ?_⟩
      refine new_rule fun tb w4 htb hb4 hg4 hsz4 => ?_
      refine storeVar_rule (cells := (tc b.g b.a b.r).toArray) hb4 i_api_Tuple rfl rfl (by simp [tc, Value.oneCell']) fun w5 hb5 hk5 hsz5 => ?_
      have hg35 : Grow w3 w5 := hg4.keep hk5 fun i hi q => by omega
      have cg : w5.cell? ((⟨tb, 0, none⟩ : Addr).add 0) = some (.int .u16 (b.g : Int)) := by rw [add0, hb5.cell]; rfl
      have ca : w5.cell? ((⟨tb, 0, none⟩ : Addr).add 1) = some (.int .u16 (b.a : Int)) := by rw [add0, hb5.cell]; rfl
      have cr : w5.cell? ((⟨tb, 0, none⟩ : Addr).add 2) = some (.int .u32 (b.r : Int)) := by rw [add0, hb5.cell]; rfl
      refine ⟨_, cg, _, cg, _, ca, _, ca, _, cr, _, cr, _, cr, _, cr, ?_⟩
      rw [shr .u16 b.g 8 (by decide), shr .u16 b.a 8 (by decide), shr .u32 b.r 24 (by decide), shr .u32 b.r 16 (by decide), shr .u32 b.r 8 (by decide), wrap_u8, wrap_u8, wrap_u8, wrap_u8, wrap_u8, wrap_u8, wrap_u8, wrap_u8]
      refine lit_rule (cells := (bv (tupB b)).toArray) (e := t_uint8) (z := 1) (base := w.heap.size) (by kernel_rfl) rfl (by decide) (hgw3.trans hg35).size fun w6 hlit6 hg6 _ => ?_
      have hn3 : q.n = p.n + 16 := hn3
      refine append_rule u_sl_uint8 i_uint8 rfl (by decide) (by decide) ((hown3.grow hg35).grow hg6) (hlit6.rd (by show 8 ≤ _; decide)) (bv_one' _) (by rw [hn3]; show (p.n + 16 + 8) * 1 ≤ _; omega) ((hgw3.trans hg35).trans hg6).size fun q2 w7 hn7 hown7 hk7 _ => ?_
      refine J q2 w7 ⟨own_grow' ((hgw3.trans hg35).trans hg6) ((hown3.grow hg35).grow hg6) (Nat.le_refl _) hk7, ?_⟩
      have e : bv (packB true (bs.take j) ++ wireB true b) = bv (packB true (bs.take j) ++ b.d) ++ bv (tupB b) := by
        rw [← bv_append]; simp [wireB]
      rw [e]
      exact hown7
  · have : j = bs.length := by omega
    subst this
    rw [List.take_length] at hown
    exact h p u hown hgu
/-! ### unpacked -/
theorem or16 {a b : Nat} (ha : a < 256) (hb : b < 256) : bOr .u16 (bShl .u16 (IntKind.wrap .u16 (a : Int)) 8) (IntKind.wrap .u16 (b : Int)) = ((a * 256 + b : Nat) : Int) := by
  rw [wu16 (n := (a : Int)) (by omega) (by omega), wu16 (n := (b : Int)) (by omega) (by omega), shl16_8 ha]
  unfold bOr
  show IntKind.wrap .u16 (((BitVec.ofInt 16 ((a * 256 : Nat) : Int) ||| BitVec.ofInt 16 (b : Int)).toNat : Nat) : Int) = _
  rw [BitVec.ofInt_natCast, BitVec.ofInt_natCast, BitVec.toNat_or, BitVec.toNat_ofNat, BitVec.toNat_ofNat, Nat.mod_eq_of_lt (by omega), Nat.mod_eq_of_lt (by omega)]
  have e : a * 256 ||| b = a * 256 + b := by
    have := Nat.shiftLeft_add_eq_or_of_lt (i := 8) (b := b) (by omega) a
    rw [Nat.shiftLeft_eq] at this
    exact this.symm
  rw [e]
  exact wu16 (by omega) (by omega)
theorem or32 {x y m : Nat} (hm : ∃ k, m = 2 ^ k) (hx : ∃ a, x = a * m) (hy : y < m) (hs : x + y < 4294967296) : bOr .u32 (x : Int) (y : Int) = ((x + y : Nat) : Int) := by
  obtain ⟨k, rfl⟩ := hm
  obtain ⟨a, rfl⟩ := hx
  unfold bOr
  show IntKind.wrap .u32 (((BitVec.ofInt 32 ((a * 2 ^ k : Nat) : Int) ||| BitVec.ofInt 32 (y : Int)).toNat : Nat) : Int) = _
  rw [BitVec.ofInt_natCast, BitVec.ofInt_natCast, BitVec.toNat_or, BitVec.toNat_ofNat, BitVec.toNat_ofNat, Nat.mod_eq_of_lt (by omega), Nat.mod_eq_of_lt (by omega)]
  have e : a * 2 ^ k ||| y = a * 2 ^ k + y := by
    have := Nat.shiftLeft_add_eq_or_of_lt (i := k) (b := y) hy a
    rw [Nat.shiftLeft_eq] at this
    exact this.symm
  rw [e]
  exact wu32 (by omega) (by omega)
theorem shl32 {a k m : Nat} (hm : m = 2 ^ k) (hk : k ≤ 32) (h : a * m < 4294967296) : bShl .u32 (a : Int) k = ((a * m : Nat) : Int) := by
  subst hm
  unfold bShl
  have e : (min k (IntKind.bits .u32)) = k := Nat.min_eq_left hk
  have e2 : (a : Int) * 2 ^ k = ((a * 2 ^ k : Nat) : Int) := by norm_cast
  rw [e, e2]
  exact wu32 (by omega) (by omega)
theorem be32 {a b c d : Nat} (ha : a < 256) (hb : b < 256) (hc : c < 256) (hd : d < 256) :
    bOr .u32 (bOr .u32 (bOr .u32 (bShl .u32 (IntKind.wrap .u32 (a : Int)) 24) (bShl .u32 (IntKind.wrap .u32 (b : Int)) 16)) (bShl .u32 (IntKind.wrap .u32 (c : Int)) 8)) (IntKind.wrap .u32 (d : Int)) = ((a * 16777216 + b * 65536 + c * 256 + d : Nat) : Int) := by
  rw [wu32 (n := (a : Int)) (by omega) (by omega), wu32 (n := (b : Int)) (by omega) (by omega), wu32 (n := (c : Int)) (by omega) (by omega), wu32 (n := (d : Int)) (by omega) (by omega)]
  rw [shl32 (a := a) (k := 24) (m := 16777216) rfl (by decide) (by omega), shl32 (a := b) (k := 16) (m := 65536) rfl (by decide) (by omega), shl32 (a := c) (k := 8) (m := 256) rfl (by decide) (by omega)]
  rw [or32 (m := 16777216) ⟨24, rfl⟩ ⟨a, rfl⟩ (by omega) (by omega), or32 (m := 65536) ⟨16, rfl⟩ ⟨a * 256 + b, by omega⟩ (by omega) (by omega), or32 (m := 256) ⟨8, rfl⟩ ⟨a * 65536 + b * 256 + c, by omega⟩ (by omega) (by omega)]
theorem num_4 {a b c d : UInt8} : num [a, b, c, d] = a.toNat * 16777216 + b.toNat * 65536 + c.toNat * 256 + d.toNat := by simp [num]; omega
theorem unB_false (l : L8) (h : 16 ≤ l.length) : bc (unB false l) = bv (l.take 16) ++ tc 0 0 0 := by
  have e : pad16 l = l.take 16 := by unfold pad16; rw [List.take_append_of_le_length h]
  show bv (pad16 l) ++ tc 0 0 0 = _
  rw [e]
theorem unB_true (l : L8) (h : 16 ≤ l.length) : bc (unB true l) = bv (l.take 16) ++ tc (num ((l.drop 16).take 2)) (num ((l.drop 18).take 2)) (num ((l.drop 20).take 4)) := by
  have e : pad16 l = l.take 16 := by unfold pad16; rw [List.take_append_of_le_length h]
  show bv (pad16 l) ++ tc (num ((l.drop 16).take 2)) (num ((l.drop 18).take 2)) (num ((l.drop 20).take 4)) = _
  rw [e]
theorem unB_take {wt : Bool} {l : L8} : unB wt (l.take (szB wt)) = unB wt l := by
  cases wt with
  | false =>
    unfold unB szB
    have e : pad16 (l.take 16) = pad16 l := by
      unfold pad16
      rcases Nat.le_total 16 l.length with q | q
      · rw [List.take_append_of_le_length (by rw [List.length_take]; omega), List.take_take, List.take_append_of_le_length q]; rfl
      · rw [List.take_of_length_le q]
    simp only [Bool.false_eq_true, if_false, e]
  | true =>
    unfold unB szB
    have e : pad16 (l.take 24) = pad16 l := by
      unfold pad16
      rcases Nat.le_total 24 l.length with q | q
      · rw [List.take_append_of_le_length (by rw [List.length_take]; omega), List.take_take, List.take_append_of_le_length (by omega)]; rfl
      · rw [List.take_of_length_le q]
    have f : ∀ d n, d + n ≤ 24 → ((l.take 24).drop d).take n = (l.drop d).take n := fun d n h => by
      rw [List.drop_take, List.take_take, Nat.min_eq_left (by omega)]
    simp only [if_true, e, f 16 2 (by decide), f 18 2 (by decide), f 20 4 (by decide)]
theorem unpB_nil (wt : Bool) {l : L8} (h : l.length = 0) : unpB wt l = [] := by unfold unpB; rw [h]; simp
end Go.Proofs.Ytaneeadpjelomaa

/- Layer 13: unpacking. -/
namespace Go.Proofs.Ytaneeadpjelomaa
open Go CF

theorem take2 {X : L8} {d : Nat} (h : d + 2 ≤ X.length) : (X.drop d).take 2 = [X[d], X[d + 1]] := by
  rw [List.drop_eq_getElem_cons (show d < X.length by omega), List.take_succ_cons, List.drop_eq_getElem_cons (show d + 1 < X.length by omega), List.take_succ_cons, List.take_zero]
theorem take4 {X : L8} {d : Nat} (h : d + 4 ≤ X.length) : (X.drop d).take 4 = [X[d], X[d + 1], X[d + 2], X[d + 3]] := by
  rw [List.drop_eq_getElem_cons (show d < X.length by omega), List.take_succ_cons, List.drop_eq_getElem_cons (show d + 1 < X.length by omega), List.take_succ_cons, List.drop_eq_getElem_cons (show d + 2 < X.length by omega), List.take_succ_cons,
    List.drop_eq_getElem_cons (show d + 3 < X.length by omega), List.take_succ_cons, List.take_zero]
theorem unpack_spec {p : Sl} {l : L8} {wt : Bool} {w : World} {R : Sl → Bool → World → Prop} (hp : Rd w 1 p (bv l)) (hb : p.n ≤ 140737488351232)
    (h1 : l.length % szB wt ≠ 0 → R nilS false w) (h2 : l.length % szB wt = 0 → ∀ out u, Grow w u → Own u w.heap.size t_api_Block 19 out ((unpB wt l).flatMap bc) → R out true u) : Cpi_Unpack p wt w R := by
  refine Fpi_Unpack.calls _ _ _ _ ?_
  have hln := rd_n' hp
  have hs16 : 16 ≤ szB wt ∧ szB wt ≤ 24 := by unfold szB; split <;> decide
  refine size_spec ⟨by omega, ?_⟩
  have em : ((p.n : Int).tmod ((szB wt : Nat) : Int)) = ((l.length % szB wt : Nat) : Int) := by rw [hln]; rfl
  rw [em]
  refine br_ne (fun q => h1 (by omega)) (fun q => ?_)
  have hm : l.length % szB wt = 0 := by omega
  have hN : l.length = l.length / szB wt * szB wt := by have := Nat.div_add_mod l.length (szB wt); rw [hm, Nat.mul_comm] at this; omega
  have h2 := h2 hm
  generalize hNN : l.length / szB wt = N at *
  have hN16 : N * 16 ≤ l.length := by rw [hN]; exact Nat.mul_le_mul_left _ hs16.1
  have hul : (unpB wt l).length = N := by rw [unpB_len, hNN]
  refine ⟨fun p1 out u => ∃ j : Nat, j ≤ N ∧ Grow w u ∧ (∀ v, Grow w v → Rd v 1 p1 (bv (l.drop (j * szB wt)))) ∧ Own u w.heap.size t_api_Block 19 out (((unpB wt l).take j).flatMap bc), fun p1 _ _ => p1.n,
    ⟨0, Nat.zero_le _, Keep.refl _ _, fun v hv => by rw [Nat.zero_mul, List.drop_zero]; exact hp.grow hv, own_nil _ _ _ _⟩, ?_⟩
  rintro p1 out u ⟨j, hj, hgu, hp1, hown⟩
  have hpu := hp1 u hgu
  have hpn := rd_n' hpu
  rw [List.length_drop] at hpn
  have hjs : j * szB wt ≤ N * szB wt := Nat.mul_le_mul_right _ hj
  by_cases hjN : j = N
  · subst hjN
    refine br_f (by rw [decide_eq_false_iff_not]; omega) ?_
    rw [List.take_of_length_le (by omega)] at hown
    exact h2 out u hgu hown
  have hjs1 : j * szB wt + szB wt ≤ N * szB wt := by rw [← Nat.succ_mul]; exact Nat.mul_le_mul_right _ (by omega)
  have hcap := hpu.cap
  refine br_t (by rw [decide_eq_true_eq]; omega) ?_
  have hXl : (l.drop (j * szB wt)).length = p1.n := by rw [List.length_drop]; exact hpn
  have hun : (unpB wt l)[j]'(by omega) = unB wt (l.drop (j * szB wt)) := by rw [unpB_at, unB_take]
  have hou := rd_bk (hown.rd (by
    have := hown.len
    rw [flat_length bc_len, List.length_take] at this
    omega))
  rw [List.length_take, hul, Nat.min_eq_left hj] at hou
  refine letX1 (fun out1 v => Grow w v ∧ Own v w.heap.size t_api_Block 19 out1 (((unpB wt l).take (j + 1)).flatMap bc)) ?_ (fun J => ?_)
  · rintro out1 v ⟨h3, h5⟩
    refine ⟨⟨by omega, by omega, by omega, hcap⟩, ⟨j + 1, by omega, h3, fun x hx => ?_, h5⟩, ?_⟩
    · have := (hp1 x hx).cutB (l := szB wt) (k := p1.n) (by omega) (Nat.le_refl _)
      rw [List.take_of_length_le (by rw [List.length_drop]; omega), List.drop_drop] at this
      rw [Nat.succ_mul]
      exact this
    · show ((p1.n : Int)).toNat - ((szB wt : Nat) : Int).toNat < p1.n
      rw [Int.toNat_natCast, Int.toNat_natCast]; omega
  have hflat : ((unpB wt l).take (j + 1)).flatMap bc = ((unpB wt l).take j).flatMap bc ++ bc (unB wt (l.drop (j * szB wt))) := by
    rw [List.take_succ_eq_append_getElem (by omega), List.flatMap_append, hun]; simp
  rw [hflat] at J
  generalize hX : l.drop (j * szB wt) = X at *
  refine new_rule fun pb w1 hpb hb1 hg1 hsz1 => ⟨by decide, ?_⟩
  have hb1 : Blk w1 pb (bc zeroBk).toArray t_api_Block := hb1
  refine copy16_rule hb1 (hp1 w1 (hgu.trans hg1)) (by omega) fun w2 hb2 hk2 hsz2 => ?_
  have hg2 : Grow u w2 := hg1.keep hk2 fun i hi q => by omega
  refine letX0 (fun v => Grow u v ∧ Blk v pb (bc (unB wt X)).toArray t_api_Block) ?_ (fun J1 => ?_)
  · rintro v ⟨hgv, hbv⟩
    refine ⟨_, bLoad (blk_cells hbv), ?_⟩
    refine lit_rule (cells := (bc (unB wt X)).toArray) (e := t_api_Block) (z := 19) (base := 0) (lit_block _ _) (by simp [bc_len]) (by decide) (Nat.zero_le _) fun w3 hlit3 hg3 _ => ?_
    refine append_wide_rule u_sl_api_Block i_api_Block rfl (by decide) (by decide) ((hown.grow hgv).grow hg3) (hlit3.rd (by show 1 ≤ _; decide)) (fun x hx => bc_ones _ x (by simpa using hx)) (by show out.n + 1 ≤ _; omega) (by show (out.n + 1 + (out.n + 1) / 4 + 192) * 24 ≤ _; omega) ((hgu.trans hgv).trans hg3).size fun s' w4 hn4 hown4 hk4 => ?_
    exact J s' w4 ⟨own_grow' ((hgu.trans hgv).trans hg3) ((hown.grow hgv).grow hg3) (Nat.le_refl _) hk4, by simpa using hown4⟩
  · have hgw2 := hgu.trans hg2
    cases wt with
    | false =>
      refine br_f rfl (J1 w2 ⟨hg2, ?_⟩)
      rw [unB_false X (by omega)]
      exact hb2
    | true =>
      have h24 : 24 ≤ X.length := by have : szB true = 24 := rfl; omega
      refine br_t rfl ⟨⟨by decide, by omega, by omega, hcap⟩, ?_⟩
      rintro w3 rfl
      have hg3 : Grow w2 w2.drew := keep_drew w2
      have hcut : ∀ v, Grow w v → Rd v 1 ⟨cutA p1.A p1.c 16 1, p1.n - 16, p1.c - 16⟩ (bv (X.drop 16)) := fun v hv => by
        have := (hp1 v hv).cutB (l := 16) (k := p1.n) (by omega) (Nat.le_refl _)
        rwa [List.take_of_length_le (by rw [List.length_drop]; omega)] at this
      have rd : ∀ i (hi : 16 + i < X.length) v, Grow w v → v.cell? ((gA (cutA p1.A p1.c 16 1)).add (i * 1)) = some (.int .u8 (X[16 + i].toNat : Int)) := fun i hi v hv => by
        obtain ⟨a, ha, hc⟩ := (hcut v hv).byte (i := i) (by show i < p1.n - 16; omega)
        have ha : cutA p1.A p1.c 16 1 = some a := ha
        rw [ha, gA]
        simpa using hc
      have hA : (cutA p1.A p1.c 16 1).isSome = true := by
        obtain ⟨a, ha, _⟩ := (hcut w2 hgw2).byte (i := 0) (by show 0 < p1.n - 16; omega)
        have ha : cutA p1.A p1.c 16 1 = some a := ha
        rw [ha]; rfl
      have bd : ∀ i : Nat, i < 8 → (0 : Int) ≤ (i : Int) ∧ (i : Int) < (((((p1.n : Int)).toNat - 16) : Nat) : Int) ∧ (cutA p1.A p1.c 16 1).isSome = true := fun i hi => ⟨by omega, by rw [Int.toNat_natCast]; omega, hA⟩
      refine ⟨fun v => Grow w v, hgw2.trans hg3, bd 0 (by decide), _, rd 0 (by omega), bd 1 (by decide), _, rd 1 (by omega), bd 2 (by decide), _, rd 2 (by omega), bd 3 (by decide), _, rd 3 (by omega),
        bd 4 (by decide), _, rd 4 (by omega), bd 5 (by decide), _, rd 5 (by omega), bd 6 (by decide), _, rd 6 (by omega), bd 7 (by decide), _, rd 7 (by omega), ?_⟩
      rw [or16 (UInt8.toNat_lt _) (UInt8.toNat_lt _), or16 (UInt8.toNat_lt _) (UInt8.toNat_lt _), be32 (UInt8.toNat_lt _) (UInt8.toNat_lt _) (UInt8.toNat_lt _) (UInt8.toNat_lt _)]
      have hb3 : Blk w2.drew pb _ t_api_Block := hg3.heap hb2 (fun q => q)
      rw [add0]
      refine storeAt_rule (o := 0 + 16) (cells := (tc (X[16 + 0].toNat * 256 + X[16 + 1].toNat) (X[16 + 2].toNat * 256 + X[16 + 3].toNat) (X[16 + 4].toNat * 16777216 + X[16 + 5].toNat * 65536 + X[16 + 6].toNat * 256 + X[16 + 7].toNat)).toArray) hb3 i_api_Tuple rfl
        (by have : (bv (X.take 16)).length = 16 := by rw [bv_length, List.length_take]; omega
            simp [this, tc]) (by intro v hv; simp [tc] at hv; rcases hv with rfl | rfl | rfl <;> rfl) fun w4 hb4 hk4 hsz4 => ?_
      refine J1 w4 ⟨(hg2.trans hg3).keep hk4 fun i hi q => by omega, ?_⟩
      have e : (unB true X) = unB true X := rfl
      rw [unB_true X (by omega), take2 (by omega), take2 (by omega), take4 (by omega), num_two, num_two, num_4]
      have hl16 : (bv (X.take 16)).length = 16 := by rw [bv_length, List.length_take]; omega
      have e2 : ((bv (X.take 16) ++ tc 0 0 0).take (0 + 16)) = bv (X.take 16) := by rw [List.take_append_of_le_length (by omega), List.take_of_length_le (by omega)]
      have e3 : ((bv (X.take 16) ++ tc 0 0 0).drop (0 + 16 + 3)) = [] := List.drop_of_length_le (by rw [List.length_append, hl16]; decide)
      have hb4 : Blk w4 pb ((bv (X.take 16) ++ tc 0 0 0).take (0 + 16) ++ tc (X[16 + 0].toNat * 256 + X[16 + 1].toNat) (X[16 + 2].toNat * 256 + X[16 + 3].toNat) (X[16 + 4].toNat * 16777216 + X[16 + 5].toNat * 65536 + X[16 + 6].toNat * 256 + X[16 + 7].toNat) ++ (bv (X.take 16) ++ tc 0 0 0).drop (0 + 16 + 3)).toArray t_api_Block := hb4
      rw [e2, e3, List.append_nil] at hb4
      exact hb4
end Go.Proofs.Ytaneeadpjelomaa
