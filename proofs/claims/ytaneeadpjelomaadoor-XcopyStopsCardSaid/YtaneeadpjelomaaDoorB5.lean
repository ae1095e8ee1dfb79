import Derived.Lib.ConvBytes
import Derived.Test.YtaneeadpjelomaaDoorB4
/- Layer 13: blocks packed and unpacked. -/
namespace Go.Proofs.YtaneeadpjelomaaDoor
open Go CF

def zeroBk : Bk := ⟨[0, 0, 0, 0, 0, 0, 0, 0, 0, 0, 0, 0, 0, 0, 0, 0], 0, 0, 0, rfl, by decide, by decide, by decide⟩
theorem own_n' {w : World} {base : Nat} {e : TypeId} {s : Sl} {l : L8} (h : Own w base e 1 s (bv l)) : s.n = l.length := by have := h.len; rw [bv_length] at this; omega
theorem rd_n' {w : World} {s : Sl} {l : L8} (h : Rd w 1 s (bv l)) : l.length = s.n := by have := h.len; rw [bv_length] at this; omega
theorem own_grow' {w u u' : World} {base : Nat} {e : TypeId} {z : Nat} {s : Sl} {vs : List Value} (hg : Grow w u) (ho : Own u base e z s vs) (hb : w.heap.size ≤ base) (hk : Keep (fun k => some k = s.blk) u u') : Grow w u' :=
  hg.keep hk fun i hi q => by have := (ho.ge i q.symm).1; omega
theorem copy16_rule {w : World} {pb : Nat} {p : Sl} {l : L8} (hb : Blk w pb (bc zeroBk).toArray t_api_Block) (hp : Rd w 1 p (bv l)) (h16 : 16 ≤ l.length) {K : Int → World → Prop}
    (h : ∀ w', Blk w' pb (bv (l.take 16) ++ tc 0 0 0).toArray t_api_Block → Keep (fun k => k = pb) w w' → w'.heap.size = w.heap.size → K 16 w') :
    RunK Tryd.prog (.i .i64) (Builtin.copy_ #[t_sl_uint8, t_sl_uint8] t_int #[.slice (some ⟨pb, 0, none⟩) 16 16, .slice p.A p.n p.c]) w K := by
  have hln := rd_n' hp
  have hdl : (l.take 16).length = 16 := by rw [List.length_take]; omega
  have hne : bv l ≠ [] := fun e => by have := congrArg List.length e; rw [bv_length, List.length_nil] at this; omega
  obtain ⟨a2, ha2, hc2⟩ := hp.at_ hne
  have hsrc : ∀ j v, (bv (l.take 16))[j]? = some v → w.cell? (a2.add j) = some v := fun j v hj => hc2 j v (by
    rw [← bv_take, List.getElem?_take] at hj
    split at hj
    · exact hj
    · cases hj)
  have hcp := run_copy_row (P := Tryd.prog) w t_sl_uint8 t_sl_uint8 t_int t_uint8 pb 0 16 16 a2 p.n p.c _ t_api_Block (bv (l.take 16)) u_sl_uint8 (by kernel_rfl) hb (by rw [bv_length, hdl]; exact (Nat.min_eq_right (by omega)).symm) hsrc (by rw [bv_length, hdl]; decide) (bv_one' _)
  have hset := setRow_heap w pb _ ((bc zeroBk).toArray.toList.take 0 ++ bv (l.take 16) ++ (bc zeroBk).toArray.toList.drop (0 + 16)).toArray t_api_Block (0, 0) hb
  have hoth := fun k (hn : ¬ k = pb) => setRow_other w pb k ((bc zeroBk).toArray.toList.take 0 ++ bv (l.take 16) ++ (bc zeroBk).toArray.toList.drop (0 + 16)).toArray hn
  have hos : ∀ x, (w.setRow pb x).os = w.os ∧ (w.setRow pb x).tape = w.tape ∧ (w.setRow pb x).output = w.output ∧ (w.setRow pb x).heap.size = w.heap.size := fun x => ⟨rfl, rfl, rfl, by simp⟩
  have hos := hos ((bc zeroBk).toArray.toList.take 0 ++ bv (l.take 16) ++ (bc zeroBk).toArray.toList.drop (0 + 16)).toArray
  rw [ha2]
  refine ⟨16, _, hcp.trans (by rw [bv_length, hdl]; rfl), ?_⟩
  generalize w.setRow pb ((bc zeroBk).toArray.toList.take 0 ++ bv (l.take 16) ++ (bc zeroBk).toArray.toList.drop (0 + 16)).toArray = w5 at *
  refine h w5 ?_ ⟨hos.1, hos.2.1, hos.2.2.1, by omega, fun k _ hn => hoth k hn⟩ hos.2.2.2
  exact hset
theorem wire_cells (b : Bk) : bv (wireB false b) = bv b.d := by simp [wireB]
theorem packB_succ (wt : Bool) {bs : List Bk} {j : Nat} (h : j < bs.length) : packB wt (bs.take (j + 1)) = packB wt (bs.take j) ++ wireB wt bs[j] := by
  unfold packB
  rw [List.take_succ_eq_append_getElem h, List.flatMap_append]
  simp
theorem pack_spec {ls : Sl} {wt : Bool} {bs : List Bk} {w : World} {R : Sl → World → Prop} (hl : Rd w 19 ls (bs.flatMap bc)) (hn : bs.length ≤ 4096)
    (h : ∀ s w', Own w' w.heap.size t_uint8 1 s (bv (packB wt bs)) → Grow w w' → R s w') : Cpi_Pack ls wt w R := by
  refine Fpi_Pack.calls _ _ _ _ ?_
  have hbn := rd_bk hl
  refine ⟨fun p x u => ∃ j : Nat, x = j ∧ j ≤ bs.length ∧ Grow w u ∧ Own u w.heap.size t_uint8 1 p (bv (packB wt (bs.take j))), fun _ x _ => bs.length - x.toNat, ⟨0, rfl, Nat.zero_le _, Keep.refl _ _, own_nil _ _ _ _⟩, ?_⟩
  rintro p x u ⟨j, rfl, hj, hgu, hown⟩
  refine br_nat (fun hlt => ?_) (fun hge => ?_)
  · have hjb : j < bs.length := by omega
    have hpn := own_n' hown
    rw [packB_len, List.length_take, Nat.min_eq_left hj] at hpn
    have hsz : szB wt ≤ 24 := by unfold szB; split <;> decide
    have hjs : j * szB wt ≤ 4096 * 24 := Nat.mul_le_mul (by omega) hsz
    refine letX1 (fun q v => Grow w v ∧ Own v w.heap.size t_uint8 1 q (bv (packB wt (bs.take (j + 1))))) (fun q v ⟨h1, h2⟩ => by
      rw [w64 (by omega) (by omega)]
      exact ⟨⟨j + 1, by omega, by omega, h1, h2⟩, by dsimp only; omega⟩) (fun J => ?_)
    obtain ⟨a0, ha0, hc0⟩ := rd_bk_at (hl.grow hgu) hjb
    refine ⟨⟨by omega, by omega, by rw [ha0]; rfl⟩, (bc bs[j]).toArray, by rw [ha0, Int.toNat_natCast]; exact bLoad hc0, ?_⟩
    rw [packB_succ wt hjb] at J
    generalize bs[j] = b at *
    refine new_rule fun pb w1 hpb hb1 hg1 hsz1 => ?_
    refine storeVar_rule (cells := (bc b).toArray) hb1 i_api_Block (by simp [bc_len]) (by simp [bc_len]) (bc_all _) fun w2 hb2 hk2 hsz2 => ⟨by decide, ?_⟩
    have hg2 : Grow u w2 := hg1.keep hk2 fun i hi q => by omega
    have hgw2 := hgu.trans hg2
    refine append_rule (x := ⟨some ⟨pb, 0, none⟩, 16, 16⟩) u_sl_uint8 i_uint8 rfl (by decide) (by decide) (hown.grow hg2) (dRd hb2) (bv_one' _) (by show (p.n + 16) * 1 ≤ _; omega) hgw2.size fun q w3 hn3 hown3 hk3 hat3 => ?_
    rw [← bv_append] at hown3
    have hgw3 := own_grow' hgw2 (hown.grow hg2) (Nat.le_refl _) hk3
    have hpq : pb ≠ q.n ∨ True := .inr trivial
    have hb3 : Blk w3 pb (bc b).toArray t_api_Block := hk3.heap hb2 fun e => by have := (hown.ge pb e.symm).2; omega
    cases wt with
    | false =>
      refine br_f rfl (J q w3 ⟨hgw3, ?_⟩)
      rw [bv_append, wire_cells, ← bv_append]
      exact hown3
    | true =>
      refine br_t rfl ⟨_, tLoad (cells_tail (blk_cells hb3)), ?_⟩
      refine new_rule fun tb w4 htb hb4 hg4 hsz4 => ?_
      refine storeVar_rule (cells := (tc b.g b.a b.r).toArray) hb4 i_api_Tuple rfl rfl (by simp [tc, Value.oneCell']) fun w5 hb5 hk5 hsz5 => ?_
      have hg35 : Grow w3 w5 := hg4.keep hk5 fun i hi q => by omega
      have cg : w5.cell? ((⟨tb, 0, none⟩ : Addr).add 0) = some (.int .u16 (b.g : Int)) := by rw [add0, hb5.cell]; rfl
      have ca : w5.cell? ((⟨tb, 0, none⟩ : Addr).add 1) = some (.int .u16 (b.a : Int)) := by rw [add0, hb5.cell]; rfl
      have cr : w5.cell? ((⟨tb, 0, none⟩ : Addr).add 2) = some (.int .u32 (b.r : Int)) := by rw [add0, hb5.cell]; rfl
      refine ⟨_, cg, _, cg, _, ca, _, ca, _, cr, _, cr, _, cr, _, cr, ?_⟩
      rw [shr .u16 b.g 8 (by decide), shr .u16 b.a 8 (by decide), shr .u32 b.r 24 (by decide), shr .u32 b.r 16 (by decide), shr .u32 b.r 8 (by decide), wrap_u8, wrap_u8, wrap_u8, wrap_u8, wrap_u8, wrap_u8, wrap_u8, wrap_u8]
      refine lit_rule (cells := (bv (tupB b)).toArray) (e := t_uint8) (z := 1) (base := w.heap.size) (by kernel_rfl) rfl (by decide) (hgw3.trans hg35).size fun w6 hlit6 hg6 _ => ?_
      have hn3 : q.n = p.n + 16 := hn3
      refine append_rule u_sl_uint8 i_uint8 rfl (by decide) (by decide) ((hown3.grow hg35).grow hg6) (hlit6.rd (by show 8 ≤ _; decide)) (bv_one' _) (by rw [hn3]; show (p.n + 16 + 8) * 1 ≤ _; omega) ((hgw3.trans hg35).trans hg6).size fun q2 w7 hn7 hown7 hk7 _ => ?_
      refine J q2 w7 ⟨own_grow' ((hgw3.trans hg35).trans hg6) ((hown3.grow hg35).grow hg6) (Nat.le_refl _) hk7, ?_⟩
      have e : bv (packB true (bs.take j) ++ wireB true b) = bv (packB true (bs.take j) ++ b.d) ++ bv (tupB b) := by
        rw [← bv_append]; simp [wireB]
      rw [e]
      exact hown7
  · have : j = bs.length := by omega
    subst this
    rw [List.take_length] at hown
    exact h p u hown hgu
/-! ### unpacked -/
theorem or16 {a b : Nat} (ha : a < 256) (hb : b < 256) : bOr .u16 (bShl .u16 (IntKind.wrap .u16 (a : Int)) 8) (IntKind.wrap .u16 (b : Int)) = ((a * 256 + b : Nat) : Int) := by
  rw [wu16 (n := (a : Int)) (by omega) (by omega), wu16 (n := (b : Int)) (by omega) (by omega), shl16_8 ha]
  unfold bOr
  show IntKind.wrap .u16 (((BitVec.ofInt 16 ((a * 256 : Nat) : Int) ||| BitVec.ofInt 16 (b : Int)).toNat : Nat) : Int) = _
  rw [BitVec.ofInt_natCast, BitVec.ofInt_natCast, BitVec.toNat_or, BitVec.toNat_ofNat, BitVec.toNat_ofNat, Nat.mod_eq_of_lt (by omega), Nat.mod_eq_of_lt (by omega)]
  have e : a * 256 ||| b = a * 256 + b := by
    have := Nat.shiftLeft_add_eq_or_of_lt (i := 8) (b := b) (by omega) a
    rw [Nat.shiftLeft_eq] at this
    exact this.symm
  rw [e]
  exact wu16 (by omega) (by omega)
theorem or32 {x y m : Nat} (hm : ∃ k, m = 2 ^ k) (hx : ∃ a, x = a * m) (hy : y < m) (hs : x + y < 4294967296) : bOr .u32 (x : Int) (y : Int) = ((x + y : Nat) : Int) := by
  obtain ⟨k, rfl⟩ := hm
  obtain ⟨a, rfl⟩ := hx
  unfold bOr
  show IntKind.wrap .u32 (((BitVec.ofInt 32 ((a * 2 ^ k : Nat) : Int) ||| BitVec.ofInt 32 (y : Int)).toNat : Nat) : Int) = _
  rw [BitVec.ofInt_natCast, BitVec.ofInt_natCast, BitVec.toNat_or, BitVec.toNat_ofNat, BitVec.toNat_ofNat, Nat.mod_eq_of_lt (by omega), Nat.mod_eq_of_lt (by omega)]
  have e : a * 2 ^ k ||| y = a * 2 ^ k + y := by
    have := Nat.shiftLeft_add_eq_or_of_lt (i := k) (b := y) hy a
    rw [Nat.shiftLeft_eq] at this
    exact this.symm
  rw [e]
  exact wu32 (by omega) (by omega)
theorem shl32 {a k m : Nat} (hm : m = 2 ^ k) (hk : k ≤ 32) (h : a * m < 4294967296) : bShl .u32 (a : Int) k = ((a * m : Nat) : Int) := by
  subst hm
  unfold bShl
  have e : (min k (IntKind.bits .u32)) = k := Nat.min_eq_left hk
  have e2 : (a : Int) * 2 ^ k = ((a * 2 ^ k : Nat) : Int) := by norm_cast
  rw [e, e2]
  exact wu32 (by omega) (by omega)
theorem be32 {a b c d : Nat} (ha : a < 256) (hb : b < 256) (hc : c < 256) (hd : d < 256) :
    bOr .u32 (bOr .u32 (bOr .u32 (bShl .u32 (IntKind.wrap .u32 (a : Int)) 24) (bShl .u32 (IntKind.wrap .u32 (b : Int)) 16)) (bShl .u32 (IntKind.wrap .u32 (c : Int)) 8)) (IntKind.wrap .u32 (d : Int)) = ((a * 16777216 + b * 65536 + c * 256 + d : Nat) : Int) := by
  rw [wu32 (n := (a : Int)) (by omega) (by omega), wu32 (n := (b : Int)) (by omega) (by omega), wu32 (n := (c : Int)) (by omega) (by omega), wu32 (n := (d : Int)) (by omega) (by omega)]
  rw [shl32 (a := a) (k := 24) (m := 16777216) rfl (by decide) (by omega), shl32 (a := b) (k := 16) (m := 65536) rfl (by decide) (by omega), shl32 (a := c) (k := 8) (m := 256) rfl (by decide) (by omega)]
  rw [or32 (m := 16777216) ⟨24, rfl⟩ ⟨a, rfl⟩ (by omega) (by omega), or32 (m := 65536) ⟨16, rfl⟩ ⟨a * 256 + b, by omega⟩ (by omega) (by omega), or32 (m := 256) ⟨8, rfl⟩ ⟨a * 65536 + b * 256 + c, by omega⟩ (by omega) (by omega)]
theorem num_4 {a b c d : UInt8} : num [a, b, c, d] = a.toNat * 16777216 + b.toNat * 65536 + c.toNat * 256 + d.toNat := by simp [num]; omega
theorem unB_false (l : L8) (h : 16 ≤ l.length) : bc (unB false l) = bv (l.take 16) ++ tc 0 0 0 := by
  have e : pad16 l = l.take 16 := by unfold pad16; rw [List.take_append_of_le_length h]
  show bv (pad16 l) ++ tc 0 0 0 = _
  rw [e]
theorem unB_true (l : L8) (h : 16 ≤ l.length) : bc (unB true l) = bv (l.take 16) ++ tc (num ((l.drop 16).take 2)) (num ((l.drop 18).take 2)) (num ((l.drop 20).take 4)) := by
  have e : pad16 l = l.take 16 := by unfold pad16; rw [List.take_append_of_le_length h]
  show bv (pad16 l) ++ tc (num ((l.drop 16).take 2)) (num ((l.drop 18).take 2)) (num ((l.drop 20).take 4)) = _
  rw [e]
theorem unB_take {wt : Bool} {l : L8} : unB wt (l.take (szB wt)) = unB wt l := by
  cases wt with
  | false =>
    unfold unB szB
    have e : pad16 (l.take 16) = pad16 l := by
      unfold pad16
      rcases Nat.le_total 16 l.length with q | q
      · rw [List.take_append_of_le_length (by rw [List.length_take]; omega), List.take_take, List.take_append_of_le_length q]; rfl
      · rw [List.take_of_length_le q]
    simp only [Bool.false_eq_true, if_false, e]
  | true =>
    unfold unB szB
    have e : pad16 (l.take 24) = pad16 l := by
      unfold pad16
      rcases Nat.le_total 24 l.length with q | q
      · rw [List.take_append_of_le_length (by rw [List.length_take]; omega), List.take_take, List.take_append_of_le_length (by omega)]; rfl
      · rw [List.take_of_length_le q]
    have f : ∀ d n, d + n ≤ 24 → ((l.take 24).drop d).take n = (l.drop d).take n := fun d n h => by
      rw [List.drop_take, List.take_take, Nat.min_eq_left (by omega)]
    simp only [if_true, e, f 16 2 (by decide), f 18 2 (by decide), f 20 4 (by decide)]
theorem unpB_nil (wt : Bool) {l : L8} (h : l.length = 0) : unpB wt l = [] := by unfold unpB; rw [h]; simp
end Go.Proofs.YtaneeadpjelomaaDoor

/- Layer 13: unpacking. -/
namespace Go.Proofs.YtaneeadpjelomaaDoor
open Go CF

theorem take2 {X : L8} {d : Nat} (h : d + 2 ≤ X.length) : (X.drop d).take 2 = [X[d], X[d + 1]] := by
  rw [List.drop_eq_getElem_cons (show d < X.length by omega), List.take_succ_cons, List.drop_eq_getElem_cons (show d + 1 < X.length by omega), List.take_succ_cons, List.take_zero]
theorem take4 {X : L8} {d : Nat} (h : d + 4 ≤ X.length) : (X.drop d).take 4 = [X[d], X[d + 1], X[d + 2], X[d + 3]] := by
  rw [List.drop_eq_getElem_cons (show d < X.length by omega), List.take_succ_cons, List.drop_eq_getElem_cons (show d + 1 < X.length by omega), List.take_succ_cons, List.drop_eq_getElem_cons (show d + 2 < X.length by omega), List.take_succ_cons,
    List.drop_eq_getElem_cons (show d + 3 < X.length by omega), List.take_succ_cons, List.take_zero]
theorem unpack_spec {p : Sl} {l : L8} {wt : Bool} {w : World} {R : Sl → Bool → World → Prop} (hp : Rd w 1 p (bv l)) (hb : p.n ≤ 140737488351232)
    (h1 : l.length % szB wt ≠ 0 → R nilS false w) (h2 : l.length % szB wt = 0 → ∀ out u, Grow w u → Own u w.heap.size t_api_Block 19 out ((unpB wt l).flatMap bc) → R out true u) : Cpi_Unpack p wt w R := by
  refine Fpi_Unpack.calls _ _ _ _ ?_
  have hln := rd_n' hp
  have hs16 : 16 ≤ szB wt ∧ szB wt ≤ 24 := by unfold szB; split <;> decide
  refine size_spec ⟨by omega, ?_⟩
  have em : ((p.n : Int).tmod ((szB wt : Nat) : Int)) = ((l.length % szB wt : Nat) : Int) := by rw [hln]; rfl
  rw [em]
  refine br_ne (fun q => h1 (by omega)) (fun q => ?_)
  have hm : l.length % szB wt = 0 := by omega
  have hN : l.length = l.length / szB wt * szB wt := by have := Nat.div_add_mod l.length (szB wt); rw [hm, Nat.mul_comm] at this; omega
  have h2 := h2 hm
  generalize hNN : l.length / szB wt = N at *
  have hN16 : N * 16 ≤ l.length := by rw [hN]; exact Nat.mul_le_mul_left _ hs16.1
  have hul : (unpB wt l).length = N := by rw [unpB_len, hNN]
  refine ⟨fun p1 out u => ∃ j : Nat, j ≤ N ∧ Grow w u ∧ (∀ v, Grow w v → Rd v 1 p1 (bv (l.drop (j * szB wt)))) ∧ Own u w.heap.size t_api_Block 19 out (((unpB wt l).take j).flatMap bc), fun p1 _ _ => p1.n,
    ⟨0, Nat.zero_le _, Keep.refl _ _, fun v hv => by rw [Nat.zero_mul, List.drop_zero]; exact hp.grow hv, own_nil _ _ _ _⟩, ?_⟩
  rintro p1 out u ⟨j, hj, hgu, hp1, hown⟩
  have hpu := hp1 u hgu
  have hpn := rd_n' hpu
  rw [List.length_drop] at hpn
  have hjs : j * szB wt ≤ N * szB wt := Nat.mul_le_mul_right _ hj
  by_cases hjN : j = N
  · subst hjN
    refine br_f (by rw [decide_eq_false_iff_not]; omega) ?_
    rw [List.take_of_length_le (by omega)] at hown
    exact h2 out u hgu hown
  have hjs1 : j * szB wt + szB wt ≤ N * szB wt := by rw [← Nat.succ_mul]; exact Nat.mul_le_mul_right _ (by omega)
  have hcap := hpu.cap
  refine br_t (by rw [decide_eq_true_eq]; omega) ?_
  have hXl : (l.drop (j * szB wt)).length = p1.n := by rw [List.length_drop]; exact hpn
  have hun : (unpB wt l)[j]'(by omega) = unB wt (l.drop (j * szB wt)) := by rw [unpB_at, unB_take]
  have hou := rd_bk (hown.rd (by
    have := hown.len
    rw [flat_length bc_len, List.length_take] at this
    omega))
  rw [List.length_take, hul, Nat.min_eq_left hj] at hou
  refine letX1 (fun out1 v => Grow w v ∧ Own v w.heap.size t_api_Block 19 out1 (((unpB wt l).take (j + 1)).flatMap bc)) ?_ (fun J => ?_)
  · rintro out1 v ⟨h3, h5⟩
    refine ⟨⟨by omega, by omega, by omega, hcap⟩, ⟨j + 1, by omega, h3, fun x hx => ?_, h5⟩, ?_⟩
    · have := (hp1 x hx).cutB (l := szB wt) (k := p1.n) (by omega) (Nat.le_refl _)
      rw [List.take_of_length_le (by rw [List.length_drop]; omega), List.drop_drop] at this
      rw [Nat.succ_mul]
      exact this
    · show ((p1.n : Int)).toNat - ((szB wt : Nat) : Int).toNat < p1.n
      rw [Int.toNat_natCast, Int.toNat_natCast]; omega
  have hflat : ((unpB wt l).take (j + 1)).flatMap bc = ((unpB wt l).take j).flatMap bc ++ bc (unB wt (l.drop (j * szB wt))) := by
    rw [List.take_succ_eq_append_getElem (by omega), List.flatMap_append, hun]; simp
  rw [hflat] at J
  generalize hX : l.drop (j * szB wt) = X at *
  refine new_rule fun pb w1 hpb hb1 hg1 hsz1 => ⟨by decide, ?_⟩
  have hb1 : Blk w1 pb (bc zeroBk).toArray t_api_Block := hb1
  refine copy16_rule hb1 (hp1 w1 (hgu.trans hg1)) (by omega) fun w2 hb2 hk2 hsz2 => ?_
  have hg2 : Grow u w2 := hg1.keep hk2 fun i hi q => by omega
  refine letX0 (fun v => Grow u v ∧ Blk v pb (bc (unB wt X)).toArray t_api_Block) ?_ (fun J1 => ?_)
  · rintro v ⟨hgv, hbv⟩
    refine ⟨_, bLoad (blk_cells hbv), ?_⟩
    refine lit_rule (cells := (bc (unB wt X)).toArray) (e := t_api_Block) (z := 19) (base := 0) (lit_block _ _) (by simp [bc_len]) (by decide) (Nat.zero_le _) fun w3 hlit3 hg3 _ => ?_
    refine append_wide_rule u_sl_api_Block i_api_Block rfl (by decide) (by decide) ((hown.grow hgv).grow hg3) (hlit3.rd (by show 1 ≤ _; decide)) (fun x hx => bc_ones _ x (by simpa using hx)) (by show out.n + 1 ≤ _; omega) (by show (out.n + 1 + (out.n + 1) / 4 + 192) * 24 ≤ _; omega) ((hgu.trans hgv).trans hg3).size fun s' w4 hn4 hown4 hk4 => ?_
    exact J s' w4 ⟨own_grow' ((hgu.trans hgv).trans hg3) ((hown.grow hgv).grow hg3) (Nat.le_refl _) hk4, by simpa using hown4⟩
  · have hgw2 := hgu.trans hg2
    cases wt with
    | false =>
      refine br_f rfl (J1 w2 ⟨hg2, ?_⟩)
      rw [unB_false X (by omega)]
      exact hb2
    | true =>
      have h24 : 24 ≤ X.length := by have : szB true = 24 := rfl; omega
      refine br_t rfl ⟨⟨by decide, by omega, by omega, hcap⟩, ?_⟩
      rintro w3 rfl
      have hg3 : Grow w2 w2.drew := keep_drew w2
      have hcut : ∀ v, Grow w v → Rd v 1 ⟨cutA p1.A p1.c 16 1, p1.n - 16, p1.c - 16⟩ (bv (X.drop 16)) := fun v hv => by
        have := (hp1 v hv).cutB (l := 16) (k := p1.n) (by omega) (Nat.le_refl _)
        rwa [List.take_of_length_le (by rw [List.length_drop]; omega)] at this
      have rd : ∀ i (hi : 16 + i < X.length) v, Grow w v → v.cell? ((gA (cutA p1.A p1.c 16 1)).add (i * 1)) = some (.int .u8 (X[16 + i].toNat : Int)) := fun i hi v hv => by
        obtain ⟨a, ha, hc⟩ := (hcut v hv).byte (i := i) (by show i < p1.n - 16; omega)
        have ha : cutA p1.A p1.c 16 1 = some a := ha
        rw [ha, gA]
        simpa using hc
      have hA : (cutA p1.A p1.c 16 1).isSome = true := by
        obtain ⟨a, ha, _⟩ := (hcut w2 hgw2).byte (i := 0) (by show 0 < p1.n - 16; omega)
        have ha : cutA p1.A p1.c 16 1 = some a := ha
        rw [ha]; rfl
      have bd : ∀ i : Nat, i < 8 → (0 : Int) ≤ (i : Int) ∧ (i : Int) < (((((p1.n : Int)).toNat - 16) : Nat) : Int) ∧ (cutA p1.A p1.c 16 1).isSome = true := fun i hi => ⟨by omega, by rw [Int.toNat_natCast]; omega, hA⟩
      refine ⟨fun v => Grow w v, hgw2.trans hg3, bd 0 (by decide), _, rd 0 (by omega), bd 1 (by decide), _, rd 1 (by omega), bd 2 (by decide), _, rd 2 (by omega), bd 3 (by decide), _, rd 3 (by omega),
        bd 4 (by decide), _, rd 4 (by omega), bd 5 (by decide), _, rd 5 (by omega), bd 6 (by decide), _, rd 6 (by omega), bd 7 (by decide), _, rd 7 (by omega), ?_⟩
      rw [or16 (UInt8.toNat_lt _) (UInt8.toNat_lt _), or16 (UInt8.toNat_lt _) (UInt8.toNat_lt _), be32 (UInt8.toNat_lt _) (UInt8.toNat_lt _) (UInt8.toNat_lt _) (UInt8.toNat_lt _)]
      have hb3 : Blk w2.drew pb _ t_api_Block := hg3.heap hb2 (fun q => q)
      rw [add0]
      refine storeAt_rule (o := 0 + 16) (cells := (tc (X[16 + 0].toNat * 256 + X[16 + 1].toNat) (X[16 + 2].toNat * 256 + X[16 + 3].toNat) (X[16 + 4].toNat * 16777216 + X[16 + 5].toNat * 65536 + X[16 + 6].toNat * 256 + X[16 + 7].toNat)).toArray) hb3 i_api_Tuple rfl
        (by have : (bv (X.take 16)).length = 16 := by rw [bv_length, List.length_take]; omega
            simp [this, tc]) (by intro v hv; simp [tc] at hv; rcases hv with rfl | rfl | rfl <;> rfl) fun w4 hb4 hk4 hsz4 => ?_
      refine J1 w4 ⟨(hg2.trans hg3).keep hk4 fun i hi q => by omega, ?_⟩
      have e : (unB true X) = unB true X := rfl
      rw [unB_true X (by omega), take2 (by omega), take2 (by omega), take4 (by omega), num_two, num_two, num_4]
      have hl16 : (bv (X.take 16)).length = 16 := by rw [bv_length, List.length_take]; omega
      have e2 : ((bv (X.take 16) ++ tc 0 0 0).take (0 + 16)) = bv (X.take 16) := by rw [List.take_append_of_le_length (by omega), List.take_of_length_le (by omega)]
      have e3 : ((bv (X.take 16) ++ tc 0 0 0).drop (0 + 16 + 3)) = [] := List.drop_of_length_le (by rw [List.length_append, hl16]; decide)
      have hb4 : Blk w4 pb ((bv (X.take 16) ++ tc 0 0 0).take (0 + 16) ++ tc (X[16 + 0].toNat * 256 + X[16 + 1].toNat) (X[16 + 2].toNat * 256 + X[16 + 3].toNat) (X[16 + 4].toNat * 16777216 + X[16 + 5].toNat * 65536 + X[16 + 6].toNat * 256 + X[16 + 7].toNat) ++ (bv (X.take 16) ++ tc 0 0 0).drop (0 + 16 + 3)).toArray t_api_Block := hb4
      rw [e2, e3, List.append_nil] at hb4
      exact hb4
end Go.Proofs.YtaneeadpjelomaaDoor

/- Layer 14: a device; its reading and writing. -/
namespace Go.Proofs.YtaneeadpjelomaaDoor
open Go CF

/-- a command, taken apart -/
structure Cm where
  kind : Nat
  long : Bool
  lba : Nat
  blocks : Nat
  alloc : Int
  fua : Bool
  prot : Nat
  unmap : Bool
  evpd : Bool
  page : Nat
  control : Nat
  save : Bool
  service : Nat
  type : Nat
  bytes : Bool
def cmv (c : Cm) : List Value := [.int .u8 (c.kind : Int), .bool c.long, .int .u64 (c.lba : Int), .int .u64 (c.blocks : Int), .int .i64 c.alloc, .bool c.fua, .int .u8 (c.prot : Int), .bool c.unmap, .bool c.evpd, .int .u8 (c.page : Int), .int .u8 (c.control : Int),
  .bool c.save, .int .u8 (c.service : Int), .int .u8 (c.type : Int), .bool c.bytes]
theorem cLoad {w : World} {a : Addr} {c : Cm} (h : Cells w a (cmv c)) : (loadVar t_api_Cmd a).run Tryd.prog w = .ok (.agg (cmv c).toArray) w := loadVar_rule g_api_Cmd i_api_Cmd rfl h
def dvcells (ps kind : Nat) : Array Value := #[.pointer (some ⟨ps, 0, none⟩), .int .u8 (kind : Int)]
/-- a device, what it keeps, and what it may write over -/
structure Dv (w : World) (dv ps pw : Nat) (file : ByteArray) (kind n : Nat) (cache : Bool) (D : Nat → Prop) (st : Wst) (bs : List Bk) (m : Nat) : Prop where
  dev : Blk w dv (dvcells ps kind) t_sbc_Dev
  isS : IsS w ps pw file n cache
  isW : IsW w pw D st
  nps : ¬ D ps
  ndv : ¬ D dv
  ok : Wok st
  tells : Tells st file bs
  len : bs.length = n
  size : 1 ≤ n ∧ n ≤ 4096
  nm : 1 ≤ file.size ∧ file.size ≤ 32
  kd : kind ≤ 3
  few : st.ops ≤ m ∧ st.waits.length ≤ m
section
variable {w u : World} {dv ps pw : Nat} {file : ByteArray} {kind n : Nat} {cache : Bool} {D D' : Nat → Prop} {st st' : Wst} {bs bs' : List Bk} {m m' : Nat}
theorem Dv.step (h : Dv w dv ps pw file kind n cache D st bs m) (k : Keep D w u) (hw : IsW u pw D' st') (hD : ∀ k, D' k → D k ∨ w.heap.size ≤ k) (hok : Wok st') (ht : Tells st' file bs') (hl : bs'.length = n) (hf : st'.ops ≤ m' ∧ st'.waits.length ≤ m') :
    Dv u dv ps pw file kind n cache D' st' bs' m' := by
  have l1 := lt_of_heap h.dev
  have l2 := lt_of_heap h.isS
  refine ⟨k.heap h.dev h.ndv, k.heap h.isS h.nps, hw, fun q => ?_, fun q => ?_, hok, ht, hl, h.size, h.nm, h.kd, hf⟩
  · rcases hD _ q with r | r
    · exact h.nps r
    · omega
  · rcases hD _ q with r | r
    · exact h.ndv r
    · omega
theorem Dv.grow (h : Dv w dv ps pw file kind n cache D st bs m) (g : Grow w u) : Dv u dv ps pw file kind n cache D st bs m :=
  ⟨g.heap h.dev (fun q => q), g.heap h.isS (fun q => q), h.isW.grow g, h.nps, h.ndv, h.ok, h.tells, h.len, h.size, h.nm, h.kd, h.few⟩
theorem Dv.mono (h : Dv w dv ps pw file kind n cache D st bs m) (hm : m ≤ m') : Dv w dv ps pw file kind n cache D st bs m' :=
  ⟨h.dev, h.isS, h.isW, h.nps, h.ndv, h.ok, h.tells, h.len, h.size, h.nm, h.kd, by have := h.few; omega⟩
theorem Dv.cell0 (h : Dv w dv ps pw file kind n cache D st bs m) : w.cell? ((gA (some ⟨dv, 0, none⟩)).add 0) = some (.pointer (some ⟨ps, 0, none⟩)) := by rw [gA, add0, h.dev.cell]; rfl
theorem dev0 (h : Blk w dv (dvcells ps kind) t_sbc_Dev) : w.cell? ((gA (some ⟨dv, 0, none⟩)).add 0) = some (.pointer (some ⟨ps, 0, none⟩)) := by rw [gA, add0, h.cell]; rfl
theorem dev1 (h : Blk w dv (dvcells ps kind) t_sbc_Dev) : w.cell? ((gA (some ⟨dv, 0, none⟩)).add 1) = some (.int .u8 (kind : Int)) := by rw [gA, add0, h.cell]; rfl
theorem rdBl_tells (ht : Tells st file bs) {lba k : Nat} (h : lba + k ≤ bs.length) : rdBl st file lba k = (bs.drop lba).take k := by
  apply List.ext_getElem?
  intro i
  unfold rdBl
  rw [List.getElem?_map, List.getElem?_take, List.getElem?_drop]
  by_cases q : i < k
  · rw [List.getElem?_range q, if_pos q, Option.map_some]
    exact ht.2 (lba + i) (by omega)
  · rw [if_neg q, List.getElem?_eq_none (by simp; omega)]; rfl
theorem blocks_spec {R : Int → World → Prop} (h : Dv w dv ps pw file kind n cache D st bs m) (hR : R (n : Int) w) : Csbc_Dev_blocks (some ⟨dv, 0, none⟩) w R := by
  refine Fsbc_Dev_blocks.calls _ _ _ ⟨rfl, some ⟨ps, 0, none⟩, dev0 h.dev, ?_⟩
  refine Fstore_Store_Blocks.calls _ _ _ (br_f rfl ⟨rfl, (n : Int), by rw [gA, add0, Blk.cell h.isS]; rfl, ?_⟩)
  have := h.size
  dsimp only
  rw [wu64 (by omega) (by omega)]
  exact hR
theorem dev_read_spec {c : Cm} {R : Sl → Array Value → Bool → World → Prop} (h : Dv w dv ps pw file kind n cache D st bs m) (hm : m ≤ 1000000) (hc : c.lba + c.blocks ≤ n)
    (h1 : (∀ i (hi : i < ((bs.drop c.lba).take c.blocks).length), chkB kind c.prot (c.lba + i) ((bs.drop c.lba).take c.blocks)[i] = 0) → ∀ xs u, Keep D w u → RdW w u pw D st c.blocks →
      Own u w.heap.size t_api_Block 19 xs (((bs.drop c.lba).take c.blocks).flatMap bc) → R xs (rsv 0 sn0 nilS).toArray true u)
    (h2 : ∀ i (hi : i < ((bs.drop c.lba).take c.blocks).length), chkB kind c.prot (c.lba + i) ((bs.drop c.lba).take c.blocks)[i] ≠ 0 → ∀ u, Keep D w u → RdW w u pw D st c.blocks →
      R nilS (rsv 2 (atS 11 (chkB kind c.prot (c.lba + i) ((bs.drop c.lba).take c.blocks)[i]) (c.lba + i)) nilS).toArray false u) :
    Csbc_Dev_read (some ⟨dv, 0, none⟩) (cmv c).toArray w R := by
  refine Fsbc_Dev_read.calls _ _ _ _ ?_
  have hlen := h.len
  have hsz := h.size
  refine new_rule fun cb w0 hcb hb0 hg0 hsz0 => ?_
  have hb0 : Blk w0 cb (cmv c).toArray t_api_Cmd := hb0
  refine new_rule fun ab w1 hab hb1 hg1 hsz1 => ?_
  rintro w2 rfl
  have hg2 : Grow w1 w1.drew := keep_drew w1
  have hgw2 := (hg0.trans hg1).trans hg2
  have hw2 := h.grow hgw2
  have hc2 : Blk w1.drew cb (cmv c).toArray t_api_Cmd := (hg1.trans hg2).heap hb0 (fun q => q)
  have c2 : ∀ {v : World}, Blk v cb (cmv c).toArray t_api_Cmd → v.cell? ((⟨cb, 0, none⟩ : Addr).add 2) = some (.int .u64 (c.lba : Int)) := fun q => by rw [add0, q.cell]; rfl
  have c3 : ∀ {v : World}, Blk v cb (cmv c).toArray t_api_Cmd → v.cell? ((⟨cb, 0, none⟩ : Addr).add 3) = some (.int .u64 (c.blocks : Int)) := fun q => by rw [add0, q.cell]; rfl
  have c6 : ∀ {v : World}, Blk v cb (cmv c).toArray t_api_Cmd → v.cell? ((⟨cb, 0, none⟩ : Addr).add 6) = some (.int .u8 (c.prot : Int)) := fun q => by rw [add0, q.cell]; rfl
  refine ⟨fun v => Blk v dv (dvcells ps kind) t_sbc_Dev ∧ Blk v cb (cmv c).toArray t_api_Cmd, ⟨hw2.dev, hc2⟩, rfl, some ⟨ps, 0, none⟩, fun v hv => dev0 hv.1, (c.lba : Int), fun v hv => c2 hv.2, (c.blocks : Int), fun v hv => c3 hv.2, ?_⟩
  rw [w64 (n := (c.lba : Int)) (by omega) (by omega), w64 (n := (c.blocks : Int)) (by omega) (by omega)]
  have hfew := h.few
  refine store_readR_spec hw2.isS hw2.nps hw2.isW h.nm hsz.2 hc (by omega) fun xs w3 hk3 hw3 hown3 hn3 => br_f rfl ?_
  rw [rdBl_tells h.tells (by omega)] at hown3
  have hLl : ((bs.drop c.lba).take c.blocks).length = c.blocks := by rw [List.length_take, List.length_drop]; omega
  generalize (bs.drop c.lba).take c.blocks = L at *
  have lt0 := fun k (q : D k) => h.isW.lt q
  have hkw3 : Keep D w w3 := (hgw2.mono fun _ _ q => q.elim).trans hk3 fun _ _ q => q
  have hc3 : Blk w3 cb (cmv c).toArray t_api_Cmd := hk3.heap hc2 fun q => by have := lt0 _ q; omega
  have hd3 : Blk w3 dv (dvcells ps kind) t_sbc_Dev := hk3.heap hw2.dev h.ndv
  have ha3 : ∀ {cs}, Blk w1 ab cs t_api_Result → Blk w3 ab cs t_api_Result := fun q => hk3.heap (hg2.heap q (fun q => q)) fun q => by have := lt0 _ q; omega
  have hown3 : Own w3 w.heap.size t_api_Block 19 xs (L.flatMap bc) := hown3.mono hgw2.size
  have hxr := hown3.rd (by omega)
  have s2 := hgw2.size
  have s3 := hkw3.size
  refine ⟨fun x v => ∃ j : Nat, x = j ∧ j ≤ L.length ∧ Grow w3 v ∧ ∀ i (hi : i < L.length), i < j → chkB kind c.prot (c.lba + i) L[i] = 0, fun x _ => L.length - x.toNat, ⟨0, rfl, Nat.zero_le _, Keep.refl _ _, fun _ _ q => absurd q (Nat.not_lt_zero _)⟩, ?_⟩
  rintro x v ⟨j, rfl, hj, hgv, hall⟩
  have hav : Blk v ab _ t_api_Result := hgv.heap (ha3 hb1) (fun q => q)
  have fin : ∀ {y : World} , Grow w3 y → ∀ {z : World}, Keep (fun k => k = ab) y z → Keep D w z ∧ RdW w z pw D st c.blocks := fun {y} hy {z} hz => by
    have hgz : Grow w3 y := hy
    have hzD : Keep (fun k => k = ab) w3 z := (hgz.mono fun _ _ q => q.elim).trans hz fun _ _ q => q
    refine ⟨⟨hzD.os.trans hkw3.os, hzD.tape.trans hkw3.tape, hzD.output.trans hkw3.output, Nat.le_trans hkw3.size hzD.size, fun k hk hn => ?_⟩, ?_⟩
    · rw [hzD.block k (by omega) (by omega), hkw3.block k hk hn]
    · refine ((hw3.pre hgw2).grow hgz).keep hz (fun k hk q => ?_) (fun g cur hg q => ?_)
      · have := lt0 _ hk; omega
      · subst q
        have := hgz.heap (ha3 hb1) (fun q => q)
        exact absurd (blk_type this hg) (by decide)
  refine br_nat (fun hlt => ?_) (fun hge => ?_)
  · have hjL : j < L.length := by omega
    obtain ⟨a0, ha0, hc0⟩ := rd_bk_at (hxr.grow hgv) hjL
    refine ⟨⟨by omega, by omega, by rw [ha0]; rfl⟩, (bc L[j]).toArray, by rw [ha0, Int.toNat_natCast]; exact bLoad hc0, ?_⟩
    refine new_rule fun bb w4 hbb hb4 hg4 hsz4 => ?_
    refine storeVar_rule (cells := (bc L[j]).toArray) hb4 i_api_Block (by simp [bc_len]) (by simp [bc_len]) (bc_all _) fun w5 hb5 hk5 hsz5 => ?_
    have hg5 : Grow v w5 := hg4.keep hk5 fun i hi q => by omega
    have hg35 := hgv.trans hg5
    have hc5 := hg35.heap hc3 (fun q => q)
    refine ⟨(c.lba : Int), c2 hc5, ?_⟩
    rintro w6 rfl
    have hg6 : Grow w5 w5.drew := keep_drew w5
    have hg36 := hg35.trans hg6
    refine ⟨fun y => Blk y dv (dvcells ps kind) t_sbc_Dev ∧ Blk y cb (cmv c).toArray t_api_Cmd ∧ Blk y bb (bc L[j]).toArray t_api_Block, ⟨hg36.heap hd3 (fun q => q), hg36.heap hc3 (fun q => q), hg6.heap hb5 (fun q => q)⟩, rfl, (kind : Int), fun y hy => dev1 hy.1, (c.prot : Int), fun y hy => c6 hy.2.1,
      (bc L[j]).toArray, fun y hy => bLoad (blk_cells hy.2.2), ?_⟩
    have e1 : IntKind.wrap .u64 ((c.lba : Int) + IntKind.wrap .u64 (j : Int)) = ((c.lba + j : Nat) : Int) := by
      rw [wu64 (n := (j : Int)) (by omega) (by omega), wu64 (by omega) (by omega)]; omega
    rw [e1]
    refine check_b_spec fun w7 hg7 => ?_
    have hg37 := hg36.trans hg7
    by_cases hz : chkB kind c.prot (c.lba + j) L[j] = 0
    · refine br_f (by rw [hz]; rfl) ?_
      rw [w64 (by omega) (by omega)]
      refine ⟨⟨j + 1, by omega, by omega, hg37, fun i hi q => ?_⟩, by dsimp only; omega⟩
      by_cases e : i = j
      · subst e; exact hz
      · exact hall i hi (by omega)
    · refine br_t (by rw [bne_iff_ne]; omega) ?_
      refine at_spec (key := 11) fun w8 hg8 => ?_
      have hg38 := hg37.trans hg8
      refine ret_rule (hg38.heap (ha3 hb1) (fun q => q)) rfl fun w9 hk9 => ?_
      obtain ⟨f1, f2⟩ := fin hg38 hk9
      exact h2 j hjL hz w9 f1 f2
  · refine ret_rule (st := 0) (s := sn0) (d := nilS) hav rfl fun w4 hk4 => ?_
    obtain ⟨f1, f2⟩ := fin hgv hk4
    refine h1 (fun i hi => hall i hi (by omega)) xs w4 f1 f2 ((hown3.grow hgv).keep hk4 fun b hb q => ?_)
    obtain ⟨cur, hcur⟩ := own_heap (hown3.grow hgv) hb
    subst q
    exact absurd (blk_type hav hcur) (by decide)
end
end Go.Proofs.YtaneeadpjelomaaDoor

/- Layer 14: blocks are written; blocks that came. -/
namespace Go.Proofs.YtaneeadpjelomaaDoor
open Go CF

theorem keepD_new {w y z : World} {D : Nat → Prop} {ab : Nat} (hk : Keep D w y) (ha : w.heap.size ≤ ab) (hz : Keep (fun k => k = ab) y z) : Keep D w z :=
  ⟨hz.os.trans hk.os, hz.tape.trans hk.tape, hz.output.trans hk.output, Nat.le_trans hk.size hz.size, fun k hk' hn => by rw [hz.block k (by have := hk.size; omega) (by omega), hk.block k hk' hn]⟩
theorem isW_new {y z : World} {pw : Nat} {D : Nat → Prop} {st : Wst} {ab : Nat} {cs : Array Value} {t : TypeId} (hw : IsW y pw D st) (hb : Blk y ab cs t) (ht : t ≠ t_uint8) (hn : ¬ D ab) (hz : Keep (fun k => k = ab) y z) : IsW z pw D st :=
  hw.keep hz (fun k hk q => hn (q ▸ hk)) fun g cur hg q => by subst q; exact ht (blk_type hb hg)
theorem rdW_new {x y z : World} {pw k : Nat} {D : Nat → Prop} {st : Wst} {ab : Nat} {cs : Array Value} {t : TypeId} (hw : RdW x y pw D st k) (hb : Blk y ab cs t) (ht : t ≠ t_uint8) (hn : ¬ D ab) (hz : Keep (fun k => k = ab) y z) : RdW x z pw D st k :=
  hw.keep hz (fun k hk q => hn (q ▸ hk)) fun g cur hg q => by subst q; exact ht (blk_type hb hg)
theorem tne_result : t_api_Result ≠ t_uint8 := by decide
section
variable {w u : World} {dv ps pw : Nat} {file : ByteArray} {kind n : Nat} {cache : Bool} {D D' : Nat → Prop} {st st' : Wst} {bs bs' : List Bk} {m m' : Nat}
theorem dev_write_spec {lba : Nat} {ls : Sl} {L : List Bk} {fua : Bool} {R : Array Value → World → Prop} (h : Dv w dv ps pw file kind n cache D st bs m) (hm : m ≤ 1000000) (hc : lba + L.length ≤ n) (hL : ∀ v, Keep D w v → Rd v 19 ls (L.flatMap bc))
    (hR : ∀ u D' , Keep D w u → Dv u dv ps pw file kind n cache D' (syncIf (syncs L.length fua cache) (layW st file lba (rsOf L) L.length)) (setAll bs lba L L.length) (m + L.length + 1) → (∀ k, D' k → D k ∨ w.heap.size ≤ k) → R (rsv 0 sn0 nilS).toArray u) :
    Csbc_Dev_write (some ⟨dv, 0, none⟩) (lba : Int) ls fua w R := by
  refine Fsbc_Dev_write.calls _ _ _ _ _ _ ?_
  have hsz := h.size
  have hlen := h.len
  have hfew := h.few
  refine new_rule fun ab w1 hab hb1 hg1 hsz1 => ⟨rfl, some ⟨ps, 0, none⟩, dev0 (h.grow hg1).dev, ?_⟩
  have h1 := h.grow hg1
  rw [w64 (n := (lba : Int)) (by omega) (by omega)]
  have nab : ¬ D ab := fun q => by have := h.isW.lt q; omega
  refine store_write2_spec h1.isS h1.nps h1.isW h1.ok h.nm hsz.2 hc (fun v hk => hL v ((hg1.mono fun _ _ q => q.elim).trans hk fun _ _ q => q)) (by omega) (by omega) fun w2 D2 hk2 hw2 hD2 hS2 => br_f rfl ?_
  refine good_spec fun w3 hg3 => ?_
  have s1 := hg1.size
  have s2 := hk2.size
  have nab2 : ¬ D2 ab := fun q => by
    rcases hD2 _ q with r | r
    · exact nab r
    · omega
  have hb3 : Blk w3 ab _ t_api_Result := hg3.heap (hk2.heap hb1 nab) (fun q => q)
  refine ret_rule (st := 0) (s := sn0) (d := nilS) hb3 rfl fun w4 hk4 => ?_
  have hkD : Keep D w w4 := keepD_new (((hg1.mono fun _ _ q => q.elim).trans hk2 fun _ _ q => q).grow hg3) (by omega) hk4
  have hDD : ∀ k, D2 k → D k ∨ w.heap.size ≤ k := fun k q => by
    rcases hD2 k q with r | r
    · exact .inl r
    · exact .inr (by omega)
  obtain ⟨lo, lw⟩ := layW_ops st file lba (rsOf L) L.length
  have so := syncIf_ops (syncs L.length fua cache) (layW st file lba (rsOf L) L.length)
  have sw : (syncIf (syncs L.length fua cache) (layW st file lba (rsOf L) L.length)).waits.length ≤ st.waits.length + L.length := by
    rw [syncIf_waits]
    split
    · exact Nat.zero_le _
    · omega
  refine hR w4 D2 hkD (h.step hkD (isW_new (hw2.grow hg3) hb3 tne_result nab2 hk4) hDD (syncIf_ok (layW_ok h.ok (rsOf_len L) L.length (by omega))) (tells_write h.tells (by omega)) (by rw [setAll_len]; exact hlen) (by omega)) hDD
end
/-! ### a row of blocks changed in place -/
theorem own_storeAt {P : Program} {w : World} {base : Nat} {e ty : TypeId} {z o : Nat} {zv : Option Value} {q bytes : Nat} {s : Sl} {vs : List Value} {cells : Array Value} (hs : Own w base e z s vs) (hinfo : (P.info? ty).map (fun i => (i.zero, i.size, i.bytes)) = some (zv, q, bytes)) (hq : q = cells.size)
    (ho : o + cells.size ≤ vs.length) (hpos : 0 < cells.size) (h1 : ∀ v ∈ cells.toList, v.oneCell' = true) {K : World → Prop}
    (h : ∀ w1, Own w1 base e z s (vs.take o ++ cells.toList ++ vs.drop (o + cells.size)) → Keep (fun k => some k = s.blk) w w1 → w1.heap.size = w.heap.size → K w1) : RunU P (storeVar ty ((gA s.A).add o) (.agg cells)) w K := by
  obtain ⟨hlen, hown⟩ := hs
  rcases hown with ⟨h2, hn0⟩ | ⟨g, cap, cur, hv', hbg, hg, hnc, hcm, hcs, htake⟩
  · rw [hn0, Nat.zero_mul] at hlen; omega
  · injection hv' with hA hN hC
    have hle : s.n * z ≤ cur.size := by rw [hcs]; exact Nat.mul_le_mul_right _ hnc
    rw [hA, gA, add0, Nat.zero_add]
    refine storeAt_rule hg hinfo hq (by omega) h1 fun w1 hb1 hk1 hsz1 => ?_
    refine h w1 ⟨by simp only [List.length_append, List.length_take, List.length_drop, Array.length_toList]; omega, .inr ⟨g, cap, _, by rw [hA, hC], hbg, hb1, hnc, hcm, ?_, ?_⟩⟩ (hk1.mono fun k _ q => by simp [Sl.blk, hA, q]) hsz1
    · simp only [List.size_toArray, List.length_append, List.length_take, List.length_drop, Array.length_toList]; omega
    · have hF : cur.toList.take (s.n * z) = vs := htake
      have hl : vs.length = s.n * z := hlen
      rw [← hF]
      apply List.ext_getElem?
      intro j
      simp only [List.getElem?_take, List.getElem?_append, List.length_append, List.length_take, Array.length_toList, List.getElem?_drop]
      have e1 : min o cur.size = o := by omega
      have e2 : min o (min (s.n * z) cur.size) = o := by omega
      simp only [e1, e2]
      by_cases q1 : j < o
      · have q2 : j < o + cells.size := by omega
        have q3 : j < s.n * z := by omega
        simp only [if_pos q1, if_pos q2, if_pos q3]
      · by_cases q2 : j < o + cells.size
        · have q3 : j < s.n * z := by omega
          simp only [if_neg q1, if_pos q2, if_pos q3]
        · by_cases q3 : j < s.n * z
          · have q4 : o + cells.size + (j - (o + cells.size)) < s.n * z := by omega
            simp only [if_neg q2, if_pos q3, if_pos q4]
          · have q4 : ¬ o + cells.size + (j - (o + cells.size)) < s.n * z := by omega
            simp only [if_neg q2, if_neg q3, if_neg q4]
theorem flat_bc_len (l : List Bk) : (l.flatMap bc).length = l.length * 19 := flat_length bc_len l
theorem flat_set {l : List Bk} {j : Nat} {b : Bk} (hj : j < l.length) (hd : b.d = l[j].d) : (l.flatMap bc).take (j * 19 + 16) ++ tc b.g b.a b.r ++ (l.flatMap bc).drop (j * 19 + 16 + 3) = (l.set j b).flatMap bc := by
  have e : l = l.take j ++ l[j] :: l.drop (j + 1) := by rw [List.getElem_cons_drop, List.take_append_drop]
  have hA : ((l.take j).flatMap bc).length = j * 19 := by rw [flat_bc_len, List.length_take, Nat.min_eq_left (by omega)]
  have hl : l.flatMap bc = (l.take j).flatMap bc ++ (bc l[j] ++ (l.drop (j + 1)).flatMap bc) := by
    conv => lhs; rw [e]
    rw [List.flatMap_append, List.flatMap_cons]
  have hs : (l.set j b).flatMap bc = (l.take j).flatMap bc ++ (bc b ++ (l.drop (j + 1)).flatMap bc) := by
    rw [List.set_eq_take_append_cons_drop, if_pos hj, List.flatMap_append, List.flatMap_cons]
  have hb : bc b = bv l[j].d ++ tc b.g b.a b.r := by unfold bc tc; rw [hd]
  have t1 : ((l.take j).flatMap bc ++ (bc l[j] ++ (l.drop (j + 1)).flatMap bc)).take (j * 19 + 16) = (l.take j).flatMap bc ++ bv l[j].d := by
    rw [← hA, List.take_length_add_append, List.take_append_of_le_length (by rw [bc_len]; omega), bc_head]
  have t2 : ((l.take j).flatMap bc ++ (bc l[j] ++ (l.drop (j + 1)).flatMap bc)).drop (j * 19 + 16 + 3) = (l.drop (j + 1)).flatMap bc := by
    rw [Nat.add_assoc, ← hA, List.drop_length_add_append]
    have : 16 + 3 = (bc l[j]).length := by rw [bc_len]
    rw [this, List.drop_left]
  rw [hl, hs, t1, t2, hb]
  simp
end Go.Proofs.YtaneeadpjelomaaDoor

/- Layer 14: blocks that came with a command. -/
namespace Go.Proofs.YtaneeadpjelomaaDoor
open Go CF

def mk1 (kind lba : Nat) (b : Bk) : Bk := mkB kind lba b.d b.hd
/-- blocks given their tuples, the first j of them -/
def mkAll (kind lba : Nat) (U : List Bk) : Nat → List Bk
  | 0 => U
  | j + 1 => (mkAll kind lba U j).set j (mk1 kind (lba + j) (U.getD j zeroBk))
theorem mkAll_len (kind lba : Nat) (U : List Bk) : ∀ j, (mkAll kind lba U j).length = U.length
  | 0 => rfl
  | j + 1 => by simp [mkAll, mkAll_len kind lba U j]
theorem mkAll_at (kind lba : Nat) (U : List Bk) : ∀ (j i : Nat) (hi : i < U.length), (mkAll kind lba U j)[i]'(by rw [mkAll_len]; exact hi) = if i < j then mk1 kind (lba + i) U[i] else U[i]
  | 0, i, hi => by rw [if_neg (by omega)]; rfl
  | j + 1, i, hi => by
    have ih := mkAll_at kind lba U j i hi
    simp only [mkAll, List.getElem_set]
    by_cases e : j = i
    · subst e
      rw [if_pos rfl, if_pos (by omega), List.getD_eq_getElem?_getD, List.getElem?_eq_getElem hi]; rfl
    · rw [if_neg e, ih]
      by_cases q : i < j
      · rw [if_pos q, if_pos (by omega)]
      · rw [if_neg q, if_neg (by omega)]
theorem mk1_cells (kind lba : Nat) (b : Bk) : tc (mk1 kind lba b).g (mk1 kind lba b).a (mk1 kind lba b).r = tc (c16 b.d) 0 (mkR kind lba) := rfl
theorem dev_come_spec {w : World} {dv ps kind : Nat} {c : Cm} {p : Sl} {l : L8} {N : Nat} {R : Sl → Array Value → Bool → World → Prop} (hd : Blk w dv (dvcells ps kind) t_sbc_Dev) (hp : Rd w 1 p (bv l)) (hb : p.n ≤ 140737488351232) (hlba : c.lba ≤ 4096) (hN : N ≤ 4096)
    (h1 : (l.length % szB (decide (c.prot ≠ 0)) ≠ 0 ∨ l.length / szB (decide (c.prot ≠ 0)) ≠ N) → ∀ u, Grow w u → R nilS (rsv 2 (badS 0x1a00) nilS).toArray false u)
    (h2 : l.length % 16 = 0 → l.length / 16 = N → c.prot = 0 → ∀ xs u, Grow w u → Own u w.heap.size t_api_Block 19 xs ((mkAll kind c.lba (unpB false l) N).flatMap bc) → R xs (rsv 0 sn0 nilS).toArray true u)
    (h3 : l.length % 24 = 0 → l.length / 24 = N → c.prot ≠ 0 → (∀ i (hi : i < (unpB true l).length), chkB kind c.prot (c.lba + i) (unpB true l)[i] = 0) → ∀ xs u, Grow w u → Own u w.heap.size t_api_Block 19 xs ((unpB true l).flatMap bc) → R xs (rsv 0 sn0 nilS).toArray true u)
    (h4 : l.length % 24 = 0 → l.length / 24 = N → c.prot ≠ 0 → ∀ i (hi : i < (unpB true l).length), chkB kind c.prot (c.lba + i) (unpB true l)[i] ≠ 0 → (∀ j (hj : j < i), chkB kind c.prot (c.lba + j) ((unpB true l)[j]'(by omega)) = 0) → ∀ u, Grow w u →
      R nilS (rsv 2 (atS 11 (chkB kind c.prot (c.lba + i) (unpB true l)[i]) (c.lba + i)) nilS).toArray false u) :
    Csbc_Dev_come (some ⟨dv, 0, none⟩) (cmv c).toArray p (N : Int) w R := by
  refine Fsbc_Dev_come.calls _ _ _ _ _ _ ?_
  refine new_rule fun cb w0 hcb hb0 hg0 hsz0 => ?_
  have hb0 : Blk w0 cb (cmv c).toArray t_api_Cmd := hb0
  refine new_rule fun ab w1 hab hb1 hg1 hsz1 => ?_
  have hgw1 := hg0.trans hg1
  have hc1 : Blk w1 cb (cmv c).toArray t_api_Cmd := hg1.heap hb0 (fun q => q)
  refine ⟨(c.prot : Int), by rw [add0, hc1.cell]; rfl, ?_⟩
  have ew : ((c.prot : Int) != 0) = decide (c.prot ≠ 0) := by rw [Bool.eq_iff_iff, bne_iff_ne, decide_eq_true_eq]; omega
  rw [ew]
  generalize hwt : decide (c.prot ≠ 0) = wt at *
  have hd1 := hgw1.heap hd (fun q => q)
  have hln := rd_n' hp
  refine unpack_spec (hp.grow hgw1) hb (fun q => br_t rfl (length_spec fun w2 hg2 => ret_rule (hg2.heap hb1 (fun q => q)) rfl fun w3 hk3 => h1 (.inl q) w3 (grow_new (hgw1.trans hg2) (by omega) hk3))) fun hm xs w2 hg2 hown2 => ?_
  have hgw2 := hgw1.trans hg2
  have hUl : (unpB wt l).length = l.length / szB wt := unpB_len wt l
  have hs16 : 16 ≤ szB wt := by unfold szB; split <;> decide
  have hdiv : l.length / szB wt ≤ l.length := Nat.div_le_self _ _
  have hown2 : Own w2 w.heap.size t_api_Block 19 xs ((unpB wt l).flatMap bc) := hown2.mono hgw1.size
  have hxn : xs.n = (unpB wt l).length := by have := hown2.len; rw [flat_bc_len] at this; omega
  rw [wu64 (n := (xs.n : Int)) (by omega) (by omega)]
  have hb2 : Blk w2 ab _ t_api_Result := hg2.heap hb1 (fun q => q)
  by_cases hN' : l.length / szB wt = N
  case neg =>
    refine br_t (by rw [Bool.or_eq_true, bne_iff_ne]; right; omega) (length_spec fun w3 hg3 => ret_rule (hg3.heap hb2 (fun q => q)) rfl fun w4 hk4 => h1 (.inr hN') w4 (grow_new (hgw2.trans hg3) (by omega) hk4))
  refine br_f (by rw [Bool.or_eq_false_iff, bne_eq_false_iff_eq]; exact ⟨rfl, by omega⟩) ?_
  generalize hU : unpB wt l = U at *
  have hc2 : Blk w2 cb (cmv c).toArray t_api_Cmd := hg2.heap hc1 (fun q => q)
  have hd2 : Blk w2 dv (dvcells ps kind) t_sbc_Dev := hg2.heap hd1 (fun q => q)
  have c2 : ∀ {v : World}, Blk v cb (cmv c).toArray t_api_Cmd → v.cell? ((⟨cb, 0, none⟩ : Addr).add 2) = some (.int .u64 (c.lba : Int)) := fun q => by rw [add0, q.cell]; rfl
  have c6 : ∀ {v : World}, Blk v cb (cmv c).toArray t_api_Cmd → v.cell? ((⟨cb, 0, none⟩ : Addr).add 6) = some (.int .u8 (c.prot : Int)) := fun q => by rw [add0, q.cell]; rfl
  have xblk : ∀ {v : World} {L : List Bk}, Own v w.heap.size t_api_Block 19 xs (L.flatMap bc) → ∀ {b : Nat} {cs : Array Value} {t : TypeId}, Blk v b cs t → t ≠ t_api_Block → xs.blk ≠ some b := fun ho b cs t hbb ht => own_ne ho hbb ht
  refine ⟨fun x v => ∃ j : Nat, x = j ∧ j ≤ U.length ∧ Grow w v ∧ Blk v cb (cmv c).toArray t_api_Cmd ∧ Blk v dv (dvcells ps kind) t_sbc_Dev ∧ Blk v ab _ t_api_Result ∧
      ((wt = false ∧ Own v w.heap.size t_api_Block 19 xs ((mkAll kind c.lba U j).flatMap bc)) ∨ (wt = true ∧ Own v w.heap.size t_api_Block 19 xs (U.flatMap bc) ∧ ∀ i (hi : i < U.length), i < j → chkB kind c.prot (c.lba + i) U[i] = 0)), fun x _ => U.length - x.toNat,
    ⟨0, rfl, Nat.zero_le _, hgw2, hc2, hd2, hb2, by cases wt with
      | false => exact .inl ⟨rfl, hown2⟩
      | true => exact .inr ⟨rfl, hown2, fun _ _ q => absurd q (Nat.not_lt_zero _)⟩⟩, ?_⟩
  rintro x v ⟨j, rfl, hj, hgv, hcv, hdv, hav, hcase⟩
  refine br_nat (fun hlt => ?_) (fun hge => ?_)
  · have hjU : j < U.length := by omega
    have e1 : IntKind.wrap .u64 ((c.lba : Int) + IntKind.wrap .u64 (j : Int)) = ((c.lba + j : Nat) : Int) := by
      rw [wu64 (n := (j : Int)) (by omega) (by omega), wu64 (by omega) (by omega)]; omega
    rw [w64 (n := (j : Int) + 1) (by omega) (by omega)]
    refine letX0 (fun y => Grow w y ∧ Blk y cb (cmv c).toArray t_api_Cmd ∧ Blk y dv (dvcells ps kind) t_sbc_Dev ∧ Blk y ab _ t_api_Result ∧
      ((wt = false ∧ Own y w.heap.size t_api_Block 19 xs ((mkAll kind c.lba U (j + 1)).flatMap bc)) ∨ (wt = true ∧ Own y w.heap.size t_api_Block 19 xs (U.flatMap bc) ∧ ∀ i (hi : i < U.length), i < j + 1 → chkB kind c.prot (c.lba + i) U[i] = 0)))
      (fun y hy => ⟨⟨j + 1, by omega, by omega, hy⟩, by dsimp only; omega⟩) (fun J => ⟨(c.lba : Int), c2 hcv, ?_⟩)
    rw [e1]
    rcases hcase with ⟨hwf, hown⟩ | ⟨hwt', hown, hall⟩
    · refine br_t (by rw [hwf]; rfl) ?_
      rintro w3 rfl
      have hg3 : Grow v v.drew := keep_drew v
      have hVl : (mkAll kind c.lba U j).length = U.length := mkAll_len _ _ _ _
      have hVj : (mkAll kind c.lba U j)[j]'(by omega) = U[j] := by rw [mkAll_at _ _ _ _ _ hjU, if_neg (by omega)]
      obtain ⟨a0, ha0, hc0⟩ := rd_bk_at (hown.rd (by omega)) (i := j) (by omega)
      rw [hVj] at hc0
      have bnd : (0 : Int) ≤ (j : Int) ∧ (j : Int) < (xs.n : Int) ∧ xs.A.isSome = true := ⟨by omega, by omega, by rw [ha0]; rfl⟩
      refine ⟨fun y => Grow v y, hg3, rfl, (kind : Int), fun y hy => dev1 (hy.heap hdv (fun q => q)), bnd, (bv U[j].d).toArray, fun y hy => ?_, ?_⟩
      · rw [ha0, Int.toNat_natCast]
        exact dLoad U[j].hd (cells_head (fun i x hx => hy.cell (hc0 i x hx) (fun q => q)))
      refine make_spec (app := 0) U[j].hd fun w4 hg4 => ⟨bnd, ?_⟩
      have hg14 := hg3.trans hg4
      have hown4 := hown.grow hg14
      rw [Int.toNat_natCast, addr_add]
      refine own_storeAt (o := j * 19 + 16) (cells := (tc (c16 U[j].d) 0 (mkR kind (c.lba + j))).toArray) hown4 i_api_Tuple rfl (by rw [flat_bc_len, hVl]; show j * 19 + 16 + 3 ≤ _; omega) (by show 0 < 3; decide) (by intro q hq; simp [tc] at hq; rcases hq with rfl | rfl | rfl <;> rfl) fun w5 hown5 hk5 _ => ?_
      have hfs := flat_set (l := mkAll kind c.lba U j) (j := j) (b := mk1 kind (c.lba + j) U[j]) (by omega) (by rw [hVj]; rfl)
      rw [mk1_cells] at hfs
      have hown5 : Own w5 w.heap.size t_api_Block 19 xs (((mkAll kind c.lba U j).flatMap bc).take (j * 19 + 16) ++ tc (c16 U[j].d) 0 (mkR kind (c.lba + j)) ++ ((mkAll kind c.lba U j).flatMap bc).drop (j * 19 + 16 + 3)) := hown5
      rw [hfs] at hown5
      have hnb : ∀ {b : Nat} {cs : Array Value} {t : TypeId}, Blk w4 b cs t → t ≠ t_api_Block → Blk w5 b cs t := fun hbb ht => hk5.heap hbb fun q => own_ne hown4 hbb ht q.symm
      refine J w5 ⟨own_grow' (hgv.trans hg14) hown4 (Nat.le_refl _) hk5, hnb (hg14.heap hcv (fun q => q)) (by decide), hnb (hg14.heap hdv (fun q => q)) (by decide), hnb (hg14.heap hav (fun q => q)) (by decide), .inl ⟨hwf, ?_⟩⟩
      have e2 : mkAll kind c.lba U (j + 1) = (mkAll kind c.lba U j).set j (mk1 kind (c.lba + j) U[j]) := by
        simp only [mkAll]; rw [List.getD_eq_getElem?_getD, List.getElem?_eq_getElem hjU]; rfl
      rw [e2]; exact hown5
    · refine br_f (by rw [hwt']; rfl) ?_
      rintro w3 rfl
      have hg3 : Grow v v.drew := keep_drew v
      obtain ⟨a0, ha0, hc0⟩ := rd_bk_at (hown.rd (by omega)) hjU
      have bnd : (0 : Int) ≤ (j : Int) ∧ (j : Int) < (xs.n : Int) ∧ xs.A.isSome = true := ⟨by omega, by omega, by rw [ha0]; rfl⟩
      refine ⟨fun y => Grow v y, hg3, rfl, (kind : Int), fun y hy => dev1 (hy.heap hdv (fun q => q)), (c.prot : Int), fun y hy => c6 (hy.heap hcv (fun q => q)), bnd, (bc U[j]).toArray, fun y hy => ?_, ?_⟩
      · rw [ha0, Int.toNat_natCast]
        exact bLoad (fun i x hx => hy.cell (hc0 i x hx) (fun q => q))
      refine check_b_spec fun w4 hg4 => ?_
      have hg14 := hg3.trans hg4
      subst hwt'
      have hp0 : c.prot ≠ 0 := by simpa using hwt
      by_cases hz : chkB kind c.prot (c.lba + j) U[j] = 0
      · refine br_f (by rw [hz]; rfl) (J w4 ⟨hgv.trans hg14, hg14.heap hcv (fun q => q), hg14.heap hdv (fun q => q), hg14.heap hav (fun q => q), .inr ⟨rfl, hown.grow hg14, fun i hi q => ?_⟩⟩)
        by_cases e : i = j
        · subst e; exact hz
        · exact hall i hi (by omega)
      · refine br_t (by rw [bne_iff_ne]; omega) (at_spec (key := 11) fun w5 hg5 => ?_)
        refine ret_rule ((hg14.trans hg5).heap hav (fun q => q)) rfl fun w6 hk6 => ?_
        subst hU
        exact h4 hm hN' hp0 j hjU hz (fun i hi => hall i (by omega) hi) w6 (grow_new ((hgv.trans hg14).trans hg5) (by omega) hk6)
  · have hjn : j = U.length := by omega
    refine ret_rule (st := 0) (s := sn0) (d := nilS) hav rfl fun w3 hk3 => ?_
    have hg3 := grow_new hgv (by omega) hk3
    have ok : ∀ {L : List Bk}, Own v w.heap.size t_api_Block 19 xs (L.flatMap bc) → Own w3 w.heap.size t_api_Block 19 xs (L.flatMap bc) := fun ho => ho.keep hk3 fun b hb q => own_ne ho hav (by decide) (by rw [hb, q])
    rcases hcase with ⟨hwf, hown⟩ | ⟨hwt', hown, hall⟩
    · subst hwf
      have hp0 : c.prot = 0 := by simpa using hwt
      subst hU
      rw [hjn, hUl, hN'] at hown
      exact h2 hm hN' hp0 xs w3 hg3 (ok hown)
    · subst hwt'
      have hp0 : c.prot ≠ 0 := by simpa using hwt
      subst hU
      exact h3 hm hN' hp0 (fun i hi => hall i hi (by omega)) xs w3 hg3 (ok hown)
end Go.Proofs.YtaneeadpjelomaaDoor

/- Layer 14: a command is done. -/
namespace Go.Proofs.YtaneeadpjelomaaDoor
open Go CF

def z10 : Array Value := #[.int .u8 0, .int .u8 0, .int .u16 0, .int .u64 0, .bool false, .int .i64 0, .int .i64 0, .bool false, .bool false, .slice none 0 0]
def unkS : Sn := ⟨5, 0x2400, 0, false, 1, 7, true, true⟩
def invS : Sn := ⟨5, 0x2000, 0, false, 0, 7, true, true⟩
/-- the blocks that a write lays -/
def cameB (kind : Nat) (c : Cm) (l : L8) (N : Nat) : List Bk := if c.prot = 0 then mkAll kind c.lba (unpB false l) N else unpB true l
theorem cameB_len {kind : Nat} {c : Cm} {l : L8} {N : Nat} (h : l.length / szB (decide (c.prot ≠ 0)) = N) : (cameB kind c l N).length = N := by
  unfold cameB
  split
  · rename_i q
    rw [mkAll_len, unpB_len]
    rw [decide_eq_false (by simpa using q)] at h
    exact h
  · rename_i q
    rw [unpB_len]
    rw [decide_eq_true (by simpa using q)] at h
    exact h
section
variable {w u : World} {dv ps pw : Nat} {file : ByteArray} {kind n : Nat} {cache : Bool} {D D' : Nat → Prop} {st st' : Wst} {bs bs' : List Bk} {m m' : Nat}
theorem Dv.put (h : Dv w dv ps pw file kind n cache D st bs m) {ab : Nat} {cs : Array Value} {t : TypeId} (hb : Blk w ab cs t) (h1 : t ≠ t_uint8) (h2 : t ≠ t_sbc_Dev) (h3 : t ≠ t_store_Store) (hn : ¬ D ab) (hk : Keep (fun k => k = ab) w u) :
    Dv u dv ps pw file kind n cache D st bs m := by
  refine ⟨hk.heap h.dev fun q => ?_, hk.heap h.isS fun q => ?_, isW_new h.isW hb h1 hn hk, h.nps, h.ndv, h.ok, h.tells, h.len, h.size, h.nm, h.kd, h.few⟩
  · have hd := h.dev
    rw [q] at hd
    exact h2 (blk_type hb hd)
  · have hd := h.isS
    rw [q] at hd
    exact h3 (blk_type hb hd)
theorem callK1_mono {P : Program} {f : FuncId} {args : Array Value} {w : World} {k : Kd} {R R' : k.T → World → Prop} (h : CallK P f args w [k] R) (hR : ∀ x w', R x w' → R' x w') : CallK P f args w [k] R' :=
  h.mono fun _ w' ⟨x, h1, h2⟩ => ⟨x, h1, by
    have h2 : R (k.un (k.mk x)) w' := h2
    show R' (k.un (k.mk x)) w'
    exact hR _ _ h2⟩
/-- what a command's own part leaves, in front of its last step -/
def Ends (D : Nat → Prop) (u : World) (ab : Nat) (R : Array Value → World → Prop) (g : Array Value) (v : World) : Prop :=
  Keep D u v ∧ ∃ (s : Nat) (sn : Sn) (d : Sl), g = (rsv s sn d).toArray ∧ ∀ v', Keep (fun k => k = ab) v v' → R g v'
theorem Ends.ret {ab : Nat} {R : Array Value → World → Prop} {g : Array Value} {v : World} (hb : Blk u ab z10 t_api_Result) (hn : ¬ D ab) (h : Ends D u ab R g v) :
    RunU Tryd.prog (storeVar t_api_Result ⟨ab, 0, none⟩ (.agg g)) v fun w' => ∃ res : Array Value, (loadVar t_api_Result ⟨ab, 0, none⟩).run Tryd.prog w' = .ok (.agg res) w' ∧ R res w' := by
  obtain ⟨h1, s, sn, d, rfl, h2⟩ := h
  exact ret_rule (h1.heap hb hn) rfl fun w' hk => h2 w' hk
/-- what the kinds of their own come to -/
def Part (D : Nat → Prop) (dv : Nat) (c : Cm) (p : Sl) (u : World) (K : Array Value → World → Prop) : Prop :=
  (c.kind = 10 → Csbc_Dev_verify (some ⟨dv, 0, none⟩) (cmv c).toArray p u K) ∧ (c.kind = 12 → Csbc_Dev_same (some ⟨dv, 0, none⟩) (cmv c).toArray p u K) ∧ (c.kind = 13 → Csbc_Dev_unmap (some ⟨dv, 0, none⟩) p u K) ∧
  (c.kind = 14 → Csbc_Dev_compare (some ⟨dv, 0, none⟩) (cmv c).toArray p u K) ∧ (c.kind = 6 → Csbc_Dev_capacity (some ⟨dv, 0, none⟩) (cmv c).toArray u K)
theorem known_spec {kind prot : Nat} {w : World} {R : Bool → World → Prop} (h : R (knownB kind prot) w) : Cpi_Known (kind : Int) (prot : Int) w R := by
  refine Fpi_Known.calls _ _ _ _ ?_
  have e : (decide ((kind : Int) ≤ 3) && (((prot : Int) == 0) || (decide ((kind : Int) > 0) && decide ((prot : Int) ≤ 4)))) = knownB kind prot := by
    unfold knownB
    rw [Bool.eq_iff_iff]
    simp only [Bool.and_eq_true, Bool.or_eq_true, decide_eq_true_eq, beq_iff_eq]
    omega
  unfold Fpi_Known
  rw [e]
  exact h
theorem do_spec {c : Cm} {p : Sl} {l : L8} {R : Array Value → World → Prop} (h : Dv w dv ps pw file kind n cache D st bs m) (hm : m ≤ 1000000) (hp : Rd w 1 p (bv l)) (hb : p.n ≤ 140737488351232) (hlb : c.lba < 18446744073709551616) (hbl : c.blocks < 18446744073709551616)
    (hunk : knownB kind c.prot = false → ∀ u, Grow w u → R (rsv 2 unkS nilS).toArray u)
    (hout : knownB kind c.prot = true → c.kind ≠ 13 → c.kind ≠ 6 → n < c.lba + c.blocks → ∀ u, Grow w u → R (rsv 2 (atS 5 0x2100 c.lba) nilS).toArray u)
    (h7 : knownB kind c.prot = true → c.kind = 7 → c.lba + c.blocks ≤ n → (∀ i (hi : i < ((bs.drop c.lba).take c.blocks).length), chkB kind c.prot (c.lba + i) ((bs.drop c.lba).take c.blocks)[i] = 0) → ∀ d u, Keep D w u → RdW w u pw D st c.blocks →
      Own u w.heap.size t_uint8 1 d (bv (packB (decide (c.prot ≠ 0)) ((bs.drop c.lba).take c.blocks))) → R (rsv 0 sn0 d).toArray u)
    (h7b : knownB kind c.prot = true → c.kind = 7 → c.lba + c.blocks ≤ n → ∀ i (hi : i < ((bs.drop c.lba).take c.blocks).length), chkB kind c.prot (c.lba + i) ((bs.drop c.lba).take c.blocks)[i] ≠ 0 → ∀ u, Keep D w u → RdW w u pw D st c.blocks →
      R (rsv 2 (atS 11 (chkB kind c.prot (c.lba + i) ((bs.drop c.lba).take c.blocks)[i]) (c.lba + i)) nilS).toArray u)
    (h8l : knownB kind c.prot = true → (c.kind = 8 ∨ c.kind = 9) → c.lba + c.blocks ≤ n → (l.length % szB (decide (c.prot ≠ 0)) ≠ 0 ∨ l.length / szB (decide (c.prot ≠ 0)) ≠ c.blocks) → ∀ u, Grow w u → R (rsv 2 (badS 0x1a00) nilS).toArray u)
    (h8b : knownB kind c.prot = true → (c.kind = 8 ∨ c.kind = 9) → c.lba + c.blocks ≤ n → c.prot ≠ 0 → l.length % 24 = 0 → l.length / 24 = c.blocks → ∀ i (hi : i < (unpB true l).length), chkB kind c.prot (c.lba + i) (unpB true l)[i] ≠ 0 → (∀ j (hj : j < i), chkB kind c.prot (c.lba + j) ((unpB true l)[j]'(by omega)) = 0) → ∀ u, Grow w u →
      R (rsv 2 (atS 11 (chkB kind c.prot (c.lba + i) (unpB true l)[i]) (c.lba + i)) nilS).toArray u)
    (h8 : knownB kind c.prot = true → (c.kind = 8 ∨ c.kind = 9) → c.lba + c.blocks ≤ n → l.length % szB (decide (c.prot ≠ 0)) = 0 → l.length / szB (decide (c.prot ≠ 0)) = c.blocks → (c.prot ≠ 0 → ∀ i (hi : i < (unpB true l).length), chkB kind c.prot (c.lba + i) (unpB true l)[i] = 0) →
      ∀ u D', Keep D w u → Dv u dv ps pw file kind n cache D' (syncIf (syncs c.blocks (c.fua || decide (c.kind = 9)) cache) (layW st file c.lba (rsOf (cameB kind c l c.blocks)) c.blocks)) (setAll bs c.lba (cameB kind c l c.blocks) c.blocks) (m + c.blocks + 1) →
      (∀ k, D' k → D k ∨ w.heap.size ≤ k) → R (rsv 0 sn0 nilS).toArray u)
    (h11 : knownB kind c.prot = true → c.kind = 11 → c.lba + c.blocks ≤ n → ∀ u D', Keep D w u → Dv u dv ps pw file kind n cache D' (synced st) bs (m + 1) → (∀ k, D' k → D k ∨ w.heap.size ≤ k) → R (rsv 0 sn0 nilS).toArray u)
    (hpart : knownB kind c.prot = true → (c.kind = 13 ∨ c.kind = 6 ∨ c.lba + c.blocks ≤ n) → ∀ ab u, Grow w u → w.heap.size ≤ ab → Blk u ab z10 t_api_Result → Part D dv c p u (Ends D u ab R))
    (hinv : knownB kind c.prot = true → c.kind ≠ 7 → c.kind ≠ 8 → c.kind ≠ 9 → c.kind ≠ 10 → c.kind ≠ 11 → c.kind ≠ 12 → c.kind ≠ 13 → c.kind ≠ 14 → c.kind ≠ 6 → ∀ u, Grow w u → R (rsv 2 invS nilS).toArray u) :
    Csbc_Dev_Do (some ⟨dv, 0, none⟩) (cmv c).toArray p w R := by
  refine Fsbc_Dev_Do.calls _ _ _ _ _ ?_
  have hsz := h.size
  have hlen := h.len
  have hfew := h.few
  refine new_rule fun cb w0 hcb hb0 hg0 hsz0 => ?_
  have hb0 : Blk w0 cb (cmv c).toArray t_api_Cmd := hb0
  refine new_rule fun ab w1 hab hb1 hg1 hsz1 => ?_
  have hb1 : Blk w1 ab z10 t_api_Result := hb1
  have hgw1 := hg0.trans hg1
  have hc1 : Blk w1 cb (cmv c).toArray t_api_Cmd := hg1.heap hb0 (fun q => q)
  have hD1 := h.grow hgw1
  have cAt : ∀ {v : World} {i : Nat} {x : Value}, Grow w1 v → (cmv c).toArray[i]? = some x → v.cell? ((⟨cb, 0, none⟩ : Addr).add i) = some x := fun g e => by rw [add0, Blk.cell (g.heap hc1 (fun q => q)), Nat.zero_add]; exact e
  have nab : ¬ D ab := fun q => by have := h.isW.lt q; omega
  have ncb : ¬ D cb := fun q => by have := h.isW.lt q; omega
  have sw := hg0.size
  have ret : ∀ {v : World} {s : Nat} {sn : Sn} {d : Sl}, Grow w1 v → (∀ v', Keep (fun k => k = ab) v v' → R (rsv s sn d).toArray v') →
      RunU Tryd.prog (storeVar t_api_Result ⟨ab, 0, none⟩ (.agg (rsv s sn d).toArray)) v fun w' => ∃ res : Array Value, (loadVar t_api_Result ⟨ab, 0, none⟩).run Tryd.prog w' = .ok (.agg res) w' ∧ R res w' := fun g hR => ret_rule (g.heap hb1 (fun q => q)) rfl hR
  have gn : ∀ {v v' : World}, Grow w1 v → Keep (fun k => k = ab) v v' → Grow w v' := fun g k => grow_new (hgw1.trans g) (by omega) k
  refine ⟨fun _ => rfl, some ⟨ps, 0, none⟩, fun _ => dev0 hD1.dev, br_f rfl ?_⟩
  rintro w2 rfl
  have hg2 : Grow w1 w1.drew := keep_drew w1
  refine ⟨fun v => Grow w1 v, hg2, rfl, (kind : Int), fun v hv => dev1 (hD1.grow hv).dev, (c.prot : Int), fun v hv => cAt hv rfl, known_spec ?_⟩
  cases hkn : knownB kind c.prot with
  | false => exact br_t rfl (fails_spec (s := unkS) fun w3 hg3 => ret (hg2.trans hg3) fun v' hk => hunk hkn v' (gn (hg2.trans hg3) hk))
  | true =>
  refine br_f rfl ?_
  rintro w3 rfl
  have hg3 : Grow w1 w1.drew.drew := hg2.trans (keep_drew _)
  refine ⟨fun v => Grow w1 v, hg3, (c.lba : Int), fun v hv => cAt hv rfl, (c.blocks : Int), fun v hv => cAt hv rfl, blocks_spec (hD1.grow hg3) ⟨hg3, ?_⟩⟩
  refine within_spec hlb hbl (by omega) ⟨hg3, fun v => Grow w1 v, hg3, fun _ q => q, (c.kind : Int), fun _ v hv => cAt hv rfl, fun v => Grow w1 v, hg3, fun _ q => q, (c.kind : Int), fun _ v hv => cAt hv rfl, ?_⟩
  by_cases hin : c.kind = 13 ∨ c.kind = 6 ∨ c.lba + c.blocks ≤ n
  case neg =>
    refine br_t (by rw [Bool.and_eq_true, Bool.and_eq_true, Bool.not_eq_true', decide_eq_false_iff_not, bne_iff_ne, bne_iff_ne]; omega) ⟨(c.lba : Int), cAt hg3 rfl, at_spec (key := 5) fun w4 hg4 => ret (hg3.trans hg4) fun v' hk => hout hkn (by omega) (by omega) (by omega) v' (gn (hg3.trans hg4) hk)⟩
  refine br_f (by rw [Bool.and_eq_false_iff, Bool.and_eq_false_iff, Bool.not_eq_false', decide_eq_true_eq, bne_eq_false_iff_eq, bne_eq_false_iff_eq]; omega) ⟨(c.kind : Int), cAt hg3 rfl, ?_⟩
  generalize w1.drew.drew = w3 at *
  have hpt := hpart hkn hin ab w3 (hgw1.trans hg3) (by omega) (hg3.heap hb1 (fun q => q))
  have hb3 : Blk w3 ab z10 t_api_Result := hg3.heap hb1 (fun q => q)
  have hc3 : Blk w3 cb (cmv c).toArray t_api_Cmd := hg3.heap hc1 (fun q => q)
  have cl : (loadVar t_api_Cmd ⟨cb, 0, none⟩).run Tryd.prog w3 = .ok (.agg (cmv c).toArray) w3 := cLoad (blk_cells hc3)
  have hgw3 := hgw1.trans hg3
  have h3 := h.grow hgw3
  refine letX0 (fun v => v = w3 ∧ c.kind ≠ 7 ∧ c.kind ≠ 8 ∧ c.kind ≠ 9 ∧ c.kind ≠ 10 ∧ c.kind ≠ 11 ∧ c.kind ≠ 12 ∧ c.kind ≠ 13 ∧ c.kind ≠ 14 ∧ c.kind ≠ 6) ?_ (fun J => ?_)
  · rintro v ⟨rfl, a1, a2, a3, a4, a5, a6, a7, a8, a9⟩
    exact fails_spec (s := invS) fun w4 hg4 => ret (hg3.trans hg4) fun v' hk => hinv hkn a1 a2 a3 a4 a5 a6 a7 a8 a9 v' (gn (hg3.trans hg4) hk)
  refine br_eq (fun k7 => ⟨_, cl, ?_⟩) (fun k7 => ?_)
  · have k7 : c.kind = 7 := by omega
    have hlb7 : c.lba + c.blocks ≤ n := by omega
    refine dev_read_spec h3 hm hlb7 (fun hchk xs w4 hk4 hw4 hown4 => ?_) (fun i hi hz w4 hk4 hw4 => ?_)
    · refine new_rule fun rb w5 hrb hb5 hg5 hsz5 => ?_
      refine lay_rule hb5 rfl fun w6 hb6 hk6 hsz6 => br_f rfl ?_
      have hg46 : Grow w4 w6 := hg5.keep hk6 fun i hi q => by omega
      have hc6 : Blk w6 cb (cmv c).toArray t_api_Cmd := hg46.heap (hk4.heap hc3 ncb) (fun q => q)
      have hb6' : Blk w6 ab z10 t_api_Result := hg46.heap (hk4.heap hb3 nab) (fun q => q)
      refine ⟨(c.prot : Int), by rw [add0, hc6.cell]; rfl, ?_⟩
      have ew : ((c.prot : Int) != 0) = decide (c.prot ≠ 0) := by rw [Bool.eq_iff_iff, bne_iff_ne, decide_eq_true_eq]; omega
      rw [ew]
      have hown6 := hown4.grow hg46
      have hLl : ((bs.drop c.lba).take c.blocks).length ≤ 4096 := by rw [List.length_take, List.length_drop]; omega
      refine pack_spec (hown6.rd (by have := hown6.len; rw [flat_bc_len] at this; omega)) hLl fun d w7 hown7 hg7 => good_spec fun w8 hg8 => ?_
      have hb8 : Blk w8 ab z10 t_api_Result := (hg7.trans hg8).heap hb6' (fun q => q)
      refine ret_rule hb8 rfl fun w9 hk9 => ?_
      have hkD : Keep D w w8 := ((((hgw3.mono fun _ _ q => q.elim).trans hk4 fun _ _ q => q).grow hg46).grow hg7).grow hg8
      have s4 := hk4.size
      have s46 := hg46.size
      refine h7 hkn k7 hlb7 hchk d w9 (keepD_new hkD (by omega) hk9) (rdW_new ((((hw4.pre hgw3).grow hg46).grow hg7).grow hg8) hb8 tne_result nab hk9) ?_
      have ho8 : Own w8 w.heap.size t_uint8 1 d _ := (hown7.mono (by have := hgw3.size; omega)).grow hg8
      exact ho8.keep hk9 fun b hbb q => own_ne ho8 hb8 (by decide) (by rw [hbb, q])
    · refine new_rule fun rb w5 hrb hb5 hg5 hsz5 => ?_
      refine lay_rule hb5 rfl fun w6 hb6 hk6 hsz6 => br_t rfl ⟨_, rLoad (blk_cells hb6), ?_⟩
      have hg46 : Grow w4 w6 := hg5.keep hk6 fun i hi q => by omega
      have hb6' : Blk w6 ab z10 t_api_Result := hg46.heap (hk4.heap hb3 nab) (fun q => q)
      refine ret_rule hb6' rfl fun w7 hk7 => ?_
      exact h7b hkn k7 hlb7 i hi hz w7 (keepD_new (((hgw3.mono fun _ _ q => q.elim).trans hk4 fun _ _ q => q).grow hg46) (by omega) hk7) (rdW_new ((hw4.pre hgw3).grow hg46) hb6' tne_result nab hk7)
  refine letX1 (fun (x : Bool) v => v = w3 ∧ (x = true ↔ (c.kind = 8 ∨ c.kind = 9))) ?_ (fun J1 => br_eq (fun k8 => J1 _ _ ⟨rfl, by rw [beq_iff_eq]; omega⟩) (fun k8 => J1 _ _ ⟨rfl, by rw [beq_iff_eq]; omega⟩))
  rintro x v ⟨rfl, hx⟩
  by_cases k89 : c.kind = 8 ∨ c.kind = 9
  · refine br_t (hx.2 k89) ⟨_, cl, (c.blocks : Int), by rw [add0, hc3.cell]; rfl, ?_⟩
    have hlb8 : c.lba + c.blocks ≤ n := by omega
    have bad : ∀ {y : World} {sn : Sn}, Grow v y → (∀ z, Grow w z → R (rsv 2 sn nilS).toArray z) → _ := fun {y sn} hy hR => True.intro
    have after : ∀ {y : World} {sn : Sn}, Grow v y → (∀ z, Grow w z → R (rsv 2 sn nilS).toArray z) → ∀ rb z, rb = y.heap.size → Blk z rb (rsv 2 sn nilS).toArray t_api_Result → Grow y z →
        ∃ g10 : Array Value, (loadVar t_api_Result ⟨rb, 0, none⟩).run Tryd.prog z = .ok (.agg g10) z ∧ RunU Tryd.prog (storeVar t_api_Result ⟨ab, 0, none⟩ (.agg g10)) z fun w028 => ∃ res6 : Array Value, (loadVar t_api_Result ⟨ab, 0, none⟩).run Tryd.prog w028 = .ok (.agg res6) w028 ∧ R res6 w028 := by
      intro y sn hy hR rb z hrb hbz hyz
      refine ⟨_, rLoad (blk_cells hbz), ret_rule ((hy.trans hyz).heap hb3 (fun q => q)) rfl fun z' hk' => hR z' (grow_new ((hgw3.trans hy).trans hyz) (by omega) hk')⟩
    have okw : ∀ xs y, Grow v y → l.length % szB (decide (c.prot ≠ 0)) = 0 → l.length / szB (decide (c.prot ≠ 0)) = c.blocks → (c.prot ≠ 0 → ∀ i (hi : i < (unpB true l).length), chkB kind c.prot (c.lba + i) (unpB true l)[i] = 0) →
        Own y v.heap.size t_api_Block 19 xs ((cameB kind c l c.blocks).flatMap bc) → ∀ rb z, rb = y.heap.size → Blk z rb (rsv 0 sn0 nilS).toArray t_api_Result → Grow y z →
        ∃ n11 : Int, z.cell? ((⟨cb, 0, none⟩ : Addr).add 2) = some (.int .u64 n11) ∧ ∃ b4 : Bool, z.cell? ((⟨cb, 0, none⟩ : Addr).add 5) = some (.bool b4) ∧ ∃ n12 : Int, ((!b4) = true → z.cell? ((⟨cb, 0, none⟩ : Addr).add 0) = some (.int .u8 n12)) ∧
          Csbc_Dev_write (some ⟨dv, 0, none⟩) n11 xs (b4 || (n12 == 9)) z fun g11 w029 => RunU Tryd.prog (storeVar t_api_Result ⟨ab, 0, none⟩ (.agg g11)) w029 fun w030 => ∃ res7 : Array Value, (loadVar t_api_Result ⟨ab, 0, none⟩).run Tryd.prog w030 = .ok (.agg res7) w030 ∧ R res7 w030 := by
      intro xs y hy hm1 hm2 hck hown rb z hrb hbz hyz
      have hvz := hy.trans hyz
      have hcz : Blk z cb (cmv c).toArray t_api_Cmd := hvz.heap hc3 (fun q => q)
      refine ⟨(c.lba : Int), by rw [add0, hcz.cell]; rfl, c.fua, by rw [add0, hcz.cell]; rfl, (c.kind : Int), fun _ => by rw [add0, hcz.cell]; rfl, ?_⟩
      have e9 : ((c.kind : Int) == 9) = decide (c.kind = 9) := by
        rw [Bool.eq_iff_iff, beq_iff_eq, decide_eq_true_eq]; omega
      rw [e9]
      have hLl := cameB_len (kind := kind) hm2
      have hz := h3.grow hvz
      have lD := fun k (q : D k) => h.isW.lt q
      have svz := hvz.size
      refine dev_write_spec (L := cameB kind c l c.blocks) hz hm (by omega) (fun z' hk' => ?_) fun z2 D2 hk2 hd2 hD2 => ?_
      · have ho : Own z' v.heap.size t_api_Block 19 xs ((cameB kind c l c.blocks).flatMap bc) := (hown.grow hyz).keep hk' fun b hbb q => by
          have := ((hown.grow hyz).ge b hbb).1
          have := lD _ q
          have := hgw3.size
          omega
        exact ho.rd (by have := ho.len; rw [flat_bc_len] at this; omega)
      · rw [hLl] at hd2
        have hbz2 : Blk z2 ab z10 t_api_Result := hk2.heap (hvz.heap hb3 (fun q => q)) nab
        have nab2 : ¬ D2 ab := fun q => by
          rcases hD2 _ q with r | r
          · exact nab r
          · have := lt_of_heap hb3; omega
        refine ret_rule (st := 0) (s := sn0) (d := nilS) hbz2 rfl fun z3 hk3 => ?_
        have hkD : Keep D w z2 := ((hgw3.trans hvz).mono fun _ _ q => q.elim).trans hk2 fun _ _ q => q
        have s3 := hgw3.size
        refine h8 hkn k89 hlb8 hm1 hm2 hck z3 D2 (keepD_new hkD (by omega) hk3) ?_ (fun k q => ?_)
        · exact hd2.put hbz2 tne_result (by decide) (by decide) nab2 hk3
        · rcases hD2 k q with r | r
          · exact .inl r
          · exact .inr (by omega)
    refine dev_come_spec (N := c.blocks) h3.dev (hp.grow hgw3) hb (by omega) (by omega) (fun q y hy => ?_) (fun q1 q2 q3 xs y hy hown => ?_) (fun q1 q2 q3 q4 xs y hy hown => ?_) (fun q1 q2 q3 i hi hz hall y hy => ?_)
    · refine new_rule fun rb w5 hrb hb5 hg5 hsz5 => lay_rule hb5 rfl fun w6 hb6 hk6 hsz6 => br_t rfl ?_
      exact after hy (h8l hkn k89 hlb8 q) rb w6 hrb hb6 (hg5.keep hk6 fun i hi q => by omega)
    · refine new_rule fun rb w5 hrb hb5 hg5 hsz5 => lay_rule hb5 rfl fun w6 hb6 hk6 hsz6 => br_f rfl ?_
      have e0 : decide (c.prot ≠ 0) = false := by simpa using q3
      refine okw xs y hy (by rw [e0]; exact q1) (by rw [e0]; exact q2) (fun e => absurd q3 e) ?_ rb w6 hrb hb6 (hg5.keep hk6 fun i hi q => by omega)
      unfold cameB; rw [if_pos q3]; exact hown
    · refine new_rule fun rb w5 hrb hb5 hg5 hsz5 => lay_rule hb5 rfl fun w6 hb6 hk6 hsz6 => br_f rfl ?_
      have e0 : decide (c.prot ≠ 0) = true := by simpa using q3
      refine okw xs y hy (by rw [e0]; exact q1) (by rw [e0]; exact q2) (fun _ => q4) ?_ rb w6 hrb hb6 (hg5.keep hk6 fun i hi q => by omega)
      unfold cameB; rw [if_neg q3]; exact hown
    · refine new_rule fun rb w5 hrb hb5 hg5 hsz5 => lay_rule hb5 rfl fun w6 hb6 hk6 hsz6 => br_t rfl ?_
      exact after hy (h8b hkn k89 hlb8 q3 q1 q2 i hi hz hall) rb w6 hrb hb6 (hg5.keep hk6 fun i hi q => by omega)
  refine br_f (by cases hxx : x with | false => rfl | true => exact absurd (hx.1 hxx) k89) ?_
  refine br_eq (fun k => ⟨_, cl, ?_⟩) (fun k10 => br_eq (fun k => ?_) (fun k11 => br_eq (fun k => ⟨_, cl, ?_⟩) (fun k12 => br_eq (fun k => ?_) (fun k13 => br_eq (fun k => ⟨_, cl, ?_⟩) (fun k14 => br_eq (fun k => ⟨_, cl, ?_⟩) (fun k6 => J v ⟨rfl, by omega, by omega, by omega, by omega, by omega, by omega, by omega, by omega, by omega⟩))))))
  · exact callK1_mono (hpt.1 (by omega)) fun g y hy => hy.ret hb3 nab
  · have k11' : c.kind = 11 := by omega
    refine ⟨rfl, some ⟨ps, 0, none⟩, dev0 h3.dev, ?_⟩
    refine store_sync_spec h3.isS h3.nps h3.isW h.ok (by omega) (by omega) fun y D2 hk2 hw2 hD2 hS2 => br_f rfl (good_spec fun z hz => ?_)
    have nab2 : ¬ D2 ab := fun q => by
      rcases hD2 _ q with r | r
      · exact nab r
      · have := lt_of_heap hb3; omega
    have hbz : Blk z ab z10 t_api_Result := hz.heap (hk2.heap hb3 nab) (fun q => q)
    refine ret_rule (st := 0) (s := sn0) (d := nilS) hbz rfl fun z2 hk3 => ?_
    have hkD : Keep D w y := (hgw3.mono fun _ _ q => q.elim).trans hk2 fun _ _ q => q
    have s3 := hgw3.size
    have hDD : ∀ k, D2 k → D k ∨ w.heap.size ≤ k := fun k q => by
      rcases hD2 k q with r | r
      · exact .inl r
      · exact .inr (by omega)
    have hdy : Dv y dv ps pw file kind n cache D2 (synced st) bs (m + 1) := h.step hkD hw2 hDD (fun c hc => by cases hc) h.tells h.len (by
      show st.ops + 1 ≤ _ ∧ 0 ≤ _
      omega)
    exact h11 hkn k11' (by omega) z2 D2 (keepD_new (hkD.grow hz) (by omega) hk3) ((hdy.grow hz).put hbz tne_result (by decide) (by decide) nab2 hk3) hDD
  · exact callK1_mono (hpt.2.1 (by omega)) fun g y hy => hy.ret hb3 nab
  · exact callK1_mono (hpt.2.2.1 (by omega)) fun g y hy => hy.ret hb3 nab
  · exact callK1_mono (hpt.2.2.2.1 (by omega)) fun g y hy => hy.ret hb3 nab
  · exact callK1_mono (hpt.2.2.2.2 (by omega)) fun g y hy => hy.ret hb3 nab
end
end Go.Proofs.YtaneeadpjelomaaDoor

/- Layer 14: blocks compared. -/
namespace Go.Proofs.YtaneeadpjelomaaDoor
open Go CF

def firstNe (X Y : L8) : Option Nat := (List.range X.length).find? fun i => decide (X.getD i 0 ≠ Y.getD i 0)
def dif (X Y : L8) : Int := match firstNe X Y with | some i => (i : Int) | none => -1
theorem firstNe_none {X Y : L8} (h : ∀ i, i < X.length → X.getD i 0 = Y.getD i 0) : firstNe X Y = none := by
  unfold firstNe
  rw [List.find?_eq_none]
  intro i hi
  rw [h i (List.mem_range.1 hi)]; simp
theorem firstNe_some {X Y : L8} {i : Nat} (hi : i < X.length) (h : ∀ j, j < i → X.getD j 0 = Y.getD j 0) (hne : X.getD i 0 ≠ Y.getD i 0) : firstNe X Y = some i := by
  unfold firstNe
  rw [List.find?_eq_some_iff_append]
  refine ⟨by simpa using hne, List.range i, (List.range (X.length - i - 1)).map (fun k => i + 1 + k), ?_, fun j hj => ?_⟩
  · have e : X.length = i + (1 + (X.length - i - 1)) := by omega
    conv => lhs; rw [e, List.range_add, List.range_add]
    simp [List.map_map, Nat.add_assoc, Function.comp_def]
  · have := h j (List.mem_range.1 hj)
    rw [decide_eq_false (by simpa using this)]; rfl
theorem dif_none {X Y : L8} (h : firstNe X Y = none) : dif X Y = -1 := by unfold dif; rw [h]
theorem dif_some {X Y : L8} {i : Nat} (h : firstNe X Y = some i) : dif X Y = (i : Int) := by unfold dif; rw [h]
theorem rd_at {w : World} {s : Sl} {l : L8} (h : Rd w 1 s (bv l)) {i : Nat} (hi : i < l.length) : s.A.isSome = true ∧ w.cell? ((gA s.A).add (i * 1)) = some (.int .u8 ((l.getD i 0).toNat : Int)) := by
  obtain ⟨a, ha, hc⟩ := h.byte (i := i) (by rw [← rd_n' h]; exact hi)
  rw [ha]
  refine ⟨rfl, ?_⟩
  rw [List.getD_eq_getElem?_getD, List.getElem?_eq_getElem hi]
  exact hc
theorem differ_spec {a b : Sl} {A B : List Bk} {w : World} {R : Int → World → Prop} (ha : Rd w 19 a (A.flatMap bc)) (hb : Rd w 19 b (B.flatMap bc)) (hA : A.length ≤ 4096) (hB : B.length ≤ 4096) (hl : A.length ≤ B.length)
    (h : ∀ u, Grow w u → R (dif (packB false A) (packB false B)) u) : Csbc_differ a b w R := by
  refine Fsbc_differ.calls _ _ _ _ ?_
  refine pack_spec ha hA fun s1 w1 hown1 hg1 => ?_
  refine pack_spec (hb.grow hg1) hB fun s2 w2 hown2 hg2 => ?_
  have hXl := packB_len false A
  have hYl := packB_len false B
  have e16 : szB false = 16 := rfl
  rw [e16] at hXl hYl
  generalize packB false A = X at *
  generalize packB false B = Y at *
  have hr1 : ∀ v, Grow w2 v → Rd v 1 s1 (bv X) := fun v hv => ((hown1.grow hg2).grow hv).rd (by rw [own_n' hown1]; omega)
  have hr2 : ∀ v, Grow w2 v → Rd v 1 s2 (bv Y) := fun v hv => (hown2.grow hv).rd (by rw [own_n' hown2]; omega)
  have hn1 := own_n' hown1
  have hn2 := own_n' hown2
  refine ⟨fun x v => ∃ j : Nat, x = j ∧ j ≤ X.length ∧ Grow w2 v ∧ ∀ i, i < j → X.getD i 0 = Y.getD i 0, fun x _ => X.length - x.toNat, ⟨0, rfl, Nat.zero_le _, Keep.refl _ _, fun _ q => absurd q (Nat.not_lt_zero _)⟩, ?_⟩
  rintro x v ⟨j, rfl, hj, hgv, hall⟩
  refine br_nat (fun hlt => ?_) (fun hge => ?_)
  · have hjX : j < X.length := by omega
    have hjY : j < Y.length := by omega
    rintro w3 rfl
    have hg3 : Grow w2 v.drew := hgv.trans (keep_drew v)
    refine ⟨fun y => Grow w2 y, hg3, ⟨by omega, by omega, (rd_at (hr1 v hgv) hjX).1⟩, _, fun y hy => by rw [Int.toNat_natCast]; exact (rd_at (hr1 y hy) hjX).2, ⟨by omega, by omega, (rd_at (hr2 v hgv) hjY).1⟩, _, fun y hy => by rw [Int.toNat_natCast]; exact (rd_at (hr2 y hy) hjY).2, ?_⟩
    refine br_ne (fun q => ?_) (fun q => ?_)
    · have := h v.drew ((hg1.trans hg2).trans hg3)
      unfold dif at this
      rw [firstNe_some hjX hall (fun e => q (by rw [e]))] at this
      exact this
    · rw [w64 (by omega) (by omega)]
      refine ⟨⟨j + 1, by omega, by omega, hg3, fun i hi => ?_⟩, by dsimp only; omega⟩
      by_cases e : i = j
      · subst e; exact UInt8.toNat_inj.1 (by omega)
      · exact hall i (by omega)
  · have := h v ((hg1.trans hg2).trans hgv)
    unfold dif at this
    rw [firstNe_none (fun i hi => hall i (by omega))] at this
    exact this
section
variable {w u : World} {dv ps pw : Nat} {file : ByteArray} {kind n : Nat} {cache : Bool} {D D' : Nat → Prop} {st st' : Wst} {bs bs' : List Bk} {m m' : Nat}
theorem dev_verify_spec {c : Cm} {p : Sl} {l : L8} {K : Array Value → World → Prop} (h : Dv w dv ps pw file kind n cache D st bs m) (hm : m ≤ 1000000) (hp : Rd w 1 p (bv l)) (hb : p.n ≤ 140737488351232) (hc : c.lba + c.blocks ≤ n)
    (k1 : c.bytes = true → (l.length % szB (decide (c.prot ≠ 0)) ≠ 0 ∨ l.length / szB (decide (c.prot ≠ 0)) ≠ c.blocks) → ∀ u, Grow w u → K (rsv 2 (badS 0x1a00) nilS).toArray u)
    (k2 : ∀ i (hi : i < ((bs.drop c.lba).take c.blocks).length), chkB kind c.prot (c.lba + i) ((bs.drop c.lba).take c.blocks)[i] ≠ 0 → ∀ u, Keep D w u → IsW u pw D { st with ops := st.ops + c.blocks } →
      K (rsv 2 (atS 11 (chkB kind c.prot (c.lba + i) ((bs.drop c.lba).take c.blocks)[i]) (c.lba + i)) nilS).toArray u)
    (k3 : (∀ i (hi : i < ((bs.drop c.lba).take c.blocks).length), chkB kind c.prot (c.lba + i) ((bs.drop c.lba).take c.blocks)[i] = 0) → c.bytes = true → ∀ i, firstNe (packB false ((bs.drop c.lba).take c.blocks)) (packB false (unpB (decide (c.prot ≠ 0)) l)) = some i → ∀ u, Keep D w u → IsW u pw D { st with ops := st.ops + c.blocks } →
      K (rsv 2 (atS 14 0x1d00 i) nilS).toArray u)
    (k4 : (∀ i (hi : i < ((bs.drop c.lba).take c.blocks).length), chkB kind c.prot (c.lba + i) ((bs.drop c.lba).take c.blocks)[i] = 0) → (c.bytes = true → firstNe (packB false ((bs.drop c.lba).take c.blocks)) (packB false (unpB (decide (c.prot ≠ 0)) l)) = none) → ∀ u, Keep D w u → IsW u pw D { st with ops := st.ops + c.blocks } →
      K (rsv 0 sn0 nilS).toArray u) : Csbc_Dev_verify (some ⟨dv, 0, none⟩) (cmv c).toArray p w K := by
  refine Fsbc_Dev_verify.calls _ _ _ _ _ ?_
  have hsz := h.size
  have hlen := h.len
  refine new_rule fun cb w0 hcb hb0 hg0 hsz0 => ?_
  have hb0 : Blk w0 cb (cmv c).toArray t_api_Cmd := hb0
  refine new_rule fun ab w1 hab hb1 hg1 hsz1 => ?_
  have hb1 : Blk w1 ab z10 t_api_Result := hb1
  have hgw1 := hg0.trans hg1
  have hc1 : Blk w1 cb (cmv c).toArray t_api_Cmd := hg1.heap hb0 (fun q => q)
  have nab : ¬ D ab := fun q => by have := h.isW.lt q; omega
  have ncb : ¬ D cb := fun q => by have := h.isW.lt q; omega
  have sw := hg0.size
  have hLl : ((bs.drop c.lba).take c.blocks).length = c.blocks := by rw [List.length_take, List.length_drop]; omega
  generalize hL : (bs.drop c.lba).take c.blocks = L at *
  refine ⟨c.bytes, by rw [add0, hc1.cell]; rfl, ?_⟩
  generalize hwt : decide (c.prot ≠ 0) = wt at *
  refine letX1 (fun came v => Grow w1 v ∧ (c.bytes = true → l.length / szB wt = c.blocks ∧ Own v w.heap.size t_api_Block 19 came ((unpB wt l).flatMap bc))) ?_ (fun J => ?_)
  · rintro came v ⟨hgv, hcame⟩
    have hcv := hgv.heap hc1 (fun q => q)
    have hav := hgv.heap hb1 (fun q => q)
    have hwv := hgw1.trans hgv
    refine ⟨_, cLoad (blk_cells hcv), ?_⟩
    refine dev_read_spec (h.grow hwv) hm hc (fun hchk xs w4 hk4 hr4 hown4 => ?_) (fun i hi hz w4 hk4 hr4 => ?_)
    · have hw4 := hr4.isW (h.grow hwv).isW
      refine new_rule fun rb w5 hrb hb5 hg5 hsz5 => lay_rule hb5 rfl fun w6 hb6 hk6 hsz6 => br_f rfl ?_
      have hg46 : Grow w4 w6 := hg5.keep hk6 fun i hi q => by omega
      have hc6 : Blk w6 cb (cmv c).toArray t_api_Cmd := hg46.heap (hk4.heap hcv ncb) (fun q => q)
      have ha6 : Blk w6 ab z10 t_api_Result := hg46.heap (hk4.heap hav nab) (fun q => q)
      rw [hL] at hchk hown4
      have hkD6 : Keep D w w6 := ((hwv.mono fun _ _ q => q.elim).trans hk4 fun _ _ q => q).grow hg46
      have s4 := hk4.size
      have swv := hwv.size
      refine ⟨c.bytes, by rw [add0, hc6.cell]; rfl, ?_⟩
      refine letX0 (fun y => Grow w6 y ∧ (c.bytes = true → firstNe (packB false L) (packB false (unpB wt l)) = none)) ?_ (fun J2 => ?_)
      · rintro y ⟨hgy, hno⟩
        refine good_spec fun z hz => ?_
        have haz := (hgy.trans hz).heap ha6 (fun q => q)
        refine ret_rule (st := 0) (s := sn0) (d := nilS) haz rfl fun z2 hk2 => ?_
        exact k4 hchk hno z2 (keepD_new ((hkD6.grow hgy).grow hz) (by omega) hk2) (isW_new ((((hw4.grow hg46).grow hgy)).grow hz) haz tne_result nab hk2)
      · by_cases hby : c.bytes = true
        · refine br_t hby ?_
          obtain ⟨hdv, hcame⟩ := hcame hby
          have hUl : (unpB wt l).length = c.blocks := by rw [unpB_len]; exact hdv
          have hown6 := hown4.grow hg46
          have hcame6 : Own w6 w.heap.size t_api_Block 19 came ((unpB wt l).flatMap bc) := (hcame.keep hk4 fun b hbb q => by
            have := (hcame.ge b hbb).1
            have := h.isW.lt q
            omega).grow hg46
          refine differ_spec (hown6.rd (by have := hown6.len; rw [flat_bc_len] at this; omega)) (hcame6.rd (by have := hcame6.len; rw [flat_bc_len] at this; omega)) (by omega) (by omega) (by omega) fun y hy => ?_
          cases hf : firstNe (packB false L) (packB false (unpB wt l)) with
          | none => rw [dif_none hf]; exact br_f (by rw [decide_eq_false_iff_not]; omega) (J2 y ⟨hy, fun _ => hf⟩)
          | some i =>
            rw [dif_some hf]
            have hil : i < 65536 + 1 := by
              have := List.mem_of_find?_eq_some hf
              rw [List.mem_range, packB_len] at this
              have e16 : szB false = 16 := rfl
              rw [e16] at this
              omega
            refine br_t (by rw [decide_eq_true_eq]; omega) ?_
            rw [wu64 (by omega) (by omega)]
            refine at_spec (key := 14) (code := 0x1d00) (info := i) fun z hz => ?_
            have haz := (hy.trans hz).heap ha6 (fun q => q)
            refine ret_rule haz rfl fun z2 hk2 => ?_
            exact k3 hchk hby i hf z2 (keepD_new ((hkD6.grow hy).grow hz) (by omega) hk2) (isW_new ((((hw4.grow hg46).grow hy)).grow hz) haz tne_result nab hk2)
        · exact br_f (by simpa using hby) (J2 w6 ⟨Keep.refl _ _, fun q => absurd q hby⟩)
    · have hw4 := hr4.isW (h.grow hwv).isW
      refine new_rule fun rb w5 hrb hb5 hg5 hsz5 => lay_rule hb5 rfl fun w6 hb6 hk6 hsz6 => br_t rfl ⟨_, rLoad (blk_cells hb6), ?_⟩
      have hg46 : Grow w4 w6 := hg5.keep hk6 fun i hi q => by omega
      have ha6 : Blk w6 ab z10 t_api_Result := hg46.heap (hk4.heap hav nab) (fun q => q)
      refine ret_rule ha6 rfl fun w7 hk7 => ?_
      have swv := hwv.size
      have := k2 i (by rw [← hL]; exact hi) (by simp only [← hL]; exact hz) w7 (keepD_new (((hwv.mono fun _ _ q => q.elim).trans hk4 fun _ _ q => q).grow hg46) (by omega) hk7) (isW_new (hw4.grow hg46) ha6 tne_result nab hk7)
      simp only [← hL] at this
      exact this
  · by_cases hby : c.bytes = true
    · refine br_t hby ⟨(c.prot : Int), by rw [add0, hc1.cell]; rfl, ?_⟩
      have ew : ((c.prot : Int) != 0) = wt := by rw [← hwt, Bool.eq_iff_iff, bne_iff_ne, decide_eq_true_eq]; omega
      rw [ew]
      have hln := rd_n' hp
      have hUl : (unpB wt l).length = l.length / szB wt := unpB_len wt l
      have hs16 : 16 ≤ szB wt := by unfold szB; split <;> decide
      have hdiv : l.length / szB wt ≤ l.length := Nat.div_le_self _ _
      have bad : ∀ y, Grow w1 y → (l.length % szB wt ≠ 0 ∨ l.length / szB wt ≠ c.blocks) → Csbc_length y fun g5 w014 => RunU Tryd.prog (storeVar t_api_Result ⟨ab, 0, none⟩ (.agg g5)) w014 fun w015 => ∃ res3 : Array Value, (loadVar t_api_Result ⟨ab, 0, none⟩).run Tryd.prog w015 = .ok (.agg res3) w015 ∧ K res3 w015 := fun y hy hq =>
        length_spec fun z hz => ret_rule ((hy.trans hz).heap hb1 (fun q => q)) rfl fun z2 hk2 => k1 hby hq z2 (grow_new ((hgw1.trans hy).trans hz) (by omega) hk2)
      refine unpack_spec (hp.grow hgw1) hb (fun q => ⟨0, fun e => by simp at e, br_t rfl (bad w1 (Keep.refl _ _) (.inl q))⟩) fun hm0 xs y hy hown => ?_
      have hcy := hy.heap hc1 (fun q => q)
      refine ⟨(c.blocks : Int), fun _ => by rw [add0, Blk.cell hcy]; rfl, ?_⟩
      have hxn : xs.n = (unpB wt l).length := by have := hown.len; rw [flat_bc_len] at this; omega
      rw [wu64 (n := (xs.n : Int)) (by omega) (by omega)]
      by_cases hN : l.length / szB wt = c.blocks
      · exact br_f (by rw [Bool.or_eq_false_iff, bne_eq_false_iff_eq]; exact ⟨rfl, by omega⟩) (J xs y ⟨hy, fun _ => ⟨hN, hown.mono hgw1.size⟩⟩)
      · exact br_t (by rw [Bool.or_eq_true, bne_iff_ne]; right; omega) (bad y hy (.inr hN))
    · exact br_f (by simpa using hby) (J nilS w1 ⟨Keep.refl _ _, fun q => absurd q hby⟩)
end
end Go.Proofs.YtaneeadpjelomaaDoor

/- Layer 15: what the parts of Parse compute, in the program and in its reference. -/
namespace Go.Proofs.YtaneeadpjelomaaDoor
open Go CF

theorem str_extract' (l : L8) (i j : Nat) : (str l).extract i j = str ((l.take j).drop i) := by
  have : ((str l).extract i j).data.toList = (str ((l.take j).drop i)).data.toList := by
    simp [str, ByteArray.data_extract, List.extract_eq_take_drop, List.drop_take]
  exact ByteArray.ext (Array.toList_inj.1 this)
theorem str_size (l : L8) : (str l).size = l.length := by simp [str, ByteArray.size]
theorem snv_ones (s : Sn) : (snv s).toArray.all (·.oneCell') = true := by simp [snv, Value.oneCell']
theorem trimByte_spec {l : L8} {w : World} {R : ByteArray → World → Prop} (hl : l.length ≤ 1000000) (h : R (str (trimR l)) w) : Cstrings_trimRightByte (str l) 32 w R := by
  refine Fstrings_trimRightByte.calls _ _ _ _ ?_
  refine ⟨fun s1 x => ∃ l1 : L8, s1 = str l1 ∧ x = w ∧ trimR l1 = trimR l ∧ l1.length ≤ 1000000, fun s1 _ => s1.size, ⟨l, rfl, rfl, rfl, hl⟩, ?_⟩
  rintro s1 x ⟨l1, rfl, rfl, ht, hl1⟩
  have hsz : (str l1).size = l1.length := str_size l1
  rcases List.eq_nil_or_concat l1 with rfl | ⟨r, b, rfl⟩
  · refine ⟨fun q => ?_, br_f ?_ ?_⟩
    · rw [decide_eq_true_eq, hsz] at q; simp at q
    · rw [Bool.and_eq_false_iff]; left; rw [decide_eq_false_iff_not, hsz]; simp
    · rw [← ht] at h; exact h
  · rw [List.concat_eq_append] at ht hl1 hsz ⊢
    have hlen : (r ++ [b]).length = r.length + 1 := by simp
    rw [hsz, hlen]
    have e1 : IntKind.wrap .i64 (((r.length + 1 : Nat) : Int) - 1) = ((r.length : Nat) : Int) := by rw [w64 (by omega) (by omega)]; omega
    rw [e1]
    have hb : bt (str (r ++ [b])) (r.length : Int) = (b.toNat : Int) := by
      rw [bt_get _ _ (by rw [ls_str]; simp)]
      simp [ls_str]
    refine ⟨fun _ => by omega, ?_⟩
    rw [hb]
    rw [trimR_snoc] at ht
    by_cases q : b = 32
    · rw [if_pos q] at ht
      refine br_t (by rw [Bool.and_eq_true, decide_eq_true_eq, beq_iff_eq, q]; exact ⟨by omega, rfl⟩) ⟨by omega, ?_⟩
      rw [Int.toNat_natCast, str_extract', List.drop_zero, List.take_append_of_le_length (Nat.le_refl _), List.take_length]
      exact ⟨⟨r, rfl, rfl, ht, by omega⟩, by show (str r).size < (str (r ++ [b])).size; rw [hsz, hlen, str_size]; omega⟩
    · rw [if_neg q] at ht
      refine br_f (by rw [Bool.and_eq_false_iff]; right; rw [beq_eq_false_iff_ne]; intro e; exact q (UInt8.toNat_inj.1 (by show b.toNat = 32; omega))) ?_
      rw [ht]; exact h
theorem trimRight_spec {l : L8} {w : World} {R : ByteArray → World → Prop} (hl : l.length ≤ 1000000) (h : R (str (trimR l)) w) : Cstrings_TrimRight (str l) s_x20 w R := by
  refine Fstrings_TrimRight.calls _ _ _ _ ?_
  have e2 : sEq s_x20 ⟨#[]⟩ = false := by
    show sEq (str [32]) (str []) = false
    rw [sEq_str]; rfl
  have e3 : ((s_x20.size : Int) == 1) = true := by decide
  have e4 : decide ((bt s_x20 0) < 128) = true := by decide
  have e5 : bt s_x20 0 = 32 := by decide
  by_cases q : l = []
  · subst q
    exact br_t (by rw [str_nil, sEq_str]; simp) h
  · refine br_f (by rw [e2, Bool.or_false, str_nil, sEq_str]; simpa using q) ⟨fun _ => by decide, br_t (by rw [e3, e4]; rfl) ⟨by decide, ?_⟩⟩
    rw [e5]
    exact trimByte_spec hl h
theorem number_spec {p : Sl} {l : L8} {at_ n : Nat} {w : World} {R : Int → World → Prop} (hp : Rd w 1 p (bv l)) (hn : 1 ≤ n) (hn7 : n ≤ 7) (hat : at_ + n ≤ l.length) (h : R ((num (sub l at_ n) : Nat) : Int) w) : Cxcopy_number p (at_ : Int) (n : Int) w R := by
  refine Fxcopy_number.calls _ _ _ _ _ ?_
  refine get_spec hp hp.nb hn (by omega) hat ?_
  have hlt := num_small (l := (l.drop at_).take n) (j := n) (by rw [List.length_take, List.length_drop]; omega) hn7
  rw [w64 (by omega) (by omega)]
  exact h
theorem sret_rule {w : World} {a : Nat} {old : Array Value} {s : Sn} {K : Array Value → World → Prop} (hb : Blk w a old t_api_Sense) (ho : old.size = 8)
    (h : ∀ w', Keep (fun k => k = a) w w' → K (snv s).toArray w') :
    RunU Tryd.prog (storeVar t_api_Sense ⟨a, 0, none⟩ (.agg (snv s).toArray)) w fun w' => ∃ res : Array Value, (loadVar t_api_Sense ⟨a, 0, none⟩).run Tryd.prog w' = .ok (.agg res) w' ∧ K res w' :=
  storeVar_rule (cells := (snv s).toArray) hb i_api_Sense rfl ho (snv_ones _) fun w1 hb1 hk1 _ => ⟨_, sLoad (blk_cells hb1), h w1 hk1⟩
theorem bad_neg {code : Nat} {w : World} {R : Array Value → World → Prop} (h : ∀ v, Grow w v → R (snv (badS code)).toArray v) : Cxcopy_bad (code : Int) (-1) w R := by
  refine Fxcopy_bad.calls _ _ _ _ ?_
  refine new_rule fun ab w0 hab hb0 hg0 hsz0 => ?_
  refine new_rule fun sb w1 hsb hb1 hg1 hsz1 => ?_
  refine storeVar_rule (cells := (snv (badS code)).toArray) hb1 i_api_Sense rfl rfl (snv_ones _) fun w2 hb2 hk2 _ => ?_
  have s0 := hg0.size
  have hg2 : Grow w0 w2 := hg1.keep hk2 fun i hi q => by omega
  exact br_f rfl ⟨_, sLoad (blk_cells hb2), sret_rule (hg2.heap hb0 (fun q => q)) rfl fun w3 hk3 => h w3 (grow_new (hg0.trans hg2) (by omega) hk3)⟩
theorem bad_pos {f : Nat} {w : World} {R : Array Value → World → Prop} (h : ∀ v, Grow w v → R (snv (badF f)).toArray v) : Cxcopy_bad 9728 (f : Int) w R := by
  refine Fxcopy_bad.calls _ _ _ _ ?_
  refine new_rule fun ab w0 hab hb0 hg0 hsz0 => ?_
  refine new_rule fun sb w1 hsb hb1 hg1 hsz1 => ?_
  refine storeVar_rule (cells := (snv (badS 9728)).toArray) hb1 i_api_Sense rfl rfl (snv_ones _) fun w2 hb2 hk2 _ => ?_
  have s0 := hg0.size
  refine br_t (by rw [decide_eq_true_eq]; omega) ?_
  rw [add0, add0, add0]
  refine put_rule hb2 (by show 4 < 8; decide) rfl fun w3 hb3 hk3 _ => ?_
  refine put_rule hb3 (by show 5 < 8; decide) rfl fun w4 hb4 hk4 _ => ?_
  refine put_rule hb4 (by show 6 < 8; decide) rfl fun w5 hb5 hk5 _ => ?_
  have hb5 : Blk w5 sb (snv (badF f)).toArray t_api_Sense := hb5
  have hg5 : Grow w0 w5 := (((hg1.keep hk2 fun i hi q => by omega).keep hk3 fun i hi q => by omega).keep hk4 fun i hi q => by omega).keep hk5 fun i hi q => by omega
  exact ⟨_, sLoad (blk_cells hb5), sret_rule (hg5.heap hb0 (fun q => q)) rfl fun w6 hk6 => h w6 (grow_new (hg0.trans hg5) (by omega) hk6)⟩
theorem fault_spec {f : Nat} {w : World} {R : Array Value → World → Prop} (h : ∀ v, Grow w v → R (snv (badF f)).toArray v) : Cpalletref15_fault (f : Int) w R := by
  refine Fpalletref15_fault.calls _ _ _ ?_
  refine new_rule fun ab w0 hab hb0 hg0 hsz0 => ?_
  exact sret_rule (s := badF f) hb0 rfl fun w3 hk3 => h w3 (grow_new hg0 (by omega) hk3)
theorem rtrim_spec {p : Sl} {l : L8} {w : World} {R : ByteArray → World → Prop} (hp : Rd w 1 p (bv l)) (hl : l.length ≤ 1000000) (h : R (str (trimR l)) w) : Cpalletref15_trim p w R := by
  refine Fpalletref15_trim.calls _ _ _ ?_
  have hln := rd_n' hp
  have hcap := hp.cap
  refine ⟨fun n x => ∃ k : Nat, n = k ∧ k ≤ l.length ∧ x = w ∧ trimR (l.take k) = trimR l, fun n _ => n.toNat, ⟨l.length, by rw [hln], Nat.le_refl _, rfl, by rw [List.take_length]⟩, ?_⟩
  rintro n x ⟨k, rfl, hk, rfl, ht⟩
  by_cases hk0 : k = 0
  · subst hk0
    refine ⟨fun q => by rw [decide_eq_true_eq] at q; omega, 0, fun q => by rw [decide_eq_true_eq] at q; omega, br_f rfl ⟨by omega, _, convStr_rule (s := ⟨cutA p.A p.c 0 1, ((0 : Nat) : Int).toNat - 0, p.c - 0⟩) u_sl_uint8 u_uint8 u_string (hp.cutB (l := 0) (k := 0) (Nat.le_refl _) (Nat.zero_le _)), ?_⟩⟩
    rw [← ht] at h
    exact h
  · obtain ⟨r, rfl⟩ : ∃ r, k = r + 1 := ⟨k - 1, by omega⟩
    have e1 : IntKind.wrap .i64 (((r + 1 : Nat) : Int) - 1) = (r : Int) := by rw [w64 (by omega) (by omega)]; omega
    rw [e1]
    obtain ⟨hA, hc⟩ := rd_at hp (i := r) (by omega)
    have hr : r < l.length := by omega
    have eg : l.getD r 0 = l[r] := by rw [List.getD_eq_getElem?_getD, List.getElem?_eq_getElem hr]; rfl
    have et : l.take (r + 1) = l.take r ++ [l[r]] := by rw [List.take_add_one, List.getElem?_eq_getElem hr]; rfl
    refine ⟨fun _ => ⟨by omega, by omega, hA⟩, _, fun _ => by rw [Int.toNat_natCast]; exact hc, ?_⟩
    rw [eg]
    rw [et, trimR_snoc] at ht
    by_cases q : l[r] = 32
    · rw [if_pos q] at ht
      refine br_t (by rw [Bool.and_eq_true, decide_eq_true_eq, beq_iff_eq, q]; exact ⟨by omega, rfl⟩) ⟨⟨r, rfl, by omega, rfl, ht⟩, by dsimp only; omega⟩
    · rw [if_neg q] at ht
      refine br_f (by rw [Bool.and_eq_false_iff]; right; rw [beq_eq_false_iff_ne]; intro e; exact q (UInt8.toNat_inj.1 (by show l[r].toNat = 32; omega))) ⟨by omega, str (l.take (r + 1)), ?_, ?_⟩
      · have := hp.cutB (l := 0) (k := r + 1) (Nat.zero_le _) (by omega)
        exact convStr_rule (s := ⟨cutA p.A p.c 0 1, ((r + 1 : Nat) : Int).toNat - 0, p.c - 0⟩) u_sl_uint8 u_uint8 u_string (by rw [Int.toNat_natCast]; exact this)
      · rw [et, ht]; exact h
end Go.Proofs.YtaneeadpjelomaaDoor

/- Layer 15: a unit's descriptor, and the head of parameters. -/
namespace Go.Proofs.YtaneeadpjelomaaDoor
open Go CF

theorem find_range_some {p : Nat → Bool} {n i : Nat} (hi : i < n) (h : ∀ j, j < i → p j = false) (hp : p i = true) : (List.range n).find? p = some i := by
  rw [List.find?_range_eq_some]
  exact ⟨hp, List.mem_range.2 hi, fun j hj => by rw [h j hj]; rfl⟩
theorem find_range_none {p : Nat → Bool} {n : Nat} (h : ∀ j, j < n → p j = false) : (List.range n).find? p = none := by
  rw [List.find?_range_eq_none]
  exact fun j hj => by rw [h j hj]; rfl
theorem sub_one {d : L8} {i : Nat} (h : i < d.length) : num (sub d i 1) = (d.getD i 0).toNat := by
  have e : sub d i 1 = [d[i]] := by unfold sub; rw [List.drop_eq_getElem_cons h]; rfl
  rw [e, List.getD_eq_getElem?_getD, List.getElem?_eq_getElem h]
  simp [num]
theorem front_lit (w : World) : (Instr.buildSlice 22 8 #[(0, .int .u8 228), (1, .int .u8 0), (2, .int .u8 0), (3, .int .u8 0), (4, .int .u8 2), (5, .int .u8 1), (6, .int .u8 0), (7, .int .u8 20)]).run Tryd.prog w = .ok (.slice (some ⟨w.heap.size, 0, none⟩) 8 8) (w.alloc (.cells (bv frontX).toArray t_uint8)) := by kernel_rfl
theorem unit_spec {p : Sl} {d : L8} {w : World} {R : ByteArray → Int → World → Prop} (hp : Rd w 1 p (bv d)) (hd : d.length = 32) (hB : ∀ f, unitBad d = some f → ∀ v, Grow w v → R ⟨#[]⟩ (f : Int) v) (hG : unitBad d = none → ∀ v, Grow w v → R (str (unitNm d)) (-1) v) : Cxcopy_unit p w R := by
  refine Fxcopy_unit.calls _ _ _ ?_
  have hln := rd_n' hp
  have hcap := hp.cap
  refine lit_rule (cells := (bv frontX).toArray) (e := t_uint8) (z := 1) (base := 0) (front_lit w) rfl (by decide) (Nat.zero_le _) fun w1 hlit1 hg1 _ => ?_
  have hp1 := hp.grow hg1
  have hx1 : Rd w1 1 _ (bv frontX) := hlit1.rd (by show 8 ≤ _; omega)
  refine ⟨fun x v => ∃ j : Nat, x = j ∧ j ≤ 8 ∧ v = w1 ∧ ∀ i, i < j → d.getD i 0 = frontX.getD i 0, fun x _ => 8 - x.toNat, ⟨0, rfl, Nat.zero_le _, rfl, fun _ q => absurd q (Nat.not_lt_zero _)⟩, ?_⟩
  rintro x v ⟨j, rfl, hj, rfl, hall⟩
  refine br_nat (y := 8) (fun hlt => ?_) (fun hge => ?_)
  · obtain ⟨a1, c1⟩ := rd_at hx1 (i := j) hlt
    obtain ⟨a2, c2⟩ := rd_at hp1 (i := j) (by omega)
    refine ⟨⟨by omega, by show (j : Int) < 8; omega, a1⟩, _, by rw [Int.toNat_natCast]; exact c1, ⟨by omega, by omega, a2⟩, _, by rw [Int.toNat_natCast]; exact c2, ?_⟩
    refine br_ne (fun e => hB j ?_ _ hg1) (fun e => ?_)
    · have : (List.range 8).find? (fun i => decide (d.getD i 0 ≠ frontX.getD i 0)) = some j := find_range_some hlt (fun i hi => decide_eq_false (fun q => q (hall i hi))) (decide_eq_true (fun q => e (by rw [q])))
      unfold unitBad; rw [this]
    · rw [w64 (by omega) (by omega)]
      refine ⟨⟨j + 1, by omega, by omega, rfl, fun i hi => ?_⟩, by dsimp only; omega⟩
      by_cases q : i = j
      · rw [q]; exact UInt8.toNat_inj.1 (by omega)
      · exact hall i (by omega)
  · have hnone : (List.range 8).find? (fun i => decide (d.getD i 0 ≠ frontX.getD i 0)) = none := find_range_none fun i hi => decide_eq_false (fun q => q (hall i (by omega)))
    have hub : unitBad d = if d.getD 28 0 ≠ 0 then some 28 else if num (sub d 29 3) ≠ 16 then some 29 else none := by unfold unitBad; rw [hnone]
    rw [hub] at hB hG
    refine number_spec (at_ := 28) (n := 1) hp1 (by decide) (by decide) (by omega) ?_
    rw [sub_one (by omega)]
    by_cases q : d.getD 28 0 = 0
    case neg =>
      refine br_t ?_ (hB 28 (if_pos q) _ hg1)
      rw [bne_iff_ne]
      intro e
      exact q (UInt8.toNat_inj.1 (by show (d.getD 28 0).toNat = 0; omega))
    rw [if_neg (fun r => r q)] at hB hG
    refine br_f (by rw [q]; rfl) ?_
    refine number_spec (at_ := 29) (n := 3) hp1 (by decide) (by decide) (by omega) ?_
    by_cases q2 : num (sub d 29 3) = 16
    case neg => exact br_t (by rw [bne_iff_ne]; omega) (hB 29 (if_pos q2) _ hg1)
    rw [if_neg (fun r => r q2)] at hB hG
    refine br_f (by rw [q2]; rfl) ⟨⟨by decide, by decide, by omega, hcap⟩, str (sub d 8 20), ?_, ?_⟩
    · exact convStr_rule (s := ⟨cutA p.A p.c 8 1, 28 - 8, p.c - 8⟩) u_sl_uint8 u_uint8 u_string (hp1.cutB (l := 8) (k := 28) (by decide) (by omega))
    · exact trimRight_spec (by rw [sub_len (by omega)]; decide) (hG rfl _ hg1)
end Go.Proofs.YtaneeadpjelomaaDoor

/- Layer 15: Parse, as the program has it. -/
namespace Go.Proofs.YtaneeadpjelomaaDoor
open Go CF

def lsv (U S : Sl) : Array Value := #[.slice U.A U.n U.c, .slice S.A S.n S.c]
def strsV (us : List L8) : List Value := us.map fun l => .string (str l)
theorem strsV_ones (us : List L8) : ∀ u ∈ strsV us, u.oneCell' = true := by
  intro u hu
  simp only [strsV, List.mem_map] at hu
  obtain ⟨l, _, rfl⟩ := hu; rfl
theorem sgv_ones (ss : List SegX) : ∀ u ∈ ss.flatMap sgv, u.oneCell' = true := by
  intro u hu
  simp only [List.mem_flatMap] at hu
  obtain ⟨x, _, hx⟩ := hu
  simp [sgv] at hx
  rcases hx with rfl | rfl | rfl | rfl | rfl <;> rfl
theorem str_lit (w : World) (s : ByteArray) : (Instr.buildSlice 24 1 #[(0, .string s)]).run Tryd.prog w = .ok (.slice (some ⟨w.heap.size, 0, none⟩) 1 1) (w.alloc (.cells #[.string s] t_string)) := by kernel_rfl
theorem seg_lit (w : World) (x : SegX) : (Instr.buildSlice 25 1 #[(0, .agg (sgv x).toArray)]).run Tryd.prog w = .ok (.slice (some ⟨w.heap.size, 0, none⟩) 1 1) (w.alloc (.cells (sgv x).toArray t_xcopy_Seg)) := by kernel_rfl
theorem segLoad {w : World} {a : Addr} {x : SegX} (h : Cells w a (sgv x)) : (loadVar t_xcopy_Seg a).run Tryd.prog w = .ok (.agg (sgv x).toArray) w := loadVar_rule g_xcopy_Seg i_xcopy_Seg rfl h
theorem lLoad {w : World} {b : Nat} {U S : Sl} (h : Blk w b (lsv U S) t_xcopy_List) : (loadVar t_xcopy_List ⟨b, 0, none⟩).run Tryd.prog w = .ok (.agg (lsv U S)) w := loadVar_rule (cs := (lsv U S).toList) g_xcopy_List i_xcopy_List rfl (blk_cells h)
theorem flat_len5 : ∀ ss : List SegX, (ss.flatMap sgv).length = 5 * ss.length
  | [] => rfl
  | x :: r => by rw [List.flatMap_cons, List.length_append, sgv_len, flat_len5 r, List.length_cons]; omega
/-- what Parse hands back is laid and read -/
theorem pret_rule {v : World} {ab sb : Nat} {old old' : Array Value} {U S : Sl} {s : Sn} {K : Array Value → Array Value → World → Prop} (ha : Blk v ab old t_xcopy_List) (hs : Blk v sb old' t_api_Sense) (h1 : old.size = 2) (h2 : old'.size = 8) (hne : ab ≠ sb)
    (h : ∀ v', Keep (fun k => k = ab ∨ k = sb) v v' → K (lsv U S) (snv s).toArray v') :
    RunU Tryd.prog (storeVar t_xcopy_List ⟨ab, 0, none⟩ (.agg (lsv U S))) v fun v1 => RunU Tryd.prog (storeVar t_api_Sense ⟨sb, 0, none⟩ (.agg (snv s).toArray)) v1 fun v2 =>
      ∃ res : Array Value, (loadVar t_xcopy_List ⟨ab, 0, none⟩).run Tryd.prog v2 = .ok (.agg res) v2 ∧ ∃ res1 : Array Value, (loadVar t_api_Sense ⟨sb, 0, none⟩).run Tryd.prog v2 = .ok (.agg res1) v2 ∧ K res res1 v2 := by
  refine storeVar_rule (cells := lsv U S) ha i_xcopy_List rfl h1 (by simp [lsv, Value.oneCell']) fun v1 hb1 hk1 _ => ?_
  refine storeVar_rule (cells := (snv s).toArray) (hk1.heap hs (fun q => hne q.symm)) i_api_Sense rfl h2 (snv_ones _) fun v2 hb2 hk2 _ => ?_
  exact ⟨_, lLoad (hk2.heap hb1 hne), _, sLoad (blk_cells hb2), h v2 ((hk1.mono fun _ _ q => .inl q).trans hk2 fun _ _ q => .inr q)⟩
theorem parse_spec {p : Sl} {l : L8} {w : World} {R : Array Value → Array Value → Bool → World → Prop} (hp : Rd w 1 p (bv l))
    (h : ∀ U S v, Grow w v → Own v w.heap.size t_string 1 U (strsV (parseX l).us) → Own v w.heap.size t_xcopy_Seg 5 S ((parseX l).ss.flatMap sgv) → R (lsv U S) (snv (parseX l).sn).toArray (parseX l).ok v) : Cxcopy_Parse p w R := by
  refine Fxcopy_Parse.calls _ _ _ ?_
  have hln := rd_n' hp
  have hcap := hp.cap
  have hnb := hp.nb
  refine new_rule fun ab w0 hab hb0 hg0 hsz0 => ?_
  refine new_rule fun sb w1 hsb hb1 hg1 hsz1 => ?_
  have ha1 := hg1.heap hb0 (fun q => q)
  have hgw1 := hg0.trans hg1
  have s0 := hg0.size
  have fin : ∀ {v : World} {U S : Sl} {s : Sn} {b : Bool}, Grow w1 v → (∀ v', Keep (fun k => k = ab ∨ k = sb) v v' → R (lsv U S) (snv s).toArray b v') → _ := fun {v U S s b} hv hR => pret_rule (U := U) (S := S) (s := s) (K := fun r r1 => R r r1 b) (hv.heap ha1 (fun q => q)) (hv.heap hb1 (fun q => q)) rfl rfl (by omega) hR
  have gk : ∀ {v v' : World}, Grow w1 v → Keep (fun k => k = ab ∨ k = sb) v v' → Grow w v' := fun hv k => (hgw1.trans hv).keep k fun i hi q => by omega
  have no : ∀ {v : World} {s : Sn}, parseX l = noX s → Grow w1 v → ∀ v', Keep (fun k => k = ab ∨ k = sb) v v' → R (lsv nilS nilS) (snv s).toArray false v' := fun {v s} e hv v' k => by
    have := h nilS nilS v' (gk hv k)
    rw [e] at this
    exact this (own_nil _ _ _ _) (own_nil _ _ _ _)
  by_cases hl0 : l = []
  · refine br_t (by rw [beq_iff_eq, ← hln, hl0]; rfl) (fin (U := nilS) (S := nilS) (s := sn0) (b := true) (Keep.refl _ _) fun v' k => ?_)
    have := h nilS nilS v' (gk (Keep.refl _ _) k)
    have e : parseX l = ⟨[], [], sn0, true⟩ := if_pos hl0
    rw [e] at this
    exact this (own_nil _ _ _ _) (own_nil _ _ _ _)
  have hlp : 0 < l.length := by cases l with | nil => exact absurd rfl hl0 | cons => simp
  refine br_f (by rw [beq_eq_false_iff_ne]; omega) ?_
  have hpx : parseX l = match headX l with
      | some s => noX s
      | none => match (List.range (nuX l / 32)).findSome? (uFault l) with
        | some f => noX (badF f)
        | none => match (List.range (nsX l / 28)).findSome? (sFault l) with
          | some f => noX (badF f)
          | none => ⟨unitsX l (nuX l / 32), segsX l (nsX l / 28), sn0, true⟩ := if_neg hl0
  have head : ∀ {s : Sn}, headX l = some s → parseX l = noX s := fun e => by rw [hpx, e]
  by_cases h16 : l.length < 16
  · have e : headX l = some (badS 0x1a00) := if_pos h16
    exact br_t (by rw [decide_eq_true_eq]; omega) (bad_neg (code := 6656) fun v hv => fin (U := nilS) (S := nilS) (s := badS 6656) (b := false) hv (no (head e) hv))
  refine br_f (by rw [decide_eq_false_iff_not]; omega) ?_
  have hx : headX l = if num (sub l 0 2) ≠ 0 then some (badF 0) else if num (sub l 4 4) ≠ 0 then some (badF 4) else if num (sub l 12 4) ≠ 0 then some (badF 12)
      else if nuX l % 32 ≠ 0 then some (badF 2) else if nsX l % 28 ≠ 0 then some (badF 8) else if l.length ≠ 16 + nuX l + nsX l then some (badS 0x1a00)
      else if 256 < nuX l ∨ 224 < nsX l then some (badS 0x2608) else none := if_neg h16
  have hp1 := hp.grow hgw1
  refine number_spec (at_ := 2) (n := 2) hp1 (by decide) (by decide) (by omega) ?_
  refine number_spec (at_ := 8) (n := 4) hp1 (by decide) (by decide) (by omega) ?_
  obtain ⟨a0, c0⟩ := rd_at hp1 (i := 0) (by omega)
  obtain ⟨a1, c1⟩ := rd_at hp1 (i := 1) (by omega)
  refine ⟨⟨by decide, by omega, a0⟩, _, c0, fun _ => ⟨by decide, by omega, a1⟩, _, fun _ => c1, ?_⟩
  have e02 : num (sub l 0 2) = (l.getD 0 0).toNat * 256 + (l.getD 1 0).toNat := by
    have e : sub l 0 2 = [l.getD 0 0, l.getD 1 0] := by
      match l, h16 with
      | a :: b :: r, _ => rfl
      | [a], q => exact absurd (show 1 < 16 by decide) q
      | [], q => exact absurd (show 0 < 16 by decide) q
    rw [e, num_two]
  have fail : ∀ {f : Nat}, headX l = some (badF f) → ∀ v, Grow w1 v → _ := fun {f} e v hv => fin (U := nilS) (S := nilS) (s := badF f) (b := false) hv (no (head e) hv)
  have lu := num_take (l.drop 2) 2
  have ls_ := num_take (l.drop 8) 4
  have hnu : num (sub l 2 2) = nuX l := rfl
  have hns : num (sub l 8 4) = nsX l := rfl
  have p2 : (256 : Nat) ^ 2 = 65536 := rfl
  have p4 : (256 : Nat) ^ 4 = 4294967296 := rfl
  rw [p2] at lu
  rw [p4] at ls_
  have lu : nuX l < 65536 := lu
  have ls_ : nsX l < 4294967296 := ls_
  rw [hnu, hns]
  by_cases q0 : num (sub l 0 2) = 0
  case neg => exact br_t (by rw [Bool.or_eq_true, bne_iff_ne, bne_iff_ne]; omega) (bad_pos (f := 0) (fail (by rw [hx, if_pos q0])))
  rw [if_neg (fun r => r q0)] at hx
  refine br_f (by rw [Bool.or_eq_false_iff, bne_eq_false_iff_eq, bne_eq_false_iff_eq]; omega) ?_
  refine number_spec (at_ := 4) (n := 4) hp1 (by decide) (by decide) (by omega) ?_
  by_cases q4 : num (sub l 4 4) = 0
  case neg => exact br_t (by rw [bne_iff_ne]; omega) (bad_pos (f := 4) (fail (by rw [hx, if_pos q4])))
  rw [if_neg (fun r => r q4)] at hx
  refine br_f (by rw [bne_eq_false_iff_eq]; omega) ?_
  refine number_spec (at_ := 12) (n := 4) hp1 (by decide) (by decide) (by omega) ?_
  by_cases q12 : num (sub l 12 4) = 0
  case neg => exact br_t (by rw [bne_iff_ne]; omega) (bad_pos (f := 12) (fail (by rw [hx, if_pos q12])))
  rw [if_neg (fun r => r q12)] at hx
  refine br_f (by rw [bne_eq_false_iff_eq]; omega) ⟨by decide, ?_⟩
  have m32 : ((nuX l : Int).tmod 32) = ((nuX l % 32 : Nat) : Int) := rfl
  have m28 : ((nsX l : Int).tmod 28) = ((nsX l % 28 : Nat) : Int) := rfl
  rw [m32, m28]
  by_cases q32 : nuX l % 32 = 0
  case neg => exact br_t (by rw [bne_iff_ne]; omega) (bad_pos (f := 2) (fail (by rw [hx, if_pos q32])))
  rw [if_neg (fun r => r q32)] at hx
  refine br_f (by rw [bne_eq_false_iff_eq]; omega) ⟨by decide, ?_⟩
  by_cases q28 : nsX l % 28 = 0
  case neg => exact br_t (by rw [bne_iff_ne]; omega) (bad_pos (f := 8) (fail (by rw [hx, if_pos q28])))
  rw [if_neg (fun r => r q28)] at hx
  have e16 : IntKind.wrap .i64 (16 + (nuX l : Int)) = ((16 + nuX l : Nat) : Int) := by rw [w64 (by omega) (by omega)]; omega
  have eAll : IntKind.wrap .i64 (((16 + nuX l : Nat) : Int) + (nsX l : Int)) = ((16 + nuX l + nsX l : Nat) : Int) := by rw [w64 (by omega) (by omega)]; omega
  rw [e16, eAll]
  refine br_f (by rw [bne_eq_false_iff_eq]; omega) ?_
  by_cases qL : l.length = 16 + nuX l + nsX l
  case neg => exact br_t (by rw [bne_iff_ne]; omega) (bad_neg (code := 6656) fun v hv => fin (U := nilS) (S := nilS) (s := badS 6656) (b := false) hv (no (head (by rw [hx, if_pos qL])) hv))
  rw [if_neg (fun r => r qL)] at hx
  refine br_f (by rw [bne_eq_false_iff_eq]; omega) ⟨by decide, fun _ => by decide, ?_⟩
  have d32 : IntKind.wrap .i64 ((nuX l : Int).tdiv 32) = ((nuX l / 32 : Nat) : Int) := by
    have : ((nuX l : Int).tdiv 32) = ((nuX l / 32 : Nat) : Int) := rfl
    rw [this, w64 (by omega) (by omega)]
  have d28 : IntKind.wrap .i64 ((nsX l : Int).tdiv 28) = ((nsX l / 28 : Nat) : Int) := by
    have : ((nsX l : Int).tdiv 28) = ((nsX l / 28 : Nat) : Int) := rfl
    rw [this, w64 (by omega) (by omega)]
  rw [d32, d28]
  by_cases qM : 256 < nuX l ∨ 224 < nsX l
  · exact br_t (by rw [Bool.or_eq_true, decide_eq_true_eq, decide_eq_true_eq]; omega) (bad_neg (code := 9736) fun v hv => fin (U := nilS) (S := nilS) (s := badS 9736) (b := false) hv (no (head (by rw [hx, if_pos qM])) hv))
  rw [if_neg qM] at hx
  refine br_f (by rw [Bool.or_eq_false_iff, decide_eq_false_iff_not, decide_eq_false_iff_not]; omega) ?_
  have hpn : parseX l = match (List.range (nuX l / 32)).findSome? (uFault l) with
        | some f => noX (badF f)
        | none => match (List.range (nsX l / 28)).findSome? (sFault l) with
          | some f => noX (badF f)
          | none => ⟨unitsX l (nuX l / 32), segsX l (nsX l / 28), sn0, true⟩ := by rw [hpx, hx]
  refine new_rule fun lb w2 hlb hb2 hg2 hsz2 => ?_
  have hb2 : Blk w2 lb (lsv nilS nilS) t_xcopy_List := hb2
  have hlen : l.length ≤ 1000000 := by omega
  have s1 := hg1.size
  have sizes : ∀ {y : World}, Grow w1 y → w.heap.size ≤ y.heap.size := fun g => (hgw1.trans g).size
  refine ⟨fun at_ y => ∃ (j : Nat) (U : Sl), at_ = ((16 + 32 * j : Nat) : Int) ∧ j ≤ nuX l / 32 ∧ (∀ i, i < j → uFault l i = none) ∧ Grow w1 y ∧ Blk y lb (lsv U nilS) t_xcopy_List ∧ Own y w2.heap.size t_string 1 U (strsV (unitsX l j)), fun at_ _ => 16 + nuX l - at_.toNat,
    ⟨0, nilS, rfl, Nat.zero_le _, fun _ q => absurd q (Nat.not_lt_zero _), hg2, hb2, own_nil _ _ _ _⟩, ?_⟩
  rintro at_ y ⟨j, U, rfl, hj, hfj, hgy, hby, hoy⟩
  have hUn : U.n = j := by have := hoy.len; simp [strsV, unitsX_len] at this; omega
  have hpy := hp1.grow hgy
  have hlby := lt_of_heap hby
  refine br_nat (fun hlt => ?_) (fun hge => ?_)
  · have hjn : j < nuX l / 32 := by omega
    have e32 : IntKind.wrap .i64 (((16 + 32 * j : Nat) : Int) + 32) = ((16 + 32 * j + 32 : Nat) : Int) := by rw [w64 (by omega) (by omega)]; omega
    rw [e32]
    refine ⟨⟨by omega, by omega, by omega, hcap⟩, ?_⟩
    simp only [Int.toNat_natCast]
    have hcut := hpy.cutB (l := 16 + 32 * j) (k := 16 + 32 * j + 32) (by omega) (by omega)
    have e0 : (16 + 32 * j + 32) - (16 + 32 * j) = 32 := by omega
    rw [e0] at hcut ⊢
    have hcut : Rd y 1 ⟨cutA p.A p.c (16 + 32 * j) 1, 32, p.c - (16 + 32 * j)⟩ (bv (unitAt l j)) := hcut
    have hul : (unitAt l j).length = 32 := sub_len (by omega)
    refine unit_spec hcut hul (fun f hf v hv => ?_) (fun hnone v hv => ?_)
    · have eu : uFault l j = some (16 + 32 * j + f) := by unfold uFault; rw [hf]; rfl
      have hfl : f < 32 := by
        unfold unitBad at hf
        split at hf
        · rename_i i hi
          have := List.mem_of_find?_eq_some hi
          have := List.mem_range.1 this
          obtain rfl := Option.some.inj hf
          omega
        · split at hf
          · obtain rfl := Option.some.inj hf; decide
          · split at hf
            · obtain rfl := Option.some.inj hf; decide
            · cases hf
      have ep : parseX l = noX (badF (16 + 32 * j + f)) := by rw [hpn, findSome_range hjn hfj eu]
      have ew : IntKind.wrap .i64 (((16 + 32 * j : Nat) : Int) + (f : Int)) = ((16 + 32 * j + f : Nat) : Int) := by rw [w64 (by omega) (by omega)]; omega
      rw [ew]
      exact br_t (by rw [decide_eq_true_eq]; omega) (bad_pos fun v2 hv2 => fin (U := nilS) (S := nilS) (s := badF (16 + 32 * j + f)) (b := false) ((hgy.trans hv).trans hv2) (no ep ((hgy.trans hv).trans hv2)))
    · refine br_f rfl ⟨U, by rw [add0, Blk.cell (hv.heap hby (fun q => q))]; rfl, ?_⟩
      refine lit_rule (cells := #[.string (str (unitNm (unitAt l j)))]) (e := t_string) (z := 1) (base := 0) (str_lit v _) rfl (by decide) (Nat.zero_le _) fun v1 hlit1 hg1' _ => ?_
      refine append_rule u_sl_string i_string rfl (by decide) (by decide) ((hoy.grow hv).grow hg1') (hlit1.rd (by show 1 ≤ _; decide)) (fun u hu => by simp at hu; rw [hu]; rfl) (by show (U.n + 1) * 16 ≤ _; omega) (by have := hg2.size; have := (hv.trans hg1').size; have := hoy.ge; omega) fun U1 v2 hn2 hown2 hk2 _ => ?_
      have hg1v := (hgy.trans hv).trans hg1'
      have hUb : ∀ b, U.blk = some b → b ≠ lb := fun b hb q => by have := (hoy.ge b hb).1; omega
      have hg12 : Grow w1 v2 := own_grow' hg1v ((hoy.grow hv).grow hg1') (by omega) hk2
      have hbl : Blk v2 lb (lsv U nilS) t_xcopy_List := hk2.heap ((hv.trans hg1').heap hby (fun q => q)) fun q => hUb lb q.symm rfl
      rw [add0]
      refine put_rule hbl (by show 0 < 2; decide) rfl fun v3 hb3 hk3 _ => ?_
      have hb3 : Blk v3 lb (lsv U1 nilS) t_xcopy_List := hb3
      have hU1b : ∀ b, U1.blk = some b → b ≠ lb := fun b hb q => by have := (hown2.ge b hb).1; omega
      refine ⟨⟨j + 1, U1, by omega, by omega, fun i hi => ?_, hg12.keep hk3 fun i hi q => by omega, hb3, ?_⟩, by omega⟩
      · by_cases e : i = j
        · rw [e]; unfold uFault; rw [hnone]; rfl
        · exact hfj i (by omega)
      · rw [unitsX_succ]
        have : strsV (unitsX l j ++ [unitNm (unitAt l j)]) = strsV (unitsX l j) ++ [.string (str (unitNm (unitAt l j)))] := by simp [strsV]
        rw [this]
        exact hown2.keep hk3 fun b hb q => hU1b b hb q
  · have hjn : j = nuX l / 32 := by omega
    have hnoU : (List.range (nuX l / 32)).findSome? (uFault l) = none := findSome_none fun i hi => hfj i (by omega)
    have hpn2 : parseX l = match (List.range (nsX l / 28)).findSome? (sFault l) with
          | some f => noX (badF f)
          | none => ⟨unitsX l (nuX l / 32), segsX l (nsX l / 28), sn0, true⟩ := by rw [hpn, hnoU]
    rw [hjn] at hoy hUn
    refine ⟨fun at_ z => ∃ (k : Nat) (S : Sl), at_ = ((16 + nuX l + 28 * k : Nat) : Int) ∧ k ≤ nsX l / 28 ∧ (∀ i, i < k → sFault l i = none) ∧ Grow w1 z ∧ Blk z lb (lsv U S) t_xcopy_List ∧ Own z w2.heap.size t_string 1 U (strsV (unitsX l (nuX l / 32))) ∧ Own z w2.heap.size t_xcopy_Seg 5 S ((segsX l k).flatMap sgv), fun at_ _ => l.length - at_.toNat,
      ⟨0, nilS, rfl, Nat.zero_le _, fun _ q => absurd q (Nat.not_lt_zero _), hgy, hby, hoy, own_nil _ _ _ _⟩, ?_⟩
    rintro at_ z ⟨k, S, rfl, hk, hfk, hgz, hbz, hoz, hSz⟩
    have hSn : S.n = k := by have := hSz.len; rw [flat_len5, segsX_len] at this; omega
    have hpz := hp1.grow hgz
    have hlbz := lt_of_heap hbz
    have failS : ∀ {f : Nat} {v : World}, k < nsX l / 28 → segBad (nuX l / 32) (segAt l k) = some f → Grow w1 v → Cxcopy_bad 9728 ((16 + nuX l + 28 * k + f : Nat) : Int) v (fun g v => RunU Tryd.prog (storeVar t_xcopy_List ⟨ab, 0, none⟩ (.agg (lsv nilS nilS))) v fun v1 => RunU Tryd.prog (storeVar t_api_Sense ⟨sb, 0, none⟩ (.agg g)) v1 fun v2 =>
      ∃ res : Array Value, (loadVar t_xcopy_List ⟨ab, 0, none⟩).run Tryd.prog v2 = .ok (.agg res) v2 ∧ ∃ res1 : Array Value, (loadVar t_api_Sense ⟨sb, 0, none⟩).run Tryd.prog v2 = .ok (.agg res1) v2 ∧ R res res1 false v2) := fun {f v} hkn hf hv => by
      have eu : sFault l k = some (16 + nuX l + 28 * k + f) := by unfold sFault; rw [hf]; rfl
      have ep : parseX l = noX (badF (16 + nuX l + 28 * k + f)) := by rw [hpn2, findSome_range hkn hfk eu]
      exact bad_pos fun v2 hv2 => fin (U := nilS) (S := nilS) (s := badF (16 + nuX l + 28 * k + f)) (b := false) (hv.trans hv2) (no ep (hv.trans hv2))
    refine br_nat (fun hlt => ?_) (fun hge => ?_)
    · have hkn : k < nsX l / 28 := by omega
      have e28 : IntKind.wrap .i64 (((16 + nuX l + 28 * k : Nat) : Int) + 28) = ((16 + nuX l + 28 * k + 28 : Nat) : Int) := by rw [w64 (by omega) (by omega)]; omega
      rw [e28]
      refine ⟨⟨by omega, by omega, by omega, hcap⟩, ?_⟩
      simp only [Int.toNat_natCast]
      have hcut := hpz.cutB (l := 16 + nuX l + 28 * k) (k := 16 + nuX l + 28 * k + 28) (by omega) (by omega)
      have e0 : (16 + nuX l + 28 * k + 28) - (16 + nuX l + 28 * k) = 28 := by omega
      rw [e0] at hcut ⊢
      have hcut : Rd z 1 ⟨cutA p.A p.c (16 + nuX l + 28 * k) 1, 28, p.c - (16 + nuX l + 28 * k)⟩ (bv (segAt l k)) := hcut
      have hql : (segAt l k).length = 28 := sub_len (by omega)
      have failS' : ∀ {f : Nat} {v : World}, segBad (nuX l / 32) (segAt l k) = some f → Grow w1 v → Cxcopy_bad 9728 ((16 + nuX l + 28 * k + f : Nat) : Int) v (fun g v => RunU Tryd.prog (storeVar t_xcopy_List ⟨ab, 0, none⟩ (.agg (lsv nilS nilS))) v fun v1 => RunU Tryd.prog (storeVar t_api_Sense ⟨sb, 0, none⟩ (.agg g)) v1 fun v2 =>
      ∃ res : Array Value, (loadVar t_xcopy_List ⟨ab, 0, none⟩).run Tryd.prog v2 = .ok (.agg res) v2 ∧ ∃ res1 : Array Value, (loadVar t_api_Sense ⟨sb, 0, none⟩).run Tryd.prog v2 = .ok (.agg res1) v2 ∧ R res res1 false v2) := fun {f v} hf hv => failS hkn hf hv
      have hsb : segBad (nuX l / 32) (segAt l k) = if num (sub (segAt l k) 0 4) ≠ 0x02000018 then some 0 else if num (sub (segAt l k) 8 2) ≠ 0 then some 8 else if nuX l / 32 ≤ num (sub (segAt l k) 4 2) then some 4 else if nuX l / 32 ≤ num (sub (segAt l k) 6 2) then some 6
        else if 256 < num (sub (segAt l k) 10 2) then some 10 else none := rfl
      have hso : segOf (segAt l k) = ⟨(num (sub (segAt l k) 4 2) : Int), (num (sub (segAt l k) 6 2) : Int), (num (sub (segAt l k) 10 2) : Int), num (sub (segAt l k) 12 8), num (sub (segAt l k) 20 8)⟩ := rfl
      generalize hqe : segAt l k = q at *
      refine number_spec (at_ := 4) (n := 2) hcut (by decide) (by decide) (by omega) ?_
      refine number_spec (at_ := 6) (n := 2) hcut (by decide) (by decide) (by omega) ?_
      refine number_spec (at_ := 10) (n := 2) hcut (by decide) (by decide) (by omega) ?_
      refine new_rule fun xb z1 hxb hbx1 hgz1 hszz1 => ?_
      refine storeVar_rule (cells := (sgv ⟨(num (sub q 4 2) : Int), (num (sub q 6 2) : Int), (num (sub q 10 2) : Int), 0, 0⟩).toArray) hbx1 i_xcopy_Seg rfl rfl (by simp [sgv, Value.oneCell']) fun z2 hbx2 hkz2 _ => ?_
      have hg2' : Grow z z2 := hgz1.keep hkz2 fun i hi e => by omega
      refine get_spec (at_ := 12) (n := 8) (hcut.grow hg2') (by show 28 ≤ _; omega) (by decide) (by decide) (by omega) ?_
      rw [add0]
      refine put_rule hbx2 (by simp [sgv]) rfl fun z3 hbx3 hkz3 _ => ?_
      have hg3' : Grow z z3 := hg2'.keep hkz3 fun i hi e => by omega
      refine get_spec (at_ := 20) (n := 8) (hcut.grow hg3') (by show 28 ≤ _; omega) (by decide) (by decide) (by omega) ?_
      rw [add0]
      refine put_rule hbx3 (by simp [sgv]) rfl fun z4 hbx4 hkz4 _ => ?_
      have hg4' : Grow z z4 := hg3'.keep hkz4 fun i hi e => by omega
      have hbx4 : Blk z4 xb (sgv (segOf q)).toArray t_xcopy_Seg := by rw [hso]; exact hbx4
      have hgw4 := hgz.trans hg4'
      have hbl4 := hg4'.heap hbz (fun e => e)
      refine number_spec (at_ := 0) (n := 4) (hcut.grow hg4') (by decide) (by decide) (by omega) ?_
      by_cases r0 : num (sub q 0 4) = 33554456
      case neg => exact br_t (by rw [bne_iff_ne]; omega) (failS' (f := 0) (by rw [hsb, if_pos r0]) hgw4)
      rw [if_neg (fun e => e r0)] at hsb
      refine br_f (by rw [bne_eq_false_iff_eq]; omega) ?_
      refine number_spec (at_ := 8) (n := 2) (hcut.grow hg4') (by decide) (by decide) (by omega) ?_
      have ewr : ∀ f : Nat, f < 28 → IntKind.wrap .i64 (((16 + nuX l + 28 * k : Nat) : Int) + (f : Int)) = ((16 + nuX l + 28 * k + f : Nat) : Int) := fun f hf => by rw [w64 (by omega) (by omega)]; omega
      by_cases r8 : num (sub q 8 2) = 0
      case neg =>
        refine br_t (by rw [bne_iff_ne]; omega) ?_
        have := failS' (f := 8) (by rw [hsb, if_pos r8]) hgw4
        rw [← ewr 8 (by decide)] at this
        exact this
      rw [if_neg (fun e => e r8)] at hsb
      refine br_f (by rw [bne_eq_false_iff_eq]; omega) ⟨(num (sub q 4 2) : Int), by rw [add0, Blk.cell hbx4]; rfl, U, by rw [add0, Blk.cell hbl4]; rfl, ?_⟩
      rw [hUn]
      by_cases r4 : nuX l / 32 ≤ num (sub q 4 2)
      · refine br_t (by rw [decide_eq_true_eq]; omega) ?_
        have := failS' (f := 4) (by rw [hsb, if_pos r4]) hgw4
        rw [← ewr 4 (by decide)] at this
        exact this
      rw [if_neg r4] at hsb
      refine br_f (by rw [decide_eq_false_iff_not]; omega) ⟨(num (sub q 6 2) : Int), by rw [add0, Blk.cell hbx4]; rfl, U, by rw [add0, Blk.cell hbl4]; rfl, ?_⟩
      rw [hUn]
      by_cases r6 : nuX l / 32 ≤ num (sub q 6 2)
      · refine br_t (by rw [decide_eq_true_eq]; omega) ?_
        have := failS' (f := 6) (by rw [hsb, if_pos r6]) hgw4
        rw [← ewr 6 (by decide)] at this
        exact this
      rw [if_neg r6] at hsb
      refine br_f (by rw [decide_eq_false_iff_not]; omega) ⟨(num (sub q 10 2) : Int), by rw [add0, Blk.cell hbx4]; rfl, ?_⟩
      by_cases r10 : 256 < num (sub q 10 2)
      · refine br_t (by rw [decide_eq_true_eq]; omega) ?_
        have := failS' (f := 10) (by rw [hsb, if_pos r10]) hgw4
        rw [← ewr 10 (by decide)] at this
        exact this
      rw [if_neg r10] at hsb
      refine br_f (by rw [decide_eq_false_iff_not]; omega) ⟨S, by rw [add0, Blk.cell hbl4]; rfl, _, segLoad (blk_cells hbx4), ?_⟩
      refine lit_rule (cells := (sgv (segOf q)).toArray) (e := t_xcopy_Seg) (z := 5) (base := 0) (seg_lit z4 _) rfl (by decide) (Nat.zero_le _) fun z5 hlit5 hg5' _ => ?_
      have hz5 := hg4'.trans hg5'
      refine append_rule u_sl_xcopy_Seg i_xcopy_Seg rfl (by decide) (by decide) (hSz.grow hz5) (hlit5.rd (by show 1 ≤ _; decide)) (fun v hv => sgv_ones [segOf q] v (by simpa using hv)) (by show (S.n + 1) * 40 ≤ _; omega) (by have := hz5.size; omega) fun S1 z6 hn6 hown6 hk6 _ => ?_
      have hUz := hoz.grow hz5
      have hSz5 := hSz.grow hz5
      have apart : ∀ b, U.blk = some b → some b ≠ S.blk := fun b hb e => by
        obtain ⟨c1, h1⟩ := own_heap hUz hb
        obtain ⟨c2, h2⟩ := own_heap hSz5 e.symm
        rw [h1] at h2
        injection h2 with h2
        injection h2 with _ ht
        exact absurd ht (by decide)
      have hSb : ∀ b, S.blk = some b → b ≠ lb := fun b hb e => by have := (hSz.ge b hb).1; omega
      have hUb2 : ∀ b, U.blk = some b → b ≠ lb := fun b hb e => by have := (hoz.ge b hb).1; omega
      have hS1b : ∀ b, S1.blk = some b → b ≠ lb := fun b hb e => by have := (hown6.ge b hb).1; omega
      have hU6 := hUz.keep hk6 apart
      have hbl6 : Blk z6 lb (lsv U S) t_xcopy_List := hk6.heap (hz5.heap hbz (fun e => e)) fun e => hSb lb e.symm rfl
      have hg6 : Grow w1 z6 := own_grow' (hgz.trans hz5) hSz5 (by omega) hk6
      rw [add0]
      refine put_rule hbl6 (by show 1 < 2; decide) rfl fun z7 hb7 hk7 _ => ?_
      have hb7 : Blk z7 lb (lsv U S1) t_xcopy_List := hb7
      refine ⟨⟨k + 1, S1, by omega, by omega, fun i hi => ?_, hg6.keep hk7 fun i hi e => by omega, hb7, hU6.keep hk7 fun b hb e => hUb2 b hb e, ?_⟩, by omega⟩
      · by_cases e : i = k
        · rw [e]; unfold sFault; rw [hqe, hsb]; rfl
        · exact hfk i (by omega)
      · rw [segsX_succ, List.flatMap_append]
        have e5 : [segOf (segAt l k)].flatMap sgv = sgv (segOf q) := by rw [hqe]; simp
        rw [e5]
        exact hown6.keep hk7 fun b hb e => hS1b b hb e
    · have hkn : k = nsX l / 28 := by omega
      have hnoS : (List.range (nsX l / 28)).findSome? (sFault l) = none := findSome_none fun i hi => hfk i (by omega)
      have ep : parseX l = ⟨unitsX l (nuX l / 32), segsX l (nsX l / 28), sn0, true⟩ := by rw [hpn2, hnoS]
      rw [hkn] at hSz
      refine ⟨_, lLoad hbz, fin (U := U) (S := S) (s := sn0) (b := true) hgz fun v' hk' => ?_⟩
      have := h U S v' (gk hgz hk')
      rw [ep] at this
      refine this ((hoz.keep hk' fun b hb e => ?_).mono (by omega)) ((hSz.keep hk' fun b hb e => ?_).mono (by omega))
      · have := (hoz.ge b hb).1; omega
      · have := (hSz.ge b hb).1; omega
end Go.Proofs.YtaneeadpjelomaaDoor

/- Layer 15: the parameters of a list, in plain words. -/
namespace Go.Proofs.YtaneeadpjelomaaDoor
open Go CF

def hdrX (u s : Nat) : L8 := [0, 0] ++ beN 2 (32 * u) ++ [0, 0, 0, 0] ++ beN 4 (28 * s) ++ [0, 0, 0, 0]
def unitB (s : L8) : L8 := frontX ++ s ++ List.replicate (20 - s.length) 32 ++ [0, 0, 0, 16]
def segB (x : SegX) : L8 := [2, 0, 0, 0x18] ++ beN 2 x.from_.toNat ++ beN 2 x.to_.toNat ++ [0, 0] ++ beN 2 x.blocks.toNat ++ beN 8 x.src ++ beN 8 x.dst
def uOk (s : L8) : Prop := s.length ≤ 20 ∧ s.getLast? ≠ some 32
def sOk (nu : Nat) (x : SegX) : Prop := 0 ≤ x.from_ ∧ x.from_ < nu ∧ 0 ≤ x.to_ ∧ x.to_ < nu ∧ 0 ≤ x.blocks ∧ x.blocks ≤ 256
instance (s : L8) : Decidable (uOk s) := by unfold uOk; infer_instance
instance (nu : Nat) (x : SegX) : Decidable (sOk nu x) := by unfold sOk; infer_instance
def allX (us : List L8) (ss : List SegX) : L8 := hdrX us.length ss.length ++ us.flatMap unitB ++ ss.flatMap segB
/-- the parameters, or an error's number -/
def bytesX (us : List L8) (ss : List SegX) : L8 × Nat :=
  if 8 < us.length ∨ 8 < ss.length then ([], 2)
  else if (∀ s ∈ us, uOk s) ∧ (∀ x ∈ ss, sOk us.length x) then (allX us ss, 0) else ([], 3)
theorem hdrX_len (u s : Nat) : (hdrX u s).length = 16 := by simp [hdrX, beN_len]
theorem unitB_len {s : L8} (h : s.length ≤ 20) : (unitB s).length = 32 := by simp [unitB, frontX]; omega
theorem segB_len (x : SegX) : (segB x).length = 28 := by simp [segB, beN_len]
theorem units_len {us : List L8} (h : ∀ s ∈ us, uOk s) : (us.flatMap unitB).length = 32 * us.length := by
  induction us with
  | nil => rfl
  | cons a r ih => rw [List.flatMap_cons, List.length_append, unitB_len (h a (by simp)).1, ih (fun s hs => h s (by simp [hs])), List.length_cons]; omega
theorem segs_len (ss : List SegX) : (ss.flatMap segB).length = 28 * ss.length := by
  induction ss with
  | nil => rfl
  | cons a r ih => rw [List.flatMap_cons, List.length_append, segB_len, ih, List.length_cons]; omega
theorem allX_len {us : List L8} {ss : List SegX} (h : ∀ s ∈ us, uOk s) : (allX us ss).length = 16 + 32 * us.length + 28 * ss.length := by
  rw [allX, List.length_append, List.length_append, hdrX_len, units_len h, segs_len]
/-! ### pieces of a row -/
theorem sub_left {a b : L8} {i n : Nat} (h : i + n ≤ a.length) : sub (a ++ b) i n = sub a i n := by
  unfold sub
  rw [List.drop_append_of_le_length (by omega), List.take_append_of_le_length (by rw [List.length_drop]; omega)]
theorem sub_right {a b : L8} {i n : Nat} : sub (a ++ b) (a.length + i) n = sub b i n := by
  unfold sub
  rw [List.drop_append, List.drop_of_length_le (by omega), List.nil_append, Nat.add_sub_cancel_left]
theorem sub_all {a : L8} {n : Nat} (h : a.length = n) : sub a 0 n = a := by
  unfold sub
  rw [List.drop_zero, List.take_of_length_le (by omega)]
theorem sub_flat {α : Type} {f : α → L8} {z : Nat} : ∀ {l : List α} (_ : ∀ a ∈ l, (f a).length = z) {i : Nat} (h : i < l.length), sub (l.flatMap f) (z * i) z = f l[i]
  | a :: r, hf, 0, _ => by
    rw [List.flatMap_cons, Nat.mul_zero, sub_left (by rw [hf a (by simp)]; omega), sub_all (hf a (by simp))]; rfl
  | a :: r, hf, i + 1, h => by
    have e : z * (i + 1) = (f a).length + z * i := by rw [hf a (by simp), Nat.mul_succ, Nat.add_comm]
    rw [List.flatMap_cons, e, sub_right]
    exact sub_flat (fun b hb => hf b (by simp [hb])) (l := r) (i := i) (by simpa using h)
theorem unitAt_all {us : List L8} {ss : List SegX} (h : ∀ s ∈ us, uOk s) {j : Nat} (hj : j < us.length) : unitAt (allX us ss) j = unitB us[j] := by
  unfold unitAt allX
  have e : 16 + 32 * j = (hdrX us.length ss.length).length + 32 * j := by rw [hdrX_len]
  rw [e, List.append_assoc, sub_right, sub_left (by rw [units_len h]; omega), sub_flat (fun a ha => unitB_len (h a ha).1) hj]
theorem hd_sub {us : List L8} {ss : List SegX} {i n : Nat} (h : i + n ≤ 16) : sub (allX us ss) i n = sub (hdrX us.length ss.length) i n := by
  unfold allX
  rw [List.append_assoc, sub_left (by rw [hdrX_len]; exact h)]
theorem nuX_all {us : List L8} {ss : List SegX} (h : us.length ≤ 8) : nuX (allX us ss) = 32 * us.length := by
  unfold nuX
  rw [hd_sub (by decide)]
  exact num_beN_lt (n := 2) (by omega)
theorem nsX_all {us : List L8} {ss : List SegX} (h : ss.length ≤ 8) : nsX (allX us ss) = 28 * ss.length := by
  unfold nsX
  rw [hd_sub (by decide)]
  have e : sub (hdrX us.length ss.length) 8 4 = beN 4 (28 * ss.length) := by simp [sub, hdrX, beN]
  rw [e]
  exact num_beN_lt (n := 4) (by omega)
theorem segAt_all {us : List L8} {ss : List SegX} (h : ∀ s ∈ us, uOk s) (hu : us.length ≤ 8) {j : Nat} (hj : j < ss.length) : segAt (allX us ss) j = segB ss[j] := by
  unfold segAt
  rw [nuX_all hu]
  unfold allX
  have e : 16 + 32 * us.length + 28 * j = (hdrX us.length ss.length ++ us.flatMap unitB).length + 28 * j := by rw [List.length_append, hdrX_len, units_len h]
  rw [e, sub_right, sub_flat (fun a _ => segB_len a) hj]
theorem unitBad_B {s : L8} (h : uOk s) : unitBad (unitB s) = none := by
  have h1 := h.1
  have hf : ∀ i, i < 8 → (unitB s).getD i 0 = frontX.getD i 0 := fun i hi => by
    unfold unitB
    rw [List.getD_eq_getElem?_getD, List.append_assoc, List.append_assoc, List.getElem?_append_left (by show i < 8; exact hi)]; rfl
  have hfind : (List.range 8).find? (fun i => decide ((unitB s).getD i 0 ≠ frontX.getD i 0)) = none := by
    rw [List.find?_eq_none]
    intro i hi
    rw [hf i (List.mem_range.1 hi)]; simp
  have e28 : unitB s = (frontX ++ s ++ List.replicate (20 - s.length) 32) ++ [0, 0, 0, 16] := rfl
  have hl : (frontX ++ s ++ List.replicate (20 - s.length) 32).length = 28 := by simp [frontX]; omega
  have h28 : (unitB s).getD 28 0 = 0 := by
    rw [e28, List.getD_eq_getElem?_getD, List.getElem?_append_right (by omega), hl]; rfl
  have h29 : sub (unitB s) 29 3 = [0, 0, 16] := by
    rw [e28, show 29 = (frontX ++ s ++ List.replicate (20 - s.length) 32).length + 1 by rw [hl], sub_right]; rfl
  have h16 : num [0, 0, 16] = 16 := by decide
  unfold unitBad
  rw [hfind]
  simp only
  rw [h28, h29, h16, if_neg (by simp), if_neg (by simp)]
theorem unitNm_B {s : L8} (h : uOk s) : unitNm (unitB s) = s := by
  unfold unitNm
  have e : unitB s = frontX ++ ((s ++ List.replicate (20 - s.length) 32) ++ [0, 0, 0, 16]) := by simp [unitB]
  have h1 := h.1
  have e8 : sub (unitB s) 8 20 = s ++ List.replicate (20 - s.length) 32 := by
    rw [e]
    have := sub_right (a := frontX) (b := (s ++ List.replicate (20 - s.length) 32) ++ [0, 0, 0, 16]) (i := 0) (n := 20)
    rw [show 8 = frontX.length + 0 by rfl, this, sub_left (by simp; omega), sub_all (by simp; omega)]
  rw [e8, trimR_rep, trimR_of h.2]
theorem segB_subs (x : SegX) : sub (segB x) 0 4 = [2, 0, 0, 0x18] ∧ sub (segB x) 4 2 = beN 2 x.from_.toNat ∧ sub (segB x) 6 2 = beN 2 x.to_.toNat ∧ sub (segB x) 8 2 = [0, 0] ∧ sub (segB x) 10 2 = beN 2 x.blocks.toNat ∧
    sub (segB x) 12 8 = beN 8 x.src ∧ sub (segB x) 20 8 = beN 8 x.dst := by
  refine ⟨rfl, ?_, ?_, ?_, ?_, ?_, ?_⟩ <;> simp [sub, segB, beN]
theorem segBad_B {nu : Nat} {x : SegX} (h : sOk nu x) (hn : nu ≤ 8) : segBad nu (segB x) = none := by
  obtain ⟨h0, h4, h6, h8, h10, _, _⟩ := segB_subs x
  obtain ⟨a, b, c, d, e, f⟩ := h
  unfold segBad
  rw [h0, h4, h6, h8, h10, num_beN_lt (n := 2) (by omega), num_beN_lt (n := 2) (by omega), num_beN_lt (n := 2) (by omega)]
  rw [if_neg (by decide), if_neg (by decide), if_neg (by omega), if_neg (by omega), if_neg (by omega)]
theorem segOf_B {nu : Nat} {x : SegX} (h : sOk nu x) (hn : nu ≤ 8) (hs : x.src < 18446744073709551616) (hd : x.dst < 18446744073709551616) : segOf (segB x) = x := by
  obtain ⟨h0, h4, h6, h8, h10, h12, h20⟩ := segB_subs x
  obtain ⟨a, b, c, d, e, f⟩ := h
  unfold segOf
  rw [h4, h6, h10, h12, h20, num_beN_lt (n := 2) (by omega), num_beN_lt (n := 2) (by omega), num_beN_lt (n := 2) (by omega), num_beN_lt (n := 8) hs, num_beN_lt (n := 8) hd]
  obtain ⟨xf, xt, xb, xs, xd⟩ := x
  simp only at a c e
  simp only [Int.toNat_of_nonneg a, Int.toNat_of_nonneg c, Int.toNat_of_nonneg e]
/-- what was told is read again -/
theorem parse_all {us : List L8} {ss : List SegX} (hu : us.length ≤ 8) (hs : ss.length ≤ 8) (hU : ∀ s ∈ us, uOk s) (hS : ∀ x ∈ ss, sOk us.length x) (hN : ∀ x ∈ ss, x.src < 18446744073709551616 ∧ x.dst < 18446744073709551616) :
    parseX (allX us ss) = ⟨us, ss, sn0, true⟩ := by
  have hl := allX_len (ss := ss) hU
  have hne : allX us ss ≠ [] := fun q => by rw [q] at hl; simp at hl; omega
  have n1 := nuX_all (us := us) (ss := ss) hu
  have n2 := nsX_all (us := us) (ss := ss) hs
  have hh : headX (allX us ss) = none := by
    unfold headX
    have e0 : sub (allX us ss) 0 2 = [0, 0] := by rw [hd_sub (by decide)]; rfl
    have e4 : sub (allX us ss) 4 4 = [0, 0, 0, 0] := by rw [hd_sub (by decide)]; simp [sub, hdrX, beN]
    have e12 : sub (allX us ss) 12 4 = [0, 0, 0, 0] := by rw [hd_sub (by decide)]; simp [sub, hdrX, beN]
    rw [if_neg (by omega), e0, e4, e12, if_neg (by decide), if_neg (by decide), if_neg (by decide), n1, n2, if_neg (by omega), if_neg (by omega), if_neg (by omega), if_neg (by omega)]
  have hd1 : 32 * us.length / 32 = us.length := by omega
  have hd2 : 28 * ss.length / 28 = ss.length := by omega
  have hu0 : (List.range us.length).findSome? (uFault (allX us ss)) = none := findSome_none fun j hj => by
    unfold uFault
    rw [unitAt_all hU hj, unitBad_B (hU _ (List.getElem_mem hj))]; rfl
  have hs0 : (List.range ss.length).findSome? (sFault (allX us ss)) = none := findSome_none fun j hj => by
    unfold sFault
    rw [segAt_all hU hu hj, n1, hd1, segBad_B (hS _ (List.getElem_mem hj)) hu]; rfl
  unfold parseX
  rw [if_neg hne, hh]
  simp only [n1, n2, hd1, hd2, hu0, hs0]
  have eu : unitsX (allX us ss) us.length = us := by
    apply List.ext_getElem
    · rw [unitsX_len]
    · intro j h1 h2
      simp only [unitsX, List.getElem_map, List.getElem_range]
      rw [unitAt_all hU h2, unitNm_B (hU _ (List.getElem_mem h2))]
  have es : segsX (allX us ss) ss.length = ss := by
    apply List.ext_getElem
    · rw [segsX_len]
    · intro j h1 h2
      simp only [segsX, List.getElem_map, List.getElem_range]
      rw [segAt_all hU hu h2]
      have := List.getElem_mem h2
      exact segOf_B (hS _ this) hu (hN _ this).1 (hN _ this).2
  rw [eu, es]
end Go.Proofs.YtaneeadpjelomaaDoor

/- Rows of bytes of one's own that grow; the bytes of a string. -/
namespace Go.Proofs.YtaneeadpjelomaaDoor
open Go CF

theorem conv_bytes_rule {P : Program} {w : World} {src dst e : TypeId} {l : L8} (hs : P.underlying src = some .string) (hd : P.underlying dst = some (.slice e)) (he : P.underlying e = some (.int .u8)) (hl : l.length ≤ 140737489403904)
    {K : Sl → World → Prop} (h : ∀ s w', Grow w w' → Rd w' 1 s (bv l) → s.n = l.length → K s w') : RunK P .sl (convert src dst (.string (str l))) w K := by
  have hsz : (str l).size = l.length := size_str l
  refine ⟨⟨some ⟨w.heap.size, 0, none⟩, (str l).size, grownCap w (str l).size 0 e⟩, _, Go.Lib.run_convert_string_bytes w src dst e (str l) hs hd he, ?_⟩
  refine h _ _ ⟨rfl, rfl, rfl, by rw [Go.Lib.bytesWorld_size]; omega, fun k hk _ => Go.Lib.bytesWorld_at_old w e (str l) k hk⟩ ⟨by rw [bv_length]; show l.length = (str l).size * 1; omega, ?_, by show (str l).size ≤ _; omega, fun _ => ⟨_, rfl, fun j v hj => ?_⟩⟩ hsz
  · show (str l).size ≤ grownCap w (str l).size 0 e
    exact grownCap_ge w (str l).size 0 e
  · have hjl : j < l.length := by rw [← bv_length]; exact (List.getElem?_eq_some_iff.1 hj).1
    rw [bv_get l j hjl] at hj
    rw [add0, Nat.zero_add, Go.Lib.bytesWorld_cell w e (str l) j (by omega), ← hj]
    congr 3
    simp [str, hjl]
/-- a row of bytes that began behind w0 -/
structure Row (w0 u : World) (p : Sl) (l : L8) : Prop where
  own : Own u w0.heap.size t_uint8 1 p (bv l)
  grow : Grow w0 u
section
variable {w0 u u' : World} {p : Sl} {os : L8}
theorem Row.n (h : Row w0 u p os) : p.n = os.length := own_n' h.own
theorem Row.nil (h : Grow w0 u) : Row w0 u nilS [] := ⟨own_nil _ _ _ _, h⟩
theorem Row.step {p' : Sl} {os' : L8} (h : Row w0 u p os) (hown : Own u' w0.heap.size t_uint8 1 p' (bv os')) (hk : Keep (fun k => some k = p.blk) u u') : Row w0 u' p' os' := ⟨hown, own_grow' h.grow h.own (Nat.le_refl _) hk⟩
theorem Row.go (h : Row w0 u p os) (g : Grow u u') : Row w0 u' p os := ⟨h.own.grow g, h.grow.trans g⟩
theorem Row.keep {S : Nat → Prop} (h : Row w0 u p os) (k : Keep S u u') (hs : ∀ b, p.blk = some b → ¬ S b) (hg : ∀ i, i < w0.heap.size → ¬ S i) : Row w0 u' p os := ⟨h.own.keep k hs, h.grow.keep k hg⟩
/-- a block of another type is none of the row's -/
theorem Row.ne (h : Row w0 u p os) {b : Nat} {cs : Array Value} {t : TypeId} (hb : Blk u b cs t) (ht : t ≠ t_uint8) : some b ≠ p.blk := fun q => by
  obtain ⟨cur, hc⟩ := own_heap h.own q.symm
  exact ht (blk_type hb hc)
theorem Row.blk (h : Row w0 u p os) (hk : Keep (fun k => some k = p.blk) u u') {b : Nat} {cs : Array Value} {t : TypeId} (hb : Blk u b cs t) (ht : t ≠ t_uint8) : Blk u' b cs t := hk.heap hb (h.ne hb ht)
theorem Row.rd (h : Row w0 u p os) (hl : os.length ≤ 140737488355328) : Rd u 1 p (bv os) := h.own.rd (by have := h.n; omega)
theorem Row.app (h : Row w0 u p os) {x : Sl} {l : L8} (hx : Rd u 1 x (bv l)) (hb : os.length + l.length ≤ 140737488355328) {ty : TypeId} {K : Sl → World → Prop} (hK : ∀ p' u', Row w0 u' p' (os ++ l) → Keep (fun k => some k = p.blk) u u' → K p' u') :
    RunK Tryd.prog .sl (Builtin.append_ #[t_sl_uint8, t_sl_uint8] ty #[.slice p.A p.n p.c, .slice x.A x.n x.c]) u K := by
  have hxn := rd_n' hx
  have hpn := h.n
  refine append_rule u_sl_uint8 i_uint8 rfl (by decide) (by decide) h.own hx (bv_one' _) (by omega) h.grow.size fun s' w' hn hown hk _ => hK s' w' (h.step ?_ hk) hk
  rw [bv_append]; exact hown
theorem Row.str (h : Row w0 u p os) {l : L8} (hb : os.length + l.length ≤ 140737488355328) {ty : TypeId} {K : Sl → World → Prop} (hK : ∀ p' u', Row w0 u' p' (os ++ l) → Keep (fun k => some k = p.blk) u u' → K p' u') :
    RunK Tryd.prog .sl (Builtin.append_ #[t_sl_uint8, t_string] ty #[.slice p.A p.n p.c, .string (CF.str l)]) u K := by
  have hpn := h.n
  exact append_str_rule u_sl_uint8 u_string i_uint8 h.own (by omega) h.grow.size fun o' w' _ hown hk _ => hK o' w' (h.step hown hk) hk
theorem Row.lit (h : Row w0 u p os) {n : Nat} {parts : Array (Nat × Value)} {l : L8} {t ty : TypeId} (hr : (Instr.buildSlice t n parts).run Tryd.prog u = .ok (.slice (some ⟨u.heap.size, 0, none⟩) n n) (u.alloc (.cells (bv l).toArray t_uint8))) (hn : n = l.length)
    (hb : os.length + l.length ≤ 140737488355328) {K : Sl → World → Prop} (hK : ∀ p' u', Row w0 u' p' (os ++ l) → Keep (fun k => some k = p.blk) u u' → K p' u') :
    RunK Tryd.prog .sl (Instr.buildSlice t n parts) u fun xs u1 => RunK Tryd.prog .sl (Builtin.append_ #[t_sl_uint8, t_sl_uint8] ty #[.slice p.A p.n p.c, .slice xs.A xs.n xs.c]) u1 K := by
  refine lit_rule (cells := (bv l).toArray) (e := t_uint8) (z := 1) (base := 0) hr (by simp [bv, hn]) (by omega) (Nat.zero_le _) fun u1 hown1 hg1 _ => ?_
  have hx : Rd u1 1 ⟨some ⟨u.heap.size, 0, none⟩, n, n⟩ (bv l) := hown1.rd (by show n ≤ _; omega)
  refine (h.go hg1).app hx hb fun p' u' hr' hk => hK p' u' hr' ⟨hk.os.trans hg1.os, hk.tape.trans hg1.tape, hk.output.trans hg1.output, Nat.le_trans hg1.size hk.size, fun k hlt hne => (hk.block k (by have := hg1.size; omega) hne).trans (hg1.block k hlt (fun q => q))⟩
theorem Row.start {n : Nat} {parts : Array (Nat × Value)} {l : L8} {t : TypeId} (hr : (Instr.buildSlice t n parts).run Tryd.prog u = .ok (.slice (some ⟨u.heap.size, 0, none⟩) n n) (u.alloc (.cells (bv l).toArray t_uint8))) (hn : n = l.length) (hb : l.length ≤ 140737488355328)
    {K : Sl → World → Prop} (hK : ∀ p' u', Row u u' p' l → K p' u') : RunK Tryd.prog .sl (Instr.buildSlice t n parts) u K :=
  lit_rule (cells := (bv l).toArray) (e := t_uint8) (z := 1) (base := u.heap.size) hr (by simp [bv, hn]) (by omega) (Nat.le_refl _) fun u1 hown1 hg1 _ => hK _ u1 ⟨hown1, hg1⟩
theorem keep_grow_first {S : Nat → Prop} {a b c : World} (g : Grow a b) (k : Keep S b c) : Keep S a c := Keep.trans (g.mono fun _ _ q => q.elim) k fun _ _ q => q
theorem Row.big (h : Row w0 u p os) {v n : Nat} (hn : 1 ≤ n) (hn8 : n ≤ 8) (hb : os.length + n ≤ 140737488355328) {ty : TypeId} {K : Sl → World → Prop} (hK : ∀ p' u', Row w0 u' p' (os ++ beN n v) → Keep (fun k => some k = p.blk) u u' → K p' u') :
    Cpalletref01_Big (v : Int) (n : Int) u fun xs u1 => RunK Tryd.prog .sl (Builtin.append_ #[t_sl_uint8, t_sl_uint8] ty #[.slice p.A p.n p.c, .slice xs.A xs.n xs.c]) u1 K := by
  refine big_spec hn hn8 fun s u1 hown1 hg1 hs => ?_
  exact (h.go hg1).app (hown1.rd (by omega)) (by rw [beN_len]; exact hb) fun p' u' hr' hk => hK p' u' hr' (keep_grow_first hg1 hk)
/-- elements of slices of one cell each -/
theorem rd_val {w : World} {s : Sl} {vs : List Value} (h : Rd w 1 s vs) {i : Nat} (hi : i < vs.length) : s.A.isSome = true ∧ w.cell? ((gA s.A).add (i * 1)) = some vs[i] := by
  have hne : vs ≠ [] := fun q => by rw [q] at hi; simp at hi
  obtain ⟨a, ha, hc⟩ := h.at_ hne
  rw [ha]
  exact ⟨rfl, by rw [Nat.mul_one]; exact hc i _ (List.getElem?_eq_getElem hi)⟩
/-- elements that are structs -/
theorem rd_str {α : Type} {f : α → List Value} {z : Nat} {w : World} {s : Sl} {xs : List α} (hf : ∀ a, (f a).length = z) (hz : 0 < z) (h : Rd w z s (xs.flatMap f)) {i : Nat} (hi : i < xs.length) : s.A.isSome = true ∧ Cells w ((gA s.A).add (i * z)) (f xs[i]) := by
  have hn : s.n = xs.length := by have := h.len; rw [flat_length hf] at this; exact (Nat.eq_of_mul_eq_mul_right hz this).symm
  obtain ⟨a, ha, hc⟩ := h.elem (i := i) (by omega) hz
  rw [flat_elem hf hi] at hc
  rw [ha]
  exact ⟨rfl, hc⟩
theorem rd_as {α : Type} {f : α → List Value} {z : Nat} {w : World} {s : Sl} {xs : List α} (hf : ∀ a, (f a).length = z) (hz : 0 < z) (h : Rd w z s (xs.flatMap f)) : xs.length = s.n := by
  have := h.len; rw [flat_length hf] at this; exact Nat.eq_of_mul_eq_mul_right hz this
end
end Go.Proofs.YtaneeadpjelomaaDoor

/- Layer 15: the parameters that tell a list, as the program lays them. -/
namespace Go.Proofs.YtaneeadpjelomaaDoor
open Go CF

theorem hasSuffix_spec {l : L8} {w : World} {R : Bool → World → Prop} (hl : l.length ≤ 1000000) (h : R (decide (l.getLast? = some 32)) w) : Cstrings_HasSuffix (str l) s_x20 w R := by
  refine Fstrings_HasSuffix.calls _ _ _ _ ?_
  refine Finternal_stringslite_HasSuffix.calls _ _ _ _ ?_
  have h1 : s_x20.size = 1 := rfl
  unfold Finternal_stringslite_HasSuffix
  rw [size_str, h1]
  rcases List.eq_nil_or_concat l with rfl | ⟨r, b, rfl⟩
  · exact ⟨fun q => by rw [decide_eq_true_eq] at q; simp at q, h⟩
  · rw [List.concat_eq_append] at hl h ⊢
    have hlen : (r ++ [b]).length = r.length + 1 := by simp
    rw [hlen] at hl ⊢
    have e1 : IntKind.wrap .i64 (((r.length + 1 : Nat) : Int) - ((1 : Nat) : Int)) = ((r.length : Nat) : Int) := by rw [w64 (by omega) (by omega)]; omega
    rw [e1]
    refine ⟨fun _ => ⟨by omega, by omega, by omega⟩, ?_⟩
    rw [Int.toNat_natCast, Int.toNat_natCast, str_extract', List.take_of_length_le (by rw [hlen]; exact Nat.le_refl _), List.drop_left]
    have e2 : sEq (str [b]) s_x20 = decide ([b] = [32]) := sEq_str
    rw [e2]
    have e3 : (decide (((r.length + 1 : Nat) : Int) ≥ ((1 : Nat) : Int)) && decide ([b] = [32])) = decide ((r ++ [b]).getLast? = some 32) := by
      rw [Bool.eq_iff_iff]
      simp
      omega
    rw [e3]
    exact h
theorem strsV_len (us : List L8) : (strsV us).length = us.length := by simp [strsV]
theorem strs_at {us : List L8} {w : World} {U : Sl} (h : Rd w 1 U (strsV us)) {i : Nat} (hi : i < us.length) : U.A.isSome = true ∧ w.cell? ((gA U.A).add (i * 1)) = some (.string (str us[i])) := by
  have := rd_val h (i := i) (by rw [strsV_len]; exact hi)
  simpa [strsV] using this
theorem strs_n {us : List L8} {w : World} {U : Sl} (h : Rd w 1 U (strsV us)) : us.length = U.n := by have := h.len; rw [strsV_len] at this; omega
theorem bytesX_many {us : List L8} {ss : List SegX} (h : 8 < us.length ∨ 8 < ss.length) : bytesX us ss = ([], 2) := if_pos h
theorem bytesX_unit {us : List L8} {ss : List SegX} (h8 : ¬ (8 < us.length ∨ 8 < ss.length)) {k : Nat} (hk : k < us.length) (hn : ¬ uOk us[k]) : bytesX us ss = ([], 3) := by
  unfold bytesX
  rw [if_neg h8, if_neg fun q => hn (q.1 _ (List.getElem_mem hk))]
theorem bytesX_seg {us : List L8} {ss : List SegX} (h8 : ¬ (8 < us.length ∨ 8 < ss.length)) {k : Nat} (hk : k < ss.length) (hn : ¬ sOk us.length ss[k]) : bytesX us ss = ([], 3) := by
  unfold bytesX
  rw [if_neg h8, if_neg fun q => hn (q.2 _ (List.getElem_mem hk))]
theorem bytesX_ok {us : List L8} {ss : List SegX} (h8 : ¬ (8 < us.length ∨ 8 < ss.length)) (h1 : ∀ s ∈ us, uOk s) (h2 : ∀ x ∈ ss, sOk us.length x) : bytesX us ss = (allX us ss, 0) := by
  unfold bytesX
  rw [if_neg h8, if_pos ⟨h1, h2⟩]
theorem take_all {α : Type} {p : α → Prop} {l : List α} {k : Nat} (hk : k < l.length) (h : ∀ x ∈ l.take k, p x) (hx : p l[k]) : ∀ x ∈ l.take (k + 1), p x := fun x hm => by
  rw [List.take_succ_eq_append_getElem hk] at hm
  rcases List.mem_append.1 hm with q | q
  · exact h x q
  · rw [List.mem_singleton.1 q]; exact hx
theorem flat_next {α : Type} {f : α → L8} {l : List α} {k : Nat} (hk : k < l.length) : (l.take (k + 1)).flatMap f = (l.take k).flatMap f ++ f l[k] := by
  rw [List.take_succ_eq_append_getElem hk, List.flatMap_append]; simp
theorem bytes_spec {U S : Sl} {us : List L8} {ss : List SegX} {w : World} {R : Sl → Int → World → Prop} (hU : Rd w 1 U (strsV us)) (hS : Rd w 5 S (ss.flatMap sgv)) (hN : ∀ x ∈ ss, x.src < 18446744073709551616 ∧ x.dst < 18446744073709551616)
    (h : ∀ d v, Grow w v → Own v w.heap.size t_uint8 1 d (bv (bytesX us ss).1) → R d ((bytesX us ss).2 : Int) v) : Cxcopy_Bytes (lsv U S) w R := by
  refine Fxcopy_Bytes.calls _ _ _ ?_
  have hUn := strs_n hU
  have hSn := rd_as sgv_len (by decide) hS
  refine new_rule fun lb w0 hlb hb0 hg0 hsz0 => ?_
  have hb0 : Blk w0 lb (lsv U S) t_xcopy_List := hb0
  have c0 : ∀ {u : World}, Grow w0 u → u.cell? ((⟨lb, 0, none⟩ : Addr).add 0) = some (.slice U.A U.n U.c) := fun q => by rw [add0, Blk.cell (q.heap hb0 (fun q => q))]; rfl
  have c1 : ∀ {u : World}, Grow w0 u → u.cell? ((⟨lb, 0, none⟩ : Addr).add 1) = some (.slice S.A S.n S.c) := fun q => by rw [add0, Blk.cell (q.heap hb0 (fun q => q))]; rfl
  refine ⟨U, c0 (Keep.refl _ _), S, fun _ => c1 (Keep.refl _ _), ?_⟩
  have s0 := hg0.size
  by_cases h8 : 8 < us.length ∨ 8 < ss.length
  · rw [bytesX_many h8] at h
    exact br_t (by rw [Bool.or_eq_true, decide_eq_true_eq, decide_eq_true_eq]; omega) (h nilS w0 hg0 (own_nil _ _ _ _))
  refine br_f (by rw [Bool.or_eq_false_iff, decide_eq_false_iff_not, decide_eq_false_iff_not]; omega) ?_
  have no : ∀ {v : World}, Grow w0 v → bytesX us ss = ([], 3) → R nilS 3 v := fun hv e => by
    rw [e] at h
    exact h nilS _ (hg0.trans hv) (own_nil _ _ _ _)
  rintro w1 rfl
  refine ⟨fun u => Grow w0 u, keep_drew w0, U, fun u hu => c0 hu, ?_⟩
  refine make_rule (n := 16) (base := w0.heap.size) u_sl_uint8 i_uint8 rfl (by decide) (by decide) (keep_drew w0).size fun w2 hown2 hg2 hsz2 => ⟨(keep_drew w0).trans hg2, ?_⟩
  have hrep : (List.replicate 16 (Value.int .u8 0)) = bv (List.replicate 16 0) := by simp [bv]
  rw [hrep] at hown2
  have eU : IntKind.wrap .u64 (IntKind.wrap .i64 (32 * (U.n : Int))) = ((32 * us.length : Nat) : Int) := by rw [w64 (by omega) (by omega), wu64 (by omega) (by omega)]; omega
  have eS : IntKind.wrap .u64 (IntKind.wrap .i64 (28 * (S.n : Int))) = ((28 * ss.length : Nat) : Int) := by rw [w64 (by omega) (by omega), wu64 (by omega) (by omega)]; omega
  rw [eU]
  have g2 := (keep_drew w0).trans hg2
  refine put_spec (at_ := 2) (n := 2) (hown2.rd (by show 16 ≤ _; omega)) (by show 16 ≤ _; omega) (by decide) (by decide) (by simp) (by omega) fun s3 w3 hown3 hg3 => ?_
  have g3 := g2.trans hg3
  refine ⟨S, c1 g3, ?_⟩
  rw [eS]
  have l3 : (lay (List.replicate 16 0) 2 2 (32 * us.length)).length = 16 := by simp [lay, beN_len]
  have n3 := own_n' hown3
  refine put_spec (at_ := 8) (n := 4) (hown3.rd (by omega)) (by omega) (by decide) (by decide) (by omega) (by omega) fun s4 w4 hown4 hg4 => ?_
  have g4 := g3.trans hg4
  have eh : lay (lay (List.replicate 16 0) 2 2 (32 * us.length)) 8 4 (28 * ss.length) = hdrX us.length ss.length := by simp [lay, hdrX, beN, List.replicate]
  rw [eh] at hown4
  have r4 : Row w0 w4 s4 (hdrX us.length ss.length) := ⟨hown4.mono g3.size, g4⟩
  refine ⟨U, c0 g4, ?_⟩
  refine ⟨fun p x v => ∃ k : Nat, x = k ∧ k ≤ us.length ∧ Row w0 v p (hdrX us.length ss.length ++ (us.take k).flatMap unitB) ∧ ∀ s ∈ us.take k, uOk s, fun _ x _ => us.length - x.toNat, ⟨0, rfl, Nat.zero_le _, by simpa using r4, by simp⟩, ?_⟩
  rintro p x v ⟨k, rfl, hk, hr, hall⟩
  have hUv := (hU.grow hg0).grow hr.grow
  rw [← hUn]
  refine br_nat (fun hlt => ?_) (fun hge => ?_)
  · obtain ⟨a1, ct1⟩ := strs_at hUv hlt
    refine ⟨⟨by omega, by omega, a1⟩, str us[k], by rw [Int.toNat_natCast]; exact ct1, ?_⟩
    have bad : ¬ uOk us[k] → R nilS 3 v := fun q => no hr.grow (bytesX_unit h8 hlt q)
    have hnext := @flat_next _ unitB us k hlt
    have hallN := fun q => take_all hlt hall q
    generalize us[k] = s at *
    rw [size_str]
    have hpl : (hdrX us.length ss.length ++ (us.take k).flatMap unitB).length ≤ 1000 := by
      have := units_len hall
      rw [List.length_append, hdrX_len, this, List.length_take]
      omega
    by_cases h20 : 20 < s.length
    · refine ⟨fun q => ?_, fun _ => br_t ?_ (bad fun q => ?_)⟩
      · rw [Bool.not_eq_true', decide_eq_false_iff_not] at q; omega
      · rw [Bool.or_eq_true, decide_eq_true_eq]; omega
      · have := q.1; omega
    refine ⟨fun _ => ?_, fun q => ?_⟩
    case refine_2 => rw [Bool.not_eq_false', decide_eq_true_eq] at q; omega
    refine hasSuffix_spec (by omega) ?_
    by_cases hlast : s.getLast? = some 32
    · exact br_t (by rw [Bool.or_eq_true, decide_eq_true_eq, decide_eq_true_eq]; exact .inr hlast) (bad fun q => q.2 hlast)
    refine br_f (by rw [Bool.or_eq_false_iff, decide_eq_false_iff_not, decide_eq_false_iff_not]; exact ⟨by omega, hlast⟩) ?_
    refine Row.start (l := frontX) (front_lit v) rfl (by decide) fun q1 v1 hq1 => ?_
    refine hq1.str (l := s) (by show 8 + s.length ≤ _; omega) fun q2 v2 hq2 _ => ?_
    refine ⟨fun q y => ∃ j : Nat, Row v y q (frontX ++ s ++ List.replicate j 32) ∧ 8 + s.length + j ≤ 28, fun q _ => 28 - q.n, ⟨0, by simpa using hq2, by omega⟩, ?_⟩
    rintro q y ⟨j, hq, hj⟩
    have hqn : q.n = 8 + s.length + j := by rw [hq.n]; simp [frontX]; omega
    refine br_dec (fun hlt2 => ?_) (fun hge2 => ?_)
    · refine hq.lit (l := [32]) (by kernel_rfl) rfl (by rw [← hq.n]; simp only [List.length_cons, List.length_nil]; omega) fun q3 y3 hq3 _ => ?_
      rw [List.append_assoc, ← List.replicate_succ'] at hq3
      refine ⟨⟨j + 1, hq3, by omega⟩, ?_⟩
      have : q3.n = 8 + s.length + (j + 1) := by rw [hq3.n]; simp [frontX]; omega
      dsimp only; omega
    · have hj20 : j = 20 - s.length := by omega
      subst hj20
      have hry := hr.go hq.grow
      refine hry.app (hq.rd (by rw [← hq.n]; omega)) (by rw [← hq.n]; omega) fun p1 y1 hp1 _ => ?_
      refine hp1.lit (l := [0, 0, 0, 16]) (by kernel_rfl) rfl (by rw [List.length_append, ← hq.n]; simp only [List.length_cons, List.length_nil]; omega) fun p2 y2 hp2 _ => ?_
      rw [w64 (by omega) (by omega)]
      refine ⟨⟨k + 1, by omega, by omega, ?_, hallN ⟨by omega, hlast⟩⟩, by dsimp only; omega⟩
      rw [hnext]
      have e : hdrX us.length ss.length ++ ((us.take k).flatMap unitB ++ unitB s) = hdrX us.length ss.length ++ (us.take k).flatMap unitB ++ (frontX ++ s ++ List.replicate (20 - s.length) 32) ++ [0, 0, 0, 16] := by simp [unitB]
      rw [e]
      exact hp2
  · have hkn : k = us.length := by omega
    subst hkn
    rw [List.take_length] at hr hall
    refine ⟨S, c1 hr.grow, ?_⟩
    refine ⟨fun p x v => ∃ k : Nat, x = k ∧ k ≤ ss.length ∧ Row w0 v p (hdrX us.length ss.length ++ us.flatMap unitB ++ (ss.take k).flatMap segB) ∧ ∀ s ∈ ss.take k, sOk us.length s, fun _ x _ => ss.length - x.toNat, ⟨0, rfl, Nat.zero_le _, by simpa using hr, by simp⟩, ?_⟩
    rintro p1 x v1 ⟨k, rfl, hk, hr1, hall1⟩
    have hSv := (hS.grow hg0).grow hr1.grow
    rw [← hSn]
    refine br_nat (fun hlt => ?_) (fun hge => ?_)
    · obtain ⟨a1, ct1⟩ := rd_str sgv_len (by decide) hSv hlt
      refine ⟨⟨by omega, by omega, a1⟩, _, by rw [Int.toNat_natCast]; exact segLoad ct1, ?_⟩
      have bad : ∀ {v : World}, Grow w0 v → ¬ sOk us.length ss[k] → R nilS 3 v := fun hv q => no hv (bytesX_seg h8 hlt q)
      have hnext := @flat_next _ segB ss k hlt
      have hallN := fun q => take_all hlt hall1 q
      have hN1 := hN ss[k] (List.getElem_mem hlt)
      generalize ss[k] = s at *
      refine new_rule fun xb v2 hxb hbx2 hg2' _ => ?_
      refine storeVar_rule (cells := (sgv s).toArray) hbx2 i_xcopy_Seg rfl rfl (by simp [sgv, Value.oneCell']) fun v3 hbx3 hkx3 _ => ?_
      have hg13 : Grow v1 v3 := hg2'.keep hkx3 fun i hi e => by omega
      have g03 := hr1.grow.trans hg13
      have b0 : ∀ {u : World}, Grow v3 u → u.cell? ((⟨xb, 0, none⟩ : Addr).add 0) = some (.int .i64 s.from_) := fun q => by rw [add0, Blk.cell (q.heap hbx3 (fun q => q))]; rfl
      have b1 : ∀ {u : World}, Grow v3 u → u.cell? ((⟨xb, 0, none⟩ : Addr).add 1) = some (.int .i64 s.to_) := fun q => by rw [add0, Blk.cell (q.heap hbx3 (fun q => q))]; rfl
      have b2 : ∀ {u : World}, Grow v3 u → u.cell? ((⟨xb, 0, none⟩ : Addr).add 2) = some (.int .i64 s.blocks) := fun q => by rw [add0, Blk.cell (q.heap hbx3 (fun q => q))]; rfl
      have b3 : ∀ {u : World}, Grow v3 u → u.cell? ((⟨xb, 0, none⟩ : Addr).add 3) = some (.int .u64 (s.src : Int)) := fun q => by rw [add0, Blk.cell (q.heap hbx3 (fun q => q))]; rfl
      have b4 : ∀ {u : World}, Grow v3 u → u.cell? ((⟨xb, 0, none⟩ : Addr).add 4) = some (.int .u64 (s.dst : Int)) := fun q => by rw [add0, Blk.cell (q.heap hbx3 (fun q => q))]; rfl
      have r0 := Keep.refl (fun _ => False) v3
      refine ⟨s.from_, b0 r0, s.from_, fun _ => b0 r0, U, fun _ => c0 g03, s.to_, fun _ => b1 r0, s.to_, fun _ => b1 r0, U, fun _ => c0 g03, s.blocks, fun _ => b2 r0, s.blocks, fun _ => b2 r0, ?_⟩
      rw [← hUn]
      by_cases hok : sOk us.length s
      case neg =>
        refine br_t ?_ (bad g03 hok)
        simp only [Bool.or_eq_true, decide_eq_true_eq]
        unfold sOk at hok
        omega
      have hok' := hok
      obtain ⟨k1, k2, k3, k4, k5, k6⟩ := hok
      refine br_f (by simp only [Bool.or_eq_false_iff, decide_eq_false_iff_not]; omega) ?_
      refine make_rule (n := 28) (base := v3.heap.size) u_sl_uint8 i_uint8 rfl (by decide) (by decide) (Nat.le_refl _) fun v4 hown4' hg4' _ => ?_
      have hrep : (List.replicate 28 (Value.int .u8 0)) = bv (List.replicate 28 0) := by simp [bv]
      rw [hrep] at hown4'
      refine ⟨⟨by decide, by show (0 : Int) < 28; decide, rfl⟩, ?_⟩
      refine own_put hown4' (i := 0) (by show 0 < 28; decide) rfl fun v5 hown5 hk5 _ => ?_
      have hown5 : Own v5 v3.heap.size t_uint8 1 ⟨some ⟨v3.heap.size, 0, none⟩, 28, 28⟩ (bv ((List.replicate 28 (0 : UInt8)).set 0 2)) := by rw [← bv_set]; exact hown5
      have hg5 : Grow v3 v5 := own_grow' hg4' hown4' (Nat.le_refl _) hk5
      refine ⟨⟨by decide, by show (3 : Int) < 28; decide, rfl⟩, ?_⟩
      refine own_put hown5 (i := 3) (by show 3 < 28; decide) rfl fun v6 hown6 hk6 _ => ?_
      have hown6 : Own v6 v3.heap.size t_uint8 1 ⟨some ⟨v3.heap.size, 0, none⟩, 28, 28⟩ (bv (((List.replicate 28 (0 : UInt8)).set 0 2).set 3 24)) := by rw [← bv_set]; exact hown6
      have hg6 : Grow v3 v6 := own_grow' hg5 hown5 (Nat.le_refl _) hk6
      have f1 : IntKind.wrap .u64 s.from_ = ((s.from_.toNat : Nat) : Int) := by rw [wu64 (by omega) (by omega)]; omega
      have f2 : IntKind.wrap .u64 s.to_ = ((s.to_.toNat : Nat) : Int) := by rw [wu64 (by omega) (by omega)]; omega
      have f3 : IntKind.wrap .u64 s.blocks = ((s.blocks.toNat : Nat) : Int) := by rw [wu64 (by omega) (by omega)]; omega
      refine ⟨s.from_, b0 hg6, ?_⟩
      rw [f1]
      have ll : ∀ {l : L8} {a n v : Nat}, l.length = 28 → a + n ≤ 28 → (lay l a n v).length = 28 := fun h1 h2 => by simp [lay, beN_len]; omega
      have m6 : (((List.replicate 28 (0 : UInt8)).set 0 2).set 3 24).length = 28 := by simp
      have z6 := own_n' hown6
      refine put_spec (at_ := 4) (n := 2) (hown6.rd (by omega)) (by omega) (by decide) (by decide) (by omega) (by omega) fun q7 v7 hown7 hg7 => ?_
      have m7 := ll (a := 4) (n := 2) (v := s.from_.toNat) m6 (by decide)
      have z7 := own_n' hown7
      have h7 := hg6.trans hg7
      refine ⟨s.to_, b1 h7, ?_⟩
      rw [f2]
      refine put_spec (at_ := 6) (n := 2) (hown7.rd (by omega)) (by omega) (by decide) (by decide) (by omega) (by omega) fun q8 v8 hown8 hg8 => ?_
      have m8 := ll (a := 6) (n := 2) (v := s.to_.toNat) m7 (by decide)
      have z8 := own_n' hown8
      have h8' := h7.trans hg8
      refine ⟨s.blocks, b2 h8', ?_⟩
      rw [f3]
      refine put_spec (at_ := 10) (n := 2) (hown8.rd (by omega)) (by omega) (by decide) (by decide) (by omega) (by omega) fun q9 v9 hown9 hg9 => ?_
      have m9 := ll (a := 10) (n := 2) (v := s.blocks.toNat) m8 (by decide)
      have z9 := own_n' hown9
      have h9 := h8'.trans hg9
      refine ⟨(s.src : Int), b3 h9, ?_⟩
      refine put_spec (at_ := 12) (n := 8) (hown9.rd (by omega)) (by omega) (by decide) (by decide) (by omega) (by have := hN1.1; omega) fun q10 v10 hown10 hg10 => ?_
      have m10 := ll (a := 12) (n := 8) (v := s.src) m9 (by decide)
      have z10 := own_n' hown10
      have h10 := h9.trans hg10
      refine ⟨(s.dst : Int), b4 h10, ?_⟩
      refine put_spec (at_ := 20) (n := 8) (hown10.rd (by omega)) (by omega) (by decide) (by decide) (by omega) (by have := hN1.2; omega) fun q11 v11 hown11 hg11 => ?_
      have h11 := h10.trans hg11
      have es : lay (lay (lay (lay (lay (((List.replicate 28 (0 : UInt8)).set 0 2).set 3 24) 4 2 s.from_.toNat) 6 2 s.to_.toNat) 10 2 s.blocks.toNat) 12 8 s.src) 20 8 s.dst = segB s := by simp [lay, segB, beN, List.replicate]
      rw [es] at hown11
      have z11 := own_n' hown11
      rw [segB_len] at z11
      have hpl : (hdrX us.length ss.length ++ us.flatMap unitB ++ (ss.take k).flatMap segB).length ≤ 1000 := by
        have := units_len hall
        have h2 := segs_len (ss.take k)
        rw [List.length_append, List.length_append, hdrX_len, this, h2, List.length_take]
        omega
      refine (hr1.go (hg13.trans h11)).app (hown11.rd (by omega)) (by rw [segB_len]; omega) fun p2 v12 hp2 _ => ?_
      rw [w64 (by omega) (by omega)]
      refine ⟨⟨k + 1, by omega, by omega, ?_, hallN hok'⟩, by dsimp only; omega⟩
      rw [hnext, ← List.append_assoc]
      exact hp2
    · have hkn : k = ss.length := by omega
      subst hkn
      rw [List.take_length] at hr1 hall1
      rw [bytesX_ok h8 hall hall1] at h
      exact h p1 v1 (hg0.trans hr1.grow) (hr1.own.mono s0)
end Go.Proofs.YtaneeadpjelomaaDoor

/- Layer 15: Parse, as the reference has it. -/
namespace Go.Proofs.YtaneeadpjelomaaDoor
open Go CF

theorem rhead_spec {p : Sl} {l : L8} {w : World} {R : Array Value → Bool → World → Prop} (hp : Rd w 1 p (bv l)) (hB : ∀ s, headX l = some s → ∀ v, Grow w v → R (snv s).toArray false v) (hG : headX l = none → ∀ v, Grow w v → R (snv sn0).toArray true v) : Cpalletref15_head p w R := by
  refine Fpalletref15_head.calls _ _ _ ?_
  have hln := rd_n' hp
  have hnb := hp.nb
  refine new_rule fun ab w0 hab hb0 hg0 hsz0 => ?_
  have fin : ∀ {v : World} (s : Sn) {b : Bool}, Grow w0 v → (∀ v', Grow w v' → R (snv s).toArray b v') → RunU Tryd.prog (storeVar t_api_Sense ⟨ab, 0, none⟩ (.agg (snv s).toArray)) v fun v1 => ∃ res : Array Value, (loadVar t_api_Sense ⟨ab, 0, none⟩).run Tryd.prog v1 = .ok (.agg res) v1 ∧ R res b v1 := fun {v} s {b} hv hR =>
    sret_rule (hv.heap hb0 (fun q => q)) rfl fun v' hk => hR v' (grow_new (hg0.trans hv) (by omega) hk)
  by_cases h16 : l.length < 16
  · exact br_t (by rw [decide_eq_true_eq]; omega) (fin (badS 6656) (Keep.refl _ _) (hB _ (if_pos h16)))
  refine br_f (by rw [decide_eq_false_iff_not]; omega) ?_
  have hx : headX l = if num (sub l 0 2) ≠ 0 then some (badF 0) else if num (sub l 4 4) ≠ 0 then some (badF 4) else if num (sub l 12 4) ≠ 0 then some (badF 12)
      else if nuX l % 32 ≠ 0 then some (badF 2) else if nsX l % 28 ≠ 0 then some (badF 8) else if l.length ≠ 16 + nuX l + nsX l then some (badS 0x1a00)
      else if 256 < nuX l ∨ 224 < nsX l then some (badS 0x2608) else none := if_neg h16
  have hp1 := hp.grow hg0
  refine ref_num_spec (at_ := 2) (n := 2) hp1 (by decide) (by decide) (by omega) ?_
  refine ref_num_spec (at_ := 8) (n := 4) hp1 (by decide) (by decide) (by omega) ?_
  refine ref_num_spec (at_ := 0) (n := 2) hp1 (by decide) (by decide) (by omega) ?_
  have fail : ∀ {f : Nat}, headX l = some (badF f) → Cpalletref15_fault (f : Int) w0 fun g v => RunU Tryd.prog (storeVar t_api_Sense ⟨ab, 0, none⟩ (.agg g)) v fun v1 => ∃ res : Array Value, (loadVar t_api_Sense ⟨ab, 0, none⟩).run Tryd.prog v1 = .ok (.agg res) v1 ∧ R res false v1 := fun {f} e =>
    fault_spec fun v hv => fin (badF f) hv (hB _ e)
  have lu := num_take (l.drop 2) 2
  have ls_ := num_take (l.drop 8) 4
  have p2 : (256 : Nat) ^ 2 = 65536 := rfl
  have p4 : (256 : Nat) ^ 4 = 4294967296 := rfl
  rw [p2] at lu
  rw [p4] at ls_
  have hnu : num ((l.drop 2).take 2) = nuX l := rfl
  have hns : num ((l.drop 8).take 4) = nsX l := rfl
  rw [hnu] at lu ⊢
  rw [hns] at ls_ ⊢
  have e0 : num ((l.drop 0).take 2) = num (sub l 0 2) := rfl
  rw [e0]
  by_cases q0 : num (sub l 0 2) = 0
  case neg => exact br_t (by rw [bne_iff_ne]; omega) (fail (f := 0) (by rw [hx, if_pos q0]))
  rw [if_neg (fun r => r q0)] at hx
  refine br_f (by rw [bne_eq_false_iff_eq]; omega) ?_
  refine ref_num_spec (at_ := 4) (n := 4) hp1 (by decide) (by decide) (by omega) ?_
  have e4 : num ((l.drop 4).take 4) = num (sub l 4 4) := rfl
  rw [e4]
  by_cases q4 : num (sub l 4 4) = 0
  case neg => exact br_t (by rw [bne_iff_ne]; omega) (fail (f := 4) (by rw [hx, if_pos q4]))
  rw [if_neg (fun r => r q4)] at hx
  refine br_f (by rw [bne_eq_false_iff_eq]; omega) ?_
  refine ref_num_spec (at_ := 12) (n := 4) hp1 (by decide) (by decide) (by omega) ?_
  have e12 : num ((l.drop 12).take 4) = num (sub l 12 4) := rfl
  rw [e12]
  by_cases q12 : num (sub l 12 4) = 0
  case neg => exact br_t (by rw [bne_iff_ne]; omega) (fail (f := 12) (by rw [hx, if_pos q12]))
  rw [if_neg (fun r => r q12)] at hx
  have wu : IntKind.wrap .i64 (nuX l : Int) = (nuX l : Int) := w64 (by omega) (by omega)
  have ws : IntKind.wrap .i64 (nsX l : Int) = (nsX l : Int) := w64 (by omega) (by omega)
  have m32 : ((nuX l : Int).tmod 32) = ((nuX l % 32 : Nat) : Int) := rfl
  have m28 : ((nsX l : Int).tmod 28) = ((nsX l % 28 : Nat) : Int) := rfl
  rw [wu, ws, m32, m28]
  refine br_f (by rw [bne_eq_false_iff_eq]; omega) ⟨by decide, ?_⟩
  by_cases q32 : nuX l % 32 = 0
  case neg => exact br_t (by rw [bne_iff_ne]; omega) (fail (f := 2) (by rw [hx, if_pos q32]))
  rw [if_neg (fun r => r q32)] at hx
  refine br_f (by rw [bne_eq_false_iff_eq]; omega) ⟨by decide, ?_⟩
  by_cases q28 : nsX l % 28 = 0
  case neg => exact br_t (by rw [bne_iff_ne]; omega) (fail (f := 8) (by rw [hx, if_pos q28]))
  rw [if_neg (fun r => r q28)] at hx
  have e16 : IntKind.wrap .i64 (16 + (nuX l : Int)) = ((16 + nuX l : Nat) : Int) := by rw [w64 (by omega) (by omega)]; omega
  have eAll : IntKind.wrap .i64 (((16 + nuX l : Nat) : Int) + (nsX l : Int)) = ((16 + nuX l + nsX l : Nat) : Int) := by rw [w64 (by omega) (by omega)]; omega
  rw [e16, eAll]
  refine br_f (by rw [bne_eq_false_iff_eq]; omega) ?_
  by_cases qL : l.length = 16 + nuX l + nsX l
  case neg => exact br_t (by rw [bne_iff_ne]; omega) (fin (badS 6656) (Keep.refl _ _) (hB _ (by rw [hx, if_pos qL])))
  rw [if_neg (fun r => r qL)] at hx
  refine br_f (by rw [bne_eq_false_iff_eq]; omega) ?_
  by_cases qM : 256 < nuX l ∨ 224 < nsX l
  · exact br_t (by rw [Bool.or_eq_true, decide_eq_true_eq, decide_eq_true_eq]; omega) (fin (badS 9736) (Keep.refl _ _) (hB _ (by rw [hx, if_pos qM])))
  rw [if_neg qM] at hx
  exact br_f (by rw [Bool.or_eq_false_iff, decide_eq_false_iff_not, decide_eq_false_iff_not]; omega) (fin sn0 (Keep.refl _ _) (hG hx))
end Go.Proofs.YtaneeadpjelomaaDoor

/- Rows of bytes with the same number are the same. -/
namespace Go.Proofs.YtaneeadpjelomaaDoor
open Go CF

theorem num_inj : ∀ {a b : L8}, a.length = b.length → num a = num b → a = b
  | [], [], _, _ => rfl
  | [], _ :: _, h, _ => by simp at h
  | _ :: _, [], h, _ => by simp at h
  | x :: r, y :: t, h, hn => by
    have hl : r.length = t.length := by simpa using h
    rw [num_cons, num_cons, hl] at hn
    have h1 := num_lt r
    have h2 := num_lt t
    rw [hl] at h1
    have hx := x.toNat_lt
    have hy := y.toNat_lt
    have e1 : x.toNat = y.toNat := by
      have q1 := Nat.div_eq_of_lt h1
      have q2 := Nat.div_eq_of_lt h2
      have := congrArg (· / 256 ^ t.length) hn
      have hp : 0 < 256 ^ t.length := Nat.pow_pos (by decide)
      rw [Nat.add_comm, Nat.add_mul_div_right _ _ hp, q1, Nat.add_comm (y.toNat * _), Nat.add_mul_div_right _ _ hp, q2] at this
      omega
    rw [e1] at hn
    rw [UInt8.toNat_inj.1 e1, num_inj hl (by omega)]
end Go.Proofs.YtaneeadpjelomaaDoor
