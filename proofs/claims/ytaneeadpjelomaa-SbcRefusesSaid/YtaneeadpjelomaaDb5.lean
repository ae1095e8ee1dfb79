import Derived.Test.YtaneeadpjelomaaDb4
/- Layer 14: blocks compared. -/
namespace Go.Proofs.Ytaneeadpjelomaa
open Go CF

def firstNe (X Y : L8) : Option Nat := (List.range X.length).find? fun i => decide (X.getD i 0 ≠ Y.getD i 0)
def dif (X Y : L8) : Int := match firstNe X Y with | some i => (i : Int) | none => -1
theorem firstNe_none {X Y : L8} (h : ∀ i, i < X.length → X.getD i 0 = Y.getD i 0) : firstNe X Y = none := by
  unfold firstNe
  rw [List.find?_eq_none]
  intro i hi
  rw [h i (List.mem_range.1 hi)]; simp
theorem firstNe_some {X Y : L8} {i : Nat} (hi : i < X.length) (h : ∀ j, j < i → X.getD j 0 = Y.getD j 0) (hne : X.getD i 0 ≠ Y.getD i 0) : firstNe X Y = some i := by
  unfold firstNe
  rw [List.find?_eq_some_iff_append]
  refine ⟨by simpa using hne, List.range i, (List.range (X.length - i - 1)).map (fun k => i + 1 + k), ?_, fun j hj => ?_⟩
  · have e : X.length = i + (1 + (X.length - i - 1)) := by omega
    conv => lhs; rw [e, List.range_add, List.range_add]
    simp [List.map_map, Nat.add_assoc, Function.comp_def]
  · have := h j (List.mem_range.1 hj)
    rw [decide_eq_false (by simpa using this)]; rfl
theorem dif_none {X Y : L8} (h : firstNe X Y = none) : dif X Y = -1 := by unfold dif; rw [h]
theorem dif_some {X Y : L8} {i : Nat} (h : firstNe X Y = some i) : dif X Y = (i : Int) := by unfold dif; rw [h]
theorem rd_at {w : World} {s : Sl} {l : L8} (h : Rd w 1 s (bv l)) {i : Nat} (hi : i < l.length) : s.A.isSome = true ∧ w.cell? ((gA s.A).add (i * 1)) = some (.int .u8 ((l.getD i 0).toNat : Int)) := by
  obtain ⟨a, ha, hc⟩ := h.byte (i := i) (by rw [← rd_n' h]; exact hi)
  rw [ha]
  refine ⟨rfl, ?_⟩
  rw [List.getD_eq_getElem?_getD, List.getElem?_eq_getElem hi]
  exact hc
theorem differ_spec {a b : Sl} {A B : List Bk} {w : World} {R : Int → World → Prop} (ha : Rd w 19 a (A.flatMap bc)) (hb : Rd w 19 b (B.flatMap bc)) (hA : A.length ≤ 4096) (hB : B.length ≤ 4096) (hl : A.length ≤ B.length)
    (h : ∀ u, Grow w u → R (dif (packB false A) (packB false B)) u) : Csbc_differ a b w R := by
  refine Fsbc_differ.calls _ _ _ _ ?_
  refine pack_spec ha hA fun s1 w1 hown1 hg1 => ?_
  refine pack_spec (hb.grow hg1) hB fun s2 w2 hown2 hg2 => ?_
  have hXl := packB_len false A
  have hYl := packB_len false B
  have e16 : szB false = 16 := rfl
  rw [e16] at hXl hYl
  generalize packB false A = X at *
  generalize packB false B = Y at *
  have hr1 : ∀ v, Grow w2 v → Rd v 1 s1 (bv X) := fun v hv => ((hown1.grow hg2).grow hv).rd (by rw [own_n' hown1]; omega)
  have hr2 : ∀ v, Grow w2 v → Rd v 1 s2 (bv Y) := fun v hv => (hown2.grow hv).rd (by rw [own_n' hown2]; omega)
  have hn1 := own_n' hown1
  have hn2 := own_n' hown2
  refine ⟨fun x v => ∃ j : Nat, x = j ∧ j ≤ X.length ∧ Grow w2 v ∧ ∀ i, i < j → X.getD i 0 = Y.getD i 0, fun x _ => X.length - x.toNat, ⟨0, rfl, Nat.zero_le _, Keep.refl _ _, fun _ q => absurd q (Nat.not_lt_zero _)⟩, ?_⟩
  rintro x v ⟨j, rfl, hj, hgv, hall⟩
  refine br_nat (fun hlt => ?_) (fun hge => ?_)
  · have hjX : j < X.length := by omega
    have hjY : j < Y.length := by omega
    rintro w3 rfl
    have hg3 : Grow w2 v.drew := hgv.trans (keep_drew v)
    refine ⟨fun y => Grow w2 y, hg3, ⟨by omega, by omega, (rd_at (hr1 v hgv) hjX).1⟩, _, fun y hy => by rw [Int.toNat_natCast]; exact (rd_at (hr1 y hy) hjX).2, ⟨by omega, by omega, (rd_at (hr2 v hgv) hjY).1⟩, _, fun y hy => by rw [Int.toNat_natCast]; exact (rd_at (hr2 y hy) hjY).2, ?_⟩
    refine br_ne (fun q => ?_) (fun q => ?_)
    · have := h v.drew ((hg1.trans hg2).trans hg3)
      unfold dif at this
      rw [firstNe_some hjX hall (fun e => q (by rw [e]))] at this
      exact this
    · rw [w64 (by omega) (by omega)]
      refine ⟨⟨j + 1, by omega, by omega, hg3, fun i hi => ?_⟩, by dsimp only; omega⟩
      by_cases e : i = j
      · subst e; exact UInt8.toNat_inj.1 (by omega)
      · exact hall i (by omega)
  · have := h v ((hg1.trans hg2).trans hgv)
    unfold dif at this
    rw [firstNe_none (fun i hi => hall i (by omega))] at this
    exact this
section
variable {w u : World} {dv ps pw : Nat} {file : ByteArray} {kind n : Nat} {cache : Bool} {D D' : Nat → Prop} {st st' : Wst} {bs bs' : List Bk} {m m' : Nat}
theorem dev_verify_spec {c : Cm} {p : Sl} {l : L8} {K : Array Value → World → Prop} (h : Dv w dv ps pw file kind n cache D st bs m) (hm : m ≤ 1000000) (hp : Rd w 1 p (bv l)) (hb : p.n ≤ 140737488351232) (hc : c.lba + c.blocks ≤ n)
    (k1 : c.bytes = true → (l.length % szB (decide (c.prot ≠ 0)) ≠ 0 ∨ l.length / szB (decide (c.prot ≠ 0)) ≠ c.blocks) → ∀ u, Grow w u → K (rsv 2 (badS 0x1a00) nilS).toArray u)
    (k2 : ∀ i (hi : i < ((bs.drop c.lba).take c.blocks).length), chkB kind c.prot (c.lba + i) ((bs.drop c.lba).take c.blocks)[i] ≠ 0 → ∀ u, Keep D w u → IsW u pw D { st with ops := st.ops + c.blocks } →
      K (rsv 2 (atS 11 (chkB kind c.prot (c.lba + i) ((bs.drop c.lba).take c.blocks)[i]) (c.lba + i)) nilS).toArray u)
    (k3 : (∀ i (hi : i < ((bs.drop c.lba).take c.blocks).length), chkB kind c.prot (c.lba + i) ((bs.drop c.lba).take c.blocks)[i] = 0) → c.bytes = true → ∀ i, firstNe (packB false ((bs.drop c.lba).take c.blocks)) (packB false (unpB (decide (c.prot ≠ 0)) l)) = some i → ∀ u, Keep D w u → IsW u pw D { st with ops := st.ops + c.blocks } →
      K (rsv 2 (atS 14 0x1d00 i) nilS).toArray u)
    (k4 : (∀ i (hi : i < ((bs.drop c.lba).take c.blocks).length), chkB kind c.prot (c.lba + i) ((bs.drop c.lba).take c.blocks)[i] = 0) → (c.bytes = true → firstNe (packB false ((bs.drop c.lba).take c.blocks)) (packB false (unpB (decide (c.prot ≠ 0)) l)) = none) → ∀ u, Keep D w u → IsW u pw D { st with ops := st.ops + c.blocks } →
      K (rsv 0 sn0 nilS).toArray u) : Csbc_Dev_verify (some ⟨dv, 0, none⟩) (cmv c).toArray p w K := by
  refine Fsbc_Dev_verify.calls _ _ _ _ _ ?_
  have hsz := h.size
  have hlen := h.len
  refine new_rule fun cb w0 hcb hb0 hg0 hsz0 => ?_
  have hb0 : Blk w0 cb (cmv c).toArray t_api_Cmd := hb0
  refine new_rule fun ab w1 hab hb1 hg1 hsz1 => ?_
  have hb1 : Blk w1 ab z10 t_api_Result := hb1
  have hgw1 := hg0.trans hg1
  have hc1 : Blk w1 cb (cmv c).toArray t_api_Cmd := hg1.heap hb0 (fun q => q)
  have nab : ¬ D ab := fun q => by have := h.isW.lt q; omega
  have ncb : ¬ D cb := fun q => by have := h.isW.lt q; omega
  have sw := hg0.size
  have hLl : ((bs.drop c.lba).take c.blocks).length = c.blocks := by rw [List.length_take, List.length_drop]; omega
  generalize hL : (bs.drop c.lba).take c.blocks = L at *
  refine ⟨c.bytes, by rw [add0, hc1.cell]; rfl, ?_⟩
  generalize hwt : decide (c.prot ≠ 0) = wt at *
  refine letX1 (fun came v => Grow w1 v ∧ (c.bytes = true → l.length / szB wt = c.blocks ∧ Own v w.heap.size t_api_Block 19 came ((unpB wt l).flatMap bc))) ?_ (fun J => ?_)
  · rintro came v ⟨hgv, hcame⟩
    have hcv := hgv.heap hc1 (fun q => q)
    have hav := hgv.heap hb1 (fun q => q)
    have hwv := hgw1.trans hgv
    refine ⟨_, cLoad (blk_cells hcv), ?_⟩
    refine dev_read_spec (h.grow hwv) hm hc (fun hchk xs w4 hk4 hr4 hown4 => ?_) (fun i hi hz w4 hk4 hr4 => ?_)
    · have hw4 := hr4.isW (h.grow hwv).isW
      refine new_rule fun rb w5 hrb hb5 hg5 hsz5 => lay_rule hb5 rfl fun w6 hb6 hk6 hsz6 => br_f rfl ?_
      have hg46 : Grow w4 w6 := hg5.keep hk6 fun i hi q => by omega
      have hc6 : Blk w6 cb (cmv c).toArray t_api_Cmd := hg46.heap (hk4.heap hcv ncb) (fun q => q)
      have ha6 : Blk w6 ab z10 t_api_Result := hg46.heap (hk4.heap hav nab) (fun q => q)
      rw [hL] at hchk hown4
      have hkD6 : Keep D w w6 := ((hwv.mono fun _ _ q => q.elim).trans hk4 fun _ _ q => q).grow hg46
      have s4 := hk4.size
      have swv := hwv.size
      refine ⟨c.bytes, by rw [add0, hc6.cell]; rfl, ?_⟩
      refine letX0 (fun y => Grow w6 y ∧ (c.bytes = true → firstNe (packB false L) (packB false (unpB wt l)) = none)) ?_ (fun J2 => ?_)
      · rintro y ⟨hgy, hno⟩
        refine good_spec fun z hz => ?_
        have haz := (hgy.trans hz).heap ha6 (fun q => q)
        refine ret_rule (st := 0) (s := sn0) (d := nilS) haz rfl fun z2 hk2 => ?_
        exact k4 hchk hno z2 (keepD_new ((hkD6.grow hgy).grow hz) (by omega) hk2) (isW_new ((((hw4.grow hg46).grow hgy)).grow hz) haz tne_result nab hk2)
      · by_cases hby : c.bytes = true
        · refine br_t hby ?_
          obtain ⟨hdv, hcame⟩ := hcame hby
          have hUl : (unpB wt l).length = c.blocks := by rw [unpB_len]; exact hdv
          have hown6 := hown4.grow hg46
          have hcame6 : Own w6 w.heap.size t_api_Block 19 came ((unpB wt l).flatMap bc) := (hcame.keep hk4 fun b hbb q => by
            have := (hcame.ge b hbb).1
            have := h.isW.lt q
            omega).grow hg46
          refine differ_spec (hown6.rd (by have := hown6.len; rw [flat_bc_len] at this; omega)) (hcame6.rd (by have := hcame6.len; rw [flat_bc_len] at this; omega)) (by omega) (by omega) (by omega) fun y hy => ?_
          cases hf : firstNe (packB false L) (packB false (unpB wt l)) with
          | none => rw [dif_none hf]; exact br_f (by rw [decide_eq_false_iff_not]; omega) (J2 y ⟨hy, fun _ => hf⟩)
          | some i =>
            rw [dif_some hf]
            have hil : i < 65536 + 1 := by
              have := List.mem_of_find?_eq_some hf
              rw [List.mem_range, packB_len] at this
              have e16 : szB false = 16 := rfl
              rw [e16] at this
              omega
            refine br_t (by rw [decide_eq_true_eq]; omega) ?_
            rw [wu64 (by omega) (by omega)]
            refine at_spec (key := 14) (code := 0x1d00) (info := i) fun z hz => ?_
            have haz := (hy.trans hz).heap ha6 (fun q => q)
            refine ret_rule haz rfl fun z2 hk2 => ?_
            exact k3 hchk hby i hf z2 (keepD_new ((hkD6.grow hy).grow hz) (by omega) hk2) (isW_new ((((hw4.grow hg46).grow hy)).grow hz) haz tne_result nab hk2)
        · exact br_f (by simpa using hby) (J2 w6 ⟨Keep.refl _ _, fun q => absurd q hby⟩)
    · have hw4 := hr4.isW (h.grow hwv).isW
      refine new_rule fun rb w5 hrb hb5 hg5 hsz5 => lay_rule hb5 rfl fun w6 hb6 hk6 hsz6 => br_t rfl ⟨_, rLoad (blk_cells hb6), ?_⟩
      have hg46 : Grow w4 w6 := hg5.keep hk6 fun i hi q => by omega
      have ha6 : Blk w6 ab z10 t_api_Result := hg46.heap (hk4.heap hav nab) (fun q => q)
      refine ret_rule ha6 rfl fun w7 hk7 => ?_
      have swv := hwv.size
      have := k2 i (by rw [← hL]; exact hi) (by simp only [← hL]; exact hz) w7 (keepD_new (((hwv.mono fun _ _ q => q.elim).trans hk4 fun _ _ q => q).grow hg46) (by omega) hk7) (isW_new (hw4.grow hg46) ha6 tne_result nab hk7)
      simp only [← hL] at this
      exact this
  · by_cases hby : c.bytes = true
    · refine br_t hby ⟨(c.prot : Int), by rw [add0, hc1.cell]; rfl, ?_⟩
      have ew : ((c.prot : Int) != 0) = wt := by rw [← hwt, Bool.eq_iff_iff, bne_iff_ne, decide_eq_true_eq]; omega
      rw [ew]
      have hln := rd_n' hp
      have hUl : (unpB wt l).length = l.length / szB wt := unpB_len wt l
      have hs16 : 16 ≤ szB wt := by unfold szB; split <;> decide
      have hdiv : l.length / szB wt ≤ l.length := Nat.div_le_self _ _
      have bad : ∀ y, Grow w1 y → (l.length % szB wt ≠ 0 ∨ l.length / szB wt ≠ c.blocks) → Csbc_length y fun g5 w014 => RunU Try.prog (storeVar t_api_Result ⟨ab, 0, none⟩ (.agg g5)) w014 fun w015 => ∃ res3 : Array Value, (loadVar t_api_Result ⟨ab, 0, none⟩).run Try.prog w015 = .ok (.agg res3) w015 ∧ K res3 w015 := fun y hy hq =>
        length_spec fun z hz => ret_rule ((hy.trans hz).heap hb1 (fun q => q)) rfl fun z2 hk2 => k1 hby hq z2 (grow_new ((hgw1.trans hy).trans hz) (by omega) hk2)
      refine unpack_spec (hp.grow hgw1) hb (fun q => ⟨0, fun e => by simp at e, br_t rfl (bad w1 (Keep.refl _ _) (.inl q))⟩) fun hm0 xs y hy hown => ?_
      have hcy := hy.heap hc1 (fun q => q)
      refine ⟨(c.blocks : Int), fun _ => by rw [add0, Blk.cell hcy]; rfl, ?_⟩
      have hxn : xs.n = (unpB wt l).length := by have := hown.len; rw [flat_bc_len] at this; omega
      rw [wu64 (n := (xs.n : Int)) (by omega) (by omega)]
      by_cases hN : l.length / szB wt = c.blocks
      · exact br_f (by rw [Bool.or_eq_false_iff, bne_eq_false_iff_eq]; exact ⟨rfl, by omega⟩) (J xs y ⟨hy, fun _ => ⟨hN, hown.mono hgw1.size⟩⟩)
      · exact br_t (by rw [Bool.or_eq_true, bne_iff_ne]; right; omega) (bad y hy (.inr hN))
    · exact br_f (by simpa using hby) (J nilS w1 ⟨Keep.refl _ _, fun q => absurd q hby⟩)
end
end Go.Proofs.Ytaneeadpjelomaa
