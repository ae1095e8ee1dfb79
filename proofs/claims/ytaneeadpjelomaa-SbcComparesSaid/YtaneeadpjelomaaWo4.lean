/- Layer 3: writes, reads. -/
import Derived.Test.YtaneeadpjelomaaWo3
namespace Go.Proofs.Ytaneeadpjelomaa
open Go CF

theorem bv_one' (l : L8) : ∀ u ∈ bv l, u.oneCell' = true := by
  intro u hu
  simp only [bv, List.mem_map] at hu
  obtain ⟨p, _, rfl⟩ := hu; rfl
theorem name_spec {s : ByteArray} {w : World} {R : Bool → World → Prop} (h : R (decide (1 ≤ s.size ∧ s.size ≤ 32)) w) : Cworld_name s w R := by
  refine Fworld_name.calls _ _ _ ?_
  have e : ((decide ((s.size : Int) ≥ 1)) && (decide ((s.size : Int) ≤ 32))) = decide (1 ≤ s.size ∧ s.size ≤ 32) := by
    rw [Bool.eq_iff_iff, Bool.and_eq_true, decide_eq_true_eq, decide_eq_true_eq, decide_eq_true_eq]
    omega
  unfold Fworld_name
  rw [e]
  exact h
theorem world_write_spec {w : World} {pw : Nat} {D : Nat → Prop} {st : Wst} {file : ByteArray} {off : Nat} {p : Sl} {bs : L8} {R : Int → World → Prop} (hw : IsW w pw D st) (hs : 1 ≤ file.size ∧ file.size ≤ 32) (hp : Rd w 1 p (bv bs)) (hb : off + bs.length ≤ 1048576)
    (ho : st.ops < 1000000000000) (hn : st.waits.length < 1000000000)
    (h : ∀ w' D', Keep D w w' → IsW w' pw D' ⟨applyWr st.seen file off bs, st.dur, st.waits ++ [⟨119, file, ⟨#[]⟩, off, bs⟩], st.ops + 1⟩ → (∀ k, D' k → D k ∨ w.heap.size ≤ k) → R 0 w') :
    Cworld_World_Write (some ⟨pw, 0, none⟩) file (off : Int) p w R := by
  refine Fworld_World_Write.calls _ _ _ _ _ _ ?_
  have hpn : bs.length = p.n := by have := hp.len; rw [bv_length] at this; omega
  refine name_spec ?_
  rw [decide_eq_true hs]
  refine br_f (by rw [Bool.or_eq_false_iff, decide_eq_false_iff_not]; exact ⟨rfl, by omega⟩) ?_
  have hwp : IntKind.wrap .i64 (1048576 - (off : Int)) = 1048576 - (off : Int) := w64 (by omega) (by omega)
  refine br_f (by rw [Bool.or_eq_false_iff, decide_eq_false_iff_not, decide_eq_false_iff_not, hwp]; omega) (br_f rfl ?_)
  refine append_rule (s := ⟨none, 0, 0⟩) (vs := []) (base := 0) u_sl_uint8 i_uint8 rfl (by decide) (by decide) (own_nil _ _ _ _) hp (bv_one' _) (by show (0 + p.n) * 1 ≤ _; omega) (Nat.zero_le _) fun s1 w1 hn1 hown1 hk1 _ => ?_
  have hg1 : Grow w w1 := hk1.mono fun i hi q => by cases q
  rw [List.nil_append] at hown1
  have hsz := hg1.size
  refine do_w_spec (hw.grow hg1) hown1 hb ho hn fun w2 D' hk2 hw2 hD => h w2 D' ((hg1.mono fun _ _ q => q.elim).trans hk2 fun _ _ q => q) hw2 fun k hk => ?_
  rcases hD k hk with q | q
  · exact .inl q
  · exact .inr (by omega)
theorem world_read_spec {w : World} {pw : Nat} {D : Nat → Prop} {st : Wst} {file : ByteArray} {off n : Nat} {R : Sl → Int → World → Prop} (hw : IsW w pw D st) (hs : 1 ≤ file.size ∧ file.size ≤ 32) (hb : off ≤ 1000000000) (hb2 : n ≤ 1000000000)
    (ho : st.ops < 1000000000000)
    (h : ∀ s w', Keep D w w' → IsW w' pw D { st with ops := st.ops + 1 } → Own w' w.heap.size t_uint8 1 s (bv ((((st.seen file).getD []).drop off).take n)) → s.n ≤ 1048576 → R s (if (st.seen file).isSome then 0 else 8) w') :
    Cworld_World_Read (some ⟨pw, 0, none⟩) file (off : Int) (n : Int) w R := by
  obtain ⟨mb, md, ws, cs, hw⟩ := hw
  refine Fworld_World_Read.calls _ _ _ _ _ _ ?_
  refine name_spec ?_
  rw [decide_eq_true hs]
  refine br_f (by rw [Bool.or_eq_false_iff, Bool.or_eq_false_iff, decide_eq_false_iff_not, decide_eq_false_iff_not]; exact ⟨⟨rfl, by omega⟩, by omega⟩) (br_f rfl ⟨rfl, some mb, by rw [gA, add0, hw.blk.cell]; rfl, ?_⟩)
  obtain ⟨r, hlk, _, hown, hr2, hol⟩ := file_look hw.seen file
  refine ⟨r, hlk, ?_⟩
  refine call_spec hw ho fun w1 hk1 hw1 => br_f rfl ?_
  have hkD : Keep D w w1 := hk1.mono fun _ _ q => by subst q; exact hw.dw
  have hw1' : IsW w1 pw D { st with ops := st.ops + 1 } := ⟨mb, md, ws, cs, hw1⟩
  have hsz := hk1.size
  cases hF : st.seen file with
  | none =>
    rw [hF] at hr2
    refine br_t (by rw [hr2]; rfl) ?_
    have := h ⟨none, 0, 0⟩ w1 hkD hw1'
    rw [hF] at this
    exact this (by simp only [Option.getD_none, List.drop_nil, List.take_nil]; exact own_nil _ _ _ _) (Nat.zero_le _)
  | some l =>
    rw [hF] at hr2 hown hol h
    simp only [Option.getD_some, Option.isSome_some, if_true] at hr2 hown hol h
    refine br_f (by rw [hr2]; rfl) ?_
    have hln : l.length = r.1.n := by have := hown.len; rw [bv_length] at this; omega
    have hown1 : Own w1 0 t_uint8 1 r.1 (bv l) := hown.keep hk1 fun b hb3 q => by
      obtain ⟨cur, hc⟩ := own_heap hown hb3
      subst q
      exact absurd (blk_type hw.blk hc) (by decide)
    refine br_dec (fun hge => ?_) (fun hlt => ?_)
    · have := h ⟨none, 0, 0⟩ w1 hkD hw1'
      rw [List.drop_of_length_le (by omega), List.take_nil] at this
      exact this (own_nil w1 w.heap.size t_uint8 1) (Nat.zero_le _)
    · have hrd := hown1.rd (by omega)
      have hcap := hrd.cap
      have e1 : IntKind.wrap .i64 ((r.1.n : Int) - (off : Int)) = ((r.1.n - off : Nat) : Int) := by rw [w64 (by omega) (by omega)]; omega
      have e2 : IntKind.wrap .i64 ((off : Int) + (mn (n : Int) (IntKind.wrap .i64 ((r.1.n : Int) - (off : Int))))) = ((off + min n (r.1.n - off) : Nat) : Int) := by
        rw [e1, mn_nat, w64 (by omega) (by omega)]; omega
      rw [e2]
      refine ⟨⟨by omega, by omega, by omega, hcap⟩, ?_⟩
      simp only [Int.toNat_natCast]
      have hx := hrd.cutB (l := off) (k := off + min n (r.1.n - off)) (by omega) (by omega)
      refine append_rule (s := ⟨none, 0, 0⟩) (vs := []) (base := w.heap.size) u_sl_uint8 i_uint8 rfl (by decide) (by decide) (own_nil _ _ _ _) hx (bv_one' _) (by show (0 + (off + min n (r.1.n - off) - off)) * 1 ≤ _; omega) hsz fun s2 w2 hn2 hown2 hk2 _ => ?_
      have hg2 : Grow w1 w2 := hk2.mono fun i hi q => by cases q
      rw [List.nil_append] at hown2
      have e3 : (l.drop off).take (off + min n (r.1.n - off) - off) = (l.drop off).take n := by
        rw [show off + min n (r.1.n - off) - off = min n (l.drop off).length by rw [List.length_drop]; omega]
        rcases Nat.le_total n (l.drop off).length with q | q
        · rw [Nat.min_eq_left q]
        · rw [Nat.min_eq_right q, List.take_length, List.take_of_length_le q]
      rw [e3] at hown2
      refine h s2 w2 (hkD.grow hg2) (hw1'.grow hg2) hown2 ?_
      have : s2.n = 0 + (off + min n (r.1.n - off) - off) := hn2
      omega
end Go.Proofs.Ytaneeadpjelomaa
