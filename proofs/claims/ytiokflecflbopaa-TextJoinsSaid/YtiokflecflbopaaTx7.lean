/- Layer 18: the reference's writing, the way back, the laws of writing and joining. -/
import Derived.Test.YtiokflecflbopaaTx6
namespace Go.Proofs.Ytiokflecflbopaa
open Go CF

theorem write_ref_spec {l : Sl} {ps : List Pr} {w : World} {R : Sl → Int → World → Prop} (hl : Rd w 2 l (pvs ps)) (hps : ∀ p ∈ ps, PrL p)
    (h : ∀ s w', Grow w w' → Own w' w.heap.size t_uint8 1 s (bv (writeT ps).1) → s.n ≤ 4096 → R s ((writeT ps).2 : Int) w') : Cpalletref18_Write l w R := by
  refine Fpalletref18_Write.calls _ _ _ ?_
  have hn := rd_pairs hl
  refine br_dec (fun hlt => ?_) (fun hle => ?_)
  · have e : writeT ps = ([], 2) := by unfold writeT; rw [if_pos (by omega)]
    have := h ⟨none, 0, 0⟩ w (Keep.refl _ _)
    rw [e] at this
    exact this (own_nil _ _ _ _) (by decide)
  have hn64 : ps.length ≤ 64 := by omega
  have hcap := hl.cap
  refine ⟨fun out x w' => ∃ j : Nat, x = j ∧ j ≤ ps.length ∧ Grow w w' ∧ Own w' w.heap.size t_uint8 1 out (bv (ser (ps.take j))) ∧ (ps.take j).all prOk = true ∧ (ser (ps.take j)).length ≤ 320 * j,
    fun _ x _ => ps.length - x.toNat, ⟨0, rfl, by omega, Keep.refl _ _, own_nil _ _ _ _, rfl, by simp [ser]⟩, ?_⟩
  rintro out x w0 ⟨j, rfl, hj, hg, hown, hall, hser⟩
  have hol : (ser (ps.take j)).length = out.n := by have := hown.len; rw [bv_length] at this; omega
  refine br_nat (fun hlt => ?_) (fun hge => ?_)
  case refine_2 =>
    have hjn : j = ps.length := by omega
    rw [hjn, List.take_length] at hown hall hser hol
    have hT : writeT ps = if 4096 < (ser ps).length then ([], 2) else if dup ps then ([], 9) else (ser ps, 0) := by
      unfold writeT; rw [if_neg (by omega), if_pos hall]
    refine br_dec (fun h4 => ?_) (fun h4 => ?_)
    · rw [if_pos (by omega)] at hT
      have := h ⟨none, 0, 0⟩ w0 hg
      rw [hT] at this
      exact this (own_nil _ _ _ _) (by decide)
    · rw [if_neg (by omega)] at hT
      refine twice_spec (hl.grow hg) fun w1 hg1 => ⟨fun hd => ?_, fun hd => ?_⟩
      · rw [hd] at hT
        have := h ⟨none, 0, 0⟩ w1 (hg.trans hg1)
        rw [hT] at this
        exact this (own_nil _ _ _ _) (by decide)
      · rw [hd] at hT
        have := h out w1 (hg.trans hg1)
        rw [hT] at this
        exact this (hown.grow hg1) (by omega)
  have hjl : j < ps.length := by omega
  obtain ⟨a, ha, hc⟩ := rd_pair (hl.grow hg) hjl
  obtain ⟨hk64, hv64⟩ := hps _ (List.getElem_mem hjl)
  have bounds : (0 : Int) ≤ (j : Int) ∧ (j : Int) < (l.n : Int) ∧ l.A.isSome = true := ⟨by omega, by omega, by rw [ha]; rfl⟩
  have c0 : ∀ {u : World}, Grow w0 u → u.cell? (((gA l.A).add ((j : Int).toNat * 2)).add 0) = some (.string (str ps[j].1)) := fun hu => by rw [ha]; exact hu.cell (hc 0 _ rfl) (fun q => q)
  have c1 : ∀ {u : World}, Grow w u → u.cell? (((gA l.A).add ((j : Int).toNat * 2)).add 1) = some (.string (str ps[j].2)) := fun hu => by
    obtain ⟨b, hb, hcb⟩ := rd_pair (hl.grow hu) hjl
    rw [hb]; exact hcb 1 _ rfl
  have bad : prOk ps[j] = false → ∀ w', Grow w w' → R ⟨none, 0, 0⟩ 13 w' := by
    intro hs w' hg'
    have hT : writeT ps = ([], 13) := by
      unfold writeT; rw [if_neg (by omega), take_all_false hjl hs]; rfl
    have := h ⟨none, 0, 0⟩ w' hg'
    rw [hT] at this
    exact this (own_nil _ _ _ _) (by decide)
  refine ⟨bounds, str ps[j].1, c0 (Keep.refl _ _), key_ref_spec (by rw [size_str]; omega) ?_⟩
  rw [ls_str]
  refine ⟨fun _ => bounds, str ps[j].2, fun _ => c1 hg, ?_⟩
  cases hk : keyOk ps[j].1 with
  | false =>
    refine ⟨fun q => (by cases q), fun _ => br_t rfl ?_⟩
    exact bad (by unfold prOk; rw [hk]; rfl) _ hg
  | true =>
    refine ⟨fun _ => ?_, fun q => (by cases q)⟩
    refine val_ref_spec (by rw [size_str]; omega) ?_
    rw [ls_str]
    cases hv : valOk ps[j].2 with
    | false =>
      refine br_t rfl ?_
      exact bad (by unfold prOk; rw [hk, hv]; rfl) _ hg
    | true =>
      refine br_f rfl ?_
      have hok : prOk ps[j] = true := by unfold prOk; rw [hk, hv]; rfl
      have hkl := keyOk_len hk
      have hvl := valOk_len hv
      have hgs := hg.size
      have keep : ∀ {u u' : World} {o : Sl} {xs : List Value}, Grow w u → Own u w.heap.size t_uint8 1 o xs → Keep (fun k => some k = o.blk) u u' → Grow w u' := fun hu ho hk => hu.keep hk fun i hi q => by
        have := (ho.ge i q.symm).1; omega
      refine ⟨bounds, str ps[j].1, c0 (Keep.refl _ _), ?_⟩
      refine append_str_rule u_sl_uint8 u_string i_uint8 hown (by omega) hgs fun o1 w1 hn1 hown1 hk1 _ => ?_
      have hg1 := keep hg hown hk1
      refine lit_rule (cells := #[.int .u8 61]) (e := t_uint8) (z := 1) (base := w.heap.size) (by kernel_rfl) rfl (by decide) hg1.size fun w2 hlit2 hg2 _ => ?_
      refine append_rule u_sl_uint8 i_uint8 rfl (by decide) (by decide) (hown1.grow hg2) (hlit2.rd (by show 1 ≤ _; decide)) (by simp [Value.oneCell']) (by show (o1.n + 1) * 1 ≤ _; omega) (hg1.trans hg2).size fun o3 w3 hn3 hown3 hk3 _ => ?_
      have hg3 := keep (hg1.trans hg2) (hown1.grow hg2) hk3
      refine ⟨bounds, str ps[j].2, c1 hg3, ?_⟩
      have hown3' : Own w3 w.heap.size t_uint8 1 o3 (bv (ser (ps.take j) ++ ps[j].1 ++ [61])) := by rw [bv_append]; exact hown3
      have hn3' : o3.n = out.n + ps[j].1.length + 1 := by rw [hn3, hn1]
      refine append_str_rule u_sl_uint8 u_string i_uint8 hown3' (by omega) hg3.size fun o4 w4 hn4 hown4 hk4 _ => ?_
      have hg4 := keep hg3 hown3 hk4
      refine lit_rule (cells := #[.int .u8 0]) (e := t_uint8) (z := 1) (base := w.heap.size) (by kernel_rfl) rfl (by decide) hg4.size fun w5 hlit5 hg5 _ => ?_
      refine append_rule u_sl_uint8 i_uint8 rfl (by decide) (by decide) (hown4.grow hg5) (hlit5.rd (by show 1 ≤ _; decide)) (by simp [Value.oneCell']) (by show (o4.n + 1) * 1 ≤ _; omega) (hg4.trans hg5).size fun o6 w6 hn6 hown6 hk6 _ => ?_
      have hg6 := keep (hg4.trans hg5) (hown4.grow hg5) hk6
      have hek : (ps.take (j + 1)) = ps.take j ++ [ps[j]] := List.take_succ_eq_append_getElem hjl
      have es : bv (ser (ps.take (j + 1))) = bv (ser (ps.take j) ++ ps[j].1 ++ [61] ++ ps[j].2) ++ [.int .u8 0] := by
        rw [hek, ser_snoc]; simp [serP, bv]
      rw [w64 (by omega) (by omega)]
      refine ⟨⟨j + 1, by omega, by omega, hg6, by rw [es]; exact hown6, by rw [hek, List.all_append, hall]; simp [hok], ?_⟩, by dsimp only; omega⟩
      rw [hek, ser_snoc, List.length_append]
      have := serP_len hok
      omega
theorem keyOk_not {k : L8} (h : keyOk k = true) {c : UInt8} (hc : kc c = false) : c ∉ k := by
  unfold keyOk at h
  simp only [Bool.and_eq_true, List.all_eq_true] at h
  exact fun q => by rw [h.1.1 c q] at hc; cases hc
theorem valOk_not {k : L8} (h : valOk k = true) {c : UInt8} (hc : vcB c = false) : c ∉ k := by
  unfold valOk at h
  simp only [Bool.and_eq_true, List.all_eq_true] at h
  exact fun q => by rw [h.1 c q] at hc; cases hc
theorem step_serP {p : Pr} (h : prOk p = true) (r : L8) : step (serP p ++ r) = some (p, r) := by
  unfold prOk at h
  rw [Bool.and_eq_true] at h
  have e : serP p ++ r = (p.1 ++ 61 :: p.2) ++ 0 :: r := by simp [serP]
  have n0 : (0 : UInt8) ∉ p.1 ++ 61 :: p.2 := by
    simp only [List.mem_append, List.mem_cons, not_or]
    exact ⟨keyOk_not h.1 (by decide), by decide, valOk_not h.2 (by decide)⟩
  have n1 : (61 : UInt8) ∉ p.1 := keyOk_not h.1 (by decide)
  unfold step
  rw [e, cutAt_of n0]
  simp only
  rw [cutAt_of n1]
  simp only [h.1, h.2, Bool.and_self, if_true]
theorem pairs_ser : ∀ {l : List Pr}, l.all prOk = true → pairs (ser l) = some l
  | [], _ => pairs_nil
  | p :: l, h => by
    rw [List.all_cons, Bool.and_eq_true] at h
    have e : ser (p :: l) = serP p ++ ser l := by simp [ser]
    rw [e, pairs_some (by simp [serP]) (step_serP h.1 _), pairs_ser h.2]
    rfl
theorem writeT_ok {l : List Pr} (h : (writeT l).2 = 0) : l.length ≤ 64 ∧ l.all prOk = true ∧ (ser l).length ≤ 4096 ∧ dup l = false ∧ (writeT l).1 = ser l := by
  unfold writeT at h ⊢
  by_cases h1 : 64 < l.length
  · rw [if_pos h1] at h; cases h
  rw [if_neg h1] at h ⊢
  by_cases h2 : l.all prOk = true
  · rw [if_pos h2] at h ⊢
    by_cases h3 : 4096 < (ser l).length
    · rw [if_pos h3] at h; cases h
    · rw [if_neg h3] at h ⊢
      by_cases h4 : dup l = true
      · rw [if_pos h4] at h; cases h
      · rw [if_neg h4]
        exact ⟨by omega, h2, by omega, by simpa using h4, rfl⟩
  · rw [if_neg h2] at h; cases h
theorem parse_ser {l : List Pr} (h : (writeT l).2 = 0) : parseT (ser l) = (l, 0) := by
  obtain ⟨h1, h2, h3, h4, _⟩ := writeT_ok h
  unfold parseT
  rw [if_neg (by omega), pairs_ser h2]
  simp only
  rw [if_neg (by omega), h4]
  rfl
theorem textWrites_spec {l : Sl} {ps : List Pr} {w : World} {R : Bool → World → Prop} (hl : Rd w 2 l (pvs ps)) (hps : ∀ p ∈ ps, PrL p)
    (h : ∀ w', Grow w w' → R true w') : Cpalletlaw18_TextWrites l w R := by
  refine Fpalletlaw18_TextWrites.calls _ _ _ ?_
  refine awake18_spec fun w0 hg0 => br_f rfl ?_
  refine write_text_spec (hl.grow hg0) hps fun s1 w1 hg1 hown1 hn1 => ?_
  refine write_ref_spec ((hl.grow hg0).grow hg1) hps fun s2 w2 hg2 hown2 hn2 => ?_
  have r1 := (hown1.rd (by omega)).grow hg2
  have r2 := hown2.rd (by omega)
  refine ⟨_, fun _ => convStr_rule u_sl_uint8 u_uint8 u_string r1, _, fun _ => convStr_rule u_sl_uint8 u_uint8 u_string r2, ?_⟩
  refine br_f (by rw [sEq_str]; simp) ?_
  have hg02 := (hg0.trans hg1).trans hg2
  refine br_ne (fun _ => h _ hg02) (fun he => ?_)
  have he0 : (writeT ps).2 = 0 := by omega
  rw [(writeT_ok he0).2.2.2.2] at r1
  refine parse_text_spec r1 fun s3 w3 hg3 hown3 hn3 => ?_
  rw [parse_ser he0] at hown3 ⊢
  refine ⟨fun _ => ?_, fun q => (by cases q)⟩
  refine same_spec (hl.grow (hg02.trans hg3)) (hown3.rd (by omega)) fun w4 hg4 => ?_
  have := h w4 ((hg02.trans hg3).trans hg4)
  simpa using this
end Go.Proofs.Ytiokflecflbopaa
