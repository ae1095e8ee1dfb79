/- Layer 18: the law of joining; pairs as arguments. -/
import Derived.Test.YtiokflecflbopaaTx7
import Derived.Test.YtiokflecflbopaaOpn
namespace Go.Proofs.Ytiokflecflbopaa
open Go CF

section
variable {H : Type} {enc : TypeId × Value → H} {w : World} {base : Nat} {spare : Nat → Bool} {held : Bool}
theorem opens_pair : Opens enc Try.prog w base spare held t_api_Pair fun cs => ∃ p : Pr, cs = pc p ∧ PrL p :=
  (opens_flat 8 t_api_Pair [.s, .s] flat_api_Pair (by kernel_rfl)).mono fun cs ⟨h, hv⟩ => by
    match cs, h with
    | [.string a, .string b], _ =>
      refine ⟨(ls a, ls b), by simp only [pc, str_ls], ?_, ?_⟩
      · have := hv (.string a) (by simp); simpa [okV, length_ls] using this
      · have := hv (.string b) (by simp); simpa [okV, length_ls] using this
theorem opens_pairs : Opens enc Try.prog w base spare held t_sl_api_Pair fun cs => ∃ s : Sl, cs = [.slice s.A s.n s.c] ∧ ∃ ps : List Pr, Rd w 2 s (pvs ps) ∧ (∀ p ∈ ps, PrL p) ∧ s.n * 32 ≤ 140737488351232 :=
  (opens_slice (f := pc) (Q := PrL) (z := 2) (bytes := 32) u_sl_api_Pair (by kernel_rfl) (by kernel_rfl) (by decide) pc_len opens_pair).mono fun _ ⟨s, h1, ps, h2, _, h4, h5⟩ => ⟨s, h1, ps, h2, h4, h5⟩
end
theorem ser_append (l m : List Pr) : ser (l ++ m) = ser l ++ ser m := by simp [ser]
def both (l m : List Pr) : Bool := m.any fun q => (find l q.1).isSome
theorem both_snoc (l : List Pr) (q : Pr) (r : List Pr) : both (l ++ [q]) r = (both l r || r.any fun p => decide (p.1 = q.1)) := by
  unfold both
  induction r with
  | nil => rfl
  | cons p s ihs =>
    have hf : (find (l ++ [q]) p.1).isSome = ((find l p.1).isSome || decide (p.1 = q.1)) := by
      unfold find
      rw [List.find?_append]
      cases hfl : List.find? (fun x : Pr => decide (x.1 = p.1)) l with
      | some x => simp
      | none =>
        by_cases hq : q.1 = p.1
        · simp [hq]
        · simp [hq, Ne.symm hq]
    simp only [List.any_cons, hf, ihs]
    cases (find l p.1).isSome <;> cases decide (p.1 = q.1) <;> simp
theorem dup_append (l m : List Pr) : dup (l ++ m) = (dup l || dup m || both l m) := by
  induction m generalizing l with
  | nil => simp [dup, both]
  | cons q r ih =>
    have e : l ++ q :: r = (l ++ [q]) ++ r := by simp
    rw [e, ih, dup_snoc, both_snoc]
    simp only [dup, both, List.any_cons]
    cases dup l <;> cases (find l q.1).isSome <;> cases (r.any fun p => decide (p.1 = q.1)) <;> cases dup r <;> simp
theorem pvs_append (l m : List Pr) : pvs (l ++ m) = pvs l ++ pvs m := by simp [pvs]
theorem pvs_one (l : List Pr) : ∀ u ∈ pvs l, u.oneCell' = true := by
  intro u hu
  simp only [pvs, pc, List.mem_flatMap, List.mem_cons, List.not_mem_nil, or_false] at hu
  obtain ⟨p, _, rfl | rfl⟩ := hu <;> rfl
theorem bv_one (l : L8) : ∀ u ∈ bv l, u.oneCell' = true := by
  intro u hu
  simp only [bv, List.mem_map] at hu
  obtain ⟨p, _, rfl⟩ := hu; rfl
theorem textJoins_spec {l m : Sl} {ps qs : List Pr} {w : World} {R : Bool → World → Prop} (hl : Rd w 2 l (pvs ps)) (hps : ∀ p ∈ ps, PrL p) (hm : Rd w 2 m (pvs qs)) (hqs : ∀ p ∈ qs, PrL p)
    (h : ∀ w', Grow w w' → R true w') : Cpalletlaw18_TextJoins l m w R := by
  refine Fpalletlaw18_TextJoins.calls _ _ _ _ ?_
  refine awake18_spec fun w0 hg0 => br_f rfl ?_
  refine write_text_spec (hl.grow hg0) hps fun s1 w1 hg1 hown1 hn1 => ?_
  refine write_text_spec ((hm.grow hg0).grow hg1) hqs fun s2 w2 hg2 hown2 hn2 => ?_
  have hg02 := (hg0.trans hg1).trans hg2
  by_cases hz : (writeT ps).2 = 0 ∧ (writeT qs).2 = 0
  case neg => exact br_t (by rw [Bool.or_eq_true, bne_iff_ne, bne_iff_ne]; omega) (h _ hg02)
  obtain ⟨hz1, hz2⟩ := hz
  refine br_f (by rw [hz1, hz2]; rfl) ?_
  obtain ⟨p1, p2, p3, p4, p5⟩ := writeT_ok hz1
  obtain ⟨q1, q2, q3, q4, q5⟩ := writeT_ok hz2
  rw [p5] at hown1
  rw [q5] at hown2
  have hnl := rd_pairs hl
  have hnm := rd_pairs hm
  refine ⟨fun b i w' => ∃ j : Nat, i = j ∧ j ≤ qs.length ∧ Grow w2 w' ∧ b = both ps (qs.take j), fun _ i _ => qs.length - i.toNat, ⟨0, rfl, by omega, Keep.refl _ _, rfl⟩, ?_⟩
  rintro b i w3 ⟨j, rfl, hj, hg3, hb⟩
  have hg03 := hg02.trans hg3
  refine br_nat (fun hlt => ?_) (fun hge => ?_)
  · have hjl : j < qs.length := by omega
    obtain ⟨a, ha, hc⟩ := rd_pair (hm.grow hg03) hjl
    refine ⟨⟨by omega, by omega, by rw [ha]; rfl⟩, str qs[j].1, by rw [ha]; exact hc 0 _ rfl, ?_⟩
    refine find_text_spec (hl.grow hg03) fun w4 hg4 => ?_
    rw [w64 (by omega) (by omega)]
    refine ⟨⟨j + 1, by omega, by omega, hg3.trans hg4, ?_⟩, by dsimp only; omega⟩
    rw [List.take_succ_eq_append_getElem hjl, hb]
    unfold both
    rw [List.any_append]
    simp
  have hjn : j = qs.length := by omega
  rw [hjn, List.take_length] at hb
  have l1 : (ser ps).length = s1.n := by have := hown1.len; rw [bv_length] at this; omega
  have l2 : (ser qs).length = s2.n := by have := hown2.len; rw [bv_length] at this; omega
  have r1 := ((hown1.rd (by omega)).grow hg2).grow hg3
  have r2 := (hown2.rd (by omega)).grow hg3
  have hg23 : Grow w0 w3 := (hg1.trans hg2).trans hg3
  refine append_rule (s := ⟨none, 0, 0⟩) (vs := []) (base := w3.heap.size) u_sl_uint8 i_uint8 rfl (by decide) (by decide) (own_nil _ _ _ _) r1 (bv_one _) (by show (0 + s1.n) * 1 ≤ _; omega) (Nat.le_refl _) fun s4 w4 hn4 hown4 hk4 _ => ?_
  have hg4 : Grow w3 w4 := hk4.mono fun i hi q => by cases q
  have hs3 := hg03.size
  refine append_rule (base := w3.heap.size) u_sl_uint8 i_uint8 rfl (by decide) (by decide) hown4 (r2.grow hg4) (bv_one _) (by rw [hn4]; show (0 + s1.n + s2.n) * 1 ≤ _; omega) hg4.size fun s5 w5 hn5 hown5 hk5 _ => ?_
  have hg5 : Grow w3 w5 := hg4.keep hk5 fun i hi q => by have := (hown4.ge i q.symm).1; omega
  rw [List.nil_append, ← bv_append, ← ser_append] at hown5
  have hn4' : s4.n = s1.n := by rw [hn4]; exact Nat.zero_add _
  have hg05 := hg03.trans hg5
  refine parse_text_spec (hown5.rd (by omega)) fun s6 w6 hg6 hown6 hn6 => ?_
  have hg06 := hg05.trans hg6
  rw [w64 (by omega) (by omega)]
  have hall : (ps ++ qs).all prOk = true := by rw [List.all_append, p2, q2]; rfl
  have hlen : (ser (ps ++ qs)).length = s1.n + s2.n := by rw [ser_append, List.length_append, l1, l2]
  have hT : parseT (ser (ps ++ qs)) = if 4096 < s1.n + s2.n then ([], 2) else if 64 < ps.length + qs.length then ([], 2) else if both ps qs then ([], 9) else (ps ++ qs, 0) := by
    unfold parseT
    rw [hlen, pairs_ser hall]
    simp only
    rw [List.length_append, dup_append, p4, q4]
    rfl
  rw [hT] at hown6 ⊢
  by_cases hbig : 4096 < s1.n + s2.n ∨ 64 < ps.length + qs.length
  · refine br_t (by rw [Bool.or_eq_true, decide_eq_true_eq, decide_eq_true_eq]; omega) ?_
    have e2 : (if 4096 < s1.n + s2.n then (([], 2) : List Pr × Nat) else if 64 < ps.length + qs.length then ([], 2) else if both ps qs then ([], 9) else (ps ++ qs, 0)).2 = 2 := by
      rcases hbig with q | q
      · rw [if_pos q]
      · rw [if_pos q]
        split <;> rfl
    rw [e2]
    exact h _ hg06
  · have hb1 : ¬ 4096 < s1.n + s2.n := fun q => hbig (.inl q)
    have hb2 : ¬ 64 < ps.length + qs.length := fun q => hbig (.inr q)
    refine br_f (by rw [Bool.or_eq_false_iff, decide_eq_false_iff_not, decide_eq_false_iff_not]; omega) ?_
    rw [if_neg hb1, if_neg hb2] at hown6 ⊢
    cases hbb : both ps qs with
    | true =>
      rw [hbb] at hb hown6
      subst hb
      refine br_t rfl ?_
      have hn0 : s6.n = 0 := by have := hown6.len; simp [pvs] at this; omega
      rw [hn0]
      exact h _ hg06
    | false =>
      rw [hbb] at hb hown6
      subst hb
      refine br_f rfl ?_
      have hsz6 := hg06.size
      refine append_rule (s := ⟨none, 0, 0⟩) (vs := []) (base := w6.heap.size) u_sl_api_Pair i_api_Pair rfl (by decide) (by decide) (own_nil _ _ _ _) (hl.grow hg06) (pvs_one _) (by show (0 + l.n) * 32 ≤ _; omega) (Nat.le_refl _) fun s7 w7 hn7 hown7 hk7 _ => ?_
      have hg7 : Grow w6 w7 := hk7.mono fun i hi q => by cases q
      have hn7' : s7.n = l.n := by rw [hn7]; exact Nat.zero_add _
      refine append_rule (base := w6.heap.size) u_sl_api_Pair i_api_Pair rfl (by decide) (by decide) hown7 ((hm.grow hg06).grow hg7) (pvs_one _) (by rw [hn7']; omega) hg7.size fun s8 w8 hn8 hown8 hk8 _ => ?_
      have hg8 : Grow w6 w8 := hg7.keep hk8 fun i hi q => by have := (hown7.ge i q.symm).1; omega
      rw [List.nil_append, ← pvs_append] at hown8
      refine ⟨fun _ => ?_, fun q => (by cases q)⟩
      refine same_spec ((hown6.rd (by omega)).grow hg8) (hown8.rd (by omega)) fun w9 hg9 => ?_
      have := h w9 ((hg06.trans hg8).trans hg9)
      simpa using this
end Go.Proofs.Ytiokflecflbopaa
