/- Layer 18: the reference's reading, and lists that are alike. -/
import Derived.Test.YtiokflecflbopaaTx3
import Derived.Test.YtiokflecflbopaaCfE
namespace Go.Proofs.Ytiokflecflbopaa
open Go CF

theorem fit_pc (p : Pr) : FitL [.s, .s] (pc p) := ⟨rfl, rfl, trivial⟩
theorem pc_inj {p q : Pr} (h : pc p = pc q) : p = q := by
  simp only [pc, List.cons.injEq, Value.string.injEq, and_true] at h
  exact Prod.ext (str_inj h.1) (str_inj h.2)
theorem flat_api_Pair : flatK Try.prog 8 t_api_Pair = some [.s, .s] := by kernel_rfl
theorem kd_api_Pair : kd Try.prog t_api_Pair = .ag := by kernel_rfl
theorem gt_api_Pair : Try.prog.eqGuardType Try.prog.depth t_api_Pair = false := by kernel_rfl
theorem same_spec {a b : Sl} {ps qs : List Pr} {w : World} {R : Bool → World → Prop} (ha : Rd w 2 a (pvs ps)) (hb : Rd w 2 b (pvs qs))
    (h : ∀ w', Grow w w' → R (decide (ps = qs)) w') : Cpalletref18_Same a b w R := by
  refine Fpalletref18_Same.calls _ _ _ _ ?_
  have hna := rd_pairs ha
  have hnb := rd_pairs hb
  have hba := ha.nb
  refine br_ne (fun hne => ?_) (fun he => ?_)
  · have := h w (Keep.refl _ _)
    rwa [decide_eq_false (fun q => hne (by rw [← hna, ← hnb, q]))] at this
  refine ⟨fun x w' => Grow w w' ∧ ∃ j : Nat, x = j ∧ j ≤ a.n ∧ ps.take j = qs.take j, fun x _ => a.n - x.toNat, ⟨Keep.refl _ _, 0, rfl, by omega, rfl⟩, ?_⟩
  rintro x w0 ⟨hg, j, rfl, hj, hall⟩
  refine br_nat (fun hlt => ?_) (fun hge => ?_)
  · have hja : j < ps.length := by omega
    have hjb : j < qs.length := by omega
    rintro w1 rfl
    have hg1 := hg.trans (keep_drew w0)
    obtain ⟨p, hp, hc⟩ := rd_pair (ha.grow hg1) hja
    obtain ⟨q, hq, hd⟩ := rd_pair (hb.grow hg1) hjb
    obtain ⟨r, hr, hrun⟩ := neq_rule (x := .tmp 20) (y := .tmp 24) flat_api_Pair kd_api_Pair gt_api_Pair (fit_pc ps[j]) (fit_pc qs[j])
    refine ⟨fun u => u = w0.drew, rfl, ⟨by omega, by omega, by rw [hp]; rfl⟩, (pc ps[j]).toArray, ?_, ⟨by omega, by omega, by rw [hq]; rfl⟩, (pc qs[j]).toArray, ?_, r, fun u _ => hrun u, ?_, ?_⟩
    · rintro u rfl; rw [hp]; exact loadVar_rule g_api_Pair i_api_Pair rfl hc
    · rintro u rfl; rw [hq]; exact loadVar_rule g_api_Pair i_api_Pair rfl hd
    · intro ht
      have := h _ hg1
      rwa [decide_eq_false (fun q => hr.1 ht (by simp only [q]))] at this
    · intro hf
      have hpq : ps[j] = qs[j] := by
        by_cases e : ps[j] = qs[j]
        · exact e
        · have : r = true := hr.2 (fun q => e (pc_inj q))
          rw [this] at hf; cases hf
      rw [w64 (by omega) (by omega)]
      exact ⟨⟨hg1, j + 1, by omega, by omega, by rw [List.take_succ_eq_append_getElem hja, List.take_succ_eq_append_getElem hjb, hall, hpq]⟩, by dsimp only; omega⟩
  · have hjn : j = a.n := by omega
    rw [List.take_of_length_le (by omega), List.take_of_length_le (by omega)] at hall
    have := h w0 hg
    rwa [decide_eq_true hall] at this
theorem parse_ref_spec {p : Sl} {bs : L8} {w : World} {R : Sl → Int → World → Prop} (hp : Rd w 1 p (bv bs))
    (h : ∀ s w', Grow w w' → Own w' w.heap.size t_api_Pair 2 s (pvs (parseT bs).1) → s.n ≤ 64 → R s ((parseT bs).2 : Int) w') : Cpalletref18_Parse p w R := by
  refine Fpalletref18_Parse.calls _ _ _ ?_
  have hn : bs.length = p.n := by have := hp.len; rw [bv_length] at this; omega
  refine br_dec (fun hlt => ?_) (fun hle => ?_)
  · have e : parseT bs = ([], 2) := by unfold parseT; rw [if_pos (by omega)]
    have := h ⟨none, 0, 0⟩ w (Keep.refl _ _)
    rw [e] at this
    exact this (own_nil _ _ _ _) (by decide)
  have hb : bs.length ≤ 4096 := by omega
  have hcap := hp.cap
  refine ⟨fun out i w' => ∃ (acc : List Pr) (f : Nat), i = f ∧ f ≤ bs.length ∧ Grow w w' ∧ Own w' w.heap.size t_api_Pair 2 out (pvs acc) ∧ pairs bs = (pairs (bs.drop f)).map (acc ++ ·) ∧ acc.length ≤ f,
    fun _ i _ => bs.length - i.toNat, ⟨[], 0, rfl, by omega, Keep.refl _ _, own_nil _ _ _ _, by simp, by simp⟩, ?_⟩
  rintro out i w0 ⟨acc, f, rfl, hf, hg, hown, hpr, hlen⟩
  have hon : acc.length = out.n := by have := hown.len; rw [pvs_len] at this; omega
  have hrd := hown.rd (by omega)
  refine br_dec (fun hlt => ?_) (fun hge => ?_)
  case refine_2 =>
    have hfn : f = bs.length := by omega
    rw [hfn, List.drop_length, pairs_nil] at hpr
    simp only [Option.map_some, List.append_nil] at hpr
    have hT : parseT bs = if 64 < acc.length then ([], 2) else if dup acc then ([], 9) else (acc, 0) := by
      unfold parseT; rw [if_neg (by omega), hpr]
    refine br_dec (fun h64 => ?_) (fun h64 => ?_)
    · rw [if_pos (by omega)] at hT
      have := h ⟨none, 0, 0⟩ w0 hg
      rw [hT] at this
      exact this (own_nil _ _ _ _) (by decide)
    · rw [if_neg (by omega)] at hT
      refine twice_spec hrd fun w1 hg1 => ⟨fun hd => ?_, fun hd => ?_⟩
      · rw [hd] at hT
        have := h ⟨none, 0, 0⟩ w1 (hg.trans hg1)
        rw [hT] at this
        exact this (own_nil _ _ _ _) (by decide)
      · rw [hd] at hT
        have := h out w1 (hg.trans hg1)
        rw [hT] at this
        exact this (hown.grow hg1) (by omega)
  have hfl : f < bs.length := by omega
  have hne : bs.drop f ≠ [] := fun e => by have := congrArg List.length e; simp at this; omega
  -- the end of the pair
  refine ⟨fun e w' => w' = w0 ∧ ∃ k : Nat, e = k ∧ f ≤ k ∧ k ≤ bs.length ∧ (0 : UInt8) ∉ (bs.drop f).take (k - f), fun e _ => bs.length - e.toNat, ⟨rfl, f, rfl, Nat.le_refl _, by omega, by simp⟩, ?_⟩
  rintro e w1 ⟨rfl, k, rfl, hfk, hk, hno⟩
  have byteAt : ∀ j : Nat, j < bs.length → ∃ n : Int, (w1.cell? ((gA p.A).add ((j : Int).toNat * 1)) = some (.int .u8 n)) ∧ ∃ hj : j < bs.length, n = (bs[j].toNat : Int) ∧ p.A.isSome = true := by
    intro j hj
    obtain ⟨a, ha, hc⟩ := (hp.grow hg).byte (i := j) (by omega)
    exact ⟨_, by rw [ha]; exact hc, hj, rfl, by rw [ha]; rfl⟩
  have ext : ∀ j : Nat, f ≤ j → (hj : j < bs.length) → ∀ c : UInt8, c ∉ (bs.drop f).take (j - f) → bs[j] ≠ c → c ∉ (bs.drop f).take (j + 1 - f) := by
    intro j hfj hj c hc hbc
    rw [show j + 1 - f = (j - f) + 1 by omega, List.take_succ_eq_append_getElem (by simp; omega)]
    simp only [List.mem_append, List.mem_singleton, not_or, List.getElem_drop]
    refine ⟨hc, fun e => hbc ?_⟩
    rw [e]
    congr 1
    omega
  obtain ⟨n0, hcell0, hval0⟩ : ∃ n : Int, (k < p.n → w1.cell? ((gA p.A).add ((k : Int).toNat * 1)) = some (.int .u8 n) ∧ p.A.isSome = true) ∧ ∀ hj : k < bs.length, n = (bs[k].toNat : Int) := by
    by_cases hj : k < bs.length
    · obtain ⟨n, h1, _, h2, h3⟩ := byteAt k hj
      exact ⟨n, fun _ => ⟨h1, h3⟩, fun _ => h2⟩
    · exact ⟨0, fun q => absurd q (by omega), fun q => absurd q hj⟩
  refine ⟨fun hd => ?_, n0, fun hd => (hcell0 (by have := of_decide_eq_true hd; omega)).1, fun ht => ?_, fun hff => ?_⟩
  · have hd := of_decide_eq_true hd
    exact ⟨by omega, hd, (hcell0 (by omega)).2⟩
  · rw [Bool.and_eq_true, decide_eq_true_eq, bne_iff_ne] at ht
    have hj : k < bs.length := by omega
    have hb0 : bs[k] ≠ 0 := fun e => ht.2 (by rw [hval0 hj, e]; rfl)
    rw [w64 (by omega) (by omega)]
    exact ⟨⟨rfl, k + 1, by omega, by omega, by omega, ext k hfk hj 0 hno hb0⟩, by dsimp only; omega⟩
  have hstop : k = bs.length ∨ ∃ hj : k < bs.length, bs[k] = 0 := by
    rcases Nat.lt_or_ge k bs.length with hj | hj
    · right
      rw [Bool.and_eq_false_iff, decide_eq_false_iff_not, bne_eq_false_iff_eq] at hff
      rcases hff with q | q
      · omega
      · refine ⟨hj, ?_⟩
        rw [hval0 hj] at q
        exact UInt8.toNat_inj.1 (by simpa using q)
    · left; omega
  -- the sign between
  refine ⟨fun e w' => w' = w1 ∧ ∃ q : Nat, e = q ∧ f ≤ q ∧ q ≤ k ∧ (61 : UInt8) ∉ (bs.drop f).take (q - f), fun e _ => k - e.toNat, ⟨rfl, f, rfl, Nat.le_refl _, hfk, by simp⟩, ?_⟩
  rintro e w2 ⟨rfl, q, rfl, hfq, hqk, hno2⟩
  obtain ⟨n1, hcell1, hval1⟩ : ∃ n : Int, (q < k → w2.cell? ((gA p.A).add ((q : Int).toNat * 1)) = some (.int .u8 n) ∧ p.A.isSome = true) ∧ ∀ (_ : q < k) (hj : q < bs.length), n = (bs[q].toNat : Int) := by
    by_cases hj : q < k
    · obtain ⟨n, h1, _, h2, h3⟩ := byteAt q (by omega)
      exact ⟨n, fun _ => ⟨h1, h3⟩, fun _ _ => h2⟩
    · exact ⟨0, fun e => absurd e hj, fun e => absurd e hj⟩
  refine ⟨fun hd => ?_, n1, fun hd => (hcell1 (by have := of_decide_eq_true hd; omega)).1, fun ht => ?_, fun hff2 => ?_⟩
  · have hd := of_decide_eq_true hd
    exact ⟨by omega, by omega, (hcell1 (by omega)).2⟩
  · rw [Bool.and_eq_true, decide_eq_true_eq, bne_iff_ne] at ht
    have hj : q < k := by omega
    have hjl : q < bs.length := by omega
    have hb0 : bs[q] ≠ 61 := fun e => ht.2 (by rw [hval1 hj hjl, e]; rfl)
    rw [w64 (by omega) (by omega)]
    exact ⟨⟨rfl, q + 1, by omega, by omega, by omega, ext q hfq hjl 61 hno2 hb0⟩, by dsimp only; omega⟩
  have hstop2 : q = k ∨ ∃ (_ : q < k) (hj : q < bs.length), bs[q] = 61 := by
    rcases Nat.lt_or_ge q k with hj | hj
    · right
      have hjl : q < bs.length := by omega
      rw [Bool.and_eq_false_iff, decide_eq_false_iff_not, bne_eq_false_iff_eq] at hff2
      rcases hff2 with r | r
      · omega
      · refine ⟨hj, hjl, ?_⟩
        rw [hval1 hj hjl] at r
        exact UInt8.toNat_inj.1 (by show bs[q].toNat = 61; omega)
    · left; omega
  have bad : step (bs.drop f) = none → ∀ w', Grow w w' → R ⟨none, 0, 0⟩ 13 w' := by
    intro hs w' hg'
    have hT : parseT bs = ([], 13) := by
      unfold parseT; rw [if_neg (by omega), hpr, pairs_none hne hs]; rfl
    have := h ⟨none, 0, 0⟩ w' hg'
    rw [hT] at this
    exact this (own_nil _ _ _ _) (by decide)
  have hw1 : IntKind.wrap .i64 ((q : Int) + 1) = ((q + 1 : Nat) : Int) := by rw [w64 (by omega) (by omega)]; omega
  have hw2 : IntKind.wrap .i64 ((k : Int) + 1) = ((k + 1 : Nat) : Int) := by rw [w64 (by omega) (by omega)]; omega
  rw [hw1, hw2]
  simp only [Int.toNat_natCast]
  rcases hstop with hkn | ⟨hkl, hk0⟩
  · -- no end
    have hs : step (bs.drop f) = none := by
      unfold step
      rw [cutAt_not (by rw [hkn, show bs.length - f = (bs.drop f).length by simp, List.take_length] at hno; exact hno)]
    have e1 : ((k : Int) == (p.n : Int)) = true := by rw [beq_iff_eq]; omega
    rw [e1]
    exact ⟨fun q => (by cases q), str [], fun q => (by cases q), fun q => (by cases q), fun _ => ⟨fun q => (by cases q), str [], fun q => (by cases q), fun q => (by cases q), fun _ => br_t rfl (bad hs _ hg)⟩⟩
  · have e1 : ((k : Int) == (p.n : Int)) = false := by rw [beq_eq_false_iff_ne]; omega
    rw [e1]
    have hseg : cutAt 0 (bs.drop f) = some ((bs.drop f).take (k - f), bs.drop (k + 1)) := by
      have e : bs.drop f = (bs.drop f).take (k - f) ++ 0 :: bs.drop (k + 1) := by
        have e2 : (bs.drop f).drop (k - f) = 0 :: bs.drop (k + 1) := by
          rw [List.drop_drop, show f + (k - f) = k by omega, List.drop_eq_getElem_cons hkl, hk0]
        rw [← e2, List.take_append_drop]
      conv => lhs; rw [e]
      exact cutAt_of hno
    rcases hstop2 with hqk' | ⟨hql, hqb, hq61⟩
    · have hs : step (bs.drop f) = none := by
        unfold step
        rw [hseg]
        simp only
        rw [cutAt_not (by rw [hqk'] at hno2; exact hno2)]
      have e2 : ((q : Int) == (k : Int)) = true := by rw [beq_iff_eq]; omega
      rw [e2]
      exact ⟨fun q => (by cases q), str [], fun q => (by cases q), fun q => (by cases q), fun _ => ⟨fun q => (by cases q), str [], fun q => (by cases q), fun q => (by cases q), fun _ => br_t rfl (bad hs _ hg)⟩⟩
    · have e2 : ((q : Int) == (k : Int)) = false := by rw [beq_eq_false_iff_ne]; omega
      rw [e2]
      generalize hK : (bs.drop f).take (q - f) = K at *
      generalize hV : (bs.drop (q + 1)).take (k - (q + 1)) = V at *
      have hkv : cutAt 61 ((bs.drop f).take (k - f)) = some (K, V) := by
        have e : (bs.drop f).take (k - f) = K ++ 61 :: V := by
          have h1 : (bs.drop f).take (k - f) = ((bs.drop f).take (k - f)).take (q - f) ++ ((bs.drop f).take (k - f)).drop (q - f) := (List.take_append_drop _ _).symm
          rw [h1, List.take_take, show min (q - f) (k - f) = q - f by omega, hK, List.drop_take, List.drop_drop, show f + (q - f) = q by omega,
            show k - f - (q - f) = (k - (q + 1)) + 1 by omega, List.drop_eq_getElem_cons hqb, List.take_succ_cons, hq61, hV]
        rw [e]
        exact cutAt_of hno2
      have hlK : K.length = q - f := by rw [← hK, List.length_take, List.length_drop]; omega
      have hlV : V.length = k - (q + 1) := by rw [← hV, List.length_take, List.length_drop]; omega
      have rK : ∀ w', Grow w w' → (convert 22 9 (.slice (cutA p.A p.c f 1) (q - f) (p.c - f))).run Try.prog w' = .ok (.string (str K)) w' := fun w' hg' => by
        have := convStr_rule (P := Try.prog) u_sl_uint8 u_uint8 u_string ((hp.grow hg').cutB (l := f) (k := q) (by omega) (by omega))
        rw [hK] at this; exact this
      have rV : ∀ w', Grow w w' → (convert 22 9 (.slice (cutA p.A p.c (q + 1) 1) (k - (q + 1)) (p.c - (q + 1)))).run Try.prog w' = .ok (.string (str V)) w' := fun w' hg' => by
        have := convStr_rule (P := Try.prog) u_sl_uint8 u_uint8 u_string ((hp.grow hg').cutB (l := q + 1) (k := k) (by omega) (by omega))
        rw [hV] at this; exact this
      refine ⟨fun _ => ⟨by omega, by omega, by omega, by omega⟩, str K, fun _ => rK _ hg, fun _ => ?_, fun q => (by cases q)⟩
      refine key_ref_spec (by rw [size_str]; omega) ?_
      rw [ls_str]
      refine ⟨fun _ => ⟨by omega, by omega, by omega, by omega⟩, str V, fun _ => rV _ hg, ?_⟩
      cases hk1 : keyOk K with
      | false =>
        refine ⟨fun q => (by cases q), fun _ => br_t rfl ?_⟩
        exact bad (by unfold step; rw [hseg]; simp only [hkv, hk1, Bool.false_and]; rfl) _ hg
      | true =>
        refine ⟨fun _ => ?_, fun q => (by cases q)⟩
        refine val_ref_spec (by rw [size_str]; omega) ?_
        rw [ls_str]
        cases hv1 : valOk V with
        | false =>
          refine br_t rfl ?_
          exact bad (by unfold step; rw [hseg]; simp only [hkv, hk1, hv1, Bool.and_false]; rfl) _ hg
        | true =>
          refine br_f rfl ?_
          have hstep : step (bs.drop f) = some ((K, V), bs.drop (k + 1)) := by unfold step; rw [hseg]; simp only [hkv, hk1, hv1, Bool.and_true]; rfl
          rintro w5 rfl
          have hg5 : Grow w2 w2.drew := keep_drew w2
          refine ⟨fun u => Grow w u, hg.trans hg5, ⟨by omega, by omega, by omega, by omega⟩, str K, fun u hu => rK u hu, ⟨by omega, by omega, by omega, by omega⟩, str V, fun u hu => rV u hu, ?_⟩
          refine lit_rule (cells := #[.string (str K), .string (str V)]) (e := t_api_Pair) (z := 2) (base := w.heap.size) (by kernel_rfl) rfl (by decide) (by have := hg.size; have := hg5.size; omega) fun w6 hlit hg6 hsz6 => ?_
          have hg06 : Grow w2 w6 := hg5.trans hg6
          refine append_rule u_sl_api_Pair i_api_Pair rfl (by decide) (by decide) (hown.grow hg06) (hlit.rd (by show 1 ≤ _; decide)) (by simp [Value.oneCell']) (by show (out.n + 1) * 32 ≤ _; omega) (by have := hg.size; have := hg06.size; omega) fun s' w7 hn' hown' hk' hbl => ?_
          have hg7 : Grow w w7 := by
            refine (hg.trans hg06).keep hk' fun i hi q => ?_
            have := (hown.ge i q.symm).1
            omega
          refine ⟨⟨acc ++ [(K, V)], k + 1, by omega, by omega, hg7, by rw [pvs_snoc]; exact hown', ?_, by simp; omega⟩, by omega⟩
          rw [hpr, pairs_some hne hstep, Option.map_map]
          congr 1
          funext l
          simp
end Go.Proofs.Ytiokflecflbopaa
