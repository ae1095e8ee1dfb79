/- Layer 18: pairs as a text. -/
import Derived.Test.YtiokflecflbopaaTx5
namespace Go.Proofs.Ytiokflecflbopaa
open Go CF

def serP (p : Pr) : L8 := p.1 ++ ([61] ++ (p.2 ++ [0]))
def ser (l : List Pr) : L8 := l.flatMap serP
def prOk (p : Pr) : Bool := keyOk p.1 && valOk p.2
def writeT (l : List Pr) : L8 × Nat :=
  if 64 < l.length then ([], 2) else if l.all prOk then (if 4096 < (ser l).length then ([], 2) else if dup l then ([], 9) else (ser l, 0)) else ([], 13)
theorem ser_snoc (l : List Pr) (p : Pr) : ser (l ++ [p]) = ser l ++ serP p := by simp [ser]
theorem keyOk_len {k : L8} (h : keyOk k = true) : k.length ≤ 63 := by
  unfold keyOk at h; simp only [Bool.and_eq_true, decide_eq_true_eq] at h; exact h.2
theorem valOk_len {k : L8} (h : valOk k = true) : k.length ≤ 255 := by
  unfold valOk at h; simp only [Bool.and_eq_true, decide_eq_true_eq] at h; exact h.2
theorem serP_len {p : Pr} (h : prOk p = true) : (serP p).length ≤ 320 := by
  unfold prOk at h
  rw [Bool.and_eq_true] at h
  have h1 := keyOk_len h.1
  have h2 := valOk_len h.2
  simp [serP]
  omega
/-- a pair's cells are strings within reach -/
def PrL (p : Pr) : Prop := p.1.length ≤ 140737488351232 ∧ p.2.length ≤ 140737488351232
theorem take_all_false {l : List Pr} {j : Nat} (hj : j < l.length) (h : prOk l[j] = false) : l.all prOk = false := by
  rw [List.all_eq_false]; exact ⟨l[j], List.getElem_mem hj, by simp [h]⟩
theorem write_text_spec {l : Sl} {ps : List Pr} {w : World} {R : Sl → Int → World → Prop} (hl : Rd w 2 l (pvs ps)) (hps : ∀ p ∈ ps, PrL p)
    (h : ∀ s w', Grow w w' → Own w' w.heap.size t_uint8 1 s (bv (writeT ps).1) → s.n ≤ 4096 → R s ((writeT ps).2 : Int) w') : Ctext_Write l w R := by
  refine Ftext_Write.calls _ _ _ ?_
  have hn := rd_pairs hl
  refine br_dec (fun hlt => ?_) (fun hle => ?_)
  · have e : writeT ps = ([], 2) := by unfold writeT; rw [if_pos (by omega)]
    have := h ⟨none, 0, 0⟩ w (Keep.refl _ _)
    rw [e] at this
    exact this (own_nil _ _ _ _) (by decide)
  have hn64 : ps.length ≤ 64 := by omega
  have hcap := hl.cap
  refine ⟨fun out e x w' => ∃ j : Nat, x = j ∧ j ≤ ps.length ∧ Grow w w' ∧ Own w' w.heap.size t_uint8 1 out (bv (ser (ps.take j))) ∧ (ps.take j).all prOk = true ∧ e = (if dup (ps.take j) then 9 else 0) ∧ (ser (ps.take j)).length ≤ 320 * j,
    fun _ _ x _ => ps.length - x.toNat, ⟨0, rfl, by omega, Keep.refl _ _, own_nil _ _ _ _, rfl, rfl, by simp [ser]⟩, ?_⟩
  rintro out e x w0 ⟨j, rfl, hj, hg, hown, hall, he, hser⟩
  have hol : (ser (ps.take j)).length = out.n := by have := hown.len; rw [bv_length] at this; omega
  refine br_nat (fun hlt => ?_) (fun hge => ?_)
  case refine_2 =>
    have hjn : j = ps.length := by omega
    rw [hjn, List.take_length] at hown hall he hser hol
    have hT : writeT ps = if 4096 < (ser ps).length then ([], 2) else if dup ps then ([], 9) else (ser ps, 0) := by
      unfold writeT; rw [if_neg (by omega), if_pos hall]
    refine br_dec (fun h4 => ?_) (fun h4 => ?_)
    · rw [if_pos (by omega)] at hT
      have := h ⟨none, 0, 0⟩ w0 hg
      rw [hT] at this
      exact this (own_nil _ _ _ _) (by decide)
    · rw [if_neg (by omega)] at hT
      cases hd : dup ps with
      | true =>
        rw [hd] at hT he
        subst he
        refine br_t (by decide) ?_
        have := h ⟨none, 0, 0⟩ w0 hg
        rw [hT] at this
        exact this (own_nil _ _ _ _) (by decide)
      | false =>
        rw [hd] at hT he
        subst he
        refine br_f (by decide) ?_
        have := h out w0 hg
        rw [hT] at this
        exact this hown (by omega)
  have hjl : j < ps.length := by omega
  obtain ⟨a, ha, hc⟩ := rd_pair (hl.grow hg) hjl
  obtain ⟨hk64, hv64⟩ := hps _ (List.getElem_mem hjl)
  refine ⟨⟨by omega, by omega, by rw [ha]; rfl⟩, (pc ps[j]).toArray, ?_, ?_⟩
  · rw [ha]; exact loadVar_rule g_api_Pair i_api_Pair rfl hc
  refine new_rule fun pb w1 hpb hb1 hg1 hsz1 => ?_
  refine storeVar_rule (cells := (pc ps[j]).toArray) hb1 i_api_Pair (by simp [pc]) (by simp [pc]) (by simp [pc, Value.oneCell']) fun w2 hb2 hk2 hsz2 => ?_
  have hgs := hg.size
  have hgw2 : Grow w w2 := (hg.trans hg1).keep hk2 fun i hi q => by omega
  have hown2 : Own w2 w.heap.size t_uint8 1 out (bv (ser (ps.take j))) := (hown.grow hg1).keep hk2 fun b hb q => by
    have := (hown.ge b hb).2; omega
  have hne : out.blk ≠ some pb := fun q => by have := (hown.ge pb q).2; omega
  have bad : prOk ps[j] = false → ∀ w', Grow w w' → R ⟨none, 0, 0⟩ 13 w' := by
    intro hs w' hg'
    have hT : writeT ps = ([], 13) := by
      unfold writeT; rw [if_neg (by omega), take_all_false hjl hs]; rfl
    have := h ⟨none, 0, 0⟩ w' hg'
    rw [hT] at this
    exact this (own_nil _ _ _ _) (by decide)
  have c0 : ∀ {u : World}, Blk u pb (pc ps[j]).toArray 52 → u.cell? ((⟨pb, 0, none⟩ : Addr).add 0) = some (.string (str ps[j].1)) := fun hb => by rw [add0, hb.cell]; rfl
  have c1 : ∀ {u : World}, Blk u pb (pc ps[j]).toArray 52 → u.cell? ((⟨pb, 0, none⟩ : Addr).add 1) = some (.string (str ps[j].2)) := fun hb => by rw [add0, hb.cell]; rfl
  refine ⟨str ps[j].1, c0 hb2, key_text_spec (by rw [size_str]; omega) ?_⟩
  rw [ls_str]
  refine ⟨str ps[j].2, fun _ => c1 hb2, ?_⟩
  cases hk : keyOk ps[j].1 with
  | false =>
    refine ⟨fun q => (by cases q), fun _ => br_t rfl ?_⟩
    exact bad (by unfold prOk; rw [hk]; rfl) _ hgw2
  | true =>
    refine ⟨fun _ => ?_, fun q => (by cases q)⟩
    refine val_text_spec (by rw [size_str]; omega) ?_
    rw [ls_str]
    cases hv : valOk ps[j].2 with
    | false =>
      refine br_t rfl ?_
      exact bad (by unfold prOk; rw [hk, hv]; rfl) _ hgw2
    | true =>
      refine br_f rfl ?_
      have hok : prOk ps[j] = true := by unfold prOk; rw [hk, hv]; rfl
      rintro w3 rfl
      have hg3 : Grow w2 w2.drew := keep_drew w2
      refine ⟨fun u => Blk u pb (pc ps[j]).toArray 52, hg3.heap hb2 (fun q => q), ⟨by omega, by omega, by omega, by omega⟩, str ps[j].1, fun u hu => c0 hu, ?_⟩
      have hcut := (hl.grow (hgw2.trans hg3)).cut (l := 0) (k := j) (Nat.zero_le _) (by omega)
      rw [Nat.zero_mul, List.drop_zero, Nat.sub_zero, Nat.sub_zero] at hcut
      have hpt : (pvs ps).take (j * 2) = pvs (ps.take j) := by
        conv => lhs; rw [← List.take_append_drop j ps]
        unfold pvs
        rw [List.flatMap_append]
        have e : j * 2 = ((ps.take j).flatMap pc).length := by
          have := pvs_len (ps.take j); unfold pvs at this; rw [this, List.length_take]; omega
        rw [e]
        exact List.take_left
      rw [hpt] at hcut
      simp only [Int.toNat_natCast, Nat.sub_zero]
      refine find_text_spec hcut fun w4 hg4 => ?_
      have hgw4 : Grow w2 w4 := hg3.trans hg4
      have hek : (ps.take (j + 1)) = ps.take j ++ [ps[j]] := List.take_succ_eq_append_getElem hjl
      have hkl := keyOk_len hk
      have hvl := valOk_len hv
      have start : Ctx w t_uint8 pb (pc ps[j]).toArray 52 w4.drew out (ser (ps.take j)) [] :=
        ⟨(hown2.grow hgw4).grow (keep_drew w4), (hgw2.trans hgw4).trans (keep_drew w4), (hgw4.trans (keep_drew w4)).heap hb2 (fun q => q), hne, fun p hp => by cases hp⟩
      have fin : ∀ (e2 : Int), e2 = (if dup (ps.take (j + 1)) then 9 else 0) → ∀ (o' : Sl) (u' : World) (lits : List (Sl × UInt8)), Ctx w t_uint8 pb (pc ps[j]).toArray 52 u' o' (ser (ps.take j) ++ ps[j].1 ++ [61] ++ ps[j].2 ++ [0]) lits →
          (∃ j_1 : Nat, IntKind.wrap .i64 ((j : Int) + 1) = j_1 ∧ j_1 ≤ ps.length ∧ Grow w u' ∧ Own u' w.heap.size t_uint8 1 o' (bv (ser (ps.take j_1))) ∧ (ps.take j_1).all prOk = true ∧ e2 = (if dup (ps.take j_1) then 9 else 0) ∧ (ser (ps.take j_1)).length ≤ 320 * j_1) ∧
          ps.length - (IntKind.wrap .i64 ((j : Int) + 1)).toNat < ps.length - (j : Int).toNat := by
        intro e2 he2 o' u' lits hx
        rw [w64 (by omega) (by omega)]
        have es : ser (ps.take (j + 1)) = ser (ps.take j) ++ ps[j].1 ++ [61] ++ ps[j].2 ++ [0] := by rw [hek, ser_snoc]; simp [serP]
        refine ⟨⟨j + 1, by omega, by omega, hx.grow, by rw [es]; exact hx.own, by rw [hek, List.all_append, hall]; simp [hok], he2, ?_⟩, by omega⟩
        rw [hek, ser_snoc, List.length_append]
        have := serP_len hok
        omega
      have b1 : (ser (ps.take j)).length ≤ 20480 := by omega
      have dz : ∀ b4 : Bool, b4 = (find (ps.take j) ps[j].1).isSome → (if b4 then (9 : Int) else e) = (if dup (ps.take (j + 1)) then 9 else 0) := by
        intro b4 hb4
        rw [hek, dup_snoc, ← hb4, he]
        cases b4 <;> cases dup (ps.take j) <;> rfl
      refine ⟨fun hb4 => ?_, fun hb4 => ?_⟩
      all_goals
        rintro w5 rfl
        refine ⟨fun u => Blk u pb (pc ps[j]).toArray 52, start.blk, str ps[j].1, fun u hu => c0 hu, str ps[j].2, fun u hu => c1 hu, ?_⟩
        repeat' first
          | exact Ctx.blk ‹Ctx _ _ _ _ _ _ _ _ _›
          | exact fin _ (by have := dz _ hb4.symm; simpa using this) _ _ _ ‹Ctx _ _ _ _ _ _ _ _ _›
          | refine And.intro ?_ ?_
          | with_reducible refine Ctx.add ‹Ctx _ _ _ _ _ _ _ _ _› (c := 61) (by decide) u_sl_uint8 (by kernel_rfl) (fun _ _ _ => ?_)
          | with_reducible refine Ctx.add ‹Ctx _ _ _ _ _ _ _ _ _› (c := 0) (by decide) u_sl_uint8 (by kernel_rfl) (fun _ _ _ => ?_)
          | with_reducible refine Ctx.str ‹Ctx _ _ _ _ _ _ _ _ _› u_sl_uint8 u_string i_uint8 (by first | omega | (simp; omega)) (fun _ _ _ => ?_)
          | with_reducible refine Ctx.app ‹Ctx _ _ _ _ _ _ _ _ _› List.mem_cons_self u_sl_uint8 i_uint8 (by first | omega | (simp; omega)) (fun _ _ _ => ?_)
          | with_reducible refine Ctx.app ‹Ctx _ _ _ _ _ _ _ _ _› (List.mem_cons_of_mem _ List.mem_cons_self) u_sl_uint8 i_uint8 (by first | omega | (simp; omega)) (fun _ _ _ => ?_)
end Go.Proofs.Ytiokflecflbopaa
