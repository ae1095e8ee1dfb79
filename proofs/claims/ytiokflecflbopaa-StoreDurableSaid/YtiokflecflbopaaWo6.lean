/- Layer 3: the power goes off and on. -/
import Derived.Test.YtiokflecflbopaaCl
namespace Go.Proofs.Ytiokflecflbopaa
open Go CF

/-- one change at a crash -/
def crash1 (F : Files) (c : Cg) (i keep cut : Nat) : Files :=
  if i < keep then apC F c else if i = keep ∧ 0 < cut then applyWr F c.name c.off (c.p.take cut) else F
def crashN (F : Files) (l : List Cg) (keep cut : Nat) : Nat → Files
  | 0 => F
  | k + 1 => match l[k]? with | some c => crash1 (crashN F l keep cut k) c k keep cut | none => crashN F l keep cut k
theorem crash_spec {w : World} {pw : Nat} {D : Nat → Prop} {st : Wst} {keep cut : Nat} {R : World → Prop} (hw : IsW w pw D st) (hk : Wok st) (hn : st.waits.length < 1000000000)
    (h : ∀ w' D', Keep D w w' → IsW w' pw D' ⟨crashN st.dur st.waits keep cut st.waits.length, crashN st.dur st.waits keep cut st.waits.length, [], 0⟩ → (∀ k, D' k → D k ∨ w.heap.size ≤ k) → R w') :
    Cworld_World_Crash (some ⟨pw, 0, none⟩) (keep : Int) (cut : Int) w R := by
  obtain ⟨mb, md, ws, cs, hw⟩ := hw
  refine Fworld_World_Crash.calls _ _ _ _ _ ?_
  refine br_f rfl ⟨rfl, ws, by rw [gA, add0, hw.blk.cell]; rfl, ?_⟩
  have hlen : cs.length = st.waits.length := by rw [← hw.waits, List.length_map]
  have hwn : ws.n = cs.length := by have := hw.own.len; rw [cgv_flat] at this; omega
  refine ⟨fun x u => ∃ j : Nat, x = j ∧ j ≤ cs.length ∧ Keep D w u ∧ IsWd u pw D ⟨st.seen, crashN st.dur st.waits keep cut j, st.waits, st.ops⟩ mb md ws cs, fun x _ => cs.length - x.toNat,
    ⟨0, rfl, Nat.zero_le _, Keep.mono (Keep.refl (fun _ => False) w) (fun _ _ q => q.elim), hw⟩, ?_⟩
  rintro x w2 ⟨j, rfl, hj, hk2, hw2⟩
  refine br_nat (fun hlt => ?_) (fun hge => ?_)
  · have hjc : j < cs.length := by omega
    have hjw : j < st.waits.length := by omega
    have hcj : cs[j].1 = st.waits[j] := by
      have := hw.waits
      simp only [← this, List.getElem_map]
    obtain ⟨hkind, hbnd⟩ := hk _ (List.getElem_mem hjw)
    obtain ⟨a, ha, hc⟩ := (hw2.own.rd (by omega)).elem (i := j) (by omega) (by decide)
    rw [flat_elem cgv_len hjc] at hc
    have lv : ∀ {u : World} {b : Addr}, Cells u b (cgv cs[j]) → (loadVar t_world_change b).run Try.prog u = .ok (.agg (cgv cs[j]).toArray) u := fun q => loadVar_rule g_world_change i_world_change rfl q
    have hstep : crashN st.dur st.waits keep cut (j + 1) = crash1 (crashN st.dur st.waits keep cut j) cs[j].1 j keep cut := by
      rw [hcj]; simp only [crashN]; rw [List.getElem?_eq_getElem hjw]
    refine ⟨⟨by omega, by omega, by rw [ha]; rfl⟩, (cgv cs[j]).toArray, by rw [ha]; exact lv hc, ?_⟩
    refine new_rule fun cb w3 hcb hb3 hg3 hsz3 => ?_
    refine storeVar_rule (cells := (cgv cs[j]).toArray) hb3 i_world_change rfl rfl (by simp [cgv, Value.oneCell']) fun w4 hb4 hk4 hsz4 => ?_
    have hg4 : Grow w2 w4 := hg3.keep hk4 fun i hi q => by omega
    have hw4 := hw2.keep hg4 (fun _ _ q => q) (nobytes_none w2)
    have hb4 : Blk w4 cb (cgv cs[j]).toArray t_world_change := hb4
    have hrow4 := hw4.rows _ (List.getElem_mem hjc)
    have hpl : cs[j].1.p.length = cs[j].2.n := by have := hrow4.len; rw [bv_length] at this; omega
    have e : (cgv cs[j]).toArray = #[.int .u8 119, .string cs[j].1.name, .string cs[j].1.to, .int .i64 (cs[j].1.off : Int), .slice cs[j].2.A cs[j].2.n cs[j].2.c] := by
      unfold cgv; rw [hcj, hkind]
    have next : ∀ u, Keep D w u → IsWd u pw D ⟨st.seen, crashN st.dur st.waits keep cut (j + 1), st.waits, st.ops⟩ mb md ws cs →
        (∃ j_1 : Nat, IntKind.wrap .i64 ((j : Int) + 1) = j_1 ∧ j_1 ≤ cs.length ∧ Keep D w u ∧ IsWd u pw D ⟨st.seen, crashN st.dur st.waits keep cut j_1, st.waits, st.ops⟩ mb md ws cs) ∧ cs.length - (IntKind.wrap .i64 ((j : Int) + 1)).toNat < cs.length - (j : Int).toNat := fun u hu hwu => by
      rw [w64 (by omega) (by omega)]
      exact ⟨⟨j + 1, by omega, by omega, hu, hwu⟩, by omega⟩
    have doing : ∀ (most : Nat) (K : World → Prop), (∀ u, Keep D w u → IsWd u pw D ⟨st.seen, applyWr (crashN st.dur st.waits keep cut j) cs[j].1.name cs[j].1.off (cs[j].1.p.take most), st.waits, st.ops⟩ mb md ws cs → K u) →
        Cworld_apply (some md) (cgv cs[j]).toArray (most : Int) w4.drew K := fun most K hK => by
      have hg5 : Grow w4 w4.drew := keep_drew w4
      have hw5 := hw4.keep hg5 (fun _ _ q => q) (nobytes_none w4)
      have hrow := hw5.rows _ (List.getElem_mem hjc)
      rw [e]
      refine apply_w_spec hw5.dur (hrow.rd (by rw [hcj] at hpl; omega)) (by rw [hcj]; exact hbnd) fun w6 hk6 hF6 => ?_
      exact hK w6 (((hk2.grow hg4).grow hg5).trans hk6 fun _ _ q => by subst q; exact hw.dd) (hw5.setDur hk6 hF6)
    have hbk : ∀ {u : World}, Grow w4 u → Blk u pw (wcells mb md ws st.ops) t_world_World ∧ Blk u cb (cgv cs[j]).toArray t_world_change := fun g => ⟨g.heap hw4.blk (fun q => q), g.heap hb4 (fun q => q)⟩
    refine br_nat (fun hjk => ?_) (fun hjk => ?_)
    · rintro w5 rfl
      refine ⟨fun u => Blk u pw (wcells mb md ws st.ops) t_world_World ∧ Blk u cb (cgv cs[j]).toArray t_world_change, hbk (keep_drew w4), rfl, some md, fun u hu => by rw [gA, add0, hu.1.cell]; rfl, (cgv cs[j]).toArray, fun u hu => lv (blk_cells hu.2), cs[j].2, fun u hu => by rw [add0, hu.2.cell]; rfl, ?_⟩
      refine doing _ _ fun u hu hwu => next u hu ?_
      rw [show (cs[j].1.p).take cs[j].2.n = cs[j].1.p from List.take_of_length_le (by omega)] at hwu
      rw [hstep, crash1, if_pos hjk]
      exact hwu
    · refine ⟨119, fun _ => by rw [add0, hb4.cell, e]; rfl, ?_⟩
      by_cases q : j = keep ∧ 0 < cut
      · refine br_t (by rw [Bool.and_eq_true, Bool.and_eq_true, beq_iff_eq, decide_eq_true_eq]; exact ⟨⟨by omega, rfl⟩, by omega⟩) ?_
        rintro w5 rfl
        refine ⟨fun u => Blk u pw (wcells mb md ws st.ops) t_world_World ∧ Blk u cb (cgv cs[j]).toArray t_world_change, hbk (keep_drew w4), rfl, some md, fun u hu => by rw [gA, add0, hu.1.cell]; rfl, (cgv cs[j]).toArray, fun u hu => lv (blk_cells hu.2), ?_⟩
        refine doing _ _ fun u hu hwu => next u hu ?_
        rw [hstep, crash1, if_neg (by omega), if_pos q]
        exact hwu
      · refine br_f ?_ (next w4 (hk2.grow hg4) ?_)
        · rw [Bool.and_eq_false_iff, Bool.and_eq_false_iff, beq_eq_false_iff_ne, decide_eq_false_iff_not]
          by_cases q1 : j = keep
          · right; omega
          · left; left; omega
        · rw [hstep, crash1, if_neg (by omega), if_neg q]
          exact hw4
  · have hjn : j = st.waits.length := by omega
    rw [hjn] at hw2
    have hdur := hw2.dur
    obtain ⟨m, ⟨es, c, hbm, hsk, hm⟩, hfa⟩ := hw2.dur
    refine ⟨rfl, some md, by rw [gA, add0, hw2.blk.cell]; rfl, clone_spec hbm ⟨rfl, ?_⟩⟩
    have hg3 : Grow w2 (w2.alloc (.map es c)) := keep_alloc w2 _
    have hsz3 : (w2.alloc (.map es c)).heap.size = w2.heap.size + 1 := by simp
    have hF3 : IsF (w2.alloc (.map es c)) w2.heap.size (crashN st.dur st.waits keep cut st.waits.length) := ⟨m, ⟨es, c, by show (w2.heap.push _)[w2.heap.size]? = _; simp, hsk, hm⟩, fun s => (hfa s).keep hg3 (nobytes_none w2)⟩
    have hw3 := hw2.keep hg3 (fun _ _ q => q) (nobytes_none w2)
    generalize w2.alloc (.map es c) = w3 at *
    rw [gA, add0]
    refine put_rule hw3.blk (by show 0 < 7; decide) rfl fun w4 hb4 hk4 _ => ⟨rfl, ?_⟩
    refine put_rule hb4 (by show 2 < 7; decide) rfl fun w5 hb5 hk5 _ => ⟨rfl, ?_⟩
    refine put_rule hb5 (by show 4 < 7; decide) rfl fun w6 hb6 hk6 _ => ⟨rfl, ?_⟩
    refine put_rule hb6 (by show 3 < 7; decide) rfl fun w7 hb7 hk7 _ => ⟨rfl, ?_⟩
    refine put_rule hb7 (by show 5 < 7; decide) rfl fun w8 hb8 hk8 _ => ⟨rfl, ?_⟩
    refine put_rule hb8 (by show 6 < 7; decide) rfl fun w9 hb9 hk9 _ => ?_
    have hb9 : Blk w9 pw (wcells w2.heap.size md ⟨none, 0, 0⟩ 0) t_world_World := hb9
    have hkp : Keep (fun k => k = pw) w3 w9 := ((((hk4.trans hk5 fun _ _ q => q).trans hk6 fun _ _ q => q).trans hk7 fun _ _ q => q).trans hk8 fun _ _ q => q).trans hk9 fun _ _ q => q
    have nbp : NoBytes w3 fun k => k = pw := fun g cur hg q => by subst q; exact absurd (blk_type hw3.blk hg) (by decide)
    have pwl := lt_of_heap hw2.blk
    have mdl := isF_lt hdur
    have fs := hF3.keep hkp (by omega) nbp
    have fd := hw3.dur.keep hkp hw3.pm.2 nbp
    have s2 := hk2.size
    have s9 := hkp.size
    refine h w9 (fun k => k = pw ∨ k = w2.heap.size ∨ k = md) ((hk2.grow hg3).trans hkp fun _ _ q => by subst q; exact hw.dw) ⟨w2.heap.size, md, ⟨none, 0, 0⟩, [], ?_⟩ fun k hk' => ?_
    · refine ⟨hb9, fs, fd, by omega, own_nil _ _ _ _, rfl, fun c hc => (by cases hc), .inl rfl, .inr (.inl rfl), .inr (.inr rfl), fun g hg => (by simp [Sl.blk] at hg), fun k hk' => (by omega), fun g cur hg q => ?_⟩
      rcases q with q | q | q
      · subst q; exact absurd (blk_type hb9 hg) (by decide)
      · subst q; exact isF_map fs _ _ _ hg
      · subst q; exact isF_map fd _ _ _ hg
    · rcases hk' with q | q | q
      · exact .inl (q ▸ hw.dw)
      · exact .inr (by omega)
      · exact .inl (q ▸ hw.dd)
end Go.Proofs.Ytiokflecflbopaa
