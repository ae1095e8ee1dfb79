import Derived.Test.YtaneeadpjelomaaWo4
/- Layer 3: what waits is done; how much waits. -/
namespace Go.Proofs.Ytaneeadpjelomaa
open Go CF

def apC (F : Files) (c : Cg) : Files := applyWr F c.name c.off c.p
def apAll (F : Files) (l : List Cg) : Files := l.foldl apC F
theorem apAll_snoc (F : Files) (l : List Cg) (c : Cg) : apAll F (l ++ [c]) = apC (apAll F l) c := by simp [apAll]
/-- all that waits is written within bounds -/
def Wok (st : Wst) : Prop := ∀ c ∈ st.waits, c.kind = 119 ∧ c.off + c.p.length ≤ 1048576
theorem sync_spec {w : World} {pw : Nat} {D : Nat → Prop} {st : Wst} {R : Int → World → Prop} (hw : IsW w pw D st) (hk : Wok st) (ho : st.ops < 1000000000000) (hn : st.waits.length < 1000000000)
    (h : ∀ w' D', Keep D w w' → IsW w' pw D' ⟨st.seen, apAll st.dur st.waits, [], st.ops + 1⟩ → (∀ k, D' k → D k ∨ w.heap.size ≤ k) → R 0 w') : Cworld_World_Sync (some ⟨pw, 0, none⟩) w R := by
  obtain ⟨mb, md, ws, cs, hw⟩ := hw
  refine Fworld_World_Sync.calls _ _ _ ?_
  refine br_f rfl ?_
  refine call_spec hw ho fun w1 hk1 hw1 => br_f rfl ⟨rfl, ws, by rw [gA, add0, hw1.blk.cell]; rfl, ?_⟩
  have hk1D : Keep D w w1 := hk1.mono fun _ _ q => by subst q; exact hw.dw
  have hlen : cs.length = st.waits.length := by rw [← hw.waits, List.length_map]
  have hwn : ws.n = cs.length := by have := hw.own.len; rw [cgv_flat] at this; omega
  refine ⟨fun x u => ∃ j : Nat, x = j ∧ j ≤ cs.length ∧ Keep D w u ∧ IsWd u pw D ⟨st.seen, apAll st.dur (st.waits.take j), st.waits, st.ops + 1⟩ mb md ws cs, fun x _ => cs.length - x.toNat,
    ⟨0, rfl, Nat.zero_le _, hk1D, hw1⟩, ?_⟩
  rintro x w2 ⟨j, rfl, hj, hk2, hw2⟩
  refine br_nat (fun hlt => ?_) (fun hge => ?_)
  · have hjc : j < cs.length := by omega
    have hjw : j < st.waits.length := by omega
    have hcj : cs[j].1 = st.waits[j] := by
      have := hw.waits
      simp only [← this, List.getElem_map]
    obtain ⟨hkind, hbnd⟩ := hk _ (List.getElem_mem hjw)
    obtain ⟨a, ha, hc⟩ := (hw2.own.rd (by omega)).elem (i := j) (by omega) (by decide)
    rw [flat_elem cgv_len hjc] at hc
    have lv : ∀ {u : World} {b : Addr}, Cells u b (cgv cs[j]) → (loadVar t_world_change b).run Try.prog u = .ok (.agg (cgv cs[j]).toArray) u := fun q => loadVar_rule g_world_change i_world_change rfl q
    refine ⟨⟨by omega, by omega, by rw [ha]; rfl⟩, (cgv cs[j]).toArray, by rw [ha]; exact lv hc, ?_⟩
    refine new_rule fun cb w3 hcb hb3 hg3 hsz3 => ?_
    have hw3 := hw2.keep hg3 (fun _ _ q => q) (nobytes_none w2)
    refine storeVar_rule (cells := (cgv cs[j]).toArray) hb3 i_world_change rfl rfl (by simp [cgv, Value.oneCell']) fun w4 hb4 hk4 hsz4 => ?_
    have hg4 : Grow w2 w4 := hg3.keep hk4 fun i hi q => by omega
    have hw4 := hw2.keep hg4 (fun _ _ q => q) (nobytes_none w2)
    rintro w5 rfl
    have hg5 : Grow w4 w4.drew := keep_drew w4
    have hw5 := hw4.keep hg5 (fun _ _ q => q) (nobytes_none w4)
    have hb5 : Blk w4.drew cb (cgv cs[j]).toArray t_world_change := hg5.heap hb4 (fun q => q)
    refine ⟨fun u => Blk u pw (wcells mb md ws (st.ops + 1)) t_world_World ∧ Blk u cb (cgv cs[j]).toArray t_world_change, ⟨hw5.blk, hb5⟩, rfl, some md, fun u hu => by rw [gA, add0, hu.1.cell]; rfl, (cgv cs[j]).toArray, fun u hu => lv (blk_cells hu.2), cs[j].2, fun u hu => by rw [add0, hu.2.cell]; rfl, ?_⟩
    have hrow := hw5.rows _ (List.getElem_mem hjc)
    have hpl : cs[j].1.p.length = cs[j].2.n := by have := hrow.len; rw [bv_length] at this; omega
    have e : (cgv cs[j]).toArray = #[.int .u8 119, .string cs[j].1.name, .string cs[j].1.to, .int .i64 (cs[j].1.off : Int), .slice cs[j].2.A cs[j].2.n cs[j].2.c] := by
      unfold cgv; rw [hcj, hkind]
    rw [e]
    refine apply_w_spec hw5.dur (hrow.rd (by rw [hcj] at hpl; omega)) (by rw [hcj]; exact hbnd) fun w6 hk6 hF6 => ?_
    have hw6 := hw5.setDur hk6 hF6
    rw [show (cs[j].1.p).take cs[j].2.n = cs[j].1.p from List.take_of_length_le (by omega)] at hw6
    have hk6D : Keep D w w6 := (((hk2.grow hg4).grow hg5)).trans hk6 fun _ _ q => by subst q; exact hw.dd
    rw [w64 (by omega) (by omega)]
    refine ⟨⟨j + 1, by omega, by omega, hk6D, ?_⟩, by dsimp only; omega⟩
    rw [List.take_succ_eq_append_getElem hjw, apAll_snoc, ← hcj]
    exact hw6
  · have hjn : j = st.waits.length := by omega
    rw [hjn, List.take_length] at hw2
    refine ⟨rfl, ?_⟩
    rw [gA, add0]
    refine put_rule hw2.blk (by show 2 < 7; decide) rfl fun w3 hb3 hk3 hsz3 => ?_
    have hfin := hw2.setWaits (w1 := w2) (w2 := w3) (ws' := ⟨none, 0, 0⟩) (cs' := []) (Keep.mono (Keep.refl (fun _ => False) w2) fun _ _ q => q.elim) (own_nil _ _ _ _) (.inr (.inr rfl)) (fun c hc => by cases hc) hb3 hk3
    have s2 := hk2.size
    refine h w3 (fun k => (k = pw ∨ k = mb ∨ k = md) ∨ some k = (⟨none, 0, 0⟩ : Sl).blk) (hk2.trans hfin.2.1 fun _ _ q => q) ⟨mb, md, ⟨none, 0, 0⟩, [], hfin.1⟩ fun k hk => ?_
    rcases hfin.2.2 k hk with q | q
    · exact .inl q
    · exact .inr (by omega)
theorem waits_spec {w : World} {pw : Nat} {D : Nat → Prop} {st : Wst} {R : Int → World → Prop} (hw : IsW w pw D st) (h : R (st.waits.length : Int) w) : Cworld_World_Waits (some ⟨pw, 0, none⟩) w R := by
  obtain ⟨mb, md, ws, cs, hw⟩ := hw
  refine Fworld_World_Waits.calls _ _ _ (br_f rfl ⟨rfl, ws, by rw [gA, add0, hw.blk.cell]; rfl, ?_⟩)
  have hlen : cs.length = st.waits.length := by rw [← hw.waits, List.length_map]
  have hwn : ws.n = cs.length := by have := hw.own.len; rw [cgv_flat] at this; omega
  rw [hwn, hlen]
  exact h
end Go.Proofs.Ytaneeadpjelomaa
