/- Layer 4: the law of what is durable. -/
import Derived.Test.YtiokflecflbopaaSt15
namespace Go.Proofs.Ytiokflecflbopaa
open Go CF

theorem setCache_spec {w : World} {ps pw : Nat} {D : Nat → Prop} {st : Wst} {file : ByteArray} {blocks : Nat} {cache on : Bool} {R : World → Prop} (hS : IsS w ps pw file blocks cache) (hps : ¬ D ps) (hw : IsW w pw D st)
    (h : ∀ u, Keep (fun k => k = ps) w u → IsW u pw D st → IsS u ps pw file blocks on → R u) : Cstore_Store_SetCache (some ⟨ps, 0, none⟩) on w R := by
  refine Fstore_Store_SetCache.calls _ _ _ _ (br_t rfl ⟨rfl, ?_⟩)
  rw [gA, add0]
  refine put_rule hS (by show 3 < 4; decide) rfl fun u hb hk _ => ?_
  exact h u hk (hw.keep hk (fun k hk' q => hps (q ▸ hk')) (fun g cur hg q => by subst q; exact absurd (blk_type hS hg) (by decide))) hb
theorem bk_eql {x y : Operand} (a b : Bk) : ∃ r : Bool, (r = true ↔ a = b) ∧ ∀ w, (do eqGuard .eql t_api_Block x y (.agg (bc a).toArray) (.agg (bc b).toArray); binOp .eql t_api_Block (.agg (bc a).toArray) (.agg (bc b).toArray) : Sem Value).run Try.prog w = .ok (.bool r) w := by
  obtain ⟨r, h1, h2⟩ := eql_rule (x := x) (y := y) flat_api_Block kd_api_Block gt_api_Block (fit_bc a) (fit_bc b)
  exact ⟨r, h1.trans ⟨bc_inj, fun h => by rw [h]⟩, h2⟩
theorem bk_neq {x y : Operand} (a b : Bk) : ∃ r : Bool, (r = true ↔ a ≠ b) ∧ ∀ w, (do eqGuard .neq t_api_Block x y (.agg (bc a).toArray) (.agg (bc b).toArray); binOp .neq t_api_Block (.agg (bc a).toArray) (.agg (bc b).toArray) : Sem Value).run Try.prog w = .ok (.bool r) w := by
  obtain ⟨r, h1, h2⟩ := neq_rule (x := x) (y := y) flat_api_Block kd_api_Block gt_api_Block (fit_bc a) (fit_bc b)
  exact ⟨r, h1.trans ⟨fun h q => h (by rw [q]), fun h q => h (bc_inj q)⟩, h2⟩
theorem bool_iff {a b : Bool} {p : Prop} (h : a = true ↔ p) (k : b = true ↔ p) : a = b := by
  cases a <;> cases b <;> simp_all
theorem bk_eqb (a b : Bk) : ∃ r : Bool, (r = true ↔ a = b) ∧ ∀ (x y : Operand) w, (do eqGuard .eql t_api_Block x y (.agg (bc a).toArray) (.agg (bc b).toArray); binOp .eql t_api_Block (.agg (bc a).toArray) (.agg (bc b).toArray) : Sem Value).run Try.prog w = .ok (.bool r) w := by
  obtain ⟨r, h1, _⟩ := bk_eql (x := .tmp 0) (y := .tmp 0) a b
  refine ⟨r, h1, fun x y w => ?_⟩
  obtain ⟨r', h1', h2'⟩ := bk_eql (x := x) (y := y) a b
  rw [bool_iff h1 h1']; exact h2' w
theorem bk_neb (a b : Bk) : ∃ r : Bool, (r = true ↔ a ≠ b) ∧ ∀ (x y : Operand) w, (do eqGuard .neq t_api_Block x y (.agg (bc a).toArray) (.agg (bc b).toArray); binOp .neq t_api_Block (.agg (bc a).toArray) (.agg (bc b).toArray) : Sem Value).run Try.prog w = .ok (.bool r) w := by
  obtain ⟨r, h1, _⟩ := bk_neq (x := .tmp 0) (y := .tmp 0) a b
  refine ⟨r, h1, fun x y w => ?_⟩
  obtain ⟨r', h1', h2'⟩ := bk_neq (x := x) (y := y) a b
  rw [bool_iff h1 h1']; exact h2' w
/-- a value that is wanted only if a guard holds -/
theorem when_ {α : Type} [Inhabited α] {g : Prop} {A : α → Prop} (h : g → ∃ x, A x) : ∃ x, g → A x := by
  by_cases q : g
  · obtain ⟨x, hx⟩ := h q; exact ⟨x, fun _ => hx⟩
  · exact ⟨default, fun e => absurd e q⟩
theorem storeDurable_spec {l m : Sl} {ls ms : List Bk} {fua sync cache : Bool} {keep cut : Nat} {w : World} {R : Bool → World → Prop} (hl : Rd w 19 l (ls.flatMap bc)) (hm : Rd w 19 m (ms.flatMap bc)) (hkp : keep < 256) (hct : cut < 256)
    (h : ∀ w', Grow w w' → R true w') : Cpalletlaw04_StoreDurable l m fua sync cache (keep : Int) (cut : Int) w R := by
  refine Fpalletlaw04_StoreDurable.calls _ _ _ _ _ _ _ _ _ ?_
  refine awake04_spec fun w0 hg0 => br_f rfl ?_
  have hbl := rd_bk hl
  have hbm := rd_bk hm
  have hlc := hl.cap
  have hmc := hm.cap
  have e1 : mn (l.n : Int) 30 = ((min l.n 30 : Nat) : Int) := mn_nat l.n 30
  rw [e1]
  generalize hN : min l.n 30 = N
  rw [mn_nat]
  generalize hK : min m.n N = K
  have hN30 : N ≤ 30 ∧ N ≤ l.n := by omega
  have hKN : K ≤ N ∧ K ≤ m.n := by omega
  simp only [Int.toNat_natCast, Nat.sub_zero]
  refine world_new_spec fun pa D w1 hg1 hw1 hD1 => ?_
  refine open_spec (blocks := 64) size_s_f (by decide) fun ps w2 hps hg2 hS2 => br_f rfl ⟨⟨by omega, by omega, by omega, hlc⟩, ?_⟩
  have s0 := hg0.size
  have s1 := hg1.size
  have s2 := hg2.size
  have hw2 := hw1.grow hg2
  have hgw2 : Grow w w2 := (hg0.trans hg1).trans hg2
  have nD : ¬ D ps := fun q => by have := hw1.lt q; omega
  have lps := lt_of_heap hS2
  have bD : ∀ k, D k → w.heap.size ≤ k := fun k q => by have := hD1 k q; omega
  have lN : ((ls.drop 0).take (N - 0)).length = N := by rw [List.length_take, List.length_drop]; omega
  have lK : ((ms.drop 0).take (K - 0)).length = K := by rw [List.length_take, List.length_drop]; omega
  obtain ⟨lo, lw⟩ := layW_ops st0 s_f 5 (rsOf ((ls.drop 0).take (N - 0))) ((ls.drop 0).take (N - 0)).length
  have lo : (layW st0 s_f 5 (rsOf ((ls.drop 0).take (N - 0))) ((ls.drop 0).take (N - 0)).length).ops = 0 + ((ls.drop 0).take (N - 0)).length := lo
  have lw : (layW st0 s_f 5 (rsOf ((ls.drop 0).take (N - 0))) ((ls.drop 0).take (N - 0)).length).waits.length = 0 + ((ls.drop 0).take (N - 0)).length := lw
  have ok1 := layW_ok (lba := 5) (file := s_f) wok0 (rsOf_len ((ls.drop 0).take (N - 0))) ((ls.drop 0).take (N - 0)).length (by rw [lN]; omega)
  have so1 := syncIf_ops (syncs ((ls.drop 0).take (N - 0)).length fua cache) (layW st0 s_f 5 (rsOf ((ls.drop 0).take (N - 0))) ((ls.drop 0).take (N - 0)).length)
  have sw1 : (syncIf (syncs ((ls.drop 0).take (N - 0)).length fua cache) (layW st0 s_f 5 (rsOf ((ls.drop 0).take (N - 0))) ((ls.drop 0).take (N - 0)).length)).waits.length ≤ N := by
    rw [syncIf_waits]
    split
    · exact Nat.zero_le _
    · omega
  refine store_write2_spec (lba := 5) (bs := (ls.drop 0).take (N - 0)) hS2 nD hw2 wok0 size_s_f (by decide) (by rw [lN]; omega) (fun u hk => rd_bk_cut (hl.grow (hgw2.keep hk fun i hi q => by have := bD i q; omega)) (Nat.zero_le _) (by omega)) (by show (0 : Nat) < _; decide) (by show (0 : Nat) < _; decide)
    fun w3 D3 hk3 hw3 hD3 hS3 => ?_
  have hw3 : IsW w3 pa D3 (syncIf (syncs ((ls.drop 0).take (N - 0)).length fua cache) (layW st0 s_f 5 (rsOf ((ls.drop 0).take (N - 0))) ((ls.drop 0).take (N - 0)).length)) := hw3
  rw [lN]
  refine br_f (by simp) ?_
  have s3 := hk3.size
  have hgw3 : Grow w w3 := hgw2.keep hk3 fun i hi q => by have := bD i q; omega
  have nD3 : ¬ D3 ps := fun q => by rcases hD3 _ q with r | r; · exact nD r
                                    · omega
  have bD3 : ∀ k, D3 k → w.heap.size ≤ k := fun k q => by
    rcases hD3 k q with r | r
    · exact bD k r
    · omega
  generalize hLL : (ls.drop 0).take (N - 0) = L at *
  generalize hMM : (ms.drop 0).take (K - 0) = M at *
  have hLat : ∀ i (h1 : i < L.length) (h2 : i < ls.length), L[i] = ls[i] := fun i h1 h2 => by subst hLL; simp
  have hMat : ∀ i (h1 : i < M.length) (h2 : i < ms.length), M[i] = ms[i] := fun i h1 h2 => by subst hMM; simp
  have hsafe : (((decide ((N : Int) > 0)) && (fua || (!cache))) || sync) = safeB L fua sync cache := by
    unfold safeB syncs
    rw [lN]
    have : decide ((N : Int) > 0) = decide (0 < N) := by rw [Bool.eq_iff_iff, decide_eq_true_eq, decide_eq_true_eq]; omega
    rw [this]
  rw [hsafe]
  have sync2 : ∀ (J : Int → World → Prop), (∀ (n3 : Int) (w4 : World) (D4 : Nat → Prop), (sync && (n3 != 0)) = false → Grow w w4 → IsW w4 pa D4 (dS2 L fua sync cache) → ¬ D4 ps → (∀ k, D4 k → w.heap.size ≤ k) → IsS w4 ps pa s_f 64 cache → J n3 w4) →
      letJ J (fun J_1 => (sync = true → Cstore_Store_Sync (some ⟨ps, 0, none⟩) w3 J_1) ∧ (sync = false → J_1 (Kd.dflt (.i .i64)) w3)) := fun J hJ => by
    refine ⟨fun q => ?_, fun q => ?_⟩
    · refine store_sync_spec hS3 nD3 hw3 (syncIf_ok ok1) (by omega) (by omega) fun w4 D4 hk4 hw4 hD4 hS4 => hJ 0 w4 D4 (by simp) (hgw3.keep hk4 fun i hi q => by have := bD3 i q; omega) ?_ (fun q => ?_) (fun k q => ?_) hS4
      · unfold dS2; rw [q]; exact hw4
      · rcases hD4 _ q with r | r
        · exact nD3 r
        · have := lt_of_heap hS3; omega
      · rcases hD4 k q with r | r
        · exact bD3 k r
        · have := hgw3.size; omega
    · exact hJ _ w3 D3 (by rw [q]; rfl) hgw3 (by unfold dS2; rw [q]; exact hw3) nD3 bD3 hS3
  have ops2 : (dS2 L fua sync cache).ops ≤ 100 := by
    unfold dS2
    have := syncIf_ops sync (syncIf (syncs L.length fua cache) (layW st0 s_f 5 (rsOf L) L.length))
    omega
  have wts2 : (dS2 L fua sync cache).waits.length ≤ 30 := by
    unfold dS2
    rw [syncIf_waits]
    split
    · exact Nat.zero_le _
    · omega
  have ok2 : Wok (dS2 L fua sync cache) := syncIf_ok (syncIf_ok ok1)
  refine sync2 _ fun n3 w4 D4 hn3 hgw4 hw4 nD4 bD4 hS4 => br_f hn3 ?_
  refine setCache_spec hS4 nD4 hw4 fun w5 hk5 hw5 hS5 => ⟨⟨by omega, by omega, by omega, hmc⟩, ?_⟩
  have s4 := hgw4.size
  have hgw5 : Grow w w5 := hgw4.keep hk5 fun i hi q => by omega
  have hMr : ∀ u, Keep D4 w5 u → Rd u 19 ⟨cutA m.A m.c 0 19, K - 0, m.c - 0⟩ (M.flatMap bc) := fun u hk => by
    have := rd_bk_cut (hm.grow (hgw5.keep hk fun i hi q => by have := bD4 i q; omega)) (l := 0) (k := K) (Nat.zero_le _) (by omega)
    rwa [hMM] at this
  refine store_write2_spec (lba := 5) (bs := M) hS5 nD4 hw5 ok2 size_s_f (by decide) (by rw [lK]; omega) hMr (by omega) (by omega) fun w6 D6 hk6 hw6 hD6 hS6 => ?_
  have hns : syncs M.length false true = false := by unfold syncs; cases decide (0 < M.length) <;> rfl
  rw [hns] at hw6
  have hw6 : IsW w6 pa D6 (layW (dS2 L fua sync cache) s_f 5 (rsOf M) M.length) := hw6
  rw [lK] at hw6 ⊢
  refine br_f (by simp) ?_
  have s5 := hgw5.size
  have s6 := hk6.size
  have hgw6 : Grow w w6 := hgw5.keep hk6 fun i hi q => by have := bD4 i q; omega
  have bD6 : ∀ k, D6 k → w.heap.size ≤ k := fun k q => by
    rcases hD6 k q with r | r
    · exact bD4 k r
    · omega
  rw [w64 (n := (keep : Int)) (by omega) (by omega), w64 (n := (cut : Int)) (by omega) (by omega)]
  obtain ⟨lo2, lw2⟩ := layW_ops (dS2 L fua sync cache) s_f 5 (rsOf M) K
  refine crash_spec hw6 (layW_ok ok2 (rsOf_len M) K (by omega)) (by omega) fun w7 D7 hk7 hw7 hD7 => ?_
  have hdF : crashN (layW (dS2 L fua sync cache) s_f 5 (rsOf M) K).dur (layW (dS2 L fua sync cache) s_f 5 (rsOf M) K).waits keep cut (layW (dS2 L fua sync cache) s_f 5 (rsOf M) K).waits.length = dF L M fua sync cache keep cut := by
    unfold dF; rw [lK]
  rw [hdF] at hw7
  have s7 := hk7.size
  have hgw7 : Grow w w7 := hgw6.keep hk7 fun i hi q => by have := bD6 i q; omega
  have bD7 : ∀ k, D7 k → w.heap.size ≤ k := fun k q => by
    rcases hD7 k q with r | r
    · exact bD6 k r
    · omega
  refine open_spec (blocks := 64) size_s_f (by decide) fun ps2 w8 hps2 hg8 hS8 => br_f rfl ?_
  have hw8 := hw7.grow hg8
  have nD8 : ¬ D7 ps2 := fun q => by have := hw7.lt q; omega
  have hgw8 : Grow w w8 := hgw7.trans hg8
  refine store_read_spec (lba := 5) (n := N) hS8 nD8 hw8 size_s_f (by decide) (by omega) (by show (0 : Nat) < _; decide) fun xs w9 hk9 hw9 hown9 hn9 => ?_
  refine br_f (by simp) ?_
  have s8 := hgw8.size
  have hgw9 : Grow w w9 := hgw8.keep hk9 fun i hi q => by have := bD7 i q; omega
  generalize hG : rdBl ⟨dF L M fua sync cache keep cut, dF L M fua sync cache keep cut, [], 0⟩ s_f 5 N = G at hown9
  have hGl : G.length = N := by rw [← hG]; simp [rdBl]
  have hGat : ∀ i (hi : i < G.length), G[i] = blkAt (fcont (dF L M fua sync cache keep cut) s_f) (5 + i) := fun i hi => by
    subst hG
    simp only [rdBl, List.getElem_map, List.getElem_range]
    rfl
  have hrx := hown9.rd (by omega)
  refine ⟨fun i u => ∃ j : Nat, i = j ∧ j ≤ N ∧ Grow w9 u, fun i _ => N - i.toNat, ⟨0, rfl, Nat.zero_le _, Keep.refl _ _⟩, ?_⟩
  rintro i w10 ⟨j, rfl, hj, hg10⟩
  refine br_nat (fun hlt => ?_) (fun hge => h w10 (hgw9.trans hg10))
  rintro w11 rfl
  have hg11 : Grow w9 w10.drew := hg10.trans (keep_drew w10)
  have hjG : j < G.length := by omega
  have hjl : j < ls.length := by omega
  have hjL : j < L.length := by omega
  obtain ⟨ax, hax, _⟩ := rd_bk_at hrx hjG
  have cx : ∀ {u : World}, Grow w9 u → (loadVar t_api_Block ((gA xs.A).add ((j : Int).toNat * 19))).run Try.prog u = .ok (.agg (bc G[j]).toArray) u := fun hu => by
    obtain ⟨a, ha, hc⟩ := rd_bk_at (hrx.grow hu) hjG
    rw [ha]; exact loadVar_rule g_api_Block i_api_Block (by rw [bc_len]) hc
  have bx : (0 : Int) ≤ (j : Int) ∧ (j : Int) < (xs.n : Int) ∧ xs.A.isSome = true := ⟨by omega, by omega, by rw [hax]; rfl⟩
  obtain ⟨al, hal, _⟩ := rd_bk_at hl hjl
  have cl : ∀ {u : World}, Grow w9 u → (loadVar t_api_Block ((gA l.A).add ((j : Int).toNat * 19))).run Try.prog u = .ok (.agg (bc ls[j]).toArray) u := fun hu => by
    obtain ⟨a, ha, hc⟩ := rd_bk_at (hl.grow (hgw9.trans hu)) hjl
    rw [ha]; exact loadVar_rule g_api_Block i_api_Block (by rw [bc_len]) hc
  have bl : (0 : Int) ≤ (j : Int) ∧ (j : Int) < (l.n : Int) ∧ l.A.isSome = true := ⟨by omega, by omega, by rw [hal]; rfl⟩
  obtain ⟨r1, hr1, hrun1⟩ := bk_eqb G[j] ls[j]
  refine ⟨fun u => Grow w9 u, hg11, bx, (bc G[j]).toArray, fun u hu => cx hu, bl, (bc ls[j]).toArray, fun u hu => cl hu, r1, fun u _ => hrun1 _ _ u, fun _ => bx, (bc G[j]).toArray, fun _ u hu => cx hu, ?_⟩
  have hmj : ∀ (h : j < K), j < ms.length := fun h => by omega
  have bm : j < K → (0 : Int) ≤ (j : Int) ∧ (j : Int) < (m.n : Int) ∧ m.A.isSome = true := fun h => by
    obtain ⟨a, ha, _⟩ := rd_bk_at hm (hmj h)
    exact ⟨by omega, by omega, by rw [ha]; rfl⟩
  have cm : ∀ (h : j < K) {u : World}, Grow w9 u → (loadVar t_api_Block ((gA m.A).add ((j : Int).toNat * 19))).run Try.prog u = .ok (.agg (bc (ms[j]'(hmj h))).toArray) u := fun h u hu => by
    obtain ⟨a, ha, hc⟩ := rd_bk_at (hm.grow (hgw9.trans hu)) (hmj h)
    rw [ha]; exact loadVar_rule g_api_Block i_api_Block (by rw [bc_len]) hc
  have kj : ∀ {b : Bool}, (decide ((j : Int) < (K : Int)) && b) = true → j < K := fun q => by
    rw [Bool.and_eq_true, decide_eq_true_eq] at q; omega
  refine ⟨fun q => bm (kj q), ?_⟩
  have hb2 : ∃ (b2 : Bool) (g3 : Array Value), (∀ u, j < K → Grow w9 u → (loadVar t_api_Block ((gA m.A).add ((j : Int).toNat * 19))).run Try.prog u = .ok (.agg g3) u) ∧
      (∀ {x y : Operand} u, j < K → (do eqGuard .eql t_api_Block x y (.agg (bc G[j]).toArray) (.agg g3); binOp .eql t_api_Block (.agg (bc G[j]).toArray) (.agg g3) : Sem Value).run Try.prog u = .ok (.bool b2) u) ∧
      ∀ h : j < K, (b2 = true ↔ G[j] = ms[j]'(hmj h)) := by
    by_cases h : j < K
    · obtain ⟨b, q1, q2⟩ := bk_eqb G[j] (ms[j]'(hmj h))
      exact ⟨b, (bc (ms[j]'(hmj h))).toArray, fun u h hu => cm h hu, fun u _ => q2 _ _ u, fun _ => q1⟩
    · exact ⟨false, #[], fun _ q => absurd q h, fun _ q => absurd q h, fun q => absurd q h⟩
  obtain ⟨b2, g3, h3a, h3b, h3c⟩ := hb2
  refine ⟨g3, fun q u hu => h3a u (kj q) hu, b2, fun q u _ => h3b u (kj q), fun _ => bx, (bc G[j]).toArray, fun _ u hu => cx hu, ?_⟩
  have hLj : L[j] = ls[j] := hLat j hjL hjl
  have hcont : ∀ u, Grow w9 u → ∀ (b3 : Bool), (safeB L fua sync cache = false → (b3 = true ↔ G[j] = emptyB) ∨ r1 = true ∨ (j < K ∧ b2 = true)) →
      (!((r1 || decide ((j : Int) < (K : Int)) && b2) || !safeB L fua sync cache && b3) && !decide ((cut : Int) > 0)) = false := by
    intro u _ b3 hb3
    cases hx : (!((r1 || decide ((j : Int) < (K : Int)) && b2) || !safeB L fua sync cache && b3) && !decide ((cut : Int) > 0)) with
    | false => rfl
    | true =>
      exfalso
      simp only [Bool.and_eq_true, Bool.not_eq_true', Bool.or_eq_false_iff, decide_eq_false_iff_not] at hx
      obtain ⟨⟨⟨hx1, hx2⟩, hx3⟩, hx4⟩ := hx
      have hc0 : cut = 0 := by omega
      subst hc0
      obtain ⟨_, hH⟩ := dur_whole (L := L) (M := M) (fua := fua) (sync := sync) (cache := cache) (keep := keep)
      have hGj := hGat j hjG
      rcases hH j hjL with q | ⟨hjM, q⟩ | ⟨q1, q2⟩
      · have : r1 = true := hr1.2 (by rw [hGj, q, hLj])
        rw [hx1] at this; cases this
      · have hjK : j < K := by omega
        have : b2 = true := (h3c hjK).2 (by rw [hGj, q, hMat j hjM (hmj hjK)])
        rw [this, decide_eq_true (by omega)] at hx2; cases hx2
      · rcases hb3 q1 with r | r | ⟨r, r'⟩
        · have : b3 = true := r.2 (by rw [hGj, q2])
          rw [this, q1] at hx3; cases hx3
        · rw [hx1] at r; cases r
        · rw [r', decide_eq_true (by omega)] at hx2; cases hx2
  have e64 : IntKind.wrap .i64 ((j : Int) + 1) = ((j + 1 : Nat) : Int) := by rw [w64 (by omega) (by omega)]; omega
  rw [e64]
  obtain ⟨b3, hb3, hrun3⟩ := bk_eqb G[j] emptyB
  obtain ⟨b4, hb4, hrun4⟩ := bk_neb G[j] ls[j]
  have hb4f : (safeB L fua sync cache && decide ((j : Int) ≥ (K : Int)) && b4) = false := by
    cases hx : (safeB L fua sync cache && decide ((j : Int) ≥ (K : Int)) && b4) with
    | false => rfl
    | true =>
      exfalso
      simp only [Bool.and_eq_true, decide_eq_true_eq] at hx
      obtain ⟨⟨hx1, hx2⟩, hx3⟩ := hx
      have := full_blk (dur_safe (M := M) (keep := keep) (cut := cut) hx1) hjL (by omega)
      exact hb4.1 hx3 (by rw [hGat j hjG, this, hLj])
  have step : ∀ (u : World), Grow w9 u → (∃ j_1 : Nat, ((j + 1 : Nat) : Int) = j_1 ∧ j_1 ≤ N ∧ Grow w9 u) ∧ N - ((j + 1 : Nat) : Int).toNat < N - (j : Int).toNat := fun u hu =>
    ⟨⟨j + 1, rfl, by omega, hu⟩, by omega⟩
  refine ⟨fun q => ?_, fun q => ?_⟩
  · refine ref_empty_spec fun u hu => ⟨hg11.trans hu, b3, fun _ u _ => hrun3 _ _ u, br_f (hcont u (hg11.trans hu) b3 fun _ => .inl hb3) ?_⟩
    rintro u2 rfl
    have hu2 : Grow w9 u.drew := (hg11.trans hu).trans (keep_drew u)
    exact ⟨fun v => Grow w9 v, hu2, fun _ => bx, (bc G[j]).toArray, fun _ v hv => cx hv, fun _ => bl, (bc ls[j]).toArray, fun _ v hv => cl hv, b4, fun _ v _ => hrun4 _ _ v, br_f hb4f (step _ hu2)⟩
  · refine ⟨hg11, false, fun e => (by rw [q] at e; cases e), br_f (hcont w10.drew hg11 false fun e => ?_) ?_⟩
    · rw [e] at q
      right
      simp only [Bool.not_false, Bool.true_and, Bool.not_eq_false', Bool.or_eq_true, Bool.and_eq_true, decide_eq_true_eq] at q
      rcases q with q | ⟨q, q'⟩
      · exact .inl q
      · exact .inr ⟨by omega, q'⟩
    rintro u2 rfl
    have hu2 : Grow w9 w10.drew.drew := hg11.trans (keep_drew _)
    exact ⟨fun v => Grow w9 v, hu2, fun _ => bx, (bc G[j]).toArray, fun _ v hv => cx hv, fun _ => bl, (bc ls[j]).toArray, fun _ v hv => cl hv, b4, fun _ v _ => hrun4 _ _ v, br_f hb4f (step _ hu2)⟩
theorem storeDurable_row {l m : Sl} {ls ms : List Bk} {fua sync cache : Bool} {x y : Int} {w : World} {R : Bool → World → Prop} (hl : Rd w 19 l (ls.flatMap bc)) (hm : Rd w 19 m (ms.flatMap bc)) (hx : (Lit.int .u8 x).wf = true) (hy : (Lit.int .u8 y).wf = true)
    (h : ∀ w', Grow w w' → R true w') : Cpalletlaw04_StoreDurable l m fua sync cache x y w R := by
  obtain ⟨A, rfl, hA⟩ := int_u8 hx
  obtain ⟨B, rfl, hB⟩ := int_u8 hy
  exact storeDurable_spec hl hm hA hB h
end Go.Proofs.Ytiokflecflbopaa
