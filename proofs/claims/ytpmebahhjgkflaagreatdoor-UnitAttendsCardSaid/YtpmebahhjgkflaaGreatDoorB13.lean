import Derived.Test.YtpmebahhjgkflaaGreatDoorB12
/- Layer 12: MODE SELECT. -/
namespace Go.Proofs.YtpmebahhjgkflaaGreatDoor
open Go CF
set_option maxRecDepth 100000
def mgoX (l : L8) : Nat → Nat → Vals → Except Sn Vals
  | 0, _, v => .ok v
  | k + 1, at_, v => if at_ < l.length then (match mpageX l at_ v with
    | .error s => .error s
    | .ok (v', n) => mgoX l k (at_ + n) v') else .ok v
theorem mgoX_end {l : L8} {at_ : Nat} {v : Vals} (h : l.length ≤ at_) : ∀ k, mgoX l k at_ v = .ok v
  | 0 => rfl
  | k + 1 => by unfold mgoX; rw [if_neg (by omega)]
def vne (a b : Vals) : Bool := a.wce != b.wce || a.ds != b.ds || a.swp != b.swp
theorem vne_iff {a b : Vals} : vne a b = true ↔ a ≠ b := by
  obtain ⟨a1, a2, a3⟩ := a
  obtain ⟨b1, b2, b3⟩ := b
  unfold vne
  simp only [Bool.or_eq_true, bne_iff_ne, ne_eq, Vals.mk.injEq, Classical.not_and_iff_not_or_not]
  exact ⟨fun q => q.elim (fun q => q.elim .inl fun q => .inr (.inl q)) fun q => .inr (.inr q), fun q => q.elim (fun q => .inl (.inl q)) fun q => q.elim (fun q => .inl (.inr q)) .inr⟩
def mhd (c : Cm) : Nat := if c.long then 8 else 4
def mdv (c : Cm) : Nat := if c.long then 3 else 2
def mh1 (l : L8) (c : Cm) (i : Nat) : Bool := decide (l.getD i 0 ≠ 0) && decide (i ≠ mdv c)
/-- what a MODE SELECT brings: has a value changed, the values now and saved; or the sense -/
def mselX (now saved : Vals) (c : Cm) (l : L8) : Except Sn (Bool × Vals × Vals) :=
  if l = [] then .ok (false, now, saved)
  else if l.length < mhd c then .error (badS 0x1a00)
  else match (List.range (mhd c)).find? (mh1 l c) with
    | some i => .error (mbadS i (-1) false)
    | none => match mgoX l l.length (mhd c) now with
      | .error s => .error s
      | .ok v => .ok (vne v now, v, if c.save then v else saved)
theorem mpage_n {l : L8} {at_ n : Nat} {v v' : Vals} (h : mpageX l at_ v = .ok (v', n)) : 12 ≤ n := by
  unfold mpageX at h
  split at h
  · cases h
  · rename_i W hW
    have hWl : 12 ≤ W.length := by
      unfold wantM at hW
      split at hW
      · injection hW with hW; rw [← hW]; decide
      · split at hW
        · injection hW with hW; rw [← hW]; decide
        · cases hW
    split at h
    · cases h
    · split at h
      · cases h
      · split at h
        · cases h
        · injection h with h
          injection h with _ h
          omega
section
variable {w u : World}
theorem flat_vals : flatK Tryz.prog 8 t_mode_Values = some [.b, .b, .b] := by kernel_rfl
theorem kd_vals : kd Tryz.prog t_mode_Values = .ag := by kernel_rfl
theorem gt_vals : Tryz.prog.eqGuardType Tryz.prog.depth t_mode_Values = false := by kernel_rfl
theorem fit_vlv (v : Vals) : FitL [.b, .b, .b] (vlv v) := ⟨rfl, rfl, rfl, trivial⟩
theorem vlv_inj {a b : Vals} (h : vlv a = vlv b) : a = b := by
  obtain ⟨a1, a2, a3⟩ := a
  obtain ⟨b1, b2, b3⟩ := b
  simp [vlv] at h
  obtain ⟨h1, h2, h3⟩ := h
  rw [h1, h2, h3]
set_option maxHeartbeats 4000000 in
theorem msel_spec {pb : Nat} {now saved : Vals} {c : Cm} {p : Sl} {l : L8} {R : Bool → Array Value → Bool → World → Prop} (h : IsP w pb now saved) (hp : Rd w 1 p (bv l)) (hpn : p.n ≤ 1000000)
    (hR : match mselX now saved c l with
      | .error s => ∀ w', Grow w w' → R false (snv s).toArray false w'
      | .ok (b, n', s') => ∀ w', Keep (fun k => k = pb) w w' → IsP w' pb n' s' → R b (snv sn0).toArray true w') : Cmode_Pages_Select (some ⟨pb, 0, none⟩) (cmv c).toArray p w R := by
  refine Fmode_Pages_Select.calls _ _ _ _ _ (new_rule fun cb w1 hcb hb1 hg1 hs1 => new_rule fun ab w2 hab hb2 hg2 hs2 => ?_)
  have hc2 : Blk w2 cb (cmv c).toArray t_api_Cmd := hg2.heap hb1 (fun q => q)
  have ha2 : Blk w2 ab _ t_api_Sense := hb2
  have hgw2 := hg1.trans hg2
  have hp2 : IsP w2 pb now saved := hgw2.heap h (fun q => q)
  have lp := lt_of_heap h
  have hpl := rd_n' hp
  have r2 := hp.grow hgw2
  have s1 := hg1.size
  unfold mselX at hR
  have ret : ∀ {o : World} {s : Sn} {b b' : Bool} {B : Array Value}, Blk o ab B t_api_Sense → B.size = 8 → (∀ o', Keep (fun k => k = ab) o o' → R b (snv s).toArray b' o') →
      RunU Tryz.prog (storeVar t_api_Sense ⟨ab, 0, none⟩ (.agg (snv s).toArray)) o fun o2 => ∃ res : Array Value, (loadVar t_api_Sense ⟨ab, 0, none⟩).run Tryz.prog o2 = .ok (.agg res) o2 ∧ R b res b' o2 :=
    fun {o s b b' B} hB hB8 hK => storeVar_rule (cells := (snv s).toArray) hB i_api_Sense rfl hB8 (by simp [snv, Value.oneCell']) fun o2 h2 k2 _ => ⟨_, sLoad (blk_cells h2), hK o2 k2⟩
  by_cases hnil : l = []
  · rw [if_pos hnil] at hR
    subst hnil
    refine br_t (by rw [show p.n = 0 from hpl.symm]; rfl) (ret (s := sn0) ha2 rfl fun o k => ?_)
    have g : Grow w o := hgw2.keep k fun i hi q => by omega
    exact hR o (g.mono fun _ _ q => q.elim) (g.heap h (fun q => q))
  rw [if_neg hnil] at hR
  have l0 : 0 < l.length := List.length_pos_iff.2 hnil
  refine br_f (by rw [Bool.or_eq_false_iff, beq_eq_false_iff_ne]; exact ⟨rfl, by omega⟩) ⟨c.long, c_cell hc2 rfl, ?_⟩
  refine letX2 (fun (hd dv : Int) o => o = w2 ∧ hd = ((mhd c : Nat) : Int) ∧ dv = ((mdv c : Nat) : Int)) ?_ (fun J => ?_)
  case refine_2 =>
    unfold mhd mdv at J
    cases hlg : c.long with
    | true => exact br_t rfl (J _ _ _ ⟨rfl, by rw [hlg]; rfl, by rw [hlg]; rfl⟩)
    | false => exact br_f rfl (J _ _ _ ⟨rfl, by rw [hlg]; rfl, by rw [hlg]; rfl⟩)
  rintro hd dv o ⟨rfl, rfl, rfl⟩
  have hhd : mhd c ≤ 8 := by unfold mhd; split <;> omega
  generalize hH : mhd c = H at *
  by_cases hsh : l.length < H
  · rw [if_pos hsh] at hR
    refine br_t (by rw [decide_eq_true_eq]; omega) (ret (s := badS 0x1a00) ha2 rfl fun o' k => hR o' (hgw2.keep k fun i hi q => by omega))
  rw [if_neg hsh] at hR
  refine br_f (by rw [decide_eq_false_iff_not]; omega) ⟨fun x v => ∃ j : Nat, x = (j : Int) ∧ j ≤ H ∧ v = o ∧ ∀ k, k < j → mh1 l c k = false, fun x _ => H - x.toNat, ⟨0, rfl, Nat.zero_le _, rfl, fun _ q => absurd q (Nat.not_lt_zero _)⟩, ?_⟩
  rintro x v ⟨j, rfl, hj, rfl, hnon⟩
  by_cases hjH : j < H
  · refine br_t (by rw [decide_eq_true_eq]; omega) ?_
    obtain ⟨hA, hc⟩ := rd_at r2 (i := j) (by omega)
    refine ⟨⟨by omega, by omega, hA⟩, _, by rw [Int.toNat_natCast]; exact hc, ?_⟩
    have e : ((((l.getD j 0).toNat : Nat) : Int) != 0 && ((j : Int) != ((mdv c : Nat) : Int))) = mh1 l c j := by
      unfold mh1
      rw [u8_ne0]
      congr 1
      · rw [Bool.eq_iff_iff, bne_iff_ne, decide_eq_true_eq]
      · rw [Bool.eq_iff_iff, bne_iff_ne, decide_eq_true_eq]
        exact ⟨fun h e => h (by rw [e]), fun h e => h (Int.ofNat.inj e)⟩
    rw [e]
    cases hq : mh1 l c j with
    | true =>
      rw [find_range_some hjH hnon hq] at hR
      refine br_t rfl (mbad_spec fun v1 g1 => ret (g1.heap ha2 (fun q => q)) rfl fun o' k => hR o' ((hgw2.trans g1).keep k fun i hi q => by omega))
    | false =>
      refine br_f rfl ?_
      rw [w64 (by omega) (by omega)]
      exact ⟨⟨j + 1, by omega, hjH, rfl, fun k hk => by
        by_cases e : k = j
        · rw [e]; exact hq
        · exact hnon k (by omega)⟩, by dsimp only; omega⟩
  have ejH : j = H := by omega
  subst ejH
  rw [find_range_none hnon] at hR
  dsimp only at hR
  have now0 : (loadVar t_mode_Values ((gA (some (⟨pb, 0, none⟩ : Addr))).add 0)).run Tryz.prog v = .ok (.agg (vlv now).toArray) v := by
    rw [gA, add0]
    refine vLoad fun i x hx => ?_
    rw [add0, Blk.cell hp2]
    have : ((vlv now ++ vlv saved).toArray)[0 + 0 + i]? = (vlv now)[i]? := by
      rw [List.getElem?_toArray, show 0 + 0 + i = i by omega, List.getElem?_append_left]
      exact (List.getElem?_eq_some_iff.1 hx).1
    rw [this]; exact hx
  refine br_f (by rw [decide_eq_false_iff_not]; omega) ⟨rfl, _, now0, new_rule fun vb w3 hvb hb3 hg3 hs3 => ?_⟩
  refine storeVar_rule (cells := (vlv now).toArray) hb3 i_mode_Values rfl rfl (by simp [vlv, Value.oneCell']) fun w4 hb4 hk4 hs4 => ?_
  have g24 : Grow v w4 := hg3.keep hk4 fun i hi q => by omega
  have hvs : v.heap.size ≤ vb := by omega
  let St (V : Vals) (o : World) : Prop := Grow v o ∧ Blk o vb (vlv V).toArray t_mode_Values
  have lab : ab < v.heap.size := lt_of_heap ha2
  have hlow : ∀ k, l.length - j ≤ k → k = l.length → mgoX l l.length j now = mgoX l k j now := fun k _ e => by rw [e]
  refine ⟨fun x o => ∃ (t k : Nat) (V : Vals), x = (t : Int) ∧ t ≤ 2000000 ∧ St V o ∧ l.length - t ≤ k ∧ mgoX l l.length j now = mgoX l k t V, fun x _ => l.length - x.toNat, ⟨j, l.length, now, rfl, by omega, ⟨g24, hb4⟩, by omega, rfl⟩, ?_⟩
  rintro x o ⟨t, k, V, rfl, ht, ⟨go, bo⟩, hk, hgo⟩
  by_cases htl : t < l.length
  · refine br_t (by rw [decide_eq_true_eq]; omega) ⟨_, vLoad (blk_cells bo), ?_⟩
    obtain ⟨k, rfl⟩ : ∃ k', k = k' + 1 := ⟨k - 1, by omega⟩
    have hstep : mgoX l (k + 1) t V = (match mpageX l t V with
      | .error s => .error s
      | .ok (v', n) => mgoX l k (t + n) v') := by
      show (if t < l.length then _ else _) = _
      rw [if_pos htl]
    rw [hstep] at hgo
    refine mpage_spec (r2.grow go) hpn htl ?_
    have hn12 : ∀ v' n, mpageX l t V = .ok (v', n) → 12 ≤ n := fun v' n e => mpage_n e
    have hnle : ∀ v' n, mpageX l t V = .ok (v', n) → n ≤ 20 := fun v' n e => by
      unfold mpageX at e
      split at e
      · cases e
      · rename_i W hW
        have hWl : W.length ≤ 20 := by
          unfold wantM at hW
          split at hW
          · injection hW with hW; rw [← hW]; decide
          · split at hW
            · injection hW with hW; rw [← hW]; decide
            · cases hW
        split at e
        · cases e
        · split at e
          · cases e
          · split at e
            · cases e
            · injection e with e
              injection e with _ e
              omega
    generalize mpageX l t V = X at hgo hn12 hnle ⊢
    -- the values and the sense are laid
    have lay : ∀ {o1 : World} {v' : Vals} {s : Sn} {K : Addr → Addr → World → Prop}, Grow o o1 → (∀ tb sb o2, Grow o1 o2 → o1.heap.size ≤ tb → Blk o2 tb (vlv v').toArray t_mode_Values → Blk o2 sb (snv s).toArray t_api_Sense → K ⟨tb, 0, none⟩ ⟨sb, 0, none⟩ o2) →
        New (.cells #[.bool false, .bool false, .bool false] t_mode_Values) o1 fun to w012 => New (.cells #[.int .u8 0, .int .u16 0, .int .u64 0, .bool false, .int .i64 0, .int .i64 0, .bool false, .bool false] t_api_Sense) w012 fun s1 w013 => RunU Tryz.prog (storeVar t_mode_Values to (.agg (vlv v').toArray)) w013 fun w014 => RunU Tryz.prog (storeVar t_api_Sense s1 (.agg (snv s).toArray)) w014 fun w015 => K to s1 w015 :=
      fun {o1 v' s K} g hK => new_rule fun tb v1 htb hb1 hg1 hs1 => new_rule fun sb v2 hsb hb2 hg2 hs2 =>
        storeVar_rule (cells := (vlv v').toArray) (hg2.heap hb1 (fun q => q)) i_mode_Values rfl rfl (by simp [vlv, Value.oneCell']) fun v3 hb3 hk3 hs3 => storeVar_rule (cells := (snv s).toArray) (hk3.heap hb2 (by omega)) i_api_Sense rfl rfl (by simp [snv, Value.oneCell']) fun v4 hb4 hk4 hs4 =>
          hK tb sb v4 (((hg1.trans hg2).keep hk3 fun i hi q => by omega).keep hk4 fun i hi q => by omega) (by omega) (hk4.heap hb3 (by omega)) hb4
    cases X with
    | error s =>
      intro o1 g1
      refine lay g1 fun tb sb o2 g2 htb bt bs => br_t rfl ?_
      rintro o3 rfl
      have g3 := (g1.trans g2).trans (keep_drew o2)
      have bs3 : Blk o2.drew sb (snv s).toArray t_api_Sense := (keep_drew o2).heap bs (fun q => q)
      refine ⟨fun z => Blk z sb (snv s).toArray t_api_Sense, bs3, _, fun z q => sLoad (blk_cells q), ret ((go.trans g3).heap ha2 (fun q => q)) rfl fun o' k => ?_⟩
      rw [hgo] at hR
      exact hR o' ((hgw2.trans (go.trans g3)).keep k fun i hi q => by omega)
    | ok y =>
      obtain ⟨v', n⟩ := y
      have h12 := hn12 v' n rfl
      have h20 := hnle v' n rfl
      intro o1 g1
      refine lay g1 fun tb sb o2 g2 htb bt bs => br_f rfl ⟨_, vLoad (blk_cells bt), ?_⟩
      have g3 := g1.trans g2
      refine storeVar_rule (cells := (vlv v').toArray) (g3.heap bo (fun q => q)) i_mode_Values rfl rfl (by simp [vlv, Value.oneCell']) fun o4 hb4' hk4' _ => ?_
      rw [w64 (by omega) (by omega), show ((t : Int) + (n : Int)) = ((t + n : Nat) : Int) by omega]
      exact ⟨⟨t + n, k, v', rfl, by omega, ⟨(go.trans g3).keep hk4' fun i hi q => by omega, hb4'⟩, by omega, hgo⟩, by dsimp only; omega⟩
  · refine br_f (by rw [decide_eq_false_iff_not]; omega) ?_
    rw [mgoX_end (by omega) k] at hgo
    rw [hgo] at hR
    dsimp only at hR
    rintro o1 rfl
    have g1 := go.trans (keep_drew o)
    have b1 : Blk o.drew vb (vlv V).toArray t_mode_Values := (keep_drew o).heap bo (fun q => q)
    generalize o.drew = o1 at *
    have hpo : IsP o1 pb now saved := g1.heap hp2 (fun q => q)
    have now1 : ∀ {z : World}, IsP z pb now saved → (loadVar t_mode_Values ((gA (some (⟨pb, 0, none⟩ : Addr))).add 0)).run Tryz.prog z = .ok (.agg (vlv now).toArray) z := fun {z} q => by
      rw [gA, add0]
      refine vLoad fun i x hx => ?_
      rw [add0, Blk.cell q]
      have : ((vlv now ++ vlv saved).toArray)[0 + 0 + i]? = (vlv now)[i]? := by
        rw [List.getElem?_toArray, show 0 + 0 + i = i by omega, List.getElem?_append_left]
        exact (List.getElem?_eq_some_iff.1 hx).1
      rw [this]; exact hx
    obtain ⟨r, hr, hrun⟩ := neq_rule (x := .tmp 76) (y := .tmp 80) flat_vals kd_vals gt_vals (fit_vlv V) (fit_vlv now)
    have er : r = vne V now := by
      rw [Bool.eq_iff_iff, hr, vne_iff]
      exact ⟨fun q e => q (by rw [e]), fun q e => q (vlv_inj e)⟩
    refine ⟨fun z => Blk z vb (vlv V).toArray t_mode_Values ∧ IsP z pb now saved, ⟨b1, hpo⟩, _, fun z q => vLoad (blk_cells q.1), rfl, _, fun z q => now1 q.2, r, fun z _ => hrun z, _, vLoad (blk_cells b1), rfl, ?_⟩
    rw [gA, add0]
    refine storeAt_rule (o := 0) (cells := (vlv V).toArray) hpo i_mode_Values rfl (by simp [vlv]) (by intro x hx; simp [vlv] at hx; rcases hx with rfl | rfl | rfl <;> rfl) fun o2 h2 k2 _ => ?_
    have h2 : IsP o2 pb V saved := h2
    have lpb : pb < v.heap.size := lt_of_heap hp2
    have ks : ∀ {z z' : World} {b : Nat} {cs : Array Value} {t : TypeId}, Blk z b cs t → b ≠ pb → Keep (fun k => k = pb) z z' → Blk z' b cs t := fun hb hn k => k.heap hb hn
    have npab : ab ≠ pb := fun e => blk_ne (g1.heap ha2 (fun q => q)) hpo (by decide) e
    have npcb : cb ≠ pb := fun e => blk_ne (g1.heap hc2 (fun q => q)) hpo (by decide) e
    have kw2 : Keep (fun k => k = pb) w o2 := ((hgw2.trans g1).mono fun _ _ q => q.elim).trans k2 fun _ _ q => q
    refine ⟨c.save, c_cell (ks (g1.heap hc2 (fun q => q)) npcb k2) rfl, ?_⟩
    refine letX0 (fun z => Keep (fun k => k = pb) w z ∧ Blk z ab (snv sn0).toArray t_api_Sense ∧ IsP z pb V (if c.save then V else saved)) ?_ (fun J => ?_)
    · rintro z ⟨kz, bz, pz⟩
      refine ret (s := sn0) bz rfl fun z' k' => ?_
      rw [er]
      have nw : ∀ i, i < w.heap.size → i = ab → False := fun i hi q => by omega
      exact hR z' ⟨k'.os.trans kz.os, k'.tape.trans kz.tape, k'.output.trans kz.output, Nat.le_trans kz.size k'.size, fun i hi hn => by rw [k'.block i (by have := kz.size; omega) (fun q => nw i hi q), kz.block i hi hn]⟩ (k'.heap pz (fun e => npab e.symm))
    · have a2 := ks (g1.heap ha2 (fun q => q)) npab k2
      cases hsv : c.save with
      | false => exact br_f rfl (J o2 ⟨kw2, a2, by rw [hsv]; exact h2⟩)
      | true =>
        have nv : vb ≠ pb := by omega
        refine br_t rfl ⟨_, vLoad (blk_cells (ks b1 nv k2)), rfl, ?_⟩
        show RunU Tryz.prog (storeVar t_mode_Values ((gA (some (⟨pb, 0, none⟩ : Addr))).add 3) (.agg (vlv V).toArray)) o2 _
        rw [show (gA (some (⟨pb, 0, none⟩ : Addr))).add 3 = ⟨pb, 3, none⟩ by rw [gA, add0]]
        refine storeAt_rule (o := 3) (cells := (vlv V).toArray) h2 i_mode_Values rfl (by simp [vlv]) (by intro x hx; simp [vlv] at hx; rcases hx with rfl | rfl | rfl <;> rfl) fun o3 h3 k3 _ => ?_
        exact J o3 ⟨kw2.trans k3 fun _ _ q => q, ks a2 npab k3, by rw [hsv]; exact h3⟩
end
end Go.Proofs.YtpmebahhjgkflaaGreatDoor

/- Layer 10: what a service of reservations does, as functions; loops over registrations. -/
namespace Go.Proofs.YtpmebahhjgkflaaGreatDoor
open Go CF
set_option maxRecDepth 100000
structure OutS where
  service : Nat
  type : Nat
  key : Nat
  action : Nat
  aptpl : Bool
abbrev Ev := Nat × Nat
def evc (e : Ev) : List Value := [.int .i64 (e.1 : Int), .int .u16 (e.2 : Int)]
def evv (l : List Ev) : List Value := l.flatMap evc
theorem evc_len (e : Ev) : (evc e).length = 2 := rfl
theorem evv_len (l : List Ev) : (evv l).length = l.length * 2 := flat_length evc_len l
theorem evv_append (a b : List Ev) : evv (a ++ b) = evv a ++ evv b := List.flatMap_append
/-- those of a list that are told of a code -/
def tells (l : List (Nat × Nat)) (f : Nat × Nat → Bool) (code : Nat) : List Ev := (l.filter f).map fun r => (r.1, code)
def freeT (t : TabS) (but : Nat) : TabS × List Ev := ({ t with kind := 0, holder := -1 }, if 5 ≤ t.kind then tells t.regs (fun r => decide (r.1 ≠ but)) 10756 else [])
def setT (t : TabS) (n key : Nat) : TabS := { t with regs := t.regs.filter (fun r => decide (r.1 < n)) ++ (if key ≠ 0 then [(n, key)] else []) ++ t.regs.filter (fun r => decide (n < r.1)) }
def registerB (t : TabS) (n : Nat) (o : OutS) (known : Bool) : TabS × List Ev :=
  if o.action = 0 ∧ known = true then
    if (allK t.kind = true ∧ t.regs.length = 1) ∨ ((t.kind ≠ 0 ∧ t.holder = (n : Int)) ∧ allK t.kind = false) then freeT (setT t n 0) n else (setT t n 0, [])
  else if o.action ≠ 0 then (setT t n o.action, []) else (t, [])
def registerT (t : TabS) (n : Nat) (o : OutS) (known : Bool) : TabS × List Ev := ({ (registerB t n o known).1 with lasts := o.aptpl, gen := ((registerB t n o known).1.gen + 1) % 4294967296 }, (registerB t n o known).2)
structure DoT where
  st : Nat
  code : Nat
  ev : List Ev
  t : TabS
def reserveT (t : TabS) (n : Nat) (o : OutS) : DoT :=
  if typesK o.type = false then ⟨2, 0x2400, [], t⟩
  else if t.kind = 0 then ⟨0, 0, [], { t with kind := o.type, holder := (n : Int) }⟩
  else if holdsT t n = true ∧ t.kind = o.type then ⟨0, 0, [], t⟩ else ⟨24, 0, [], t⟩
def releaseT (t : TabS) (n : Nat) (o : OutS) : DoT :=
  if holdsT t n = false then ⟨0, 0, [], t⟩ else if t.kind ≠ o.type then ⟨2, 0x2400, [], t⟩ else ⟨0, 0, (freeT t n).2, (freeT t n).1⟩
def clearT (t : TabS) (n : Nat) : TabS × List Ev := ({ t with regs := [], kind := 0, holder := -1, gen := (t.gen + 1) % 4294967296 }, tells t.regs (fun r => decide (r.1 ≠ n)) 10755)
def heldP (t : TabS) (a : Nat) : Bool := t.regs.any fun r => (decide (t.kind ≠ 0) && !allK t.kind) && decide ((r.1 : Int) = t.holder) && decide (r.2 = a)
def leftP (t : TabS) (n a : Nat) (all : Bool) (r : Nat × Nat) : Bool := decide (r.1 = n) || (decide (r.2 ≠ a) && !all)
def preemptT (t : TabS) (n : Nat) (o : OutS) : DoT :=
  if o.action = 0 ∧ (allK t.kind && decide (o.action = 0)) = false then ⟨2, 0x2600, [], t⟩
  else if (heldP t o.action || (allK t.kind && decide (o.action = 0))) = true ∧ typesK o.type = false then ⟨2, 0x2400, [], t⟩
  else if (t.regs.any fun r => decide (r.2 = o.action)) = false ∧ (allK t.kind && decide (o.action = 0)) = false then ⟨24, 0, [], t⟩
  else
    let left := t.regs.filter (leftP t n o.action (allK t.kind && decide (o.action = 0)))
    let out := tells t.regs (fun r => !leftP t n o.action (allK t.kind && decide (o.action = 0)) r) 10757
    if (heldP t o.action || (allK t.kind && decide (o.action = 0))) = true then
      ⟨0, 0, out ++ (if 5 ≤ t.kind ∧ t.kind ≠ o.type then tells left (fun r => decide (r.1 ≠ n)) 10756 else []), { t with regs := left, kind := o.type, holder := (n : Int), gen := (t.gen + 1) % 4294967296 }⟩
    else ⟨0, 0, out, { t with regs := left, gen := (t.gen + 1) % 4294967296 }⟩
/-- a service of a nexus -/
def prdoT (t : TabS) (n : Nat) (o : OutS) : DoT :=
  if 6 < o.service then ⟨2, 0x2400, [], t⟩
  else if o.service = 6 then ⟨0, 0, (registerT t n o (keyT t n).isSome).2, (registerT t n o (keyT t n).isSome).1⟩
  else if o.service = 0 then (if o.key ≠ (keyT t n).getD 0 then ⟨24, 0, [], t⟩ else ⟨0, 0, (registerT t n o (keyT t n).isSome).2, (registerT t n o (keyT t n).isSome).1⟩)
  else if (keyT t n).isSome = false ∨ o.key ≠ (keyT t n).getD 0 then ⟨24, 0, [], t⟩
  else if o.service = 1 then reserveT t n o
  else if o.service = 2 then releaseT t n o
  else if o.service = 3 then ⟨0, 0, (clearT t n).2, (clearT t n).1⟩
  else preemptT t n o
section
variable {w u v : World} {N : Nat → Prop} {tb n : Nat} {t : TabS}
/-- what loops over registrations leave: only blocks from B on change, and none of registrations -/
structure Qr (B : Nat) (w v : World) : Prop where
  keep : Keep (fun k => B ≤ k) w v
  regs : ∀ b cs, Blk w b cs t_api_Reg → Blk v b cs t_api_Reg
theorem Qr.refl (B : Nat) (w : World) : Qr B w w := ⟨Keep.refl _ _, fun _ _ q => q⟩
theorem Qr.trans {B : Nat} (h : Qr B w u) (g : Qr B u v) : Qr B w v := ⟨h.keep.trans g.keep fun _ _ q => q, fun b cs q => g.regs b cs (h.regs b cs q)⟩
theorem Qr.grow {B : Nat} (g : Grow w u) : Qr B w u := ⟨g.mono fun _ _ q => q.elim, fun b cs q => g.heap q (fun q => q)⟩
theorem Qr.from {B : Nat} (h : Qr B w u) (g : Grow v w) (hB : v.heap.size ≤ B) : Grow v u := g.keep h.keep fun i hi q => by omega
/-- a registration is taken out of a row -/
theorem reg_iter {xs : Sl} {l : List (Nat × Nat)} {i : Nat} {K : Addr → World → Prop} (hx : Rd w 2 xs (rgv l)) (hi : i < l.length) (hK : ∀ rb w', Grow w w' → Blk w' rb (rgc l[i]).toArray t_api_Reg → w.heap.size ≤ rb → K ⟨rb, 0, none⟩ w') :
    (0 ≤ (i : Int) ∧ (i : Int) < (xs.n : Int) ∧ xs.A.isSome = true) ∧ ∃ g : Array Value, (loadVar t_api_Reg ((gA xs.A).add ((i : Int).toNat * 2))).run Tryz.prog w = .ok (.agg g) w ∧ New (.cells #[.int .i64 0, .int .u64 0] t_api_Reg) w fun r w1 => RunU Tryz.prog (storeVar t_api_Reg r (.agg g)) w1 fun w2 => K r w2 := by
  have hl : l.length = xs.n := by have := hx.len; rw [rgv_len] at this; omega
  obtain ⟨a, ha, hc⟩ := rd_reg hx hi
  refine ⟨⟨by omega, by omega, by rw [ha]; rfl⟩, (rgc l[i]).toArray, by rw [ha, Int.toNat_natCast]; exact loadVar_rule g_api_Reg i_api_Reg rfl hc, ?_⟩
  exact new_rule fun rb v1 hrb hb1 hg1 hs1 => storeVar_rule (cells := (rgc l[i]).toArray) hb1 i_api_Reg rfl rfl (by simp [rgc, Value.oneCell']) fun v2 hb2 hk2 hs2 => hK rb v2 (hg1.keep hk2 fun i hi q => by omega) hb2 (by omega)
theorem ev_lit (w : World) (a b : Int) : (Instr.buildSlice t_sl_pr_Event 1 #[(0, .agg #[.int .i64 a, .int .u16 b])]).run Tryz.prog w = .ok (.slice (some ⟨w.heap.size, 0, none⟩) 1 1) (w.alloc (.cells #[.int .i64 a, .int .u16 b] t_pr_Event)) := by kernel_rfl
theorem ev_one (l : List Ev) : ∀ v ∈ evv l, v.oneCell' = true := by
  intro v hv
  simp only [evv, List.mem_flatMap] at hv
  obtain ⟨e, _, he⟩ := hv
  simp only [evc, List.mem_cons, List.mem_nil_iff, or_false] at he
  rcases he with rfl | rfl <;> rfl
/-- an event behind others -/
theorem ev_push {B : Nat} {out : Sl} {evs : List Ev} {a c : Nat} {ty : TypeId} {K : Sl → World → Prop} (ho : Own w B t_pr_Event 2 out (evv evs)) (hB : B ≤ w.heap.size) (hl : evs.length ≤ 1000) (hK : ∀ out' w', Qr B w w' → Own w' B t_pr_Event 2 out' (evv (evs ++ [(a, c)])) → K out' w') :
    RunK Tryz.prog .sl (Instr.buildSlice t_sl_pr_Event 1 #[(0, .agg #[.int .i64 (a : Int), .int .u16 (c : Int)])]) w fun xs w1 => RunK Tryz.prog .sl (Builtin.append_ #[t_sl_pr_Event, t_sl_pr_Event] ty #[.slice out.A out.n out.c, .slice xs.A xs.n xs.c]) w1 K := by
  have hn : out.n = evs.length := by have := ho.len; rw [evv_len] at this; omega
  refine lit_rule (cells := #[.int .i64 (a : Int), .int .u16 (c : Int)]) (e := t_pr_Event) (z := 2) (base := w.heap.size) (ev_lit _ _ _) rfl (by decide) (Nat.le_refl _) fun w1 h1 g1 _ => ?_
  have o1 := ho.grow g1
  refine append_rule u_sl_pr_Event i_pr_Event rfl (by decide) (by decide) o1 (h1.rd (by dsimp only; decide)) (ev_one [(a, c)]) (by show (out.n + 1) * 16 ≤ _; omega) (by have := g1.size; omega) fun s' w2 hn' h2 k2 _ => ?_
  refine hK s' w2 ((Qr.grow g1).trans ⟨⟨k2.os, k2.tape, k2.output, k2.size, fun k hk q => k2.block k hk fun e => q ?_⟩, fun b cs q => k2.heap q fun e => own_ne o1 q (by decide) e.symm⟩) (by rw [evv_append]; exact h2)
  exact (o1.ge k e.symm).1
/-- events for those of a row that a test lets through -/
theorem ev_loop {B : Nat} {xs out : Sl} {l : List (Nat × Nat)} {evs : List Ev} {but code : Nat} {ty : TypeId} {E : Sl → World → Prop} (hx : ∀ v, Qr B w v → Rd v 2 xs (rgv l)) (ho : Own w B t_pr_Event 2 out (evv evs)) (hB : B ≤ w.heap.size) (hl : evs.length + l.length ≤ 1000)
    (hE : ∀ out' v, Qr B w v → Own v B t_pr_Event 2 out' (evv (evs ++ tells l (fun r => decide (r.1 ≠ but)) code)) → E out' v) :
    ∃ (I : Sl → Int → World → Prop) (μ : Sl → Int → World → Nat), I out 0 w ∧ ∀ (out1 : Sl) (x : Int) (w03 : World), I out1 x w03 → Br (decide (x < (xs.n : Int))) (letX (fun (out2 : Sl) (w04 : World) => I out2 (IntKind.wrap .i64 (x + 1)) w04 ∧ μ out2 (IntKind.wrap .i64 (x + 1)) w04 < μ out1 x w03) fun J_1 => (0 ≤ x ∧ x < (xs.n : Int) ∧ xs.A.isSome = true) ∧ ∃ g : Array Value, (loadVar t_api_Reg ((gA xs.A).add (x.toNat * 2))).run Tryz.prog w03 = .ok (.agg g) w03 ∧ New (.cells #[.int .i64 0, .int .u64 0] t_api_Reg) w03 fun r w05 => RunU Tryz.prog (storeVar t_api_Reg r (.agg g)) w05 fun w06 =>
      ∃ n1 : Int, w06.cell? (r.add 0) = some (.int .i64 n1) ∧ Br (n1 != (but : Int)) (∃ n2 : Int, w06.cell? (r.add 0) = some (.int .i64 n2) ∧ RunK Tryz.prog .sl (Instr.buildSlice t_sl_pr_Event 1 #[(0, .agg #[.int .i64 n2, .int .u16 (code : Int)])]) w06 fun xs1 w08 => RunK Tryz.prog .sl (Builtin.append_ #[t_sl_pr_Event, t_sl_pr_Event] ty #[.slice out1.A out1.n out1.c, .slice xs1.A xs1.n xs1.c]) w08 fun xs2 w09 => J_1 xs2 w09) (J_1 out1 w06)) (E out1 w03) := by
  have hln : l.length = xs.n := by have := (hx w (Qr.refl _ _)).len; rw [rgv_len] at this; omega
  refine ⟨fun o x v => ∃ j : Nat, x = j ∧ j ≤ l.length ∧ Qr B w v ∧ Own v B t_pr_Event 2 o (evv (evs ++ tells (l.take j) (fun r => decide (r.1 ≠ but)) code)), fun _ x _ => xs.n - x.toNat, ⟨0, rfl, Nat.zero_le _, Qr.refl _ _, by simpa [tells] using ho⟩, ?_⟩
  rintro o x v ⟨j, rfl, hj, q, hov⟩
  have tl : ∀ k, (tells (l.take k) (fun r => decide (r.1 ≠ but)) code).length ≤ l.length := fun k => by
    unfold tells
    rw [List.length_map]
    exact Nat.le_trans (List.length_filter_le _ _) (by rw [List.length_take]; omega)
  refine br_nat (fun hlt => ?_) (fun hge => ?_)
  · have hjl : j < l.length := by omega
    refine letX1 (fun o2 v' => Qr B w v' ∧ Own v' B t_pr_Event 2 o2 (evv (evs ++ tells (l.take (j + 1)) (fun r => decide (r.1 ≠ but)) code))) (fun o2 v' hv => ?_) (fun J => ?_)
    · rw [w64 (by omega) (by omega)]
      exact ⟨⟨j + 1, by omega, by omega, hv.1, hv.2⟩, by dsimp only; omega⟩
    · refine reg_iter (hx v q) hjl fun rb v1 g1 b1 _ => ?_
      have q1 := q.trans (Qr.grow g1)
      have o1 := hov.grow g1
      have hs : l.take (j + 1) = l.take j ++ [l[j]] := by rw [List.take_succ_eq_append_getElem hjl]
      refine ⟨(l[j].1 : Int), by rw [add0, b1.cell]; rfl, ?_⟩
      refine br_ne (fun e => ⟨(l[j].1 : Int), by rw [add0, b1.cell]; rfl, ?_⟩) (fun e => ?_)
      · refine ev_push o1 (by have := q1.keep.size; omega) (by rw [List.length_append]; have := tl j; omega) fun o3 v3 q3 h3 => J o3 v3 ⟨q1.trans q3, ?_⟩
        have : tells (l.take (j + 1)) (fun r => decide (r.1 ≠ but)) code = tells (l.take j) (fun r => decide (r.1 ≠ but)) code ++ [(l[j].1, code)] := by
          unfold tells
          rw [hs, List.filter_append, List.map_append]
          congr 1
          rw [List.filter_cons, if_pos (by rw [decide_eq_true_eq]; omega)]; rfl
        rw [this, ← List.append_assoc]; exact h3
      · refine J o v1 ⟨q1, ?_⟩
        have : tells (l.take (j + 1)) (fun r => decide (r.1 ≠ but)) code = tells (l.take j) (fun r => decide (r.1 ≠ but)) code := by
          unfold tells
          rw [hs, List.filter_append, List.map_append]
          have : [l[j]].filter (fun r => decide (r.1 ≠ but)) = [] := by rw [List.filter_cons, if_neg (by rw [decide_eq_true_eq]; omega)]; rfl
          rw [this]; simp
        rw [this]; exact o1
  · have : j = l.length := by omega
    subst this
    rw [List.take_length] at hov
    exact hE o v q hov
end
end Go.Proofs.YtpmebahhjgkflaaGreatDoor

/- Layer 10: the table's parts change. -/
namespace Go.Proofs.YtpmebahhjgkflaaGreatDoor
open Go CF
set_option maxRecDepth 100000
/-! ### the table stays well formed -/
theorem sorted_few : ∀ (l : List (Nat × Nat)) (m k : Nat), l.Pairwise (fun a b => a.1 < b.1) → (∀ r ∈ l, m ≤ r.1 ∧ r.1 < k) → l.length ≤ k - m
  | [], _, _, _, _ => Nat.zero_le _
  | a :: r, m, k, hp, hb => by
    have ha := hb a (.head _)
    have := sorted_few r (a.1 + 1) k (List.pairwise_cons.1 hp).2 fun x hx => ⟨(List.pairwise_cons.1 hp).1 x hx, (hb x (.tail _ hx)).2⟩
    rw [List.length_cons]; omega
structure RegsOk (l : List (Nat × Nat)) : Prop where
  sorted : l.Pairwise fun a b => a.1 < b.1
  regs : ∀ r ∈ l, r.1 < 8 ∧ 0 < r.2 ∧ r.2 < 18446744073709551616
theorem RegsOk.few {l : List (Nat × Nat)} (h : RegsOk l) : l.length ≤ 8 := sorted_few l 0 8 h.sorted fun r hr => ⟨Nat.zero_le _, (h.regs r hr).1⟩
theorem TabOk.rok {t : TabS} (h : TabOk t) : RegsOk t.regs := ⟨h.sorted, h.regs⟩
theorem RegsOk.filter {l : List (Nat × Nat)} (h : RegsOk l) (f : Nat × Nat → Bool) : RegsOk (l.filter f) := ⟨h.sorted.filter f, fun r hr => h.regs r (List.mem_filter.1 hr).1⟩
theorem TabOk.with {t : TabS} (h : TabOk t) {l : List (Nat × Nat)} (hl : RegsOk l) {g k : Nat} {ho : Int} {b : Bool} (hg : g < 4294967296) (hk : k < 256) (hh : -1 ≤ ho ∧ ho < 8) : TabOk ⟨l, g, k, ho, b⟩ := ⟨hl.few, hl.sorted, hl.regs, hg, hk, hh⟩
section
variable {w u v : World} {N : Nat → Prop} {tb n : Nat} {t : TabS}
theorem tb_safe (hb : Blk w tb (tcells nilS t0) t_pr_Table ∨ ∃ cs, Blk w tb cs t_pr_Table) : Safe w N fun k => k = tb := fun b _ q => by
  subst q
  rcases hb with hb | ⟨cs, hb⟩
  · exact .inr ⟨_, _, hb, by unfold rowT; decide⟩
  · exact .inr ⟨_, _, hb, by unfold rowT; decide⟩
/-- a table's row of registrations, as its block says -/
structure TabAt (w v : World) (N : Nat → Prop) (tb : Nat) (s : Sl) (t : TabS) : Prop where
  keep : Keep (fun k => k = tb) w v
  blk : Blk v tb (tcells s t) t_pr_Table
  row : RdN v N t_api_Reg 2 s (rgv t.regs)
theorem IsT.at (h : IsT w N tb t) : ∃ s, TabAt w w N tb s t ∧ TabOk t := by
  obtain ⟨⟨s, h1, h2⟩, h3⟩ := h
  exact ⟨s, ⟨Keep.refl _ _, h1, h2⟩, h3⟩
theorem TabAt.isT {s : Sl} (h : TabAt w v N tb s t) (ok : TabOk t) : IsT v N tb t := ⟨⟨s, h.blk, h.row⟩, ok⟩
theorem TabAt.go {s : Sl} {z : World} (h : TabAt w v N tb s t) (g : Grow v z) : TabAt w z N tb s t := ⟨h.keep.grow g, g.heap h.blk (fun q => q), h.row.grow g⟩
theorem TabAt.put {s s' : Sl} {t' : TabS} {z : World} (h : TabAt w v N tb s t) (k : Keep (fun k => k = tb) v z) (hb : Blk z tb (tcells s' t') t_pr_Table) (hr : s' = s ∧ t'.regs = t.regs ∨ RdN z N t_api_Reg 2 s' (rgv t'.regs)) : TabAt w z N tb s' t' := by
  refine ⟨h.keep.trans k fun _ _ q => q, hb, ?_⟩
  rcases hr with ⟨rfl, e⟩ | hr
  · rw [e]
    exact h.row.step (.inr (.inl rfl)) k (tb_safe (.inr ⟨_, h.blk⟩)) fun _ q => .inl q
  · exact hr
theorem TabAt.cell {s : Sl} (h : TabAt w v N tb s t) {o : Nat} {x : Value} (e : (tcells s t)[o]? = some x) : v.cell? ((gA (some (⟨tb, 0, none⟩ : Addr))).add o) = some x := t_cell h.blk e
/-- a field of the table is put -/
theorem TabAt.put1 {s s' : Sl} {t' : TabS} {o : Nat} {x : Value} {K : World → Prop} (h : TabAt w v N tb s t) (ho : o < 5) (hx : x.oneCell' = true) (he : (tcells s t).setIfInBounds o x = tcells s' t') (hr : s' = s ∧ t'.regs = t.regs ∨ RdN v N t_api_Reg 2 s' (rgv t'.regs)) (hK : ∀ z, TabAt w z N tb s' t' → Keep (fun k => k = tb) v z → K z) :
    Put ((gA (some (⟨tb, 0, none⟩ : Addr))).add o) x v K := by
  rw [gA, add0, Nat.zero_add]
  refine put_rule h.blk (by simp [tcells]; omega) hx fun z hz k _ => hK z (h.put k (by rw [← he]; exact hz) ?_) k
  rcases hr with hr | hr
  · exact .inl hr
  · refine .inr ?_
    exact hr.step (.inr (.inl rfl)) k (tb_safe (.inr ⟨_, h.blk⟩)) fun _ q => .inl q
theorem rdr {s : Sl} (h : RdN w N t_api_Reg 2 s (rgv t.regs)) {B : Nat} (hB : w.heap.size ≤ B) : ∀ v, Qr B w v → Rd v 2 s (rgv t.regs) := fun v q => h.rd.keep q.keep fun a _ ha e => by omega
theorem free_spec {but : Nat} {R : Sl → World → Prop} (h : IsT w N tb t) (hR : ∀ out v, Keep (fun k => k = tb) w v → IsT v N tb (freeT t but).1 → Own v w.heap.size t_pr_Event 2 out (evv (freeT t but).2) → R out v) : Cpr_Table_free (some ⟨tb, 0, none⟩) (but : Int) w R := by
  refine Fpr_Table_free.calls _ _ _ _ ?_
  obtain ⟨s, A, ok⟩ := h.at
  have hk := ok.kind
  have hf := ok.few
  refine ⟨rfl, (t.kind : Int), A.cell rfl, ?_⟩
  refine letX1 (fun (out : Sl) v => TabAt w v N tb s t ∧ Own v w.heap.size t_pr_Event 2 out (evv (freeT t but).2)) ?_ (fun J => ?_)
  · rintro out v ⟨Av, ho⟩
    refine ⟨rfl, Av.put1 (t' := { t with kind := 0 }) (s' := s) (o := 2) (by decide) rfl rfl (.inl ⟨rfl, rfl⟩) fun v2 A2 k2 => ⟨rfl, A2.put1 (t' := { t with kind := 0, holder := -1 }) (s' := s) (o := 3) (by decide) rfl rfl (.inl ⟨rfl, rfl⟩) fun v3 A3 k3 => ?_⟩⟩
    refine hR out v3 A3.keep (A3.isT (ok.with ok.rok ok.gen (by decide) (by decide))) ?_
    exact (ho.keep k2 fun b hb e => own_ne ho Av.blk (by decide) (by rw [hb, e])).keep k3 fun b hb e => own_ne (ho.keep k2 fun b hb e => own_ne ho Av.blk (by decide) (by rw [hb, e])) A2.blk (by decide) (by rw [hb, e])
  · unfold freeT at J
    dsimp only at J
    by_cases q : 5 ≤ t.kind
    · rw [if_pos q] at J
      refine br_t (by rw [decide_eq_true_eq]; omega) ⟨rfl, s, A.cell rfl, ?_⟩
      refine ev_loop (B := w.heap.size) (evs := []) (code := 10756) (rdr A.row (Nat.le_refl _)) (own_nil _ _ _ _) (Nat.le_refl _) (by rw [List.length_nil]; omega) fun out v q2 ho => J out v ⟨A.go (q2.from (Keep.refl _ _) (Nat.le_refl _)), ?_⟩
      simpa using ho
    · rw [if_neg q] at J
      exact br_f (by rw [decide_eq_false_iff_not]; omega) (J nilS w ⟨A, own_nil _ _ _ _⟩)
end
end Go.Proofs.YtpmebahhjgkflaaGreatDoor

/- Layer 10: register, reserve, release, clear. -/
namespace Go.Proofs.YtpmebahhjgkflaaGreatDoor
open Go CF
set_option maxRecDepth 100000
section
variable {w u v : World} {N : Nat → Prop} {tb n : Nat} {t : TabS} {o : OutS}
theorem IsT.go (h : IsT w N tb t) (k : Keep (fun k => k = tb) u w) (g : Grow w v) : Keep (fun k => k = tb) u v ∧ IsT v N tb t := ⟨k.grow g, h.grow g⟩
end
end Go.Proofs.YtpmebahhjgkflaaGreatDoor

/- Layer 10: preempt; a service of a nexus. -/
namespace Go.Proofs.YtpmebahhjgkflaaGreatDoor
open Go CF
set_option maxRecDepth 100000
section
variable {w u v : World} {N : Nat → Prop} {tb n : Nat} {t : TabS} {o : OutS}
end
end Go.Proofs.YtpmebahhjgkflaaGreatDoor

/- Layer 10: a service of a nexus; what outlasts the power, as bytes. -/
namespace Go.Proofs.YtpmebahhjgkflaaGreatDoor
open Go CF
set_option maxRecDepth 100000
def hbX (h : Int) : UInt8 := UInt8.ofNat ((h + 256) % 256).toNat
def regB (r : Nat × Nat) : L8 := UInt8.ofNat r.1 :: beN 8 r.2
/-- a table as bytes -/
def saveT (t : TabS) : L8 := if t.lasts = false then [] else [80, 82, UInt8.ofNat (reservedT t).1, hbX (reservedT t).2, UInt8.ofNat t.regs.length] ++ t.regs.flatMap regB
theorem regB_len (r : Nat × Nat) : (regB r).length = 9 := by unfold regB; rw [List.length_cons, beN_len]
theorem regsB_len : ∀ l : List (Nat × Nat), (l.flatMap regB).length = 9 * l.length
  | [] => rfl
  | a :: r => by rw [List.flatMap_cons, List.length_append, regB_len, regsB_len r, List.length_cons]; omega
theorem saveT_len {t : TabS} (h : TabOk t) : (saveT t).length ≤ 77 := by
  unfold saveT
  split
  · decide
  · rw [List.length_append, regsB_len]
    have := h.few
    have e : ([80, 82, UInt8.ofNat (reservedT t).1, hbX (reservedT t).2, UInt8.ofNat t.regs.length] : L8).length = 5 := rfl
    omega
theorem hbX_wrap {h : Int} (h0 : -1 ≤ h) (h8 : h < 8) : IntKind.wrap .u8 h = (((hbX h).toNat : Nat) : Int) := by
  have key : ∀ k : Fin 9, IntKind.wrap .u8 ((k.val : Int) - 1) = (((hbX ((k.val : Int) - 1)).toNat : Nat) : Int) := by decide +kernel
  have := key ⟨(h + 1).toNat, by omega⟩
  have e : (((h + 1).toNat : Nat) : Int) - 1 = h := by omega
  rw [e] at this; exact this
section
variable {w u v : World} {N : Nat → Prop} {tb n : Nat} {t : TabS} {o : OutS}
theorem save_specT {R : Sl → World → Prop} (h : IsT w N tb t) (hR : ∀ xs v, Grow w v → Own v w.heap.size t_uint8 1 xs (bv (saveT t)) → R xs v) : Cpr_Table_Save (some ⟨tb, 0, none⟩) w R := by
  refine Fpr_Table_Save.calls _ _ _ ?_
  obtain ⟨s, A, ok⟩ := h.at
  have hf := ok.few
  have hsn : t.regs.length = s.n := by have := A.row.rd.len; rw [rgv_len] at this; omega
  refine ⟨fun _ => rfl, t.lasts, fun _ => A.cell rfl, ?_⟩
  unfold saveT at hR
  cases hl : t.lasts with
  | false => rw [hl, if_pos rfl] at hR; exact br_t rfl (hR nilS w (Keep.refl _ _) (own_nil _ _ _ _))
  | true =>
  rw [hl, if_neg Bool.noConfusion] at hR
  refine br_f rfl (reserved_spec10 h fun w1 g1 => ?_)
  have A1 := A.go g1
  have hrk : (reservedT t).1 < 256 := by
    unfold reservedT
    have := ok.kind
    split
    · decide
    · split <;> exact this
  have hrh : -1 ≤ (reservedT t).2 ∧ (reservedT t).2 < 8 := by
    unfold reservedT
    have := ok.holder
    split
    · decide
    · split
      · dsimp only; decide
      · exact this
  have e1 : ((reservedT t).1 : Int) = (((UInt8.ofNat (reservedT t).1).toNat : Nat) : Int) := by rw [← wrap_u8, wu8 (by omega) (by omega)]
  refine ⟨rfl, s, A1.cell rfl, ?_⟩
  rw [e1, hbX_wrap hrh.1 hrh.2, ← hsn, wrap_u8]
  have hl5 : (Instr.buildSlice t_sl_uint8 5 #[(0, .int .u8 80), (1, .int .u8 82), (2, .int .u8 (((UInt8.ofNat (reservedT t).1).toNat : Nat) : Int)), (3, .int .u8 (((hbX (reservedT t).2).toNat : Nat) : Int)), (4, .int .u8 (((UInt8.ofNat t.regs.length).toNat : Nat) : Int))]).run Tryz.prog w1 = .ok (.slice (some ⟨w1.heap.size, 0, none⟩) 5 5) (w1.alloc (.cells (bv [80, 82, UInt8.ofNat (reservedT t).1, hbX (reservedT t).2, UInt8.ofNat t.regs.length]).toArray t_uint8)) := by kernel_rfl
  refine Row.start hl5 rfl (by show 5 ≤ _; decide) fun p2 w2 r2 => ?_
  generalize hH : ([80, 82, UInt8.ofNat (reservedT t).1, hbX (reservedT t).2, UInt8.ofNat t.regs.length] : L8) = H at *
  have hHl : H.length = 5 := by rw [← hH]; rfl
  have A2 := A1.go r2.grow
  refine ⟨rfl, s, A2.cell rfl, ?_⟩
  refine ⟨fun p x y => ∃ j : Nat, x = j ∧ j ≤ t.regs.length ∧ Row w1 y p (H ++ (t.regs.take j).flatMap regB), fun _ x _ => s.n - x.toNat, ⟨0, rfl, Nat.zero_le _, by simpa using r2⟩, ?_⟩
  rintro p x y ⟨j, rfl, hj, ry⟩
  refine br_nat (fun hlt => ?_) (fun hge => ?_)
  · have hjl : j < t.regs.length := by omega
    have hlen : (H ++ (t.regs.take j).flatMap regB).length ≤ 77 := by rw [List.length_append, regsB_len, List.length_take]; omega
    refine reg_iter ((A1.row.rd).grow ry.grow) hjl fun rb y1 g2 br _ => ?_
    rintro y2 rfl
    have g3 := g2.trans (keep_drew y1)
    have b3 : Blk y1.drew rb (rgc t.regs[j]).toArray t_api_Reg := (keep_drew y1).heap br (fun q => q)
    generalize y1.drew = y2 at *
    have rb1 := ok.regs t.regs[j] (List.getElem_mem hjl)
    refine ⟨fun z => Blk z rb (rgc t.regs[j]).toArray t_api_Reg, b3, (t.regs[j].2 : Int), fun z q => by rw [add0, q.cell]; rfl, ?_⟩
    refine make_rule (n := 9) u_sl_uint8 i_uint8 rfl (by decide) (by decide) (base := y2.heap.size) (Nat.le_refl _) fun y3 ho3 g4 hs4 => ⟨g4.heap b3 (fun q => q), ?_⟩
    have hrep : ∀ k, (List.replicate k (Value.int .u8 0)) = bv (List.replicate k 0) := fun k => by simp [bv]
    rw [hrep] at ho3
    have p8 : (256 : Nat) ^ 8 = 18446744073709551616 := rfl
    refine put_spec (at_ := 1) (n := 8) (v := t.regs[j].2) (ho3.rd (by dsimp only; decide)) (by dsimp only; decide) (by decide) (by decide) (by decide) (by rw [p8]; exact rb1.2.2) fun x4 y4 ho4 g5 => ?_
    have b4 : Blk y4 rb (rgc t.regs[j]).toArray t_api_Reg := (g4.trans g5).heap b3 (fun q => q)
    have hl9 : lay (List.replicate 9 0) 1 8 t.regs[j].2 = 0 :: beN 8 t.regs[j].2 := rfl
    rw [hl9] at ho4
    have hn4 : x4.n = 9 := by have := own_n' ho4; rw [List.length_cons, beN_len] at this; exact this
    obtain ⟨hA4, _⟩ := rd_at (ho4.rd (by omega)) (i := 0) (by rw [List.length_cons]; omega)
    refine ⟨(t.regs[j].1 : Int), by rw [add0, b4.cell]; rfl, ⟨by decide, by omega, hA4⟩, ?_⟩
    rw [wrap_u8]
    refine own_put (i := 0) ho4 (by omega) rfl fun y5 ho5 k5 _ => ?_
    have gy4 := (g3.trans g4).trans g5
    have r4 := ry.go gy4
    have r5 : Row w1 y5 p (H ++ (t.regs.take j).flatMap regB) := r4.keep k5 (fun b hb e => by
      have := (ho4.ge b e.symm).1
      have := (r4.own.ge b hb).2
      have := (ry.own.ge b hb).2
      have := gy4.size
      have := (g3.trans g4).size
      omega) (fun i hi e => by
      have := (ho4.ge i e.symm).1
      have := ry.grow.size
      have := (g3.trans g4).size
      omega)
    have ho5 : Own y5 y3.heap.size t_uint8 1 x4 (bv (regB t.regs[j])) := ho5
    refine r5.app (ho5.rd (by omega)) (by rw [regB_len]; omega) fun p6 y6 r6 k6 => ?_
    rw [w64 (by omega) (by omega)]
    refine ⟨⟨j + 1, by omega, by omega, ?_⟩, by dsimp only; omega⟩
    rw [List.take_succ_eq_append_getElem hjl, List.flatMap_append, ← List.append_assoc]
    simpa using r6
  · have : j = t.regs.length := by omega
    subst this
    rw [List.take_length] at ry
    exact hR p y (g1.trans ry.grow) (ry.own.mono g1.size)
end
end Go.Proofs.YtpmebahhjgkflaaGreatDoor

/- Layer 10: the table that bytes say. -/
namespace Go.Proofs.YtpmebahhjgkflaaGreatDoor
open Go CF
set_option maxRecDepth 100000
def lastR (r : List (Nat × Nat)) : Int := match r.getLast? with | some x => (x.1 : Int) | none => -1
def ldN8 (l : L8) (j : Nat) : Nat := (l.getD (5 + 9 * j) 0).toNat
def ldK8 (l : L8) (j : Nat) : Nat := num ((l.drop (6 + 9 * j)).take 8)
/-- the first registrations that bytes say -/
def ldR (l : L8) : Nat → Option (List (Nat × Nat))
  | 0 => some []
  | j + 1 => match ldR l j with
    | none => none
    | some r => if (ldN8 l j : Int) ≤ lastR r ∨ 8 ≤ ldN8 l j ∨ ldK8 l j = 0 then none else some (r ++ [(ldN8 l j, ldK8 l j)])
def i8X (b : UInt8) : Int := if b.toNat < 128 then (b.toNat : Int) else (b.toNat : Int) - 256
def keyI (r : List (Nat × Nat)) (x : Int) : Option Nat := (r.find? fun r => decide ((r.1 : Int) = x)).map (·.2)
def ldBad (k : Nat) (h : Int) (r : List (Nat × Nat)) : Bool :=
  if k = 0 ∨ allK k = true then decide (h ≠ -1) || (allK k && decide (r = [])) else !(keyI r h).isSome || !typesK k
/-- the table that bytes say -/
def loadT (l : L8) : Option TabS :=
  if l = [] then some t0
  else if l.length < 5 ∨ l.getD 0 0 ≠ 80 ∨ l.getD 1 0 ≠ 82 ∨ l.length ≠ 5 + 9 * (l.getD 4 0).toNat then none
  else match ldR l (l.getD 4 0).toNat with
    | none => none
    | some r => if ldBad (l.getD 2 0).toNat (i8X (l.getD 3 0)) r = true then none else some ⟨r, 0, (l.getD 2 0).toNat, i8X (l.getD 3 0), true⟩
section
variable {w u v : World} {N : Nat → Prop} {tb n : Nat} {t : TabS}
end
end Go.Proofs.YtpmebahhjgkflaaGreatDoor

/- Layer 10: Load. -/
namespace Go.Proofs.YtpmebahhjgkflaaGreatDoor
open Go CF
set_option maxRecDepth 100000
section
variable {w u v : World} {tb n : Nat} {t : TabS}
end
end Go.Proofs.YtpmebahhjgkflaaGreatDoor

/- Layer 14: files that a command does not write. -/
namespace Go.Proofs.YtpmebahhjgkflaaGreatDoor
open Go CF
set_option maxRecDepth 100000
theorem tells_of {st : Wst} {file : ByteArray} {n : Nat} (h : Good (cont st file)) : Tells st file (rdBl st file 0 n) := by
  refine ⟨h, fun j hj => ?_⟩
  have hj : j < n := by unfold rdBl at hj; rwa [List.length_map, List.length_range] at hj
  unfold rdBl
  rw [List.getElem?_map, List.getElem?_range hj, Option.map_some, Nat.zero_add]
  rfl
theorem rdBl_len (st : Wst) (file : ByteArray) (lba n : Nat) : (rdBl st file lba n).length = n := by unfold rdBl; rw [List.length_map, List.length_range]
/-! ### files that a command does not write -/
theorem cont_seen {a b : Wst} {f : ByteArray} (h : a.seen f = b.seen f) : cont a f = cont b f := by unfold cont; rw [h]
theorem layW_seen_ne {st : Wst} {f g : ByteArray} {lba : Nat} {rs : Nat → L8} (h : f ≠ g) : ∀ k, (layW st g lba rs k).seen f = st.seen f
  | 0 => rfl
  | k + 1 => by
    show applyWr (layW st g lba rs k).seen g _ _ f = st.seen f
    unfold applyWr setF
    rw [if_neg h]
    exact layW_seen_ne h k
theorem layX_seen {F : Int → Bool} {cache : Bool} {st : Wst} {f g : ByteArray} {lba n : Nat} {rs : Nat → L8} {fua : Bool} (h : f ≠ g) : (layX F g cache st lba n rs fua).2.seen f = st.seen f := by
  unfold layX
  split
  · exact layW_seen_ne h _
  · show (syncIf _ (layW st g lba rs n)).seen f = _
    rw [syncIf_seen]; exact layW_seen_ne h _
theorem wroteX_seen {lba : Nat} {x : Option Nat × Wst} : (wroteX lba x).2 = x.2 := by unfold wroteX; split <;> rfl
theorem unGo_seen {F : Int → Bool} {cache : Bool} {st : Wst} {f g : ByteArray} {l : L8} (h : f ≠ g) : ∀ k, (unGo F g cache st l k).2.seen f = st.seen f
  | 0 => rfl
  | k + 1 => by
    have ih := unGo_seen (F := F) (cache := cache) (st := st) (l := l) h k
    unfold unGo
    cases hq : unGo F g cache st l k with
    | mk o x =>
      rw [hq] at ih
      cases o with
      | some s => exact ih
      | none =>
        dsimp only
        have := layX_seen (F := F) (cache := cache) (st := x) (lba := rngL l k) (n := rngK l k) (rs := fun _ => [0]) (fua := false) h
        unfold unmX
        cases hx : layX F g cache x (rngL l k) (rngK l k) (fun _ => [0]) false with
        | mk o2 y =>
          rw [hx] at this
          cases o2 <;> exact this.trans ih
theorem doX_seen {F : Int → Bool} {kind n : Nat} {cache : Bool} {st : Wst} {f g : ByteArray} {c : Cm} {l : L8} (h : f ≠ g) : (doX F kind n cache g st c l).2.seen f = st.seen f := by
  have wr : ∀ {L : List Bk} {fua : Bool} {s : Wst}, s.seen = st.seen → (writeX F g cache s c.lba L fua).2.seen f = st.seen f := fun {L fua s} e => by
    unfold writeX
    rw [wroteX_seen, layX_seen h, e]
  unfold doX
  split
  · rfl
  split
  · rfl
  split
  · split <;> rfl
  split
  · split
    · rfl
    · exact wr rfl
  split
  · unfold verifyX
    split
    · rfl
    · split
      · rfl
      · split
        · split <;> rfl
        · rfl
  split
  · split <;> rfl
  split
  · unfold sameX
    split
    · rfl
    · split
      · rw [wroteX_seen]; exact layX_seen h
      · exact wr rfl
  split
  · unfold unmapX
    split
    · rfl
    split
    · rfl
    split
    · rfl
    · have := unGo_seen (F := F) (cache := cache) (st := st) (l := l) h ((l.length - 8) / 16)
      split <;> (rename_i hq; rw [hq] at this; exact this)
  split
  · unfold compareX
    split
    · rfl
    split
    · rfl
    split
    · rfl
    · split
      · rfl
      · exact wr rfl
  split
  · rfl
  · rfl
end Go.Proofs.YtpmebahhjgkflaaGreatDoor

/- Layer 16: a unit's device within units over one world. -/
namespace Go.Proofs.YtpmebahhjgkflaaGreatDoor
open Go CF
set_option maxRecDepth 100000
/-- what is so of a unit's files and names -/
structure UOk (st : Wst) (s : USt) : Prop where
  n : 1 ≤ s.n ∧ s.n ≤ 4096
  form : formX s.inf = true
  name : ∃ b : ByteArray, 1 ≤ b.size ∧ b.size ≤ 28 ∧ s.file = b ++ s_x2ed ∧ s.keepf = b ++ s_x2ep
  good : Good (cont st s.file)
  once : s.on = 1 ∨ (s.on = 0 ∧ s.lock = 0)
structure SOk (st : Wst) (us : List (UA × USt)) (m : Nat) : Prop where
  wok : Wok st
  few : st.ops ≤ m ∧ st.waits.length ≤ m
  units : ∀ x ∈ us, UOk st x.2
theorem UOk.sizes {st : Wst} {s : USt} (h : UOk st s) : (1 ≤ s.file.size ∧ s.file.size ≤ 32) ∧ 1 ≤ s.keepf.size ∧ s.keepf.size ≤ 30 := by
  obtain ⟨b, h1, h2, h3, h4⟩ := h.name
  have e1 : (b ++ s_x2ed).size = b.size + 2 := size_app b s_x2ed
  have e2 : (b ++ s_x2ep).size = b.size + 2 := size_app b s_x2ep
  rw [h3, h4]
  omega
theorem UOk.prot {st : Wst} {s : USt} (h : UOk st s) : s.inf.prot ≤ 3 := (form_sizes h.form).2.2.2.2.2
theorem UOk.same {st st' : Wst} {s s' : USt} (h : UOk st s) (hg : Good (cont st' s.file)) (e1 : s'.inf = s.inf) (e2 : s'.file = s.file) (e3 : s'.keepf = s.keepf) (e4 : s'.n = s.n) (e5 : s'.on = s.on) (e6 : s'.lock = s.lock) : UOk st' s' :=
  ⟨by rw [e4]; exact h.n, by rw [e1]; exact h.form, by rw [e2, e3]; exact h.name, by rw [e2]; exact hg, by rw [e5, e6]; exact h.once⟩
section
variable {w u v : World} {S D D' : Nat → Prop} {pw i m : Nat} {a : UA} {s : USt} {st st' : Wst} {F F' : Int → Bool} {ℓ ℓ' : Nat → Option Nat} {us : List (UA × USt)}
open Classical in
/-- the world has another state: what is labelled anew -/
theorem Sys.worldN (h : Sys w ℓ pw st F us) {D D' : Nat → Prop} (hD : ∀ k, D k → ℓ k = some 0) (k : Keep D w u) (hw : IsWq u pw D' st' F') (hn : ∀ k, D' k → D k ∨ w.heap.size ≤ k) : ∃ ℓ', Mv w u ℓ ℓ' ∧ Sys u ℓ' pw st' F' us ∧ ∀ b, ℓ' b ≠ none → ℓ b ≠ none ∨ D' b := by
  have hsz := k.size
  refine ⟨fun b => if w.heap.size ≤ b ∧ D' b then some 0 else ℓ b, ⟨k.mono fun b hb q => by rw [hD b q]; exact Option.some_ne_none _, fun b hb => if_neg (by omega)⟩, ⟨⟨D', hw, fun b hb => ?_⟩, fun j hj => ⟨(h.U j hj).1.step k (Safe.sub fun b _ q => by rw [hD b q]; exact Option.some_ne_none _) (fun b hb q => ?_) (fun b hb => ?_), fun b hb => ?_⟩, fun b hb => ?_⟩, fun b hb => ?_⟩
  · rcases hn b hb with q | q
    · by_cases r : w.heap.size ≤ b ∧ D' b
      · exact if_pos r
      · rw [if_neg r]; exact hD b q
    · exact if_pos ⟨q, hb⟩
  · have := (h.U j hj).2 b hb
    rw [hD b q] at this
    injection this with this
    omega
  · by_cases r : w.heap.size ≤ b
    · exact .inr r
    · rw [if_neg (by omega)] at hb; exact .inl hb
  · have := (h.U j hj).1.lt hb
    rw [if_neg (by omega)]
    exact (h.U j hj).2 b hb
  · by_cases r : w.heap.size ≤ b ∧ D' b
    · exact hw.lt r.2
    · rw [if_neg r] at hb
      have := h.lt b hb
      omega
  · by_cases r : w.heap.size ≤ b ∧ D' b
    · exact .inr r.2
    · dsimp only at hb; rw [if_neg r] at hb; exact .inl hb
/-- the data of a result -/
def Dat (w u : World) (ℓ' : Nat → Option Nat) (d : Sl) (l : L8) : Prop := Own u w.heap.size t_uint8 1 d (bv l) ∧ ∀ b, d.blk = some b → ℓ' b = none
theorem Dat.nil (w u : World) (ℓ' : Nat → Option Nat) : Dat w u ℓ' nilS [] := ⟨own_nil _ _ _ _, fun b hb => by cases hb⟩
/-- a unit's device, out of the units -/
theorem Sys.dev (H : Sys w ℓ pw st F us) (K : SOk st us m) (hi : i < us.length) (he : us[i] = (a, s)) : ∃ D, (∀ k, D k → ℓ k = some 0) ∧ Dvq w a.dv a.ps pw s.file s.inf.prot s.n s.cache D st (rdBl st s.file 0 s.n) m F := by
  obtain ⟨D, hW, hD⟩ := H.W
  obtain ⟨hU, hown⟩ := H.at hi he
  have O : UOk st s := by have := K.units us[i] (List.getElem_mem hi); rw [he] at this; exact this
  obtain ⟨z1, z2, z3, z4, z5, z6, z7⟩ := set7 a
  have nD : ∀ {b}, a.set b → ¬ D b := fun hb q => by
    have h1 := hown _ hb
    rw [hD _ q] at h1
    injection h1 with h1
    omega
  exact ⟨D, hD, hU.dev, hU.store, hW, nD z3, nD z2, K.wok, tells_of O.good, rdBl_len _ _ _ _, O.n, O.sizes.1, O.prot, K.few⟩
theorem last_d {b : ByteArray} : (ls (b ++ s_x2ed)).getLast? = some 100 := by
  rw [ls_append, List.getLast?_append]
  have : (ls s_x2ed).getLast? = some 100 := by decide
  rw [this]; rfl
theorem nmS_ne_file {b c : ByteArray} {i : Nat} (hi : i < 2) : nmS b i ≠ c ++ s_x2ed := fun e => by
  have h := congrArg (fun x => (ls x).getLast?) e
  rw [last_d] at h
  have : nmS b i = (b ++ s_x2e) ++ str [UInt8.ofNat (48 + i)] := rfl
  rw [this, ls_append, List.getLast?_append, ls_str] at h
  have h : some (UInt8.ofNat (48 + i)) = some 100 := h
  injection h with h
  have h2 := congrArg UInt8.toNat h
  rw [UInt8.toNat_ofNat', Nat.mod_eq_of_lt (by omega)] at h2
  have : (100 : UInt8).toNat = 100 := rfl
  omega
/-- a unit's device does a command -/
theorem sys_dev {c : Cm} {p : Sl} {l : L8} {R : Array Value → World → Prop} (hN : DevN c.kind) (H : Sys w ℓ pw st F us) (K : SOk st us m) (hm : m ≤ 400000000) (hi : i < us.length) (he : us[i] = (a, s)) (hp : RdX w ℓ 1 p (bv l)) (hb : p.n ≤ 140737488351232) (hlb : c.lba < 18446744073709551616) (hbl : c.blocks < 18446744073709551616)
    (hR : ∀ u ℓ' d, Mv w u ℓ ℓ' → Sys u ℓ' pw (doX F s.inf.prot s.n s.cache s.file st c l).2 F us → SOk (doX F s.inf.prot s.n s.cache s.file st c l).2 us (m + 9000) → Dat w u ℓ' d (doX F s.inf.prot s.n s.cache s.file st c l).1.d → R (rsv (doX F s.inf.prot s.n s.cache s.file st c l).1.st (doX F s.inf.prot s.n s.cache s.file st c l).1.sn d).toArray u) :
    Csbc_Dev_Do (some ⟨a.dv, 0, none⟩) (cmv c).toArray p w R := by
  obtain ⟨D, hD, hv⟩ := H.dev K hi he
  have hpk : ∀ v, Keep D w v → Rd v 1 p (bv l) := fun v k => hp.rd.keepN k fun hne b hb q => by
    have := (hp.out hne b hb).2
    rw [hD _ q] at this
    cases this
  refine do_fun_on hN hv hm hp.rd hb hpk hlb hbl fun u D' bs' d hk hv' hD' ho => ?_
  obtain ⟨ℓ', mv, Hs, hl⟩ := H.worldN hD hk hv'.isW hD'
  refine hR u ℓ' d mv Hs ⟨hv'.ok, hv'.few, fun x hx => ?_⟩ ⟨ho, fun b hb => ?_⟩
  · have ok := K.units x hx
    refine ok.same ?_ rfl rfl rfl rfl rfl rfl
    by_cases e : x.2.file = s.file
    · rw [e]; exact hv'.tells.1
    · rw [cont_seen (doX_seen e)]; exact ok.good
  · cases hq : ℓ' b with
    | none => rfl
    | some y =>
      exfalso
      rcases hl b (by rw [hq]; exact Option.some_ne_none _) with r | r
      · have := H.lt b r
        have := (ho.ge b hb).1
        omega
      · obtain ⟨cur, hc⟩ := own_heap ho hb
        obtain ⟨pl, _, mb, md, ws, cs, hd⟩ := hv'.isW
        exact hd.nb b cur hc r
end
end Go.Proofs.YtpmebahhjgkflaaGreatDoor

/- Layer 16: what a unit's command comes to, as a function: those that change nothing but what waits, and those on blocks. -/
namespace Go.Proofs.YtpmebahhjgkflaaGreatDoor
open Go CF
set_option maxRecDepth 100000
structure RunX where
  x : RsX
  s : USt
  w : Wst
abbrev uaS (c : Nat) : Sn := ⟨6, c, 0, false, 0, 0, false, false⟩
/-- what waits, as a sense -/
def waitS (q : List Nat) : Sn := match peekX q with | some c => uaS c | none => sn0
/-- what REQUEST SENSE brings -/
def askL (c : Cm) (q : List Nat) : L8 := cutX (if c.long then (descX (waitS q)).1 else (fixedX (waitS q)).1) c.alloc
/-- commands that change nothing but what waits, and those on blocks -/
def baseX (F : Int → Bool) (s : USt) (st : Wst) (n : Nat) (c : Cm) (l : L8) : RunX :=
  if c.kind = 1 then ⟨okX [], s, st⟩
  else if c.kind = 2 then ⟨okX (askL c (s.q n)), toldU s n, st⟩
  else if c.kind = 3 then match (if c.evpd then pageX s.inf c.page else some (stdX s.inf)) with
    | some d => ⟨okX (cutX d c.alloc), s, st⟩
    | none => ⟨snX (fltS 2 7), s, st⟩
  else if c.kind = 17 then ⟨okX (cutX (lunsX [0]) c.alloc), s, st⟩
  else if c.kind = 5 then match msenseX s.now s.saved c with
    | some d => ⟨okX (cutX d c.alloc), s, st⟩
    | none => ⟨snX (mbadS 2 5 true), s, st⟩
  else ⟨(doX F s.inf.prot s.n s.cache s.file st c l).1, s, (doX F s.inf.prot s.n s.cache s.file st c l).2⟩
structure CmOk (c : Cm) : Prop where
  lba : c.lba < 18446744073709551616
  blocks : c.blocks < 18446744073709551616
  page : c.page < 256
  service : c.service < 256
  type : c.type < 256
  alloc : c.kind = 4 → c.alloc ≤ 1000000
theorem waitS_bounds {q : List Nat} (h : ∀ c ∈ q, c < 65536) : SnB (waitS q) := by
  unfold waitS peekX
  cases hb : bestN q q.length with
  | none => show SnB sn0; exact ⟨by decide, by decide, by decide⟩
  | some i =>
    refine ⟨by dsimp only [Option.map_some, uaS]; omega, ?_, by dsimp only [Option.map_some, uaS]; omega⟩
    show q.getD i 0 < 65536
    rw [List.getD_eq_getElem?_getD]
    cases hq : q[i]? with
    | none => decide
    | some c => exact h c (List.mem_of_getElem? hq)
theorem fixedX_len (s : Sn) : (fixedX s).1.length ≤ 18 := by
  unfold fixedX
  split
  · decide
  split
  · decide
  · show (fixed0 s).length ≤ 18
    unfold fixed0 keyL
    simp only [List.length_append, List.length_cons, List.length_nil]
    split <;> split <;> simp [beN_len]
theorem descX_len (s : Sn) : (descX s).1.length ≤ 40 := by
  unfold descX
  split
  · decide
  · show (desc0 s).length ≤ 40
    unfold desc0 descB keyL
    simp only [List.length_append, List.length_cons, List.length_nil]
    split <;> split <;> simp [beN_len]
theorem stdX_len (i : InfS) : (stdX i).length ≤ 1000 := by
  unfold stdX
  cases hf : formX i with
  | false => rw [if_pos rfl]; decide
  | true =>
    obtain ⟨z1, z2, z3, z4, z5, z6⟩ := form_sizes hf
    have l1 := length_ls i.v
    have l2 := length_ls i.p
    have l3 := length_ls i.r
    rw [if_neg Bool.noConfusion]
    simp only [List.length_append, List.length_cons, List.length_nil, wideL_len]
    omega
theorem pageX_len {i : InfS} {p : Nat} {d : L8} (h : pageX i p = some d) : d.length ≤ 1000 := by
  unfold pageX at h
  cases hf : formX i with
  | false => rw [hf, if_pos rfl] at h; cases h
  | true =>
    rw [hf, if_neg Bool.noConfusion] at h
    obtain ⟨z1, z2, z3, z4, z5, z6⟩ := form_sizes hf
    have l1 := length_ls i.s
    have l3 := idL_len hf
    obtain ⟨b, hb, rfl⟩ := Option.map_eq_some_iff.1 h
    have : b.length ≤ 64 := by
      unfold bodyX at hb
      split at hb
      · injection hb with hb; subst hb; decide
      split at hb
      · injection hb with hb; subst hb; omega
      split at hb
      · injection hb with hb; subst hb; simp only [List.length_append, List.length_cons, List.length_nil]; omega
      split at hb
      · injection hb with hb; subst hb; decide
      split at hb
      · injection hb with hb; subst hb; decide
      · cases hb
    simp only [List.length_append, List.length_cons, List.length_nil]
    omega
theorem msenseX_len {now saved : Vals} {c : Cm} {d : L8} (h : msenseX now saved c = some d) : d.length ≤ 1000 := by
  unfold msenseX at h
  split at h
  · cases h
  · injection h with h
    subst h
    have := mbody_len now saved c
    rw [List.length_append]
    unfold mheadX
    split <;> simp only [List.length_cons, List.length_nil] <;> omega
theorem SOk.mono {st : Wst} {us : List (UA × USt)} {m m' : Nat} (h : SOk st us m) (hm : m ≤ m') : SOk st us m' := ⟨h.wok, ⟨Nat.le_trans h.few.1 hm, Nat.le_trans h.few.2 hm⟩, h.units⟩
theorem SOk.put {st : Wst} {us : List (UA × USt)} {m i : Nat} {x : UA × USt} (h : SOk st us m) (hx : UOk st x.2) : SOk st (us.set i x) m := ⟨h.wok, h.few, fun y hy => (List.mem_or_eq_of_mem_set hy).elim (h.units y) fun e => e ▸ hx⟩
theorem SOk.at {st : Wst} {us : List (UA × USt)} {m i : Nat} {a : UA} {s : USt} (h : SOk st us m) (hi : i < us.length) (he : us[i] = (a, s)) : UOk st s := by
  have := h.units us[i] (List.getElem_mem hi)
  rw [he] at this; exact this
theorem set_same {us : List (UA × USt)} {i : Nat} {x : UA × USt} (hi : i < us.length) (he : us[i] = x) : us.set i x = us := by
  rw [← he]; exact List.set_getElem_self hi
section
variable {w u v w3 : World} {S D D' : Nat → Prop} {pw i m n ab : Nat} {a : UA} {s : USt} {st st' : Wst} {F F' : Int → Bool} {ℓ ℓ' ℓ1 : Nat → Option Nat} {us : List (UA × USt)} {X : RunX} {R : Array Value → World → Prop} {d : Sl} {l : L8}
/-- a command's end -/
def UOut (w : World) (ℓ : Nat → Option Nat) (pw : Nat) (F : Int → Bool) (us : List (UA × USt)) (i : Nat) (a : UA) (m : Nat) (X : RunX) (R : Array Value → World → Prop) : Prop :=
  ∀ v ℓ' d, Mv w v ℓ ℓ' → Sys v ℓ' pw X.w F (us.set i (a, X.s)) → SOk X.w (us.set i (a, X.s)) (m + 200000) → Dat w v ℓ' d X.x.d → R (rsv X.x.st X.x.sn d).toArray v
theorem Dat.from {w u v : World} {ℓ' : Nat → Option Nat} {d : Sl} {l : L8} (h : Dat u v ℓ' d l) (g : w.heap.size ≤ u.heap.size) : Dat w v ℓ' d l := ⟨h.1.mono g, h.2⟩
/-- a result that lies in a variable of the call -/
theorem UOut.ret (h : UOut w ℓ pw F us i a m X R) (mv : Mv w v ℓ ℓ') (H : Sys v ℓ' pw X.w F (us.set i (a, X.s))) (K : SOk X.w (us.set i (a, X.s)) (m + 200000)) (dt : Dat w v ℓ' d X.x.d) (hab : w.heap.size ≤ ab) (hn : ℓ' ab = none) (hb : Blk v ab z10 t_api_Result) : Hand ab R (rsv X.x.st X.x.sn d).toArray v :=
  ret_rule hb rfl fun v' hk => h v' ℓ' d (mv.loc hk fun b hb2 q => by omega) (H.local1 hb hn hk (rowT_not (by decide) (by decide) (by decide)) (by decide)) K ⟨dt.1.keep hk fun b hbb q => own_ne dt.1 hb (by decide) (by rw [hbb, q]), dt.2⟩
theorem UOut.hand (h : UOut w ℓ pw F us i a m X R) (mv : Mv w w3 ℓ ℓ1) (g : w.heap.size ≤ w3.heap.size) (hab : w.heap.size ≤ ab) (hn : ℓ1 ab = none) (hb : Blk w3 ab z10 t_api_Result) : UOut w3 ℓ1 pw F us i a m X (Hand ab R) := fun v ℓ' d mv2 H K dt =>
  h.ret (mv.trans mv2) H K (dt.from g) hab (by rw [mv2.lab _ (lt_of_heap hb)]; exact hn) (mv2.heap hb hn)
theorem Dat.new {w u v : World} {ℓ : Nat → Option Nat} (H : Sys w ℓ pw st F us) (g : Grow w u) (h : Own v u.heap.size t_uint8 1 d (bv l)) : Dat w v ℓ d l := ⟨h.mono g.size, fun b hb => H.fresh (by have := (h.ge b hb).1; have := g.size; omega)⟩
theorem rd_cut {xs : Sl} {l : L8} {base : Nat} (h : Own v base t_uint8 1 xs (bv l)) (hl : l.length ≤ 1000) : Rd v 1 xs (bv l) ∧ xs.n ≤ 1000000 := by
  have := own_n h
  exact ⟨h.rd (by omega), by omega⟩
end
end Go.Proofs.YtpmebahhjgkflaaGreatDoor

/- Layer 16: PERSISTENT RESERVE IN, as a function. -/
namespace Go.Proofs.YtpmebahhjgkflaaGreatDoor
open Go CF
set_option maxRecDepth 100000
/-- who holds a reservation -/
def rsvL (t : TabS) : L8 := if (reservedT t).1 = 0 then [] else (match t.regs.reverse.find? fun r => decide ((r.1 : Int) = (reservedT t).2) with
  | some r => beN 8 r.2
  | none => List.replicate 8 0) ++ [0, 0, 0, 0, 0, UInt8.ofNat (reservedT t).1, 0, 0]
/-- a registration, told whole -/
def fullL (t : TabS) (r : Nat × Nat) : L8 := [if holdsT t r.1 then 1 else 0, if holdsT t r.1 then UInt8.ofNat (reservedT t).1 else 0, 0, UInt8.ofNat r.1]
def inRow (t : TabS) (svc : Nat) (r : Nat × Nat) : L8 := beN 8 r.2 ++ if svc = 3 then fullL t r else []
def inBody (t : TabS) (svc : Nat) : L8 := if svc = 1 then rsvL t else t.regs.flatMap (inRow t svc)
/-- what PERSISTENT RESERVE IN brings -/
def inX (t : TabS) (svc : Nat) : L8 := if svc = 2 then [0, 8, 1, 128, 234, 1, 0, 0] else beN 4 t.gen ++ beN 4 (inBody t svc).length ++ inBody t svc
section
variable {w u v : World} {N : Nat → Prop} {pw svc : Nat} {a : UA} {s : USt}
end
end Go.Proofs.YtpmebahhjgkflaaGreatDoor

/- Layer 16: run, but for four kinds of commands. -/
namespace Go.Proofs.YtpmebahhjgkflaaGreatDoor
open Go CF
set_option maxRecDepth 100000
section
variable {w u v w3 : World} {S D D' : Nat → Prop} {pw i m n ab : Nat} {a : UA} {s : USt} {st st' : Wst} {F F' : Int → Bool} {ℓ ℓ' ℓ1 : Nat → Option Nat} {us : List (UA × USt)} {X : RunX} {R : Array Value → World → Prop} {out : Sl} {l : L8} {c : Cm}
/-- what may come of run's call, a result of the call laid -/
structure Parts (w : World) (ℓ : Nat → Option Nat) (pw : Nat) (F : Int → Bool) (us : List (UA × USt)) (i : Nat) (a : UA) (n : Nat) (c : Cm) (out : Sl) (R : Array Value → World → Prop) : Prop where
  sel : c.kind = 4 → ∀ w2 ab, Grow w w2 → w.heap.size ≤ ab → Blk w2 ab z10 t_api_Result → Cunit_Unit_sel (some ⟨a.ub, 0, none⟩) (n : Int) (cmv c).toArray out w2 (Hand ab R)
  prout : c.kind = 16 → ∀ w2 ab, Grow w w2 → w.heap.size ≤ ab → Blk w2 ab z10 t_api_Result → Cunit_Unit_out (some ⟨a.ub, 0, none⟩) (n : Int) (cmv c).toArray out w2 (Hand ab R)
  copy : c.kind = 18 → ∀ w2 ab, Grow w w2 → w.heap.size ≤ ab → Blk w2 ab z10 t_api_Result → Cunit_Unit_copy (some ⟨a.ub, 0, none⟩) (n : Int) (cmv c).toArray out w2 (Hand ab R)
/-- what comes of those that need not go on -/
def runB (F : Int → Bool) (s : USt) (st : Wst) (n : Nat) (c : Cm) (l : L8) : RunX := if c.kind = 15 then ⟨okX (cutX (inX s.tab c.service) c.alloc), s, st⟩ else baseX F s st n c l
/-- what a kind of command needs of what lies below -/
structure BaseN (k : Nat) : Prop where
  fixed : k = 2 → ∀ {w : World} {s : Sn} {R : Sl → Int → World → Prop}, SnB s → (∀ xs w', Grow w w' → Own w' w.heap.size t_uint8 1 xs (bv (fixedX s).1) → R xs ((fixedX s).2 : Int) w') → Csense_Fixed (snv s).toArray w R
  desc : k = 2 → ∀ {w : World} {s : Sn} {R : Sl → Int → World → Prop}, SnB s → (∀ xs w', Grow w w' → Own w' w.heap.size t_uint8 1 xs (bv (descX s).1) → R xs ((descX s).2 : Int) w') → Csense_Described (snv s).toArray w R
  std : k = 3 → ∀ {w : World} {i : InfS} {R : Sl → World → Prop}, formX i = true → (∀ xs w', Grow w w' → Own w' w.heap.size t_uint8 1 xs (bv (stdX i)) → R xs w') → Cinq_Standard (infv i).toArray w R
  page : k = 3 → ∀ {w : World} {i : InfS} {page : Nat} {R : Sl → Bool → World → Prop}, formX i = true → page < 256 → (∀ xs w', Grow w w' → Own w' w.heap.size t_uint8 1 xs (bv ((pageX i page).getD [])) → R xs (pageX i page).isSome w') → Cinq_Page (infv i).toArray (page : Int) w R
  luns : k = 17 → ∀ {w : World} {p : Sl} {l : List Nat} {R : Sl → World → Prop}, Rd w 1 p (natv l) → l.length ≤ 1000 → (∀ xs w', Grow w w' → Own w' w.heap.size t_uint8 1 xs (bv (lunsX l)) → R xs w') → Cinq_Luns p w R
  msense : k = 5 → ∀ {w : World} {pb : Nat} {now saved : Vals} {c : Cm} {R : Sl → Array Value → Bool → World → Prop}, IsP w pb now saved →
    (match msenseX now saved c with
      | none => ∀ w', Grow w w' → R nilS (snv (mbadS 2 5 true)).toArray false w'
      | some l => ∀ xs w', Grow w w' → Own w' w.heap.size t_uint8 1 xs (bv l) → R xs (snv sn0).toArray true w') → Cmode_Pages_Sense (some ⟨pb, 0, none⟩) (cmv c).toArray w R
  prin : k = 15 → ∀ {w : World} {N : Nat → Prop} {pw : Nat} {a : UA} {s : USt} {svc : Nat} {R : Sl → World → Prop}, IsU w N pw a s → (∀ b, N b → b < w.heap.size) → svc < 256 → (∀ xs z, Grow w z → Own z w.heap.size t_uint8 1 xs (bv (inX s.tab svc)) → R xs z) → Cunit_Unit_in (some ⟨a.ub, 0, none⟩) (svc : Int) w R
  inlen : k = 15 → ∀ {t : TabS}, TabOk t → ∀ svc : Nat, (inX t svc).length ≤ 1000
  dev : k ≠ 1 → k ≠ 2 → k ≠ 3 → k ≠ 17 → k ≠ 5 → k ≠ 4 → k ≠ 15 → k ≠ 16 → k ≠ 18 → DevN k
set_option maxHeartbeats 2000000 in
theorem run_base (hN : c.kind ≠ 4 → c.kind ≠ 16 → c.kind ≠ 18 → BaseN c.kind) (H : Sys w ℓ pw st F us) (K : SOk st us m) (hm : m ≤ 400000000) (hi : i < us.length) (he : us[i] = (a, s)) (hn : n < 8) (hp : RdX w ℓ 1 out (bv l)) (hb : out.n ≤ 140737488351232) (hc : CmOk c)
    (hR : c.kind ≠ 4 → c.kind ≠ 16 → c.kind ≠ 18 → UOut w ℓ pw F us i a m (runB F s st n c l) R) (hP : Parts w ℓ pw F us i a n c out R) : Cunit_Unit_run (some ⟨a.ub, 0, none⟩) (n : Int) (cmv c).toArray out w R := by
  refine Funit_Unit_run.calls _ _ _ _ _ _ (new_rule fun cb w1 hcb hb1 hg1 hs1 => new_rule fun ab w2 hab hb2 hg2 hs2 => ?_)
  have g2 := hg1.trans hg2
  have hc2 : Blk w2 cb (cmv c).toArray t_api_Cmd := hg2.heap hb1 (fun q => q)
  have hb2 : Blk w2 ab z10 t_api_Result := hb2
  have s1 := hg1.size
  have hab' : w.heap.size ≤ ab := by omega
  have nab : ℓ ab = none := H.fresh hab'
  have ncb : ℓ cb = none := H.fresh (by omega)
  have hset := set_same hi he
  have hU := (H.at hi he).1
  have KU := K.at hi he
  have cAt : ∀ {v : World} {o : Nat} {x : Value}, Grow w2 v → (cmv c).toArray[o]? = some x → v.cell? ((⟨cb, 0, none⟩ : Addr).add o) = some x := fun g e => by rw [add0, Blk.cell (g.heap hc2 (fun q => q)), Nat.zero_add]; exact e
  have cl : ∀ {v : World}, Grow w2 v → (loadVar t_api_Cmd ⟨cb, 0, none⟩).run Tryz.prog v = .ok (.agg (cmv c).toArray) v := fun g => cLoad (blk_cells (g.heap hc2 (fun q => q)))
  refine ⟨(c.kind : Int), cAt (Keep.refl _ _) rfl, ?_⟩
  -- data that were cut, behind growth alone
  have done : ∀ {v : World} {x : L8} {xs : Sl} {w4 : World}, UOut w ℓ pw F us i a m ⟨okX x, s, st⟩ R → Grow w2 w4 → Grow w4 v → Own v w4.heap.size t_uint8 1 xs (bv x) → Hand ab R (rsv 0 sn0 xs).toArray v := fun {v x xs w4} hR g g' o => by
    have gv := g2.trans (g.trans g')
    refine hR.ret (X := ⟨okX x, s, st⟩) (d := xs) (Mv.grow gv) ?_ ?_ (Dat.new H (g2.trans g) o) hab' nab ((g.trans g').heap hb2 (fun q => q))
    · show Sys v ℓ pw st F (us.set i (a, s)); rw [hset]; exact H.grow gv
    · show SOk st (us.set i (a, s)) (m + 200000); rw [hset]; exact K.mono (by omega)
  have fail : ∀ {v : World} {x : Sn}, UOut w ℓ pw F us i a m ⟨snX x, s, st⟩ R → Grow w2 v → Hand ab R (rsv 2 x nilS).toArray v := fun {v x} hR g => by
    have gv := g2.trans g
    refine hR.ret (X := ⟨snX x, s, st⟩) (d := nilS) (Mv.grow gv) ?_ ?_ (Dat.nil _ _ _) hab' nab (g.heap hb2 (fun q => q))
    · show Sys v ℓ pw st F (us.set i (a, s)); rw [hset]; exact H.grow gv
    · show SOk st (us.set i (a, s)) (m + 200000); rw [hset]; exact K.mono (by omega)
  have base : c.kind ≠ 15 → runB F s st n c l = baseX F s st n c l := fun h => if_neg h
  refine br_eq (y := 1) (fun k => ?_) (fun k1 => ?_)
  · have hR := hR (by omega) (by omega) (by omega)
    rw [base (by omega)] at hR
    unfold baseX at hR
    rw [if_pos (by omega)] at hR
    exact done (xs := nilS) hR (Keep.refl _ _) (Keep.refl _ _) (own_nil _ _ _ _)
  refine br_eq (y := 2) (fun k => ?_) (fun k2 => ?_)
  · have hR := hR (by omega) (by omega) (by omega)
    rw [base (by omega)] at hR
    unfold baseX at hR
    rw [if_neg (by omega), if_pos (by omega)] at hR
    refine new_rule fun sb w3 hsb hb3 hg3 hs3 => storeVar_rule (cells := (snv sn0).toArray) hb3 i_api_Sense rfl rfl (by simp [snv, sn0, Value.oneCell']) fun w4 hb4 hk4 hs4 => ?_
    have g4' : Grow w2 w4 := hg3.keep hk4 fun b hb q => by omega
    have g4 := g2.trans g4'
    have H4 := H.grow g4
    obtain ⟨hU4, hown⟩ := H4.at hi he
    obtain ⟨z1, z2, z3, z4, z5, z6, z7⟩ := set7 a
    have nqb : ℓ a.qb = some (i + 1) := hown _ z7
    refine ⟨rfl, some ⟨a.qb, 0, none⟩, hU4.cellU fun P => rfl, ?_⟩
    refine next_spec hU4.q hn (by rw [nqb]; exact Option.some_ne_none _) H4.lt fun w5 hk5 hq5 => ?_
    have sfq : Safe w4 (fun k => ℓ k ≠ none) fun b => b = a.qb := Safe.sub fun b _ q => by rw [q, nqb]; exact Option.some_ne_none _
    have hU5 : IsU w5 (fun k => ℓ k ≠ none) pw a (toldU s n) := hU4.que hk5 sfq (fun b _ hne q => hne q) (fun _ q => .inl q) hq5
    obtain ⟨m5, H5⟩ := H4.putA hi he hk5 (fun b _ q => by rw [q]; exact z7) hU5
    have m5 : Mv w w5 ℓ ℓ := (Mv.grow g4).trans m5
    have nsb : ℓ sb = none := H.fresh (by have := g2.size; omega)
    have hs5 : Blk w5 sb (snv sn0).toArray t_api_Sense := hk5.heap hb4 (by rintro rfl; rw [nqb] at nsb; cases nsb)
    have hc5 : Blk w5 cb (cmv c).toArray t_api_Cmd := hk5.heap (g4'.heap hc2 (fun q => q)) (by rintro rfl; rw [nqb] at ncb; cases ncb)
    have ha5 : Blk w5 ab z10 t_api_Result := hk5.heap (g4'.heap hb2 (fun q => q)) (by rintro rfl; rw [nqb] at nab; cases nab)
    have s4 := g4.size
    have s5 := hk5.size
    have hsbw : w.heap.size ≤ sb := by have := g2.size; omega
    have wok := waitS_bounds (hU.q.few n hn).2
    -- behind the sense is there
    have go : ∀ v, Grow w5 v ∨ Keep (fun k => k = sb) w5 v → Blk v sb (snv (waitS (s.q n))).toArray t_api_Sense → Mv w v ℓ ℓ → Sys v ℓ pw st F (us.set i (a, toldU s n)) → ∃ g : Array Value, (loadVar t_api_Sense ⟨sb, 0, none⟩).run Tryz.prog v = .ok (.agg g) v ∧ Csense_Fixed g v fun xs n2 w07 => ∃ b1 : Bool, w07.cell? ((⟨cb, 0, none⟩ : Addr).add 1) = some (.bool b1) ∧ letX (fun (p1 : Sl) (w08 : World) => ∃ n3 : Int, w08.cell? ((⟨cb, 0, none⟩ : Addr).add 4) = some (.int .i64 n3) ∧ Cinq_Cut p1 n3 w08 fun xs1 w09 => Hand ab R (rsv 0 sn0 xs1).toArray w09) fun J_ => Br b1 (∃ g1 : Array Value, (loadVar t_api_Sense ⟨sb, 0, none⟩).run Tryz.prog w07 = .ok (.agg g1) w07 ∧ Csense_Described g1 w07 fun xs2 n4 w011 => J_ xs2 w011) (J_ xs w07) := fun v gv bv0 mv Hv => by
      have k5v : Keep (fun k => k = sb) w5 v := gv.elim (fun g => g.mono fun _ _ q => q.elim) id
      have cbsb : cb ≠ sb := blk_ne hc5 hs5 (by decide)
      have absb : ab ≠ sb := blk_ne ha5 hs5 (by decide)
      have hcv : Blk v cb (cmv c).toArray t_api_Cmd := k5v.heap hc5 cbsb
      have hav : Blk v ab z10 t_api_Result := k5v.heap ha5 absb
      refine ⟨_, sLoad (blk_cells bv0), (hN (by omega) (by omega) (by omega)).fixed (by omega) wok fun xs w7 g7 o7 => ⟨c.long, by rw [add0, Blk.cell (g7.heap hcv (fun q => q))]; rfl, ?_⟩⟩
      refine letX1 (fun p z => Grow v z ∧ Own z v.heap.size t_uint8 1 p (bv (if c.long then (descX (waitS (s.q n))).1 else (fixedX (waitS (s.q n))).1))) ?_ (fun J => ?_)
      · rintro p z ⟨gz, oz⟩
        refine ⟨c.alloc, by rw [add0, Blk.cell (gz.heap hcv (fun q => q))]; rfl, ?_⟩
        have hl : (if c.long then (descX (waitS (s.q n))).1 else (fixedX (waitS (s.q n))).1).length ≤ 1000 := by
          have := descX_len (waitS (s.q n)); have := fixedX_len (waitS (s.q n)); split <;> omega
        obtain ⟨r1, r2⟩ := rd_cut oz hl
        refine cut_spec r1 r2 fun x z2 g9 o9 => ?_
        have gv2 := gz.trans g9
        refine hR.ret (X := ⟨okX (askL c (s.q n)), toldU s n, st⟩) (d := x) (mv.go gv2) (Hv.grow gv2) ((K.put (x := (a, toldU s n)) (KU.same KU.good rfl rfl rfl rfl rfl rfl)).mono (by omega)) ⟨o9.mono ?_, fun b hb => H.fresh ?_⟩ hab' nab (gv2.heap hav (fun q => q))
        · have := k5v.size; have := gz.size; omega
        · have := (o9.ge b hb).1; have := k5v.size; have := gz.size; omega
      · cases hlg : c.long with
        | true => rw [hlg, if_pos rfl] at J; exact br_t rfl ⟨_, sLoad (blk_cells (g7.heap bv0 (fun q => q))), (hN (by omega) (by omega) (by omega)).desc (by omega) wok fun x2 w8 g8 o8 => J x2 w8 ⟨g7.trans g8, o8.mono g7.size⟩⟩
        | false => rw [hlg, if_neg Bool.noConfusion] at J; exact br_f rfl (J xs w7 ⟨g7, o7⟩)
    unfold waitS at go
    cases hpk : peekX (s.q n) with
    | none =>
      rw [hpk] at go
      refine letX0 (fun v => v = w5) ?_ (fun J => br_f rfl (J w5 rfl))
      intro v e
      rw [e]
      exact go w5 (.inl (Keep.refl _ _)) hs5 m5 H5
    | some code =>
      rw [hpk] at go
      refine letX0 (fun v => Keep (fun k => k = sb) w5 v ∧ Blk v sb (snv (uaS code)).toArray t_api_Sense) ?_ (fun J => ?_)
      · rintro v ⟨kv, bv0⟩
        exact go v (.inr kv) bv0 (m5.loc kv fun b hb q => by omega) (H5.local1 hs5 nsb kv (rowT_not (by decide) (by decide) (by decide)) (by decide))
      · exact br_t rfl (storeVar_rule (cells := (snv (uaS code)).toArray) hs5 i_api_Sense rfl rfl (by simp [snv, Value.oneCell']) fun v bv0 kv _ => J v ⟨kv, bv0⟩)
  refine br_eq (y := 3) (fun k => ?_) (fun k3 => ?_)
  · have hR := hR (by omega) (by omega) (by omega)
    rw [base (by omega)] at hR
    unfold baseX at hR
    rw [if_neg (by omega), if_neg (by omega), if_pos (by omega)] at hR
    have hU2 := hU.grow g2
    have info : ∀ {v : World}, Grow w2 v → (loadVar t_inq_Info ((gA (some (⟨a.ub, 0, none⟩ : Addr))).add 0)).run Tryz.prog v = .ok (.agg (infv s.inf).toArray) v := fun {v} g => by
      obtain ⟨P, hbu, _⟩ := (hU2.grow g).unit
      refine loadVar_rule (cs := infv s.inf) g_inq_Info i_inq_Info rfl fun j x hj => ?_
      rw [gA, add0, add0, hbu.cell, Nat.zero_add]
      rw [show ucells a P s = (infv s.inf ++ [ptr a.dv, ptr a.sl, ptr a.pg, ptr a.tb, ptr a.qb, .slice P.A P.n P.c, .int .u32 (s.on : Int), .int .i32 (s.lock : Int), .int .u32 0, .int .i64 (s.fault : Int), .int .i64 (s.count : Int)]).toArray from rfl, List.getElem?_toArray]
      rw [List.getElem?_append_left (by simpa using (List.getElem?_eq_some_iff.1 (by simpa using hj)).1)]
      simpa using hj
    refine ⟨rfl, _, info (Keep.refl _ _), (hN (by omega) (by omega) (by omega)).std (by omega) KU.form fun xs w3 g3 o3 => ⟨c.evpd, cAt g3 rfl, ?_⟩⟩
    refine letX2 (fun p ok v => Grow w2 v ∧ (match (if c.evpd then pageX s.inf c.page else some (stdX s.inf)) with | some d => ok = true ∧ Own v w2.heap.size t_uint8 1 p (bv d) | none => ok = false)) ?_ (fun J => ?_)
    · rintro p ok v ⟨gv, h⟩
      cases hd : (if c.evpd then pageX s.inf c.page else some (stdX s.inf)) with
      | none =>
        rw [hd] at h hR
        subst h
        refine br_t rfl (fault_spec fun w5 g5 => checkU_spec fun w6 g6 => fail hR ((gv.trans g5).trans g6))
      | some d =>
        rw [hd] at h hR
        obtain ⟨rfl, o⟩ := h
        refine br_f rfl ⟨c.alloc, cAt gv rfl, ?_⟩
        have hl : d.length ≤ 1000 := by
          cases hev : c.evpd with
          | true => rw [hev, if_pos rfl] at hd; exact pageX_len hd
          | false => rw [hev, if_neg Bool.noConfusion] at hd; injection hd with hd; subst hd; exact stdX_len _
        obtain ⟨r1, r2⟩ := rd_cut o hl
        exact cut_spec r1 r2 fun x z g9 o9 => done hR gv g9 o9
    · cases hev : c.evpd with
      | true =>
        rw [hev, if_pos rfl] at J
        refine br_t rfl ?_
        rintro w4 rfl
        have g4 : Grow w2 w3.drew := g3.trans (keep_drew w3)
        refine ⟨fun z => z = w3.drew, rfl, rfl, _, (by rintro z rfl; exact info g4), (c.page : Int), (by rintro z rfl; exact cAt g4 rfl), (hN (by omega) (by omega) (by omega)).page (by omega) KU.form hc.page fun x w5 g5 o5 => J x _ w5 ⟨g4.trans g5, ?_⟩⟩
        cases hd : pageX s.inf c.page with
        | none => rfl
        | some d => rw [hd] at o5; exact ⟨rfl, o5.mono g4.size⟩
      | false =>
        rw [hev, if_neg Bool.noConfusion] at J
        exact br_f rfl (J xs true w3 ⟨g3, rfl, o3⟩)
  refine br_eq (y := 17) (fun k => ?_) (fun k17 => ?_)
  · have hR := hR (by omega) (by omega) (by omega)
    rw [base (by omega)] at hR
    unfold baseX at hR
    rw [if_neg (by omega), if_neg (by omega), if_neg (by omega), if_pos (by omega)] at hR
    rintro w3 rfl
    have g3 := keep_drew w2
    generalize w2.drew = w3 at *
    refine ⟨fun v => Grow w2 v, g3, c.alloc, fun v q => cAt q rfl, ?_⟩
    refine lit_rule (cells := #[.int .i64 0]) (e := t_int) (z := 1) (base := w3.heap.size) (by kernel_rfl) rfl (by decide) (Nat.le_refl _) fun w4 o4 g4 _ => ⟨g3.trans g4, ?_⟩
    refine (hN (by omega) (by omega) (by omega)).luns (by omega) (l := [0]) (o4.rd (by dsimp only; decide)) (by decide) fun x w5 g5 o5 => ⟨(g3.trans g4).trans g5, ?_⟩
    obtain ⟨r1, r2⟩ := rd_cut o5 (by decide)
    refine cut_spec r1 r2 fun y w6 g6 o6 => ⟨((g3.trans g4).trans g5).trans g6, fun v => Grow w2 v, ((g3.trans g4).trans g5).trans g6, fun _ q => q, ?_⟩
    exact done hR ((g3.trans g4).trans g5) g6 o6
  refine br_eq (y := 5) (fun k => ?_) (fun k5 => ?_)
  · have hR := hR (by omega) (by omega) (by omega)
    rw [base (by omega)] at hR
    unfold baseX at hR
    rw [if_neg (by omega), if_neg (by omega), if_neg (by omega), if_neg (by omega), if_pos (by omega)] at hR
    rintro w3 rfl
    have g3 := keep_drew w2
    generalize w2.drew = w3 at *
    have gw3 := g2.trans g3
    have hU3 := hU.grow gw3
    have pgs : ∀ {v : World}, Grow w2 v → v.cell? ((gA (some (⟨a.ub, 0, none⟩ : Addr))).add 7) = some (.pointer (some ⟨a.pg, 0, none⟩)) := fun g => ((hU.grow g2).grow g).cellU fun P => rfl
    have tail : ∀ {v : World} {sb : Nat} {x : Sn} {b : Bool} {xs : Sl} {w0 : World}, Grow w2 w0 → Grow w0 v → Blk v sb (snv x).toArray t_api_Sense → (match msenseX s.now s.saved c with | none => b = false ∧ x = mbadS 2 5 true | some d => b = true ∧ Own v w0.heap.size t_uint8 1 xs (bv d)) → Br (!b) (∃ g8 : Array Value, (loadVar t_api_Sense ⟨sb, 0, none⟩).run Tryz.prog v = .ok (.agg g8) v ∧ Cunit_check g8 v fun g9 w031 => Hand ab R g9 w031) (∃ n8 : Int, v.cell? ((⟨cb, 0, none⟩ : Addr).add 4) = some (.int .i64 n8) ∧ Cinq_Cut xs n8 v fun xs10 w033 => Hand ab R (rsv 0 sn0 xs10).toArray w033) := fun {v sb x b xs w0} g0 gv hb h => by
      cases hd : msenseX s.now s.saved c with
      | none =>
        rw [hd] at h hR
        obtain ⟨rfl, rfl⟩ := h
        exact br_t rfl ⟨_, sLoad (blk_cells hb), checkU_spec fun w5 g5 => fail hR ((g0.trans gv).trans g5)⟩
      | some d =>
        rw [hd] at h hR
        obtain ⟨rfl, o⟩ := h
        obtain ⟨r1, r2⟩ := rd_cut o (msenseX_len hd)
        exact br_f rfl ⟨c.alloc, cAt (g0.trans gv) rfl, cut_spec r1 r2 fun x z g9 o9 => done hR (g0.trans gv) g9 o9⟩
    refine ⟨fun v => Grow w2 v, g3, rfl, some ⟨a.pg, 0, none⟩, fun v q => pgs q, (cmv c).toArray, fun v q => cl q, ?_, ?_⟩
    · have key : ∀ xs x b w4, Grow w3 w4 → (match msenseX s.now s.saved c with | none => b = false ∧ x = mbadS 2 5 true | some d => b = true ∧ Own w4 w3.heap.size t_uint8 1 xs (bv d)) → New (.cells #[.int .u8 0, .int .u16 0, .int .u64 0, .bool false, .int .i64 0, .int .i64 0, .bool false, .bool false] t_api_Sense) w4 fun s1 w029 => Grow w2 w029 ∧ RunU Tryz.prog (storeVar t_api_Sense s1 (.agg (snv x).toArray)) w029 fun w030 => Br (!b) (∃ g8 : Array Value, (loadVar t_api_Sense s1).run Tryz.prog w030 = .ok (.agg g8) w030 ∧ Cunit_check g8 w030 fun g9 w031 => Hand ab R g9 w031) (∃ n8 : Int, w030.cell? ((⟨cb, 0, none⟩ : Addr).add 4) = some (.int .i64 n8) ∧ Cinq_Cut xs n8 w030 fun xs10 w033 => Hand ab R (rsv 0 sn0 xs10).toArray w033) := fun xs x b w4 g4 h => by
        refine new_rule fun sb w5 hsb hb5 hg5 hs5 => ⟨(g3.trans g4).trans hg5, storeVar_rule (cells := (snv x).toArray) hb5 i_api_Sense rfl rfl (by simp [snv, Value.oneCell']) fun w6 hb6 hk6 _ => ?_⟩
        have g46 : Grow w4 w6 := hg5.keep hk6 fun b hb q => by omega
        refine tail g3 (g4.trans g46) hb6 ?_
        cases hd : msenseX s.now s.saved c with
        | none => rw [hd] at h; exact h
        | some d => rw [hd] at h; exact ⟨h.1, h.2.grow g46⟩
      refine (hN (by omega) (by omega) (by omega)).msense (by omega) hU3.pages ?_
      cases hd : msenseX s.now s.saved c with
      | none => exact fun w4 g4 => key nilS (mbadS 2 5 true) false w4 g4 (by rw [hd]; exact ⟨rfl, rfl⟩)
      | some d => exact fun xs w4 g4 o4 => key xs sn0 true w4 g4 (by rw [hd]; exact ⟨rfl, o4⟩)
    · refine new_rule fun sb w4 hsb hb4 hg4 hs4 => ⟨g3.trans hg4, ?_⟩
      have key : ∀ xs x b w5, Grow w4 w5 → (match msenseX s.now s.saved c with | none => b = false ∧ x = mbadS 2 5 true | some d => b = true ∧ Own w5 w4.heap.size t_uint8 1 xs (bv d)) → RunU Tryz.prog (storeVar t_api_Sense ⟨sb, 0, none⟩ (.agg (snv x).toArray)) w5 fun w030 => Br (!b) (∃ g8 : Array Value, (loadVar t_api_Sense ⟨sb, 0, none⟩).run Tryz.prog w030 = .ok (.agg g8) w030 ∧ Cunit_check g8 w030 fun g9 w031 => Hand ab R g9 w031) (∃ n8 : Int, w030.cell? ((⟨cb, 0, none⟩ : Addr).add 4) = some (.int .i64 n8) ∧ Cinq_Cut xs n8 w030 fun xs10 w033 => Hand ab R (rsv 0 sn0 xs10).toArray w033) := fun xs x b w5 g5 h => by
        refine storeVar_rule (cells := (snv x).toArray) (g5.heap hb4 (fun q => q)) i_api_Sense rfl rfl (by simp [snv, Value.oneCell']) fun w6 hb6 hk6 _ => ?_
        have g36 : Grow w3 w6 := (hg4.trans g5).keep hk6 fun b hb q => by omega
        refine tail g3 g36 hb6 ?_
        cases hd : msenseX s.now s.saved c with
        | none => rw [hd] at h; exact h
        | some d => rw [hd] at h; exact ⟨h.1, (h.2.keep hk6 fun b hb q => by have := (h.2.ge b hb).1; omega).mono hg4.size⟩
      refine (hN (by omega) (by omega) (by omega)).msense (by omega) (hU3.grow hg4).pages ?_
      cases hd : msenseX s.now s.saved c with
      | none => exact fun w5 g5 => key nilS (mbadS 2 5 true) false w5 g5 (by rw [hd]; exact ⟨rfl, rfl⟩)
      | some d => exact fun xs w5 g5 o5 => key xs sn0 true w5 g5 (by rw [hd]; exact ⟨rfl, o5⟩)
  refine br_eq (y := 4) (fun k => ⟨_, cl (Keep.refl _ _), hP.sel (by omega) w2 ab g2 hab' hb2⟩) (fun k4 => ?_)
  refine br_eq (y := 15) (fun k => ?_) (fun k15 => ?_)
  · have hR := hR (by omega) (by omega) (by omega)
    unfold runB at hR
    rw [if_pos (by omega)] at hR
    rintro w3 rfl
    have g3 := keep_drew w2
    generalize w2.drew = w3 at *
    have H3 := H.grow (g2.trans g3)
    refine ⟨fun v => Grow w2 v, g3, (c.service : Int), fun v q => cAt q rfl, c.alloc, fun v q => cAt q rfl, (hN (by omega) (by omega) (by omega)).prin (by omega) (H3.at hi he).1 H3.lt hc.service fun x w5 g5 o5 => ⟨g3.trans g5, ?_⟩⟩
    obtain ⟨r1, r2⟩ := rd_cut o5 ((hN (by omega) (by omega) (by omega)).inlen (by omega) hU.tab.ok c.service)
    refine cut_spec r1 r2 fun y w6 g6 o6 => ⟨(g3.trans g5).trans g6, fun v => Grow w2 v, (g3.trans g5).trans g6, fun _ q => q, ?_⟩
    exact done hR (g3.trans g5) g6 o6
  refine br_eq (y := 16) (fun k => ⟨_, cl (Keep.refl _ _), hP.prout (by omega) w2 ab g2 hab' hb2⟩) (fun k16 => ?_)
  refine br_eq (y := 18) (fun k => ⟨_, cl (Keep.refl _ _), hP.copy (by omega) w2 ab g2 hab' hb2⟩) (fun k18 => ?_)
  have hR := hR (by omega) (by omega) (by omega)
  rw [base (by omega)] at hR
  unfold baseX at hR
  rw [if_neg (by omega), if_neg (by omega), if_neg (by omega), if_neg (by omega), if_neg (by omega)] at hR
  rintro w3 rfl
  have g3 := keep_drew w2
  generalize w2.drew = w3 at *
  have gw3 := g2.trans g3
  refine ⟨fun v => Grow w2 v, g3, rfl, some ⟨a.dv, 0, none⟩, fun v q => ((hU.grow g2).grow q).cellU fun P => rfl, (cmv c).toArray, fun v q => cl q, ?_⟩
  refine sys_dev ((hN (by omega) (by omega) (by omega)).dev (by omega) (by omega) (by omega) (by omega) (by omega) (by omega) (by omega) (by omega) (by omega)) (H.grow gw3) K hm hi he ((Mv.grow gw3).rdX hp) hb hc.lba hc.blocks fun u ℓ' d mv Hu Ku dt => ?_
  refine hR.ret (X := ⟨(doX F s.inf.prot s.n s.cache s.file st c l).1, s, (doX F s.inf.prot s.n s.cache s.file st c l).2⟩) (d := d) ((Mv.grow gw3).trans mv) ?_ ?_ (dt.from gw3.size) hab' ?_ (mv.heap (g3.heap hb2 (fun q => q)) nab)
  · show Sys u ℓ' pw _ F (us.set i (a, s)); rw [hset]; exact Hu
  · show SOk _ (us.set i (a, s)) (m + 200000); rw [hset]; exact Ku.mono (by omega)
  · rw [mv.lab ab (lt_of_heap (g3.heap hb2 (fun q => q)))]; exact nab
end
end Go.Proofs.YtpmebahhjgkflaaGreatDoor
