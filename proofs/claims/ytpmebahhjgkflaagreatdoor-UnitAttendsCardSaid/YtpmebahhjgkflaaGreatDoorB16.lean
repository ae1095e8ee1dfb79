import Derived.Test.YtpmebahhjgkflaaGreatDoorB15
/- Layer 16: what each kind of command needs, one by one. -/
namespace Go.Proofs.YtpmebahhjgkflaaGreatDoor
open Go CF
set_option maxRecDepth 100000
theorem baseN_ready : BaseN 1 := ⟨fun q => by omega, fun q => by omega, fun q => by omega, fun q => by omega, fun q => by omega, fun q => by omega, fun q => by omega, fun q => by omega, fun q => by omega⟩
theorem baseN_ask : BaseN 2 := ⟨fun _ => fixed_spec, fun _ => desc_spec, fun q => by omega, fun q => by omega, fun q => by omega, fun q => by omega, fun q => by omega, fun q => by omega, fun _ q => by omega⟩
theorem baseN_inq : BaseN 3 := ⟨fun q => by omega, fun q => by omega, fun _ => std_spec, fun _ => page_spec, fun q => by omega, fun q => by omega, fun q => by omega, fun q => by omega, fun _ _ q => by omega⟩
theorem runN_base {k : Nat} (h4 : k ≠ 4) (h16 : k ≠ 16) (h18 : k ≠ 18) (h : BaseN k) : RunN k := ⟨fun _ _ _ => h, fun q => by omega, fun q => by omega, fun q => by omega⟩
theorem runN_sel : RunN 4 := ⟨fun q => by omega, fun _ _ _ _ _ _ _ _ _ _ _ _ _ _ _ _ H K hm hi he hn hp hb hR => sel_fun H K hm hi (List.getElem?_eq_some_iff.1 he).2 hn hp hb hR, fun q => by omega, fun q => by omega⟩
/-- what runs is the command that was read -/
theorem head_run {s : USt} {n : Nat} {l : L8} {c : Cm} (h : headX s n l = .run c) : c = (parseX l).1 := by
  unfold headX at h
  split at h
  · cases h
  · split at h
    · cases h
    · split at h
      · cases h
      · split at h
        · cases h
        · injection h with h; exact h.symm
/-- nothing was kept -/
theorem loadU_none {s : USt} {st : Wst} (hl : ldN st.seen s.keepf 2 = (-1, 0, [])) : loadU quiet s st = (0, freshU s, more st 2) := by
  have e : slLoadX quiet st s.keepf ⟨s.sure, s.at_, s.gen⟩ = (8, [], 0, ⟨true, -1, 0⟩, more st 2) := by
    unfold slLoadX
    rw [ffail_quiet]
    dsimp only
    rw [hl]
    rfl
  unfold loadU loadB loadW
  rw [e]
  rfl
theorem load_none {s : USt} {st : Wst} (hl : ldN st.seen s.keepf 2 = (-1, 0, [])) : LoadP quiet s st := fun H hk ho hi he hR =>
  load_fresh H hi (List.getElem?_eq_some_iff.1 he).2 hk ho hl fun u ℓ' mv Hu => by
    have := hR u ℓ' _ (UA.like.refl _) mv
    rw [loadU_none hl] at this
    exact this Hu
end Go.Proofs.YtpmebahhjgkflaaGreatDoor

/- Layer 16: all is well when the power comes on. -/
namespace Go.Proofs.YtpmebahhjgkflaaGreatDoor
open Go CF
set_option maxRecDepth 100000
section
variable {w u v : World} {N N' S D : Nat → Prop} {pw i n : Nat} {a : UA} {s : USt} {st st' : Wst} {F : Int → Bool} {ℓ ℓ' : Nat → Option Nat} {us us' : List (UA × USt)}
def z6 : L8 := List.replicate 6 0
theorem ready_spec {R : Sl → World → Prop} (h : ∀ xs w', Grow w w' → Own w' w.heap.size t_uint8 1 xs (bv z6) → R xs w') : Cpalletlaw16_ready w R := by
  refine Fpalletlaw16_ready.calls _ _ ?_
  exact make_rule (n := 6) u_sl_uint8 i_uint8 rfl (by decide) (by decide) (base := w.heap.size) (Nat.le_refl _) fun w' hown hg hs => h _ w' hg hown
/-- TEST UNIT READY -/
theorem run_ready {c : Cm} {out : Sl} {up : Option Addr} {ab : Nat} {R : Array Value → World → Prop} (hk : c.kind = 1) (hR : ∀ v, Grow w v → FinR ab R (rsv 0 sn0 nilS).toArray v) : Cunit_Unit_run up (n : Int) (cmv c).toArray out w (FinR ab R) := by
  refine Funit_Unit_run.calls _ _ _ _ _ _ (new_rule fun cb w1 hcb hb1 hg1 hs1 => new_rule fun rb w2 hrb hb2 hg2 hs2 => ?_)
  have hb1' : Blk w2 cb (cmv c).toArray t_api_Cmd := hg2.heap hb1 (fun q => q)
  refine ⟨(c.kind : Int), by rw [add0, hb1'.cell]; rfl, br_t (by rw [hk]; rfl) ?_⟩
  refine ret_rule (st := 0) (s := sn0) (d := nilS) hb2 rfl fun w3 hk3 => hR w3 ((hg1.trans hg2).keep hk3 fun i hi q => by have := hg1.size; omega)
theorem parse_z6 : parseX z6 = ({ c0C with kind := 1 }, sn0, true) := by kernel_rfl
theorem peek_on : peekX (addA [] 10496) = some 10496 := by kernel_rfl
theorem next_on : nextX (addA [] 10496) = [] := by kernel_rfl
theorem newU_ld {st : Wst} {i prot : Nat} {ps : List Nat} (hs : st.seen = fun _ => none) : ldN st.seen (unitL i prot ps).keepf 2 = (-1, 0, []) := by
  rw [hs]
  exact ldN_noneS (noneS_nil _)
theorem nmL_size {i : Nat} (hi : i < 2) : (nmL i).size = 1 := by
  have : ∀ i : Fin 2, (nmL i.val).size = 1 := by decide +kernel
  exact this ⟨i, hi⟩
theorem keepf_size {i prot : Nat} {ps : List Nat} (hi : i < 2) : 1 ≤ (unitL i prot ps).keepf.size ∧ (unitL i prot ps).keepf.size ≤ 30 := by
  show 1 ≤ (nmL i ++ s_x2ep).size ∧ (nmL i ++ s_x2ep).size ≤ 30
  rw [size_app, nmL_size hi]
  have : s_x2ep.size = 2 := by decide
  omega
abbrev poS : Sn := ⟨6, 10496, 0, false, 0, 0, false, false⟩
/-- what a unit is behind its first command -/
def wokeU (s : USt) (n : Nat) : USt := toldU (startedU (bumpU s)) n
theorem do_wake {p out : Sl} {ps : List Nat} {k prot : Nat} {R : Array Value → World → Prop} (H : Sys w ℓ pw st quiet us) (hi : i < us.length) (hk : k < 2) (he : us[i] = (a, unitL k prot ps)) (hs : st.seen = fun _ => none) (ho : st.ops < 1000000) (hn : n < 8) (hp : RdX w ℓ 1 p (bv z6))
    (hR : ∀ u ℓ', Mv w u ℓ ℓ' → Sys u ℓ' pw { st with ops := st.ops + 2 } quiet (us.set i (a, wokeU (unitL k prot ps) n)) → R (rsv 2 poS nilS).toArray u) : Cunit_Unit_Do (some ⟨a.ub, 0, none⟩) (n : Int) p out w R := by
  refine do_fresh H hi he rfl rfl (keepf_size hk) (by omega) (newU_ld hs) hn (by show 0 < 1000000000000; decide) hp fun ℓ1 => ?_
  have hq : (startedU (bumpU (unitL k prot ps))).q n = addA [] 10496 := by
    show (if n < 8 then addA [] 10496 else []) = _
    rw [if_pos hn]
  have : headX (startedU (bumpU (unitL k prot ps))) n z6 = .told 10496 := by
    unfold headX
    rw [parse_z6, hq, peek_on]
    rfl
  rw [this]
  exact fun u m Hu => hR u ℓ1 m Hu
theorem do_ready {p out : Sl} {R : Array Value → World → Prop} (H : Sys w ℓ pw st F us) (hi : i < us.length) (he : us[i] = (a, s)) (hon : s.on = 1) (hfl : s.fault = 0) (hn : n < 8) (hct : s.count < 1000000000000) (hq : s.q n = []) (ht : s.tab.kind = 0) (hp : RdX w ℓ 1 p (bv z6))
    (hR : ∀ u ℓ', Mv w u ℓ ℓ' → Sys u ℓ' pw st F (us.set i (a, bumpU s)) → R (rsv 0 sn0 nilS).toArray u) : Cunit_Unit_Do (some ⟨a.ub, 0, none⟩) (n : Int) p out w R := by
  refine do_started H hi he hon hfl hn hct hp fun ℓ1 => ?_
  have : headX (bumpU s) n z6 = .run { c0C with kind := 1 } := by
    unfold headX
    rw [parse_z6, show (bumpU s).q n = [] from hq]
    have hc : conflictT (bumpU s).tab n (classX ({ c0C with kind := 1 } : Cm).kind) = false := if_pos (.inl ht)
    show (if conflictT (bumpU s).tab n (classX ({ c0C with kind := 1 } : Cm).kind) = true then HeadX.conflict else if (altersX 1 && (bumpU s).now.swp) = true then .prot else .run _) = _
    rw [hc]
    rfl
  rw [this]
  refine fun u ab m Hu hb hw hn1 => run_ready rfl fun v g => ?_
  exact FinR.sys (Hu.grow g) (m.go g) hw hn1 (g.heap hb (fun q => q)) rfl fun v' k hm hs => hR v' ℓ1 hm hs
end
end Go.Proofs.YtpmebahhjgkflaaGreatDoor

/- Layer 16: the power came on, and then all is well. -/
namespace Go.Proofs.YtpmebahhjgkflaaGreatDoor
open Go CF
set_option maxRecDepth 100000
section
variable {w u v : World} {N N' S D : Nat → Prop} {pw i n : Nat} {a : UA} {s : USt} {st st' : Wst} {F : Int → Bool} {ℓ ℓ' : Nat → Option Nat} {us us' : List (UA × USt)}
theorem ask_ready {S : World → Prop} {p : Option Addr} {K : Addr → World → Prop} {x : Nat} {sn : Sn} (H : Sys w ℓ pw st F us) (hS : ∀ v ℓ', Mv w v ℓ ℓ' → S v)
    (hD : ∀ v xs, Grow w v → RdX v ℓ 1 xs (bv z6) → ∀ R : Array Value → World → Prop, (∀ u ℓ', Mv v u ℓ ℓ' → Sys u ℓ' pw st' F us' → R (rsv x sn nilS).toArray u) → Cunit_Unit_Do p 0 xs ⟨none, 0, 0⟩ v R)
    (hK : ∀ ab u ℓ', Mv w u ℓ ℓ' → Sys u ℓ' pw st' F us' → Blk u ab (rsv x sn nilS).toArray t_api_Result → ℓ' ab = none → w.heap.size ≤ ab → K ⟨ab, 0, none⟩ u) :
    (Cpalletlaw16_ready w fun xs w05 => S w05 ∧ (Cunit_Unit_Do p 0 xs ⟨none, 0, 0⟩ w05 fun g1 w06 => New (.cells z10 t_api_Result) w06 fun ab w07 => S w07 ∧ RunU Tryz.prog (storeVar t_api_Result ab (.agg g1)) w07 fun w08 => K ab w08) ∧
      New (.cells z10 t_api_Result) w05 fun ab w07 => S w07 ∧ Cunit_Unit_Do p 0 xs ⟨none, 0, 0⟩ w07 fun g w08 => RunU Tryz.prog (storeVar t_api_Result ab (.agg g)) w08 fun w09 => K ab w09) ∧
    New (.cells z10 t_api_Result) w fun ab w05 => S w05 ∧ Cpalletlaw16_ready w05 fun xs w06 => S w06 ∧ Cunit_Unit_Do p 0 xs ⟨none, 0, 0⟩ w06 fun g w07 => RunU Tryz.prog (storeVar t_api_Result ab (.agg g)) w07 fun w08 => K ab w08 := by
  have rx : ∀ {v0 v : World} {xs : Sl}, Grow w v0 → Own v v0.heap.size t_uint8 1 xs (bv z6) → RdX v ℓ 1 xs (bv z6) := fun {v0 v xs} g ho => ⟨ho.rd (by have := ho.len; rw [bv_length] at this; have e : z6.length = 6 := rfl; omega), fun _ b hb => by
    have := ho.ge b.block (by simp [Sl.blk, hb])
    have := g.size
    exact ⟨by omega, H.fresh (by omega)⟩⟩
  -- the result is laid into its place
  have lay : ∀ {u : World} {ℓ' : Nat → Option Nat} {ab : Nat} {cs : Array Value}, Mv w u ℓ ℓ' → Sys u ℓ' pw st' F us' → Blk u ab cs t_api_Result → cs.size = 10 → ℓ' ab = none → w.heap.size ≤ ab → RunU Tryz.prog (storeVar t_api_Result ⟨ab, 0, none⟩ (.agg (rsv x sn nilS).toArray)) u fun w08 => K ⟨ab, 0, none⟩ w08 := fun {u ℓ' ab cs} m Hu hb hc hn hw =>
    lay_rule hb hc fun u' hb' hk' hs' => hK ab u' ℓ' (m.loc hk' fun b hb q => by omega) (Hu.local1 hb hn hk' (rowT_not (by decide) (by decide) (by decide)) (by decide)) hb' hn hw
  refine ⟨ready_spec fun xs w1 hg1 ho1 => ⟨hS _ _ (Mv.grow hg1), ?_, ?_⟩, ?_⟩
  · refine hD w1 xs hg1 (rx (Keep.refl _ _) ho1) _ fun u ℓ' m Hu => new_rule fun ab u2 hab hb2 hg2 hs2 => ?_
    have m1 := ((Mv.grow hg1).trans m)
    exact ⟨hS _ _ (m1.go hg2), lay (m1.go hg2) (Hu.grow hg2) hb2 rfl (Hu.fresh (by omega)) (by have := m1.keep.size; omega)⟩
  · refine new_rule fun ab w2 hab hb2 hg2 hs2 => ⟨hS _ _ (Mv.grow (hg1.trans hg2)), ?_⟩
    refine hD w2 xs (hg1.trans hg2) ⟨(rx (Keep.refl _ _) ho1).rd.grow hg2, fun hv b hb => ⟨by have := ((rx (Keep.refl _ _) ho1).out hv b hb).1; have := hg2.size; omega, ((rx (Keep.refl _ _) ho1).out hv b hb).2⟩⟩ _ fun u ℓ' m Hu => ?_
    have hfn : ℓ ab = none := H.fresh (by have := hg1.size; omega)
    exact lay ((Mv.grow (hg1.trans hg2)).trans m) Hu (m.heap hb2 hfn) rfl ((m.lab _ (lt_of_heap hb2)).trans hfn) (by have := hg1.size; omega)
  · refine new_rule fun ab w1 hab hb1 hg1 hs1 => ⟨hS _ _ (Mv.grow hg1), ready_spec fun xs w2 hg2 ho2 => ⟨hS _ _ (Mv.grow (hg1.trans hg2)), ?_⟩⟩
    refine hD w2 xs (hg1.trans hg2) (rx hg1 ho2) _ fun u ℓ' m Hu => ?_
    have hfn : ℓ ab = none := H.fresh (by omega)
    exact lay ((Mv.grow (hg1.trans hg2)).trans m) Hu (m.heap (hg2.heap hb1 (fun q => q)) hfn) rfl ((m.lab _ (by have := lt_of_heap hb1; have := hg2.size; omega)).trans hfn) (by omega)
set_option maxHeartbeats 1000000 in
theorem awake16_spec {R : Bool → World → Prop} (h : ∀ w', Grow w w' → R true w') : Cpalletlaw16_awake w R := by
  refine Fpalletlaw16_awake.calls _ _ (world_new_spec fun pw D w1 hg1 hW hD => ?_)
  obtain ⟨ℓ, H1, hℓ⟩ := Sys.world0 hW
  have old : ∀ b, b < w.heap.size → ℓ b = none := fun b hb => hℓ b fun q => by have := hD b q; omega
  refine units_spec (prot := 0) H1 (by decide) fun w2 ℓ2 a0 a1 m2 H2 => new_rule fun ub w3 hub hb3 hg3 hs3 => ?_
  refine storeVar_rule (cells := #[.pointer (some ⟨a0.ub, 0, none⟩), .pointer (some ⟨a1.ub, 0, none⟩)]) hb3 i_2_p_unit_Unit rfl rfl (by simp [Value.oneCell']) fun w4 hb4 hk4 hs4 => ?_
  have hg24 : Grow w2 w4 := hg3.keep hk4 fun i hi q => by omega
  have H4 := H2.grow hg24
  have hun : ℓ2 ub = none := H2.fresh (by omega)
  have cu : ∀ {v : World}, Blk v ub #[.pointer (some ⟨a0.ub, 0, none⟩), .pointer (some ⟨a1.ub, 0, none⟩)] t_2_p_unit_Unit → v.cell? ((⟨ub, 0, none⟩ : Addr).add ((0 : Int).toNat * 1)) = some (.pointer (some ⟨a0.ub, 0, none⟩)) := fun q => by rw [add0, Blk.cell q]; rfl
  refine ⟨⟨by decide, by decide⟩, _, cu hb4, br_f rfl ?_⟩
  rintro w5 rfl
  have hg5 := keep_drew w4
  have H5 := H4.grow hg5
  have hb5 : Blk w4.drew ub _ t_2_p_unit_Unit := hg5.heap hb4 (fun q => q)
  have hgu : ∀ {u : World} {ℓ' : Nat → Option Nat}, Mv w4.drew u ℓ2 ℓ' → Grow w u := fun m => hg1.keep ((m2.go (hg24.trans hg5)).trans m).keep fun b hb q => q (old b hb)
  have cS : ∀ {v : World} {ℓ' : Nat → Option Nat}, Mv w4.drew v ℓ2 ℓ' → v.cell? ((⟨ub, 0, none⟩ : Addr).add ((0 : Int).toNat * 1)) = some (.pointer (some ⟨a0.ub, 0, none⟩)) := fun m => cu (m.heap hb5 hun)
  generalize w4.drew = w5 at *
  refine ⟨fun o => o.cell? ((⟨ub, 0, none⟩ : Addr).add ((0 : Int).toNat * 1)) = some (.pointer (some ⟨a0.ub, 0, none⟩)), cu hb5, ⟨by decide, by decide⟩, _, fun o q => q, ?_⟩
  refine ask_ready (x := 2) (sn := poS) H5 (fun v ℓ' m => cS m) (fun v xs g hx R hR => do_wake (i := 0) (k := 0) (n := 0) (prot := 0) (H5.grow g) (by show 0 < 2; decide) (by decide) rfl rfl (by show 0 < 1000000; decide) (by decide) hx hR) fun ab u ℓ3 m3 H3 hab hna lab => ?_
  rintro w6 rfl
  have hg6 := keep_drew u
  have m6 := m3.go hg6
  have H6 := H3.grow hg6
  have hab6 : Blk u.drew ab _ t_api_Result := hg6.heap hab (fun q => q)
  generalize u.drew = w6 at *
  refine ⟨fun o => o.cell? ((⟨ub, 0, none⟩ : Addr).add ((0 : Int).toNat * 1)) = some (.pointer (some ⟨a0.ub, 0, none⟩)), cS m6, ⟨by decide, by decide⟩, _, fun o q => q, ?_⟩
  refine ask_ready (x := 0) (sn := sn0) H6 (fun v ℓ' m => cS (m6.trans m)) (fun v xs g hx R hR => do_ready (i := 0) (n := 0) (H6.grow g) (by show 0 < 2; decide) rfl rfl rfl (by decide) (by show 1 < 1000000000000; decide) next_on rfl hx hR) fun bb u2 ℓ4 m4 H4' hbb hnb lbb => ?_
  rintro w7 rfl
  have hg7 := keep_drew u2
  have hab7 : Blk u2.drew ab (rsv 2 poS nilS).toArray t_api_Result := (m4.go hg7).heap hab6 hna
  have hbb7 : Blk u2.drew bb (rsv 0 sn0 nilS).toArray t_api_Result := hg7.heap hbb (fun q => q)
  have gw7 := hgu ((m6.trans m4).go hg7)
  generalize u2.drew = w7 at *
  refine ⟨fun o => Blk o ab (rsv 2 poS nilS).toArray t_api_Result ∧ Blk o bb (rsv 0 sn0 nilS).toArray t_api_Result, ⟨hab7, hbb7⟩, (rsv 2 poS nilS).toArray, fun o q => rLoad (blk_cells q.1), ?_⟩
  refine ends14_spec (key := 6) (code := 10496) fun w8 hg8 => ?_
  have st8 : ∀ {o : World}, Grow w7 o → Blk o ab (rsv 2 poS nilS).toArray t_api_Result ∧ Blk o bb (rsv 0 sn0 nilS).toArray t_api_Result := fun g => ⟨g.heap hab7 (fun q => q), g.heap hbb7 (fun q => q)⟩
  refine ⟨st8 hg8, same14_spec (rd_nilB _) (rd_nilB _) fun w9 hg9 => ?_⟩
  have hs9 := st8 (hg8.trans hg9)
  refine ⟨hs9, fun o => Blk o ab (rsv 2 poS nilS).toArray t_api_Result ∧ Blk o bb (rsv 0 sn0 nilS).toArray t_api_Result, hs9, fun _ q => q, (rsv 0 sn0 nilS).toArray, fun _ o q => rLoad (blk_cells q.2), fun o => Blk o ab (rsv 2 poS nilS).toArray t_api_Result ∧ Blk o bb (rsv 0 sn0 nilS).toArray t_api_Result, hs9, fun _ q => q, ?_⟩
  refine letJ1 (fun (b2 : Bool) o => b2 = true ∧ Grow w9 o) ?_ (fun J => ⟨fun _ => same14_spec (sn := sn0) (d2 := nilS) (rd_nilB _) (rd_nilB _) fun w10 hg10 => J _ _ ⟨rfl, hg10⟩, fun q => by cases q⟩)
  rintro b2 o ⟨rfl, hgo⟩
  exact h o (((gw7.trans hg8).trans hg9).trans hgo)
end
end Go.Proofs.YtpmebahhjgkflaaGreatDoor

/- Layer 16: where a law of units stands. -/
namespace Go.Proofs.YtpmebahhjgkflaaGreatDoor
open Go CF
set_option maxRecDepth 100000
theorem pub_at {us : List (UA × USt)} {k : Nat} (h : k < us.length) (h' : k < (pub us).length) : (pub us)[k] = (us[k].1.ub, us[k].2) := (List.getElem?_eq_some_iff.1 (pub_get h)).2
section
variable {w u v : World} {N N' S : Nat → Prop} {pw i n m : Nat} {a : UA} {s s1 : USt} {st st1 : Wst} {F : Int → Bool} {ℓ ℓ' : Nat → Option Nat} {us : List (UA × USt)} {p out : Sl} {l lo : L8} {c : Cm} {R : Array Value → World → Prop} {P P' : Pu}
/-- units over one world, all behind w -/
structure Tw (w v : World) (ℓ : Nat → Option Nat) (pw : Nat) (F : Int → Bool) (P : Pu) (st : Wst) (m : Nat) : Prop where
  ex : ∃ us, Sys v ℓ pw st F us ∧ SOk st us m ∧ pub us = P
  grow : Grow w v
  old : ∀ b, b < w.heap.size → ℓ b = none
  peers : ∀ x ∈ P, x.2.peers.length ≤ 100 ∧ ∀ b ∈ x.2.peers, ∃ y ∈ P, y.1 = b
  count : ∀ x ∈ P, x.2.count ≤ m
theorem Tw.go (h : Tw w v ℓ pw F P st m) (g : Grow v u) : Tw w u ℓ pw F P st m := by
  obtain ⟨us, h1, h2, h3⟩ := h.ex
  exact ⟨⟨us, h1.grow g, h2, h3⟩, h.grow.trans g, h.old, h.peers, h.count⟩
theorem Tw.mono {m' : Nat} (h : Tw w v ℓ pw F P st m) (hm : m ≤ m') : Tw w v ℓ pw F P st m' := by
  obtain ⟨us, h1, h2, h3⟩ := h.ex
  exact ⟨⟨us, h1, h2.mono hm, h3⟩, h.grow, h.old, h.peers, fun x hx => Nat.le_trans (h.count x hx) hm⟩
theorem Tw.fresh (h : Tw w v ℓ pw F P st m) {b : Nat} (hb : v.heap.size ≤ b) : ℓ b = none := by
  obtain ⟨us, h1, _, _⟩ := h.ex
  exact h1.fresh hb
/-- a row of the call's own, as an argument -/
theorem Tw.row (h : Tw w v ℓ pw F P st m) {w0 : World} {x : Sl} {l : L8} (ho : LR v ℓ w0.heap.size t_uint8 1 x (bv l)) (hl : l.length ≤ 1000000) : RdX v ℓ 1 x (bv l) := by
  have hn := own_n ho.own
  refine ⟨ho.own.rd (by omega), fun _ a ha => ?_⟩
  have hb : x.blk = some a.block := by unfold Sl.blk; rw [ha]; rfl
  exact ⟨(ho.own.ge _ hb).2, ho.no _ hb⟩
theorem Tw.rowNil (_ : Tw w v ℓ pw F P st m) : RdX v ℓ 1 nilS (bv []) := ⟨rd_nilB v, fun _ _ ha => by cases ha⟩
theorem Mv.tw (h : Tw w v ℓ pw F P st m) (mv : Mv v u ℓ ℓ') : Grow w u ∧ ∀ b, b < w.heap.size → ℓ' b = none := by
  have sz := h.grow.size
  refine ⟨h.grow.keep mv.keep fun b hb q => q (h.old b hb), fun b hb => ?_⟩
  rw [mv.lab b (by omega)]; exact h.old b hb
theorem Tw.dos {x : Nat × USt} (hL : x.2.on ≠ 1 → LoadP F { bumpU x.2 with lock := 1 } st) (hN : ∀ c, (startU F (bumpU x.2) st).1 = 0 → headX (startU F (bumpU x.2) st).2.1 n l = .run c → RunN c.kind) (h : Tw w v ℓ pw F P st m) (hm : m ≤ 100000000) (hi : i < P.length) (he : P[i] = x) (hn : n < 8) (hp : RdX v ℓ 1 p (bv l)) (ho : RdX v ℓ 1 out (bv lo)) (hb : out.n ≤ 140737488351232)
    (hR : ∀ v' ℓ' d, Mv v v' ℓ ℓ' → Tw w v' ℓ' pw F (do16X F P st i n l lo).2.1 (do16X F P st i n l lo).2.2 (m + 200002) → Dat v v' ℓ' d (do16X F P st i n l lo).1.d → (do16X F P st i n l lo).2.1.length = P.length → (∀ k (h : k < P.length) (h' : k < (do16X F P st i n l lo).2.1.length), (do16X F P st i n l lo).2.1[k].1 = P[k].1 ∧ (do16X F P st i n l lo).2.1[k].2.count = P[k].2.count + if k = i then 1 else 0) → R (rsv (do16X F P st i n l lo).1.st (do16X F P st i n l lo).1.sn d).toArray v') : Cunit_Unit_Do (some ⟨x.1, 0, none⟩) (n : Int) p out v R := by
  obtain ⟨us, H, K, rfl⟩ := h.ex
  have hlen : (pub us).length = us.length := by unfold pub; rw [List.length_map]
  have hiu : i < us.length := by omega
  have ex : x = (us[i].1.ub, us[i].2) := by rw [← he, pub_at hiu]
  subst ex
  have hmem : ∀ k (hk : k < us.length), (us[k].1.ub, us[k].2) ∈ pub us := fun k hk => List.mem_map.2 ⟨us[k], List.getElem_mem hk, rfl⟩
  have hpe := h.peers _ (hmem i hiu)
  have hct := h.count _ (hmem i hiu)
  have gp : ∀ {us : List (UA × USt)} {k : Nat} (h : k < us.length) (h' : k < (pub us).length), (pub us)[k] = (us[k].1.ub, us[k].2) := fun {us k} h h' => pub_at h h'
  refine do_fun16 (a := us[i].1) (s := us[i].2) hL hN H K hm hiu rfl hn (by dsimp only at hct; omega) hp ho hb (fun b hb2 => ?_) hpe.1 fun v' ℓ' d us' mv Hv Kv hl hlk hpub dt => ?_
  · obtain ⟨y, hy, rfl⟩ := hpe.2 b hb2
    obtain ⟨z, hz, rfl⟩ := List.mem_map.1 hy
    obtain ⟨j, hj, rfl⟩ := List.getElem_of_mem hz
    exact ⟨j, hj, rfl⟩
  · obtain ⟨g1, g2⟩ := Mv.tw h mv
    rw [← hpub] at hR
    have hlen' : (pub us').length = us'.length := by unfold pub; rw [List.length_map]
    refine hR v' ℓ' d mv ⟨⟨us', Hv, Kv, rfl⟩, g1, g2, fun y hy => ?_, fun y hy => ?_⟩ dt (by omega) fun k h1 h2 => ?_
    · obtain ⟨z, hz, rfl⟩ := List.mem_map.1 hy
      obtain ⟨k, hk, rfl⟩ := List.getElem_of_mem hz
      obtain ⟨_, q2, _⟩ := hlk k (by omega) hk
      have := h.peers _ (hmem k (by omega))
      dsimp only at this ⊢
      rw [q2]
      refine ⟨this.1, fun b hb => ?_⟩
      obtain ⟨y, hy, rfl⟩ := this.2 b hb
      obtain ⟨z, hz, rfl⟩ := List.mem_map.1 hy
      obtain ⟨j, hj, rfl⟩ := List.getElem_of_mem hz
      have hj' : j < us'.length := by omega
      exact ⟨(us'[j].1.ub, us'[j].2), List.mem_map.2 ⟨us'[j], List.getElem_mem hj', rfl⟩, (hlk j hj hj').1.ub⟩
    · obtain ⟨z, hz, rfl⟩ := List.mem_map.1 hy
      obtain ⟨k, hk, rfl⟩ := List.getElem_of_mem hz
      obtain ⟨_, _, q3⟩ := hlk k (by omega) hk
      have := h.count _ (hmem k (by omega))
      dsimp only at this ⊢
      rw [q3]
      split <;> omega
    · have k1 : k < us.length := by omega
      have k2 : k < us'.length := by omega
      rw [gp k1 h1, gp k2 h2]
      exact ⟨(hlk k k1 k2).1.ub, (hlk k k1 k2).2.2⟩
/-- two units that are peers, made anew -/
def newP (b0 b1 prot : Nat) : Pu := [(b0, unitL 0 prot [b1]), (b1, unitL 1 prot [b0])]
end
end Go.Proofs.YtpmebahhjgkflaaGreatDoor

/- Layer 16: what laws of units need besides: units made anew; plain senses by the document. -/
namespace Go.Proofs.YtpmebahhjgkflaaGreatDoor
open Go CF
set_option maxRecDepth 100000
section
variable {w u v : World} {N N' S D : Nat → Prop} {pw i n m : Nat} {a : UA} {s s1 : USt} {st st1 : Wst} {F : Int → Bool} {ℓ ℓ' : Nat → Option Nat} {us : List (UA × USt)} {p out : Sl} {l lo : L8} {c : Cm} {P P' : Pu}
theorem unitL_ok {k prot : Nat} {ps : List Nat} (hk : k < 2) (hpr : prot ≤ 3) (hg : Good (cont st (nmL k ++ s_x2ed))) : UOk st (unitL k prot ps) := by
  have := nmL_size hk
  exact ⟨⟨by show 1 ≤ 24; decide, by show 24 ≤ 4096; decide⟩, infL_form hk hpr, ⟨nmL k, by omega, by omega, rfl, rfl⟩, hg, .inr ⟨rfl, rfl⟩⟩
/-- units made anew over a world -/
theorem Tw.units {prot : Nat} {R : Array Value → World → Prop} (H : Sys v ℓ pw st F []) (g : Grow w v) (old : ∀ b, b < w.heap.size → ℓ b = none) (hpr : prot ≤ 3) (hok : Wok st) (few : st.ops ≤ m ∧ st.waits.length ≤ m) (hg : ∀ k, k < 2 → Good (cont st (nmL k ++ s_x2ed)))
    (hR : ∀ u ℓ' b0 b1, Mv v u ℓ ℓ' → Tw w u ℓ' pw F (newP b0 b1 prot) st m → R #[.pointer (some ⟨b0, 0, none⟩), .pointer (some ⟨b1, 0, none⟩)] u) : Cpalletlaw16_units (some ⟨pw, 0, none⟩) (prot : Int) v R := by
  refine units_spec H hpr fun u ℓ' a0 a1 mv Hu => ?_
  have sz := g.size
  refine hR u ℓ' a0.ub a1.ub mv ⟨⟨_, Hu, ⟨hok, few, fun x hx => ?_⟩, rfl⟩, g.keep mv.keep fun b hb q => q (old b hb), fun b hb => ?_, fun x hx => ?_, fun x hx => ?_⟩
  · rcases List.mem_cons.1 hx with r | r
    · rw [r]; exact unitL_ok (by decide) hpr (hg 0 (by decide))
    · rw [List.mem_singleton.1 r]; exact unitL_ok (by decide) hpr (hg 1 (by decide))
  · rw [mv.lab b (by omega)]; exact old b hb
  · rcases List.mem_cons.1 hx with r | r
    · rw [r]; exact ⟨by show 1 ≤ 100; decide, fun b hb => ⟨(a1.ub, unitL 1 prot [a0.ub]), List.mem_cons_of_mem _ (List.mem_singleton.2 rfl), (List.mem_singleton.1 hb).symm⟩⟩
    · rw [List.mem_singleton.1 r]; exact ⟨by show 1 ≤ 100; decide, fun b hb => ⟨(a0.ub, unitL 0 prot [a1.ub]), List.mem_cons_self, (List.mem_singleton.1 hb).symm⟩⟩
  · rcases List.mem_cons.1 hx with r | r
    · rw [r]; exact Nat.zero_le _
    · rw [List.mem_singleton.1 r]; exact Nat.zero_le _
/-! ### plain senses by the document -/
end
end Go.Proofs.YtpmebahhjgkflaaGreatDoor

/- Layer 16: a command of a law, and a command behind the attentions. -/
namespace Go.Proofs.YtpmebahhjgkflaaGreatDoor
open Go CF
set_option maxRecDepth 100000
/-- what a command needs of what lies below -/
def NeedD (F : Int → Bool) (P : Pu) (st : Wst) (i n : Nat) (l : L8) : Prop := ∀ x, P[i]? = some x → (x.2.on ≠ 1 → LoadP F { bumpU x.2 with lock := 1 } st) ∧ ∀ c, (startU F (bumpU x.2) st).1 = 0 → headX (startU F (bumpU x.2) st).2.1 n l = .run c → RunN c.kind
/-- units stay where they are; one has done a command more -/
def Sh (i : Nat) (P P' : Pu) : Prop := P'.length = P.length ∧ ∀ k x, P[k]? = some x → ∃ s', P'[k]? = some (x.1, s') ∧ s'.count = x.2.count + if k = i then 1 else 0
/-- a command behind the attentions that wait -/
def doesX (F : Int → Bool) (i n : Nat) (l lo : L8) : Nat → Pu → Wst → RsX × Pu × Wst
  | 0, P, st => do16X F P st i n l lo
  | k + 1, P, st => if (do16X F P st i n l lo).1.sn.key = 6 then doesX F i n l lo k (do16X F P st i n l lo).2.1 (do16X F P st i n l lo).2.2 else do16X F P st i n l lo
section
variable {w u v v0 : World} {N N' S D : Nat → Prop} {pw i n m : Nat} {st st1 : Wst} {F : Int → Bool} {ℓ ℓ' : Nat → Option Nat} {p out : Sl} {l lo : L8} {P P' : Pu}
theorem Tw.dosN {x : Nat × USt} {R : Array Value → World → Prop} (N : NeedD F P st i n l) (h : Tw w v ℓ pw F P st m) (hm : m ≤ 100000000) (he : P[i]? = some x) (hn : n < 8) (hp : RdX v ℓ 1 p (bv l)) (ho : RdX v ℓ 1 out (bv lo)) (hb : out.n ≤ 140737488351232)
    (hR : ∀ v' ℓ' d, Mv v v' ℓ ℓ' → Tw w v' ℓ' pw F (do16X F P st i n l lo).2.1 (do16X F P st i n l lo).2.2 (m + 200002) → Dat v v' ℓ' d (do16X F P st i n l lo).1.d → Sh i P (do16X F P st i n l lo).2.1 → R (rsv (do16X F P st i n l lo).1.st (do16X F P st i n l lo).1.sn d).toArray v') : Cunit_Unit_Do (some ⟨x.1, 0, none⟩) (n : Int) p out v R := by
  obtain ⟨hi, hx⟩ := List.getElem?_eq_some_iff.1 he
  obtain ⟨n1, n2⟩ := N x he
  refine Tw.dos n1 n2 h hm hi hx hn hp ho hb fun v' ℓ' d mv T dt hl hk => hR v' ℓ' d mv T dt ⟨hl, fun k y hy => ?_⟩
  obtain ⟨h1, h2⟩ := List.getElem?_eq_some_iff.1 hy
  have h3 : k < (do16X F P st i n l lo).2.1.length := by omega
  obtain ⟨q1, q2⟩ := hk k h1 h3
  rw [h2] at q1 q2
  exact ⟨(do16X F P st i n l lo).2.1[k].2, List.getElem?_eq_some_iff.2 ⟨h3, Prod.ext q1 rfl⟩, q2⟩
/-- a block of the call's own is written over -/
theorem Tw.local1 {b : Nat} {cs : Array Value} {t : TypeId} (h : Tw w v ℓ pw F P st m) (hb : Blk v b cs t) (hn : ℓ b = none) (k : Keep (fun k => k = b) v u) (ht : ¬ rowT t) (ht2 : t ≠ t_uint8) (hw : w.heap.size ≤ b) : Tw w u ℓ pw F P st m := by
  obtain ⟨us, q1, q2, q3⟩ := h.ex
  exact ⟨⟨us, q1.local1 hb hn k ht ht2, q2, q3⟩, h.grow.keep k fun b' hb' q => by omega, h.old, h.peers, h.count⟩
theorem Tw.res1 {b : Nat} {cs : Array Value} (h : Tw w v ℓ pw F P st m) (hb : LB v ℓ b cs t_api_Result) (k : Keep (fun k => k = b) v u) (hw : w.heap.size ≤ b) : Tw w u ℓ pw F P st m := h.local1 hb.blk hb.no k (rowT_not (by decide) (by decide) (by decide)) (by decide) hw
theorem Dat.loc {b : Nat} {cs : Array Value} {t : TypeId} {d : Sl} (h : Dat v0 v ℓ d l) (hb : Blk v b cs t) (ht : t ≠ t_uint8) (k : Keep (fun k => k = b) v u) : Dat v0 u ℓ d l :=
  ⟨h.1.keep k fun x hx q => own_ne h.1 hb ht (by rw [hx, q]), h.2⟩
theorem Dat.go {d : Sl} (h : Dat v0 v ℓ d l) (g : Grow v u) : Dat v0 u ℓ d l := ⟨h.1.grow g, h.2⟩
set_option maxHeartbeats 2000000 in
/-- does -/
theorem Tw.does {b : Nat} {R : Array Value → World → Prop} (I : Pu → Wst → Prop) (hN : ∀ P st, I P st → NeedD F P st i n l ∧ I (do16X F P st i n l lo).2.1 (do16X F P st i n l lo).2.2) (hI : I P st) (h : Tw w v ℓ pw F P st m) (hm : m ≤ 90000000) (he : ∃ s, P[i]? = some (b, s)) (hn : n < 8) (hp : RdX v ℓ 1 p (bv l)) (ho : RdX v ℓ 1 out (bv lo)) (hb : out.n ≤ 140737488351232)
    {Y : RsX × Pu × Wst} (hY : doesX F i n l lo 9 P st = Y) (hR : ∀ v' ℓ' d, Mv v v' ℓ ℓ' → Tw w v' ℓ' pw F Y.2.1 Y.2.2 (m + 2000020) → Dat v v' ℓ' d Y.1.d → (∃ s, Y.2.1[i]? = some (b, s)) → I Y.2.1 Y.2.2 → R (rsv Y.1.st Y.1.sn d).toArray v') : Cpalletlaw16_does (some ⟨b, 0, none⟩) (n : Int) p out v R := by
  refine Fpalletlaw16_does.calls _ _ _ _ _ _ (new_rule fun ab w1 hab hb1 hg1 hs1 => ?_)
  have T1 := h.go hg1
  have nab : ℓ ab = none := h.fresh (by omega)
  have wab : w.heap.size ≤ ab := by have := h.grow.size; omega
  obtain ⟨s0, he⟩ := he
  have mr := Mv.grow (ℓ := ℓ) hg1
  obtain ⟨N0, I0⟩ := hN P st hI
  refine Tw.dosN (x := (b, s0)) N0 T1 (by omega) he hn (mr.rdX hp) (mr.rdX ho) hb fun v2 ℓ2 d mv T2 dt sh => ?_
  refine res_new fun rb v3 hrb g3 hbr => ?_
  have nrb : ℓ2 rb = none := T2.fresh (by omega)
  have s12 := mv.keep.size
  refine ⟨fun x y => ∃ (j : Nat) (X : RsX × Pu × Wst) (ℓ' : Nat → Option Nat) (d : Sl), x = j ∧ j ≤ 9 ∧ Mv v y ℓ ℓ' ∧ Tw w y ℓ' pw F X.2.1 X.2.2 (m + (j + 1) * 200002) ∧ Dat v y ℓ' d X.1.d ∧ LB y ℓ' rb (rsv X.1.st X.1.sn d).toArray t_api_Result ∧ LB y ℓ' ab z10 t_api_Result ∧ (∃ s, X.2.1[i]? = some (b, s)) ∧ I X.2.1 X.2.2 ∧ doesX F i n l lo 9 P st = if X.1.sn.key = 6 ∧ j < 9 then doesX F i n l lo (8 - j) X.2.1 X.2.2 else X, fun x _ => 9 - x.toNat, ?_, ?_⟩
  · obtain ⟨s1, e1, _⟩ := sh.2 i _ he
    refine ⟨0, do16X F P st i n l lo, ℓ2, d, rfl, by decide, (mr.trans mv).go g3, (T2.go g3).mono (by omega), (dt.from hg1.size).go g3, ⟨hbr, nrb⟩, ⟨(mv.heap hb1 nab |> fun q => g3.heap q (fun q => q)), (mv.lab _ (lt_of_heap hb1)).trans nab⟩, ⟨s1, e1⟩, I0, ?_⟩
    show (if (do16X F P st i n l lo).1.sn.key = 6 then _ else _) = _
    by_cases q : (do16X F P st i n l lo).1.sn.key = 6
    · rw [if_pos q, if_pos ⟨q, by decide⟩]
    · rw [if_neg q, if_neg (fun z => q z.1)]
  rintro x y ⟨j, X, ℓy, dy, rfl, hj, my, Ty, dty, br, ba, ⟨sy, ey⟩, IX, eX⟩
  refine ⟨(X.1.sn.key : Int), fun _ => by rw [add0, add0, Blk.cell br.blk]; rfl, ?_⟩
  by_cases q : X.1.sn.key = 6 ∧ j < 9
  · rw [if_pos q] at eX
    refine br_t (by rw [Bool.and_eq_true, decide_eq_true_eq, beq_iff_eq]; omega) ?_
    obtain ⟨Ny, Iy⟩ := hN _ _ IX
    refine Tw.dosN (x := (b, sy)) Ny Ty (by omega) ey hn (my.rdX hp) (my.rdX ho) hb fun z ℓz dz mz Tz dtz shz => ?_
    have brz := br.mv mz
    refine lay_rule brz.blk rfl fun z2 hbz hkz hsz => ?_
    rw [w64 (by omega) (by omega)]
    obtain ⟨s1, e1, _⟩ := shz.2 i _ ey
    have wrb : w.heap.size ≤ rb := by have := T2.grow.size; omega
    have ne : ab ≠ rb := by have := lt_of_heap hb1; omega
    refine ⟨⟨j + 1, do16X F X.2.1 X.2.2 i n l lo, ℓz, dz, by omega, by omega, ?_, (Tz.res1 brz hkz wrb).mono (by rw [Nat.succ_mul]; omega), ?_, ⟨hbz, brz.no⟩, ?_, ⟨s1, e1⟩, Iy, ?_⟩, by dsimp only; omega⟩
    · exact (my.trans mz).loc hkz fun b hb q => by omega
    · exact (dtz.from my.keep.size).loc brz.blk (by decide) hkz
    · exact ⟨hkz.heap (ba.mv mz).blk ne, (ba.mv mz).no⟩
    · rw [eX]
      have : 8 - j = (8 - (j + 1)) + 1 ∨ (j = 8 ∧ 8 - j = 0) := by omega
      rcases this with r | ⟨r, r2⟩
      · rw [r]
        show (if (do16X F X.2.1 X.2.2 i n l lo).1.sn.key = 6 then _ else _) = _
        by_cases q3 : (do16X F X.2.1 X.2.2 i n l lo).1.sn.key = 6
        · rw [if_pos q3, if_pos ⟨q3, by omega⟩]
        · rw [if_neg q3, if_neg (fun z => q3 z.1)]
      · rw [r2, if_neg (by omega)]
        rfl
  · rw [if_neg q] at eX
    refine br_f (by rw [Bool.and_eq_false_iff, decide_eq_false_iff_not, beq_eq_false_iff_ne]; omega) ⟨_, rLoad (blk_cells br.blk), ?_⟩
    rw [hY] at eX
    subst eX
    refine ret_rule ba.blk rfl fun z hk => hR z ℓy dy (my.loc hk fun b hb q => by omega) ((Ty.res1 ba hk wab).mono (by omega)) (dty.loc ba.blk (by decide) hk) ⟨sy, ey⟩ IX
end
end Go.Proofs.YtpmebahhjgkflaaGreatDoor

/- Layer 16: the law UnitNews. -/
namespace Go.Proofs.YtpmebahhjgkflaaGreatDoor
open Go CF
set_option maxRecDepth 100000
section
variable {w u v : World}
end
end Go.Proofs.YtpmebahhjgkflaaGreatDoor

/- The row of UnitNews. -/
namespace Go.Proofs.YtpmebahhjgkflaaGreatDoor
open Go CF
set_option maxRecDepth 100000
section
variable {H : Type} {enc : TypeId × Value → H} {w : World} {base : Nat} {spare : Nat → Bool} {held : Bool}
theorem int_u8n {x : Int} (h : (Lit.int .u8 x).wf = true) : ∃ n : Nat, x = (n : Int) ∧ n < 256 := by
  simp [Lit.wf, IntKind.min, IntKind.max, IntKind.signed, IntKind.bits] at h
  exact ⟨x.toNat, by omega, by omega⟩
end
end Go.Proofs.YtpmebahhjgkflaaGreatDoor

/- Layer 16: the law of REQUEST SENSE. -/
namespace Go.Proofs.YtpmebahhjgkflaaGreatDoor
open Go CF
set_option maxRecDepth 100000
section
variable {w u v : World} {pw n m : Nat} {ℓ ℓ' : Nat → Option Nat} {P : Pu} {st : Wst}
abbrev stN : Wst := ⟨fun _ => none, fun _ => none, [], 0⟩
/-- REQUEST SENSE -/
def askC (long : Bool) (al : UInt8) : L8 := [3, if long then 1 else 0, 0, 0, al, 0]
theorem ask_parse (long : Bool) (al : UInt8) : (parseX (askC long al)).2.2 = true ∧ (parseX (askC long al)).1.kind = 2 ∧ (parseX (askC long al)).1.long = long ∧ (parseX (askC long al)).1.alloc = (al.toNat : Int) := by
  have key : ∀ (b : Bool) (k : Fin 256), (parseX (askC b (UInt8.ofNat k.val))).2.2 = true ∧ (parseX (askC b (UInt8.ofNat k.val))).1.kind = 2 ∧ (parseX (askC b (UInt8.ofNat k.val))).1.long = b ∧ (parseX (askC b (UInt8.ofNat k.val))).1.alloc = ((UInt8.ofNat k.val).toNat : Int) := by decide +kernel
  have := key long ⟨al.toNat, al.toNat_lt⟩
  rwa [UInt8.ofNat_toNat] at this
/-- a unit that was never kept starts -/
theorem start_new {k prot : Nat} {ps : List Nat} : startU quiet (bumpU (unitL k prot ps)) stN = (0, { bumpU (unitL k prot ps) with q := onQ fun _ => [], sure := true, on := 1 }, more stN 2) := by
  have hl : ldN stN.seen (unitL k prot ps).keepf 2 = (-1, 0, []) := newU_ld rfl
  have e : slLoadX quiet stN (unitL k prot ps).keepf ⟨false, -1, 0⟩ = (8, [], 0, ⟨true, -1, 0⟩, more stN 2) := by
    unfold slLoadX
    have : ffail quiet stN.ops 2 = none := by decide
    rw [this]
    dsimp only
    rw [hl]
    rfl
  unfold startU
  rw [if_neg (by show ¬ (0 = 1); decide)]
  unfold loadU loadB loadW
  show ((if (slLoadX quiet stN (unitL k prot ps).keepf ⟨false, -1, 0⟩).1 = 8 then _ else _ : Nat × USt).1, _, (slLoadX quiet stN (unitL k prot ps).keepf ⟨false, -1, 0⟩).2.2.2.2) = _
  simp only [show (bumpU (unitL k prot ps)).keepf = (unitL k prot ps).keepf from rfl, show (bumpU (unitL k prot ps)).sure = false from rfl, show (bumpU (unitL k prot ps)).at_ = -1 from rfl, show (bumpU (unitL k prot ps)).gen = 0 from rfl, e]
  rfl
theorem start_on {F : Int → Bool} {s : USt} {st : Wst} (h : s.on = 1) : startU F s st = (s.fault, s, st) := by unfold startU; rw [if_pos h]
/-- a REQUEST SENSE at a unit that runs, with nothing reserved -/
theorem ask_do {F : Int → Bool} {b0 : Nat} {s S : USt} {st st' : Wst} {r : Pu} (long : Bool) (al : UInt8) (hs : startU F (bumpU s) st = (0, S, st')) (ht : S.tab.kind = 0) : do16X F ((b0, s) :: r) st 0 n (askC long al) [] = (okX (askL (parseX (askC long al)).1 (S.q n)), (b0, toldU S n) :: r, st') := by
  obtain ⟨h1, h2, h3, h4⟩ := ask_parse long al
  have hh : headX S n (askC long al) = .run (parseX (askC long al)).1 := by
    unfold headX
    rw [h1, if_neg (by decide), h2]
    have hc : conflictT S.tab n (classX 2) = false := if_pos (.inl ht)
    have ha : altersX 2 = false := by decide
    rw [hc, ha, Bool.false_and, if_neg (by decide), if_neg (by decide)]
    cases peekX (S.q n) <;> rfl
  unfold do16X
  show (if (startU F (bumpU s) st).1 ≠ 0 then _ else _) = _
  rw [hs, if_neg (fun q => q rfl)]
  dsimp only
  rw [hh]
  show runX F ((b0, S) :: r) st' 0 n (parseX (askC long al)).1 [] = _
  unfold runX
  rw [if_neg (by omega)]
  show (if (parseX (askC long al)).1.kind = 4 then _ else _) = _
  rw [if_neg (by omega), if_neg (by omega)]
  have : runB F S st' n (parseX (askC long al)).1 [] = ⟨okX (askL (parseX (askC long al)).1 (S.q n)), toldU S n, st'⟩ := by
    unfold runB baseX
    rw [if_neg (by omega), if_neg (by omega), if_pos h2]
  rw [this]
  rfl
end
end Go.Proofs.YtpmebahhjgkflaaGreatDoor

/- Layer 16: some commands of laws, as functions; a unit for which all is free. -/
namespace Go.Proofs.YtpmebahhjgkflaaGreatDoor
open Go CF
set_option maxRecDepth 100000
section
variable {F : Int → Bool} {b0 n : Nat} {s S : USt} {st st' : Wst} {r : Pu} {l out : L8} {c : Cm}
/-- a unit, but for what waits and what was counted -/
def bare (s : USt) : USt := { s with count := 0, q := fun _ => [] }
theorem do16_at (hs : startU F (bumpU s) st = (0, S, st')) : do16X F ((b0, s) :: r) st 0 n l out = match headX S n l with
    | .bad sn => (snX sn, (b0, S) :: r, st')
    | .told c => (snX (uaS c), (b0, toldU S n) :: r, st')
    | .conflict => (⟨24, sn0, []⟩, (b0, S) :: r, st')
    | .prot => (snX proS, (b0, S) :: r, st')
    | .run c => runX F ((b0, S) :: r) st' 0 n c out := by
  unfold do16X
  show (if (startU F (bumpU s) st).1 ≠ 0 then _ else _) = _
  rw [hs, if_neg (fun q => q rfl)]
  rfl
theorem start_up (h : s.on = 1) (hf : s.fault = 0) : startU F (bumpU s) st = (0, bumpU s, st) := by
  rw [start_on (show (bumpU s).on = 1 from h)]
  show (s.fault, _, _) = _
  rw [hf]
theorem head_at (hp : (parseX l).2.2 = true) (ht : S.tab.kind = 0) (ha : (altersX (parseX l).1.kind && S.now.swp) = false) : headX S n l = match peekX (S.q n), freeK (parseX l).1.kind with
    | some c, false => .told c
    | _, _ => .run (parseX l).1 := by
  unfold headX
  rw [hp, if_neg Bool.noConfusion, show conflictT S.tab n (classX (parseX l).1.kind) = false from if_pos (.inl ht), if_neg Bool.noConfusion, ha, if_neg Bool.noConfusion]
  cases peekX (S.q n) <;> cases freeK (parseX l).1.kind <;> rfl
theorem run_base1 (h18 : c.kind ≠ 18) (h4 : c.kind ≠ 4) (h16 : c.kind ≠ 16) : runX F ((b0, S) :: r) st 0 n c out = ((runB F S st n c out).x, (b0, (runB F S st n c out).s) :: r, (runB F S st n c out).w) := by
  unfold runX
  rw [if_neg h18]
  show (if c.kind = 4 then _ else if c.kind = 16 then _ else _) = _
  rw [if_neg h4, if_neg h16]
  rfl
/-- TEST UNIT READY -/
theorem ready_do (hs : startU F (bumpU s) st = (0, S, st')) (ht : S.tab.kind = 0) : do16X F ((b0, s) :: r) st 0 n z6 [] = match peekX (S.q n) with
    | some c => (snX (uaS c), (b0, toldU S n) :: r, st')
    | none => (okX [], (b0, S) :: r, st') := by
  rw [do16_at hs, head_at (by rw [parse_z6]) ht (by rw [parse_z6]; rfl), parse_z6]
  cases peekX (S.q n) with
  | some c => rfl
  | none =>
    show runX F ((b0, S) :: r) st' 0 n { c0C with kind := 1 } [] = _
    rw [run_base1 (by decide) (by decide) (by decide)]
    rfl
theorem ready_need {P : Pu} (h : ∀ x, P[0]? = some x → x.2.on ≠ 1 → LoadP F { bumpU x.2 with lock := 1 } st) : NeedD F P st 0 n z6 := fun x hx => ⟨h x hx, fun c _ hc => by
  rw [head_run hc, parse_z6]; exact runN_base (by decide) (by decide) (by decide) baseN_ready⟩
/-- one attention waits, or none: behind two commands all is told -/
theorem does_ready {code : Nat} (hc : peekX (S.q n) = some code) (hx : nextX (S.q n) = []) (hs : startU F (bumpU s) st = (0, S, st')) (h1 : S.on = 1) (hf : S.fault = 0) (ht : S.tab.kind = 0) : doesX F 0 n z6 [] 9 ((b0, s) :: r) st = (okX [], (b0, bumpU (toldU S n)) :: r, st') := by
  have e1 := ready_do (b0 := b0) (r := r) (n := n) hs ht
  rw [hc] at e1
  dsimp only at e1
  have e2 := ready_do (F := F) (b0 := b0) (r := r) (n := n) (s := toldU S n) (st := st') (start_up h1 hf) ht
  have hq : (bumpU (toldU S n)).q n = [] := by
    show (if n = n then nextX (S.q n) else _) = []
    rw [if_pos rfl, hx]
  rw [hq] at e2
  have e2 : _ = (okX [], (b0, bumpU (toldU S n)) :: r, st') := e2
  show (if (do16X F ((b0, s) :: r) st 0 n z6 []).1.sn.key = 6 then doesX F 0 n z6 [] 8 _ _ else _) = _
  rw [e1, if_pos (show (snX (uaS code)).sn.key = 6 from rfl)]
  show (if (do16X F ((b0, toldU S n) :: r) st' 0 n z6 []).1.sn.key = 6 then _ else do16X F ((b0, toldU S n) :: r) st' 0 n z6 []) = _
  rw [e2]
  exact if_neg (show ¬ (0 : Nat) = 6 by decide)
/-- nothing waits -/
theorem ready_calm (hq : S.q n = []) (hs : startU F (bumpU s) st = (0, S, st')) (ht : S.tab.kind = 0) : do16X F ((b0, s) :: r) st 0 n z6 [] = (okX [], (b0, S) :: r, st') := by
  rw [ready_do hs ht, hq]
  rfl
/-- MODE SELECT of the control page -/
def selC : L8 := [0x15, 0x10, 0, 0, 16, 0]
def selP (b : UInt8) : L8 := [0, 0, 0, 0, 10, 10, 4, 0, b, 0, 0, 0, 0, 0, 0, 0]
def cSel : Cm := (parseX selC).1
theorem sel_parse : (parseX selC).2.2 = true ∧ cSel.kind = 4 ∧ cSel.save = false ∧ cSel.alloc = 16 := by decide +kernel
theorem sel_pages {b : Bool} : mselX v0 v0 cSel (selP (if b then 8 else 0)) = .ok (true, ⟨true, true, b⟩, v0) := by cases b <;> kernel_rfl
theorem sel_do {b : Bool} (hs : startU F (bumpU s) st = (0, S, st')) (ht : S.tab.kind = 0) (hq : S.q n = []) (hn : S.now = v0) (hv : S.saved = v0) : do16X F ((b0, s) :: r) st 0 n selC (selP (if b then 8 else 0)) = (okX [], (b0, tellU (pagU S ⟨true, true, b⟩ v0) n 10753) :: r, st') := by
  obtain ⟨h1, h2, h3, h4⟩ := sel_parse
  have h2' : (parseX selC).1.kind = 4 := h2
  rw [do16_at hs, head_at h1 ht (by rw [h2']; rfl), h2', hq]
  show runX F ((b0, S) :: r) st' 0 n cSel _ = _
  unfold runX
  rw [if_neg (by omega)]
  show (if cSel.kind = 4 then _ else _) = _
  rw [if_pos h2]
  have : selX F S st' n cSel (selP (if b then 8 else 0)) = ⟨okX [], tellU (pagU S ⟨true, true, b⟩ v0) n 10753, st'⟩ := by
    unfold selX
    rw [if_neg (by rw [h4]; cases b <;> decide), hn, hv, sel_pages]
    dsimp only
    unfold keepX
    rw [h3, Bool.false_and, if_neg Bool.noConfusion, if_pos rfl]
  rw [this]
  rfl
/-- INQUIRY -/
def inqC : L8 := [0x12, 0, 0, 0, 255, 0]
theorem inq_parse : (parseX inqC).2.2 = true ∧ (parseX inqC).1.kind = 3 ∧ (parseX inqC).1.evpd = false ∧ (parseX inqC).1.alloc = 255 := by decide +kernel
theorem inq_do (hs : startU F (bumpU s) st = (0, S, st')) (ht : S.tab.kind = 0) : do16X F ((b0, s) :: r) st 0 n inqC [] = (okX (cutX (stdX S.inf) 255), (b0, S) :: r, st') := by
  obtain ⟨h1, h2, h3, h4⟩ := inq_parse
  rw [do16_at hs, head_at h1 ht (by rw [h2]; rfl), h2]
  have e : (match peekX (S.q n), freeK 3 with
    | some c, false => HeadX.told c
    | _, _ => .run (parseX inqC).1) = .run (parseX inqC).1 := by cases peekX (S.q n) <;> rfl
  rw [e]
  show runX F ((b0, S) :: r) st' 0 n (parseX inqC).1 [] = _
  rw [run_base1 (by omega) (by omega) (by omega)]
  have : runB F S st' n (parseX inqC).1 [] = ⟨okX (cutX (stdX S.inf) 255), S, st'⟩ := by
    unfold runB baseX
    rw [if_neg (by omega), if_neg (by omega), if_neg (by omega), if_pos h2, h3, h4]
    rfl
  rw [this]
end
end Go.Proofs.YtpmebahhjgkflaaGreatDoor

/- Layer 16: the law of attentions. -/
namespace Go.Proofs.YtpmebahhjgkflaaGreatDoor
open Go CF
set_option maxRecDepth 100000
def bare1 (b1 : Nat) : USt := { unitL 0 0 [b1] with sure := true, on := 1 }
def newS (b1 : Nat) : USt := { bumpU (unitL 0 0 [b1]) with q := onQ fun _ => [], sure := true, on := 1 }
theorem newS_bare (b1 : Nat) : bare (newS b1) = bare1 b1 := rfl
section
variable {w u v z : World} {pw n m b0 b1 : Nat} {ℓ ℓ' : Nat → Option Nat} {P : Pu} {st : Wst} {s : USt} {r : Pu} {F : Int → Bool}
theorem bare_up (h : bare s = bare1 b1) : s.on = 1 ∧ s.fault = 0 ∧ s.tab.kind = 0 ∧ s.now = v0 ∧ s.saved = v0 ∧ s.inf = infL 0 0 :=
  ⟨congrArg USt.on h, congrArg USt.fault h, congrArg (fun s => s.tab.kind) h, congrArg USt.now h, congrArg USt.saved h, congrArg USt.inf h⟩
/-- a row made behind a state -/
theorem Tw.rowN {x : Sl} {l : L8} (T : Tw w z ℓ pw F P st m) (g : Grow z v) (ho : CF.Own v z.heap.size t_uint8 1 x (bv l)) (hl : l.length ≤ 1000000) : RdX v ℓ 1 x (bv l) :=
  (T.go g).row (w0 := z) ⟨ho, fun _ hb => T.fresh (ho.ge _ hb).1⟩ hl
/-- where the first commands stand -/
def Att (b0 b1 : Nat) (P : Pu) (st : Wst) : Prop := ∃ s r, P = (b0, s) :: r ∧ ((s = unitL 0 0 [b1] ∧ st = stN) ∨ bare s = bare1 b1)
theorem att_need {j : Nat} (h : Att b0 b1 P st) : NeedD quiet P st 0 j z6 ∧ Att b0 b1 (do16X quiet P st 0 j z6 []).2.1 (do16X quiet P st 0 j z6 []).2.2 := by
  obtain ⟨s, r, rfl, h⟩ := h
  refine ⟨ready_need fun x hx => ?_, ?_⟩
  · obtain rfl : (b0, s) = x := Option.some.inj hx
    rcases h with ⟨rfl, rfl⟩ | h
    · exact fun _ => load_none (s := { bumpU (unitL 0 0 [b1]) with lock := 1 }) (st := stN) (show ldN stN.seen (unitL 0 0 [b1]).keepf 2 = _ from newU_ld rfl)
    · exact fun q => absurd (bare_up h).1 q
  · rcases h with ⟨rfl, rfl⟩ | h
    · have e := ready_do (F := quiet) (b0 := b0) (r := r) (n := j) (S := newS b1) (st := stN) (s := unitL 0 0 [b1]) start_new rfl
      rw [e]
      cases peekX ((newS b1).q j) with
      | none => exact ⟨newS b1, _, rfl, .inr (newS_bare b1)⟩
      | some c => exact ⟨toldU (newS b1) j, _, rfl, .inr (newS_bare b1)⟩
    · have hu := bare_up h
      rw [ready_do (start_up hu.1 hu.2.1) hu.2.2.1]
      cases peekX ((bumpU s).q j) with
      | none => exact ⟨_, _, rfl, .inr h⟩
      | some c => exact ⟨_, _, rfl, .inr h⟩
theorem att_step {j : Nat} (hj : j < 8) (h0 : j = 0 → s = unitL 0 0 [b1] ∧ st = stN) (h1 : 0 < j → bare s = bare1 b1 ∧ ∀ t, t < 8 → s.q t = if t < j then [] else addA [] 10496) :
    ∃ s' st', doesX quiet 0 j z6 [] 9 ((b0, s) :: r) st = (okX [], (b0, s') :: r, st') ∧ bare s' = bare1 b1 ∧ ∀ t, t < 8 → s'.q t = if t < j + 1 then [] else addA [] 10496 := by
  have key : ∀ (S : USt) st', startU quiet (bumpU s) st = (0, S, st') → bare S = bare1 b1 → (∀ t, t < 8 → S.q t = if t < j then [] else addA [] 10496) → ∃ s' st', doesX quiet 0 j z6 [] 9 ((b0, s) :: r) st = (okX [], (b0, s') :: r, st') ∧ bare s' = bare1 b1 ∧ ∀ t, t < 8 → s'.q t = if t < j + 1 then [] else addA [] 10496 := fun S st' hs hb hq => by
    have hu := bare_up hb
    have hqj : S.q j = addA [] 10496 := by rw [hq j hj, if_neg (Nat.lt_irrefl _)]
    refine ⟨_, _, does_ready (b0 := b0) (r := r) (code := 10496) (by rw [hqj]; exact peek_on) (by rw [hqj]; exact next_on) hs hu.1 hu.2.1 hu.2.2.1, hb, fun t ht => ?_⟩
    show (if t = j then nextX (S.q j) else S.q t) = _
    by_cases e : t = j
    · rw [if_pos e, if_pos (by omega), hqj]; exact next_on
    · rw [if_neg e, hq t ht]
      by_cases e2 : t < j
      · rw [if_pos e2, if_pos (by omega)]
      · rw [if_neg e2, if_neg (by omega)]
  by_cases e : j = 0
  · obtain ⟨rfl, rfl⟩ := h0 e
    exact key (newS b1) _ start_new rfl fun t ht => by
      rw [if_neg (by omega)]
      show (if t < 8 then addA [] 10496 else []) = _
      rw [if_pos ht]
  · obtain ⟨hb, hq⟩ := h1 (by omega)
    have hu := bare_up hb
    exact key (bumpU s) st (start_up hu.1 hu.2.1) hb hq
def d18 (a : Bool) : L8 := cutX (fixedX (if a then uaS 10753 else sn0)).1 255
theorem d18_eq : d18 true = [112, 0, 6, 0, 0, 0, 0, 10, 0, 0, 0, 0, 42, 1, 0, 0, 0, 0] ∧ d18 false = [112, 0, 0, 0, 0, 0, 0, 10, 0, 0, 0, 0, 0, 0, 0, 0, 0, 0] := by constructor <;> decide +kernel
theorem std36 : (cutX (stdX (infL 0 0)) 255).length = 36 := by decide +kernel
theorem peek_pc : peekX (addA [] 10753) = some 10753 := by kernel_rfl
theorem next_pc : nextX (addA [] 10753) = [] := by kernel_rfl
theorem add_pc : addA ([] : List Nat) 10753 = [10753] := by kernel_rfl
theorem selNeed {P : Pu} {st : Wst} (h : ∃ s r, P = (b0, s) :: r ∧ s.on = 1) : NeedD quiet P st 0 n selC := fun x hx => by
  obtain ⟨s, r, rfl, h⟩ := h
  obtain rfl : (b0, s) = x := Option.some.inj hx
  exact ⟨fun q => absurd h q, fun c _ hc => by rw [head_run hc]; exact runN_sel⟩
theorem inqNeed {P : Pu} {st : Wst} (h : ∃ s r, P = (b0, s) :: r ∧ s.on = 1) : NeedD quiet P st 0 n inqC := fun x hx => by
  obtain ⟨s, r, rfl, h⟩ := h
  obtain rfl : (b0, s) = x := Option.some.inj hx
  exact ⟨fun q => absurd h q, fun c _ hc => by rw [head_run hc, inq_parse.2.1]; exact runN_base (by decide) (by decide) (by decide) baseN_inq⟩
theorem askNeed {P : Pu} {st : Wst} {long : Bool} {al : UInt8} (h : ∃ s r, P = (b0, s) :: r ∧ s.on = 1) : NeedD quiet P st 0 n (askC long al) := fun x hx => by
  obtain ⟨s, r, rfl, h⟩ := h
  obtain rfl : (b0, s) = x := Option.some.inj hx
  exact ⟨fun q => absurd h q, fun c _ hc => by rw [head_run hc, (ask_parse long al).2.1]; exact runN_base (by decide) (by decide) (by decide) baseN_ask⟩
theorem readyNeed {P : Pu} {st : Wst} (h : ∃ s r, P = (b0, s) :: r ∧ s.on = 1) : NeedD quiet P st 0 n z6 := ready_need fun x hx => by
  obtain ⟨s, r, rfl, h⟩ := h
  obtain rfl : (b0, s) = x := Option.some.inj hx
  exact fun q => absurd h q
/-- a literal row -/
theorem Tw.lit {l : L8} {k : Nat} {parts : Array (Nat × Value)} {K : Sl → World → Prop} (T : Tw w v ℓ pw F P st m) (hl : (Instr.buildSlice t_sl_uint8 k parts).run Tryz.prog v = .ok (.slice (some ⟨v.heap.size, 0, none⟩) k k) (v.alloc (.cells (bv l).toArray t_uint8))) (hk : l.length = k) (hk2 : k ≤ 1000000)
    (h : ∀ xs u, Grow v u → Tw w u ℓ pw F P st m → RdX u ℓ 1 xs (bv l) → K xs u) : RunK Tryz.prog .sl (Instr.buildSlice t_sl_uint8 k parts) v K :=
  lit_rule (cells := (bv l).toArray) (e := t_uint8) (z := 1) (base := v.heap.size) hl (by rw [List.size_toArray, bv_length, hk, Nat.mul_one]) (by omega) (Nat.le_refl _) fun u o g _ => h _ u g (T.go g) (T.rowN g o (by omega))
theorem bits_val {k : Nat} : (IntKind.wrap .u8 (((k : Int).tmod 2) * 8)) = (((if decide (k % 2 = 1) then (8 : UInt8) else 0).toNat : Nat) : Int) := by
  have e : (k : Int).tmod 2 = ((k % 2 : Nat) : Int) := Int.ofNat_tmod k 2
  rw [e]
  have h := Nat.mod_two_eq_zero_or_one k
  generalize k % 2 = r at *
  rcases h with rfl | rfl <;> decide
set_option maxHeartbeats 4000000 in
theorem unitAttends_spec {a0 b0' k : Nat} {sense : Bool} {R : Bool → World → Prop} (ha : a0 < 256) (hb : b0' < 256) (hk : k < 256) (h : ∀ w', Grow w w' → R true w') : Cpalletlaw16_UnitAttends (a0 : Int) (b0' : Int) (k : Int) sense w R := by
  refine Fpalletlaw16_UnitAttends.calls _ _ _ _ _ _ (awake16_spec fun w1 g1 => br_f rfl (world_new_spec fun pw D w2 g2 hW hD => ?_))
  obtain ⟨ℓ0, H0, hℓ0⟩ := Sys.world0 hW
  have old : ∀ b, b < w.heap.size → ℓ0 b = none := fun b hb => hℓ0 b fun q => by have := hD b q; have := g1.size; omega
  refine Tw.units (m := 0) H0 (g1.trans g2) old (by decide) (fun c hc => by cases hc) ⟨Nat.le_refl _, Nat.le_refl _⟩ (fun k _ => good_nil) fun w3 ℓ3 b0 b1 m3 T3 => ?_
  refine ⟨some ⟨b0, 0, none⟩, ⟨⟨by decide, by decide⟩, rfl⟩, by decide, by decide, ?_⟩
  have ea : (IntKind.wrap .i64 (a0 : Int)).tmod 8 = ((a0 % 8 : Nat) : Int) := by rw [w64 (by omega) (by omega)]; exact Int.ofNat_tmod a0 8
  have eb : (IntKind.wrap .i64 (b0' : Int)).tmod 8 = ((b0' % 8 : Nat) : Int) := by rw [w64 (by omega) (by omega)]; exact Int.ofNat_tmod b0' 8
  rw [ea, eb]
  have hna : a0 % 8 < 8 := Nat.mod_lt _ (by decide)
  have hnb : b0' % 8 < 8 := Nat.mod_lt _ (by decide)
  generalize a0 % 8 = a at *
  generalize b0' % 8 = b at *
  have hrr : ∀ u, u = w3 → Grow w u := fun u e => e ▸ T3.grow
  refine ⟨fun x v => ∃ (j : Nat) (ℓ' : Nat → Option Nat) (s : USt) (r : Pu) (st : Wst), x = j ∧ j ≤ 8 ∧ Tw w v ℓ' pw quiet ((b0, s) :: r) st (2000020 * j) ∧ (j = 0 → s = unitL 0 0 [b1] ∧ st = stN) ∧ (0 < j → bare s = bare1 b1 ∧ ∀ t, t < 8 → s.q t = if t < j then [] else addA [] 10496), fun x _ => 8 - x.toNat,
    ⟨0, ℓ3, _, _, _, rfl, by decide, T3, fun _ => ⟨rfl, rfl⟩, fun q => by omega⟩, ?_⟩
  rintro x v ⟨j, ℓ', s, r, st, rfl, hj, T, h0, h1⟩
  refine br_nat (y := 8) (fun hlt => ready_spec fun xs v1 gv1 ho1 => ?_) (fun hge => ⟨by decide, ?_⟩)
  · obtain ⟨s', st', eX, hb', hq'⟩ := att_step (r := r) hlt h0 h1
    have I0 : Att b0 b1 ((b0, s) :: r) st := ⟨s, r, rfl, by
      by_cases e : j = 0
      · exact .inl (h0 e)
      · exact .inr (h1 (by omega)).1⟩
    refine Tw.does (b := b0) (Att b0 b1) (fun P st h => att_need h) I0 (T.go gv1) (by omega) ⟨s, rfl⟩ hlt (T.rowN gv1 ho1 (by decide)) (Tw.rowNil (T.go gv1)) (by decide) eX fun v2 ℓ2 d mv T2 dt _ _ => ?_
    rw [w64 (by omega) (by omega)]
    exact ⟨⟨j + 1, ℓ2, s', r, st', by omega, by omega, T2.mono (by omega), fun q => by omega, fun _ => ⟨hb', hq'⟩⟩, by dsimp only; omega⟩
  obtain rfl : j = 8 := by omega
  obtain ⟨hbr, hq⟩ := h1 (by decide)
  have hu := bare_up hbr
  clear h0 h1 hrr
  have hq0 : ∀ t, t < 8 → (bumpU s).q t = [] := fun t ht => by show s.q t = _; rw [hq t ht, if_pos ht]
  rw [bits_val]
  generalize decide (k % 2 = 1) = bit
  refine T.lit (l := selP (if bit then 8 else 0)) (by kernel_rfl) (by rfl) (by decide) fun xs1 v1 gv1 T1 X1 => ?_
  refine T1.lit (l := selC) (by kernel_rfl) (by rfl) (by decide) fun xs2 v2 gv2 T2 X2 => ?_
  have e2 := sel_do (F := quiet) (b0 := b0) (r := r) (n := a) (b := bit) (st := st) (start_up hu.1 hu.2.1) hu.2.2.1 (hq0 a hna) hu.2.2.2.1 hu.2.2.2.2.1
  generalize hS2 : tellU (pagU (bumpU s) ⟨true, true, bit⟩ v0) a 10753 = S2 at e2
  have u2 : S2.on = 1 ∧ S2.fault = 0 ∧ S2.tab.kind = 0 ∧ S2.inf = infL 0 0 := by rw [← hS2]; exact ⟨hu.1, hu.2.1, hu.2.2.1, hu.2.2.2.2.2⟩
  have q2 : S2.q b = if a ≠ b then [10753] else [] := by
    rw [← hS2]
    show (if (b : Int) ≠ (a : Int) ∧ b < 8 then addA ((bumpU s).q b) 10753 else (bumpU s).q b) = _
    rw [hq0 b hnb, add_pc]
    by_cases e : a = b
    · rw [if_neg (by omega), if_neg (fun q : a ≠ b => q e)]
    · rw [if_pos (by omega), if_pos (show a ≠ b from e)]
  clear hS2 hq hq0 hbr
  refine Tw.dosN (x := (b0, s)) (selNeed ⟨s, r, rfl, hu.1⟩) T2 (by decide) rfl hna X2 ((Mv.grow gv2).rdX X1) (by have := X1.rd.len; rw [bv_length, show (selP (if bit then 8 else 0)).length = 16 from rfl] at this; omega) fun v3 ℓ3 d3 m3 T3 dt3 _ => ?_
  rw [e2] at T3 ⊢
  refine res_new fun rb v4 hrb gv4 hbr4 => ⟨0, by rw [add0, Blk.cell hbr4]; rfl, br_f rfl ?_⟩
  have T4 := T3.go gv4
  refine T4.lit (l := inqC) (by kernel_rfl) (by rfl) (by decide) fun xs3 v5 gv5 T5 X5 => ?_
  have e5 := inq_do (F := quiet) (b0 := b0) (r := r) (n := b) (s := S2) (st := st) (start_up u2.1 u2.2.1) u2.2.2.1
  rw [show (bumpU S2).inf = infL 0 0 from u2.2.2.2] at e5
  refine Tw.dosN (x := (b0, S2)) (inqNeed ⟨S2, r, rfl, u2.1⟩) T5 (by decide) rfl hnb X5 (Tw.rowNil T5) (by decide) fun v6 ℓ6 d6 m6 T6 dt6 _ => ?_
  rw [e5] at T6 dt6 ⊢
  refine res_new fun ib v7 hib gv7 hbi7 => ⟨0, by rw [add0, Blk.cell hbi7]; rfl, d6, fun _ => by rw [add0, Blk.cell hbi7]; rfl, ?_⟩
  have ln6 : d6.n = 36 := by
    have := own_n dt6.1
    rw [this]; exact std36
  refine br_f (by rw [ln6]; rfl) ?_
  have T7 := T6.go gv7
  have u7 : (bumpU S2).on = 1 ∧ (bumpU S2).fault = 0 ∧ (bumpU S2).tab.kind = 0 := ⟨u2.1, u2.2.1, u2.2.2.1⟩
  have q7 : (bumpU (bumpU S2)).q b = if a ≠ b then [10753] else [] := q2
  generalize bumpU S2 = S3 at *
  cases sense with
  | true =>
    refine br_t rfl (T7.lit (l := askC false 255) (by kernel_rfl) (by rfl) (by decide) fun xs5 v8 gv8 T8 X8 => ?_)
    have e8 := ask_do (F := quiet) (b0 := b0) (r := r) (n := b) (s := S3) (st := st) false 255 (start_up u7.1 u7.2.1) u7.2.2
    have ed : askL (parseX (askC false 255)).1 ((bumpU S3).q b) = d18 (decide (a ≠ b)) := by
      obtain ⟨_, _, p3, p4⟩ := ask_parse false 255
      unfold askL
      rw [p3, p4, q7]
      by_cases e : a = b
      · rw [if_neg (fun q : a ≠ b => q e), show decide (a ≠ b) = false from decide_eq_false (by omega)]; rfl
      · rw [if_pos (show a ≠ b from e), show decide (a ≠ b) = true from decide_eq_true e]; rfl
    rw [ed] at e8
    refine Tw.dosN (x := (b0, S3)) (askNeed ⟨S3, r, rfl, u7.1⟩) T8 (by decide) rfl hnb X8 (Tw.rowNil T8) (by decide) fun v9 ℓ9 d9 m9 T9 dt9 _ => ?_
    rw [e8] at T9 dt9 ⊢
    have T9 : Tw w v9 ℓ9 pw quiet ((b0, toldU (bumpU S3) b) :: r) st _ := T9
    have dt9 : Dat v8 v9 ℓ9 d9 (d18 (decide (a ≠ b))) := dt9
    refine res_new fun qb v10 hqb gv10 hbq10 => ?_
    have ld : (d18 (decide (a ≠ b))).length = 18 := by
      cases decide (a ≠ b) with
      | true => rw [d18_eq.1]; rfl
      | false => rw [d18_eq.2]; rfl
    have ln9 : d9.n = 18 := by rw [own_n dt9.1, ld]
    have rd : ∀ i, (hi : i < 18) → d9.A.isSome = true ∧ v10.cell? ((gA d9.A).add (i * 1)) = some (.int .u8 (((d18 (decide (a ≠ b)))[i]'(by omega)).toNat : Int)) := fun i hi => by
      have := rd_val ((dt9.1.grow gv10).rd (by omega)) (i := i) (by rw [bv_length]; omega)
      exact ⟨this.1, this.2.trans (by simp [bv])⟩
    have c9 : ∀ {x : Value}, (rsv 0 sn0 d9).toArray[0 + 9]? = some x → v10.cell? ((⟨qb, 0, none⟩ : Addr).add 9) = some x := fun e => by rw [add0, Blk.cell hbq10]; exact e
    have f0 : ((0 : Int) != 0 || ((d9.n : Int) != 18)) = false := by rw [ln9]; rfl
    refine ⟨0, by rw [add0, Blk.cell hbq10]; rfl, d9, fun _ => c9 rfl, d9, fun _ => c9 rfl, fun _ => ⟨by decide, by rw [ln9]; decide, (rd 2 (by decide)).1⟩, (((d18 (decide (a ≠ b)))[2]'(by omega)).toNat : Int), fun _ => (rd 2 (by decide)).2, d9, fun _ => c9 rfl, fun _ => ⟨by decide, by rw [ln9]; decide, (rd 12 (by decide)).1⟩, (((d18 (decide (a ≠ b)))[12]'(by omega)).toNat : Int), fun _ => (rd 12 (by decide)).2, d9, fun _ => c9 rfl, fun _ => ⟨by decide, by rw [ln9]; decide, (rd 13 (by decide)).1⟩, (((d18 (decide (a ≠ b)))[13]'(by omega)).toNat : Int), fun _ => (rd 13 (by decide)).2, ?_⟩
    have hc : ∀ (x : Bool) (D : L8), D = d18 x → ∀ h : D.length = 18, (((((D[2]'(by omega)).toNat : Int) == 6) && (((D[12]'(by omega)).toNat : Int) == 42)) && (((D[13]'(by omega)).toNat : Int) == 1)) = x := fun x D e h => by
      cases x
      · rw [d18_eq.2] at e; subst e; rfl
      · rw [d18_eq.1] at e; subst e; rfl
    refine br_f (by
      rw [f0, hc _ _ rfl ld]
      have : (((a : Int)) != ((b : Int))) = decide (a ≠ b) := by rw [Bool.eq_iff_iff, bne_iff_ne, decide_eq_true_eq]; omega
      rw [this]
      cases decide (a ≠ b) <;> rfl) ?_
    have T10 := T9.go gv10
    refine ready_spec fun xs10 v11 gv11 ho11 => ?_
    have u9 : (toldU (bumpU S3) b).on = 1 ∧ (toldU (bumpU S3) b).fault = 0 ∧ (toldU (bumpU S3) b).tab.kind = 0 := u7
    have q9 : (bumpU (toldU (bumpU S3) b)).q b = [] := by
      show (if b = b then nextX ((bumpU S3).q b) else _) = []
      rw [if_pos rfl, q7]
      split
      · rw [← add_pc]; exact next_pc
      · rfl
    have e11 := ready_calm (F := quiet) (b0 := b0) (r := r) (n := b) (s := toldU (bumpU S3) b) (st := st) q9 (start_up u9.1 u9.2.1) u9.2.2
    refine Tw.dosN (x := (b0, toldU (bumpU S3) b)) (readyNeed ⟨_, r, rfl, u9.1⟩) (T10.go gv11) (by decide) rfl hnb (T10.rowN gv11 ho11 (by decide)) (Tw.rowNil (T10.go gv11)) (by decide) fun v12 ℓ12 d12 m12 T12 dt12 _ => ?_
    rw [e11] at T12 ⊢
    exact ⟨0, rfl, h v12 T12.grow⟩
  | false =>
    refine br_f rfl (ready_spec fun xs11 v8 gv8 ho8 => ?_)
    by_cases e : a = b
    · rw [if_neg (fun q : a ≠ b => q e)] at q7
      have e8 := ready_calm (F := quiet) (b0 := b0) (r := r) (n := b) (s := S3) (st := st) q7 (start_up u7.1 u7.2.1) u7.2.2
      refine Tw.dosN (x := (b0, S3)) (readyNeed ⟨S3, r, rfl, u7.1⟩) (T7.go gv8) (by decide) rfl hnb (T7.rowN gv8 ho8 (by decide)) (Tw.rowNil (T7.go gv8)) (by decide) fun v9 ℓ9 d9 m9 T9 dt9 _ => ?_
      rw [e8] at T9 ⊢
      refine res_new fun qb v10 hqb gv10 hbq10 => br_t (by rw [beq_iff_eq]; omega) ⟨0, by rw [add0, Blk.cell hbq10]; rfl, h v10 (T9.grow.trans gv10)⟩
    · rw [if_pos (show a ≠ b from e), ← add_pc] at q7
      have e8 := ready_do (F := quiet) (b0 := b0) (r := r) (n := b) (s := S3) (st := st) (start_up u7.1 u7.2.1) u7.2.2
      rw [q7, peek_pc] at e8
      have e8 : do16X quiet ((b0, S3) :: r) st 0 b z6 [] = (snX (uaS 10753), (b0, toldU (bumpU S3) b) :: r, st) := e8
      refine Tw.dosN (x := (b0, S3)) (readyNeed ⟨S3, r, rfl, u7.1⟩) (T7.go gv8) (by decide) rfl hnb (T7.rowN gv8 ho8 (by decide)) (Tw.rowNil (T7.go gv8)) (by decide) fun v9 ℓ9 d9 m9 T9 dt9 _ => ?_
      rw [e8] at T9 dt9 ⊢
      refine res_new fun qb v10 hqb gv10 hbq10 => br_f (by rw [beq_eq_false_iff_ne]; omega) ?_
      rintro v11 rfl
      have gv11 := keep_drew v10
      have T11 := (T9.go gv10).go gv11
      have hb11 : Blk v10.drew qb _ t_api_Result := gv11.heap hbq10 (fun q => q)
      have dl : d9.n = 0 := own_n dt9.1
      have rdd : Rd v10.drew 1 d9 (bv []) := ((dt9.1.grow gv10).grow gv11).rd (by omega)
      have nqb : ℓ9 qb = none := T9.fresh (by omega)
      generalize v10.drew = v11 at *
      refine ⟨fun o => Blk o qb (rsv 2 (uaS 10753) d9).toArray t_api_Result, hb11, _, fun o q => rLoad (blk_cells q), ends14_spec (key := 6) (code := 10753) fun v12 gv12 => ⟨gv12.heap hb11 (fun q => q), same14_spec (rdd.grow gv12) (rd_nilB _) fun v13 gv13 => ⟨(gv12.trans gv13).heap hb11 (fun q => q), ?_⟩⟩⟩
      have g13 := gv12.trans gv13
      have T13 := T11.go g13
      have hb13 : Blk v13 qb _ t_api_Result := g13.heap hb11 (fun q => q)
      refine letJ1 (fun (xs : Sl) o => Grow v13 o ∧ CF.Own o v13.heap.size t_uint8 1 xs (bv z6)) ?_ (fun J => ⟨fun _ => ready_spec fun xs o go oo => J _ _ ⟨go, oo⟩, fun q => by cases q⟩)
      rintro xs o ⟨go, oo⟩
      refine ⟨go.heap hb13 (fun q => q), ?_⟩
      have u9 : (toldU (bumpU S3) b).on = 1 ∧ (toldU (bumpU S3) b).fault = 0 ∧ (toldU (bumpU S3) b).tab.kind = 0 := u7
      have q9 : (bumpU (toldU (bumpU S3) b)).q b = [] := by
        show (if b = b then nextX ((bumpU S3).q b) else _) = []
        rw [if_pos rfl, q7, next_pc]
      have e11 := ready_calm (F := quiet) (b0 := b0) (r := r) (n := b) (s := toldU (bumpU S3) b) (st := st) q9 (start_up u9.1 u9.2.1) u9.2.2
      refine letJ1 (fun (g : Array Value) y => Grow w y ∧ Blk y qb (rsv 2 (uaS 10753) d9).toArray t_api_Result ∧ g[0]? = some (.int .u8 0)) ?_ (fun J => ⟨fun _ => ?_, fun q => by cases q⟩)
      · rintro g y ⟨gy, hy, hg⟩
        exact ⟨hy, _, hy, fun _ q => q, 0, fun _ _ _ => hg, h y gy⟩
      · have T13o := T13.go go
        refine Tw.dosN (x := (b0, toldU (bumpU S3) b)) (readyNeed ⟨_, r, rfl, u9.1⟩) T13o (by decide) rfl hnb (T13.rowN go oo (by decide)) (Tw.rowNil T13o) (by decide) fun v12 ℓ12 d12 m12 T12 dt12 _ => ?_
        rw [e11] at T12 ⊢
        exact J _ _ ⟨T12.grow, m12.heap (go.heap hb13 (fun q => q)) nqb, rfl⟩
theorem unitAttends_row {nexus other bits : Int} {sense : Bool} {R : Bool → World → Prop} (ha : (Lit.int .u8 nexus).wf = true) (hb : (Lit.int .u8 other).wf = true) (hc : (Lit.int .u8 bits).wf = true) (h : ∀ w', Grow w w' → R true w') : Cpalletlaw16_UnitAttends nexus other bits sense w R := by
  obtain ⟨x, rfl, hx⟩ := int_u8n ha
  obtain ⟨y, rfl, hy⟩ := int_u8n hb
  obtain ⟨k, rfl, hk⟩ := int_u8n hc
  exact unitAttends_spec hx hy hk h
end
end Go.Proofs.YtpmebahhjgkflaaGreatDoor
