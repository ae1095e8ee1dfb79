import Derived.Test.YtpmebahhjgkflaaGreatDoorB15
/- Layer 16: what each kind of command needs, one by one. -/
namespace Go.Proofs.YtpmebahhjgkflaaGreatDoor
open Go CF
set_option maxRecDepth 100000
theorem baseN_ask : BaseN 2 := ⟨fun _ => fixed_spec, fun _ => desc_spec, fun q => by omega, fun q => by omega, fun q => by omega, fun q => by omega, fun q => by omega, fun q => by omega, fun _ q => by omega⟩
theorem runN_base {k : Nat} (h4 : k ≠ 4) (h16 : k ≠ 16) (h18 : k ≠ 18) (h : BaseN k) : RunN k := ⟨fun _ _ _ => h, fun q => by omega, fun q => by omega, fun q => by omega⟩
/-- what runs is the command that was read -/
theorem head_run {s : USt} {n : Nat} {l : L8} {c : Cm} (h : headX s n l = .run c) : c = (parseX l).1 := by
  unfold headX at h
  split at h
  · cases h
  · split at h
    · cases h
    · split at h
      · cases h
      · split at h
        · cases h
        · injection h with h; exact h.symm
/-- nothing was kept -/
theorem loadU_none {s : USt} {st : Wst} (hl : ldN st.seen s.keepf 2 = (-1, 0, [])) : loadU quiet s st = (0, freshU s, more st 2) := by
  have e : slLoadX quiet st s.keepf ⟨s.sure, s.at_, s.gen⟩ = (8, [], 0, ⟨true, -1, 0⟩, more st 2) := by
    unfold slLoadX
    rw [ffail_quiet]
    dsimp only
    rw [hl]
    rfl
  unfold loadU loadB loadW
  rw [e]
  rfl
theorem load_none {s : USt} {st : Wst} (hl : ldN st.seen s.keepf 2 = (-1, 0, [])) : LoadP quiet s st := fun H hk ho hi he hR =>
  load_fresh H hi (List.getElem?_eq_some_iff.1 he).2 hk ho hl fun u ℓ' mv Hu => by
    have := hR u ℓ' _ (UA.like.refl _) mv
    rw [loadU_none hl] at this
    exact this Hu
end Go.Proofs.YtpmebahhjgkflaaGreatDoor

/- Layer 16: all is well when the power comes on. -/
namespace Go.Proofs.YtpmebahhjgkflaaGreatDoor
open Go CF
set_option maxRecDepth 100000
section
variable {w u v : World} {N N' S D : Nat → Prop} {pw i n : Nat} {a : UA} {s : USt} {st st' : Wst} {F : Int → Bool} {ℓ ℓ' : Nat → Option Nat} {us us' : List (UA × USt)}
def z6 : L8 := List.replicate 6 0
theorem ready_spec {R : Sl → World → Prop} (h : ∀ xs w', Grow w w' → Own w' w.heap.size t_uint8 1 xs (bv z6) → R xs w') : Cpalletlaw16_ready w R := by
  refine Fpalletlaw16_ready.calls _ _ ?_
  exact make_rule (n := 6) u_sl_uint8 i_uint8 rfl (by decide) (by decide) (base := w.heap.size) (Nat.le_refl _) fun w' hown hg hs => h _ w' hg hown
/-- TEST UNIT READY -/
theorem run_ready {c : Cm} {out : Sl} {up : Option Addr} {ab : Nat} {R : Array Value → World → Prop} (hk : c.kind = 1) (hR : ∀ v, Grow w v → FinR ab R (rsv 0 sn0 nilS).toArray v) : Cunit_Unit_run up (n : Int) (cmv c).toArray out w (FinR ab R) := by
  refine Funit_Unit_run.calls _ _ _ _ _ _ (new_rule fun cb w1 hcb hb1 hg1 hs1 => new_rule fun rb w2 hrb hb2 hg2 hs2 => ?_)
  have hb1' : Blk w2 cb (cmv c).toArray t_api_Cmd := hg2.heap hb1 (fun q => q)
  refine ⟨(c.kind : Int), by rw [add0, hb1'.cell]; rfl, br_t (by rw [hk]; rfl) ?_⟩
  refine ret_rule (st := 0) (s := sn0) (d := nilS) hb2 rfl fun w3 hk3 => hR w3 ((hg1.trans hg2).keep hk3 fun i hi q => by have := hg1.size; omega)
theorem parse_z6 : parseX z6 = ({ c0C with kind := 1 }, sn0, true) := by kernel_rfl
theorem peek_on : peekX (addA [] 10496) = some 10496 := by kernel_rfl
theorem next_on : nextX (addA [] 10496) = [] := by kernel_rfl
theorem newU_ld {st : Wst} {i prot : Nat} {ps : List Nat} (hs : st.seen = fun _ => none) : ldN st.seen (unitL i prot ps).keepf 2 = (-1, 0, []) := by
  rw [hs]
  exact ldN_noneS (noneS_nil _)
theorem nmL_size {i : Nat} (hi : i < 2) : (nmL i).size = 1 := by
  have : ∀ i : Fin 2, (nmL i.val).size = 1 := by decide +kernel
  exact this ⟨i, hi⟩
theorem keepf_size {i prot : Nat} {ps : List Nat} (hi : i < 2) : 1 ≤ (unitL i prot ps).keepf.size ∧ (unitL i prot ps).keepf.size ≤ 30 := by
  show 1 ≤ (nmL i ++ s_x2ep).size ∧ (nmL i ++ s_x2ep).size ≤ 30
  rw [size_app, nmL_size hi]
  have : s_x2ep.size = 2 := by decide
  omega
abbrev poS : Sn := ⟨6, 10496, 0, false, 0, 0, false, false⟩
/-- what a unit is behind its first command -/
def wokeU (s : USt) (n : Nat) : USt := toldU (startedU (bumpU s)) n
theorem do_wake {p out : Sl} {ps : List Nat} {k prot : Nat} {R : Array Value → World → Prop} (H : Sys w ℓ pw st quiet us) (hi : i < us.length) (hk : k < 2) (he : us[i] = (a, unitL k prot ps)) (hs : st.seen = fun _ => none) (ho : st.ops < 1000000) (hn : n < 8) (hp : RdX w ℓ 1 p (bv z6))
    (hR : ∀ u ℓ', Mv w u ℓ ℓ' → Sys u ℓ' pw { st with ops := st.ops + 2 } quiet (us.set i (a, wokeU (unitL k prot ps) n)) → R (rsv 2 poS nilS).toArray u) : Cunit_Unit_Do (some ⟨a.ub, 0, none⟩) (n : Int) p out w R := by
  refine do_fresh H hi he rfl rfl (keepf_size hk) (by omega) (newU_ld hs) hn (by show 0 < 1000000000000; decide) hp fun ℓ1 => ?_
  have hq : (startedU (bumpU (unitL k prot ps))).q n = addA [] 10496 := by
    show (if n < 8 then addA [] 10496 else []) = _
    rw [if_pos hn]
  have : headX (startedU (bumpU (unitL k prot ps))) n z6 = .told 10496 := by
    unfold headX
    rw [parse_z6, hq, peek_on]
    rfl
  rw [this]
  exact fun u m Hu => hR u ℓ1 m Hu
theorem do_ready {p out : Sl} {R : Array Value → World → Prop} (H : Sys w ℓ pw st F us) (hi : i < us.length) (he : us[i] = (a, s)) (hon : s.on = 1) (hfl : s.fault = 0) (hn : n < 8) (hct : s.count < 1000000000000) (hq : s.q n = []) (ht : s.tab.kind = 0) (hp : RdX w ℓ 1 p (bv z6))
    (hR : ∀ u ℓ', Mv w u ℓ ℓ' → Sys u ℓ' pw st F (us.set i (a, bumpU s)) → R (rsv 0 sn0 nilS).toArray u) : Cunit_Unit_Do (some ⟨a.ub, 0, none⟩) (n : Int) p out w R := by
  refine do_started H hi he hon hfl hn hct hp fun ℓ1 => ?_
  have : headX (bumpU s) n z6 = .run { c0C with kind := 1 } := by
    unfold headX
    rw [parse_z6, show (bumpU s).q n = [] from hq]
    have hc : conflictT (bumpU s).tab n (classX ({ c0C with kind := 1 } : Cm).kind) = false := if_pos (.inl ht)
    show (if conflictT (bumpU s).tab n (classX ({ c0C with kind := 1 } : Cm).kind) = true then HeadX.conflict else if (altersX 1 && (bumpU s).now.swp) = true then .prot else .run _) = _
    rw [hc]
    rfl
  rw [this]
  refine fun u ab m Hu hb hw hn1 => run_ready rfl fun v g => ?_
  exact FinR.sys (Hu.grow g) (m.go g) hw hn1 (g.heap hb (fun q => q)) rfl fun v' k hm hs => hR v' ℓ1 hm hs
end
end Go.Proofs.YtpmebahhjgkflaaGreatDoor

/- Layer 16: the power came on, and then all is well. -/
namespace Go.Proofs.YtpmebahhjgkflaaGreatDoor
open Go CF
set_option maxRecDepth 100000
section
variable {w u v : World} {N N' S D : Nat → Prop} {pw i n : Nat} {a : UA} {s : USt} {st st' : Wst} {F : Int → Bool} {ℓ ℓ' : Nat → Option Nat} {us us' : List (UA × USt)}
theorem ask_ready {S : World → Prop} {p : Option Addr} {K : Addr → World → Prop} {x : Nat} {sn : Sn} (H : Sys w ℓ pw st F us) (hS : ∀ v ℓ', Mv w v ℓ ℓ' → S v)
    (hD : ∀ v xs, Grow w v → RdX v ℓ 1 xs (bv z6) → ∀ R : Array Value → World → Prop, (∀ u ℓ', Mv v u ℓ ℓ' → Sys u ℓ' pw st' F us' → R (rsv x sn nilS).toArray u) → Cunit_Unit_Do p 0 xs ⟨none, 0, 0⟩ v R)
    (hK : ∀ ab u ℓ', Mv w u ℓ ℓ' → Sys u ℓ' pw st' F us' → Blk u ab (rsv x sn nilS).toArray t_api_Result → ℓ' ab = none → w.heap.size ≤ ab → K ⟨ab, 0, none⟩ u) :
    (Cpalletlaw16_ready w fun xs w05 => S w05 ∧ (Cunit_Unit_Do p 0 xs ⟨none, 0, 0⟩ w05 fun g1 w06 => New (.cells z10 t_api_Result) w06 fun ab w07 => S w07 ∧ RunU Tryz.prog (storeVar t_api_Result ab (.agg g1)) w07 fun w08 => K ab w08) ∧
      New (.cells z10 t_api_Result) w05 fun ab w07 => S w07 ∧ Cunit_Unit_Do p 0 xs ⟨none, 0, 0⟩ w07 fun g w08 => RunU Tryz.prog (storeVar t_api_Result ab (.agg g)) w08 fun w09 => K ab w09) ∧
    New (.cells z10 t_api_Result) w fun ab w05 => S w05 ∧ Cpalletlaw16_ready w05 fun xs w06 => S w06 ∧ Cunit_Unit_Do p 0 xs ⟨none, 0, 0⟩ w06 fun g w07 => RunU Tryz.prog (storeVar t_api_Result ab (.agg g)) w07 fun w08 => K ab w08 := by
  have rx : ∀ {v0 v : World} {xs : Sl}, Grow w v0 → Own v v0.heap.size t_uint8 1 xs (bv z6) → RdX v ℓ 1 xs (bv z6) := fun {v0 v xs} g ho => ⟨ho.rd (by have := ho.len; rw [bv_length] at this; have e : z6.length = 6 := rfl; omega), fun _ b hb => by
    have := ho.ge b.block (by simp [Sl.blk, hb])
    have := g.size
    exact ⟨by omega, H.fresh (by omega)⟩⟩
  -- the result is laid into its place
  have lay : ∀ {u : World} {ℓ' : Nat → Option Nat} {ab : Nat} {cs : Array Value}, Mv w u ℓ ℓ' → Sys u ℓ' pw st' F us' → Blk u ab cs t_api_Result → cs.size = 10 → ℓ' ab = none → w.heap.size ≤ ab → RunU Tryz.prog (storeVar t_api_Result ⟨ab, 0, none⟩ (.agg (rsv x sn nilS).toArray)) u fun w08 => K ⟨ab, 0, none⟩ w08 := fun {u ℓ' ab cs} m Hu hb hc hn hw =>
    lay_rule hb hc fun u' hb' hk' hs' => hK ab u' ℓ' (m.loc hk' fun b hb q => by omega) (Hu.local1 hb hn hk' (rowT_not (by decide) (by decide) (by decide)) (by decide)) hb' hn hw
  refine ⟨ready_spec fun xs w1 hg1 ho1 => ⟨hS _ _ (Mv.grow hg1), ?_, ?_⟩, ?_⟩
  · refine hD w1 xs hg1 (rx (Keep.refl _ _) ho1) _ fun u ℓ' m Hu => new_rule fun ab u2 hab hb2 hg2 hs2 => ?_
    have m1 := ((Mv.grow hg1).trans m)
    exact ⟨hS _ _ (m1.go hg2), lay (m1.go hg2) (Hu.grow hg2) hb2 rfl (Hu.fresh (by omega)) (by have := m1.keep.size; omega)⟩
  · refine new_rule fun ab w2 hab hb2 hg2 hs2 => ⟨hS _ _ (Mv.grow (hg1.trans hg2)), ?_⟩
    refine hD w2 xs (hg1.trans hg2) ⟨(rx (Keep.refl _ _) ho1).rd.grow hg2, fun hv b hb => ⟨by have := ((rx (Keep.refl _ _) ho1).out hv b hb).1; have := hg2.size; omega, ((rx (Keep.refl _ _) ho1).out hv b hb).2⟩⟩ _ fun u ℓ' m Hu => ?_
    have hfn : ℓ ab = none := H.fresh (by have := hg1.size; omega)
    exact lay ((Mv.grow (hg1.trans hg2)).trans m) Hu (m.heap hb2 hfn) rfl ((m.lab _ (lt_of_heap hb2)).trans hfn) (by have := hg1.size; omega)
  · refine new_rule fun ab w1 hab hb1 hg1 hs1 => ⟨hS _ _ (Mv.grow hg1), ready_spec fun xs w2 hg2 ho2 => ⟨hS _ _ (Mv.grow (hg1.trans hg2)), ?_⟩⟩
    refine hD w2 xs (hg1.trans hg2) (rx hg1 ho2) _ fun u ℓ' m Hu => ?_
    have hfn : ℓ ab = none := H.fresh (by omega)
    exact lay ((Mv.grow (hg1.trans hg2)).trans m) Hu (m.heap (hg2.heap hb1 (fun q => q)) hfn) rfl ((m.lab _ (by have := lt_of_heap hb1; have := hg2.size; omega)).trans hfn) (by omega)
set_option maxHeartbeats 1000000 in
theorem awake16_spec {R : Bool → World → Prop} (h : ∀ w', Grow w w' → R true w') : Cpalletlaw16_awake w R := by
  refine Fpalletlaw16_awake.calls _ _ (world_new_spec fun pw D w1 hg1 hW hD => ?_)
  obtain ⟨ℓ, H1, hℓ⟩ := Sys.world0 hW
  have old : ∀ b, b < w.heap.size → ℓ b = none := fun b hb => hℓ b fun q => by have := hD b q; omega
  refine units_spec (prot := 0) H1 (by decide) fun w2 ℓ2 a0 a1 m2 H2 => new_rule fun ub w3 hub hb3 hg3 hs3 => ?_
  refine storeVar_rule (cells := #[.pointer (some ⟨a0.ub, 0, none⟩), .pointer (some ⟨a1.ub, 0, none⟩)]) hb3 i_2_p_unit_Unit rfl rfl (by simp [Value.oneCell']) fun w4 hb4 hk4 hs4 => ?_
  have hg24 : Grow w2 w4 := hg3.keep hk4 fun i hi q => by omega
  have H4 := H2.grow hg24
  have hun : ℓ2 ub = none := H2.fresh (by omega)
  have cu : ∀ {v : World}, Blk v ub #[.pointer (some ⟨a0.ub, 0, none⟩), .pointer (some ⟨a1.ub, 0, none⟩)] t_2_p_unit_Unit → v.cell? ((⟨ub, 0, none⟩ : Addr).add ((0 : Int).toNat * 1)) = some (.pointer (some ⟨a0.ub, 0, none⟩)) := fun q => by rw [add0, Blk.cell q]; rfl
  refine ⟨⟨by decide, by decide⟩, _, cu hb4, br_f rfl ?_⟩
  rintro w5 rfl
  have hg5 := keep_drew w4
  have H5 := H4.grow hg5
  have hb5 : Blk w4.drew ub _ t_2_p_unit_Unit := hg5.heap hb4 (fun q => q)
  have hgu : ∀ {u : World} {ℓ' : Nat → Option Nat}, Mv w4.drew u ℓ2 ℓ' → Grow w u := fun m => hg1.keep ((m2.go (hg24.trans hg5)).trans m).keep fun b hb q => q (old b hb)
  have cS : ∀ {v : World} {ℓ' : Nat → Option Nat}, Mv w4.drew v ℓ2 ℓ' → v.cell? ((⟨ub, 0, none⟩ : Addr).add ((0 : Int).toNat * 1)) = some (.pointer (some ⟨a0.ub, 0, none⟩)) := fun m => cu (m.heap hb5 hun)
  generalize w4.drew = w5 at *
  refine ⟨fun o => o.cell? ((⟨ub, 0, none⟩ : Addr).add ((0 : Int).toNat * 1)) = some (.pointer (some ⟨a0.ub, 0, none⟩)), cu hb5, ⟨by decide, by decide⟩, _, fun o q => q, ?_⟩
  refine ask_ready (x := 2) (sn := poS) H5 (fun v ℓ' m => cS m) (fun v xs g hx R hR => do_wake (i := 0) (k := 0) (n := 0) (prot := 0) (H5.grow g) (by show 0 < 2; decide) (by decide) rfl rfl (by show 0 < 1000000; decide) (by decide) hx hR) fun ab u ℓ3 m3 H3 hab hna lab => ?_
  rintro w6 rfl
  have hg6 := keep_drew u
  have m6 := m3.go hg6
  have H6 := H3.grow hg6
  have hab6 : Blk u.drew ab _ t_api_Result := hg6.heap hab (fun q => q)
  generalize u.drew = w6 at *
  refine ⟨fun o => o.cell? ((⟨ub, 0, none⟩ : Addr).add ((0 : Int).toNat * 1)) = some (.pointer (some ⟨a0.ub, 0, none⟩)), cS m6, ⟨by decide, by decide⟩, _, fun o q => q, ?_⟩
  refine ask_ready (x := 0) (sn := sn0) H6 (fun v ℓ' m => cS (m6.trans m)) (fun v xs g hx R hR => do_ready (i := 0) (n := 0) (H6.grow g) (by show 0 < 2; decide) rfl rfl rfl (by decide) (by show 1 < 1000000000000; decide) next_on rfl hx hR) fun bb u2 ℓ4 m4 H4' hbb hnb lbb => ?_
  rintro w7 rfl
  have hg7 := keep_drew u2
  have hab7 : Blk u2.drew ab (rsv 2 poS nilS).toArray t_api_Result := (m4.go hg7).heap hab6 hna
  have hbb7 : Blk u2.drew bb (rsv 0 sn0 nilS).toArray t_api_Result := hg7.heap hbb (fun q => q)
  have gw7 := hgu ((m6.trans m4).go hg7)
  generalize u2.drew = w7 at *
  refine ⟨fun o => Blk o ab (rsv 2 poS nilS).toArray t_api_Result ∧ Blk o bb (rsv 0 sn0 nilS).toArray t_api_Result, ⟨hab7, hbb7⟩, (rsv 2 poS nilS).toArray, fun o q => rLoad (blk_cells q.1), ?_⟩
  refine ends14_spec (key := 6) (code := 10496) fun w8 hg8 => ?_
  have st8 : ∀ {o : World}, Grow w7 o → Blk o ab (rsv 2 poS nilS).toArray t_api_Result ∧ Blk o bb (rsv 0 sn0 nilS).toArray t_api_Result := fun g => ⟨g.heap hab7 (fun q => q), g.heap hbb7 (fun q => q)⟩
  refine ⟨st8 hg8, same14_spec (rd_nilB _) (rd_nilB _) fun w9 hg9 => ?_⟩
  have hs9 := st8 (hg8.trans hg9)
  refine ⟨hs9, fun o => Blk o ab (rsv 2 poS nilS).toArray t_api_Result ∧ Blk o bb (rsv 0 sn0 nilS).toArray t_api_Result, hs9, fun _ q => q, (rsv 0 sn0 nilS).toArray, fun _ o q => rLoad (blk_cells q.2), fun o => Blk o ab (rsv 2 poS nilS).toArray t_api_Result ∧ Blk o bb (rsv 0 sn0 nilS).toArray t_api_Result, hs9, fun _ q => q, ?_⟩
  refine letJ1 (fun (b2 : Bool) o => b2 = true ∧ Grow w9 o) ?_ (fun J => ⟨fun _ => same14_spec (sn := sn0) (d2 := nilS) (rd_nilB _) (rd_nilB _) fun w10 hg10 => J _ _ ⟨rfl, hg10⟩, fun q => by cases q⟩)
  rintro b2 o ⟨rfl, hgo⟩
  exact h o (((gw7.trans hg8).trans hg9).trans hgo)
end
end Go.Proofs.YtpmebahhjgkflaaGreatDoor

/- Layer 16: where a law of units stands. -/
namespace Go.Proofs.YtpmebahhjgkflaaGreatDoor
open Go CF
set_option maxRecDepth 100000
theorem pub_at {us : List (UA × USt)} {k : Nat} (h : k < us.length) (h' : k < (pub us).length) : (pub us)[k] = (us[k].1.ub, us[k].2) := (List.getElem?_eq_some_iff.1 (pub_get h)).2
section
variable {w u v : World} {N N' S : Nat → Prop} {pw i n m : Nat} {a : UA} {s s1 : USt} {st st1 : Wst} {F : Int → Bool} {ℓ ℓ' : Nat → Option Nat} {us : List (UA × USt)} {p out : Sl} {l lo : L8} {c : Cm} {R : Array Value → World → Prop} {P P' : Pu}
/-- units over one world, all behind w -/
structure Tw (w v : World) (ℓ : Nat → Option Nat) (pw : Nat) (F : Int → Bool) (P : Pu) (st : Wst) (m : Nat) : Prop where
  ex : ∃ us, Sys v ℓ pw st F us ∧ SOk st us m ∧ pub us = P
  grow : Grow w v
  old : ∀ b, b < w.heap.size → ℓ b = none
  peers : ∀ x ∈ P, x.2.peers.length ≤ 100 ∧ ∀ b ∈ x.2.peers, ∃ y ∈ P, y.1 = b
  count : ∀ x ∈ P, x.2.count ≤ m
theorem Tw.go (h : Tw w v ℓ pw F P st m) (g : Grow v u) : Tw w u ℓ pw F P st m := by
  obtain ⟨us, h1, h2, h3⟩ := h.ex
  exact ⟨⟨us, h1.grow g, h2, h3⟩, h.grow.trans g, h.old, h.peers, h.count⟩
theorem Tw.mono {m' : Nat} (h : Tw w v ℓ pw F P st m) (hm : m ≤ m') : Tw w v ℓ pw F P st m' := by
  obtain ⟨us, h1, h2, h3⟩ := h.ex
  exact ⟨⟨us, h1, h2.mono hm, h3⟩, h.grow, h.old, h.peers, fun x hx => Nat.le_trans (h.count x hx) hm⟩
theorem Tw.fresh (h : Tw w v ℓ pw F P st m) {b : Nat} (hb : v.heap.size ≤ b) : ℓ b = none := by
  obtain ⟨us, h1, _, _⟩ := h.ex
  exact h1.fresh hb
/-- a row of the call's own, as an argument -/
theorem Tw.row (h : Tw w v ℓ pw F P st m) {w0 : World} {x : Sl} {l : L8} (ho : LR v ℓ w0.heap.size t_uint8 1 x (bv l)) (hl : l.length ≤ 1000000) : RdX v ℓ 1 x (bv l) := by
  have hn := own_n ho.own
  refine ⟨ho.own.rd (by omega), fun _ a ha => ?_⟩
  have hb : x.blk = some a.block := by unfold Sl.blk; rw [ha]; rfl
  exact ⟨(ho.own.ge _ hb).2, ho.no _ hb⟩
theorem Tw.rowNil (_ : Tw w v ℓ pw F P st m) : RdX v ℓ 1 nilS (bv []) := ⟨rd_nilB v, fun _ _ ha => by cases ha⟩
theorem Mv.tw (h : Tw w v ℓ pw F P st m) (mv : Mv v u ℓ ℓ') : Grow w u ∧ ∀ b, b < w.heap.size → ℓ' b = none := by
  have sz := h.grow.size
  refine ⟨h.grow.keep mv.keep fun b hb q => q (h.old b hb), fun b hb => ?_⟩
  rw [mv.lab b (by omega)]; exact h.old b hb
theorem Tw.dos {x : Nat × USt} (hL : x.2.on ≠ 1 → LoadP F { bumpU x.2 with lock := 1 } st) (hN : ∀ c, (startU F (bumpU x.2) st).1 = 0 → headX (startU F (bumpU x.2) st).2.1 n l = .run c → RunN c.kind) (h : Tw w v ℓ pw F P st m) (hm : m ≤ 100000000) (hi : i < P.length) (he : P[i] = x) (hn : n < 8) (hp : RdX v ℓ 1 p (bv l)) (ho : RdX v ℓ 1 out (bv lo)) (hb : out.n ≤ 140737488351232)
    (hR : ∀ v' ℓ' d, Mv v v' ℓ ℓ' → Tw w v' ℓ' pw F (do16X F P st i n l lo).2.1 (do16X F P st i n l lo).2.2 (m + 200002) → Dat v v' ℓ' d (do16X F P st i n l lo).1.d → (do16X F P st i n l lo).2.1.length = P.length → (∀ k (h : k < P.length) (h' : k < (do16X F P st i n l lo).2.1.length), (do16X F P st i n l lo).2.1[k].1 = P[k].1 ∧ (do16X F P st i n l lo).2.1[k].2.count = P[k].2.count + if k = i then 1 else 0) → R (rsv (do16X F P st i n l lo).1.st (do16X F P st i n l lo).1.sn d).toArray v') : Cunit_Unit_Do (some ⟨x.1, 0, none⟩) (n : Int) p out v R := by
  obtain ⟨us, H, K, rfl⟩ := h.ex
  have hlen : (pub us).length = us.length := by unfold pub; rw [List.length_map]
  have hiu : i < us.length := by omega
  have ex : x = (us[i].1.ub, us[i].2) := by rw [← he, pub_at hiu]
  subst ex
  have hmem : ∀ k (hk : k < us.length), (us[k].1.ub, us[k].2) ∈ pub us := fun k hk => List.mem_map.2 ⟨us[k], List.getElem_mem hk, rfl⟩
  have hpe := h.peers _ (hmem i hiu)
  have hct := h.count _ (hmem i hiu)
  have gp : ∀ {us : List (UA × USt)} {k : Nat} (h : k < us.length) (h' : k < (pub us).length), (pub us)[k] = (us[k].1.ub, us[k].2) := fun {us k} h h' => pub_at h h'
  refine do_fun16 (a := us[i].1) (s := us[i].2) hL hN H K hm hiu rfl hn (by dsimp only at hct; omega) hp ho hb (fun b hb2 => ?_) hpe.1 fun v' ℓ' d us' mv Hv Kv hl hlk hpub dt => ?_
  · obtain ⟨y, hy, rfl⟩ := hpe.2 b hb2
    obtain ⟨z, hz, rfl⟩ := List.mem_map.1 hy
    obtain ⟨j, hj, rfl⟩ := List.getElem_of_mem hz
    exact ⟨j, hj, rfl⟩
  · obtain ⟨g1, g2⟩ := Mv.tw h mv
    rw [← hpub] at hR
    have hlen' : (pub us').length = us'.length := by unfold pub; rw [List.length_map]
    refine hR v' ℓ' d mv ⟨⟨us', Hv, Kv, rfl⟩, g1, g2, fun y hy => ?_, fun y hy => ?_⟩ dt (by omega) fun k h1 h2 => ?_
    · obtain ⟨z, hz, rfl⟩ := List.mem_map.1 hy
      obtain ⟨k, hk, rfl⟩ := List.getElem_of_mem hz
      obtain ⟨_, q2, _⟩ := hlk k (by omega) hk
      have := h.peers _ (hmem k (by omega))
      dsimp only at this ⊢
      rw [q2]
      refine ⟨this.1, fun b hb => ?_⟩
      obtain ⟨y, hy, rfl⟩ := this.2 b hb
      obtain ⟨z, hz, rfl⟩ := List.mem_map.1 hy
      obtain ⟨j, hj, rfl⟩ := List.getElem_of_mem hz
      have hj' : j < us'.length := by omega
      exact ⟨(us'[j].1.ub, us'[j].2), List.mem_map.2 ⟨us'[j], List.getElem_mem hj', rfl⟩, (hlk j hj hj').1.ub⟩
    · obtain ⟨z, hz, rfl⟩ := List.mem_map.1 hy
      obtain ⟨k, hk, rfl⟩ := List.getElem_of_mem hz
      obtain ⟨_, _, q3⟩ := hlk k (by omega) hk
      have := h.count _ (hmem k (by omega))
      dsimp only at this ⊢
      rw [q3]
      split <;> omega
    · have k1 : k < us.length := by omega
      have k2 : k < us'.length := by omega
      rw [gp k1 h1, gp k2 h2]
      exact ⟨(hlk k k1 k2).1.ub, (hlk k k1 k2).2.2⟩
/-- two units that are peers, made anew -/
def newP (b0 b1 prot : Nat) : Pu := [(b0, unitL 0 prot [b1]), (b1, unitL 1 prot [b0])]
end
end Go.Proofs.YtpmebahhjgkflaaGreatDoor

/- Layer 16: what laws of units need besides: units made anew; plain senses by the document. -/
namespace Go.Proofs.YtpmebahhjgkflaaGreatDoor
open Go CF
set_option maxRecDepth 100000
section
variable {w u v : World} {N N' S D : Nat → Prop} {pw i n m : Nat} {a : UA} {s s1 : USt} {st st1 : Wst} {F : Int → Bool} {ℓ ℓ' : Nat → Option Nat} {us : List (UA × USt)} {p out : Sl} {l lo : L8} {c : Cm} {P P' : Pu}
theorem unitL_ok {k prot : Nat} {ps : List Nat} (hk : k < 2) (hpr : prot ≤ 3) (hg : Good (cont st (nmL k ++ s_x2ed))) : UOk st (unitL k prot ps) := by
  have := nmL_size hk
  exact ⟨⟨by show 1 ≤ 24; decide, by show 24 ≤ 4096; decide⟩, infL_form hk hpr, ⟨nmL k, by omega, by omega, rfl, rfl⟩, hg, .inr ⟨rfl, rfl⟩⟩
/-- units made anew over a world -/
theorem Tw.units {prot : Nat} {R : Array Value → World → Prop} (H : Sys v ℓ pw st F []) (g : Grow w v) (old : ∀ b, b < w.heap.size → ℓ b = none) (hpr : prot ≤ 3) (hok : Wok st) (few : st.ops ≤ m ∧ st.waits.length ≤ m) (hg : ∀ k, k < 2 → Good (cont st (nmL k ++ s_x2ed)))
    (hR : ∀ u ℓ' b0 b1, Mv v u ℓ ℓ' → Tw w u ℓ' pw F (newP b0 b1 prot) st m → R #[.pointer (some ⟨b0, 0, none⟩), .pointer (some ⟨b1, 0, none⟩)] u) : Cpalletlaw16_units (some ⟨pw, 0, none⟩) (prot : Int) v R := by
  refine units_spec H hpr fun u ℓ' a0 a1 mv Hu => ?_
  have sz := g.size
  refine hR u ℓ' a0.ub a1.ub mv ⟨⟨_, Hu, ⟨hok, few, fun x hx => ?_⟩, rfl⟩, g.keep mv.keep fun b hb q => q (old b hb), fun b hb => ?_, fun x hx => ?_, fun x hx => ?_⟩
  · rcases List.mem_cons.1 hx with r | r
    · rw [r]; exact unitL_ok (by decide) hpr (hg 0 (by decide))
    · rw [List.mem_singleton.1 r]; exact unitL_ok (by decide) hpr (hg 1 (by decide))
  · rw [mv.lab b (by omega)]; exact old b hb
  · rcases List.mem_cons.1 hx with r | r
    · rw [r]; exact ⟨by show 1 ≤ 100; decide, fun b hb => ⟨(a1.ub, unitL 1 prot [a0.ub]), List.mem_cons_of_mem _ (List.mem_singleton.2 rfl), (List.mem_singleton.1 hb).symm⟩⟩
    · rw [List.mem_singleton.1 r]; exact ⟨by show 1 ≤ 100; decide, fun b hb => ⟨(a0.ub, unitL 0 prot [a1.ub]), List.mem_cons_self, (List.mem_singleton.1 hb).symm⟩⟩
  · rcases List.mem_cons.1 hx with r | r
    · rw [r]; exact Nat.zero_le _
    · rw [List.mem_singleton.1 r]; exact Nat.zero_le _
/-! ### plain senses by the document -/
def plainS (key code : Nat) : Sn := ⟨key, code, 0, false, 0, 0, false, false⟩
theorem rform6_spec {key code : Nat} {R : Bool → World → Prop} (hk : key ≤ 15) (h : ∀ w', Grow w w' → R true w') : Cpalletref06_Form (snv (plainS key code)).toArray w R := by
  refine Fpalletref06_Form.calls _ _ _ (new_rule fun sb w1 hsb hb1 hg1 hs1 => ?_)
  have hb1 : Blk w1 sb (snv (plainS key code)).toArray t_api_Sense := hb1
  refine ⟨(key : Int), sn_cell hb1 rfl, false, fun _ => sn_cell hb1 rfl, 0, fun _ => sn_cell hb1 rfl, ?_⟩
  have e : (decide ((key : Int) > 15) || (!false && ((0 : Int) != 0))) = false := by
    have : decide ((key : Int) > 15) = false := decide_eq_false (by omega)
    rw [this]; rfl
  rw [e]
  exact br_f rfl ⟨false, sn_cell hb1 rfl, br_f rfl ⟨0, sn_cell hb1 rfl, 0, fun _ => sn_cell hb1 rfl, false, fun _ => sn_cell hb1 rfl, h w1 hg1⟩⟩
theorem plain_fixed {key code : Nat} (hk : key ≤ 15) : (fixedX (plainS key code)).1 = [112, 0, UInt8.ofNat key] ++ beN 4 0 ++ [10, 0, 0, 0, 0] ++ beN 2 code ++ [0] ++ [0, 0, 0] := by
  have hf : formS (plainS key code) = true := by
    unfold formS plainS
    simp [hk]
  unfold fixedX
  rw [hf, if_neg Bool.noConfusion, if_neg (by show ¬ (false = true ∧ _); simp)]
  show fixed0 (plainS key code) = _
  unfold fixed0 plainS
  simp [beN]
theorem plain_desc {key code : Nat} (hk : key ≤ 15) : (descX (plainS key code)).1 = [114, UInt8.ofNat key] ++ beN 2 code ++ [0, 0, 0, 0] := by
  have hf : formS (plainS key code) = true := by
    unfold formS plainS
    simp [hk]
  unfold descX
  rw [hf, if_neg Bool.noConfusion]
  show desc0 (plainS key code) = _
  unfold desc0 descB plainS
  simp [beN]
theorem rfixed6_spec {key code : Nat} {R : Sl → Int → World → Prop} (hk : key ≤ 15) (hc : code < 65536) (h : ∀ xs w', Grow w w' → Own w' w.heap.size t_uint8 1 xs (bv (fixedX (plainS key code)).1) → R xs 0 w') : Cpalletref06_Fixed (snv (plainS key code)).toArray w R := by
  rw [plain_fixed hk] at h
  refine Fpalletref06_Fixed.calls _ _ _ (new_rule fun sb w1 hsb hb1 hg1 hs1 => ?_)
  have hb1 : Blk w1 sb (snv (plainS key code)).toArray t_api_Sense := hb1
  refine ⟨_, sLoad (blk_cells hb1), rform6_spec hk fun w2 g2 => br_f rfl ?_⟩
  have hb2 := g2.heap hb1 (fun q => q)
  refine ⟨0, sn_cell hb2 rfl, br_f (by decide) ⟨false, sn_cell hb2 rfl, ?_⟩⟩
  refine letX1 (fun x y => x = 112 ∧ y = w2) ?_ (fun J => br_f rfl (J _ _ ⟨rfl, rfl⟩))
  rintro x y ⟨rfl, e⟩
  rw [e]
  have e1 : (key : Int) = (((UInt8.ofNat key).toNat : Nat) : Int) := by rw [← wrap_u8, wu8 (by omega) (by omega)]
  refine ⟨(key : Int), sn_cell hb2 rfl, ?_⟩
  rw [e1]
  have hl3 : (Instr.buildSlice t_sl_uint8 3 #[(0, .int .u8 112), (1, .int .u8 0), (2, .int .u8 (((UInt8.ofNat key).toNat : Nat) : Int))]).run Tryz.prog w2 = .ok (.slice (some ⟨w2.heap.size, 0, none⟩) 3 3) (w2.alloc (.cells (bv [112, 0, UInt8.ofNat key]).toArray t_uint8)) := by kernel_rfl
  refine Row.start hl3 rfl (by show 3 ≤ _; decide) fun p3 w3 r3 => ?_
  have hb3 := r3.grow.heap hb2 (fun q => q)
  refine ⟨0, sn_cell hb3 rfl, ?_⟩
  refine r3.big (v := 0) (n := 4) (by decide) (by decide) (by simp) fun p4 w4 r4 _ => ?_
  refine r4.lit (l := [10, 0, 0, 0, 0]) (by kernel_rfl) rfl (by simp [beN_len]) fun p5 w5 r5 _ => ?_
  have hb5 := r5.grow.heap hb2 (fun q => q)
  refine ⟨(code : Int), sn_cell hb5 rfl, ?_⟩
  rw [wu64 (by omega) (by omega)]
  refine r5.big (v := code) (n := 2) (by decide) (by decide) (by simp [beN_len]) fun p6 w6 r6 _ => ?_
  refine r6.lit (l := [0]) (by kernel_rfl) rfl (by simp [beN_len]) fun p7 w7 r7 _ => ?_
  have hb7 := r7.grow.heap hb2 (fun q => q)
  refine ⟨false, sn_cell hb7 rfl, br_f rfl ?_⟩
  refine r7.lit (l := [0, 0, 0]) (by kernel_rfl) rfl (by simp [beN_len]) fun p8 w8 r8 _ => ?_
  exact h p8 w8 ((hg1.trans g2).trans r8.grow) (r8.own.mono (hg1.trans g2).size)
theorem rdesc6_spec {key code : Nat} {R : Sl → Int → World → Prop} (hk : key ≤ 15) (hc : code < 65536) (h : ∀ xs w', Grow w w' → Own w' w.heap.size t_uint8 1 xs (bv (descX (plainS key code)).1) → R xs 0 w') : Cpalletref06_Described (snv (plainS key code)).toArray w R := by
  rw [plain_desc hk] at h
  refine Fpalletref06_Described.calls _ _ _ (new_rule fun sb w1 hsb hb1 hg1 hs1 => ?_)
  have hb1 : Blk w1 sb (snv (plainS key code)).toArray t_api_Sense := hb1
  refine ⟨_, sLoad (blk_cells hb1), rform6_spec hk fun w2 g2 => br_f rfl ?_⟩
  have hb2 := g2.heap hb1 (fun q => q)
  refine ⟨false, sn_cell hb2 rfl, ?_⟩
  refine letX1 (fun x y => x = nilS ∧ y = w2) ?_ (fun J => br_f rfl (J _ _ ⟨rfl, rfl⟩))
  intro x y hxy
  rw [hxy.1, hxy.2]
  refine ⟨false, sn_cell hb2 rfl, ?_⟩
  refine letX1 (fun x y => x = nilS ∧ y = w2) ?_ (fun J => br_f rfl (J _ _ ⟨rfl, rfl⟩))
  intro x y hxy
  rw [hxy.1, hxy.2]
  have e1 : (key : Int) = (((UInt8.ofNat key).toNat : Nat) : Int) := by rw [← wrap_u8, wu8 (by omega) (by omega)]
  refine ⟨(key : Int), sn_cell hb2 rfl, ?_⟩
  rw [e1]
  have hl2 : (Instr.buildSlice t_sl_uint8 2 #[(0, .int .u8 114), (1, .int .u8 (((UInt8.ofNat key).toNat : Nat) : Int))]).run Tryz.prog w2 = .ok (.slice (some ⟨w2.heap.size, 0, none⟩) 2 2) (w2.alloc (.cells (bv [114, UInt8.ofNat key]).toArray t_uint8)) := by kernel_rfl
  refine Row.start hl2 rfl (by show 2 ≤ _; decide) fun p3 w3 r3 => ?_
  have hb3 := r3.grow.heap hb2 (fun q => q)
  refine ⟨(code : Int), sn_cell hb3 rfl, ?_⟩
  rw [wu64 (by omega) (by omega)]
  refine r3.big (v := code) (n := 2) (by decide) (by decide) (by simp) fun p4 w4 r4 _ => ?_
  refine r4.lit (l := [0, 0, 0, 0]) (by kernel_rfl) rfl (by simp [beN_len]) fun p5 w5 r5 _ => ?_
  refine r5.app (x := nilS) (l := []) (rd_nilB _) (by simp [beN_len]) fun p6 w6 r6 _ => ?_
  rw [List.append_nil] at r6
  exact h p6 w6 ((hg1.trans g2).trans r6.grow) (r6.own.mono (hg1.trans g2).size)
end
end Go.Proofs.YtpmebahhjgkflaaGreatDoor

/- Layer 16: the law UnitNews. -/
namespace Go.Proofs.YtpmebahhjgkflaaGreatDoor
open Go CF
set_option maxRecDepth 100000
section
variable {w u v : World}
end
end Go.Proofs.YtpmebahhjgkflaaGreatDoor

/- The row of UnitNews. -/
namespace Go.Proofs.YtpmebahhjgkflaaGreatDoor
open Go CF
set_option maxRecDepth 100000
section
variable {H : Type} {enc : TypeId × Value → H} {w : World} {base : Nat} {spare : Nat → Bool} {held : Bool}
theorem int_u8n {x : Int} (h : (Lit.int .u8 x).wf = true) : ∃ n : Nat, x = (n : Int) ∧ n < 256 := by
  simp [Lit.wf, IntKind.min, IntKind.max, IntKind.signed, IntKind.bits] at h
  exact ⟨x.toNat, by omega, by omega⟩
end
end Go.Proofs.YtpmebahhjgkflaaGreatDoor

/- Layer 16: the law of REQUEST SENSE. -/
namespace Go.Proofs.YtpmebahhjgkflaaGreatDoor
open Go CF
set_option maxRecDepth 100000
section
variable {w u v : World} {pw n m : Nat} {ℓ ℓ' : Nat → Option Nat} {P : Pu} {st : Wst}
abbrev stN : Wst := ⟨fun _ => none, fun _ => none, [], 0⟩
theorem decode_nil {R : Array Value → Int → World → Prop} (h : ∀ w', Grow w w' → R (snv sn0).toArray 3 w') : Csense_Decode nilS w R := by
  refine Fsense_Decode.calls _ _ _ (new_rule fun ab w1 hab hb1 hg1 hs1 => new_rule fun sb w2 hsb hb2 hg2 hs2 => ?_)
  have hb12 := hg2.heap hb1 (fun q => q)
  refine letX2 (fun a e y => a = nilS ∧ e = 3 ∧ y = w2) ?_ (fun J => ⟨fun q => by simp at q, 0, fun q => by simp at q, br_f (by decide) ⟨fun q => by simp at q, 0, fun q => by simp at q, br_f (by decide) (J _ _ _ ⟨rfl, rfl, rfl⟩)⟩⟩)
  rintro a e y ⟨rfl, rfl, e⟩
  rw [e]
  refine ⟨⟨#[]⟩, fun q => by simp at q, ⟨#[]⟩, fun q => by simp at q, br_t (by decide) ?_⟩
  exact storeVar_rule (cells := (snv sn0).toArray) hb12 i_api_Sense rfl rfl (by simp [snv, sn0, Value.oneCell']) fun w3 hb3 hk3 _ => ⟨_, sLoad (blk_cells hb3), h w3 ((hg1.trans hg2).keep hk3 fun b hb q => by omega)⟩
/-- REQUEST SENSE -/
def askC (long : Bool) (al : UInt8) : L8 := [3, if long then 1 else 0, 0, 0, al, 0]
theorem ask_parse (long : Bool) (al : UInt8) : (parseX (askC long al)).2.2 = true ∧ (parseX (askC long al)).1.kind = 2 ∧ (parseX (askC long al)).1.long = long ∧ (parseX (askC long al)).1.alloc = (al.toNat : Int) := by
  have key : ∀ (b : Bool) (k : Fin 256), (parseX (askC b (UInt8.ofNat k.val))).2.2 = true ∧ (parseX (askC b (UInt8.ofNat k.val))).1.kind = 2 ∧ (parseX (askC b (UInt8.ofNat k.val))).1.long = b ∧ (parseX (askC b (UInt8.ofNat k.val))).1.alloc = ((UInt8.ofNat k.val).toNat : Int) := by decide +kernel
  have := key long ⟨al.toNat, al.toNat_lt⟩
  rwa [UInt8.ofNat_toNat] at this
/-- a unit that was never kept starts -/
theorem start_new {k prot : Nat} {ps : List Nat} : startU quiet (bumpU (unitL k prot ps)) stN = (0, { bumpU (unitL k prot ps) with q := onQ fun _ => [], sure := true, on := 1 }, more stN 2) := by
  have hl : ldN stN.seen (unitL k prot ps).keepf 2 = (-1, 0, []) := newU_ld rfl
  have e : slLoadX quiet stN (unitL k prot ps).keepf ⟨false, -1, 0⟩ = (8, [], 0, ⟨true, -1, 0⟩, more stN 2) := by
    unfold slLoadX
    have : ffail quiet stN.ops 2 = none := by decide
    rw [this]
    dsimp only
    rw [hl]
    rfl
  unfold startU
  rw [if_neg (by show ¬ (0 = 1); decide)]
  unfold loadU loadB loadW
  show ((if (slLoadX quiet stN (unitL k prot ps).keepf ⟨false, -1, 0⟩).1 = 8 then _ else _ : Nat × USt).1, _, (slLoadX quiet stN (unitL k prot ps).keepf ⟨false, -1, 0⟩).2.2.2.2) = _
  simp only [show (bumpU (unitL k prot ps)).keepf = (unitL k prot ps).keepf from rfl, show (bumpU (unitL k prot ps)).sure = false from rfl, show (bumpU (unitL k prot ps)).at_ = -1 from rfl, show (bumpU (unitL k prot ps)).gen = 0 from rfl, e]
  rfl
theorem start_on {F : Int → Bool} {s : USt} {st : Wst} (h : s.on = 1) : startU F s st = (s.fault, s, st) := by unfold startU; rw [if_pos h]
/-- a REQUEST SENSE at a unit that runs, with nothing reserved -/
theorem ask_do {F : Int → Bool} {b0 : Nat} {s S : USt} {st st' : Wst} {r : Pu} (long : Bool) (al : UInt8) (hs : startU F (bumpU s) st = (0, S, st')) (ht : S.tab.kind = 0) : do16X F ((b0, s) :: r) st 0 n (askC long al) [] = (okX (askL (parseX (askC long al)).1 (S.q n)), (b0, toldU S n) :: r, st') := by
  obtain ⟨h1, h2, h3, h4⟩ := ask_parse long al
  have hh : headX S n (askC long al) = .run (parseX (askC long al)).1 := by
    unfold headX
    rw [h1, if_neg (by decide), h2]
    have hc : conflictT S.tab n (classX 2) = false := if_pos (.inl ht)
    have ha : altersX 2 = false := by decide
    rw [hc, ha, Bool.false_and, if_neg (by decide), if_neg (by decide)]
    cases peekX (S.q n) <;> rfl
  unfold do16X
  show (if (startU F (bumpU s) st).1 ≠ 0 then _ else _) = _
  rw [hs, if_neg (fun q => q rfl)]
  dsimp only
  rw [hh]
  show runX F ((b0, S) :: r) st' 0 n (parseX (askC long al)).1 [] = _
  unfold runX
  rw [if_neg (by omega)]
  show (if (parseX (askC long al)).1.kind = 4 then _ else _) = _
  rw [if_neg (by omega), if_neg (by omega)]
  have : runB F S st' n (parseX (askC long al)).1 [] = ⟨okX (askL (parseX (askC long al)).1 (S.q n)), toldU S n, st'⟩ := by
    unfold runB baseX
    rw [if_neg (by omega), if_neg (by omega), if_pos h2]
  rw [this]
  rfl
/-- what is told at first, and then -/
def tellS (k : Nat) : Sn := if k = 0 then plainS 6 10496 else plainS 0 0
theorem tellS_eq (k : Nat) : ∃ key code, tellS k = plainS key code ∧ key ≤ 15 ∧ code < 65536 := by
  unfold tellS
  split
  · exact ⟨6, 10496, rfl, by decide, by decide⟩
  · exact ⟨0, 0, rfl, by decide, by decide⟩
/-- the units behind some of them -/
def askA (b0 b1 n : Nat) (long : Bool) (al : UInt8) : Nat → Pu × Wst
  | 0 => (newP b0 b1 0, stN)
  | k + 1 => (do16X quiet (askA b0 b1 n long al k).1 (askA b0 b1 n long al k).2 0 n (askC long al) []).2
def askD (long : Bool) (al : UInt8) (k : Nat) : L8 := cutX (if long then (descX (tellS k)).1 else (fixedX (tellS k)).1) (al.toNat : Int)
theorem ask_1 (b0 b1 n : Nat) (long : Bool) (al : UInt8) : askA b0 b1 n long al 1 = ((b0, toldU { bumpU (unitL 0 0 [b1]) with q := onQ fun _ => [], sure := true, on := 1 } n) :: [(b1, unitL 1 0 [b0])], more stN 2) := by
  show (do16X quiet (newP b0 b1 0) stN 0 n (askC long al) []).2 = _
  rw [show newP b0 b1 0 = (b0, unitL 0 0 [b1]) :: [(b1, unitL 1 0 [b0])] from rfl, ask_do (F := quiet) (b0 := b0) (s := unitL 0 0 [b1]) (r := [(b1, unitL 1 0 [b0])]) (n := n) long al start_new rfl]
theorem ask_load {b0 b1 n k : Nat} {long : Bool} {al : UInt8} (hk : k < 2) {h : 0 < (askA b0 b1 n long al k).1.length} : (askA b0 b1 n long al k).1[0].2.on ≠ 1 → LoadP quiet { bumpU (askA b0 b1 n long al k).1[0].2 with lock := 1 } (askA b0 b1 n long al k).2 := by
  match k, hk with
  | 0, _ => exact fun _ => load_none (s := { bumpU (unitL 0 0 [b1]) with lock := 1 }) (st := stN) (show ldN stN.seen (unitL 0 0 [b1]).keepf 2 = _ from newU_ld rfl)
  | 1, _ =>
    revert h
    rw [ask_1]
    exact fun {_} q => absurd rfl q
theorem ask_res (b0 b1 : Nat) {n : Nat} (hn : n < 8) (long : Bool) (al : UInt8) {k : Nat} (hk : k < 2) : (do16X quiet (askA b0 b1 n long al k).1 (askA b0 b1 n long al k).2 0 n (askC long al) []).1 = okX (askD long al k) := by
  obtain ⟨h1, h2, h3, h4⟩ := ask_parse long al
  have h0 := ask_do (F := quiet) (b0 := b0) (s := unitL 0 0 [b1]) (r := [(b1, unitL 1 0 [b0])]) (n := n) long al start_new rfl
  have hq0 : onQ (fun _ => []) n = addA [] 10496 := if_pos hn
  match k, hk with
  | 0, _ =>
    show (do16X quiet (newP b0 b1 0) stN 0 n (askC long al) []).1 = _
    rw [show newP b0 b1 0 = (b0, unitL 0 0 [b1]) :: [(b1, unitL 1 0 [b0])] from rfl, h0]
    show okX (askL _ (onQ (fun _ => []) n)) = _
    rw [hq0]
    unfold askL askD waitS
    rw [peek_on, h3, h4]
    rfl
  | 1, _ =>
    rw [ask_1]
    have h9 := ask_do (F := quiet) (b0 := b0) (s := toldU { bumpU (unitL 0 0 [b1]) with q := onQ fun _ => [], sure := true, on := 1 } n) (st := more stN 2) (r := [(b1, unitL 1 0 [b0])]) (n := n) long al (start_on rfl) rfl
    rw [h9]
    have hq1 : (bumpU (toldU { bumpU (unitL 0 0 [b1]) with q := onQ fun _ => [], sure := true, on := 1 } n)).q n = [] := by
      show (if n = n then nextX (onQ (fun _ => []) n) else _) = []
      rw [if_pos rfl, hq0, next_on]
    show okX (askL _ ((bumpU (toldU { bumpU (unitL 0 0 [b1]) with q := onQ fun _ => [], sure := true, on := 1 } n)).q n)) = _
    rw [hq1]
    unfold askL askD
    rw [h3, h4]
    rfl
theorem cutX_nat (l : L8) (a : Nat) : cutX l (a : Int) = if a < l.length then l.take a else l := by
  unfold cutX
  split
  · congr 1; omega
  · exact List.take_of_length_le (by omega)
set_option maxHeartbeats 2000000 in
theorem unitSenses_spec {long : Bool} {al : UInt8} {nexus : Nat} {R : Bool → World → Prop} (hx : nexus < 256) (h : ∀ w', Grow w w' → R true w') : Cpalletlaw16_UnitSenses long (al.toNat : Int) (nexus : Int) w R := by
  refine Fpalletlaw16_UnitSenses.calls _ _ _ _ _ (awake16_spec fun w1 g1 => br_f rfl (world_new_spec fun pw D w2 g2 hW hD => ?_))
  obtain ⟨ℓ0, H0, hℓ0⟩ := Sys.world0 hW
  have old : ∀ b, b < w.heap.size → ℓ0 b = none := fun b hb => hℓ0 b fun q => by have := hD b q; have := g1.size; omega
  refine Tw.units (m := 0) H0 (g1.trans g2) old (by decide) (fun c hc => by cases hc) ⟨Nat.le_refl _, Nat.le_refl _⟩ (fun k _ => good_nil) fun w3 ℓ3 b0 b1 m3 T3 => ?_
  refine ⟨some ⟨b0, 0, none⟩, ⟨⟨by decide, by decide⟩, rfl⟩, by decide, ?_⟩
  have eal : (al.toNat : Int) < 256 := by have := al.toNat_lt; omega
  have en : (IntKind.wrap .i64 (nexus : Int)).tmod 8 = ((nexus % 8 : Nat) : Int) := by rw [w64 (by omega) (by omega)]; exact Int.ofNat_tmod nexus 8
  rw [en]
  have hn : nexus % 8 < 8 := Nat.mod_lt _ (by decide)
  generalize nexus % 8 = n at *
  have hl6 : (Instr.buildSlice t_sl_uint8 6 #[(0, .int .u8 3), (1, .int .u8 0), (2, .int .u8 0), (3, .int .u8 0), (4, .int .u8 (al.toNat : Int)), (5, .int .u8 0)]).run Tryz.prog w3 = .ok (.slice (some ⟨w3.heap.size, 0, none⟩) 6 6) (w3.alloc (.cells (bv [3, 0, 0, 0, al, 0]).toArray t_uint8)) := by kernel_rfl
  refine lit_rule (cells := (bv [3, 0, 0, 0, al, 0]).toArray) (e := t_uint8) (z := 1) (base := w.heap.size) hl6 rfl (by decide) T3.grow.size fun w4 o4 g4 _ => ?_
  have T4 := T3.go g4
  have s34 := g4.size
  have o4 : CF.Own w4 w.heap.size t_uint8 1 ⟨some ⟨w3.heap.size, 0, none⟩, 6, 6⟩ (bv [3, 0, 0, 0, al, 0]) := o4
  have no4 : ∀ b, (⟨some ⟨w3.heap.size, 0, none⟩, 6, 6⟩ : Sl).blk = some b → ℓ3 b = none := fun b hb => T3.fresh (by have : b = w3.heap.size := by simpa [Sl.blk] using hb.symm
                                                                                                                     omega)
  generalize hX : (⟨some ⟨w3.heap.size, 0, none⟩, 6, 6⟩ : Sl) = X at *
  have hXn : X.n = 6 := by rw [← hX]
  have hXA : X.A.isSome = true := by rw [← hX]; rfl
  refine letX0 (fun y => Tw w y ℓ3 pw quiet (newP b0 b1 0) stN 0 ∧ LR y ℓ3 w.heap.size t_uint8 1 X (bv (askC long al))) ?_ (fun J => ?_)
  rotate_left
  · cases long with
    | false => exact br_f rfl (J w4 ⟨T4, o4, no4⟩)
    | true =>
      refine br_t rfl ⟨⟨by decide, by rw [hXn]; decide, hXA⟩, ?_⟩
      refine own_put (i := 1) o4 (by rw [hXn]; decide) rfl fun y oy ky _ => J y ⟨?_, oy, no4⟩
      refine T3.go (g4.keep ky fun b hb q => ?_)
      rw [← hX] at q
      have : b = w3.heap.size := by simpa [Sl.blk] using q
      omega
  intro y hy
  obtain ⟨Ty, rX⟩ := hy
  clear o4 no4 hl6 hX hXA
  refine new_rule fun sb z1 hsb hb1 hg1 hs1 => storeVar_rule (cells := (snv (plainS 6 10496)).toArray) hb1 i_api_Sense rfl rfl (by simp [snv, plainS, Value.oneCell']) fun z2 hb2 hk2 hs2 => ?_
  have gy2 : Grow y z2 := hg1.keep hk2 fun b hb q => by omega
  have T2 := Ty.go gy2
  have nsb : ℓ3 sb = none := Ty.fresh (by omega)
  have szw := Ty.grow.size
  refine ⟨fun x v => ∃ (k : Nat) (ℓ' : Nat → Option Nat), x = k ∧ k ≤ 2 ∧ Tw w v ℓ' pw quiet (askA b0 b1 n long al k).1 (askA b0 b1 n long al k).2 (200002 * k) ∧ LR v ℓ' w.heap.size t_uint8 1 X (bv (askC long al)) ∧ LB v ℓ' sb (snv (tellS k)).toArray t_api_Sense ∧ (askA b0 b1 n long al k).1.length = 2 ∧ (∀ h : 0 < (askA b0 b1 n long al k).1.length, (askA b0 b1 n long al k).1[0].1 = b0), fun x _ => 2 - x.toNat,
    ⟨0, ℓ3, rfl, by decide, T2, rX.go gy2, ⟨hb2, nsb⟩, rfl, fun _ => rfl⟩, ?_⟩
  rintro x v ⟨k, ℓ', rfl, hk, Tv, rXv, bS, hlen, hb0⟩
  refine br_nat (y := 2) (fun hlt => ?_) (fun hge => ?_)
  rotate_left
  · refine decode_nil fun v2 gv2 => new_rule fun eb v3 heb hb3 hg3 hs3 => storeVar_rule (cells := (snv sn0).toArray) hb3 i_api_Sense rfl rfl (by simp [snv, sn0, Value.oneCell']) fun v4 hb4 hk4 hs4 => ?_
    exact h v4 ((Tv.grow.trans gv2).trans (hg3.keep hk4 fun b hb q => by omega))
  obtain ⟨key, code, etell, hkey, hcode⟩ := tellS_eq k
  have hres := ask_res b0 b1 hn long al hlt
  refine letX0 (fun v' => ∃ ℓ2, Tw w v' ℓ2 pw quiet (askA b0 b1 n long al (k + 1)).1 (askA b0 b1 n long al (k + 1)).2 (200002 * (k + 1)) ∧ LR v' ℓ2 w.heap.size t_uint8 1 X (bv (askC long al)) ∧ LB v' ℓ2 sb (snv (tellS (k + 1))).toArray t_api_Sense ∧ (askA b0 b1 n long al (k + 1)).1.length = 2 ∧ (∀ h : 0 < (askA b0 b1 n long al (k + 1)).1.length, (askA b0 b1 n long al (k + 1)).1[0].1 = b0)) ?_ (fun J => ?_)
  · rintro v' ⟨ℓ2, q⟩
    rw [w64 (by omega) (by omega)]
    exact ⟨⟨k + 1, ℓ2, by omega, by omega, q⟩, by dsimp only; omega⟩
  have hS := bS.blk
  rw [etell] at hS
  refine ⟨_, sLoad (blk_cells hS), rfixed6_spec hkey hcode fun xs1 v1 gv1 o1 => ?_⟩
  refine letX1 (fun want o => Grow v o ∧ CF.Own o v.heap.size t_uint8 1 want (bv (if long then (descX (tellS k)).1 else (fixedX (tellS k)).1))) ?_ (fun J2 => ?_)
  rotate_left
  · cases long with
    | false => rw [if_neg (by decide)] at J2; rw [etell] at J2; exact br_f rfl (J2 xs1 v1 ⟨gv1, o1⟩)
    | true =>
      rw [if_pos rfl] at J2
      rw [etell] at J2
      exact br_t rfl ⟨_, sLoad (blk_cells (gv1.heap hS (fun q => q))), rdesc6_spec hkey hcode fun xs3 v2 gv2 o2 => J2 xs3 v2 ⟨gv1.trans gv2, o2.mono gv1.size⟩⟩
  intro want o hwo
  obtain ⟨go, ow⟩ := hwo
  have hll : (if long then (descX (tellS k)).1 else (fixedX (tellS k)).1).length ≤ 40 := by
    have := descX_len (tellS k); have := fixedX_len (tellS k); split <;> omega
  have wn := own_n ow
  have To := Tv.go go
  have nw : ∀ b, want.blk = some b → ℓ' b = none := fun b hb => Tv.fresh (ow.ge b hb).1
  have ecut := cutX_nat (if long then (descX (tellS k)).1 else (fixedX (tellS k)).1) al.toNat
  refine letX1 (fun want1 o1 => o1 = o ∧ CF.Own o v.heap.size t_uint8 1 want1 (bv (askD long al k)) ∧ ∀ b, want1.blk = some b → want.blk = some b) ?_ (fun J3 => ?_)
  rotate_left
  · rw [w64 (by omega) (by omega)]
    refine br_dec (fun q => ?_) (fun q => ?_)
    · refine ⟨⟨by decide, by omega, by have := (ow.rd (by omega)).cap; omega, (ow.rd (by omega)).cap⟩, J3 _ _ ⟨rfl, ?_, ?_⟩⟩
      · have := own_prefix ow (k := al.toNat) (by omega)
        have e : askD long al k = ((if long then (descX (tellS k)).1 else (fixedX (tellS k)).1)).take al.toNat := by unfold askD; rw [ecut, if_pos (by omega)]
        rw [e]
        rw [Nat.mul_one, bv_take] at this
        exact this
      · intro b hb
        unfold Sl.blk cutA at hb
        dsimp only at hb
        by_cases qc : want.c = 0
        · rw [if_pos qc] at hb; exact hb
        · rw [if_neg qc] at hb
          show want.A.map (fun x : Addr => x.block) = some b
          cases hA : want.A with
          | none => rw [hA] at hb; cases hb
          | some v0 => rw [hA] at hb; exact hb
    · refine J3 want o ⟨rfl, ?_, fun b hb => hb⟩
      have e : askD long al k = (if long then (descX (tellS k)).1 else (fixedX (tellS k)).1) := by unfold askD; rw [ecut, if_neg (by omega)]
      rw [e]; exact ow
  intro want1 o1 hw1
  obtain ⟨e1, ow1, ebk⟩ := hw1
  rw [e1]
  have rW : LR o ℓ' v.heap.size t_uint8 1 want1 (bv (askD long al k)) := ⟨ow1, fun b hb => nw b (ebk b hb)⟩
  have hpos : 0 < (askA b0 b1 n long al k).1.length := by omega
  have rXo := rXv.go go
  have hXr := To.row (w0 := w) rXo (by show 6 ≤ _; decide)
  have eb0 : (some (⟨b0, 0, none⟩ : Addr)) = some ⟨((askA b0 b1 n long al k).1[0]).1, 0, none⟩ := by rw [hb0 hpos]
  rw [eb0]
  refine To.dos (ask_load hlt) (fun c _ hc => by rw [head_run hc, (ask_parse long al).2.1]; exact runN_base (by decide) (by decide) (by decide) baseN_ask) (by omega) hpos rfl hn hXr To.rowNil (by decide) fun v' ℓ2 d mv T' dt hl' hk' => ?_
  rw [hres] at dt ⊢
  refine res_new fun rb v3 hrb g3 hbr => ?_
  have dn := own_n dt.1
  have rW3 := (rW.mv mv).go g3
  have w1n := own_n rW3.own
  have dd3 := dt.1.grow g3
  have hdl : (askD long al k).length ≤ 40 := by
    unfold askD
    rw [ecut]
    by_cases q : al.toNat < (if long then (descX (tellS k)).1 else (fixedX (tellS k)).1).length
    · rw [if_pos q, List.length_take]; omega
    · rw [if_neg q]; exact hll
  refine ⟨0, by rw [add0, Blk.cell hbr]; rfl, d, fun _ => by rw [add0, Blk.cell hbr]; rfl, str (askD long al k), fun _ => convStr_rule u_sl_uint8 u_uint8 u_string (dd3.rd (by have : (okX (askD long al k)).d = askD long al k := rfl; rw [this] at dn; omega)), str (askD long al k), fun _ => convStr_rule u_sl_uint8 u_uint8 u_string (rW3.own.rd (by omega)), ?_⟩
  have eq0 : (((0 : Int) != 0) || !sEq (str (askD long al k)) (str (askD long al k))) = false := by
    have : sEq (str (askD long al k)) (str (askD long al k)) = true := sEq_iff.2 rfl
    rw [this]; rfl
  rw [eq0]
  have bS3 := ((bS.go go).mv mv).go g3
  refine br_f rfl (storeVar_rule (cells := (snv (plainS 0 0)).toArray) bS3.blk i_api_Sense rfl rfl (by simp [snv, plainS, Value.oneCell']) fun v4 hb4 hk4 hs4 => J v4 ⟨ℓ2, ?_, ?_, ⟨hb4, bS3.no⟩, ?_, ?_⟩)
  · obtain ⟨us, q1, q2, q3⟩ := (T'.go g3).ex
    exact ⟨⟨us, q1.local1 bS3.blk bS3.no hk4 (rowT_not (by decide) (by decide) (by decide)) (by decide), q2.mono (by omega), q3⟩, (T'.go g3).grow.keep hk4 fun b hb q => by omega, T'.old, T'.peers, fun x hx => by have := T'.count x hx; omega⟩
  · have := (rXo.mv mv).go g3
    exact ⟨this.own.keep hk4 fun b hb q => own_ne this.own bS3.blk (by decide) (by rw [hb, q]), this.no⟩
  · exact hl'.trans hlen
  · intro h0
    obtain ⟨q1, _⟩ := hk' 0 hpos h0
    exact q1.trans (hb0 hpos)
theorem unitSenses_row {long : Bool} {alloc nexus : Int} {R : Bool → World → Prop} (ha : (Lit.int .u8 alloc).wf = true) (hx : (Lit.int .u8 nexus).wf = true) (h : ∀ w', Grow w w' → R true w') : Cpalletlaw16_UnitSenses long alloc nexus w R := by
  obtain ⟨k, rfl, hk⟩ := int_u8n ha
  obtain ⟨x, rfl, hx2⟩ := int_u8n hx
  have e : (k : Int) = (((UInt8.ofNat k).toNat : Nat) : Int) := by rw [← wrap_u8, wu8 (by omega) (by omega)]
  rw [e]
  exact unitSenses_spec hx2 h
end
end Go.Proofs.YtpmebahhjgkflaaGreatDoor
