import Derived.Test.YtpmebahhjgkflaaGreatDoorB13
/- Layer 16: what a unit keeps, as a function: save. -/
namespace Go.Proofs.YtpmebahhjgkflaaGreatDoor
open Go CF
set_option maxRecDepth 100000
/-- pages as a byte, and back -/
def valP (v : Vals) (j : Nat) : Nat := (if v.wce = true ∧ 0 < j then 1 else 0) + (if v.ds = true ∧ 1 < j then 2 else 0) + (if v.swp = true ∧ 2 < j then 4 else 0)
def valB (v : Vals) : Nat := valP v 3
def valsOf (n : Nat) : Vals := ⟨decide (n % 2 = 1), decide (n / 2 % 2 = 1), decide (n / 4 % 2 = 1)⟩
theorem valB_le (v : Vals) : valB v ≤ 7 := by unfold valB valP; split <;> split <;> split <;> decide
/-- what a unit keeps -/
def payL (s : USt) : L8 := UInt8.ofNat (valB s.saved) :: saveT s.tab
/-- it is kept: did it go well? -/
def saveU (F : Int → Bool) (s : USt) (st : Wst) : Bool × USt × Wst :=
  (decide ((slSaveX F st s.keepf ⟨s.sure, s.at_, s.gen⟩ (payL s)).1 = 0),
   { s with sure := (slSaveX F st s.keepf ⟨s.sure, s.at_, s.gen⟩ (payL s)).2.1.sure, at_ := (slSaveX F st s.keepf ⟨s.sure, s.at_, s.gen⟩ (payL s)).2.1.at_, gen := (slSaveX F st s.keepf ⟨s.sure, s.at_, s.gen⟩ (payL s)).2.1.gen },
   (slSaveX F st s.keepf ⟨s.sure, s.at_, s.gen⟩ (payL s)).2.2)
/-- a world behind some calls on a keeper's files -/
structure Near (st st' : Wst) (file : ByteArray) (k : Nat) : Prop where
  ops : st'.ops ≤ st.ops + k
  waits : st'.waits.length ≤ st.waits.length + k
  ok : Wok st → Wok st'
  seen : ∀ f, (∀ i, i < 2 → f ≠ nmS file i) → st'.seen f = st.seen f
theorem Near.refl (st : Wst) (file : ByteArray) : Near st st file 0 := ⟨Nat.le_refl _, Nat.le_refl _, id, fun _ _ => rfl⟩
theorem Near.trans {a b c : Wst} {file : ByteArray} {j k : Nat} (h : Near a b file j) (g : Near b c file k) : Near a c file (j + k) := ⟨by have := h.ops; have := g.ops; omega, by have := h.waits; have := g.waits; omega, fun q => g.ok (h.ok q), fun f hf => (g.seen f hf).trans (h.seen f hf)⟩
theorem Near.le {a b : Wst} {file : ByteArray} {j k : Nat} (h : Near a b file j) (hk : j ≤ k) : Near a b file k := ⟨by have := h.ops; omega, by have := h.waits; omega, h.ok, h.seen⟩
theorem near_more (st : Wst) (file : ByteArray) (k : Nat) : Near st (more st k) file k := ⟨Nat.le_refl _, by show st.waits.length ≤ _; omega, id, fun _ _ => rfl⟩
theorem near_synced (st : Wst) (file : ByteArray) : Near st (synced st) file 1 := ⟨Nat.le_refl _, Nat.zero_le _, fun _ c hc => (by cases hc), fun _ _ => rfl⟩
theorem near_step {st : Wst} {file : ByteArray} {i : Nat} {r : L8} (hi : i < 2) (hr : r.length ≤ 1048576) : Near st (stepW st (nmS file i) 0 r) file 1 := by
  refine ⟨Nat.le_refl _, by simp [stepW], fun q c hc => ?_, fun f hf => ?_⟩
  · rcases List.mem_append.1 hc with q2 | q2
    · exact q c q2
    · rw [List.mem_singleton.1 q2]
      exact ⟨rfl, by show 0 + r.length ≤ _; omega⟩
  · show applyWr st.seen (nmS file i) 0 r f = _
    unfold applyWr setF
    rw [if_neg (hf i hi)]
theorem toS_lt (x : Int) : toS x < 2 := by unfold toS; split <;> decide
theorem ffail_le {F : Int → Bool} {b n k : Nat} (h : ffail F b n = some k) : k < n := by
  unfold ffail at h
  have := List.mem_of_find?_eq_some h
  exact List.mem_range.1 this
theorem near_load {F : Int → Bool} {st : Wst} {file : ByteArray} {x : SlX} : Near st (slLoadX F st file x).2.2.2.2 file 2 := by
  unfold slLoadX
  cases h : ffail F st.ops 2 with
  | some k => exact (near_more st file (k + 1)).le (by have := ffail_le h; omega)
  | none => exact near_more st file 2
theorem near_write {F : Int → Bool} {st : Wst} {file : ByteArray} {x : SlX} {l : L8} (hl : l.length ≤ 4096) : Near st (slWriteX F st file x l).2.2 file 2 := by
  unfold slWriteX
  have hr := recS_len (gen1 x.gen) l
  split
  · exact (near_more st file 1).le (by decide)
  · split
    · exact (near_step (toS_lt _) (by omega)).trans (near_more _ file 1)
    · exact (near_step (toS_lt _) (by omega)).trans (near_synced _ file)
theorem near_save {F : Int → Bool} {st : Wst} {file : ByteArray} {x : SlX} {l : L8} (hl : l.length ≤ 4096) : Near st (slSaveX F st file x l).2.2 file 4 := by
  unfold slSaveX
  split
  · exact (near_write hl).le (by decide)
  split
  · exact near_load.le (by decide)
  · exact near_load.trans (near_write hl)
theorem SOk.near {st st' : Wst} {us : List (UA × USt)} {m k : Nat} {file : ByteArray} (h : SOk st us m) (n : Near st st' file k) : SOk st' us (m + k) := by
  refine ⟨n.ok h.wok, ⟨by have := n.ops; have := h.few; omega, by have := n.waits; have := h.few; omega⟩, fun x hx => ?_⟩
  have ok := h.units x hx
  obtain ⟨b, _, _, e, _⟩ := ok.name
  refine ok.same ?_ rfl rfl rfl rfl rfl rfl
  have : cont st' x.2.file = cont st x.2.file := cont_seen (n.seen _ fun i hi q => by rw [e] at q; exact nmS_ne_file hi q.symm)
  rw [this]; exact ok.good
section
variable {w u v w3 : World} {S D D' : Nat → Prop} {pw i m n ab : Nat} {a : UA} {s : USt} {st st' : Wst} {F F' : Int → Bool} {ℓ ℓ' ℓ1 : Nat → Option Nat} {us : List (UA × USt)}
theorem bytes_specU {x : Vals} {R : Int → World → Prop} (hR : ∀ w', Grow w w' → R ((valB x : Nat) : Int) w') : Cunit_bytes (vlv x).toArray w R := by
  refine Funit_bytes.calls _ _ _ (new_rule fun vb w1 hvb hb1 hg1 hs1 => ?_)
  have hb1 : Blk w1 vb (vlv x).toArray t_mode_Values := hb1
  refine ⟨x.wce, v_cell hb1 rfl, x.ds, v_cell hb1 rfl, x.swp, v_cell hb1 rfl, ?_⟩
  refine lit_rule (cells := #[.bool x.wce, .bool x.ds, .bool x.swp]) (e := t_bool) (z := 1) (base := w1.heap.size) (by kernel_rfl) rfl (by decide) (Nat.le_refl _) fun w2 o2 g2 _ => ?_
  have r2 : Rd w2 1 ⟨some ⟨w1.heap.size, 0, none⟩, 3, 3⟩ [.bool x.wce, .bool x.ds, .bool x.swp] := o2.rd (by dsimp only; decide)
  refine ⟨fun b y v => ∃ j : Nat, y = j ∧ j ≤ 3 ∧ b = ((valP x j : Nat) : Int) ∧ Grow w2 v, fun _ y _ => 3 - y.toNat, ⟨0, rfl, by decide, by unfold valP; simp, Keep.refl _ _⟩, ?_⟩
  rintro b y v ⟨j, rfl, hj, rfl, hg⟩
  refine br_nat (y := 3) (fun hlt => ?_) (fun hge => ?_)
  · refine letX1 (fun b' v' => v' = v ∧ b' = ((valP x (j + 1) : Nat) : Int)) ?_ (fun J => ?_)
    · rintro b' v' ⟨rfl, rfl⟩
      rw [w64 (by omega) (by omega)]
      exact ⟨⟨j + 1, by omega, by omega, rfl, hg⟩, by dsimp only; omega⟩
    · have hv := (r2.grow hg).elem (i := j) (by dsimp only; omega) (by decide)
      obtain ⟨aa, ha, hc⟩ := hv
      refine ⟨⟨by omega, by dsimp only; omega, rfl⟩, ([x.wce, x.ds, x.swp] : List Bool)[j]'(by simpa using hlt), ?_, ?_⟩
      · obtain ⟨_, h2⟩ := rd_val (r2.grow hg) (i := j) (by simpa using hlt)
        rw [Int.toNat_natCast, h2]
        have : ∀ j : Fin 3, ([Value.bool x.wce, .bool x.ds, .bool x.swp] : List Value)[j.val]'(j.isLt) = .bool (([x.wce, x.ds, x.swp] : List Bool)[j.val]'(j.isLt)) := by
          intro j
          match j with
          | ⟨0, _⟩ => rfl
          | ⟨1, _⟩ => rfl
          | ⟨2, _⟩ => rfl
        exact congrArg some (this ⟨j, hlt⟩)
      · have key : ∀ (x : Vals) (j : Fin 3), (([x.wce, x.ds, x.swp] : List Bool)[j.val]'(j.isLt) = true → bOr .u8 ((valP x j.val : Nat) : Int) (bShl .u8 1 ((j.val : Nat) : Int).toNat) = ((valP x (j.val + 1) : Nat) : Int)) ∧ (([x.wce, x.ds, x.swp] : List Bool)[j.val]'(j.isLt) = false → valP x j.val = valP x (j.val + 1)) := by
          rintro ⟨a, b, c⟩ j
          revert j
          cases a <;> cases b <;> cases c <;> decide +kernel
        obtain ⟨k1, k2⟩ := key x ⟨j, hlt⟩
        cases hx : ([x.wce, x.ds, x.swp] : List Bool)[j]'(by simpa using hlt) with
        | true => exact br_t rfl ⟨by omega, J _ v ⟨rfl, k1 hx⟩⟩
        | false => exact br_f rfl (J _ v ⟨rfl, congrArg _ (k2 hx)⟩)
  · have : j = 3 := by omega
    subst this
    exact hR v ((hg1.trans g2).trans hg)
theorem setCache_any {ps : Nat} {file : ByteArray} {nb : Nat} {cache on : Bool} {R : World → Prop} (hS : IsS w ps pw file nb cache) (h : ∀ u, Keep (fun k => k = ps) w u → IsS u ps pw file nb on → R u) : Cstore_Store_SetCache (some ⟨ps, 0, none⟩) on w R := by
  refine Fstore_Store_SetCache.calls _ _ _ _ (br_t rfl ⟨rfl, ?_⟩)
  rw [gA, add0]
  exact put_rule hS (by show 3 < 4; decide) rfl fun u hb hk _ => h u hk hb
theorem payL_len {s : USt} (ok : TabOk s.tab) : (payL s).length ≤ 78 := by
  have := saveT_len ok
  unfold payL
  rw [List.length_cons]; omega
/-- within the units: one is kept -/
theorem save_core {R : Int → Int → World → Prop} {p : Sl} (H : Sys w ℓ pw st F us) (K : SOk st us m) (hm : m ≤ 500000000) (hi : i < us.length) (he : us[i] = (a, s)) (hp : ∀ u, Mv w u ℓ ℓ → Rd u 1 p (bv (payL s)))
    (hR : ∀ u ℓ' g, Mv w u ℓ ℓ' → Sys u ℓ' pw (saveU F s st).2.2 F (us.set i (a, (saveU F s st).2.1)) → SOk (saveU F s st).2.2 (us.set i (a, (saveU F s st).2.1)) (m + 4) → R g (((slSaveX F st s.keepf ⟨s.sure, s.at_, s.gen⟩ (payL s)).1 : Nat) : Int) u) : Cslots_Slots_Save (some ⟨a.sl, 0, none⟩) p w R := by
  obtain ⟨hU, hown⟩ := H.at hi he
  obtain ⟨z1, z2, z3, z4, z5, z6, z7⟩ := set7 a
  obtain ⟨D, hW, hD⟩ := H.W
  have own : ∀ {b}, a.set b → ℓ b ≠ none := fun hb => by rw [hown _ hb]; exact Option.some_ne_none _
  have KU := K.at hi he
  have e1 : us[i].1 = a := by rw [he]
  have pl := payL_len hU.tab.ok
  refine slots_save_any (x := ⟨s.sure, s.at_, s.gen⟩) hU.slots (fun q => by have := hD _ q; rw [hown _ z4] at this; injection this with this; omega) hW K.wok KU.sizes.2 (by have := K.few; omega) (by have := K.few; omega) (l := payL s) (by omega) (fun u k => hp u ⟨k.mono fun b _ q => ?_, fun _ _ => rfl⟩) fun u D' g hku hWu hD' hSu => ?_
  · rcases q with q | q
    · rw [hD b q]; exact Option.some_ne_none _
    · rw [q]; exact own z4
  · have hs := H.all (a' := a) (s' := (saveU F s st).2.1) hi hD hku (fun b _ q => by
        rcases q with q | q
        · exact .inl q
        · refine .inr ?_
          rw [e1, q]; exact z4) hWu hD' (fun b hb => .inl (by rw [e1]; exact hb)) (fun b hb q r => by have := hU.lt r; omega) (fun N' hN' => ?_)
    · obtain ⟨ℓ', mv, Hu⟩ := hs
      refine hR u ℓ' g mv Hu ?_
      refine SOk.put (x := (a, (saveU F s st).2.1)) (K.near (near_save (by omega))) ?_
      have := (K.near (near_save (F := F) (st := st) (file := s.keepf) (x := ⟨s.sure, s.at_, s.gen⟩) (l := payL s) (by omega))).at hi he
      exact this.same this.good rfl rfl rfl rfl rfl rfl
    · refine hU.slot hku (Safe.sub fun b _ q => ?_) (fun b hb hne q => ?_) (fun b hb => ?_) hSu
      · rcases q with q | q
        · rw [hD b q]; exact Option.some_ne_none _
        · rw [q]; exact own z4
      · rcases q with q | q
        · have := hD b q
          rw [hown b hb] at this
          injection this with this
          omega
        · exact hne q
      · rcases hN' b hb with q | q
        · exact .inl q
        · exact .inr q.1
theorem save_fun {R : Bool → World → Prop} (H : Sys w ℓ pw st F us) (K : SOk st us m) (hm : m ≤ 500000000) (hi : i < us.length) (he : us[i] = (a, s))
    (hR : ∀ u ℓ', Mv w u ℓ ℓ' → Sys u ℓ' pw (saveU F s st).2.2 F (us.set i (a, (saveU F s st).2.1)) → SOk (saveU F s st).2.2 (us.set i (a, (saveU F s st).2.1)) (m + 4) → R (saveU F s st).1 u) : Cunit_Unit_save (some ⟨a.ub, 0, none⟩) w R := by
  refine Funit_Unit_save.calls _ _ _ ?_
  rintro w1 rfl
  have g1 := keep_drew w
  generalize w.drew = w1 at *
  have cl : ∀ {v : World} {o : Nat} {x : Value}, Grow w v → (∀ P, (ucells a P s)[o]? = some x) → v.cell? ((gA (some (⟨a.ub, 0, none⟩ : Addr))).add o) = some x := fun g e => (((H.grow g).at hi he).1).cellU e
  have T : ∀ {v : World}, Grow w v → IsU v (fun k => ℓ k ≠ none) pw a s := fun g => ((H.grow g).at hi he).1
  refine ⟨fun v => Grow w v, g1, rfl, some ⟨a.sl, 0, none⟩, fun v q => cl q fun P => rfl, rfl, some ⟨a.pg, 0, none⟩, fun v q => cl q fun P => rfl, rfl, some ⟨a.tb, 0, none⟩, fun v q => cl q fun P => rfl, ?_⟩
  refine saved_spec (T g1).pages fun w2 g2 => ⟨g1.trans g2, bytes_specU fun w3 g3 => ?_⟩
  have g13 := (g1.trans g2).trans g3
  refine ⟨g13, ?_⟩
  have vb := valB_le s.saved
  have ev : ((valB s.saved : Nat) : Int) = (((UInt8.ofNat (valB s.saved)).toNat : Nat) : Int) := by rw [← wrap_u8, wu8 (by omega) (by omega)]
  have hl1 : ∀ z : World, (Instr.buildSlice t_sl_uint8 1 #[(0, .int .u8 ((valB s.saved : Nat) : Int))]).run Tryz.prog z = .ok (.slice (some ⟨z.heap.size, 0, none⟩) 1 1) (z.alloc (.cells (bv [UInt8.ofNat (valB s.saved)]).toArray t_uint8)) := fun z => by
    rw [ev]; kernel_rfl
  have hE : payL s = [UInt8.ofNat (valB s.saved)] ++ saveT s.tab := rfl
  have sl := saveT_len (T g1).tab.ok
  have fin : ∀ {p : Sl} {y : World}, Grow w y → Own y w.heap.size t_uint8 1 p (bv (payL s)) → Cslots_Slots_Save (some ⟨a.sl, 0, none⟩) p y fun _ n2 z => R (n2 == 0) z := fun {p y} gy o => by
    have pl := payL_len (T g1).tab.ok
    have pn := own_n o
    refine save_core (H.grow gy) K hm hi he (fun u mv => (o.keep mv.keep fun b hb q => q (H.fresh (o.ge b hb).1)).rd (by omega)) fun u ℓ' g mv Hu Ku => ?_
    have := hR u ℓ' ((Mv.grow gy).trans mv) Hu Ku
    have e : (((((slSaveX F st s.keepf ⟨s.sure, s.at_, s.gen⟩ (payL s)).1 : Nat) : Int) == 0) : Bool) = (saveU F s st).1 := by
      show _ = decide _
      rw [Bool.eq_iff_iff, beq_iff_eq, decide_eq_true_eq]; omega
    rw [e]; exact this
  have s13 := g13.size
  refine ⟨?_, ?_⟩
  · refine Row.start (hl1 w3) rfl (by show 1 ≤ _; decide) fun p4 w4 r4 => ⟨g13.trans r4.grow, save_specT (T (g13.trans r4.grow)).tab fun x5 w5 g5 o5 => ⟨(g13.trans r4.grow).trans g5, ?_⟩⟩
    have n5 := own_n o5
    refine (r4.go g5).app (o5.rd (by omega)) (by simp; omega) fun p6 w6 r6 k6 => ⟨g13.trans r6.grow, fin (g13.trans r6.grow) ?_⟩
    rw [hE]; exact r6.own.mono s13
  · refine save_specT (T g13).tab fun x4 w4 g4 o4 => ⟨g13.trans g4, ?_⟩
    have n4 := own_n o4
    refine Row.start (hl1 w4) rfl (by show 1 ≤ _; decide) fun p5 w5 r5 => ⟨(g13.trans g4).trans r5.grow, ?_⟩
    refine r5.app ((o4.grow r5.grow).rd (by omega)) (by simp; omega) fun p6 w6 r6 k6 => ⟨(g13.trans g4).trans r6.grow, fin ((g13.trans g4).trans r6.grow) ?_⟩
    rw [hE]; exact r6.own.mono (g13.trans g4).size
end
end Go.Proofs.YtpmebahhjgkflaaGreatDoor

/- Layer 16: MODE SELECT, as a function. -/
namespace Go.Proofs.YtpmebahhjgkflaaGreatDoor
open Go CF
set_option maxRecDepth 100000
/-- the pages are laid -/
def pagU (s : USt) (n' s' : Vals) : USt := { s with now := n', saved := s', cache := n'.wce }
/-- all but one are told -/
def tellU (s : USt) (n code : Nat) : USt := { s with q := fun j => if (j : Int) ≠ (n : Int) ∧ j < 8 then addA (s.q j) code else s.q j }
/-- kept, if that is asked for -/
def keepX (F : Int → Bool) (b : Bool) (s : USt) (st : Wst) : RunX := if b = true then ⟨if (saveU F s st).1 = true then okX [] else snX wfS, (saveU F s st).2.1, (saveU F s st).2.2⟩ else ⟨okX [], s, st⟩
def selX (F : Int → Bool) (s : USt) (st : Wst) (n : Nat) (c : Cm) (l : L8) : RunX :=
  if (l.length : Int) ≠ c.alloc then ⟨snX (badS 0x1a00), s, st⟩
  else match mselX s.now s.saved c l with
    | .error e => ⟨snX e, s, st⟩
    | .ok (b, n', s') => keepX F (c.save && decide (l ≠ [])) (if b = true then tellU (pagU s n' s') n 10753 else pagU s n' s') st
section
variable {w u v z w3 : World} {S D D' : Nat → Prop} {pw i m n ab cb : Nat} {a : UA} {s : USt} {st st' : Wst} {F F' : Int → Bool} {ℓ ℓ' ℓ1 ℓ2 : Nat → Option Nat} {us : List (UA × USt)} {X : RunX} {R : Array Value → World → Prop} {out : Sl} {l : L8} {c : Cm}
/-- a call's command and the place of its result -/
structure Cal (w v : World) (ℓ ℓ' : Nat → Option Nat) (cb ab : Nat) (c : Cm) : Prop where
  mv : Mv w v ℓ ℓ'
  cmd : Blk v cb (cmv c).toArray t_api_Cmd
  res : Blk v ab z10 t_api_Result
  ncb : ℓ' cb = none
  nab : ℓ' ab = none
theorem Cal.go (h : Cal w v ℓ ℓ' cb ab c) (g : Grow v z) : Cal w z ℓ ℓ' cb ab c := ⟨h.mv.go g, g.heap h.cmd (fun q => q), g.heap h.res (fun q => q), h.ncb, h.nab⟩
theorem Cal.step (h : Cal w v ℓ ℓ' cb ab c) (g : Mv v z ℓ' ℓ2) : Cal w z ℓ ℓ2 cb ab c := ⟨h.mv.trans g, g.heap h.cmd h.ncb, g.heap h.res h.nab, by rw [g.lab _ (lt_of_heap h.cmd)]; exact h.ncb, by rw [g.lab _ (lt_of_heap h.res)]; exact h.nab⟩
theorem Cal.cell (h : Cal w v ℓ ℓ' cb ab c) {o : Nat} {x : Value} (e : (cmv c).toArray[o]? = some x) : v.cell? ((⟨cb, 0, none⟩ : Addr).add o) = some x := by rw [add0, Blk.cell h.cmd, Nat.zero_add]; exact e
theorem Cal.load (h : Cal w v ℓ ℓ' cb ab c) : (loadVar t_api_Cmd ⟨cb, 0, none⟩).run Tryz.prog v = .ok (.agg (cmv c).toArray) v := cLoad (blk_cells h.cmd)
/-- a call begins -/
theorem Cal.start {K : Addr → Addr → World → Prop} (H : Sys w ℓ pw st F us) (h : ∀ cb ab v, Grow w v → w.heap.size ≤ cb → w.heap.size ≤ ab → Cal w v ℓ ℓ cb ab c → K ⟨cb, 0, none⟩ ⟨ab, 0, none⟩ v) :
    New (.cells (cmv c).toArray t_api_Cmd) w fun c1 w0 => New (.cells #[.int .u8 0, .int .u8 0, .int .u16 0, .int .u64 0, .bool false, .int .i64 0, .int .i64 0, .bool false, .bool false, .slice none 0 0] t_api_Result) w0 fun a w01 => K c1 a w01 :=
  new_rule fun cb w1 hcb hb1 hg1 hs1 => new_rule fun ab w2 hab hb2 hg2 hs2 => by
    have s1 := hg1.size
    refine h cb ab w2 (hg1.trans hg2) (by omega) (by omega) ⟨Mv.grow (hg1.trans hg2), hg2.heap hb1 (fun q => q), hb2, H.fresh (by omega), H.fresh (by omega)⟩
theorem Cal.fin (h : Cal w v ℓ ℓ' cb ab c) (hab : w.heap.size ≤ ab) (hR : UOut w ℓ pw F us i a m X R) (H : Sys v ℓ' pw X.w F (us.set i (a, X.s))) (K : SOk X.w (us.set i (a, X.s)) (m + 200000)) (hd : X.x.d = []) : Hand ab R (rsv X.x.st X.x.sn nilS).toArray v :=
  hR.ret h.mv H K (by rw [hd]; exact Dat.nil _ _ _) hab h.nab h.res
/-- kept, if that is asked for; and the end -/
theorem keep_fun {b : Bool} {s1 : USt} {us1 : List (UA × USt)} (hC : Cal w v ℓ ℓ' cb ab c) (hab : w.heap.size ≤ ab) (he1 : us1 = us.set i (a, s1)) (hi : i < us.length) (H : Sys v ℓ' pw st F us1) (K : SOk st us1 m) (hm : m ≤ 400000000) (hR : UOut w ℓ pw F us i a m (keepX F b s1 st) R) :
    letJ (fun (b4 : Bool) (w014 : World) => Br (b && (!b4)) (Cunit_check #[.int .u8 3, .int .u16 3072, .int .u64 0, .bool false, .int .i64 0, .int .i64 0, .bool false, .bool false] w014 fun g6 w015 => Hand ab R g6 w015) (Hand ab R #[.int .u8 0, .int .u8 0, .int .u16 0, .int .u64 0, .bool false, .int .i64 0, .int .i64 0, .bool false, .bool false, .slice none 0 0] w014)) fun J_ => (b = true → Cunit_Unit_save (some ⟨a.ub, 0, none⟩) v J_) ∧ (b = false → J_ (Kd.dflt .b) v) := by
  subst he1
  have hi1 : i < (us.set i (a, s1)).length := by rw [List.length_set]; exact hi
  unfold keepX at hR
  cases b with
  | false =>
    rw [if_neg Bool.noConfusion] at hR
    refine letJ1 (fun _ z => z = v) ?_ (fun J => ⟨fun q => Bool.noConfusion q, fun _ => J _ v rfl⟩)
    rintro b4 z rfl
    exact br_f (by cases b4 <;> rfl) (hC.fin (X := ⟨okX [], s1, st⟩) hab hR H (K.mono (by omega)) rfl)
  | true =>
    rw [if_pos rfl] at hR
    refine letJ1 (fun b4 z => b4 = (saveU F s1 st).1 ∧ ∃ ℓ2, Mv v z ℓ' ℓ2 ∧ Sys z ℓ2 pw (saveU F s1 st).2.2 F (us.set i (a, (saveU F s1 st).2.1))) ?_ (fun J => ⟨fun _ => ?_, fun q => Bool.noConfusion q⟩)
    · rintro b4 z ⟨rfl, ℓ2, mv, Hz⟩
      have C2 := hC.step mv
      have Kz : SOk (saveU F s1 st).2.2 (us.set i (a, (saveU F s1 st).2.1)) (m + 200000) := by
        have ok := (H.at hi1 (List.getElem_set_self _)).1.tab.ok
        have pl := payL_len ok
        have K2 := K.near (near_save (F := F) (st := st) (file := s1.keepf) (x := ⟨s1.sure, s1.at_, s1.gen⟩) (l := payL s1) (by omega))
        have := (SOk.put (x := (a, (saveU F s1 st).2.1)) (i := i) K2 (by have := K2.at hi1 (List.getElem_set_self _); exact this.same this.good rfl rfl rfl rfl rfl rfl)).mono (m' := m + 200000) (by omega)
        rw [List.set_set] at this; exact this
      cases hsv : (saveU F s1 st).1 with
      | true =>
        rw [hsv, if_pos rfl] at hR
        exact br_f rfl (C2.fin (X := ⟨okX [], (saveU F s1 st).2.1, (saveU F s1 st).2.2⟩) hab hR Hz Kz rfl)
      | false =>
        rw [hsv, if_neg Bool.noConfusion] at hR
        exact br_t rfl (checkU_spec (s := wfS) fun y gy => (C2.go gy).fin (X := ⟨snX wfS, (saveU F s1 st).2.1, (saveU F s1 st).2.2⟩) hab hR (Hz.grow gy) Kz rfl)
    · refine save_fun H K (by omega) hi1 (List.getElem_set_self _) fun z ℓ2 mv Hz Kz => J _ z ⟨rfl, ℓ2, mv, ?_⟩
      rw [List.set_set] at Hz; exact Hz
/-- behind what the pages say -/
def SelTail (u : Option Addr) (nexus : Int) (c1 : Addr) (ab : Nat) (p : Sl) (s : Addr) (b b1 : Bool) (R : Array Value → World → Prop) (w07 : World) : Prop :=
  Br (!b1) (∃ g3 : Array Value, (loadVar t_api_Sense s).run Tryz.prog w07 = .ok (.agg g3) w07 ∧ Cunit_check g3 w07 fun g4 w08 => Hand ab R g4 w08) (∀ w010, w010 = w07.drew → ∃ S1 : World → Prop, S1 w010 ∧ u.isSome = true ∧ ∃ p2 : Option Addr, (∀ u3, S1 u3 → u3.cell? ((gA u).add 5) = some (.pointer p2)) ∧ p2.isSome = true ∧ ∃ p3 : Option Addr, (∀ u4, S1 u4 → u4.cell? ((gA p2).add 0) = some (.pointer p3)) ∧ u.isSome = true ∧ ∃ p4 : Option Addr, (∀ u5, S1 u5 → u5.cell? ((gA u).add 7) = some (.pointer p4)) ∧ Cmode_Pages_Now p4 w010 fun g5 w011 => S1 w011 ∧ ∃ S2 : World → Prop, S2 w011 ∧ (∀ u6, S2 u6 → S1 u6) ∧ ∃ b2 : Bool, (∀ u7, S2 u7 → g5[0]? = some (.bool b2)) ∧ Cstore_Store_SetCache p3 b2 w011 fun w012 => letX (fun (w013 : World) => ∃ b3 : Bool, w013.cell? (c1.add 11) = some (.bool b3) ∧ letJ (fun (b4 : Bool) (w014 : World) => Br ((b3 && (decide ((p.n : Int) > 0))) && (!b4)) (Cunit_check #[.int .u8 3, .int .u16 3072, .int .u64 0, .bool false, .int .i64 0, .int .i64 0, .bool false, .bool false] w014 fun g6 w015 => Hand ab R g6 w015) (Hand ab R #[.int .u8 0, .int .u8 0, .int .u16 0, .int .u64 0, .bool false, .int .i64 0, .int .i64 0, .bool false, .bool false, .slice none 0 0] w014)) fun J_ => ((b3 && (decide ((p.n : Int) > 0))) = true → Cunit_Unit_save u w013 J_) ∧ ((b3 && (decide ((p.n : Int) > 0))) = false → J_ (Kd.dflt .b) w013)) fun J_1 => Br b (u.isSome = true ∧ ∃ p5 : Option Addr, w012.cell? ((gA u).add 9) = some (.pointer p5) ∧ Cattn_Queues_AddAll p5 nexus 10753 w012 fun w018 => J_1 w018) (J_1 w012))
theorem sel_tail {b b1 : Bool} {x : Sn} {sb : Nat} (hC : Cal w v ℓ ℓ cb ab c) (hab : w.heap.size ≤ ab) (hw : w.heap.size ≤ v.heap.size) (hi : i < us.length) (hnx : n < 8) (hb : Blk v sb (snv x).toArray t_api_Sense) (hpn : out.n = l.length) (K : SOk st us m) (hm : m ≤ 400000000) (he : us[i] = (a, s)) (hal : (l.length : Int) = c.alloc)
    (hx : match mselX s.now s.saved c l with
      | .error e => b1 = false ∧ x = e ∧ Sys v ℓ pw st F us
      | .ok (b', n', s') => b1 = true ∧ b = b' ∧ Sys v ℓ pw st F (us.set i (a, { s with now := n', saved := s' })))
    (hR : UOut w ℓ pw F us i a m (selX F s st n c l) R) : SelTail (some ⟨a.ub, 0, none⟩) (n : Int) ⟨cb, 0, none⟩ ab out ⟨sb, 0, none⟩ b b1 R v := by
  unfold selX at hR
  rw [if_neg (by omega)] at hR
  cases hs : mselX s.now s.saved c l with
  | error e =>
    rw [hs] at hR hx
    obtain ⟨rfl, rfl, H⟩ := hx
    refine br_t rfl ⟨_, sLoad (blk_cells hb), checkU_spec fun y gy => (hC.go gy).fin (X := ⟨snX x, s, st⟩) hab hR ?_ ?_ rfl⟩
    · show Sys y ℓ pw st F (us.set i (a, s)); rw [set_same hi he]; exact H.grow gy
    · show SOk st (us.set i (a, s)) _; rw [set_same hi he]; exact K.mono (by omega)
  | ok q =>
    obtain ⟨b', n', s'⟩ := q
    rw [hs] at hR hx
    obtain ⟨rfl, rfl, H⟩ := hx
    dsimp only at hR
    obtain ⟨z1, z2, z3, z4, z5, z6, z7⟩ := set7 a
    refine br_f rfl ?_
    rintro w1 rfl
    have g1 := keep_drew v
    generalize v.drew = w1 at *
    have hi1 : ∀ y, i < (us.set i (a, y)).length := fun y => by rw [List.length_set]; exact hi
    have T : ∀ {y : World}, Grow v y → IsU y (fun k => ℓ k ≠ none) pw a { s with now := n', saved := s' } := fun g => ((H.grow g).at (hi1 _) (List.getElem_set_self _)).1
    refine ⟨fun y => Grow v y, g1, rfl, some ⟨a.dv, 0, none⟩, fun y q => (T q).cellU fun P => rfl, rfl, some ⟨a.ps, 0, none⟩, fun y q => by rw [gA]; exact dev0 (T q).dev, rfl, some ⟨a.pg, 0, none⟩, fun y q => (T q).cellU fun P => rfl, ?_⟩
    refine now_spec (T g1).pages fun w2 g2 => ⟨g1.trans g2, fun y => Grow v y, g1.trans g2, fun _ q => q, n'.wce, fun _ _ => rfl, ?_⟩
    have g12 := g1.trans g2
    have H2 := H.grow g12
    obtain ⟨hU2, hown⟩ := H2.at (hi1 _) (List.getElem_set_self _)
    have own : ∀ {b}, a.set b → ℓ b ≠ none := fun hb => by rw [hown _ hb]; exact Option.some_ne_none _
    refine setCache_any (on := n'.wce) hU2.store fun w3 hk3 hS3 => ?_
    have hU3 : IsU w3 (fun k => ℓ k ≠ none) pw a (pagU s n' s') := hU2.cach hk3 (Safe.sub fun b _ q => by rw [q]; exact own z3) (fun b _ hne q => hne q) (fun _ q => .inl q) hS3
    obtain ⟨m3, H3⟩ := H2.putA (hi1 _) (List.getElem_set_self _) hk3 (fun b _ q => by rw [q]; exact z3) hU3
    rw [List.set_set] at H3
    have C3 := (hC.go g12).step m3
    have epn : decide ((out.n : Int) > 0) = decide (l ≠ []) := by
      rw [hpn, Bool.eq_iff_iff, decide_eq_true_eq, decide_eq_true_eq]
      constructor
      · intro h e; rw [e] at h; simp at h
      · intro h; have : l.length ≠ 0 := fun e => h (List.length_eq_zero_iff.1 e); omega
    rw [epn]
    have KU := K.at hi he
    have tail : ∀ (y : World) (s1 : USt), Cal w y ℓ ℓ cb ab c → Sys y ℓ pw st F (us.set i (a, s1)) → s1.inf = s.inf → s1.file = s.file → s1.keepf = s.keepf → s1.n = s.n → s1.on = s.on → s1.lock = s.lock → UOut w ℓ pw F us i a m (keepX F (c.save && decide (l ≠ [])) s1 st) R → ∃ b3 : Bool, y.cell? ((⟨cb, 0, none⟩ : Addr).add 11) = some (.bool b3) ∧ letJ (fun (b4 : Bool) (w014 : World) => Br ((b3 && (decide (l ≠ []))) && (!b4)) (Cunit_check #[.int .u8 3, .int .u16 3072, .int .u64 0, .bool false, .int .i64 0, .int .i64 0, .bool false, .bool false] w014 fun g6 w015 => Hand ab R g6 w015) (Hand ab R #[.int .u8 0, .int .u8 0, .int .u16 0, .int .u64 0, .bool false, .int .i64 0, .int .i64 0, .bool false, .bool false, .slice none 0 0] w014)) fun J_ => ((b3 && (decide (l ≠ []))) = true → Cunit_Unit_save (some ⟨a.ub, 0, none⟩) y J_) ∧ ((b3 && (decide (l ≠ []))) = false → J_ (Kd.dflt .b) y) := fun y s1 Cy Hy e1 e2 e3 e4 e5 e6 hR =>
      ⟨c.save, Cy.cell rfl, keep_fun Cy hab rfl hi Hy (K.put (x := (a, s1)) (KU.same KU.good e1 e2 e3 e4 e5 e6)) hm hR⟩
    cases b with
    | false =>
      rw [if_neg Bool.noConfusion] at hR
      refine letX0 (fun y => y = w3) ?_ (fun J => br_f rfl (J _ rfl))
      intro y e
      rw [e]
      exact tail w3 _ C3 H3 rfl rfl rfl rfl rfl rfl hR
    | true =>
      rw [if_pos rfl] at hR
      refine letX0 (fun y => Cal w y ℓ ℓ cb ab c ∧ Sys y ℓ pw st F (us.set i (a, tellU (pagU s n' s') n 10753))) ?_ (fun J => ?_)
      · rintro y ⟨Cy, Hy⟩
        exact tail y _ Cy Hy rfl rfl rfl rfl rfl rfl hR
      · refine br_t rfl ⟨rfl, some ⟨a.qb, 0, none⟩, hU3.cellU fun P => rfl, ?_⟩
        refine addAll_spec hU3.q (by decide) (own z7) H3.lt fun w4 hk4 hq4 => ?_
        have hU4 : IsU w4 (fun k => ℓ k ≠ none) pw a (tellU (pagU s n' s') n 10753) := hU3.que hk4 (Safe.sub fun b _ q => by rw [q]; exact own z7) (fun b _ hne q => hne q) (fun _ q => .inl q) hq4
        obtain ⟨m4, H4⟩ := H3.putA (hi1 _) (List.getElem_set_self _) hk4 (fun b _ q => by rw [q]; exact z7) hU4
        rw [List.set_set] at H4
        exact J w4 ⟨C3.step m4, H4⟩
set_option maxHeartbeats 1000000 in
/-- MODE SELECT -/
theorem sel_fun (H : Sys w ℓ pw st F us) (K : SOk st us m) (hm : m ≤ 400000000) (hi : i < us.length) (he : us[i] = (a, s)) (hn : n < 8) (hp : RdX w ℓ 1 out (bv l)) (hb : c.alloc ≤ 1000000) (hR : UOut w ℓ pw F us i a m (selX F s st n c l) R) : Cunit_Unit_sel (some ⟨a.ub, 0, none⟩) (n : Int) (cmv c).toArray out w R := by
  refine Funit_Unit_sel.calls _ _ _ _ _ _ (Cal.start H fun cb ab w1 g1 hcb hab C1 => ?_)
  have H1 := H.grow g1
  have hset := set_same hi he
  have hpn := (rd_n' hp.rd).symm
  refine ⟨c.alloc, C1.cell rfl, ?_⟩
  refine br_ne (fun hne => ?_) (fun hal => ?_)
  · unfold selX at hR
    rw [if_pos (by omega)] at hR
    refine checkU_spec (s := badS 0x1a00) fun y gy => (C1.go gy).fin (X := ⟨snX (badS 0x1a00), s, st⟩) hab hR ?_ ?_ rfl
    · show Sys y ℓ pw st F (us.set i (a, s)); rw [hset]; exact H1.grow gy
    · show SOk st (us.set i (a, s)) _; rw [hset]; exact K.mono (by omega)
  have hb : out.n ≤ 1000000 := by omega
  rintro w2 rfl
  have g2 := keep_drew w1
  have H2 := H1.grow g2
  have C2 := C1.go g2
  generalize w1.drew = w2 at *
  obtain ⟨hU2, hown⟩ := H2.at hi he
  obtain ⟨z1, z2, z3, z4, z5, z6, z7⟩ := set7 a
  have own : ∀ {b}, a.set b → ℓ b ≠ none := fun hb => by rw [hown _ hb]; exact Option.some_ne_none _
  have hpg : w2.cell? ((gA (some (⟨a.ub, 0, none⟩ : Addr))).add 7) = some (.pointer (some ⟨a.pg, 0, none⟩)) := hU2.cellU fun P => rfl
  have p2 : Rd w2 1 out (bv l) := hp.rd.grow (g1.trans g2)
  have hw12 := (g1.trans g2).size
  -- the pages are laid
  have put : ∀ {y z : World} {n' s' : Vals}, Sys y ℓ pw st F us → Keep (fun k => k = a.pg) y z → IsP z a.pg n' s' → Mv y z ℓ ℓ ∧ Sys z ℓ pw st F (us.set i (a, { s with now := n', saved := s' })) := fun {y z n' s'} Hy hk hp => by
    have hUy := (Hy.at hi he).1
    exact Hy.putA hi he hk (fun b _ q => by rw [q]; exact z5) (hUy.pag hk (Safe.sub fun b _ q => by rw [q]; exact own z5) (fun b _ hne q => hne q) (fun _ q => .inl q) hp)
  have same : {y : World} → (H : Sys y ℓ pw st F us) → (s' : USt) → s' = s → Sys y ℓ pw st F (us.set i (a, s')) := fun H s' e => by rw [e, hset]; exact H
  refine ⟨fun y => y.cell? ((gA (some (⟨a.ub, 0, none⟩ : Addr))).add 7) = some (.pointer (some ⟨a.pg, 0, none⟩)) ∧ (loadVar t_api_Cmd ⟨cb, 0, none⟩).run Tryz.prog y = .ok (.agg (cmv c).toArray) y, ⟨hpg, C2.load⟩, rfl, some ⟨a.pg, 0, none⟩, fun y q => q.1, (cmv c).toArray, fun y q => q.2, ?_, ?_⟩
  · refine msel_spec hU2.pages p2 hb ?_
    cases hs : mselX s.now s.saved c l with
    | error e =>
      intro w3 g3
      have H3 := H2.grow g3
      have C3 := C2.go g3
      refine new_rule fun sb w4 hsb hb4 hg4 hs4 => ?_
      have H4 := H3.grow hg4
      have C4 := C3.go hg4
      refine ⟨⟨(H4.at hi he).1.cellU fun P => rfl, C4.load⟩, storeVar_rule (cells := (snv e).toArray) hb4 i_api_Sense rfl rfl (by simp [snv, Value.oneCell']) fun w5 hb5 hk5 _ => ?_⟩
      have g35 : Grow w3 w5 := hg4.keep hk5 fun b hb q => by omega
      exact sel_tail (C3.go g35) hab (by have := g35.size; have := g3.size; omega) hi hn hb5 hpn K hm he (by omega) (by rw [hs]; exact ⟨rfl, rfl, H3.grow g35⟩) hR
    | ok q =>
      obtain ⟨b, n', s'⟩ := q
      intro w3 hk3 hP3
      obtain ⟨m3, H3⟩ := put H2 hk3 hP3
      have C3 := C2.step m3
      have sz3 := hk3.size
      refine new_rule fun sb w4 hsb hb4 hg4 hs4 => ?_
      have H4 := H3.grow hg4
      have C4 := C3.go hg4
      refine ⟨⟨(H4.at (by rw [List.length_set]; exact hi) (List.getElem_set_self _)).1.cellU fun P => rfl, C4.load⟩, storeVar_rule (cells := (snv sn0).toArray) hb4 i_api_Sense rfl rfl (by simp [snv, sn0, Value.oneCell']) fun w5 hb5 hk5 _ => ?_⟩
      have g35 : Grow w3 w5 := hg4.keep hk5 fun b hb q => by omega
      exact sel_tail (C3.go g35) hab (by have := g35.size; omega) hi hn hb5 hpn K hm he (by omega) (by rw [hs]; exact ⟨rfl, rfl, H3.grow g35⟩) hR
  · refine new_rule fun sb w3 hsb hb3 hg3 hs3 => ?_
    have H3 := H2.grow hg3
    have C3 := C2.go hg3
    have nsb : ℓ sb = none := H.fresh (by omega)
    refine ⟨⟨(H3.at hi he).1.cellU fun P => rfl, C3.load⟩, ?_⟩
    refine msel_spec (H3.at hi he).1.pages (p2.grow hg3) hb ?_
    have sz3 := hg3.size
    cases hs : mselX s.now s.saved c l with
    | error e =>
      intro w4 g4
      refine storeVar_rule (cells := (snv e).toArray) (g4.heap hb3 (fun q => q)) i_api_Sense rfl rfl (by simp [snv, Value.oneCell']) fun w5 hb5 hk5 _ => ?_
      have g25 : Grow w2 w5 := (hg3.trans g4).keep hk5 fun b hb q => by omega
      exact sel_tail (C2.go g25) hab (by have := g25.size; omega) hi hn hb5 hpn K hm he (by omega) (by rw [hs]; exact ⟨rfl, rfl, H2.grow g25⟩) hR
    | ok q =>
      obtain ⟨b, n', s'⟩ := q
      intro w4 hk4 hP4
      obtain ⟨m4, H4⟩ := put H3 hk4 hP4
      have C4 := C3.step m4
      have hb4 : Blk w4 sb _ t_api_Sense := m4.heap hb3 nsb
      refine storeVar_rule (cells := (snv sn0).toArray) hb4 i_api_Sense rfl rfl (by simp [snv, sn0, Value.oneCell']) fun w5 hb5 hk5 _ => ?_
      have H5 := H4.local1 hb4 nsb hk5 (rowT_not (by decide) (by decide) (by decide)) (by decide)
      have C5 : Cal w w5 ℓ ℓ cb ab c := ⟨C4.mv.loc hk5 fun b hb q => by omega, hk5.heap C4.cmd (blk_ne C4.cmd hb4 (by decide)), hk5.heap C4.res (blk_ne C4.res hb4 (by decide)), C4.ncb, C4.nab⟩
      exact sel_tail C5 hab (by have := hk5.size; have := hk4.size; omega) hi hn hb5 hpn K hm he (by omega) (by rw [hs]; exact ⟨rfl, rfl, H5⟩) hR
end
end Go.Proofs.YtpmebahhjgkflaaGreatDoor

/- Layer 16: PERSISTENT RESERVE OUT, as a function. -/
namespace Go.Proofs.YtpmebahhjgkflaaGreatDoor
open Go CF
set_option maxRecDepth 100000
def maskO : L8 := List.replicate 16 255 ++ [0, 0, 0, 0, 1]
def outS (c : Cm) (l : L8) : OutS := ⟨c.service, c.type, num ((l.drop 0).take 8), num ((l.drop 8).take 8), decide ((l.getD 20 0).toNat = 1)⟩
/-- events are told -/
def evQ (q : Nat → List Nat) : List Ev → Nat → List Nat
  | [] => q
  | e :: r => evQ (fun t => if t = e.1 then addA (q e.1) e.2 else q t) r
def outX (F : Int → Bool) (s : USt) (st : Wst) (n : Nat) (c : Cm) (l : L8) : RunX :=
  if c.alloc ≠ 24 ∨ l.length ≠ 24 then ⟨snX (badS 0x1a00), s, st⟩
  else match oddX l maskO 0 with
    | some (j, b) => ⟨snX ⟨5, 0x2600, 0, false, (j : Int), (b : Int), true, false⟩, s, st⟩
    | none => if (prdoT s.tab n (outS c l)).st ≠ 0 then ⟨⟨(prdoT s.tab n (outS c l)).st, if (prdoT s.tab n (outS c l)).st = 2 then ⟨5, (prdoT s.tab n (outS c l)).code, 0, false, 0, 0, false, false⟩ else sn0, []⟩, { s with tab := (prdoT s.tab n (outS c l)).t }, st⟩
      else keepX F (s.tab.lasts || (prdoT s.tab n (outS c l)).t.lasts) { s with tab := (prdoT s.tab n (outS c l)).t, q := evQ s.q (prdoT s.tab n (outS c l)).ev } st
section
variable {w u v z w3 : World} {S D D' : Nat → Prop} {pw i m n ab cb : Nat} {a : UA} {s : USt} {st st' : Wst} {F F' : Int → Bool} {ℓ ℓ' ℓ1 ℓ2 : Nat → Option Nat} {us : List (UA × USt)} {X : RunX} {R : Array Value → World → Prop} {out : Sl} {l : L8} {c : Cm}
theorem Cal.loc {b : Nat} {cs : Array Value} {t : TypeId} (h : Cal w v ℓ ℓ' cb ab c) (hb : Blk v b cs t) (h1 : t ≠ t_api_Cmd) (h2 : b ≠ ab) (hw : w.heap.size ≤ b) (k : Keep (fun k => k = b) v z) : Cal w z ℓ ℓ' cb ab c :=
  ⟨h.mv.loc k fun x hx q => by omega, k.heap h.cmd (blk_ne h.cmd hb (fun e => h1 e.symm)), k.heap h.res (fun e => h2 e.symm), h.ncb, h.nab⟩
end
end Go.Proofs.YtpmebahhjgkflaaGreatDoor

/- Layer 16: what was kept is read, as a function: load and Start. -/
namespace Go.Proofs.YtpmebahhjgkflaaGreatDoor
open Go CF
set_option maxRecDepth 100000
/-- told that the power came on; what was read of the keeper's files -/
def loadW (F : Int → Bool) (s : USt) (st : Wst) : USt :=
  { s with q := onQ s.q, sure := (slLoadX F st s.keepf ⟨s.sure, s.at_, s.gen⟩).2.2.2.1.sure, at_ := (slLoadX F st s.keepf ⟨s.sure, s.at_, s.gen⟩).2.2.2.1.at_, gen := (slLoadX F st s.keepf ⟨s.sure, s.at_, s.gen⟩).2.2.2.1.gen }
/-- the error's number, and the unit -/
def loadB (s1 : USt) (e : Nat) (l : L8) : Nat × USt :=
  if e = 8 then (0, s1) else if e ≠ 0 then (e, s1)
  else if l = [] ∨ 7 < (l.getD 0 0).toNat then (3, s1)
  else match loadT (l.drop 1) with
    | none => (3, s1)
    | some t => (0, { s1 with tab := t, now := valsOf (l.getD 0 0).toNat, saved := valsOf (l.getD 0 0).toNat, cache := (valsOf (l.getD 0 0).toNat).wce })
def loadU (F : Int → Bool) (s : USt) (st : Wst) : Nat × USt × Wst :=
  ((loadB (loadW F s st) (slLoadX F st s.keepf ⟨s.sure, s.at_, s.gen⟩).1 (slLoadX F st s.keepf ⟨s.sure, s.at_, s.gen⟩).2.1).1,
   (loadB (loadW F s st) (slLoadX F st s.keepf ⟨s.sure, s.at_, s.gen⟩).1 (slLoadX F st s.keepf ⟨s.sure, s.at_, s.gen⟩).2.1).2,
   (slLoadX F st s.keepf ⟨s.sure, s.at_, s.gen⟩).2.2.2.2)
def startU (F : Int → Bool) (s : USt) (st : Wst) : Nat × USt × Wst :=
  if s.on = 1 then (s.fault, s, st) else ((loadU F s st).1, { (loadU F s st).2.1 with on := 1, lock := 0, fault := (loadU F s st).1 }, (loadU F s st).2.2)
/-- a unit that lies where it lay, but for table and pages -/
structure UA.like (a a' : UA) : Prop where
  ub : a'.ub = a.ub
  dv : a'.dv = a.dv
  ps : a'.ps = a.ps
  sl : a'.sl = a.sl
  qb : a'.qb = a.qb
theorem UA.like.refl (a : UA) : a.like a := ⟨rfl, rfl, rfl, rfl, rfl⟩
/-- a unit keeps what it is -/
structure USt.same (s s' : USt) : Prop where
  inf : s'.inf = s.inf
  file : s'.file = s.file
  keepf : s'.keepf = s.keepf
  n : s'.n = s.n
  peers : s'.peers = s.peers
  count : s'.count = s.count
theorem loadB_same {s1 : USt} {e : Nat} {l : L8} : s1.same (loadB s1 e l).2 ∧ (loadB s1 e l).2.on = s1.on ∧ (loadB s1 e l).2.lock = s1.lock ∧ (loadB s1 e l).2.fault = s1.fault := by
  unfold loadB
  split
  · exact ⟨⟨rfl, rfl, rfl, rfl, rfl, rfl⟩, rfl, rfl, rfl⟩
  split
  · exact ⟨⟨rfl, rfl, rfl, rfl, rfl, rfl⟩, rfl, rfl, rfl⟩
  split
  · exact ⟨⟨rfl, rfl, rfl, rfl, rfl, rfl⟩, rfl, rfl, rfl⟩
  split
  · exact ⟨⟨rfl, rfl, rfl, rfl, rfl, rfl⟩, rfl, rfl, rfl⟩
  · exact ⟨⟨rfl, rfl, rfl, rfl, rfl, rfl⟩, rfl, rfl, rfl⟩
theorem startU_same {F : Int → Bool} {s : USt} {st : Wst} : s.same (startU F s st).2.1 := by
  unfold startU
  split
  · exact ⟨rfl, rfl, rfl, rfl, rfl, rfl⟩
  · have := (loadB_same (s1 := loadW F s st) (e := (slLoadX F st s.keepf ⟨s.sure, s.at_, s.gen⟩).1) (l := (slLoadX F st s.keepf ⟨s.sure, s.at_, s.gen⟩).2.1)).1
    exact ⟨this.inf, this.file, this.keepf, this.n, this.peers, this.count⟩
section
variable {w u v z w3 : World} {S D D' N N' : Nat → Prop} {pw i m n ab cb : Nat} {a : UA} {s : USt} {st st' : Wst} {F F' : Int → Bool} {ℓ ℓ' ℓ1 ℓ2 : Nat → Option Nat} {us : List (UA × USt)}
/-- a unit that lies elsewhere in part: what it needs -/
theorem near_start {s : USt} : Near st (startU F s st).2.2 s.keepf 2 := by
  unfold startU
  split
  · exact (Near.refl st s.keepf).le (by decide)
  · exact near_load
theorem startU_once {F : Int → Bool} {s : USt} {st : Wst} (h : s.on = 1 ∨ (s.on = 0 ∧ s.lock = 0)) : (startU F s st).2.1.on = 1 := by
  unfold startU
  split
  · assumption
  · rfl
/-- what a load comes to -/
def LoadP (F : Int → Bool) (s : USt) (st : Wst) : Prop := ∀ {R : Int → World → Prop} {w : World} {ℓ : Nat → Option Nat} {pw i : Nat} {a : UA} {us : List (UA × USt)}, Sys w ℓ pw st F us → 1 ≤ s.keepf.size ∧ s.keepf.size ≤ 30 → st.ops < 10000000000 → i < us.length → us[i]? = some (a, s) →
  (∀ u ℓ' a', a.like a' → Mv w u ℓ ℓ' → Sys u ℓ' pw (loadU F s st).2.2 F (us.set i (a', (loadU F s st).2.1)) → R (((loadU F s st).1 : Nat) : Int) u) → Cunit_Unit_load (some ⟨a.ub, 0, none⟩) w R
/-- Start -/
theorem start_fun {R : Int → World → Prop} (hL : s.on ≠ 1 → LoadP F { s with lock := 1 } st) (H : Sys w ℓ pw st F us) (K : SOk st us m) (hm : m ≤ 500000000) (hi : i < us.length) (he : us[i] = (a, s))
    (hR : ∀ u ℓ' a', a.like a' → Mv w u ℓ ℓ' → Sys u ℓ' pw (startU F s st).2.2 F (us.set i (a', (startU F s st).2.1)) → SOk (startU F s st).2.2 (us.set i (a', (startU F s st).2.1)) (m + 2) → R (((startU F s st).1 : Nat) : Int) u) : Cunit_Unit_Start (some ⟨a.ub, 0, none⟩) w R := by
  have KU := K.at hi he
  have hKs : ∀ a' : UA, SOk (startU F s st).2.2 (us.set i (a', (startU F s st).2.1)) (m + 2) := fun a' => by
    have K2 := K.near (near_start (F := F) (s := s) (st := st))
    refine K2.put (x := (a', (startU F s st).2.1)) ?_
    have KU2 := K2.at hi he
    have sm := startU_same (F := F) (s := s) (st := st)
    refine ⟨by rw [sm.n]; exact KU2.n, by rw [sm.inf]; exact KU2.form, by rw [sm.file, sm.keepf]; exact KU2.name, by rw [sm.file]; exact KU2.good, .inl (startU_once KU.once)⟩
  have hR : ∀ u ℓ' a', a.like a' → Mv w u ℓ ℓ' → Sys u ℓ' pw (startU F s st).2.2 F (us.set i (a', (startU F s st).2.1)) → R (((startU F s st).1 : Nat) : Int) u := fun u ℓ' a' h1 h2 h3 => hR u ℓ' a' h1 h2 h3 (hKs a')
  clear hKs
  rcases KU.once with hon | ⟨hon, hlk⟩
  · unfold startU at hR
    rw [if_pos hon] at hR
    exact start_again H hi he hon fun u g => hR u ℓ a (UA.like.refl a) (Mv.grow g) (by show Sys u ℓ pw st F (us.set i (a, s)); rw [set_same hi he]; exact H.grow g)
  unfold startU at hR
  rw [if_neg (by omega)] at hR
  refine Funit_Unit_Start.calls _ _ _ (new_rule fun fb w1 hfb hb1 hg1 hs1 => ?_)
  obtain ⟨z1, z2, z3, z4, z5, z6, z7⟩ := set7 a
  have H1 := H.grow hg1
  obtain ⟨hU, hown⟩ := H1.at hi he
  have hfn : ℓ fb = none := H.fresh (by omega)
  have cf : ∀ {v : World}, Blk v fb #[.pointer (some ⟨a.ub, 0, none⟩)] t_p_unit_Unit → v.cell? ⟨fb, 0, none⟩ = some (.pointer (some ⟨a.ub, 0, none⟩)) := fun q => by rw [Blk.cell q]; rfl
  refine ⟨some ⟨a.ub, 0, none⟩, cf hb1, some ⟨a.ub, 0, none⟩, fun _ => cf hb1, fun _ => rfl, some ⟨a.dv, 0, none⟩, fun _ => hU.cellU fun P => rfl, br_f rfl ⟨some ⟨a.ub, 0, none⟩, cf hb1, rfl, ?_⟩⟩
  rw [show (gA (some (⟨a.ub, 0, none⟩ : Addr))).add 11 = ⟨a.ub, 11, none⟩ by rw [gA, add0]]
  obtain ⟨P, hP1, hP2⟩ := hU.unit
  refine once_first (o := 11) hP1 (by show some (Value.int .u32 (s.on : Int)) = _; rw [hon]; rfl) (by show some (Value.int .i32 (s.lock : Int)) = _; rw [hlk]; rfl) fun w2 hb2 hk2 hs2 => ?_
  have sfe : ∀ {S : Nat → Prop} {x : World}, (∀ b, S b → b = a.ub) → Safe x (fun k => ℓ k ≠ none) S := fun hS => Safe.sub fun b _ q => by rw [hS b q, hown _ z1]; exact Option.some_ne_none _
  have hU2 : IsU w2 (fun k => ℓ k ≠ none) pw a { s with lock := 1 } := hU.unitC (on := s.on) (lk := 1) (fl := s.fault) (ct := s.count) (ps := s.peers) hk2 (sfe fun _ q => q) (fun b _ hne q => hne q) (fun _ q => .inl q) ⟨P, hb2, hP2.step (.inr (.inr rfl)) hk2 (sfe fun _ q => q) fun _ q => .inl q⟩
  obtain ⟨m2, H2⟩ := H1.putA hi he hk2 (fun b _ q => by rw [q]; exact z1) hU2
  have hi2 : i < (us.set i (a, { s with lock := 1 })).length := by rw [List.length_set]; exact hi
  have hf2 : Blk w2 fb #[.pointer (some ⟨a.ub, 0, none⟩)] t_p_unit_Unit := m2.heap hb1 hfn
  refine Funit_Unit_Start_1.calls _ _ _ ?_
  rintro w3 rfl
  have hg3 := keep_drew w2
  have H3 := H2.grow hg3
  have hf3 : Blk w2.drew fb _ t_p_unit_Unit := hg3.heap hf2 (fun q => q)
  generalize w2.drew = w3 at *
  refine ⟨fun o => o.cell? ⟨fb, 0, none⟩ = some (.pointer (some ⟨a.ub, 0, none⟩)), cf hf3, some ⟨a.ub, 0, none⟩, fun _ q => q, some ⟨a.ub, 0, none⟩, fun _ q => q, ?_⟩
  have elu : loadU F { s with lock := 1 } st = ((loadU F s st).1, { (loadU F s st).2.1 with lock := 1 }, (loadU F s st).2.2) := by
    unfold loadU loadB loadW
    dsimp only
    split
    · rfl
    split
    · rfl
    split
    · rfl
    cases loadT ((slLoadX F st s.keepf ⟨s.sure, s.at_, s.gen⟩).2.1.drop 1) <;> rfl
  refine hL (by omega) H3 KU.sizes.2 (by have := K.few; omega) hi2 (List.getElem?_eq_some_iff.2 ⟨hi2, List.getElem_set_self _⟩) fun w4 ℓ4 a4 hl4 m4 H4 => ?_
  rw [elu, List.set_set] at H4
  rw [elu]
  dsimp only at H4 ⊢
  have hi4 : ∀ y, i < (us.set i y).length := fun y => by rw [List.length_set]; exact hi
  obtain ⟨hU4, hown4⟩ := H4.at (hi4 _) (List.getElem_set_self _)
  have hf4 : Blk w4 fb _ t_p_unit_Unit := m4.heap hf3 hfn
  have sm := (loadB_same (s1 := loadW F s st) (e := (slLoadX F st s.keepf ⟨s.sure, s.at_, s.gen⟩).1) (l := (slLoadX F st s.keepf ⟨s.sure, s.at_, s.gen⟩).2.1))
  have son : (loadU F s st).2.1.on = s.on := sm.2.1
  generalize (loadU F s st).1 = e at *
  generalize (loadU F s st).2.1 = s4 at *
  generalize (loadU F s st).2.2 = st4 at *
  obtain ⟨q1, q2, q3, q4, q5, q6, q7⟩ := set7 a4
  have eub := hl4.ub
  obtain ⟨P4, hP41, hP42⟩ := hU4.unit
  rw [eub] at hP41 q1
  refine ⟨cf hf4, rfl, ?_⟩
  rw [gA, add0]
  refine put_rule hP41 (by show 14 < 16; decide) rfl fun w5 hb5 hk5 hs5 => ⟨_, hb5, by show some (Value.int .u32 (s4.on : Int)) = _; rw [son, hon]; rfl, rfl, fun w6 hb6 hk6 hs6 => ?_⟩
  have k46 : Keep (fun b => b = a.ub) w4 w6 := hk5.trans hk6 fun _ _ q => q
  have sf4 : Safe w4 (fun k => ℓ4 k ≠ none) fun b => b = a.ub := Safe.sub fun b _ q => by rw [q, hown4 _ q1]; exact Option.some_ne_none _
  have hU6 : IsU w6 (fun k => ℓ4 k ≠ none) pw a4 { s4 with on := 1, lock := 0, fault := e } := hU4.unitC (on := 1) (lk := 0) (fl := e) (ct := s4.count) (ps := s4.peers) k46 sf4 (fun b _ hne q => hne (by rw [eub]; exact q)) (fun _ q => .inl q) ⟨P4, by rw [eub]; exact hb6, hP42.step (.inr (.inr rfl)) k46 sf4 fun _ q => .inl q⟩
  obtain ⟨m6, H6⟩ := H4.putA (hi4 _) (List.getElem_set_self _) k46 (fun b _ q => by rw [q]; exact q1) hU6
  rw [List.set_set] at H6
  have hf6 : Blk w6 fb _ t_p_unit_Unit := k46.heap hf4 fun q => by
    have := hown4 _ q1
    rw [← q] at this
    have e := m4.lab fb (by have := lt_of_heap hf3; exact this)
    rw [e, hfn] at this; cases this
  obtain ⟨hU6', _⟩ := H6.at (hi4 _) (List.getElem_set_self _)
  have cu : w6.cell? ((gA (some (⟨a.ub, 0, none⟩ : Addr))).add 14) = some (.int .i64 (e : Int)) := by
    have := hU6'.cellU (o := 14) (x := .int .i64 (e : Int)) fun P => rfl
    rwa [eub] at this
  refine ⟨some ⟨a.ub, 0, none⟩, cf hf6, rfl, (e : Int), cu, ?_⟩
  exact hR w6 ℓ4 a4 hl4 (((((Mv.grow hg1).trans m2).trans (Mv.grow hg3)).trans m4).trans m6) H6
end
end Go.Proofs.YtpmebahhjgkflaaGreatDoor

/- Layer 15: what parameters say, in plain words. -/
namespace Go.Proofs.YtpmebahhjgkflaaGreatDoor
open Go CF
set_option maxRecDepth 100000

/-- a piece -/
structure SegX where
  from_ : Int
  to_ : Int
  blocks : Int
  src : Nat
  dst : Nat
def sub (p : L8) (at_ n : Nat) : L8 := (p.drop at_).take n
def trimR (l : L8) : L8 := (l.reverse.dropWhile (· == 32)).reverse
def frontX : L8 := [0xe4, 0, 0, 0, 2, 1, 0, 20]
def unitBad (d : L8) : Option Nat :=
  match (List.range 8).find? (fun i => decide (d.getD i 0 ≠ frontX.getD i 0)) with
  | some i => some i
  | none => if d.getD 28 0 ≠ 0 then some 28 else if num (sub d 29 3) ≠ 16 then some 29 else none
def unitNm (d : L8) : L8 := trimR (sub d 8 20)
def segBad (nu : Nat) (q : L8) : Option Nat :=
  if num (sub q 0 4) ≠ 0x02000018 then some 0 else if num (sub q 8 2) ≠ 0 then some 8 else if nu ≤ num (sub q 4 2) then some 4 else if nu ≤ num (sub q 6 2) then some 6
  else if 256 < num (sub q 10 2) then some 10 else none
def segOf (q : L8) : SegX := ⟨(num (sub q 4 2) : Int), (num (sub q 6 2) : Int), (num (sub q 10 2) : Int), num (sub q 12 8), num (sub q 20 8)⟩
def nuX (p : L8) : Nat := num (sub p 2 2)
def nsX (p : L8) : Nat := num (sub p 8 4)
def headC (p : L8) : Option Sn :=
  if p.length < 16 then some (badS 0x1a00)
  else if num (sub p 0 2) ≠ 0 then some (badF 0) else if num (sub p 4 4) ≠ 0 then some (badF 4) else if num (sub p 12 4) ≠ 0 then some (badF 12)
  else if nuX p % 32 ≠ 0 then some (badF 2) else if nsX p % 28 ≠ 0 then some (badF 8) else if p.length ≠ 16 + nuX p + nsX p then some (badS 0x1a00)
  else if 256 < nuX p ∨ 224 < nsX p then some (badS 0x2608) else none
def unitAt (p : L8) (j : Nat) : L8 := sub p (16 + 32 * j) 32
def segAt (p : L8) (j : Nat) : L8 := sub p (16 + nuX p + 28 * j) 28
def uFault (p : L8) (j : Nat) : Option Nat := (unitBad (unitAt p j)).map (16 + 32 * j + ·)
def sFault (p : L8) (j : Nat) : Option Nat := (segBad (nuX p / 32) (segAt p j)).map (16 + nuX p + 28 * j + ·)
def unitsX (p : L8) (k : Nat) : List L8 := (List.range k).map fun j => unitNm (unitAt p j)
def segsX (p : L8) (k : Nat) : List SegX := (List.range k).map fun j => segOf (segAt p j)
structure ParX where
  us : List L8
  ss : List SegX
  sn : Sn
  ok : Bool
def noX (s : Sn) : ParX := ⟨[], [], s, false⟩
def parseC (p : L8) : ParX :=
  if p = [] then ⟨[], [], sn0, true⟩ else match headC p with
  | some s => noX s
  | none => match (List.range (nuX p / 32)).findSome? (uFault p) with
    | some f => noX (badF f)
    | none => match (List.range (nsX p / 28)).findSome? (sFault p) with
      | some f => noX (badF f)
      | none => ⟨unitsX p (nuX p / 32), segsX p (nsX p / 28), sn0, true⟩
/-! ### trimmed -/
end Go.Proofs.YtpmebahhjgkflaaGreatDoor

/- Layer 15: what the parts of Parse compute, in the program and in its reference. -/
namespace Go.Proofs.YtpmebahhjgkflaaGreatDoor
open Go CF
set_option maxRecDepth 100000

end Go.Proofs.YtpmebahhjgkflaaGreatDoor

/- Layer 15: a unit's descriptor, and the head of parameters. -/
namespace Go.Proofs.YtpmebahhjgkflaaGreatDoor
open Go CF
set_option maxRecDepth 100000

end Go.Proofs.YtpmebahhjgkflaaGreatDoor

/- Layer 15: Parse, as the program has it. -/
namespace Go.Proofs.YtpmebahhjgkflaaGreatDoor
open Go CF
set_option maxRecDepth 100000

end Go.Proofs.YtpmebahhjgkflaaGreatDoor

/- Layer 15: the parameters of a list, in plain words. -/
namespace Go.Proofs.YtpmebahhjgkflaaGreatDoor
open Go CF
set_option maxRecDepth 100000

def uOk (s : L8) : Prop := s.length ≤ 20 ∧ s.getLast? ≠ some 32
def sOk (nu : Nat) (x : SegX) : Prop := 0 ≤ x.from_ ∧ x.from_ < nu ∧ 0 ≤ x.to_ ∧ x.to_ < nu ∧ 0 ≤ x.blocks ∧ x.blocks ≤ 256
instance (s : L8) : Decidable (uOk s) := by unfold uOk; infer_instance
instance (nu : Nat) (x : SegX) : Decidable (sOk nu x) := by unfold sOk; infer_instance
/-! ### pieces of a row -/
end Go.Proofs.YtpmebahhjgkflaaGreatDoor

/- Layer 15: the parameters that tell a list, as the program lays them. -/
namespace Go.Proofs.YtpmebahhjgkflaaGreatDoor
open Go CF
set_option maxRecDepth 100000

end Go.Proofs.YtpmebahhjgkflaaGreatDoor

/- Layer 15: Parse, as the reference has it. -/
namespace Go.Proofs.YtpmebahhjgkflaaGreatDoor
open Go CF
set_option maxRecDepth 100000

end Go.Proofs.YtpmebahhjgkflaaGreatDoor

/- Rows of bytes with the same number are the same. -/
namespace Go.Proofs.YtpmebahhjgkflaaGreatDoor
open Go CF
set_option maxRecDepth 100000

end Go.Proofs.YtpmebahhjgkflaaGreatDoor

/- Layer 15: parameters that are read tell themselves; a byte turned. -/
namespace Go.Proofs.YtpmebahhjgkflaaGreatDoor
open Go CF
set_option maxRecDepth 100000

/-! ### a byte turned -/
end Go.Proofs.YtpmebahhjgkflaaGreatDoor
