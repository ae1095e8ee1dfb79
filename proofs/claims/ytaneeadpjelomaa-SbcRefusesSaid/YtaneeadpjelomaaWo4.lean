import Derived.Test.YtaneeadpjelomaaWo2
/- Layer 3: changes, writes. -/
namespace Go.Proofs.Ytaneeadpjelomaa
open Go CF

theorem blk_cells {w : World} {b : Nat} {l : List Value} {t : TypeId} (h : Blk w b l.toArray t) : Cells w ⟨b, 0, none⟩ l := fun j v hj => by
  rw [add0, h.cell]; simpa using hj
theorem blk_type {w : World} {b : Nat} {cs cs' : Array Value} {t t' : TypeId} {f : Nat × Nat} (h : Blk w b cs t) (h' : w.heap[b]? = some (.cells cs' t' f)) : t = t' := by
  rw [h] at h'
  injection h' with h'
  injection h'
theorem own_ne {w : World} {base : Nat} {e : TypeId} {z : Nat} {s : Sl} {vs : List Value} (h : Own w base e z s vs) {b : Nat} {cs : Array Value} {t : TypeId} (hb : Blk w b cs t) (hne : t ≠ e) : s.blk ≠ some b := fun q => by
  obtain ⟨cur, hc⟩ := own_heap h q
  exact hne (blk_type hb hc)
section
variable {w w' : World} {pw : Nat} {D : Nat → Prop} {st : Wst} {mb md : Nat} {ws : Sl} {cs : List (Cg × Sl)}
theorem IsWd.pm (h : IsWd w pw D st mb md ws cs) : mb ≠ pw ∧ md ≠ pw := ⟨fun q => isF_map h.seen _ _ _ (by rw [q]; exact h.blk), fun q => isF_map h.dur _ _ _ (by rw [q]; exact h.blk)⟩
theorem IsWd.wm (h : IsWd w pw D st mb md ws cs) : ws.blk ≠ some mb ∧ ws.blk ≠ some md ∧ ws.blk ≠ some pw := by
  refine ⟨fun q => ?_, fun q => ?_, own_ne h.own h.blk (by decide)⟩
  · obtain ⟨cur, hc⟩ := own_heap h.own q; exact isF_map h.seen _ _ _ hc
  · obtain ⟨cur, hc⟩ := own_heap h.own q; exact isF_map h.dur _ _ _ hc
theorem nb_set {S : Nat → Prop} (h : NoBytes w D) (hl : ∀ k, D k → k < w.heap.size) (k : Keep S w w') (hs : ∀ g cur, S g → w'.heap[g]? ≠ some (.cells cur t_uint8 (0, 0))) : NoBytes w' D := fun g cur hg q => by
  by_cases e : S g
  · exact hs g cur e hg
  · exact h g cur (by rw [← k.block g (hl g q) e]; exact hg) q
theorem IsWd.setSeen {F : Files} (h : IsWd w pw D st mb md ws cs) (k : Keep (fun k => k = mb) w w') (hF : IsF w' mb F) : IsWd w' pw D { st with seen := F } mb md ws cs := by
  have hsz := k.size
  have nb := nobytes_map h.seen
  refine ⟨k.heap h.blk (fun q => h.pm.1 q.symm), hF, h.dur.keep k (fun q => h.ne q.symm) nb, h.ne, h.own.keep k fun b hb q => h.wm.1 (by rw [hb, q]), h.waits, fun c hc => (h.rows c hc).keep k fun b hb => ?_, h.dw, h.db, h.dd, h.ds, fun k hk => (by have := h.lt k hk; omega), nb_set h.nb h.lt k fun g cur q hg => ?_⟩
  · obtain ⟨cur, hcur⟩ := own_heap (h.rows c hc) hb
    exact nb b cur hcur
  · subst q; exact isF_map hF _ _ _ hg
theorem IsWd.setDur {F : Files} (h : IsWd w pw D st mb md ws cs) (k : Keep (fun k => k = md) w w') (hF : IsF w' md F) : IsWd w' pw D { st with dur := F } mb md ws cs := by
  have hsz := k.size
  have nb := nobytes_map h.dur
  refine ⟨k.heap h.blk (fun q => h.pm.2 q.symm), h.seen.keep k (fun q => h.ne q) nb, hF, h.ne, h.own.keep k fun b hb q => h.wm.2.1 (by rw [hb, q]), h.waits, fun c hc => (h.rows c hc).keep k fun b hb => ?_, h.dw, h.db, h.dd, h.ds, fun k hk => (by have := h.lt k hk; omega), nb_set h.nb h.lt k fun g cur q hg => ?_⟩
  · obtain ⟨cur, hcur⟩ := own_heap (h.rows c hc) hb
    exact nb b cur hcur
  · subst q; exact isF_map hF _ _ _ hg
/-- the row of what waits, changed: the world's block tells it -/
theorem IsWd.setWaits {w1 w2 : World} {ws' : Sl} {cs' : List (Cg × Sl)} (h : IsWd w pw D st mb md ws cs) (k : Keep (fun k => some k = ws.blk) w w1) (hown : Own w1 0 t_world_change 5 ws' (cs'.flatMap cgv)) (hat : ws'.blk = ws.blk ∨ ws'.blk = some w.heap.size ∨ ws'.blk = none)
    (hr : ∀ c ∈ cs', Own w 0 t_uint8 1 c.2 (bv c.1.p)) (hb : Blk w2 pw (wcells mb md ws' st.ops) t_world_World) (k2 : Keep (fun k => k = pw) w1 w2) :
    IsWd w2 pw (fun k => (k = pw ∨ k = mb ∨ k = md) ∨ some k = ws'.blk) { st with waits := cs'.map (·.1) } mb md ws' cs' ∧ Keep D w w2 ∧ ∀ k, ((k = pw ∨ k = mb ∨ k = md) ∨ some k = ws'.blk) → D k ∨ w.heap.size ≤ k := by
  have hsz := k.size
  have hsz2 := k2.size
  have nb1 : NoBytes w fun k => some k = ws.blk := fun g cur hg q => h.nb g cur hg (h.ds g q.symm)
  have hb1 : Blk w1 pw (wcells mb md ws st.ops) t_world_World := k.heap h.blk fun q => h.wm.2.2 q.symm
  have hwp : ws'.blk ≠ some pw := own_ne hown hb1 (by decide)
  have f1 := h.seen.keep k (fun q => h.wm.1 q.symm) nb1
  have d1 := h.dur.keep k (fun q => h.wm.2.1 q.symm) nb1
  have nb2 : NoBytes w1 fun k => k = pw := fun g cur hg q => by
    subst q; exact absurd (blk_type hb1 hg) (by decide)
  have f2 := f1.keep k2 h.pm.1 nb2
  have d2 := d1.keep k2 h.pm.2 nb2
  have o2 : Own w2 0 t_world_change 5 ws' (cs'.flatMap cgv) := hown.keep k2 fun b hb3 q => hwp (by rw [hb3, q])
  refine ⟨⟨hb, f2, d2, h.ne, o2, rfl, fun c hc => ((hr c hc).keep k fun b hb3 => ?_).keep k2 fun b hb3 => ?_, .inl (.inl rfl), .inl (.inr (.inl rfl)), .inl (.inr (.inr rfl)), fun g hg => .inr hg.symm, fun j hj => ?_, fun g cur hg q => ?_⟩,
    (k.mono fun i _ q => h.ds i q.symm).trans k2 fun i _ q => (by subst q; exact h.dw), fun j hj => ?_⟩
  · obtain ⟨cur, hcur⟩ := own_heap (hr c hc) hb3
    exact nb1 b cur hcur
  · have hc1 : Own w1 0 t_uint8 1 c.2 (bv c.1.p) := (hr c hc).keep k fun b hb4 => by
      obtain ⟨cur, hcur⟩ := own_heap (hr c hc) hb4
      exact nb1 b cur hcur
    obtain ⟨cur, hcur⟩ := own_heap hc1 hb3
    exact nb2 b cur hcur
  · rcases hj with (q | q | q) | q
    · have := lt_of_heap h.blk; omega
    · have := isF_lt f2; omega
    · have := isF_lt d2; omega
    · have := (hown.ge j q.symm).2; omega
  · rcases q with (q | q | q) | q
    · subst q; exact absurd (blk_type hb hg) (by decide)
    · subst q; exact isF_map f2 _ _ _ hg
    · subst q; exact isF_map d2 _ _ _ hg
    · obtain ⟨cur', hc'⟩ := own_heap o2 q.symm
      rw [hc'] at hg
      injection hg with hg
      injection hg with _ ht
      exact absurd ht (by decide)
  · rcases hj with (q | q | q) | q
    · exact .inl (q ▸ h.dw)
    · exact .inl (q ▸ h.db)
    · exact .inl (q ▸ h.dd)
    · rcases hat with r | r | r
      · exact .inl (h.ds j (by rw [← r]; exact q.symm))
      · rw [r] at q; injection q with q; exact .inr (by omega)
      · rw [r] at q; cases q
end
theorem cgv_flat (l : List (Cg × Sl)) : (l.flatMap cgv).length = l.length * 5 := flat_length cgv_len l
theorem do_w_spec {w : World} {pw : Nat} {D : Nat → Prop} {st : Wst} {name : ByteArray} {off : Nat} {p : Sl} {bs : L8} {R : Int → World → Prop} (hw : IsW w pw D st) (hp : Own w 0 t_uint8 1 p (bv bs)) (hb : off + bs.length ≤ 1048576)
    (ho : st.ops < 1000000000000) (hn : st.waits.length < 1000000000)
    (h : ∀ w' D', Keep D w w' → IsW w' pw D' ⟨applyWr st.seen name off bs, st.dur, st.waits ++ [⟨119, name, ⟨#[]⟩, off, bs⟩], st.ops + 1⟩ → (∀ k, D' k → D k ∨ w.heap.size ≤ k) → R 0 w') :
    Cworld_World_do (some ⟨pw, 0, none⟩) #[.int .u8 119, .string name, .string ⟨#[]⟩, .int .i64 (off : Int), .slice p.A p.n p.c] w R := by
  obtain ⟨mb, md, ws, cs, hw⟩ := hw
  refine Fworld_World_do.calls _ _ _ _ ?_
  generalize hx : ((⟨119, name, ⟨#[]⟩, off, bs⟩, p) : Cg × Sl) = x
  have hxv : (#[.int .u8 119, .string name, .string ⟨#[]⟩, .int .i64 (off : Int), .slice p.A p.n p.c] : Array Value) = (cgv x).toArray := by subst hx; rfl
  refine new_rule fun cb w0 hcb hb0 hg0 hsz0 => ?_
  rw [hxv] at hb0
  have hb0 : Blk w0 cb (cgv x).toArray t_world_change := hb0
  have hw0 := hw.keep hg0 (fun _ _ q => q) (nobytes_none w)
  refine call_spec hw0 ho fun w1 hk1 hw1 => br_f rfl ?_
  have hcp : cb ≠ pw := fun q => by have := lt_of_heap hw.blk; omega
  have hb1 := hk1.heap hb0 hcp
  rintro w2 rfl
  have hg2 : Grow w1 w1.drew := keep_drew w1
  have hw2 := hw1.keep hg2 (fun _ _ q => q) (nobytes_none w1)
  have hb2 := hg2.heap hb1 (fun q => q)
  have c4 : ∀ {u : World}, Blk u cb (cgv x).toArray t_world_change → u.cell? ((⟨cb, 0, none⟩ : Addr).add 4) = some (.slice p.A p.n p.c) := fun q => by subst hx; rw [add0, q.cell]; rfl
  have lv : ∀ {u : World}, Blk u cb (cgv x).toArray t_world_change → (loadVar t_world_change ⟨cb, 0, none⟩).run Try.prog u = .ok (.agg (cgv x).toArray) u := fun q => loadVar_rule g_world_change i_world_change rfl (blk_cells q)
  have hpn : bs.length = p.n := by have := hp.len; rw [bv_length] at this; omega
  have hp0 : Own w0 0 t_uint8 1 p (bv bs) := hp.grow hg0
  have nbp : ∀ {u : World} {st' : Wst} {ws' : Sl} {cs' : List (Cg × Sl)} {D' : Nat → Prop}, IsWd u pw D' st' mb md ws' cs' → NoBytes u fun k => k = pw := fun q g cur hg e => by subst e; exact absurd (blk_type q.blk hg) (by decide)
  have okeep : ∀ {u u' : World} {S : Nat → Prop}, Own u 0 t_uint8 1 p (bv bs) → Keep S u u' → NoBytes u S → Own u' 0 t_uint8 1 p (bv bs) := fun q k nb => q.keep k fun b hb3 => by
    obtain ⟨cur, hc⟩ := own_heap q hb3
    exact nb b cur hc
  have hp2 : Own w1.drew 0 t_uint8 1 p (bv bs) := (okeep hp0 hk1 (nbp hw0)).grow hg2
  refine ⟨fun u => Blk u pw (wcells mb md ws (st.ops + 1)) t_world_World ∧ Blk u cb (cgv x).toArray t_world_change, ⟨hw2.blk, hb2⟩, rfl, some mb, fun u hu => by rw [gA, add0, hu.1.cell]; rfl, (cgv x).toArray, fun u hu => lv hu.2, p, fun u hu => c4 hu.2, ?_⟩
  rw [← hxv]
  refine apply_w_spec hw2.seen (hp2.rd (by omega)) hb fun w3 hk3 hF3 => ?_
  have hw3 := hw2.setSeen hk3 hF3
  rw [List.take_of_length_le (by omega)] at hw3 hF3
  have hb3 : Blk w3 cb (cgv x).toArray t_world_change := hk3.heap hb2 fun q => isF_map hw2.seen _ _ _ (by rw [← q]; exact hb2)
  have hp3 := okeep hp2 hk3 (nobytes_map hw2.seen)
  rintro w4 rfl
  have hg4 : Grow w3 w3.drew := keep_drew w3
  have hw4 := hw3.keep hg4 (fun _ _ q => q) (nobytes_none w3)
  have hb4 := hg4.heap hb3 (fun q => q)
  have hlen : cs.length = st.waits.length := by rw [← hw.waits, List.length_map]
  have hwn : ws.n = cs.length := by have := hw.own.len; rw [cgv_flat] at this; omega
  refine ⟨fun u => Blk u pw (wcells mb md ws (st.ops + 1)) t_world_World ∧ Blk u cb (cgv x).toArray t_world_change, ⟨hw4.blk, hb4⟩, rfl, ws, fun u hu => by rw [gA, add0, hu.1.cell]; rfl, (cgv x).toArray, fun u hu => lv hu.2, ?_⟩
  refine lit_rule (cells := (cgv x).toArray) (e := t_world_change) (z := 5) (base := 0) (by subst hx; kernel_rfl) rfl (by decide) (Nat.zero_le _) fun w5 hlit5 hg5 _ => ⟨⟨hg5.heap hw4.blk (fun q => q), hg5.heap hb4 (fun q => q)⟩, ?_⟩
  have hw5 := hw4.keep hg5 (fun _ _ q => q) (nobytes_none _)
  refine append_rule u_sl_world_change i_world_change rfl (by decide) (by decide) hw5.own (hlit5.rd (by show 1 ≤ _; decide)) (by subst hx; simp [cgv, Value.oneCell']) (by show (ws.n + 1) * 72 ≤ _; omega) (Nat.zero_le _) fun ws' w6 hn6 hown6 hk6 hat6 => ?_
  have hb6 : Blk w6 pw (wcells mb md ws (st.ops + 1)) t_world_World := hk6.heap hw5.blk fun q => hw5.wm.2.2 q.symm
  refine ⟨rfl, ?_⟩
  rw [gA, add0]
  refine put_rule hb6 (by show 2 < 7; decide) rfl fun w7 hb7 hk7 hsz7 => ?_
  have hrows : ∀ c ∈ cs ++ [x], Own w5 0 t_uint8 1 c.2 (bv c.1.p) := fun c hc => by
    rcases List.mem_append.1 hc with q | q
    · exact hw5.rows c q
    · rw [List.mem_singleton.1 q]; subst hx; exact (hp3.grow hg4).grow hg5
  have hown6' : Own w6 0 t_world_change 5 ws' ((cs ++ [x]).flatMap cgv) := by
    rw [List.flatMap_append]
    simpa using hown6
  have hfin := hw5.setWaits (w1 := w6) (w2 := w7) (ws' := ws') (cs' := cs ++ [x]) hk6 hown6' (hat6.imp id .inl) hrows hb7 hk7
  have hKD : Keep D w w7 := by
    have k1 : Keep D w w1.drew := ((hg0.mono (S' := D) fun _ _ q => q.elim).trans hk1 fun _ _ q => (by subst q; exact hw.dw)).trans hg2 fun _ _ q => q.elim
    have k2 : Keep D w w5 := ((k1.trans hk3 fun _ _ q => (by subst q; exact hw.db)).trans hg4 fun _ _ q => q.elim).trans hg5 fun _ _ q => q.elim
    exact k2.trans hfin.2.1 fun _ _ q => q
  refine h w7 (fun k => (k = pw ∨ k = mb ∨ k = md) ∨ some k = ws'.blk) hKD ⟨mb, md, ws', cs ++ [x], ?_⟩ fun k hk => ?_
  · have := hfin.1
    rw [List.map_append, hw.waits] at this
    subst hx
    exact this
  · rcases hfin.2.2 k hk with q | q
    · exact .inl q
    · have h1 := hg0.size
      have h2 := hk1.size
      have h3 := hg2.size
      have h4 := hk3.size
      have h5 := hg4.size
      have h6 := hg5.size
      exact .inr (by omega)
end Go.Proofs.Ytaneeadpjelomaa

/- Layer 3: a world whose rows are old; what reads leave of it. -/
namespace Go.Proofs.Ytaneeadpjelomaa
open Go CF

/-- what of these blocks holds bytes is new -/
def NoBytesB (w : World) (S : Nat → Prop) (B : Nat) : Prop := ∀ g cur, w.heap[g]? = some (.cells cur t_uint8 (0, 0)) → S g → B ≤ g
theorem NoBytes.b {w : World} {S : Nat → Prop} (h : NoBytes w S) (B : Nat) : NoBytesB w S B := fun g cur hg q => absurd q (h g cur hg)
def FileAtB (w : World) (B : Nat) (v : Option Value) (l : Option L8) : Prop := FileAt w v l ∧ ∀ s : Sl, v = some (.slice s.A s.n s.c) → ∀ b, s.blk = some b → b < B
theorem FileAtB.keep {S : Nat → Prop} {w w' : World} {B : Nat} {v : Option Value} {l : Option L8} (h : FileAtB w B v l) (k : Keep S w w') (hn : NoBytesB w S B) : FileAtB w' B v l := by
  refine ⟨?_, h.2⟩
  cases l with
  | none => exact h.1
  | some l =>
    obtain ⟨⟨s, h1, h2, h3⟩, hB⟩ := h
    refine ⟨s, h1, h2.keep k fun b hb q => ?_, h3⟩
    obtain ⟨cur, hc⟩ := own_heap h2 hb
    have := hn b cur hc q
    have := hB s h1 b hb
    omega
theorem FileAt.toB {w : World} {v : Option Value} {l : Option L8} (h : FileAt w v l) : FileAtB w w.heap.size v l := by
  refine ⟨h, fun s hs b hb => ?_⟩
  cases l with
  | none => rw [show v = none from h] at hs; cases hs
  | some l =>
    obtain ⟨s', h1, h2, _⟩ := h
    rw [h1] at hs
    injection hs with hs
    injection hs with hA hn hc
    have : s'.blk = some b := by rw [← hb]; simp [Sl.blk, hA]
    obtain ⟨cur, hc⟩ := own_heap h2 this
    exact lt_of_heap hc
def IsFB (w : World) (mb : Nat) (F : Files) (B : Nat) : Prop := ∃ m, SMap w mb m ∧ ∀ s, FileAtB w B (m s) (F s)
theorem IsFB.keep {S : Nat → Prop} {w w' : World} {mb B : Nat} {F : Files} (h : IsFB w mb F B) (k : Keep S w w') (hm : ¬ S mb) (hn : NoBytesB w S B) : IsFB w' mb F B := by
  obtain ⟨m, h1, h2⟩ := h
  exact ⟨m, h1.keep k hm, fun s => (h2 s).keep k hn⟩
theorem IsFB.isF {w : World} {mb B : Nat} {F : Files} (h : IsFB w mb F B) : IsF w mb F := by
  obtain ⟨m, h1, h2⟩ := h
  exact ⟨m, h1, fun s => (h2 s).1⟩
theorem IsF.toB {w : World} {mb : Nat} {F : Files} (h : IsF w mb F) : IsFB w mb F w.heap.size := by
  obtain ⟨m, h1, h2⟩ := h
  exact ⟨m, h1, fun s => (h2 s).toB⟩
/-- the world's rows lie under B -/
def IsWB (w : World) (pw : Nat) (D : Nat → Prop) (st : Wst) (B : Nat) : Prop := ∃ mb md ws cs, IsWd w pw D st mb md ws cs ∧ IsFB w mb st.seen B ∧ IsFB w md st.dur B ∧ ∀ c ∈ cs, ∀ b, c.2.blk = some b → b < B
section
variable {w u v : World} {pw B : Nat} {D S : Nat → Prop} {st : Wst} {k : Nat}
theorem IsWB.isW (h : IsWB w pw D st B) : IsW w pw D st := by
  obtain ⟨mb, md, ws, cs, h, _⟩ := h
  exact ⟨mb, md, ws, cs, h⟩
theorem IsW.toB (h : IsW w pw D st) : IsWB w pw D st w.heap.size := by
  obtain ⟨mb, md, ws, cs, h⟩ := h
  refine ⟨mb, md, ws, cs, h, h.seen.toB, h.dur.toB, fun c hc b hb => ?_⟩
  obtain ⟨cur, hcur⟩ := own_heap (h.rows c hc) hb
  exact lt_of_heap hcur
theorem IsWB.keep (h : IsWB w pw D st B) (k : Keep S w u) (hd : ∀ k, D k → ¬ S k) (hs : NoBytesB w S B) : IsWB u pw D st B := by
  obtain ⟨mb, md, ws, cs, h, f1, f2, f3⟩ := h
  have hsz := k.size
  have g1 := f1.keep k (hd _ h.db) hs
  have g2 := f2.keep k (hd _ h.dd) hs
  refine ⟨mb, md, ws, cs, ⟨k.heap h.blk (hd _ h.dw), g1.isF, g2.isF, h.ne, h.own.keep k fun b hb => hd _ (h.ds b hb), h.waits, fun c hc => (h.rows c hc).keep k fun b hb q => ?_, h.dw, h.db, h.dd, h.ds, fun k hk => by have := h.lt k hk; omega, fun g cur hg q => ?_⟩, g1, g2, f3⟩
  · obtain ⟨cur, hcur⟩ := own_heap (h.rows c hc) hb
    have := hs b cur hcur q
    have := f3 c hc b hb
    omega
  · have hlt := h.lt g q
    have := k.block g hlt (hd g q)
    exact h.nb g cur (by rw [← this]; exact hg) q
theorem IsWB.grow (h : IsWB w pw D st B) (k : Grow w u) : IsWB u pw D st B := h.keep k (fun _ _ q => q) ((nobytes_none w).b B)
/-- k reads lie between two worlds -/
def RdW (w u : World) (pw : Nat) (D : Nat → Prop) (st : Wst) (k : Nat) : Prop := ∀ B, IsWB w pw D st B → IsWB u pw D { st with ops := st.ops + k } B
theorem RdW.isW (h : RdW w u pw D st k) (hw : IsW w pw D st) : IsW u pw D { st with ops := st.ops + k } := (h _ hw.toB).isW
theorem RdW.refl (w : World) (pw : Nat) (D : Nat → Prop) (st : Wst) : RdW w w pw D st 0 := fun _ h => h
theorem RdW.grow (h : RdW w u pw D st k) (g : Grow u v) : RdW w v pw D st k := fun B hB => (h B hB).grow g
theorem RdW.pre (h : RdW u v pw D st k) (g : Grow w u) : RdW w v pw D st k := fun B hB => h B (hB.grow g)
theorem RdW.keep (h : RdW w u pw D st k) (g : Keep S u v) (hd : ∀ k, D k → ¬ S k) (hs : NoBytes u S) : RdW w v pw D st k := fun B hB => (h B hB).keep g hd (hs.b B)
theorem RdW.trans {j : Nat} (h : RdW w u pw D st k) (g : RdW u v pw D { st with ops := st.ops + k } j) : RdW w v pw D st (k + j) := fun B hB => by
  have := g B (h B hB)
  rw [← Nat.add_assoc]; exact this
theorem rdW_call {mb md : Nat} {ws : Sl} {cs : List (Cg × Sl)} (hw : IsWd w pw D st mb md ws cs) (hk : Keep (fun k => k = pw) w u) (hw1 : IsWd u pw D { st with ops := st.ops + 1 } mb md ws cs) : RdW w u pw D st 1 := fun B hB => by
  obtain ⟨mb', md', ws', cs', h, f1, f2, f3⟩ := hB
  have nbp : NoBytes w fun k => k = pw := fun g cur hg q => hw.nb g cur hg (by subst q; exact hw.dw)
  have e := h.blk.symm.trans hw.blk
  injection e with e
  injection e with e
  have e := congrArg Array.toList e
  simp only [wcells, List.cons.injEq, Value.map.injEq, Option.some.injEq, Value.slice.injEq, true_and, and_true] at e
  obtain ⟨rfl, rfl, eA, en, ec⟩ := e
  obtain ⟨A, n, c⟩ := ws
  obtain ⟨A', n', c'⟩ := ws'
  dsimp only at eA en ec
  subst eA en ec
  have nm : mb' ≠ pw := fun q => isF_map hw.seen _ _ _ (by rw [q]; exact hw.blk)
  have nd : md' ≠ pw := fun q => isF_map hw.dur _ _ _ (by rw [q]; exact hw.blk)
  refine ⟨mb', md', _, cs', ⟨hw1.blk, hw1.seen, hw1.dur, hw1.ne, h.own.keep hk fun b hb2 q => ?_, h.waits, fun c hc => (h.rows c hc).keep hk fun b hb2 => ?_, hw1.dw, hw1.db, hw1.dd, h.ds, hw1.lt, hw1.nb⟩, f1.keep hk nm (nbp.b B), f2.keep hk nd (nbp.b B), f3⟩
  · obtain ⟨cur, hc⟩ := own_heap h.own hb2
    subst q
    exact absurd (blk_type hw.blk hc) (by decide)
  · obtain ⟨cur, hc2⟩ := own_heap (h.rows c hc) hb2
    exact nbp b cur hc2
end
end Go.Proofs.Ytaneeadpjelomaa

/- Layer 3: writes, reads. -/
namespace Go.Proofs.Ytaneeadpjelomaa
open Go CF

theorem bv_one' (l : L8) : ∀ u ∈ bv l, u.oneCell' = true := by
  intro u hu
  simp only [bv, List.mem_map] at hu
  obtain ⟨p, _, rfl⟩ := hu; rfl
theorem name_spec {s : ByteArray} {w : World} {R : Bool → World → Prop} (h : R (decide (1 ≤ s.size ∧ s.size ≤ 32)) w) : Cworld_name s w R := by
  refine Fworld_name.calls _ _ _ ?_
  have e : ((decide ((s.size : Int) ≥ 1)) && (decide ((s.size : Int) ≤ 32))) = decide (1 ≤ s.size ∧ s.size ≤ 32) := by
    rw [Bool.eq_iff_iff, Bool.and_eq_true, decide_eq_true_eq, decide_eq_true_eq, decide_eq_true_eq]
    omega
  unfold Fworld_name
  rw [e]
  exact h
theorem world_write_spec {w : World} {pw : Nat} {D : Nat → Prop} {st : Wst} {file : ByteArray} {off : Nat} {p : Sl} {bs : L8} {R : Int → World → Prop} (hw : IsW w pw D st) (hs : 1 ≤ file.size ∧ file.size ≤ 32) (hp : Rd w 1 p (bv bs)) (hb : off + bs.length ≤ 1048576)
    (ho : st.ops < 1000000000000) (hn : st.waits.length < 1000000000)
    (h : ∀ w' D', Keep D w w' → IsW w' pw D' ⟨applyWr st.seen file off bs, st.dur, st.waits ++ [⟨119, file, ⟨#[]⟩, off, bs⟩], st.ops + 1⟩ → (∀ k, D' k → D k ∨ w.heap.size ≤ k) → R 0 w') :
    Cworld_World_Write (some ⟨pw, 0, none⟩) file (off : Int) p w R := by
  refine Fworld_World_Write.calls _ _ _ _ _ _ ?_
  have hpn : bs.length = p.n := by have := hp.len; rw [bv_length] at this; omega
  refine name_spec ?_
  rw [decide_eq_true hs]
  refine br_f (by rw [Bool.or_eq_false_iff, decide_eq_false_iff_not]; exact ⟨rfl, by omega⟩) ?_
  have hwp : IntKind.wrap .i64 (1048576 - (off : Int)) = 1048576 - (off : Int) := w64 (by omega) (by omega)
  refine br_f (by rw [Bool.or_eq_false_iff, decide_eq_false_iff_not, decide_eq_false_iff_not, hwp]; omega) (br_f rfl ?_)
  refine append_rule (s := ⟨none, 0, 0⟩) (vs := []) (base := 0) u_sl_uint8 i_uint8 rfl (by decide) (by decide) (own_nil _ _ _ _) hp (bv_one' _) (by show (0 + p.n) * 1 ≤ _; omega) (Nat.zero_le _) fun s1 w1 hn1 hown1 hk1 _ => ?_
  have hg1 : Grow w w1 := hk1.mono fun i hi q => by cases q
  rw [List.nil_append] at hown1
  have hsz := hg1.size
  refine do_w_spec (hw.grow hg1) hown1 hb ho hn fun w2 D' hk2 hw2 hD => h w2 D' ((hg1.mono fun _ _ q => q.elim).trans hk2 fun _ _ q => q) hw2 fun k hk => ?_
  rcases hD k hk with q | q
  · exact .inl q
  · exact .inr (by omega)
theorem world_readR_spec {w : World} {pw : Nat} {D : Nat → Prop} {st : Wst} {file : ByteArray} {off n : Nat} {R : Sl → Int → World → Prop} (hw : IsW w pw D st) (hs : 1 ≤ file.size ∧ file.size ≤ 32) (hb : off ≤ 1000000000) (hb2 : n ≤ 1000000000)
    (ho : st.ops < 1000000000000)
    (h : ∀ s w', Keep D w w' → RdW w w' pw D st 1 → Own w' w.heap.size t_uint8 1 s (bv ((((st.seen file).getD []).drop off).take n)) → s.n ≤ 1048576 → R s (if (st.seen file).isSome then 0 else 8) w') :
    Cworld_World_Read (some ⟨pw, 0, none⟩) file (off : Int) (n : Int) w R := by
  obtain ⟨mb, md, ws, cs, hw⟩ := hw
  refine Fworld_World_Read.calls _ _ _ _ _ _ ?_
  refine name_spec ?_
  rw [decide_eq_true hs]
  refine br_f (by rw [Bool.or_eq_false_iff, Bool.or_eq_false_iff, decide_eq_false_iff_not, decide_eq_false_iff_not]; exact ⟨⟨rfl, by omega⟩, by omega⟩) (br_f rfl ⟨rfl, some mb, by rw [gA, add0, hw.blk.cell]; rfl, ?_⟩)
  obtain ⟨r, hlk, _, hown, hr2, hol⟩ := file_look hw.seen file
  refine ⟨r, hlk, ?_⟩
  refine call_spec hw ho fun w1 hk1 hw1 => br_f rfl ?_
  have hkD : Keep D w w1 := hk1.mono fun _ _ q => by subst q; exact hw.dw
  have hw1' : RdW w w1 pw D st 1 := rdW_call hw hk1 hw1
  have hsz := hk1.size
  cases hF : st.seen file with
  | none =>
    rw [hF] at hr2
    refine br_t (by rw [hr2]; rfl) ?_
    have := h ⟨none, 0, 0⟩ w1 hkD hw1'
    rw [hF] at this
    exact this (by simp only [Option.getD_none, List.drop_nil, List.take_nil]; exact own_nil _ _ _ _) (Nat.zero_le _)
  | some l =>
    rw [hF] at hr2 hown hol h
    simp only [Option.getD_some, Option.isSome_some, if_true] at hr2 hown hol h
    refine br_f (by rw [hr2]; rfl) ?_
    have hln : l.length = r.1.n := by have := hown.len; rw [bv_length] at this; omega
    have hown1 : Own w1 0 t_uint8 1 r.1 (bv l) := hown.keep hk1 fun b hb3 q => by
      obtain ⟨cur, hc⟩ := own_heap hown hb3
      subst q
      exact absurd (blk_type hw.blk hc) (by decide)
    refine br_dec (fun hge => ?_) (fun hlt => ?_)
    · have := h ⟨none, 0, 0⟩ w1 hkD hw1'
      rw [List.drop_of_length_le (by omega), List.take_nil] at this
      exact this (own_nil w1 w.heap.size t_uint8 1) (Nat.zero_le _)
    · have hrd := hown1.rd (by omega)
      have hcap := hrd.cap
      have e1 : IntKind.wrap .i64 ((r.1.n : Int) - (off : Int)) = ((r.1.n - off : Nat) : Int) := by rw [w64 (by omega) (by omega)]; omega
      have e2 : IntKind.wrap .i64 ((off : Int) + (mn (n : Int) (IntKind.wrap .i64 ((r.1.n : Int) - (off : Int))))) = ((off + min n (r.1.n - off) : Nat) : Int) := by
        rw [e1, mn_nat, w64 (by omega) (by omega)]; omega
      rw [e2]
      refine ⟨⟨by omega, by omega, by omega, hcap⟩, ?_⟩
      simp only [Int.toNat_natCast]
      have hx := hrd.cutB (l := off) (k := off + min n (r.1.n - off)) (by omega) (by omega)
      refine append_rule (s := ⟨none, 0, 0⟩) (vs := []) (base := w.heap.size) u_sl_uint8 i_uint8 rfl (by decide) (by decide) (own_nil _ _ _ _) hx (bv_one' _) (by show (0 + (off + min n (r.1.n - off) - off)) * 1 ≤ _; omega) hsz fun s2 w2 hn2 hown2 hk2 _ => ?_
      have hg2 : Grow w1 w2 := hk2.mono fun i hi q => by cases q
      rw [List.nil_append] at hown2
      have e3 : (l.drop off).take (off + min n (r.1.n - off) - off) = (l.drop off).take n := by
        rw [show off + min n (r.1.n - off) - off = min n (l.drop off).length by rw [List.length_drop]; omega]
        rcases Nat.le_total n (l.drop off).length with q | q
        · rw [Nat.min_eq_left q]
        · rw [Nat.min_eq_right q, List.take_length, List.take_of_length_le q]
      rw [e3] at hown2
      refine h s2 w2 (hkD.grow hg2) (hw1'.grow hg2) hown2 ?_
      have : s2.n = 0 + (off + min n (r.1.n - off) - off) := hn2
      omega
theorem world_read_spec {w : World} {pw : Nat} {D : Nat → Prop} {st : Wst} {file : ByteArray} {off n : Nat} {R : Sl → Int → World → Prop} (hw : IsW w pw D st) (hs : 1 ≤ file.size ∧ file.size ≤ 32) (hb : off ≤ 1000000000) (hb2 : n ≤ 1000000000)
    (ho : st.ops < 1000000000000)
    (h : ∀ s w', Keep D w w' → IsW w' pw D { st with ops := st.ops + 1 } → Own w' w.heap.size t_uint8 1 s (bv ((((st.seen file).getD []).drop off).take n)) → s.n ≤ 1048576 → R s (if (st.seen file).isSome then 0 else 8) w') :
    Cworld_World_Read (some ⟨pw, 0, none⟩) file (off : Int) (n : Int) w R := world_readR_spec hw hs hb hb2 ho fun s w' k r => h s w' k (r.isW hw)
end Go.Proofs.Ytaneeadpjelomaa
