import Derived.Laws.MakeOwn
import Derived.Lib.AppendZerosOnto
import Derived.Deep.DeepAppendWide
import Derived.Test.YtaneeadpjelomaaDoorB3
/- Layer 3: the world's calls, where no call fails. -/
namespace Go.Proofs.YtaneeadpjelomaaDoor
open Go CF

/-- what waits -/
structure Cg where
  kind : Int
  name : ByteArray
  to : ByteArray
  off : Nat
  p : L8
def cgv (x : Cg × Sl) : List Value := [.int .u8 x.1.kind, .string x.1.name, .string x.1.to, .int .i64 (x.1.off : Int), .slice x.2.A x.2.n x.2.c]
theorem cgv_len (x : Cg × Sl) : (cgv x).length = 5 := rfl
/-- a world as it is meant: no call fails -/
structure Wst where
  seen : Files
  dur : Files
  waits : List Cg
  ops : Nat
def wcells (mb md : Nat) (ws : Sl) (ops : Nat) : Array Value := #[.map (some mb), .map (some md), .slice ws.A ws.n ws.c, .int .i64 (ops : Int), .map none, .int .i64 (-1), .bool false]
/-- the world lies at a block; D: the blocks that it may write over -/
structure IsWd (w : World) (pw : Nat) (D : Nat → Prop) (st : Wst) (mb md : Nat) (ws : Sl) (cs : List (Cg × Sl)) : Prop where
  blk : Blk w pw (wcells mb md ws st.ops) t_world_World
  seen : IsF w mb st.seen
  dur : IsF w md st.dur
  ne : mb ≠ md
  own : Own w 0 t_world_change 5 ws (cs.flatMap cgv)
  waits : cs.map (·.1) = st.waits
  rows : ∀ c ∈ cs, Own w 0 t_uint8 1 c.2 (bv c.1.p)
  dw : D pw
  db : D mb
  dd : D md
  ds : ∀ g, ws.blk = some g → D g
  lt : ∀ k, D k → k < w.heap.size
  nb : NoBytes w D
def IsW (w : World) (pw : Nat) (D : Nat → Prop) (st : Wst) : Prop := ∃ mb md ws cs, IsWd w pw D st mb md ws cs
theorem IsWd.keep {S : Nat → Prop} {w w' : World} {pw : Nat} {D : Nat → Prop} {st : Wst} {mb md : Nat} {ws : Sl} {cs : List (Cg × Sl)} (h : IsWd w pw D st mb md ws cs) (k : Keep S w w') (hd : ∀ k, D k → ¬ S k) (hs : NoBytes w S) :
    IsWd w' pw D st mb md ws cs := by
  have hsz := k.size
  refine ⟨k.heap h.blk (hd _ h.dw), h.seen.keep k (hd _ h.db) hs, h.dur.keep k (hd _ h.dd) hs, h.ne, h.own.keep k fun b hb => hd _ (h.ds b hb), h.waits, fun c hc => (h.rows c hc).keep k fun b hb => ?_, h.dw, h.db, h.dd, h.ds, fun k hk => by have := h.lt k hk; omega, fun g cur hg q => ?_⟩
  · obtain ⟨cur, hcur⟩ := own_heap (h.rows c hc) hb
    exact hs b cur hcur
  · have hlt := h.lt g q
    have := k.block g hlt (hd g q)
    exact h.nb g cur (by rw [← this]; exact hg) q
theorem IsW.keep {S : Nat → Prop} {w w' : World} {pw : Nat} {D : Nat → Prop} {st : Wst} (h : IsW w pw D st) (k : Keep S w w') (hd : ∀ k, D k → ¬ S k) (hs : NoBytes w S) : IsW w' pw D st := by
  obtain ⟨mb, md, ws, cs, h⟩ := h
  exact ⟨mb, md, ws, cs, h.keep k hd hs⟩
theorem IsW.grow {w w' : World} {pw : Nat} {D : Nat → Prop} {st : Wst} (h : IsW w pw D st) (k : Grow w w') : IsW w' pw D st := h.keep k (fun _ _ q => q) (nobytes_none w)
/-- a world made -/
theorem world_new_spec {w : World} {R : Option Addr → World → Prop}
    (h : ∀ pw D w', Grow w w' → IsW w' pw D ⟨fun _ => none, fun _ => none, [], 0⟩ → (∀ k, D k → w.heap.size ≤ k) → R (some ⟨pw, 0, none⟩) w') : Cworld_New w R := by
  refine Fworld_New.calls _ _ ?_
  rintro mb w1 rfl rfl
  rintro md w2 rfl rfl
  refine new_rule fun pw w3 hpw hb3 hg3 hsz3 => ?_
  have hg1 := keep_alloc w (.map #[] 0)
  have hg2 := keep_alloc (w.alloc (.map #[] 0)) (.map #[] 0)
  have s1 : (w.alloc (.map #[] 0)).heap.size = w.heap.size + 1 := by simp
  have s2 : ((w.alloc (.map #[] 0)).alloc (.map #[] 0)).heap.size = w.heap.size + 2 := by simp
  have f1 : IsF w3 w.heap.size fun _ => none := ((isF_new w).grow hg2).grow hg3
  have f2 : IsF w3 (w.alloc (.map #[] 0)).heap.size fun _ => none := (isF_new _).grow hg3
  refine h pw (fun k => k = pw ∨ k = w.heap.size ∨ k = (w.alloc (.map #[] 0)).heap.size) w3 ((hg1.trans hg2).trans hg3) ⟨w.heap.size, (w.alloc (.map #[] 0)).heap.size, ⟨none, 0, 0⟩, [], ?_⟩ fun k hk => by omega
  refine ⟨hb3, f1, f2, by omega, own_nil _ _ _ _, rfl, fun c hc => (by cases hc), .inl rfl, .inr (.inl rfl), .inr (.inr rfl), fun g hg => (by simp [Sl.blk] at hg), fun k hk => (by omega), fun g cur hg q => ?_⟩
  rcases q with rfl | rfl | rfl
  · rw [hb3] at hg
    injection hg with hg
    injection hg with _ ht
    exact absurd ht (by decide)
  · exact isF_map f1 _ _ _ hg
  · exact isF_map f2 _ _ _ hg
theorem checkKey_int {P : Program} {w : World} {k : TypeId} {q : IntKind} (ek : Bool) (n : Nat) (hk : P.underlying k = some (.int q)) (z : Int) : (Instr.checkKey ek (n + 1) k (.int q z)).run P w = .ok () w := by
  unfold Instr.checkKey
  simp [run_underlying hk]
theorem nil_look (w : World) (n : Int) : (Instr.lookup t_map_int_bool (.map none) (.int .i64 n) false).run Tryd.prog w = .ok (.bool false) w := by
  have hf : (Instr.findKey 3 (.int .i64 n) []).run Tryd.prog w = .ok none w := by
    unfold Instr.findKey
    simp [run_underlying u_int, Instr.findNow]
  unfold Instr.lookup
  simp [run_underlying u_map_int_bool, checkKey_int _ _ u_int, hf, zero_rule i_bool]
/-- a counted call -/
theorem call_spec {w : World} {pw : Nat} {D : Nat → Prop} {st : Wst} {mb md : Nat} {ws : Sl} {cs : List (Cg × Sl)} {R : Int → World → Prop} (hw : IsWd w pw D st mb md ws cs) (ho : st.ops < 1000000000000)
    (h : ∀ w', Keep (fun k => k = pw) w w' → IsWd w' pw D { st with ops := st.ops + 1 } mb md ws cs → R 0 w') : Cworld_World_call (some ⟨pw, 0, none⟩) w R := by
  refine Fworld_World_call.calls _ _ _ ?_
  have hb := hw.blk
  refine ⟨rfl, false, by rw [gA, add0, hb.cell]; rfl, br_f rfl ⟨rfl, (st.ops : Int), by rw [gA, add0, hb.cell]; rfl, rfl, (st.ops : Int), by rw [gA, add0, hb.cell]; rfl, rfl, ?_⟩⟩
  rw [w64 (by omega) (by omega)]
  rw [gA, add0]
  refine put_rule hb (by show 3 < 7; decide) rfl fun w1 hb1 hk1 hsz1 => ?_
  have hb1 : Blk w1 pw (wcells mb md ws (st.ops + 1)) t_world_World := hb1
  refine ⟨rfl, -1, by rw [add0, hb1.cell]; rfl, br_f (by rw [beq_eq_false_iff_ne]; omega) ⟨rfl, none, by rw [add0, hb1.cell]; rfl, false, ?_, br_f rfl ?_⟩⟩
  · exact nil_look _ _
  · refine h w1 hk1 ?_
    have nbp : NoBytes w fun k => k = pw := fun g cur hg q => hw.nb g cur hg (by subst q; exact hw.dw)
    have nm : mb ≠ pw := fun q => isF_map hw.seen _ _ _ (by rw [q]; exact hb)
    have nd : md ≠ pw := fun q => isF_map hw.dur _ _ _ (by rw [q]; exact hb)
    refine ⟨hb1, hw.seen.keep hk1 nm nbp, hw.dur.keep hk1 nd nbp, hw.ne, hw.own.keep hk1 fun b hb2 q => ?_, hw.waits, fun c hc => (hw.rows c hc).keep hk1 fun b hb2 => ?_, hw.dw, hw.db, hw.dd, hw.ds, fun k hk => by have := hw.lt k hk; omega, fun g cur hg q => ?_⟩
    · obtain ⟨cur, hc⟩ := own_heap hw.own hb2
      subst q
      rw [hb] at hc
      injection hc with hc
      injection hc with _ ht
      exact absurd ht (by decide)
    · obtain ⟨cur, hc2⟩ := own_heap (hw.rows c hc) hb2
      exact nbp b cur hc2
    · by_cases e : g = pw
      · subst e
        rw [hb1] at hg
        injection hg with hg
        injection hg with _ ht
        exact absurd ht (by decide)
      · exact hw.nb g cur (by rw [← hk1.block g (hw.lt g q) e]; exact hg) q
end Go.Proofs.YtaneeadpjelomaaDoor

/- Layer 3: changes, writes. -/
namespace Go.Proofs.YtaneeadpjelomaaDoor
open Go CF

theorem blk_cells {w : World} {b : Nat} {l : List Value} {t : TypeId} (h : Blk w b l.toArray t) : Cells w ⟨b, 0, none⟩ l := fun j v hj => by
  rw [add0, h.cell]; simpa using hj
theorem blk_type {w : World} {b : Nat} {cs cs' : Array Value} {t t' : TypeId} {f : Nat × Nat} (h : Blk w b cs t) (h' : w.heap[b]? = some (.cells cs' t' f)) : t = t' := by
  rw [h] at h'
  injection h' with h'
  injection h'
theorem own_ne {w : World} {base : Nat} {e : TypeId} {z : Nat} {s : Sl} {vs : List Value} (h : Own w base e z s vs) {b : Nat} {cs : Array Value} {t : TypeId} (hb : Blk w b cs t) (hne : t ≠ e) : s.blk ≠ some b := fun q => by
  obtain ⟨cur, hc⟩ := own_heap h q
  exact hne (blk_type hb hc)
section
variable {w w' : World} {pw : Nat} {D : Nat → Prop} {st : Wst} {mb md : Nat} {ws : Sl} {cs : List (Cg × Sl)}
theorem IsWd.pm (h : IsWd w pw D st mb md ws cs) : mb ≠ pw ∧ md ≠ pw := ⟨fun q => isF_map h.seen _ _ _ (by rw [q]; exact h.blk), fun q => isF_map h.dur _ _ _ (by rw [q]; exact h.blk)⟩
theorem IsWd.wm (h : IsWd w pw D st mb md ws cs) : ws.blk ≠ some mb ∧ ws.blk ≠ some md ∧ ws.blk ≠ some pw := by
  refine ⟨fun q => ?_, fun q => ?_, own_ne h.own h.blk (by decide)⟩
  · obtain ⟨cur, hc⟩ := own_heap h.own q; exact isF_map h.seen _ _ _ hc
  · obtain ⟨cur, hc⟩ := own_heap h.own q; exact isF_map h.dur _ _ _ hc
theorem nb_set {S : Nat → Prop} (h : NoBytes w D) (hl : ∀ k, D k → k < w.heap.size) (k : Keep S w w') (hs : ∀ g cur, S g → w'.heap[g]? ≠ some (.cells cur t_uint8 (0, 0))) : NoBytes w' D := fun g cur hg q => by
  by_cases e : S g
  · exact hs g cur e hg
  · exact h g cur (by rw [← k.block g (hl g q) e]; exact hg) q
theorem IsWd.setSeen {F : Files} (h : IsWd w pw D st mb md ws cs) (k : Keep (fun k => k = mb) w w') (hF : IsF w' mb F) : IsWd w' pw D { st with seen := F } mb md ws cs := by
  have hsz := k.size
  have nb := nobytes_map h.seen
  refine ⟨k.heap h.blk (fun q => h.pm.1 q.symm), hF, h.dur.keep k (fun q => h.ne q.symm) nb, h.ne, h.own.keep k fun b hb q => h.wm.1 (by rw [hb, q]), h.waits, fun c hc => (h.rows c hc).keep k fun b hb => ?_, h.dw, h.db, h.dd, h.ds, fun k hk => (by have := h.lt k hk; omega), nb_set h.nb h.lt k fun g cur q hg => ?_⟩
  · obtain ⟨cur, hcur⟩ := own_heap (h.rows c hc) hb
    exact nb b cur hcur
  · subst q; exact isF_map hF _ _ _ hg
theorem IsWd.setDur {F : Files} (h : IsWd w pw D st mb md ws cs) (k : Keep (fun k => k = md) w w') (hF : IsF w' md F) : IsWd w' pw D { st with dur := F } mb md ws cs := by
  have hsz := k.size
  have nb := nobytes_map h.dur
  refine ⟨k.heap h.blk (fun q => h.pm.2 q.symm), h.seen.keep k (fun q => h.ne q) nb, hF, h.ne, h.own.keep k fun b hb q => h.wm.2.1 (by rw [hb, q]), h.waits, fun c hc => (h.rows c hc).keep k fun b hb => ?_, h.dw, h.db, h.dd, h.ds, fun k hk => (by have := h.lt k hk; omega), nb_set h.nb h.lt k fun g cur q hg => ?_⟩
  · obtain ⟨cur, hcur⟩ := own_heap (h.rows c hc) hb
    exact nb b cur hcur
  · subst q; exact isF_map hF _ _ _ hg
/-- the row of what waits, changed: the world's block tells it -/
theorem IsWd.setWaits {w1 w2 : World} {ws' : Sl} {cs' : List (Cg × Sl)} (h : IsWd w pw D st mb md ws cs) (k : Keep (fun k => some k = ws.blk) w w1) (hown : Own w1 0 t_world_change 5 ws' (cs'.flatMap cgv)) (hat : ws'.blk = ws.blk ∨ ws'.blk = some w.heap.size ∨ ws'.blk = none)
    (hr : ∀ c ∈ cs', Own w 0 t_uint8 1 c.2 (bv c.1.p)) (hb : Blk w2 pw (wcells mb md ws' st.ops) t_world_World) (k2 : Keep (fun k => k = pw) w1 w2) :
    IsWd w2 pw (fun k => (k = pw ∨ k = mb ∨ k = md) ∨ some k = ws'.blk) { st with waits := cs'.map (·.1) } mb md ws' cs' ∧ Keep D w w2 ∧ ∀ k, ((k = pw ∨ k = mb ∨ k = md) ∨ some k = ws'.blk) → D k ∨ w.heap.size ≤ k := by
  have hsz := k.size
  have hsz2 := k2.size
  have nb1 : NoBytes w fun k => some k = ws.blk := fun g cur hg q => h.nb g cur hg (h.ds g q.symm)
  have hb1 : Blk w1 pw (wcells mb md ws st.ops) t_world_World := k.heap h.blk fun q => h.wm.2.2 q.symm
  have hwp : ws'.blk ≠ some pw := own_ne hown hb1 (by decide)
  have f1 := h.seen.keep k (fun q => h.wm.1 q.symm) nb1
  have d1 := h.dur.keep k (fun q => h.wm.2.1 q.symm) nb1
  have nb2 : NoBytes w1 fun k => k = pw := fun g cur hg q => by
    subst q; exact absurd (blk_type hb1 hg) (by decide)
  have f2 := f1.keep k2 h.pm.1 nb2
  have d2 := d1.keep k2 h.pm.2 nb2
  have o2 : Own w2 0 t_world_change 5 ws' (cs'.flatMap cgv) := hown.keep k2 fun b hb3 q => hwp (by rw [hb3, q])
  refine ⟨⟨hb, f2, d2, h.ne, o2, rfl, fun c hc => ((hr c hc).keep k fun b hb3 => ?_).keep k2 fun b hb3 => ?_, .inl (.inl rfl), .inl (.inr (.inl rfl)), .inl (.inr (.inr rfl)), fun g hg => .inr hg.symm, fun j hj => ?_, fun g cur hg q => ?_⟩,
    (k.mono fun i _ q => h.ds i q.symm).trans k2 fun i _ q => (by subst q; exact h.dw), fun j hj => ?_⟩
  · obtain ⟨cur, hcur⟩ := own_heap (hr c hc) hb3
    exact nb1 b cur hcur
  · have hc1 : Own w1 0 t_uint8 1 c.2 (bv c.1.p) := (hr c hc).keep k fun b hb4 => by
      obtain ⟨cur, hcur⟩ := own_heap (hr c hc) hb4
      exact nb1 b cur hcur
    obtain ⟨cur, hcur⟩ := own_heap hc1 hb3
    exact nb2 b cur hcur
  · rcases hj with (q | q | q) | q
    · have := lt_of_heap h.blk; omega
    · have := isF_lt f2; omega
    · have := isF_lt d2; omega
    · have := (hown.ge j q.symm).2; omega
  · rcases q with (q | q | q) | q
    · subst q; exact absurd (blk_type hb hg) (by decide)
    · subst q; exact isF_map f2 _ _ _ hg
    · subst q; exact isF_map d2 _ _ _ hg
    · obtain ⟨cur', hc'⟩ := own_heap o2 q.symm
      rw [hc'] at hg
      injection hg with hg
      injection hg with _ ht
      exact absurd ht (by decide)
  · rcases hj with (q | q | q) | q
    · exact .inl (q ▸ h.dw)
    · exact .inl (q ▸ h.db)
    · exact .inl (q ▸ h.dd)
    · rcases hat with r | r | r
      · exact .inl (h.ds j (by rw [← r]; exact q.symm))
      · rw [r] at q; injection q with q; exact .inr (by omega)
      · rw [r] at q; cases q
end
theorem cgv_flat (l : List (Cg × Sl)) : (l.flatMap cgv).length = l.length * 5 := flat_length cgv_len l
theorem do_w_spec {w : World} {pw : Nat} {D : Nat → Prop} {st : Wst} {name : ByteArray} {off : Nat} {p : Sl} {bs : L8} {R : Int → World → Prop} (hw : IsW w pw D st) (hp : Own w 0 t_uint8 1 p (bv bs)) (hb : off + bs.length ≤ 1048576)
    (ho : st.ops < 1000000000000) (hn : st.waits.length < 1000000000)
    (h : ∀ w' D', Keep D w w' → IsW w' pw D' ⟨applyWr st.seen name off bs, st.dur, st.waits ++ [⟨119, name, ⟨#[]⟩, off, bs⟩], st.ops + 1⟩ → (∀ k, D' k → D k ∨ w.heap.size ≤ k) → R 0 w') :
    Cworld_World_do (some ⟨pw, 0, none⟩) #[.int .u8 119, .string name, .string ⟨#[]⟩, .int .i64 (off : Int), .slice p.A p.n p.c] w R := by
  obtain ⟨mb, md, ws, cs, hw⟩ := hw
  refine Fworld_World_do.calls _ _ _ _ ?_
  generalize hx : ((⟨119, name, ⟨#[]⟩, off, bs⟩, p) : Cg × Sl) = x
  have hxv : (#[.int .u8 119, .string name, .string ⟨#[]⟩, .int .i64 (off : Int), .slice p.A p.n p.c] : Array Value) = (cgv x).toArray := by subst hx; rfl
  refine new_rule fun cb w0 hcb hb0 hg0 hsz0 => ?_
  rw [hxv] at hb0
  have hb0 : Blk w0 cb (cgv x).toArray t_world_change := hb0
  have hw0 := hw.keep hg0 (fun _ _ q => q) (nobytes_none w)
  refine call_spec hw0 ho fun w1 hk1 hw1 => br_f rfl ?_
  have hcp : cb ≠ pw := fun q => by have := lt_of_heap hw.blk; omega
  have hb1 := hk1.heap hb0 hcp
  rintro w2 rfl
  have hg2 : Grow w1 w1.drew := keep_drew w1
  have hw2 := hw1.keep hg2 (fun _ _ q => q) (nobytes_none w1)
  have hb2 := hg2.heap hb1 (fun q => q)
  have c4 : ∀ {u : World}, Blk u cb (cgv x).toArray t_world_change → u.cell? ((⟨cb, 0, none⟩ : Addr).add 4) = some (.slice p.A p.n p.c) := fun q => by subst hx; rw [add0, q.cell]; rfl
  have lv : ∀ {u : World}, Blk u cb (cgv x).toArray t_world_change → (loadVar t_world_change ⟨cb, 0, none⟩).run Tryd.prog u = .ok (.agg (cgv x).toArray) u := fun q => loadVar_rule g_world_change i_world_change rfl (blk_cells q)
  have hpn : bs.length = p.n := by have := hp.len; rw [bv_length] at this; omega
  have hp0 : Own w0 0 t_uint8 1 p (bv bs) := hp.grow hg0
  have nbp : ∀ {u : World} {st' : Wst} {ws' : Sl} {cs' : List (Cg × Sl)} {D' : Nat → Prop}, IsWd u pw D' st' mb md ws' cs' → NoBytes u fun k => k = pw := fun q g cur hg e => by subst e; exact absurd (blk_type q.blk hg) (by decide)
  have okeep : ∀ {u u' : World} {S : Nat → Prop}, Own u 0 t_uint8 1 p (bv bs) → Keep S u u' → NoBytes u S → Own u' 0 t_uint8 1 p (bv bs) := fun q k nb => q.keep k fun b hb3 => by
    obtain ⟨cur, hc⟩ := own_heap q hb3
    exact nb b cur hc
  have hp2 : Own w1.drew 0 t_uint8 1 p (bv bs) := (okeep hp0 hk1 (nbp hw0)).grow hg2
  refine ⟨fun u => Blk u pw (wcells mb md ws (st.ops + 1)) t_world_World ∧ Blk u cb (cgv x).toArray t_world_change, ⟨hw2.blk, hb2⟩, rfl, some mb, fun u hu => by rw [gA, add0, hu.1.cell]; rfl, (cgv x).toArray, fun u hu => lv hu.2, p, fun u hu => c4 hu.2, ?_⟩
  rw [← hxv]
  refine apply_w_spec hw2.seen (hp2.rd (by omega)) hb fun w3 hk3 hF3 => ?_
  have hw3 := hw2.setSeen hk3 hF3
  rw [List.take_of_length_le (by omega)] at hw3 hF3
  have hb3 : Blk w3 cb (cgv x).toArray t_world_change := hk3.heap hb2 fun q => isF_map hw2.seen _ _ _ (by rw [← q]; exact hb2)
  have hp3 := okeep hp2 hk3 (nobytes_map hw2.seen)
  rintro w4 rfl
  have hg4 : Grow w3 w3.drew := keep_drew w3
  have hw4 := hw3.keep hg4 (fun _ _ q => q) (nobytes_none w3)
  have hb4 := hg4.heap hb3 (fun q => q)
  have hlen : cs.length = st.waits.length := by rw [← hw.waits, List.length_map]
  have hwn : ws.n = cs.length := by have := hw.own.len; rw [cgv_flat] at this; omega
  refine ⟨fun u => Blk u pw (wcells mb md ws (st.ops + 1)) t_world_World ∧ Blk u cb (cgv x).toArray t_world_change, ⟨hw4.blk, hb4⟩, rfl, ws, fun u hu => by rw [gA, add0, hu.1.cell]; rfl, (cgv x).toArray, fun u hu => lv hu.2, ?_⟩
  refine lit_rule (cells := (cgv x).toArray) (e := t_world_change) (z := 5) (base := 0) (by subst hx; kernel_rfl) rfl (by decide) (Nat.zero_le _) fun w5 hlit5 hg5 _ => ⟨⟨hg5.heap hw4.blk (fun q => q), hg5.heap hb4 (fun q => q)⟩, ?_⟩
  have hw5 := hw4.keep hg5 (fun _ _ q => q) (nobytes_none _)
  refine append_rule u_sl_world_change i_world_change rfl (by decide) (by decide) hw5.own (hlit5.rd (by show 1 ≤ _; decide)) (by subst hx; simp [cgv, Value.oneCell']) (by show (ws.n + 1) * 72 ≤ _; omega) (Nat.zero_le _) fun ws' w6 hn6 hown6 hk6 hat6 => ?_
  have hb6 : Blk w6 pw (wcells mb md ws (st.ops + 1)) t_world_World := hk6.heap hw5.blk fun q => hw5.wm.2.2 q.symm
  refine ⟨rfl, ?_⟩
  rw [gA, add0]
  refine put_rule hb6 (by show 2 < 7; decide) rfl fun w7 hb7 hk7 hsz7 => ?_
  have hrows : ∀ c ∈ cs ++ [x], Own w5 0 t_uint8 1 c.2 (bv c.1.p) := fun c hc => by
    rcases List.mem_append.1 hc with q | q
    · exact hw5.rows c q
    · rw [List.mem_singleton.1 q]; subst hx; exact (hp3.grow hg4).grow hg5
  have hown6' : Own w6 0 t_world_change 5 ws' ((cs ++ [x]).flatMap cgv) := by
    rw [List.flatMap_append]
    simpa using hown6
  have hfin := hw5.setWaits (w1 := w6) (w2 := w7) (ws' := ws') (cs' := cs ++ [x]) hk6 hown6' (hat6.imp id .inl) hrows hb7 hk7
  have hKD : Keep D w w7 := by
    have k1 : Keep D w w1.drew := ((hg0.mono (S' := D) fun _ _ q => q.elim).trans hk1 fun _ _ q => (by subst q; exact hw.dw)).trans hg2 fun _ _ q => q.elim
    have k2 : Keep D w w5 := ((k1.trans hk3 fun _ _ q => (by subst q; exact hw.db)).trans hg4 fun _ _ q => q.elim).trans hg5 fun _ _ q => q.elim
    exact k2.trans hfin.2.1 fun _ _ q => q
  refine h w7 (fun k => (k = pw ∨ k = mb ∨ k = md) ∨ some k = ws'.blk) hKD ⟨mb, md, ws', cs ++ [x], ?_⟩ fun k hk => ?_
  · have := hfin.1
    rw [List.map_append, hw.waits] at this
    subst hx
    exact this
  · rcases hfin.2.2 k hk with q | q
    · exact .inl q
    · have h1 := hg0.size
      have h2 := hk1.size
      have h3 := hg2.size
      have h4 := hk3.size
      have h5 := hg4.size
      have h6 := hg5.size
      exact .inr (by omega)
end Go.Proofs.YtaneeadpjelomaaDoor

/- Layer 3: a world whose rows are old; what reads leave of it. -/
namespace Go.Proofs.YtaneeadpjelomaaDoor
open Go CF

/-- what of these blocks holds bytes is new -/
def NoBytesB (w : World) (S : Nat → Prop) (B : Nat) : Prop := ∀ g cur, w.heap[g]? = some (.cells cur t_uint8 (0, 0)) → S g → B ≤ g
theorem NoBytes.b {w : World} {S : Nat → Prop} (h : NoBytes w S) (B : Nat) : NoBytesB w S B := fun g cur hg q => absurd q (h g cur hg)
def FileAtB (w : World) (B : Nat) (v : Option Value) (l : Option L8) : Prop := FileAt w v l ∧ ∀ s : Sl, v = some (.slice s.A s.n s.c) → ∀ b, s.blk = some b → b < B
theorem FileAtB.keep {S : Nat → Prop} {w w' : World} {B : Nat} {v : Option Value} {l : Option L8} (h : FileAtB w B v l) (k : Keep S w w') (hn : NoBytesB w S B) : FileAtB w' B v l := by
  refine ⟨?_, h.2⟩
  cases l with
  | none => exact h.1
  | some l =>
    obtain ⟨⟨s, h1, h2, h3⟩, hB⟩ := h
    refine ⟨s, h1, h2.keep k fun b hb q => ?_, h3⟩
    obtain ⟨cur, hc⟩ := own_heap h2 hb
    have := hn b cur hc q
    have := hB s h1 b hb
    omega
theorem FileAt.toB {w : World} {v : Option Value} {l : Option L8} (h : FileAt w v l) : FileAtB w w.heap.size v l := by
  refine ⟨h, fun s hs b hb => ?_⟩
  cases l with
  | none => rw [show v = none from h] at hs; cases hs
  | some l =>
    obtain ⟨s', h1, h2, _⟩ := h
    rw [h1] at hs
    injection hs with hs
    injection hs with hA hn hc
    have : s'.blk = some b := by rw [← hb]; simp [Sl.blk, hA]
    obtain ⟨cur, hc⟩ := own_heap h2 this
    exact lt_of_heap hc
def IsFB (w : World) (mb : Nat) (F : Files) (B : Nat) : Prop := ∃ m, SMap w mb m ∧ ∀ s, FileAtB w B (m s) (F s)
theorem IsFB.keep {S : Nat → Prop} {w w' : World} {mb B : Nat} {F : Files} (h : IsFB w mb F B) (k : Keep S w w') (hm : ¬ S mb) (hn : NoBytesB w S B) : IsFB w' mb F B := by
  obtain ⟨m, h1, h2⟩ := h
  exact ⟨m, h1.keep k hm, fun s => (h2 s).keep k hn⟩
theorem IsFB.isF {w : World} {mb B : Nat} {F : Files} (h : IsFB w mb F B) : IsF w mb F := by
  obtain ⟨m, h1, h2⟩ := h
  exact ⟨m, h1, fun s => (h2 s).1⟩
theorem IsF.toB {w : World} {mb : Nat} {F : Files} (h : IsF w mb F) : IsFB w mb F w.heap.size := by
  obtain ⟨m, h1, h2⟩ := h
  exact ⟨m, h1, fun s => (h2 s).toB⟩
/-- the world's rows lie under B -/
def IsWB (w : World) (pw : Nat) (D : Nat → Prop) (st : Wst) (B : Nat) : Prop := ∃ mb md ws cs, IsWd w pw D st mb md ws cs ∧ IsFB w mb st.seen B ∧ IsFB w md st.dur B ∧ ∀ c ∈ cs, ∀ b, c.2.blk = some b → b < B
section
variable {w u v : World} {pw B : Nat} {D S : Nat → Prop} {st : Wst} {k : Nat}
theorem IsWB.isW (h : IsWB w pw D st B) : IsW w pw D st := by
  obtain ⟨mb, md, ws, cs, h, _⟩ := h
  exact ⟨mb, md, ws, cs, h⟩
theorem IsW.toB (h : IsW w pw D st) : IsWB w pw D st w.heap.size := by
  obtain ⟨mb, md, ws, cs, h⟩ := h
  refine ⟨mb, md, ws, cs, h, h.seen.toB, h.dur.toB, fun c hc b hb => ?_⟩
  obtain ⟨cur, hcur⟩ := own_heap (h.rows c hc) hb
  exact lt_of_heap hcur
theorem IsWB.keep (h : IsWB w pw D st B) (k : Keep S w u) (hd : ∀ k, D k → ¬ S k) (hs : NoBytesB w S B) : IsWB u pw D st B := by
  obtain ⟨mb, md, ws, cs, h, f1, f2, f3⟩ := h
  have hsz := k.size
  have g1 := f1.keep k (hd _ h.db) hs
  have g2 := f2.keep k (hd _ h.dd) hs
  refine ⟨mb, md, ws, cs, ⟨k.heap h.blk (hd _ h.dw), g1.isF, g2.isF, h.ne, h.own.keep k fun b hb => hd _ (h.ds b hb), h.waits, fun c hc => (h.rows c hc).keep k fun b hb q => ?_, h.dw, h.db, h.dd, h.ds, fun k hk => by have := h.lt k hk; omega, fun g cur hg q => ?_⟩, g1, g2, f3⟩
  · obtain ⟨cur, hcur⟩ := own_heap (h.rows c hc) hb
    have := hs b cur hcur q
    have := f3 c hc b hb
    omega
  · have hlt := h.lt g q
    have := k.block g hlt (hd g q)
    exact h.nb g cur (by rw [← this]; exact hg) q
theorem IsWB.grow (h : IsWB w pw D st B) (k : Grow w u) : IsWB u pw D st B := h.keep k (fun _ _ q => q) ((nobytes_none w).b B)
/-- k reads lie between two worlds -/
def RdW (w u : World) (pw : Nat) (D : Nat → Prop) (st : Wst) (k : Nat) : Prop := ∀ B, IsWB w pw D st B → IsWB u pw D { st with ops := st.ops + k } B
theorem RdW.isW (h : RdW w u pw D st k) (hw : IsW w pw D st) : IsW u pw D { st with ops := st.ops + k } := (h _ hw.toB).isW
theorem RdW.refl (w : World) (pw : Nat) (D : Nat → Prop) (st : Wst) : RdW w w pw D st 0 := fun _ h => h
theorem RdW.grow (h : RdW w u pw D st k) (g : Grow u v) : RdW w v pw D st k := fun B hB => (h B hB).grow g
theorem RdW.pre (h : RdW u v pw D st k) (g : Grow w u) : RdW w v pw D st k := fun B hB => h B (hB.grow g)
theorem RdW.keep (h : RdW w u pw D st k) (g : Keep S u v) (hd : ∀ k, D k → ¬ S k) (hs : NoBytes u S) : RdW w v pw D st k := fun B hB => (h B hB).keep g hd (hs.b B)
theorem RdW.trans {j : Nat} (h : RdW w u pw D st k) (g : RdW u v pw D { st with ops := st.ops + k } j) : RdW w v pw D st (k + j) := fun B hB => by
  have := g B (h B hB)
  rw [← Nat.add_assoc]; exact this
theorem rdW_call {mb md : Nat} {ws : Sl} {cs : List (Cg × Sl)} (hw : IsWd w pw D st mb md ws cs) (hk : Keep (fun k => k = pw) w u) (hw1 : IsWd u pw D { st with ops := st.ops + 1 } mb md ws cs) : RdW w u pw D st 1 := fun B hB => by
  obtain ⟨mb', md', ws', cs', h, f1, f2, f3⟩ := hB
  have nbp : NoBytes w fun k => k = pw := fun g cur hg q => hw.nb g cur hg (by subst q; exact hw.dw)
  have e := h.blk.symm.trans hw.blk
  injection e with e
  injection e with e
  have e := congrArg Array.toList e
  simp only [wcells, List.cons.injEq, Value.map.injEq, Option.some.injEq, Value.slice.injEq, true_and, and_true] at e
  obtain ⟨rfl, rfl, eA, en, ec⟩ := e
  obtain ⟨A, n, c⟩ := ws
  obtain ⟨A', n', c'⟩ := ws'
  dsimp only at eA en ec
  subst eA en ec
  have nm : mb' ≠ pw := fun q => isF_map hw.seen _ _ _ (by rw [q]; exact hw.blk)
  have nd : md' ≠ pw := fun q => isF_map hw.dur _ _ _ (by rw [q]; exact hw.blk)
  refine ⟨mb', md', _, cs', ⟨hw1.blk, hw1.seen, hw1.dur, hw1.ne, h.own.keep hk fun b hb2 q => ?_, h.waits, fun c hc => (h.rows c hc).keep hk fun b hb2 => ?_, hw1.dw, hw1.db, hw1.dd, h.ds, hw1.lt, hw1.nb⟩, f1.keep hk nm (nbp.b B), f2.keep hk nd (nbp.b B), f3⟩
  · obtain ⟨cur, hc⟩ := own_heap h.own hb2
    subst q
    exact absurd (blk_type hw.blk hc) (by decide)
  · obtain ⟨cur, hc2⟩ := own_heap (h.rows c hc) hb2
    exact nbp b cur hc2
end
end Go.Proofs.YtaneeadpjelomaaDoor

/- Layer 3: writes, reads. -/
namespace Go.Proofs.YtaneeadpjelomaaDoor
open Go CF

theorem bv_one' (l : L8) : ∀ u ∈ bv l, u.oneCell' = true := by
  intro u hu
  simp only [bv, List.mem_map] at hu
  obtain ⟨p, _, rfl⟩ := hu; rfl
theorem name_spec {s : ByteArray} {w : World} {R : Bool → World → Prop} (h : R (decide (1 ≤ s.size ∧ s.size ≤ 32)) w) : Cworld_name s w R := by
  refine Fworld_name.calls _ _ _ ?_
  have e : ((decide ((s.size : Int) ≥ 1)) && (decide ((s.size : Int) ≤ 32))) = decide (1 ≤ s.size ∧ s.size ≤ 32) := by
    rw [Bool.eq_iff_iff, Bool.and_eq_true, decide_eq_true_eq, decide_eq_true_eq, decide_eq_true_eq]
    omega
  unfold Fworld_name
  rw [e]
  exact h
theorem world_write_spec {w : World} {pw : Nat} {D : Nat → Prop} {st : Wst} {file : ByteArray} {off : Nat} {p : Sl} {bs : L8} {R : Int → World → Prop} (hw : IsW w pw D st) (hs : 1 ≤ file.size ∧ file.size ≤ 32) (hp : Rd w 1 p (bv bs)) (hb : off + bs.length ≤ 1048576)
    (ho : st.ops < 1000000000000) (hn : st.waits.length < 1000000000)
    (h : ∀ w' D', Keep D w w' → IsW w' pw D' ⟨applyWr st.seen file off bs, st.dur, st.waits ++ [⟨119, file, ⟨#[]⟩, off, bs⟩], st.ops + 1⟩ → (∀ k, D' k → D k ∨ w.heap.size ≤ k) → R 0 w') :
    Cworld_World_Write (some ⟨pw, 0, none⟩) file (off : Int) p w R := by
  refine Fworld_World_Write.calls _ _ _ _ _ _ ?_
  have hpn : bs.length = p.n := by have := hp.len; rw [bv_length] at this; omega
  refine name_spec ?_
  rw [decide_eq_true hs]
  refine br_f (by rw [Bool.or_eq_false_iff, decide_eq_false_iff_not]; exact ⟨rfl, by omega⟩) ?_
  have hwp : IntKind.wrap .i64 (1048576 - (off : Int)) = 1048576 - (off : Int) := w64 (by omega) (by omega)
  refine br_f (by rw [Bool.or_eq_false_iff, decide_eq_false_iff_not, decide_eq_false_iff_not, hwp]; omega) (br_f rfl ?_)
  refine append_rule (s := ⟨none, 0, 0⟩) (vs := []) (base := 0) u_sl_uint8 i_uint8 rfl (by decide) (by decide) (own_nil _ _ _ _) hp (bv_one' _) (by show (0 + p.n) * 1 ≤ _; omega) (Nat.zero_le _) fun s1 w1 hn1 hown1 hk1 _ => ?_
  have hg1 : Grow w w1 := hk1.mono fun i hi q => by cases q
  rw [List.nil_append] at hown1
  have hsz := hg1.size
  refine do_w_spec (hw.grow hg1) hown1 hb ho hn fun w2 D' hk2 hw2 hD => h w2 D' ((hg1.mono fun _ _ q => q.elim).trans hk2 fun _ _ q => q) hw2 fun k hk => ?_
  rcases hD k hk with q | q
  · exact .inl q
  · exact .inr (by omega)
theorem world_readR_spec {w : World} {pw : Nat} {D : Nat → Prop} {st : Wst} {file : ByteArray} {off n : Nat} {R : Sl → Int → World → Prop} (hw : IsW w pw D st) (hs : 1 ≤ file.size ∧ file.size ≤ 32) (hb : off ≤ 1000000000) (hb2 : n ≤ 1000000000)
    (ho : st.ops < 1000000000000)
    (h : ∀ s w', Keep D w w' → RdW w w' pw D st 1 → Own w' w.heap.size t_uint8 1 s (bv ((((st.seen file).getD []).drop off).take n)) → s.n ≤ 1048576 → R s (if (st.seen file).isSome then 0 else 8) w') :
    Cworld_World_Read (some ⟨pw, 0, none⟩) file (off : Int) (n : Int) w R := by
  obtain ⟨mb, md, ws, cs, hw⟩ := hw
  refine Fworld_World_Read.calls _ _ _ _ _ _ ?_
  refine name_spec ?_
  rw [decide_eq_true hs]
  refine br_f (by rw [Bool.or_eq_false_iff, Bool.or_eq_false_iff, decide_eq_false_iff_not, decide_eq_false_iff_not]; exact ⟨⟨rfl, by omega⟩, by omega⟩) (br_f rfl ⟨rfl, some mb, by rw [gA, add0, hw.blk.cell]; rfl, ?_⟩)
  obtain ⟨r, hlk, _, hown, hr2, hol⟩ := file_look hw.seen file
  refine ⟨r, hlk, ?_⟩
  refine call_spec hw ho fun w1 hk1 hw1 => br_f rfl ?_
  have hkD : Keep D w w1 := hk1.mono fun _ _ q => by subst q; exact hw.dw
  have hw1' : RdW w w1 pw D st 1 := rdW_call hw hk1 hw1
  have hsz := hk1.size
  cases hF : st.seen file with
  | none =>
    rw [hF] at hr2
    refine br_t (by rw [hr2]; rfl) ?_
    have := h ⟨none, 0, 0⟩ w1 hkD hw1'
    rw [hF] at this
    exact this (by simp only [Option.getD_none, List.drop_nil, List.take_nil]; exact own_nil _ _ _ _) (Nat.zero_le _)
  | some l =>
    rw [hF] at hr2 hown hol h
    simp only [Option.getD_some, Option.isSome_some, if_true] at hr2 hown hol h
    refine br_f (by rw [hr2]; rfl) ?_
    have hln : l.length = r.1.n := by have := hown.len; rw [bv_length] at this; omega
    have hown1 : Own w1 0 t_uint8 1 r.1 (bv l) := hown.keep hk1 fun b hb3 q => by
      obtain ⟨cur, hc⟩ := own_heap hown hb3
      subst q
      exact absurd (blk_type hw.blk hc) (by decide)
    refine br_dec (fun hge => ?_) (fun hlt => ?_)
    · have := h ⟨none, 0, 0⟩ w1 hkD hw1'
      rw [List.drop_of_length_le (by omega), List.take_nil] at this
      exact this (own_nil w1 w.heap.size t_uint8 1) (Nat.zero_le _)
    · have hrd := hown1.rd (by omega)
      have hcap := hrd.cap
      have e1 : IntKind.wrap .i64 ((r.1.n : Int) - (off : Int)) = ((r.1.n - off : Nat) : Int) := by rw [w64 (by omega) (by omega)]; omega
      have e2 : IntKind.wrap .i64 ((off : Int) + (mn (n : Int) (IntKind.wrap .i64 ((r.1.n : Int) - (off : Int))))) = ((off + min n (r.1.n - off) : Nat) : Int) := by
        rw [e1, mn_nat, w64 (by omega) (by omega)]; omega
      rw [e2]
      refine ⟨⟨by omega, by omega, by omega, hcap⟩, ?_⟩
      simp only [Int.toNat_natCast]
      have hx := hrd.cutB (l := off) (k := off + min n (r.1.n - off)) (by omega) (by omega)
      refine append_rule (s := ⟨none, 0, 0⟩) (vs := []) (base := w.heap.size) u_sl_uint8 i_uint8 rfl (by decide) (by decide) (own_nil _ _ _ _) hx (bv_one' _) (by show (0 + (off + min n (r.1.n - off) - off)) * 1 ≤ _; omega) hsz fun s2 w2 hn2 hown2 hk2 _ => ?_
      have hg2 : Grow w1 w2 := hk2.mono fun i hi q => by cases q
      rw [List.nil_append] at hown2
      have e3 : (l.drop off).take (off + min n (r.1.n - off) - off) = (l.drop off).take n := by
        rw [show off + min n (r.1.n - off) - off = min n (l.drop off).length by rw [List.length_drop]; omega]
        rcases Nat.le_total n (l.drop off).length with q | q
        · rw [Nat.min_eq_left q]
        · rw [Nat.min_eq_right q, List.take_length, List.take_of_length_le q]
      rw [e3] at hown2
      refine h s2 w2 (hkD.grow hg2) (hw1'.grow hg2) hown2 ?_
      have : s2.n = 0 + (off + min n (r.1.n - off) - off) := hn2
      omega
theorem world_read_spec {w : World} {pw : Nat} {D : Nat → Prop} {st : Wst} {file : ByteArray} {off n : Nat} {R : Sl → Int → World → Prop} (hw : IsW w pw D st) (hs : 1 ≤ file.size ∧ file.size ≤ 32) (hb : off ≤ 1000000000) (hb2 : n ≤ 1000000000)
    (ho : st.ops < 1000000000000)
    (h : ∀ s w', Keep D w w' → IsW w' pw D { st with ops := st.ops + 1 } → Own w' w.heap.size t_uint8 1 s (bv ((((st.seen file).getD []).drop off).take n)) → s.n ≤ 1048576 → R s (if (st.seen file).isSome then 0 else 8) w') :
    Cworld_World_Read (some ⟨pw, 0, none⟩) file (off : Int) (n : Int) w R := world_readR_spec hw hs hb hb2 ho fun s w' k r => h s w' k (r.isW hw)
end Go.Proofs.YtaneeadpjelomaaDoor

/- Layer 4: numbers in bytes, blocks as records. -/
namespace Go.Proofs.YtaneeadpjelomaaDoor
open Go CF

def num (l : L8) : Nat := l.foldl (fun v b => v * 256 + b.toNat) 0
theorem num_snoc (l : L8) (b : UInt8) : num (l ++ [b]) = num l * 256 + b.toNat := by simp [num, List.foldl_append]
theorem num_lt (l : L8) : num l < 256 ^ l.length := by
  have key : ∀ (l : L8) (v : Nat), l.foldl (fun v b => v * 256 + b.toNat) v < (v + 1) * 256 ^ l.length := by
    intro l
    induction l with
    | nil => intro v; simp
    | cons b r ih =>
      intro v
      rw [List.foldl_cons, List.length_cons, Nat.pow_succ]
      have h1 := ih (v * 256 + b.toNat)
      have h2 := b.toNat_lt
      have h3 : (v * 256 + b.toNat + 1) * 256 ^ r.length ≤ (v + 1) * 256 * 256 ^ r.length := Nat.mul_le_mul_right _ (by omega)
      have h4 : (v + 1) * 256 * 256 ^ r.length = (v + 1) * (256 ^ r.length * 256) := by rw [Nat.mul_assoc, Nat.mul_comm 256]
      omega
  have := key l 0
  rw [Nat.zero_add, Nat.one_mul] at this
  exact this
theorem bor_add {a b : Nat} (ha : a < 72057594037927936) (hb : b < 256) : bOr .u64 ((a * 256 : Nat) : Int) (b : Int) = ((a * 256 + b : Nat) : Int) := by
  unfold bOr
  show IntKind.wrap .u64 (((BitVec.ofInt 64 ((a * 256 : Nat) : Int) ||| BitVec.ofInt 64 (b : Int)).toNat : Nat) : Int) = _
  rw [BitVec.ofInt_natCast, BitVec.ofInt_natCast, BitVec.toNat_or, BitVec.toNat_ofNat, BitVec.toNat_ofNat, Nat.mod_eq_of_lt (by omega), Nat.mod_eq_of_lt (by omega)]
  have e : a * 256 ||| b = a * 256 + b := by
    have := Nat.shiftLeft_add_eq_or_of_lt (i := 8) (b := b) (by omega) a
    rw [Nat.shiftLeft_eq] at this
    exact this.symm
  rw [e]
  exact wu64 (by omega) (by omega)
theorem shl8 {a : Nat} (ha : a < 72057594037927936) : bShl .u64 (a : Int) 8 = ((a * 256 : Nat) : Int) := by
  unfold bShl
  have e : (min 8 (IntKind.bits .u64)) = 8 := by decide
  rw [e, wu64 (by omega) (by omega)]
  omega
theorem get_spec {p : Sl} {l : L8} {at_ n : Nat} {w : World} {R : Int → Int → World → Prop} (hp : Rd w 1 p (bv l)) (hb : p.n ≤ 140737489403904) (hn : 1 ≤ n) (hn8 : n ≤ 8) (hat : at_ + n ≤ l.length)
    (h : R ((num ((l.drop at_).take n) : Nat) : Int) 0 w) : Cbe_Get p (at_ : Int) (n : Int) w R := by
  refine Fbe_Get.calls _ _ _ _ _ ?_
  have hln : l.length = p.n := by have := hp.len; rw [bv_length] at this; omega
  have hcap := hp.cap
  refine Fbe_field.calls _ _ _ _ _ ?_
  have e1 : IntKind.wrap .i64 ((p.n : Int) - (n : Int)) = (p.n : Int) - (n : Int) := w64 (by omega) (by omega)
  refine br_f (by rw [Bool.or_eq_false_iff, decide_eq_false_iff_not, decide_eq_false_iff_not]; omega) (br_f (by rw [Bool.or_eq_false_iff, decide_eq_false_iff_not, decide_eq_false_iff_not, e1]; omega) (br_f rfl ?_))
  have e2 : IntKind.wrap .i64 ((at_ : Int) + (n : Int)) = ((at_ + n : Nat) : Int) := by rw [w64 (by omega) (by omega)]; omega
  rw [e2]
  simp only [Int.toNat_natCast]
  refine ⟨⟨by omega, by omega, by omega, hcap⟩, ?_⟩
  have hx := hp.cutB (l := at_) (k := at_ + n) (by omega) (by omega)
  rw [show at_ + n - at_ = n by omega] at hx
  generalize hseg : (l.drop at_).take n = seg at *
  have hsl : seg.length = n := by rw [← hseg, List.length_take, List.length_drop]; omega
  refine ⟨fun v x w' => w' = w ∧ ∃ j : Nat, x = j ∧ j ≤ n ∧ v = ((num (seg.take j) : Nat) : Int), fun _ x _ => n - x.toNat, ⟨rfl, 0, rfl, Nat.zero_le _, rfl⟩, ?_⟩
  rintro v x w0 ⟨rfl, j, rfl, hj, rfl⟩
  refine br_nat (fun hlt => ?_) (fun hge => ?_)
  · obtain ⟨a, ha, hc⟩ := hx.byte (i := j) (by show j < n; omega)
    have ha : cutA p.A p.c at_ 1 = some a := ha
    have hjs : j < seg.length := by omega
    refine ⟨⟨by omega, by omega, by rw [ha]; rfl⟩, ((seg[j]).toNat : Int), by rw [ha]; exact hc, ?_⟩
    have hnl := num_lt (seg.take j)
    have hb8 := seg[j].toNat_lt
    have hsm : num (seg.take j) < 72057594037927936 := by
      refine Nat.lt_of_lt_of_le hnl ?_
      rw [List.length_take, Nat.min_eq_left (by omega)]
      calc 256 ^ j ≤ 256 ^ 7 := Nat.pow_le_pow_right (by decide) (by omega)
        _ = 72057594037927936 := by decide
    rw [shl8 hsm, wu64 (by omega) (by omega), bor_add hsm (by omega), w64 (by omega) (by omega)]
    refine ⟨⟨rfl, j + 1, by omega, by omega, ?_⟩, by dsimp only; omega⟩
    rw [List.take_succ_eq_append_getElem hjs, num_snoc]
  · have : j = n := by omega
    subst this
    rw [List.take_of_length_le (by omega)]
    exact h
/-- a block -/
structure Bk where
  d : L8
  g : Nat
  a : Nat
  r : Nat
  hd : d.length = 16
  hg : g < 65536
  ha : a < 65536
  hr : r < 4294967296
def bc (b : Bk) : List Value := bv b.d ++ [.int .u16 (b.g : Int), .int .u16 (b.a : Int), .int .u32 (b.r : Int)]
theorem bc_len (b : Bk) : (bc b).length = 19 := by simp [bc, bv_length, b.hd]
theorem bv_inj {a b : L8} (h : bv a = bv b) : a = b := by
  induction a generalizing b with
  | nil => cases b with
    | nil => rfl
    | cons _ _ => simp [bv] at h
  | cons x r ih =>
    cases b with
    | nil => simp [bv] at h
    | cons y s =>
      simp only [bv, List.map_cons, List.cons.injEq, Value.int.injEq] at h
      have e : x = y := UInt8.toNat_inj.1 (by omega)
      rw [e, ih h.2]
theorem bc_inj {a b : Bk} (h : bc a = bc b) : a = b := by
  unfold bc at h
  obtain ⟨h1, h2⟩ := List.append_inj h (by rw [bv_length, bv_length, a.hd, b.hd])
  simp only [List.cons.injEq, Value.int.injEq, and_true, true_and] at h2
  have e1 := bv_inj h1
  have e2 : a.g = b.g := by omega
  have e3 : a.a = b.a := by omega
  have e4 : a.r = b.r := by omega
  cases a; cases b
  simp only at e1 e2 e3 e4
  subst e1; subst e2; subst e3; subst e4
  rfl
def kBk : List Kd := [.i .u8, .i .u8, .i .u8, .i .u8, .i .u8, .i .u8, .i .u8, .i .u8, .i .u8, .i .u8, .i .u8, .i .u8, .i .u8, .i .u8, .i .u8, .i .u8, .i .u16, .i .u16, .i .u32]
theorem flat_api_Block : flatK Tryd.prog 8 t_api_Block = some kBk := by kernel_rfl
theorem kd_api_Block : kd Tryd.prog t_api_Block = .ag := by kernel_rfl
theorem gt_api_Block : Tryd.prog.eqGuardType Tryd.prog.depth t_api_Block = false := by kernel_rfl
theorem fit_bytes : ∀ (l : L8) (n : Nat), l.length = n → FitL (List.replicate n (.i .u8)) (bv l)
  | [], 0, _ => trivial
  | _ :: l, n + 1, h => ⟨rfl, fit_bytes l n (by simpa using h)⟩
theorem fit_bc (b : Bk) : FitL kBk (bc b) := by
  have := (fit_bytes b.d 16 b.hd).join (ls := [.i .u16, .i .u16, .i .u32]) (b := [.int .u16 (b.g : Int), .int .u16 (b.a : Int), .int .u32 (b.r : Int)]) ⟨rfl, rfl, rfl, trivial⟩
  exact this
def emptyB : Bk := ⟨[0, 0, 0, 0, 0, 0, 0, 0, 0, 0, 0, 0, 0, 0, 0, 0], 65535, 65535, 4294967295, rfl, by decide, by decide, by decide⟩
def be2 (n : Nat) : L8 := [UInt8.ofNat (n / 2 ^ 8), UInt8.ofNat n]
def be4 (n : Nat) : L8 := [UInt8.ofNat (n / 2 ^ 24), UInt8.ofNat (n / 2 ^ 16), UInt8.ofNat (n / 2 ^ 8), UInt8.ofNat n]
def recB (b : Bk) : L8 := [1] ++ b.d ++ (be2 b.g ++ be2 b.a) ++ be4 b.r
theorem recB_len (b : Bk) : (recB b).length = 25 := by simp [recB, be2, be4, b.hd]
theorem wrap_u8 (n : Nat) : IntKind.wrap .u8 (n : Int) = ((UInt8.ofNat n).toNat : Int) := by
  rw [UInt8.toNat_ofNat']
  have e : IntKind.wrap .u8 (n : Int) = (n : Int) % 256 := by simp [IntKind.wrap, IntKind.signed, IntKind.bits]
  rw [e]
  omega
theorem shr (k : IntKind) (n s : Nat) (hs : s ≤ k.bits) : bShr k (n : Int) s = ((n / 2 ^ s : Nat) : Int) := by
  unfold bShr
  rw [Nat.min_eq_left hs, show ((2 : Int) ^ s) = ((2 ^ s : Nat) : Int) by norm_cast]
  exact (Int.ofNat_fdiv n (2 ^ s)).symm
end Go.Proofs.YtaneeadpjelomaaDoor

/- Layer 4: records, blocks. -/
namespace Go.Proofs.YtaneeadpjelomaaDoor
open Go CF

theorem storeAt_rule {P : Program} {w : World} {b o : Nat} {t ty : TypeId} {zv : Option Value} {z bytes : Nat} {old cells : Array Value} (hb : Blk w b old t) (hinfo : (P.info? ty).map (fun i => (i.zero, i.size, i.bytes)) = some (zv, z, bytes)) (hz : z = cells.size) (ho : o + cells.size ≤ old.size)
    (h1 : ∀ v ∈ cells.toList, v.oneCell' = true) {K : World → Prop} (h : ∀ w1, Blk w1 b (old.toList.take o ++ cells.toList ++ old.toList.drop (o + cells.size)).toArray t → Keep (fun k => k = b) w w1 → w1.heap.size = w.heap.size → K w1) : RunU P (storeVar ty ⟨b, o, none⟩ (.agg cells)) w K := by
  obtain ⟨i, hi, hzz⟩ := Option.map_eq_some_iff.1 hinfo
  simp only [Prod.mk.injEq] at hzz
  have hst := run_storeCells_at P b o t cells.toList 0 old w hb (by simpa using ho) h1
  have hs : cells.size = i.size := by omega
  refine ⟨_, ?_, h (w.setRow b (old.toList.take o ++ cells.toList ++ old.toList.drop (o + cells.size)).toArray) (setRow_heap w b old _ t (0, 0) hb) ⟨rfl, rfl, rfl, by simp, fun k _ hn => setRow_other w b k _ hn⟩ (by simp)⟩
  simp only [Nat.add_zero, Array.length_toList] at hst
  simp [storeVar, sizeOf, typeInfo, hi, Value.cells, hs]
  rw [hs, List.append_assoc] at hst
  exact hst
theorem bc_at (b : Bk) : (bc b).toArray[16]? = some (.int .u16 (b.g : Int)) ∧ (bc b).toArray[17]? = some (.int .u16 (b.a : Int)) ∧ (bc b).toArray[18]? = some (.int .u32 (b.r : Int)) := by
  have hl : (bv b.d).length = 16 := by rw [bv_length, b.hd]
  refine ⟨?_, ?_, ?_⟩ <;> · simp only [bc, List.getElem?_toArray]; rw [List.getElem?_append_right (by omega), hl]; rfl
theorem bc_ones (b : Bk) : ∀ v ∈ bc b, v.oneCell' = true := by
  intro v hv
  rcases List.mem_append.1 hv with q | q
  · exact bv_one' _ v q
  · simp only [List.mem_cons, List.not_mem_nil, or_false] at q
    rcases q with rfl | rfl | rfl <;> rfl
theorem bc_all (b : Bk) : ((bc b).toArray.all (·.oneCell')) = true := by
  rw [Array.all_eq_true_iff_forall_mem]; intro v hv; exact bc_ones b v (by simpa using hv)
theorem record_spec {b : Bk} {w : World} {R : Sl → World → Prop} (h : ∀ s w', Grow w w' → Own w' w.heap.size t_uint8 1 s (bv (recB b)) → R s w') : Cstore_record (bc b).toArray w R := by
  refine Fstore_record.calls _ _ _ ?_
  refine new_rule fun pb w0 hpb hb0 hg0 hsz0 => ?_
  have hb0 : Blk w0 pb (bc b).toArray t_api_Block := hb0
  have hl : (bv b.d).length = 16 := by rw [bv_length, b.hd]
  refine lit_rule (cells := #[.int .u8 1]) (e := t_uint8) (z := 1) (base := w0.heap.size) (by kernel_rfl) rfl (by decide) (Nat.le_refl _) fun w1 hlit1 hg1 _ => ⟨by decide, ?_⟩
  have hb1 := hg1.heap hb0 (fun q => q)
  have hd1 : Rd w1 1 ⟨some ⟨pb, 0, none⟩, 16, 16⟩ (bv b.d) := ⟨hl, Nat.le_refl _, by show 16 ≤ _; decide, fun _ => ⟨_, rfl, fun j v hj => blk_cells hb1 j v (by rw [bc, List.getElem?_append_left (by have := (List.getElem?_eq_some_iff.1 hj).1; exact this)]; exact hj)⟩⟩
  refine append_rule (x := ⟨some ⟨pb, 0, none⟩, 16, 16⟩) u_sl_uint8 i_uint8 rfl (by decide) (by decide) hlit1 hd1 (bv_one' _) (by show (1 + 16) * 1 ≤ _; decide) hg1.size fun s2 w2 hn2 hown2 hk2 _ => ?_
  have up : ∀ {u u' : World} {s : Sl} {vs : List Value}, Grow w0 u → Own u w0.heap.size t_uint8 1 s vs → Keep (fun k => some k = s.blk) u u' → Grow w0 u' := fun hg ho hk => hg.keep hk fun i hi q => by have := (ho.ge i q.symm).1; omega
  have hg2 := up hg1 hlit1 hk2
  have hb2 := hg2.heap hb0 (fun q => q)
  obtain ⟨e16, e17, e18⟩ := bc_at b
  have cg : ∀ {u : World}, Blk u pb (bc b).toArray t_api_Block → u.cell? (((⟨pb, 0, none⟩ : Addr).add 16).add 0) = some (.int .u16 (b.g : Int)) := fun q => by rw [add0, add0, q.cell]; exact e16
  have ca : ∀ {u : World}, Blk u pb (bc b).toArray t_api_Block → u.cell? (((⟨pb, 0, none⟩ : Addr).add 16).add 1) = some (.int .u16 (b.a : Int)) := fun q => by rw [add0, add0, q.cell]; exact e17
  have cr : ∀ {u : World}, Blk u pb (bc b).toArray t_api_Block → u.cell? (((⟨pb, 0, none⟩ : Addr).add 16).add 2) = some (.int .u32 (b.r : Int)) := fun q => by rw [add0, add0, q.cell]; exact e18
  refine ⟨_, cg hb2, _, cg hb2, _, ca hb2, _, ca hb2, ?_⟩
  rw [shr .u16 b.g 8 (by decide), shr .u16 b.a 8 (by decide), wrap_u8, wrap_u8, wrap_u8, wrap_u8]
  refine lit_rule (cells := (bv (be2 b.g ++ be2 b.a)).toArray) (e := t_uint8) (z := 1) (base := w0.heap.size) (by kernel_rfl) rfl (by decide) hg2.size fun w3 hlit3 hg3 _ => ?_
  have n2 : s2.n = 17 := hn2
  refine append_rule u_sl_uint8 i_uint8 rfl (by decide) (by decide) (hown2.grow hg3) (hlit3.rd (by show 4 ≤ _; decide)) (bv_one' _) (by rw [n2]; show (17 + 4) * 1 ≤ _; decide) (hg2.trans hg3).size fun s4 w4 hn4 hown4 hk4 _ => ?_
  have hg4 := up (hg2.trans hg3) (hown2.grow hg3) hk4
  have hb4 := hg4.heap hb0 (fun q => q)
  refine ⟨_, cr hb4, _, cr hb4, _, cr hb4, _, cr hb4, ?_⟩
  rw [shr .u32 b.r 24 (by decide), shr .u32 b.r 16 (by decide), shr .u32 b.r 8 (by decide), wrap_u8, wrap_u8, wrap_u8, wrap_u8]
  refine lit_rule (cells := (bv (be4 b.r)).toArray) (e := t_uint8) (z := 1) (base := w0.heap.size) (by kernel_rfl) rfl (by decide) hg4.size fun w5 hlit5 hg5 _ => ?_
  have n4 : s4.n = 21 := hn4.trans (by rw [n2]; rfl)
  refine append_rule u_sl_uint8 i_uint8 rfl (by decide) (by decide) (hown4.grow hg5) (hlit5.rd (by show 4 ≤ _; decide)) (bv_one' _) (by rw [n4]; show (21 + 4) * 1 ≤ _; decide) (hg4.trans hg5).size fun s6 w6 hn6 hown6 hk6 _ => ?_
  have hg6 := up (hg4.trans hg5) (hown4.grow hg5) hk6
  refine h s6 w6 (hg0.trans hg6) (Own.mono (base := w0.heap.size) ?_ (by omega))
  have e : bv (recB b) = [.int .u8 1] ++ bv b.d ++ bv (be2 b.g ++ be2 b.a) ++ bv (be4 b.r) := by
    unfold recB; rw [bv_append, bv_append, bv_append]; rfl
  rw [e]
  exact hown6
theorem empty_spec {w : World} {R : Array Value → World → Prop} (h : ∀ w', Grow w w' → R (bc emptyB).toArray w') : Cstore_empty w R := by
  refine Fstore_empty.calls _ _ ?_
  refine new_rule fun pb w0 hpb hb0 hg0 hsz0 => ?_
  refine ⟨(bc emptyB).toArray, by kernel_rfl, ?_⟩
  refine storeVar_rule (cells := (bc emptyB).toArray) hb0 i_api_Block rfl rfl (bc_all _) fun w1 hb1 hk1 _ => ?_
  have hg1 : Grow w w1 := hg0.keep hk1 fun i hi q => by omega
  refine ⟨(bc emptyB).toArray, loadVar_rule g_api_Block i_api_Block rfl (blk_cells hb1), h w1 hg1⟩
theorem num2 (l : L8) (h : l.length = 2) : num l < 65536 := by have := num_lt l; rw [h] at this; exact this
theorem num4 (l : L8) (h : l.length = 4) : num l < 4294967296 := by have := num_lt l; rw [h] at this; exact this
def blkOf (l : L8) : Bk :=
  if h : 25 ≤ l.length ∧ l[0]? = some 1 then
    ⟨(l.drop 1).take 16, num ((l.drop 17).take 2), num ((l.drop 19).take 2), num ((l.drop 21).take 4), by simp; omega, num2 _ (by simp; omega), num2 _ (by simp; omega), num4 _ (by simp; omega)⟩
  else emptyB
theorem block_spec {p : Sl} {l : L8} {w : World} {R : Array Value → World → Prop} (hp : Rd w 1 p (bv l)) (hb : p.n ≤ 1000000000) (h : ∀ w', Grow w w' → R (bc (blkOf l)).toArray w') : Cstore_block p w R := by
  refine Fstore_block.calls _ _ _ ?_
  have hln : l.length = p.n := by have := hp.len; rw [bv_length] at this; omega
  have hcap := hp.cap
  refine new_rule fun pa w0 hpa hb0 hg0 hsz0 => ?_
  by_cases h25 : 25 ≤ l.length
  case neg =>
    have hd : decide ((p.n : Int) < 25) = true := decide_eq_true (by omega)
    refine ⟨fun q => (by rw [hd] at q; cases q), 0, fun q => (by rw [hd] at q; cases q), br_t (by rw [hd]; rfl) ?_⟩
    refine empty_spec fun w1 hg1 => ?_
    refine storeVar_rule (cells := (bc emptyB).toArray) (hg1.heap hb0 (fun q => q)) i_api_Block rfl rfl (bc_all _) fun w2 hb2 hk2 _ => ?_
    refine ⟨(bc emptyB).toArray, loadVar_rule g_api_Block i_api_Block rfl (blk_cells hb2), ?_⟩
    have := h w2 ((hg0.trans hg1).keep hk2 fun i hi q => by omega)
    rwa [show blkOf l = emptyB from dif_neg fun q => h25 q.1] at this
  have hd : decide ((p.n : Int) < 25) = false := decide_eq_false (by omega)
  obtain ⟨a, ha, hc⟩ := (hp.grow hg0).byte (i := 0) (by omega)
  have h0l : 0 < l.length := by omega
  refine ⟨fun _ => ⟨by omega, by omega, by rw [ha]; rfl⟩, (l[0].toNat : Int), fun _ => (by rw [ha]; exact hc), ?_⟩
  by_cases h1 : l[0] = 1
  case neg =>
    refine br_t (by rw [hd, Bool.false_or, bne_iff_ne]; exact fun q => h1 (UInt8.toNat_inj.1 (by show l[0].toNat = 1; omega))) ?_
    refine empty_spec fun w1 hg1 => ?_
    refine storeVar_rule (cells := (bc emptyB).toArray) (hg1.heap hb0 (fun q => q)) i_api_Block rfl rfl (bc_all _) fun w2 hb2 hk2 _ => ?_
    refine ⟨(bc emptyB).toArray, loadVar_rule g_api_Block i_api_Block rfl (blk_cells hb2), ?_⟩
    have := h w2 ((hg0.trans hg1).keep hk2 fun i hi q => by omega)
    rwa [show blkOf l = emptyB from dif_neg fun q => h1 (by have := q.2; rw [List.getElem?_eq_getElem h0l] at this; exact Option.some.inj this)] at this
  refine br_f (by rw [hd, h1]; rfl) ?_
  refine new_rule fun pb w3 hpb hb3 hg3 hsz3 => ?_
  rintro w4 rfl
  have hg4 : Grow w3 w3.drew := keep_drew w3
  refine ⟨by decide, ⟨by omega, by omega, by omega, hcap⟩, ?_⟩
  have hgw4 := (hg0.trans hg3).trans hg4
  have hx := (hp.grow hgw4).cutB (l := 1) (k := p.n) (by omega) (Nat.le_refl _)
  simp only [Int.toNat_natCast]
  have hdl : ((l.drop 1).take 16).length = 16 := by simp; omega
  have hne : bv ((l.drop 1).take (p.n - 1)) ≠ [] := fun e => by
    have := congrArg List.length e
    simp [bv_length] at this
    omega
  obtain ⟨a2, ha2, hc2⟩ := hx.at_ hne
  have ha2 : cutA p.A p.c 1 1 = some a2 := ha2
  have hsrc : ∀ j v, (bv ((l.drop 1).take 16))[j]? = some v → w3.drew.cell? (a2.add j) = some v := fun j v hj => hc2 j v (by
    have hj16 : j < 16 := by have := (List.getElem?_eq_some_iff.1 hj).1; rw [bv_length, hdl] at this; exact this
    rw [← hj, ← bv_take, ← bv_take, List.getElem?_take, List.getElem?_take, if_pos (by omega), if_pos hj16])
  have hb4 : Blk w3.drew pb _ t_api_Block := hg4.heap hb3 (fun q => q)
  have hcp := run_copy_row (P := Tryd.prog) w3.drew t_sl_uint8 t_sl_uint8 t_int t_uint8 pb 0 16 16 a2 (p.n - 1) (p.c - 1) _ t_api_Block (bv ((l.drop 1).take 16)) u_sl_uint8 (by kernel_rfl) hb4 (by rw [bv_length, hdl]; exact (Nat.min_eq_right (by omega)).symm) hsrc (by rw [bv_length, hdl]; decide) (bv_one' _)
  rw [ha2]
  refine ⟨16, _, hcp.trans (by rw [bv_length, hdl]; rfl), ?_⟩
  generalize hw5 : w3.drew.setRow pb _ = w5
  have hb5 : Blk w5 pb (bv ((l.drop 1).take 16) ++ [Value.int .u16 0, Value.int .u16 0, Value.int .u32 0]).toArray t_api_Block := by
    rw [← hw5]
    have := setRow_heap w3.drew pb _ ((#[.int .u8 0, .int .u8 0, .int .u8 0, .int .u8 0, .int .u8 0, .int .u8 0, .int .u8 0, .int .u8 0, .int .u8 0, .int .u8 0, .int .u8 0, .int .u8 0, .int .u8 0, .int .u8 0, .int .u8 0, .int .u8 0, .int .u16 0, .int .u16 0, .int .u32 0] : Array Value).toList.take 0 ++ bv ((l.drop 1).take 16) ++ (#[.int .u8 0, .int .u8 0, .int .u8 0, .int .u8 0, .int .u8 0, .int .u8 0, .int .u8 0, .int .u8 0, .int .u8 0, .int .u8 0, .int .u8 0, .int .u8 0, .int .u8 0, .int .u8 0, .int .u8 0, .int .u8 0, .int .u16 0, .int .u16 0, .int .u32 0] : Array Value).toList.drop (0 + (bv ((l.drop 1).take 16)).length)).toArray t_api_Block (0, 0) hb4
    rw [bv_length, hdl] at this
    exact this
  have hk5 : Keep (fun k => k = pb) w3.drew w5 := by
    rw [← hw5]; exact ⟨rfl, rfl, rfl, by simp, fun k _ hn => setRow_other w3.drew pb k _ hn⟩
  have hg5 : Grow w w5 := hgw4.keep hk5 fun i hi q => by have := hg0.size; omega
  have hp5 := hp.grow hg5
  refine get_spec (at_ := 17) (n := 2) hp5 (Nat.le_trans hb (by decide)) (by decide) (by decide) (by omega) ?_
  refine get_spec (at_ := 19) (n := 2) hp5 (Nat.le_trans hb (by decide)) (by decide) (by decide) (by omega) ?_
  refine get_spec (at_ := 21) (n := 4) hp5 (Nat.le_trans hb (by decide)) (by decide) (by decide) (by omega) ?_
  have g2 := num2 ((l.drop 17).take 2) (by simp; omega)
  have a2' := num2 ((l.drop 19).take 2) (by simp; omega)
  have r4 := num4 ((l.drop 21).take 4) (by simp; omega)
  rw [wu16 (by omega) (by omega), wu16 (by omega) (by omega), wu32 (by omega) (by omega), add0]
  have hbl : blkOf l = ⟨(l.drop 1).take 16, num ((l.drop 17).take 2), num ((l.drop 19).take 2), num ((l.drop 21).take 4), hdl, g2, a2', r4⟩ := dif_pos ⟨h25, by rw [List.getElem?_eq_getElem h0l, h1]⟩
  refine storeAt_rule (o := 0 + 16) hb5 i_api_Tuple rfl (by simp [bv_length]; omega) (by simp [Value.oneCell']) fun w6 hb6 hk6 _ => ?_
  have e6 : ((bv ((l.drop 1).take 16) ++ [Value.int .u16 0, .int .u16 0, .int .u32 0]).toArray.toList.take (0 + 16) ++ (#[Value.int .u16 ((num ((l.drop 17).take 2) : Nat) : Int), .int .u16 ((num ((l.drop 19).take 2) : Nat) : Int), .int .u32 ((num ((l.drop 21).take 4) : Nat) : Int)] : Array Value).toList ++ (bv ((l.drop 1).take 16) ++ [Value.int .u16 0, .int .u16 0, .int .u32 0]).toArray.toList.drop (0 + 16 + 3)) = bc (blkOf l) := by
    rw [hbl]
    have hl16 : (bv ((l.drop 1).take 16)).length = 16 := by rw [bv_length, hdl]
    unfold bc
    dsimp only
    generalize bv ((l.drop 1).take 16) = B at hl16 ⊢
    generalize num ((l.drop 17).take 2) = x1
    generalize num ((l.drop 19).take 2) = x2
    generalize num ((l.drop 21).take 4) = x3
    simp only [Nat.zero_add]
    rw [List.take_append_of_le_length (by omega), List.take_of_length_le (by omega), List.drop_append, List.drop_of_length_le (by omega), hl16]
    simp
  have hb6 : Blk w6 pb (bc (blkOf l)).toArray t_api_Block := by rw [← e6]; exact hb6
  refine ⟨(bc (blkOf l)).toArray, loadVar_rule g_api_Block i_api_Block (by rw [bc_len]) (blk_cells hb6), ?_⟩
  have hpne : pa ≠ pb := by omega
  have hba : Blk w6 pa _ t_api_Block := hk6.heap (hk5.heap (hg4.heap (hg3.heap hb0 (fun q => q)) (fun q => q)) hpne) hpne
  refine storeVar_rule (cells := (bc (blkOf l)).toArray) hba i_api_Block (by simp [bc_len]) (by simp [bc_len]) (bc_all _) fun w7 hb7 hk7 _ => ?_
  refine ⟨(bc (blkOf l)).toArray, loadVar_rule g_api_Block i_api_Block (by rw [bc_len]) (blk_cells hb7), h w7 ?_⟩
  exact (hg5.keep hk6 fun i hi q => by have := hg0.size; omega).keep hk7 fun i hi q => by omega
end Go.Proofs.YtaneeadpjelomaaDoor

/- Layer 4: what a file says of blocks. -/
namespace Go.Proofs.YtaneeadpjelomaaDoor
open Go CF

theorem getD_wr (f : L8) (o : Nat) (p : L8) (k : Nat) : (wr f o p).getD k 0 = if o ≤ k ∧ k < o + p.length then p.getD (k - o) 0 else f.getD k 0 := by
  unfold wr
  simp only [List.getD_eq_getElem?_getD]
  generalize hg : f ++ List.replicate (o + p.length - f.length) 0 = g
  have hgl : g.length = max f.length (o + p.length) := by rw [← hg]; simp; omega
  have hgk : ∀ k : Nat, (g[k]?).getD 0 = (f[k]?).getD 0 := fun k => by
    rw [← hg]
    rcases Nat.lt_or_ge k f.length with q | q
    · rw [List.getElem?_append_left q]
    · rw [List.getElem?_append_right q, List.getElem?_eq_none q, List.getElem?_replicate]
      split <;> rfl
  have htl : (g.take o).length = o := by rw [List.length_take]; omega
  rcases Nat.lt_or_ge k o with q | q
  · rw [if_neg (by omega), List.append_assoc, List.getElem?_append_left (by omega), List.getElem?_take, if_pos q, hgk]
  · rcases Nat.lt_or_ge k (o + p.length) with q2 | q2
    · rw [if_pos ⟨q, q2⟩, List.append_assoc, List.getElem?_append_right (by omega), htl, List.getElem?_append_left (by omega)]
    · rw [if_neg (by omega), List.getElem?_append_right (by rw [List.length_append, htl]; omega), List.length_append, htl, List.getElem?_drop, show o + p.length + (k - (o + p.length)) = k by omega, hgk]
/-- a record is there at whole -/
def Good (f : L8) : Prop := ∀ j : Nat, f.getD (25 * j) 0 = 1 → 25 * j + 25 ≤ f.length
def blkAt (f : L8) (j : Nat) : Bk := blkOf ((f.drop (25 * j)).take 25)
def sl25 (f : L8) (j : Nat) : L8 := (List.range 25).map fun t => f.getD (25 * j + t) 0
theorem blkOf_not {l : L8} (h : ¬ (25 ≤ l.length ∧ l[0]? = some 1)) : blkOf l = emptyB := dif_neg h
theorem blkAt_good {f : L8} (h : Good f) (j : Nat) : blkAt f j = blkOf (sl25 f j) := by
  unfold blkAt
  by_cases h1 : f.getD (25 * j) 0 = 1
  · have hl := h j h1
    have e : (f.drop (25 * j)).take 25 = sl25 f j := by
      unfold sl25
      apply List.ext_getElem?
      intro t
      simp only [List.getElem?_take, List.getElem?_drop, List.getElem?_map, List.getElem?_range]
      by_cases q : t < 25
      · rw [if_pos q, List.getElem?_eq_getElem (show 25 * j + t < f.length by omega)]
        simp [q, List.getD_eq_getElem?_getD, List.getElem?_eq_getElem (show 25 * j + t < f.length by omega)]
      · simp [q]
    rw [e]
  · rw [blkOf_not, blkOf_not]
    · intro q
      have := q.2
      simp [sl25] at this
      exact h1 (by simpa using this)
    · intro q
      have hq := q.2
      have hlen := q.1
      rw [List.length_take, List.length_drop] at hlen
      rw [List.getElem?_take, if_pos (by decide), List.getElem?_drop, Nat.add_zero] at hq
      exact h1 (by rw [List.getD_eq_getElem?_getD, hq]; rfl)
theorem good_nil : Good [] := fun j h => by simp at h
theorem getD_off {f p : L8} {i j t : Nat} (hp : p.length ≤ 25) (hij : j ≠ i) (ht : t < 25) : (wr f (25 * i) p).getD (25 * j + t) 0 = f.getD (25 * j + t) 0 := by
  rw [getD_wr, if_neg (by omega)]
theorem num_be2 {n : Nat} (h : n < 65536) : num (be2 n) = n := by
  simp only [num, be2, List.foldl_cons, List.foldl_nil, UInt8.toNat_ofNat']
  omega
theorem num_be4 {n : Nat} (h : n < 4294967296) : num (be4 n) = n := by
  simp only [num, be4, List.foldl_cons, List.foldl_nil, UInt8.toNat_ofNat']
  omega
theorem bk_ext {a b : Bk} (h1 : a.d = b.d) (h2 : a.g = b.g) (h3 : a.a = b.a) (h4 : a.r = b.r) : a = b := by
  cases a; cases b; simp only at h1 h2 h3 h4; subst h1; subst h2; subst h3; subst h4; rfl
theorem blkOf_rec (b : Bk) : blkOf (recB b) = b := by
  have h : 25 ≤ (recB b).length ∧ (recB b)[0]? = some 1 := ⟨by rw [recB_len]; decide, rfl⟩
  have hd := b.hd
  have e : recB b = 1 :: (b.d ++ (be2 b.g ++ (be2 b.a ++ be4 b.r))) := by simp [recB]
  have d1 : (recB b).drop 1 = b.d ++ (be2 b.g ++ (be2 b.a ++ be4 b.r)) := by rw [e]; rfl
  have d17 : (recB b).drop 17 = be2 b.g ++ (be2 b.a ++ be4 b.r) := by
    rw [e, List.drop_succ_cons, List.drop_append, List.drop_of_length_le (by omega), hd]; rfl
  have d19 : (recB b).drop 19 = be2 b.a ++ be4 b.r := by
    have : (recB b).drop 19 = ((recB b).drop 17).drop 2 := by rw [List.drop_drop]
    rw [this, d17]; rfl
  have d21 : (recB b).drop 21 = be4 b.r := by
    have : (recB b).drop 21 = ((recB b).drop 19).drop 2 := by rw [List.drop_drop]
    rw [this, d19]; rfl
  unfold blkOf
  rw [dif_pos h]
  apply bk_ext
  · show ((recB b).drop 1).take 16 = b.d
    rw [d1, List.take_append_of_le_length (by omega), List.take_of_length_le (by omega)]
  · show num (((recB b).drop 17).take 2) = b.g
    rw [d17]; exact num_be2 b.hg
  · show num (((recB b).drop 19).take 2) = b.a
    rw [d19]; exact num_be2 b.ha
  · show num (((recB b).drop 21).take 4) = b.r
    rw [d21]; exact num_be4 b.hr
theorem good_rec {f : L8} (h : Good f) (i : Nat) (b : Bk) : Good (wr f (25 * i) (recB b)) := by
  intro j hj
  rw [wr_len, recB_len]
  by_cases e : j = i
  · subst e; omega
  · have := getD_off (f := f) (p := recB b) (t := 0) (by rw [recB_len]; decide) e (by decide)
    rw [Nat.add_zero] at this
    rw [this] at hj
    have := h j hj
    omega
theorem good_zero {f : L8} (h : Good f) (i : Nat) : Good (wr f (25 * i) [0]) := by
  intro j hj
  rw [wr_len]
  by_cases e : j = i
  · subst e
    rw [getD_wr, if_pos ⟨Nat.le_refl _, by simp⟩, Nat.sub_self] at hj
    cases hj
  · have := getD_off (f := f) (p := [0]) (t := 0) (by decide) e (by decide)
    rw [Nat.add_zero] at this
    rw [this] at hj
    have := h j hj
    omega
theorem sl25_off {f p : L8} {i j : Nat} (hp : p.length ≤ 25) (hij : j ≠ i) : sl25 (wr f (25 * i) p) j = sl25 f j := by
  unfold sl25
  apply List.map_congr_left
  intro t ht
  exact getD_off hp hij (List.mem_range.1 ht)
theorem blkAt_rec {f : L8} (h : Good f) (i : Nat) (b : Bk) (j : Nat) : blkAt (wr f (25 * i) (recB b)) j = if j = i then b else blkAt f j := by
  rw [blkAt_good (good_rec h i b)]
  by_cases e : j = i
  · subst e
    rw [if_pos rfl]
    have e2 : sl25 (wr f (25 * j) (recB b)) j = recB b := by
      unfold sl25
      apply List.ext_getElem?
      intro t
      rw [List.getElem?_map]
      by_cases q : t < 25
      · rw [List.getElem?_range q, Option.map_some, getD_wr, if_pos ⟨by omega, by rw [recB_len]; omega⟩, show 25 * j + t - 25 * j = t by omega, List.getD_eq_getElem?_getD, List.getElem?_eq_getElem (by rw [recB_len]; exact q)]
        rfl
      · rw [List.getElem?_eq_none (l := List.range 25) (by simp; omega), List.getElem?_eq_none (l := recB b) (by rw [recB_len]; omega)]; rfl
    rw [e2, blkOf_rec]
  · rw [if_neg e, sl25_off (by rw [recB_len]; decide) e, blkAt_good h]
theorem blkAt_zero {f : L8} (h : Good f) (i j : Nat) : blkAt (wr f (25 * i) [0]) j = if j = i then emptyB else blkAt f j := by
  rw [blkAt_good (good_zero h i)]
  by_cases e : j = i
  · subst e
    rw [if_pos rfl, blkOf_not]
    intro q
    have := q.2
    rw [sl25, List.getElem?_map, List.getElem?_range (by decide), Option.map_some, Nat.add_zero, getD_wr, if_pos ⟨Nat.le_refl _, by simp⟩, Nat.sub_self] at this
    cases this
  · rw [if_neg e, sl25_off (by decide) e, blkAt_good h]
end Go.Proofs.YtaneeadpjelomaaDoor

/- Layer 4: the store's calls. -/
namespace Go.Proofs.YtaneeadpjelomaaDoor
open Go CF

def scells (pw : Nat) (file : ByteArray) (blocks : Nat) (cache : Bool) : Array Value := #[.pointer (some ⟨pw, 0, none⟩), .string file, .int .i64 (blocks : Int), .bool cache]
abbrev IsS (w : World) (ps pw : Nat) (file : ByteArray) (blocks : Nat) (cache : Bool) : Prop := Blk w ps (scells pw file blocks cache) t_store_Store
theorem open_spec {w : World} {pw : Nat} {file : ByteArray} {blocks : Nat} {cache : Bool} {R : Option Addr → Int → World → Prop} (hs : 1 ≤ file.size ∧ file.size ≤ 32) (hb : 1 ≤ blocks ∧ blocks ≤ 4096)
    (h : ∀ ps w', ps = w.heap.size → Grow w w' → IsS w' ps pw file blocks cache → R (some ⟨ps, 0, none⟩) 0 w') : Cstore_Open (some ⟨pw, 0, none⟩) file (blocks : Int) cache w R := by
  refine Fstore_Open.calls _ _ _ _ _ _ ?_
  refine br_f (by rw [Bool.or_eq_false_iff, Bool.or_eq_false_iff, Bool.or_eq_false_iff, decide_eq_false_iff_not, decide_eq_false_iff_not, decide_eq_false_iff_not, decide_eq_false_iff_not]; omega) (br_f rfl ?_)
  exact new_rule fun ps w1 hps hb1 hg1 _ => h ps w1 hps hg1 hb1
theorem check_spec {w : World} {ps pw : Nat} {file : ByteArray} {blocks : Nat} {cache : Bool} {lba n : Nat} {R : Int → World → Prop} (hs : IsS w ps pw file blocks cache) (hb : blocks ≤ 4096) (hl : lba ≤ 1000000000)
    (h : R (if lba + n ≤ blocks then 0 else 4) w) : Cstore_Store_check (some ⟨ps, 0, none⟩) (lba : Int) (n : Int) w R := by
  refine Fstore_Store_check.calls _ _ _ _ _ ?_
  have c2 : w.cell? ((gA (some ⟨ps, 0, none⟩)).add 2) = some (.int .i64 (blocks : Int)) := by rw [gA, add0, hs.cell]; rfl
  refine br_f rfl ⟨fun _ => rfl, (blocks : Int), fun _ => c2, fun _ => rfl, (blocks : Int), fun _ => c2, ?_⟩
  have e : IntKind.wrap .i64 ((blocks : Int) - (lba : Int)) = (blocks : Int) - (lba : Int) := w64 (by omega) (by omega)
  by_cases q : lba + n ≤ blocks
  · rw [if_pos q] at h
    refine br_f ?_ h
    rw [Bool.or_eq_false_iff, Bool.or_eq_false_iff, Bool.or_eq_false_iff, decide_eq_false_iff_not, decide_eq_false_iff_not, decide_eq_false_iff_not, decide_eq_false_iff_not, e]
    omega
  · rw [if_neg q] at h
    refine br_t ?_ h
    rw [Bool.or_eq_true, Bool.or_eq_true, Bool.or_eq_true, decide_eq_true_eq, decide_eq_true_eq, decide_eq_true_eq, decide_eq_true_eq, e]
    omega
def stepW (st : Wst) (file : ByteArray) (o : Nat) (r : L8) : Wst := ⟨applyWr st.seen file o r, st.dur, st.waits ++ [⟨119, file, ⟨#[]⟩, o, r⟩], st.ops + 1⟩
def layW (st : Wst) (file : ByteArray) (lba : Nat) (rs : Nat → L8) : Nat → Wst
  | 0 => st
  | k + 1 => stepW (layW st file lba rs k) file (25 * (lba + k)) (rs k)
theorem layW_ops (st : Wst) (file : ByteArray) (lba : Nat) (rs : Nat → L8) : ∀ k, (layW st file lba rs k).ops = st.ops + k ∧ (layW st file lba rs k).waits.length = st.waits.length + k
  | 0 => ⟨rfl, rfl⟩
  | k + 1 => by
    obtain ⟨h1, h2⟩ := layW_ops st file lba rs k
    simp only [layW, stepW, List.length_append, List.length_singleton, h1, h2]
    omega
theorem lay_spec {w : World} {ps pw : Nat} {D : Nat → Prop} {st : Wst} {file : ByteArray} {blocks : Nat} {cache fua : Bool} {lba n : Nat} {one : Value} {rs : Nat → L8} {R : Int → Int → World → Prop}
    (hS : IsS w ps pw file blocks cache) (hps : ¬ D ps) (hw : IsW w pw D st) (hs : 1 ≤ file.size ∧ file.size ≤ 32) (hb : lba + n ≤ 4096) (hlen : ∀ i, (rs i).length ≤ 25) (ho : st.ops < 100000000000) (hn : st.waits.length < 100000000)
    (hone : ∀ (x : Nat) (u : World) (K : Sl → World → Prop), x < n → Keep D w u → (∀ s u', Grow u u' → Own u' 0 t_uint8 1 s (bv (rs x)) → K s u') → CallV Tryd.prog cs one #[.int .i64 (x : Int)] u [.sl] K)
    (h : ∀ u D', Keep D w u → IsW u pw D' (layW st file lba rs n) → (∀ k, D' k → D k ∨ w.heap.size ≤ k) → IsS u ps pw file blocks cache →
      if 0 < n ∧ (fua = true ∨ cache = false) then Cworld_World_Sync (some ⟨pw, 0, none⟩) u (fun e v => R (n : Int) e v) else R (n : Int) 0 u) :
    Cstore_Store_lay (some ⟨ps, 0, none⟩) (lba : Int) (n : Int) one fua w R := by
  refine Fstore_Store_lay.calls _ _ _ _ _ _ _ ?_
  have hS' : ∀ {u : World}, Keep D w u → IsS u ps pw file blocks cache := fun k => k.heap hS hps
  refine ⟨fun x w' => ∃ k : Nat, x = k ∧ k ≤ n ∧ ∃ Dk, Keep D w w' ∧ IsW w' pw Dk (layW st file lba rs k) ∧ ∀ j, Dk j → D j ∨ w.heap.size ≤ j, fun x _ => n - x.toNat,
    ⟨0, rfl, Nat.zero_le _, D, Keep.mono (Keep.refl (fun _ => False) w) (fun _ _ q => q.elim), hw, fun _ q => .inl q⟩, ?_⟩
  rintro x w0 ⟨k, rfl, hk, Dk, hk0, hw0, hD0⟩
  refine br_nat (fun hlt => ?_) (fun hge => ?_)
  · rintro w1 rfl
    have hg1 : Grow w0 w0.drew := keep_drew w0
    have hk1 : Keep D w w0.drew := hk0.grow hg1
    refine ⟨fun u => IsS u ps pw file blocks cache, hS' hk1, rfl, some ⟨pw, 0, none⟩, fun u hu => by rw [gA, add0, Blk.cell hu]; rfl, rfl, file, fun u hu => by rw [gA, add0, Blk.cell hu]; rfl, ?_⟩
    refine hone k w0.drew _ hlt hk1 fun s w2 hg2 hown2 => ⟨hS' (hk1.grow hg2), ?_⟩
    have e : IntKind.wrap .i64 ((IntKind.wrap .i64 ((lba : Int) + (k : Int))) * 25) = ((25 * (lba + k) : Nat) : Int) := by
      rw [w64 (n := (lba : Int) + (k : Int)) (by omega) (by omega), w64 (by omega) (by omega)]; omega
    rw [e]
    obtain ⟨lo, lw⟩ := layW_ops st file lba rs k
    have hl25 := hlen k
    have hsn : s.n = (rs k).length := by have := hown2.len; rw [bv_length] at this; omega
    refine world_write_spec (bs := rs k) ((hw0.grow hg1).grow hg2) hs (hown2.rd (by omega)) (by omega) (by omega) (by omega) fun w3 D' hk3 hw3 hD3 => br_f rfl ?_
    rw [w64 (by omega) (by omega)]
    have hsz1 := hg1.size
    have hsz2 := hg2.size
    have hsz0 := hk0.size
    refine ⟨⟨k + 1, by omega, by omega, D', (hk1.grow hg2).trans hk3 fun i hi q => ?_, hw3, fun j hj => ?_⟩, by dsimp only; omega⟩
    · rcases hD0 i q with r | r
      · exact r
      · omega
    · rcases hD3 j hj with q | q
      · exact hD0 j q
      · exact .inr (by omega)
  · have hkn : k = n := by omega
    subst hkn
    have := h w0 Dk hk0 hw0 hD0 (hS' hk0)
    have hc : w0.cell? ((gA (some ⟨ps, 0, none⟩)).add 3) = some (.bool cache) := by rw [gA, add0, Blk.cell (hS' hk0)]; rfl
    refine ⟨fun _ => rfl, cache, fun _ => hc, ?_⟩
    by_cases q : 0 < k ∧ (fua = true ∨ cache = false)
    · rw [if_pos q] at this
      refine br_t ?_ ⟨rfl, some ⟨pw, 0, none⟩, by rw [gA, add0, Blk.cell (hS' hk0)]; rfl, this⟩
      rw [Bool.and_eq_true, decide_eq_true_eq, Bool.or_eq_true, Bool.not_eq_true']
      exact ⟨by omega, q.2⟩
    · rw [if_neg q] at this
      refine br_f ?_ this
      rw [Bool.and_eq_false_iff, decide_eq_false_iff_not, Bool.or_eq_false_iff, Bool.not_eq_false']
      by_cases q1 : 0 < k
      · right
        cases fua <;> cases cache <;> simp_all
      · left; omega
end Go.Proofs.YtaneeadpjelomaaDoor

/- Layer 4: writing and reading blocks. -/
namespace Go.Proofs.YtaneeadpjelomaaDoor
open Go CF

theorem IsW.lt {w : World} {pw : Nat} {D : Nat → Prop} {st : Wst} (h : IsW w pw D st) {k : Nat} (hk : D k) : k < w.heap.size := by
  obtain ⟨mb, md, ws, cs, h⟩ := h
  exact h.lt k hk
def rsOf (bs : List Bk) (i : Nat) : L8 := match bs[i]? with | some b => recB b | none => []
theorem rsOf_len (bs : List Bk) (i : Nat) : (rsOf bs i).length ≤ 25 := by
  unfold rsOf; split
  · rw [recB_len]; exact Nat.le_refl _
  · decide
theorem rd_bk {w : World} {s : Sl} {bs : List Bk} (h : Rd w 19 s (bs.flatMap bc)) : bs.length = s.n := by
  have := h.len; rw [flat_length bc_len] at this; omega
theorem rd_bk_at {w : World} {s : Sl} {bs : List Bk} (h : Rd w 19 s (bs.flatMap bc)) {i : Nat} (hi : i < bs.length) : ∃ a, s.A = some a ∧ Cells w (a.add (i * 19)) (bc bs[i]) := by
  obtain ⟨a, ha, hc⟩ := h.elem (i := i) (by rw [← rd_bk h]; exact hi) (by decide)
  exact ⟨a, ha, by rw [flat_elem bc_len hi] at hc; exact hc⟩
theorem store_write_spec {w : World} {ps pw : Nat} {D : Nat → Prop} {st : Wst} {file : ByteArray} {blocks : Nat} {cache fua : Bool} {lba : Nat} {L : Sl} {bs : List Bk} {R : Int → Int → World → Prop}
    (hS : IsS w ps pw file blocks cache) (hps : ¬ D ps) (hw : IsW w pw D st) (hs : 1 ≤ file.size ∧ file.size ≤ 32) (hbk : blocks ≤ 4096) (hl : lba ≤ 1000000000) (hL : ∀ u, Keep D w u → Rd u 19 L (bs.flatMap bc))
    (ho : st.ops < 100000000000) (hn : st.waits.length < 100000000)
    (h1 : blocks < lba + bs.length → ∀ u, Grow w u → R 0 4 u)
    (h2 : lba + bs.length ≤ blocks → ∀ u D', Keep D w u → IsW u pw D' (layW st file lba (rsOf bs) bs.length) → (∀ k, D' k → D k ∨ w.heap.size ≤ k) → IsS u ps pw file blocks cache →
      if 0 < bs.length ∧ (fua = true ∨ cache = false) then Cworld_World_Sync (some ⟨pw, 0, none⟩) u (fun e v => R (bs.length : Int) e v) else R (bs.length : Int) 0 u) :
    Cstore_Store_Write (some ⟨ps, 0, none⟩) (lba : Int) L fua w R := by
  refine Fstore_Store_Write.calls _ _ _ _ _ _ ?_
  have hbn := rd_bk (hL w (Keep.mono (Keep.refl (fun _ => False) w) fun _ _ q => q.elim))
  refine new_rule fun lb w0 hlb hb0 hg0 hsz0 => ?_
  have hsz : w.heap.size ≤ w0.heap.size := hg0.size
  have hc0 : w0.cell? ⟨lb, 0, none⟩ = some (.slice L.A L.n L.c) := by rw [Blk.cell hb0]; rfl
  have hS0 : IsS w0 ps pw file blocks cache := hg0.heap hS (fun q => q)
  refine ⟨L, hc0, check_spec hS0 hbk hl ?_⟩
  by_cases q : lba + bs.length ≤ blocks
  case neg => rw [if_neg (by omega)]; exact br_t rfl (h1 (by omega) w0 hg0)
  rw [if_pos (by omega)]
  refine br_f rfl ⟨L, hc0, ?_⟩
  rw [← hbn]
  have hlD : ¬ D lb := fun e => by have := hw.lt e; omega
  refine lay_spec (n := bs.length) (rs := rsOf bs) hS0 hps (hw.grow hg0) hs (by omega) (rsOf_len bs) ho hn (fun x u K hx hk hK => ?_) fun u D' hk hw' hD' hS' => ?_
  · refine ⟨rfl, ?_⟩
    show Cstore_Store_Write_1 (x : Int) ⟨lb, 0, none⟩ u K
    refine Fstore_Store_Write_1.calls _ _ _ _ ?_
    have hLu : Rd u 19 L (bs.flatMap bc) := hL u ((hg0.mono (fun _ _ e => e.elim)).trans hk fun _ _ e => e)
    obtain ⟨a, ha, hc⟩ := rd_bk_at hLu hx
    refine ⟨L, hk.cell hc0 hlD, ⟨by omega, by omega, by rw [ha]; rfl⟩, (bc bs[x]).toArray, ?_, ?_⟩
    · rw [ha]; exact loadVar_rule g_api_Block i_api_Block (by rw [bc_len]) hc
    · refine record_spec fun s u' hg hown => hK s u' hg (Own.mono ?_ (Nat.zero_le u.heap.size))
      unfold rsOf
      rw [List.getElem?_eq_getElem hx]
      exact hown
  · refine h2 q u D' ((hg0.mono (fun _ _ e => e.elim)).trans hk fun _ _ e => e) hw' (fun k hk' => ?_) hS'
    rcases hD' k hk' with e | e
    · exact .inl e
    · exact .inr (by omega)
def rdBl (st : Wst) (file : ByteArray) (lba n : Nat) : List Bk := (List.range n).map fun i => blkAt ((st.seen file).getD []) (lba + i)
theorem bc_flat_one (l : List Bk) : ∀ v ∈ l.flatMap bc, v.oneCell' = true := fun v hv => by
  obtain ⟨b, _, hb⟩ := List.mem_flatMap.1 hv
  exact bc_ones b v hb
theorem lit_block (w : World) (b : Bk) : (Instr.buildSlice t_sl_api_Block 1 #[(0, .agg (bc b).toArray)]).run Tryd.prog w = .ok (.slice (some ⟨w.heap.size, 0, none⟩) 1 1) (w.alloc (.cells (bc b).toArray t_api_Block)) := by
  obtain ⟨d, g, a, r, hd, hg, ha, hr⟩ := b
  match d, hd with
  | [x0, x1, x2, x3, x4, x5, x6, x7, x8, x9, x10, x11, x12, x13, x14, x15], _ =>
    show (Instr.buildSlice t_sl_api_Block 1 #[(0, .agg #[.int .u8 (x0.toNat : Int), .int .u8 (x1.toNat : Int), .int .u8 (x2.toNat : Int), .int .u8 (x3.toNat : Int), .int .u8 (x4.toNat : Int), .int .u8 (x5.toNat : Int), .int .u8 (x6.toNat : Int), .int .u8 (x7.toNat : Int), .int .u8 (x8.toNat : Int), .int .u8 (x9.toNat : Int), .int .u8 (x10.toNat : Int), .int .u8 (x11.toNat : Int), .int .u8 (x12.toNat : Int), .int .u8 (x13.toNat : Int), .int .u8 (x14.toNat : Int), .int .u8 (x15.toNat : Int), .int .u16 (g : Int), .int .u16 (a : Int), .int .u32 (r : Int)])]).run Tryd.prog w = _
    kernel_rfl
theorem store_readR_spec {w : World} {ps pw : Nat} {D : Nat → Prop} {st : Wst} {file : ByteArray} {blocks : Nat} {cache : Bool} {lba n : Nat} {R : Sl → Int → Int → World → Prop}
    (hS : IsS w ps pw file blocks cache) (hps : ¬ D ps) (hw : IsW w pw D st) (hs : 1 ≤ file.size ∧ file.size ≤ 32) (hbk : blocks ≤ 4096) (hl : lba + n ≤ blocks) (ho : st.ops < 100000000000)
    (h : ∀ out u, Keep D w u → RdW w u pw D st n → Own u w.heap.size t_api_Block 19 out ((rdBl st file lba n).flatMap bc) → out.n = n → R out (n : Int) 0 u) :
    Cstore_Store_Read (some ⟨ps, 0, none⟩) (lba : Int) (n : Int) w R := by
  refine Fstore_Store_Read.calls _ _ _ _ _ ?_
  refine check_spec hS hbk (by omega) ?_
  rw [if_pos hl]
  refine br_f rfl ?_
  refine ⟨fun out x u => ∃ k : Nat, x = k ∧ k ≤ n ∧ Keep D w u ∧ RdW w u pw D st k ∧ Own u w.heap.size t_api_Block 19 out ((rdBl st file lba k).flatMap bc), fun _ x _ => n - x.toNat,
    ⟨0, rfl, Nat.zero_le _, Keep.mono (Keep.refl (fun _ => False) w) (fun _ _ q => q.elim), RdW.refl _ _ _ _, own_nil _ _ _ _⟩, ?_⟩
  rintro out x w0 ⟨k, rfl, hk, hk0, hr0, hown⟩
  have hw0 := hr0.isW hw
  have hol : out.n = k := by have := hown.len; rw [flat_length bc_len] at this; simp [rdBl] at this; omega
  refine br_nat (fun hlt => ?_) (fun hge => ?_)
  · rintro w1 rfl
    have hg1 : Grow w0 w0.drew := keep_drew w0
    have hk1 : Keep D w w0.drew := hk0.grow hg1
    have hS1 : IsS w0.drew ps pw file blocks cache := hk1.heap hS hps
    refine ⟨fun u => IsS u ps pw file blocks cache, hS1, rfl, some ⟨pw, 0, none⟩, fun u hu => by rw [gA, add0, Blk.cell hu]; rfl, rfl, file, fun u hu => by rw [gA, add0, Blk.cell hu]; rfl, ?_⟩
    have e : IntKind.wrap .i64 ((IntKind.wrap .i64 ((lba : Int) + (k : Int))) * 25) = ((25 * (lba + k) : Nat) : Int) := by
      rw [w64 (n := (lba : Int) + (k : Int)) (by omega) (by omega), w64 (by omega) (by omega)]; omega
    rw [e]
    refine world_readR_spec (n := 25) (hw0.grow hg1) hs (by omega) (by decide) (by show st.ops + k < _; omega) fun s w2 hk2 hr2 hown2 hsn => ?_
    refine br_f (by
      show ((_ : Int) != 0 && _) = false
      cases (st.seen file).isSome <;> rfl) ?_
    have hown2 : Own w2 w0.drew.heap.size t_uint8 1 s (bv ((((st.seen file).getD []).drop (25 * (lba + k))).take 25)) := hown2
    refine block_spec (hown2.rd (by omega)) (by omega) fun w3 hg3 => ?_
    refine lit_rule (cells := (bc (blkAt ((st.seen file).getD []) (lba + k))).toArray) (e := t_api_Block) (z := 19) (base := 0) ?_ (by simp [bc_len]) (by decide) (Nat.zero_le _) fun w4 hlit4 hg4 _ => ?_
    · exact lit_block _ _
    have outD : ∀ b, out.blk = some b → ¬ D b := fun b hb q => by
      have h1 := (hown.ge b hb).1
      have h2 := hw.lt q
      omega
    have hown4 : Own w4 w.heap.size t_api_Block 19 out ((rdBl st file lba k).flatMap bc) := (((hown.grow hg1).keep hk2 outD).grow hg3).grow hg4
    have hk4 : Keep D w w4 := ((hk1.trans hk2 fun _ _ q => q).grow hg3).grow hg4
    refine append_rule u_sl_api_Block i_api_Block rfl (by decide) (by decide) hown4 (hlit4.rd (by show 1 ≤ _; decide)) (fun v hv => bc_ones _ v (by simpa using hv)) (by show (out.n + 1) * 24 ≤ _; omega) hk4.size fun s' w5 hn5 hown5 hk5 _ => ?_
    have hk5' : Keep D w w5 := hk4.trans (S' := fun k => some k = out.blk) hk5 fun i hi q => by
      have := (hown4.ge i q.symm).1; omega
    rw [w64 (by omega) (by omega)]
    refine ⟨⟨k + 1, by omega, by omega, hk5', ?_, ?_⟩, by dsimp only; omega⟩
    · have := (((hr0.grow hg1).trans hr2).grow hg3 |>.grow hg4).keep hk5 (fun k hk q => outD k q.symm hk) (fun g cur hg q => ?_)
      · exact this
      · obtain ⟨cur', hc'⟩ := own_heap hown4 q.symm
        rw [hc'] at hg
        injection hg with hg
        injection hg with _ ht
        exact absurd ht (by decide)
    · have er : (rdBl st file lba (k + 1)).flatMap bc = (rdBl st file lba k).flatMap bc ++ bc (blkAt ((st.seen file).getD []) (lba + k)) := by
        unfold rdBl
        rw [List.range_succ, List.map_append, List.flatMap_append]
        simp
      rw [er]
      simpa using hown5
  · have hkn : k = n := by omega
    subst hkn
    exact h out w0 hk0 hr0 hown hol
theorem store_read_spec {w : World} {ps pw : Nat} {D : Nat → Prop} {st : Wst} {file : ByteArray} {blocks : Nat} {cache : Bool} {lba n : Nat} {R : Sl → Int → Int → World → Prop}
    (hS : IsS w ps pw file blocks cache) (hps : ¬ D ps) (hw : IsW w pw D st) (hs : 1 ≤ file.size ∧ file.size ≤ 32) (hbk : blocks ≤ 4096) (hl : lba + n ≤ blocks) (ho : st.ops < 100000000000)
    (h : ∀ out u, Keep D w u → IsW u pw D { st with ops := st.ops + n } → Own u w.heap.size t_api_Block 19 out ((rdBl st file lba n).flatMap bc) → out.n = n → R out (n : Int) 0 u) :
    Cstore_Store_Read (some ⟨ps, 0, none⟩) (lba : Int) (n : Int) w R := store_readR_spec hS hps hw hs hbk hl ho fun out u k r => h out u k (r.isW hw)
end Go.Proofs.YtaneeadpjelomaaDoor

/- Layer 2: the sum of bytes. -/
namespace Go.Proofs.YtaneeadpjelomaaDoor
open Go CF

def poly : Nat := 0x82f63b78
/-- one bit of the sum -/
def crcG (s : Nat) : Nat := if s % 2 = 1 then (s / 2) ^^^ poly else s / 2
def crcGs : Nat → Nat → Nat
  | 0, s => s
  | k + 1, s => crcG (crcGs k s)
def crcB (s : Nat) (b : UInt8) : Nat := crcGs 8 (s ^^^ b.toNat)
def crcS (s : Nat) (l : L8) : Nat := l.foldl crcB s
def c32 (l : L8) : Nat := crcS 0xffffffff l ^^^ 0xffffffff
theorem xor_lt32 {a b : Nat} (ha : a < 4294967296) (hb : b < 4294967296) : a ^^^ b < 4294967296 := Nat.xor_lt_two_pow (n := 32) ha hb
theorem crcG_lt {s : Nat} (h : s < 4294967296) : crcG s < 4294967296 := by
  unfold crcG
  split
  · exact xor_lt32 (by omega) (by decide)
  · omega
theorem crcGs_lt {s : Nat} (h : s < 4294967296) : ∀ k, crcGs k s < 4294967296
  | 0 => h
  | k + 1 => crcG_lt (crcGs_lt h k)
theorem crcB_lt {s : Nat} (h : s < 4294967296) (b : UInt8) : crcB s b < 4294967296 := crcGs_lt (xor_lt32 h (by have := b.toNat_lt; omega)) 8
theorem crcS_lt {l : L8} : ∀ {s : Nat}, s < 4294967296 → crcS s l < 4294967296 := by
  induction l with
  | nil => intro s h; exact h
  | cons b r ih => intro s h; exact ih (crcB_lt h b)
theorem c32_lt (l : L8) : c32 l < 4294967296 := xor_lt32 (crcS_lt (by decide)) (by decide)
theorem crcS_append (s : Nat) (a b : L8) : crcS s (a ++ b) = crcS (crcS s a) b := by simp [crcS, List.foldl_append]
theorem crcS_snoc (s : Nat) (a : L8) (b : UInt8) : crcS s (a ++ [b]) = crcB (crcS s a) b := by rw [crcS_append]; rfl
/-! ### another byte, another sum -/
theorem xor_top {a : Nat} (h : a < 2147483648) : (a ^^^ poly) / 2147483648 = 1 := by
  have : (a ^^^ poly).testBit 31 = true := by
    rw [Nat.testBit_xor, Nat.testBit_lt_two_pow (i := 31) h]; decide
  have h2 : (a ^^^ poly) < 4294967296 := xor_lt32 (by omega) (by decide)
  rw [Nat.testBit_eq_decide_div_mod_eq, decide_eq_true_eq] at this
  omega
theorem crcG_inj {a b : Nat} (ha : a < 4294967296) (hb : b < 4294967296) (h : crcG a = crcG b) : a = b := by
  unfold crcG at h
  split at h <;> split at h
  · have : a / 2 = b / 2 := by
      have := congrArg (· ^^^ poly) h
      simpa [Nat.xor_assoc] using this
    omega
  · have := xor_top (a := a / 2) (by omega)
    rw [h] at this
    omega
  · have := xor_top (a := b / 2) (by omega)
    rw [← h] at this
    omega
  · omega
theorem crcGs_inj {a b : Nat} (ha : a < 4294967296) (hb : b < 4294967296) : ∀ k, crcGs k a = crcGs k b → a = b
  | 0, h => h
  | k + 1, h => crcGs_inj ha hb k (crcG_inj (crcGs_lt ha k) (crcGs_lt hb k) h)
theorem crcB_inj {a b : Nat} {x : UInt8} (ha : a < 4294967296) (hb : b < 4294967296) (h : crcB a x = crcB b x) : a = b := by
  have hx := x.toNat_lt
  have := crcGs_inj (xor_lt32 ha (by omega)) (xor_lt32 hb (by omega)) 8 h
  have := congrArg (· ^^^ x.toNat) this
  simpa [Nat.xor_assoc] using this
theorem crcB_ne {a : Nat} {x y : UInt8} (ha : a < 4294967296) (h : x ≠ y) : crcB a x ≠ crcB a y := by
  intro q
  have hx := x.toNat_lt
  have hy := y.toNat_lt
  have := crcGs_inj (xor_lt32 ha (by omega)) (xor_lt32 ha (by omega)) 8 q
  have := congrArg (a ^^^ ·) this
  simp only [← Nat.xor_assoc, Nat.xor_self, Nat.zero_xor] at this
  exact h (UInt8.toNat_inj.1 this)
theorem crcS_inj {l : L8} : ∀ {a b : Nat}, a < 4294967296 → b < 4294967296 → crcS a l = crcS b l → a = b := by
  induction l with
  | nil => intro a b _ _ h; exact h
  | cons x r ih => intro a b ha hb h; exact crcB_inj ha hb (ih (crcB_lt ha x) (crcB_lt hb x) h)
/-- one byte turned turns the sum -/
theorem c32_turn {p q : L8} {x y : UInt8} (h : x ≠ y) : c32 (p ++ x :: q) ≠ c32 (p ++ y :: q) := by
  intro e
  have e1 := congrArg (· ^^^ 0xffffffff) e
  simp only [c32, Nat.xor_assoc, Nat.xor_self, Nat.xor_zero, crcS_append] at e1
  have hs : crcS 0xffffffff p < 4294967296 := crcS_lt (by decide)
  exact crcB_ne hs h (crcS_inj (crcB_lt hs x) (crcB_lt hs y) e1)
/-! ### the same, a bit at a time -/
def crcR (s : Nat) (b : Nat) : Nat := if (s ^^^ b % 2) % 2 = 1 then (s / 2) ^^^ poly else s / 2
def crcRs (b : Nat) : Nat → Nat → Nat
  | 0, s => s
  | k + 1, s => crcR (crcRs b k s) (b / 2 ^ k)
theorem xor_mod2 (a b : Nat) : (a ^^^ b) % 2 = (a % 2 ^^^ b % 2) := by
  have := Nat.xor_mod_two_pow (a := a) (b := b) (n := 1)
  simpa using this
theorem xor_div2 (a b : Nat) : (a ^^^ b) / 2 = (a / 2 ^^^ b / 2) := by
  have := Nat.xor_div_two_pow (a := a) (b := b) (n := 1)
  simpa using this
theorem crcRs_eq (b : Nat) (s : Nat) : ∀ k, crcGs k (s ^^^ b) = crcRs b k s ^^^ b / 2 ^ k
  | 0 => by simp [crcGs, crcRs]
  | k + 1 => by
    have ih := crcRs_eq b s k
    simp only [crcGs, crcRs, ih]
    generalize crcRs b k s = t
    have e2 : b / 2 ^ (k + 1) = b / 2 ^ k / 2 := by rw [Nat.pow_succ, Nat.div_div_eq_div_mul]
    rw [e2]
    generalize b / 2 ^ k = c
    unfold crcG crcR
    have h1 : (t ^^^ c % 2) % 2 = (t ^^^ c) % 2 := by rw [xor_mod2, xor_mod2 t c, Nat.mod_mod]
    rw [h1, xor_div2]
    split
    · rw [Nat.xor_assoc, Nat.xor_comm (c / 2), ← Nat.xor_assoc]
    · rfl
theorem crcB_eq (s : Nat) (b : UInt8) : crcB s b = crcRs b.toNat 8 s := by
  unfold crcB
  rw [crcRs_eq]
  have : b.toNat / 2 ^ 8 = 0 := Nat.div_eq_of_lt b.toNat_lt
  rw [this, Nat.xor_zero]
/-! ### the same in the model's words -/
theorem xor32 {a b : Nat} (ha : a < 4294967296) (hb : b < 4294967296) : bXor .u32 (a : Int) (b : Int) = ((a ^^^ b : Nat) : Int) := by
  unfold bXor
  show IntKind.wrap .u32 (((BitVec.ofInt 32 (a : Int) ^^^ BitVec.ofInt 32 (b : Int)).toNat : Nat) : Int) = _
  rw [BitVec.ofInt_natCast, BitVec.ofInt_natCast, BitVec.toNat_xor, BitVec.toNat_ofNat, BitVec.toNat_ofNat, Nat.mod_eq_of_lt (by omega), Nat.mod_eq_of_lt (by omega)]
  have := xor_lt32 ha hb
  exact wu32 (by omega) (by omega)
theorem and32_1 {a : Nat} (ha : a < 4294967296) : bAnd .u32 (a : Int) 1 = ((a % 2 : Nat) : Int) := by
  unfold bAnd
  show IntKind.wrap .u32 (((BitVec.ofInt 32 (a : Int) &&& BitVec.ofInt 32 ((1 : Nat) : Int)).toNat : Nat) : Int) = _
  rw [BitVec.ofInt_natCast, BitVec.ofInt_natCast, BitVec.toNat_and, BitVec.toNat_ofNat, BitVec.toNat_ofNat, Nat.mod_eq_of_lt (by omega), Nat.mod_eq_of_lt (by omega)]
  rw [Nat.and_one_is_mod]
  exact wu32 (by omega) (by omega)
theorem not32 {a : Nat} (ha : a < 4294967296) : bNot .u32 (a : Int) = ((a ^^^ 4294967295 : Nat) : Int) := by
  unfold bNot
  have e : (if IntKind.signed .u32 = true then (-1 : Int) else IntKind.max .u32) = ((4294967295 : Nat) : Int) := by decide
  rw [e, xor32 (by decide) ha, Nat.xor_comm]
end Go.Proofs.YtaneeadpjelomaaDoor

/- Layer 2: the program's sum and the reference's. -/
namespace Go.Proofs.YtaneeadpjelomaaDoor
open Go CF

theorem crc_br {s : Nat} (hs : s < 4294967296) {X Y : Prop} (h1 : s % 2 = 1 → X) (h0 : s % 2 = 0 → Y) : Br ((bAnd .u32 (s : Int) 1) == 1) X Y := by
  rw [and32_1 hs]
  exact br_eq (fun q => h1 (by omega)) (fun q => h0 (by omega))
theorem crc_v1 {s : Nat} (hs : s < 4294967296) (h : s % 2 = 1) : bXor .u32 (bShr .u32 (s : Int) 1) 2197175160 = ((crcG s : Nat) : Int) := by
  rw [shr .u32 s 1 (by decide)]
  have := xor32 (a := s / 2) (b := poly) (by omega) (by decide)
  unfold crcG
  rw [if_pos h]
  exact this
theorem crc_v0 {s : Nat} (h : s % 2 = 0) : bShr .u32 (s : Int) 1 = ((crcG s : Nat) : Int) := by
  rw [shr .u32 s 1 (by decide)]
  unfold crcG
  rw [if_neg (by omega)]
theorem crcRs_lt {b s : Nat} (h : s < 4294967296) : ∀ k, crcRs b k s < 4294967296
  | 0 => h
  | k + 1 => by
    have ih := crcRs_lt (b := b) h k
    simp only [crcRs]
    unfold crcR
    split
    · exact xor_lt32 (by omega) (by decide)
    · omega
theorem crc_br_r {s b : Nat} {k : Nat} (hs : s < 4294967296) (hb : b < 256) (hk : k < 8) {X Y : Prop} (h1 : (s ^^^ b / 2 ^ k % 2) % 2 = 1 → X) (h0 : (s ^^^ b / 2 ^ k % 2) % 2 = 0 → Y) :
    Br ((bAnd .u32 (bXor .u32 (s : Int) (bAnd .u32 (IntKind.wrap .u32 (bShr .u8 (b : Int) ((k : Nat) : Int).toNat)) 1)) 1) == 1) X Y := by
  rw [Int.toNat_natCast, shr .u8 b k (by show k ≤ 8; omega)]
  have hq : b / 2 ^ k < 256 := Nat.lt_of_le_of_lt (Nat.div_le_self _ _) hb
  generalize b / 2 ^ k = c at *
  rw [wu32 (by omega) (by omega), and32_1 (by omega), xor32 hs (by omega), and32_1 (xor_lt32 hs (by omega))]
  exact br_eq (fun q => h1 (by omega)) (fun q => h0 (by omega))
theorem crc_r1 {s c : Nat} (hs : s < 4294967296) (h : (s ^^^ c % 2) % 2 = 1) : bXor .u32 (bShr .u32 (s : Int) 1) 2197175160 = ((crcR s c : Nat) : Int) := by
  rw [shr .u32 s 1 (by decide)]
  have := xor32 (a := s / 2) (b := poly) (by omega) (by decide)
  unfold crcR
  rw [if_pos h]
  exact this
theorem crc_r0 {s c : Nat} (h : (s ^^^ c % 2) % 2 = 0) : bShr .u32 (s : Int) 1 = ((crcR s c : Nat) : Int) := by
  rw [shr .u32 s 1 (by decide)]
  unfold crcR
  rw [if_neg (by omega)]
end Go.Proofs.YtaneeadpjelomaaDoor

/- Rules: a byte put into a row of one's own, rows that are made, noughts behind a row. -/
namespace Go.Proofs.YtaneeadpjelomaaDoor.CF
open Go Go.RowKit

theorem own_put {w : World} {base : Nat} {e : TypeId} {s : Sl} {vs : List Value} (hs : Own w base e 1 s vs) {i : Nat} (hi : i < s.n) {v : Value} (hv : v.oneCell' = true)
    {K : World → Prop} (h : ∀ w1, Own w1 base e 1 s (vs.set i v) → Keep (fun k => some k = s.blk) w w1 → w1.heap.size = w.heap.size → K w1) : Put ((gA s.A).add (i * 1)) v w K := by
  obtain ⟨hlen, hown⟩ := hs
  rcases hown with ⟨_, hn0⟩ | ⟨g, cap, cur, hv', hbg, hg, hnc, hcm, hcs, htake⟩
  · omega
  · injection hv' with hA hN hC
    have hcs' : cur.size = cap := by simpa using hcs
    rw [Nat.mul_one, hA, gA, add0, Nat.zero_add]
    refine put_rule hg (by omega) hv fun w1 hb1 hk1 hsz1 => ?_
    refine h w1 ⟨by rw [List.length_set]; exact hlen, .inr ⟨g, cap, _, by rw [hA, hC], hbg, hb1, hnc, hcm, by simpa using hcs, ?_⟩⟩ (hk1.mono fun k _ q => by simp [Sl.blk, hA, q]) hsz1
    have hF : cur.toList.take (s.n * 1) = vs := htake
    rw [← hF, Array.toList_setIfInBounds, List.take_set]
theorem make_rule {P : Program} {w : World} {t e : TypeId} {zv : Value} {bytes n base : Nat} (ht : P.underlying t = some (.slice e)) (hinfo : (P.info? e).map (fun i => (i.zero, i.size, i.bytes)) = some (some zv, 1, bytes)) (hzc : zv.cells = #[zv])
    (hb : bytes * n ≤ 281474976710656) (hn : n ≤ 140737488355328) (hbase : base ≤ w.heap.size)
    {K : Sl → World → Prop} (h : ∀ w1, Own w1 base e 1 ⟨some ⟨w.heap.size, 0, none⟩, n, n⟩ (List.replicate n zv) → Grow w w1 → w1.heap.size = w.heap.size + 1 → K ⟨some ⟨w.heap.size, 0, none⟩, n, n⟩ w1) :
    RunK P .sl (Instr.makeSlice t (.int .i64 (n : Int)) (.int .i64 (n : Int))) w K := by
  obtain ⟨i, hi, hzz⟩ := Option.map_eq_some_iff.1 hinfo
  simp only [Prod.mk.injEq] at hzz
  obtain ⟨hz, hsz, hby⟩ := hzz
  have hb' : (i.bytes : Int) * (n : Int) ≤ 281474976710656 := by
    rw [hby, ← Int.natCast_mul]; omega
  have hr := run_make (P := P) w t e i zv ht hi hz .i64 .i64 (n : Int) (n : Int) (by omega) (Int.le_refl _) hb' (by omega)
  simp only [Int.toNat_natCast] at hr
  refine ⟨⟨some ⟨w.heap.size, 0, none⟩, n, n⟩, _, hr, h _ ?_ (keep_alloc w _) (by simp)⟩
  have hm : madeCells zv.cells (n * i.size) = (List.replicate n zv).toArray := by
    rw [hzc, hsz, Nat.mul_one]
    apply Array.ext
    · simp [madeCells]
    · intro k h1 h2
      simp [madeCells, Nat.mod_one]
  rw [hm]
  have := World.ownsRow_lit (e := e) (size := 1) (base := base) w (List.replicate n zv).toArray n hbase (by unfold maxLen; omega) (by simp)
  exact this
theorem append_zeros_rule {P : Program} {w : World} {t tn ty e : TypeId} {zv : Value} {base k : Nat} (ht : P.underlying t = some (.slice e)) (htn : P.underlying tn = some (.int .i64)) (hinfo : (P.info? e).map (fun i => (i.zero, i.size, i.bytes)) = some (some zv, 1, 1)) (hzc : zv.cells = #[zv])
    {s : Sl} {vs : List Value} (hs : Rd w 1 s vs) (hc : s.c < s.n + k) (hk : 0 < k) (hbd : s.n + k ≤ 1000000000) (hbase : base ≤ w.heap.size)
    {K : Sl → World → Prop} (h : ∀ s' w', s'.n = s.n + k → Own w' base e 1 s' (vs ++ List.replicate k zv) → Grow w w' → s'.blk = some w.heap.size → K s' w') :
    RunK P .sl (Builtin.append_ #[t, tn] ty #[.slice s.A s.n s.c, .int .i64 (k : Int)]) w K := by
  obtain ⟨i, hi, hzz⟩ := Option.map_eq_some_iff.1 hinfo
  simp only [Prod.mk.injEq] at hzz
  obtain ⟨hz, hsz, hby⟩ := hzz
  have hvl : vs.length = s.n := by have := hs.len; omega
  have hold : (Builtin.firstCells i.size s.n (.slice s.A s.n s.c)).run P w.drew = .ok vs.toArray w.drew := by
    rw [hsz]
    by_cases hne : vs = []
    · subst hne
      simp only [List.length_nil] at hvl
      rw [← hvl]
      cases hA : s.A with
      | none => exact run_firstCells_none (P := P) (w := w.drew) 1 0 0 _
      | some a => exact run_firstCells_some (P := P) (w := w.drew) 1 0 a 0 s.c [] rfl (fun j v hj => by simp at hj)
    · obtain ⟨a, ha, hc⟩ := (hs.grow (keep_drew w)).at_ hne
      rw [ha]
      exact run_firstCells_some (P := P) (w := w.drew) 1 s.n a s.n s.c vs (by omega) hc
  have hr := Go.Lib.run_append_grow_zeros (P := P) w t tn ty e i zv .i64 .i64 ht htn hi hz s.A s.n s.c vs hold k hk (by omega) hc (by omega) (by rw [hby]; omega) (by rw [hby]; exact growslice_fits (by omega) (by omega))
  refine ⟨⟨some ⟨w.heap.size, 0, none⟩, s.n + k, grownCap w (s.n + k) s.c e⟩, _, hr, h _ _ rfl ?_ ⟨rfl, rfl, rfl, by simp, fun k hk _ => heap_alloc_lt w.drew _ k hk⟩ rfl⟩
  have hge := grownCap_ge w (s.n + k) s.c e
  have hcm : grownCap w (s.n + k) s.c e ≤ maxLen := grownCap_le_maxLen w (s.n + k) s.c e (by unfold maxLen; omega)
  have hzk : ∀ m, (Builtin.zeroCells zv.cells m).size = m := fun m => by rw [size_zeroCells, hzc]; simp
  have hzr : (Builtin.zeroCells zv.cells k).toList = List.replicate k zv := by
    rw [hzc]
    apply List.ext_getElem
    · rw [Array.length_toList, ← hzc, hzk]; simp
    · intro j h1 h2
      simp [Builtin.zeroCells, Nat.mod_one]
  refine ⟨by simp; omega, .inr ⟨w.heap.size, grownCap w (s.n + k) s.c e, _, rfl, hbase, heap_alloc_new w.drew _, hge, hcm, ?_, ?_⟩⟩
  · simp only [Array.size_append, List.size_toArray, hzk, hvl]
    omega
  · simp only [Array.toList_append, hzr]
    have : (vs ++ List.replicate k zv).length = (s.n + k) * 1 := by simp; omega
    rw [← this]
    exact List.take_left
/-- append(s, x...) where both together are greater than half of what a row may be -/
theorem append_wide_rule {P : Program} {w : World} {base : Nat} {t ty e : TypeId} {zv : Value} {z bytes : Nat} (ht : P.underlying t = some (.slice e)) (hinfo : (P.info? e).map (fun i => (i.zero, i.size, i.bytes)) = some (some zv, z, bytes))
    (hzc : zv.cells.size = z) (hz0 : 0 < z) (hb0 : 0 < bytes) {s x : Sl} {vs xs : List Value} (hs : Own w base e z s vs) (hx : Rd w z x xs) (h1 : ∀ u ∈ xs, u.oneCell' = true)
    (hm : s.n + x.n ≤ 140737489403904) (hbd : ((s.n + x.n) + (s.n + x.n) / 4 + 192) * bytes ≤ 281474976710656) (hbase : base ≤ w.heap.size) {K : Sl → World → Prop}
    (h : ∀ s' w', s'.n = s.n + x.n → Own w' base e z s' (vs ++ xs) → Keep (fun k => some k = s.blk) w w' → K s' w') :
    RunK P .sl (Builtin.append_ #[t, t] ty #[.slice s.A s.n s.c, .slice x.A x.n x.c]) w K := by
  obtain ⟨i, hi, hzz⟩ := Option.map_eq_some_iff.1 hinfo
  simp only [Prod.mk.injEq] at hzz
  obtain ⟨hz, hsz, hby⟩ := hzz
  have blk : (Value.slice s.A s.n s.c).ownBlock = s.blk := by unfold Sl.blk; cases s.A <;> rfl
  have hxl : xs.length = x.n * z := hx.len
  by_cases hne : xs = []
  · have hn0 : x.n = 0 := by
      rw [hne, List.length_nil] at hxl
      rcases Nat.mul_eq_zero.1 hxl.symm with q | q <;> omega
    have hsl := hs.len
    have hc : s.n + x.n ≤ s.c := by
      rcases hs.2 with ⟨h2, q⟩ | ⟨g, cap, cur, hv, _, _, h4, _⟩
      · injection h2 with _ e1 e2; omega
      · injection hv with _ _ e2; omega
    have hfc : (Builtin.firstCells i.size x.n (.slice x.A x.n x.c)).run P w = .ok #[] w := by
      rw [hn0]
      cases hA : x.A with
      | none => exact run_firstCells_none (P := P) (w := w) i.size 0 0 _
      | some a => exact run_firstCells_some (P := P) (w := w) i.size 0 a 0 x.c [] (by simp) (fun j v hj => by simp at hj)
    refine ⟨s, w, ?_, h s w (by omega) (by rw [hne, List.append_nil]; exact hs) (Keep.refl _ _)⟩
    show _ = Result.ok (Value.slice s.A s.n s.c) w
    rw [hn0] at hc hfc ⊢
    obtain ⟨A, n, c⟩ := s
    simp only [Nat.add_zero] at hc ⊢
    cases A <;> simp [Builtin.append_, run_underlying ht, sizeOf, typeInfo, hi, Builtin.lenOf, hfc, hc, storeCells]
  · obtain ⟨a, ha, hcells⟩ := hx.at_ hne
    obtain ⟨v', w', hr, hown, hg, _⟩ := run_append_own_wide (P := P) w base t ty e i zv z bytes ht hi hz hsz hby hzc hz0 _ s.n vs hs a x.n x.c xs hx.len hcells h1 (by unfold maxLen; omega) hbd hbase
    have hv' : ∃ s' : Sl, v' = .slice s'.A s'.n s'.c ∧ s'.n = s.n + x.n := by
      rcases hown.2 with ⟨rfl, hn⟩ | ⟨g, cap, cur, rfl, _⟩
      · exact ⟨⟨none, 0, 0⟩, rfl, hn.symm⟩
      · exact ⟨⟨some ⟨g, 0, none⟩, _, cap⟩, rfl, rfl⟩
    obtain ⟨s', rfl, hn'⟩ := hv'
    rw [ha]
    exact ⟨s', w', hr, h s' w' hn' (by have q := hown; rw [← hn'] at q; exact q) (blk ▸ keep_grownBy hg)⟩
/-! ### where ways meet: what holds there, told once -/
theorem letX0 {j : World → Prop} {body : (World → Prop) → Prop} (I : World → Prop) (h1 : ∀ u, I u → j u) (h2 : (∀ u, I u → j u) → body j) : letX j body := h2 h1
theorem letX1 {α : Type} {j : α → World → Prop} {body : (α → World → Prop) → Prop} (I : α → World → Prop) (h1 : ∀ x u, I x u → j x u) (h2 : (∀ x u, I x u → j x u) → body j) : letX j body := h2 h1
theorem letX2 {α β : Type} {j : α → β → World → Prop} {body : (α → β → World → Prop) → Prop} (I : α → β → World → Prop) (h1 : ∀ x y u, I x y u → j x y u) (h2 : (∀ x y u, I x y u → j x y u) → body j) : letX j body := h2 h1
theorem letX3 {α β γ : Type} {j : α → β → γ → World → Prop} {body : (α → β → γ → World → Prop) → Prop} (I : α → β → γ → World → Prop) (h1 : ∀ x y z u, I x y z u → j x y z u) (h2 : (∀ x y z u, I x y z u → j x y z u) → body j) : letX j body := h2 h1
theorem letJ1 {α : Type} {j : α → World → Prop} {body : (α → World → Prop) → Prop} (I : α → World → Prop) (h1 : ∀ x u, I x u → j x u) (h2 : (∀ x u, I x u → j x u) → body j) : letJ j body := h2 h1
/-- the bytes of a constant, and where they lie -/
theorem bytes_at_rule {P : Program} {w : World} {t e : TypeId} {n : Nat} {parts : Array (Nat × Value)} {l : L8}
    (hr : (Instr.buildSlice t n parts).run P w = .ok (.slice (some ⟨w.heap.size, 0, none⟩) n n) (w.alloc (.cells (bv l).toArray e))) (hn : n = l.length) (hb : n ≤ 140737488355328)
    (ht : P.underlying t = some (.slice e)) (he : P.underlying e = some (.int .u8))
    {K : Sl → World → Prop} (h : ∀ w', Grow w w' → w'.heap.size = w.heap.size + 1 → Rd w' 1 ⟨some ⟨w.heap.size, 0, none⟩, n, n⟩ (bv l) → K ⟨some ⟨w.heap.size, 0, none⟩, n, n⟩ w') :
    RunK P .sl (Instr.buildSlice t n parts) w fun xs w0 => RunK P .sl (convert t t (.slice xs.A xs.n xs.c)) w0 K := by
  refine ⟨⟨some ⟨w.heap.size, 0, none⟩, n, n⟩, _, hr, ⟨some ⟨w.heap.size, 0, none⟩, n, n⟩, _, Go.Lib.run_convert_bytes_const w t e _ n n ht he, ?_⟩
  refine h _ (keep_alloc w _) (by simp) ⟨by rw [bv_length, hn, Nat.mul_one], Nat.le_refl _, by show n ≤ _; omega, fun _ => ⟨_, rfl, fun j v hj => ?_⟩⟩
  rw [add0, Nat.zero_add]
  unfold World.cell?
  simp only [World.alloc, Array.getElem?_push, if_true]
  simpa using hj
end Go.Proofs.YtaneeadpjelomaaDoor.CF

/- Layer 1: numbers laid in bytes. -/
namespace Go.Proofs.YtaneeadpjelomaaDoor
open Go CF

def beN : Nat → Nat → L8
  | 0, _ => []
  | j + 1, v => UInt8.ofNat (v / 256 ^ j) :: beN j v
theorem beN_len : ∀ (n v : Nat), (beN n v).length = n
  | 0, _ => rfl
  | n + 1, v => by simp [beN, beN_len n v]
theorem num_foldl (l : L8) : ∀ v : Nat, l.foldl (fun v b => v * 256 + b.toNat) v = v * 256 ^ l.length + num l := by
  induction l with
  | nil => intro v; simp [num]
  | cons b r ih =>
    intro v
    unfold num
    simp only [List.foldl_cons, List.length_cons]
    rw [ih, ih (0 * 256 + b.toNat), Nat.pow_succ]
    simp only [Nat.zero_mul, Nat.zero_add]
    rw [Nat.add_mul, Nat.mul_assoc, Nat.mul_comm (256 ^ r.length) 256]
    omega
theorem num_cons (b : UInt8) (l : L8) : num (b :: l) = b.toNat * 256 ^ l.length + num l := by
  show List.foldl _ (0 * 256 + b.toNat) l = _
  rw [num_foldl]; simp
theorem num_append (a b : L8) : num (a ++ b) = num a * 256 ^ b.length + num b := by
  show List.foldl _ 0 (a ++ b) = _
  rw [List.foldl_append, num_foldl]; rfl
theorem num_beN : ∀ (n v : Nat), num (beN n v) = v % 256 ^ n
  | 0, v => by simp [beN, num, Nat.mod_one]
  | n + 1, v => by
    simp only [beN]
    have e : (256 : Nat) ^ (n + 1) = 256 ^ n * 256 := Nat.pow_succ ..
    rw [num_cons, beN_len, num_beN n v, UInt8.toNat_ofNat', e, Nat.mod_mul, Nat.mul_comm, Nat.add_comm]
theorem num_beN_lt {n v : Nat} (h : v < 256 ^ n) : num (beN n v) = v := by rw [num_beN, Nat.mod_eq_of_lt h]
theorem bv_set (l : L8) (i : Nat) (b : UInt8) : (bv l).set i (.int .u8 (b.toNat : Int)) = bv (l.set i b) := by
  simp [bv, List.map_set]
/-- l with a number laid in, as it is while j bytes of n are laid -/
def layN (l : L8) (at_ n j v : Nat) : L8 := l.take (at_ + (n - j)) ++ beN j v ++ l.drop (at_ + n)
theorem layN_zero (l : L8) (at_ n v : Nat) : layN l at_ n 0 v = l := by simp [layN, beN]
theorem layN_len {l : L8} {at_ n j : Nat} (v : Nat) (h : at_ + n ≤ l.length) (hj : j ≤ n) : (layN l at_ n j v).length = l.length := by
  simp [layN, beN_len]; omega
theorem layN_step {l : L8} {at_ n j : Nat} (v : Nat) (h : at_ + n ≤ l.length) (hj : j < n) :
    (layN l at_ n j v).set (at_ + (n - 1 - j)) (UInt8.ofNat (v / 256 ^ j)) = layN l at_ n (j + 1) v := by
  unfold layN
  have e1 : at_ + (n - j) = at_ + (n - (j + 1)) + 1 := by omega
  have e2 : at_ + (n - 1 - j) = at_ + (n - (j + 1)) := by omega
  have hl : at_ + (n - (j + 1)) < l.length := by omega
  rw [e1, e2, List.take_succ_eq_append_getElem hl]
  generalize hm : at_ + (n - (j + 1)) = m at *
  have ht : (l.take m).length = m := by rw [List.length_take]; omega
  simp only [List.append_assoc]
  rw [List.set_append_right _ _ (by omega), ht, Nat.sub_self]
  rfl
def lay (l : L8) (at_ n v : Nat) : L8 := l.take at_ ++ beN n v ++ l.drop (at_ + n)
theorem layN_all (l : L8) (at_ n v : Nat) : layN l at_ n n v = lay l at_ n v := by simp [layN, lay]
theorem div_step (v j : Nat) : v / 256 ^ j / 256 = v / 256 ^ (j + 1) := by rw [Nat.pow_succ, Nat.div_div_eq_div_mul]
theorem field_spec {p : Sl} {at_ n : Nat} {w : World} {R : Int → World → Prop} (hb : p.n ≤ 140737489403904) (hn : 1 ≤ n) (hn8 : n ≤ 8) (hat : at_ + n ≤ p.n) (h : R 0 w) : Cbe_field p (at_ : Int) (n : Int) w R := by
  refine Fbe_field.calls _ _ _ _ _ ?_
  have e1 : IntKind.wrap .i64 ((p.n : Int) - (n : Int)) = (p.n : Int) - (n : Int) := w64 (by omega) (by omega)
  exact br_f (by rw [Bool.or_eq_false_iff, decide_eq_false_iff_not, decide_eq_false_iff_not]; omega) (br_f (by rw [Bool.or_eq_false_iff, decide_eq_false_iff_not, decide_eq_false_iff_not, e1]; omega) h)
theorem put_spec {p : Sl} {l : L8} {at_ n v : Nat} {w : World} {R : Sl → Int → World → Prop} (hp : Rd w 1 p (bv l)) (hb : p.n ≤ 1000000000) (hn : 1 ≤ n) (hn8 : n ≤ 8) (hat : at_ + n ≤ l.length) (hv : v < 256 ^ n)
    (h : ∀ s w', Own w' w.heap.size t_uint8 1 s (bv (lay l at_ n v)) → Grow w w' → R s 0 w') : Cbe_Put p (at_ : Int) (n : Int) (v : Int) w R := by
  refine Fbe_Put.calls _ _ _ _ _ _ ?_
  have hln : l.length = p.n := by have := hp.len; rw [bv_length] at this; omega
  refine field_spec (by omega) hn hn8 (by omega) ?_
  have e8 : IntKind.wrap .i64 (8 * (n : Int)) = ((8 * n : Nat) : Int) := by rw [w64 (by omega) (by omega)]; omega
  rw [e8, Int.toNat_natCast, shr .u64 v (8 * n) (by show 8 * n ≤ 64; omega)]
  have hz : v / 2 ^ (8 * n) = 0 := by
    refine Nat.div_eq_of_lt ?_
    rw [Nat.pow_mul]
    exact hv
  rw [hz]
  refine ⟨fun _ => by omega, br_f (by simp) (br_f rfl ?_)⟩
  refine append_rule (s := ⟨none, 0, 0⟩) (vs := []) (base := w.heap.size) u_sl_uint8 i_uint8 rfl (by decide) (by decide) (own_nil _ _ _ _) hp (bv_one' _) (by show (0 + p.n) * 1 ≤ _; omega) (Nat.le_refl _) fun s1 w1 hn1 hown1 hk1 _ => ?_
  have hg1 : Grow w w1 := hk1.mono fun i hi q => by cases q
  rw [List.nil_append] at hown1
  have hn1 : s1.n = p.n := by rw [hn1]; exact Nat.zero_add _
  refine ⟨fun x i u => ∃ j : Nat, j ≤ n ∧ i = ((n : Int) - 1 - (j : Int)) ∧ x = ((v / 256 ^ j : Nat) : Int) ∧ Grow w u ∧ Own u w.heap.size t_uint8 1 s1 (bv (layN l at_ n j v)), fun _ i _ => (i + 1).toNat,
    ⟨0, Nat.zero_le _, by rw [w64 (by omega) (by omega)]; omega, by simp, hg1, by rw [layN_zero]; exact hown1⟩, ?_⟩
  rintro x i w2 ⟨j, hj, rfl, rfl, hg2, hown2⟩
  refine br_dec (fun hlt => ?_) (fun hge => ?_)
  · have e1 : IntKind.wrap .i64 ((at_ : Int) + ((n : Int) - 1 - (j : Int))) = ((at_ + (n - 1 - j) : Nat) : Int) := by rw [w64 (by omega) (by omega)]; omega
    rw [e1, Int.toNat_natCast, wrap_u8]
    have hs1A : s1.A.isSome = true := by
      have hne : bv (layN l at_ n j v) ≠ [] := fun q => by have := congrArg List.length q; rw [bv_length, layN_len v hat (by omega), List.length_nil] at this; omega
      obtain ⟨a, ha, _⟩ := (hown2.rd (by omega)).at_ hne
      rw [ha]; rfl
    refine ⟨⟨by omega, by omega, hs1A⟩, ?_⟩
    refine own_put (i := at_ + (n - 1 - j)) hown2 (by omega) rfl fun w3 hown3 hk3 _ => ?_
    rw [bv_set, layN_step v hat (by omega)] at hown3
    rw [shr .u64 _ 8 (by decide), w64 (by omega) (by omega)]
    refine ⟨⟨j + 1, by omega, by omega, ?_, hg2.keep hk3 fun i hi q => by have := (hown2.ge i q.symm).1; omega, hown3⟩, by dsimp only; omega⟩
    rw [← div_step]
  · have : j = n := by omega
    subst this
    rw [layN_all] at hown2
    exact h s1 w2 hown2 hg2
theorem big_spec {n v : Nat} {w : World} {R : Sl → World → Prop} (hn : 1 ≤ n) (hn8 : n ≤ 8) (h : ∀ s w', Own w' w.heap.size t_uint8 1 s (bv (beN n v)) → Grow w w' → s.n = n → R s w') : Cpalletref01_Big (v : Int) (n : Int) w R := by
  refine Fpalletref01_Big.calls _ _ _ _ ?_
  refine make_rule (base := w.heap.size) u_sl_uint8 i_uint8 rfl (by omega) (by omega) (Nat.le_refl _) fun w1 hown1 hg1 hsz1 => ?_
  have hrep : (List.replicate n (Value.int .u8 0)) = bv (List.replicate n 0) := by simp [bv]
  rw [hrep] at hown1
  have hl0 : (List.replicate n (0 : UInt8)).length = n := List.length_replicate
  refine ⟨fun x i u => ∃ j : Nat, j ≤ n ∧ i = ((n : Int) - 1 - (j : Int)) ∧ x = ((v / 256 ^ j : Nat) : Int) ∧ Grow w u ∧ Own u w.heap.size t_uint8 1 ⟨some ⟨w.heap.size, 0, none⟩, n, n⟩ (bv (layN (List.replicate n 0) 0 n j v)), fun _ i _ => (i + 1).toNat,
    ⟨0, Nat.zero_le _, by rw [w64 (by omega) (by omega)]; omega, by simp, hg1, by rw [layN_zero]; exact hown1⟩, ?_⟩
  rintro x i w2 ⟨j, hj, rfl, rfl, hg2, hown2⟩
  refine br_dec (fun hlt => ?_) (fun hge => ?_)
  · have e1 : ((n : Int) - 1 - (j : Int)) = ((n - 1 - j : Nat) : Int) := by omega
    rw [wrap_u8, show ((n : Int) - 1 - (j : Int)).toNat = n - 1 - j by omega]
    refine ⟨⟨by omega, by show _ < (n : Int); omega, rfl⟩, ?_⟩
    refine own_put hown2 (i := n - 1 - j) (by show n - 1 - j < n; omega) rfl fun w3 hown3 hk3 _ => ?_
    have e2 : n - 1 - j = 0 + (n - 1 - j) := by omega
    rw [bv_set, e2, layN_step v (by omega) (by omega)] at hown3
    rw [shr .u64 _ 8 (by decide), w64 (by omega) (by omega)]
    refine ⟨⟨j + 1, by omega, by omega, ?_, hg2.keep hk3 fun i hi q => by have := (hown2.ge i q.symm).1; omega, hown3⟩, by dsimp only; omega⟩
    rw [← div_step]
  · have : j = n := by omega
    subst this
    have e : layN (List.replicate j 0) 0 j j v = beN j v := by simp [layN]
    rw [e] at hown2
    exact h _ w2 hown2 hg2 rfl
theorem ref_field_spec {all at_ n : Nat} {w : World} {R : Int → World → Prop} (hb : all ≤ 140737489403904) (hn : 1 ≤ n) (hn8 : n ≤ 8) (hat : at_ + n ≤ all) (h : R 0 w) : Cpalletref01_field (all : Int) (at_ : Int) (n : Int) w R := by
  refine Fpalletref01_field.calls _ _ _ _ _ ?_
  have e1 : IntKind.wrap .i64 ((all : Int) - (at_ : Int)) = (all : Int) - (at_ : Int) := w64 (by omega) (by omega)
  refine br_f (by rw [Bool.or_eq_false_iff, decide_eq_false_iff_not, decide_eq_false_iff_not]; omega) (br_f ?_ h)
  rw [Bool.or_eq_false_iff, Bool.or_eq_false_iff, decide_eq_false_iff_not, decide_eq_false_iff_not, decide_eq_false_iff_not, e1]
  omega
theorem num_small {l : L8} {j : Nat} (h : l.length = j) (hj : j ≤ 7) : num l < 72057594037927936 := by
  refine Nat.lt_of_lt_of_le (num_lt l) ?_
  rw [h]
  calc 256 ^ j ≤ 256 ^ 7 := Nat.pow_le_pow_right (by decide) hj
    _ = 72057594037927936 := by decide
theorem ref_num_spec {p : Sl} {l : L8} {at_ n : Nat} {w : World} {R : Int → World → Prop} (hp : Rd w 1 p (bv l)) (hn : 1 ≤ n) (hn8 : n ≤ 8) (hat : at_ + n ≤ l.length)
    (h : R ((num ((l.drop at_).take n) : Nat) : Int) w) : Cpalletref01_Num p (at_ : Int) (n : Int) w R := by
  refine Fpalletref01_Num.calls _ _ _ _ _ ?_
  refine Fpalletref01_Get.calls _ _ _ _ _ ?_
  have hnb := hp.nb
  have hln : l.length = p.n := by have := hp.len; rw [bv_length] at this; omega
  refine ref_field_spec (all := p.n) (by omega) hn hn8 (by omega) (br_f rfl ?_)
  generalize hseg : (l.drop at_).take n = seg at *
  have hsl : seg.length = n := by rw [← hseg, List.length_take, List.length_drop]; omega
  refine ⟨fun v x w' => w' = w ∧ ∃ j : Nat, x = j ∧ j ≤ n ∧ v = ((num (seg.take j) : Nat) : Int), fun _ x _ => n - x.toNat, ⟨rfl, 0, rfl, Nat.zero_le _, rfl⟩, ?_⟩
  rintro v x w0 ⟨rfl, j, rfl, hj, rfl⟩
  refine br_nat (fun hlt => ?_) (fun hge => ?_)
  · obtain ⟨a, ha, hc⟩ := hp.byte (i := at_ + j) (by omega)
    have hjs : j < seg.length := by omega
    have hseg' : seg[j] = l[at_ + j]'(by omega) := by subst hseg; simp
    have e1 : IntKind.wrap .i64 ((at_ : Int) + (j : Int)) = ((at_ + j : Nat) : Int) := by rw [w64 (by omega) (by omega)]; omega
    rw [e1, Int.toNat_natCast]
    refine ⟨⟨by omega, by omega, by rw [ha]; rfl⟩, (seg[j].toNat : Int), by rw [ha, hseg']; exact hc, ?_⟩
    have hb8 := seg[j].toNat_lt
    have hsm : num (seg.take j) < 72057594037927936 := num_small (j := j) (by rw [List.length_take]; omega) (by omega)
    rw [wu64 (n := ((num (seg.take j) : Nat) : Int) * 256) (by omega) (by omega), wu64 (n := (seg[j].toNat : Int)) (by omega) (by omega), wu64 (by omega) (by omega), w64 (by omega) (by omega)]
    refine ⟨⟨rfl, j + 1, by omega, by omega, ?_⟩, by dsimp only; omega⟩
    rw [List.take_succ_eq_append_getElem hjs, num_snoc]; omega
  · have : j = n := by omega
    subst this
    rw [List.take_of_length_le (by omega)]
    exact h
end Go.Proofs.YtaneeadpjelomaaDoor

/- Layer 4: what was written is read; lists of blocks that are alike. -/
namespace Go.Proofs.YtaneeadpjelomaaDoor
open Go CF

def cont (st : Wst) (file : ByteArray) : L8 := (st.seen file).getD []
theorem cont_step (st : Wst) (file : ByteArray) (o : Nat) (r : L8) : cont (stepW st file o r) file = wr (cont st file) o r := by
  simp [cont, stepW, applyWr, setF]
theorem layW_file {st : Wst} {file : ByteArray} {lba : Nat} {bs : List Bk} (hg : Good (cont st file)) : ∀ k, k ≤ bs.length → Good (cont (layW st file lba (rsOf bs) k) file) ∧
    ∀ j, blkAt (cont (layW st file lba (rsOf bs) k) file) j = if lba ≤ j ∧ j < lba + k then (bs[j - lba]?).getD emptyB else blkAt (cont st file) j
  | 0, _ => ⟨hg, fun j => by rw [if_neg (by omega)]; rfl⟩
  | k + 1, hk => by
    obtain ⟨h1, h2⟩ := layW_file (lba := lba) (bs := bs) hg k (by omega)
    have hr : rsOf bs k = recB (bs[k]'(by omega)) := by unfold rsOf; rw [List.getElem?_eq_getElem (by omega)]
    refine ⟨?_, fun j => ?_⟩
    · show Good (cont (stepW _ file _ _) file)
      rw [cont_step, hr]; exact good_rec h1 _ _
    · show blkAt (cont (stepW _ file _ _) file) j = _
      rw [cont_step, hr, blkAt_rec h1, h2]
      by_cases e : j = lba + k
      · subst e
        rw [if_pos rfl, if_pos (by omega), Nat.add_sub_cancel_left, List.getElem?_eq_getElem (by omega)]
        rfl
      · rw [if_neg e]
        by_cases q : lba ≤ j ∧ j < lba + k
        · rw [if_pos q, if_pos (by omega)]
        · rw [if_neg q, if_neg (by omega)]
theorem blkAt_nil (j : Nat) : blkAt [] j = emptyB := blkOf_not (by simp)
theorem flat_cut (bs : List Bk) (i m : Nat) : ((bs.flatMap bc).drop (i * 19)).take (m * 19) = ((bs.drop i).take m).flatMap bc := by
  have hd : ∀ (i : Nat) (l : List Bk), (l.flatMap bc).drop (i * 19) = (l.drop i).flatMap bc := by
    intro i
    induction i with
    | zero => intro l; simp
    | succ i ih =>
      intro l
      cases l with
      | nil => simp
      | cons b r =>
        rw [List.flatMap_cons, List.drop_succ_cons, ← ih r, List.drop_append, List.drop_of_length_le (by rw [bc_len]; omega), bc_len, List.nil_append]
        congr 1; omega
  have ht : ∀ (i : Nat) (l : List Bk), (l.flatMap bc).take (i * 19) = (l.take i).flatMap bc := by
    intro i
    induction i with
    | zero => intro l; simp
    | succ i ih =>
      intro l
      cases l with
      | nil => simp
      | cons b r =>
        rw [List.flatMap_cons, List.take_succ_cons, List.flatMap_cons, ← ih r, List.take_append, List.take_of_length_le (by rw [bc_len]; omega), bc_len]
        congr 2; omega
  rw [hd, ht]
theorem rd_bk_cut {w : World} {s : Sl} {bs : List Bk} (h : Rd w 19 s (bs.flatMap bc)) {l k : Nat} (hl : l ≤ k) (hk : k ≤ s.n) : Rd w 19 ⟨cutA s.A s.c l 19, k - l, s.c - l⟩ (((bs.drop l).take (k - l)).flatMap bc) := by
  have := h.cut hl hk
  rwa [flat_cut] at this
theorem IsW.nobytes {w : World} {pw : Nat} {D : Nat → Prop} {st : Wst} (h : IsW w pw D st) : NoBytes w D := by
  obtain ⟨mb, md, ws, cs, h⟩ := h
  exact h.nb
def bk7 : Bk := ⟨[0, 0, 0, 0, 0, 0, 0, 0, 0, 0, 0, 0, 0, 0, 0, 0], 0, 7, 0, rfl, by decide, by decide, by decide⟩
end Go.Proofs.YtaneeadpjelomaaDoor

/- Layer 4: blocks as arguments; the law of two pieces. -/
namespace Go.Proofs.YtaneeadpjelomaaDoor
open Go CF

section
variable {H : Type} {enc : TypeId × Value → H} {w : World} {base : Nat} {spare : Nat → Bool} {held : Bool}
theorem int_u8 {n : Int} (h : (Lit.int .u8 n).wf = true) : ∃ a : Nat, n = a ∧ a < 256 := by
  simp [Lit.wf, IntKind.min, IntKind.max, IntKind.signed, IntKind.bits] at h
  exact ⟨n.toNat, by omega, by omega⟩
theorem int_u16 {n : Int} (h : (Lit.int .u16 n).wf = true) : ∃ a : Nat, n = a ∧ a < 65536 := by
  simp [Lit.wf, IntKind.min, IntKind.max, IntKind.signed, IntKind.bits] at h
  exact ⟨n.toNat, by omega, by omega⟩
theorem int_u32 {n : Int} (h : (Lit.int .u32 n).wf = true) : ∃ a : Nat, n = a ∧ a < 4294967296 := by
  simp [Lit.wf, IntKind.min, IntKind.max, IntKind.signed, IntKind.bits] at h
  exact ⟨n.toNat, by omega, by omega⟩
theorem bytes_of : ∀ (n : Nat) (cs : List Value), FitL (List.replicate n (.i .u8)) cs → (∀ v ∈ cs, okV v) → ∃ l : L8, l.length = n ∧ cs = bv l
  | 0, [], _, _ => ⟨[], rfl, rfl⟩
  | n + 1, v :: cs, h, hv => by
    obtain ⟨h1, h2⟩ := h
    obtain ⟨l, hl, hc⟩ := bytes_of n cs h2 (fun u hu => hv u (by simp [hu]))
    have hv0 := hv v (by simp)
    obtain ⟨n0, rfl⟩ : ∃ n0 : Int, v = .int .u8 n0 := ⟨_, (Kd.mk_un h1).symm⟩
    obtain ⟨a, rfl, ha⟩ := int_u8 hv0
    refine ⟨UInt8.ofNat a :: l, by simp [hl], ?_⟩
    rw [hc]
    simp only [bv, List.map_cons, UInt8.toNat_ofNat']
    congr 2
    omega
  | n + 1, [], h, _ => h.elim
  | 0, _ :: _, h, _ => h.elim
theorem opens_block : Opens enc Tryd.prog w base spare held t_api_Block fun cs => ∃ b : Bk, cs = bc b ∧ True :=
  (opens_flat 8 t_api_Block kBk flat_api_Block (by kernel_rfl)).mono fun cs ⟨h, hv⟩ => by
    have h : FitL (List.replicate 16 (.i .u8) ++ [.i .u16, .i .u16, .i .u32]) cs := h
    obtain ⟨h1, h2⟩ := h.append
    simp only [List.length_replicate] at h1 h2
    obtain ⟨l, hl, hc⟩ := bytes_of 16 _ h1 fun v hv' => hv v (List.mem_of_mem_take hv')
    have hv2 : ∀ v ∈ cs.drop 16, okV v := fun v hv' => hv v (List.mem_of_mem_drop hv')
    have e := (List.take_append_drop 16 cs).symm
    generalize cs.drop 16 = r at h2 hv2 e
    match r, h2 with
    | [x, y, z], ⟨hx, hy, hz, _⟩ =>
      have ox := hv2 x (by simp)
      have oy := hv2 y (by simp)
      have oz := hv2 z (by simp)
      obtain ⟨x, rfl⟩ : ∃ n0 : Int, x = .int .u16 n0 := ⟨_, (Kd.mk_un hx).symm⟩
      obtain ⟨y, rfl⟩ : ∃ n0 : Int, y = .int .u16 n0 := ⟨_, (Kd.mk_un hy).symm⟩
      obtain ⟨z, rfl⟩ : ∃ n0 : Int, z = .int .u32 n0 := ⟨_, (Kd.mk_un hz).symm⟩
      obtain ⟨g, rfl, hg⟩ := int_u16 ox
      obtain ⟨a, rfl, ha⟩ := int_u16 oy
      obtain ⟨q, rfl, hr⟩ := int_u32 oz
      exact ⟨⟨l, g, a, q, hl, hg, ha, hr⟩, by rw [e, hc]; rfl, trivial⟩
theorem opens_blocks : Opens enc Tryd.prog w base spare held t_sl_api_Block fun cs => ∃ s : Sl, cs = [.slice s.A s.n s.c] ∧ ∃ bs : List Bk, Rd w 19 s (bs.flatMap bc) :=
  (opens_slice (f := bc) (Q := fun _ => True) (z := 19) (bytes := 24) u_sl_api_Block (by kernel_rfl) (by kernel_rfl) (by decide) bc_len opens_block).mono fun _ ⟨s, h1, bs, h2, _⟩ => ⟨s, h1, bs, h2⟩
end
theorem rdBl_of {st st' : Wst} {file : ByteArray} {a b n : Nat} (h : ∀ i, i < n → blkAt (cont st file) (a + i) = blkAt (cont st' file) (b + i)) : rdBl st file a n = rdBl st' file b n := by
  unfold rdBl
  apply List.map_congr_left
  intro i hi
  exact h i (List.mem_range.1 hi)
theorem rdBl_list {st : Wst} {file : ByteArray} {a n : Nat} {l : List Bk} (hn : l.length = n) (h : ∀ i (hi : i < l.length), blkAt (cont st file) (a + i) = l[i]) : rdBl st file a n = l := by
  unfold rdBl
  apply List.ext_getElem
  · simp [hn]
  · intro i h1 h2
    rw [List.getElem_map, List.getElem_range]
    exact h i h2
abbrev st0 : Wst := ⟨fun _ => none, fun _ => none, [], 0⟩
end Go.Proofs.YtaneeadpjelomaaDoor

/- Layer 3: what waits is done; how much waits. -/
namespace Go.Proofs.YtaneeadpjelomaaDoor
open Go CF

def apC (F : Files) (c : Cg) : Files := applyWr F c.name c.off c.p
def apAll (F : Files) (l : List Cg) : Files := l.foldl apC F
theorem apAll_snoc (F : Files) (l : List Cg) (c : Cg) : apAll F (l ++ [c]) = apC (apAll F l) c := by simp [apAll]
/-- all that waits is written within bounds -/
def Wok (st : Wst) : Prop := ∀ c ∈ st.waits, c.kind = 119 ∧ c.off + c.p.length ≤ 1048576
theorem sync_spec {w : World} {pw : Nat} {D : Nat → Prop} {st : Wst} {R : Int → World → Prop} (hw : IsW w pw D st) (hk : Wok st) (ho : st.ops < 1000000000000) (hn : st.waits.length < 1000000000)
    (h : ∀ w' D', Keep D w w' → IsW w' pw D' ⟨st.seen, apAll st.dur st.waits, [], st.ops + 1⟩ → (∀ k, D' k → D k ∨ w.heap.size ≤ k) → R 0 w') : Cworld_World_Sync (some ⟨pw, 0, none⟩) w R := by
  obtain ⟨mb, md, ws, cs, hw⟩ := hw
  refine Fworld_World_Sync.calls _ _ _ ?_
  refine br_f rfl ?_
  refine call_spec hw ho fun w1 hk1 hw1 => br_f rfl ⟨rfl, ws, by rw [gA, add0, hw1.blk.cell]; rfl, ?_⟩
  have hk1D : Keep D w w1 := hk1.mono fun _ _ q => by subst q; exact hw.dw
  have hlen : cs.length = st.waits.length := by rw [← hw.waits, List.length_map]
  have hwn : ws.n = cs.length := by have := hw.own.len; rw [cgv_flat] at this; omega
  refine ⟨fun x u => ∃ j : Nat, x = j ∧ j ≤ cs.length ∧ Keep D w u ∧ IsWd u pw D ⟨st.seen, apAll st.dur (st.waits.take j), st.waits, st.ops + 1⟩ mb md ws cs, fun x _ => cs.length - x.toNat,
    ⟨0, rfl, Nat.zero_le _, hk1D, hw1⟩, ?_⟩
  rintro x w2 ⟨j, rfl, hj, hk2, hw2⟩
  refine br_nat (fun hlt => ?_) (fun hge => ?_)
  · have hjc : j < cs.length := by omega
    have hjw : j < st.waits.length := by omega
    have hcj : cs[j].1 = st.waits[j] := by
      have := hw.waits
      simp only [← this, List.getElem_map]
    obtain ⟨hkind, hbnd⟩ := hk _ (List.getElem_mem hjw)
    obtain ⟨a, ha, hc⟩ := (hw2.own.rd (by omega)).elem (i := j) (by omega) (by decide)
    rw [flat_elem cgv_len hjc] at hc
    have lv : ∀ {u : World} {b : Addr}, Cells u b (cgv cs[j]) → (loadVar t_world_change b).run Tryd.prog u = .ok (.agg (cgv cs[j]).toArray) u := fun q => loadVar_rule g_world_change i_world_change rfl q
    refine ⟨⟨by omega, by omega, by rw [ha]; rfl⟩, (cgv cs[j]).toArray, by rw [ha]; exact lv hc, ?_⟩
    refine new_rule fun cb w3 hcb hb3 hg3 hsz3 => ?_
    have hw3 := hw2.keep hg3 (fun _ _ q => q) (nobytes_none w2)
    refine storeVar_rule (cells := (cgv cs[j]).toArray) hb3 i_world_change rfl rfl (by simp [cgv, Value.oneCell']) fun w4 hb4 hk4 hsz4 => ?_
    have hg4 : Grow w2 w4 := hg3.keep hk4 fun i hi q => by omega
    have hw4 := hw2.keep hg4 (fun _ _ q => q) (nobytes_none w2)
    rintro w5 rfl
    have hg5 : Grow w4 w4.drew := keep_drew w4
    have hw5 := hw4.keep hg5 (fun _ _ q => q) (nobytes_none w4)
    have hb5 : Blk w4.drew cb (cgv cs[j]).toArray t_world_change := hg5.heap hb4 (fun q => q)
    refine ⟨fun u => Blk u pw (wcells mb md ws (st.ops + 1)) t_world_World ∧ Blk u cb (cgv cs[j]).toArray t_world_change, ⟨hw5.blk, hb5⟩, rfl, some md, fun u hu => by rw [gA, add0, hu.1.cell]; rfl, (cgv cs[j]).toArray, fun u hu => lv (blk_cells hu.2), cs[j].2, fun u hu => by rw [add0, hu.2.cell]; rfl, ?_⟩
    have hrow := hw5.rows _ (List.getElem_mem hjc)
    have hpl : cs[j].1.p.length = cs[j].2.n := by have := hrow.len; rw [bv_length] at this; omega
    have e : (cgv cs[j]).toArray = #[.int .u8 119, .string cs[j].1.name, .string cs[j].1.to, .int .i64 (cs[j].1.off : Int), .slice cs[j].2.A cs[j].2.n cs[j].2.c] := by
      unfold cgv; rw [hcj, hkind]
    rw [e]
    refine apply_w_spec hw5.dur (hrow.rd (by rw [hcj] at hpl; omega)) (by rw [hcj]; exact hbnd) fun w6 hk6 hF6 => ?_
    have hw6 := hw5.setDur hk6 hF6
    rw [show (cs[j].1.p).take cs[j].2.n = cs[j].1.p from List.take_of_length_le (by omega)] at hw6
    have hk6D : Keep D w w6 := (((hk2.grow hg4).grow hg5)).trans hk6 fun _ _ q => by subst q; exact hw.dd
    rw [w64 (by omega) (by omega)]
    refine ⟨⟨j + 1, by omega, by omega, hk6D, ?_⟩, by dsimp only; omega⟩
    rw [List.take_succ_eq_append_getElem hjw, apAll_snoc, ← hcj]
    exact hw6
  · have hjn : j = st.waits.length := by omega
    rw [hjn, List.take_length] at hw2
    refine ⟨rfl, ?_⟩
    rw [gA, add0]
    refine put_rule hw2.blk (by show 2 < 7; decide) rfl fun w3 hb3 hk3 hsz3 => ?_
    have hfin := hw2.setWaits (w1 := w2) (w2 := w3) (ws' := ⟨none, 0, 0⟩) (cs' := []) (Keep.mono (Keep.refl (fun _ => False) w2) fun _ _ q => q.elim) (own_nil _ _ _ _) (.inr (.inr rfl)) (fun c hc => by cases hc) hb3 hk3
    have s2 := hk2.size
    refine h w3 (fun k => (k = pw ∨ k = mb ∨ k = md) ∨ some k = (⟨none, 0, 0⟩ : Sl).blk) (hk2.trans hfin.2.1 fun _ _ q => q) ⟨mb, md, ⟨none, 0, 0⟩, [], hfin.1⟩ fun k hk => ?_
    rcases hfin.2.2 k hk with q | q
    · exact .inl q
    · exact .inr (by omega)
end Go.Proofs.YtaneeadpjelomaaDoor

/- Layer 4: writing with what is made durable; the law of caches. -/
namespace Go.Proofs.YtaneeadpjelomaaDoor
open Go CF

def synced (s : Wst) : Wst := ⟨s.seen, apAll s.dur s.waits, [], s.ops + 1⟩
def syncIf (y : Bool) (s : Wst) : Wst := if y then synced s else s
theorem syncIf_seen (y : Bool) (s : Wst) : (syncIf y s).seen = s.seen := by cases y <;> rfl
theorem syncIf_ops (y : Bool) (s : Wst) : (syncIf y s).ops ≤ s.ops + 1 := by
  cases y
  · exact Nat.le_succ _
  · exact Nat.le_refl _
theorem syncIf_waits (y : Bool) (s : Wst) : (syncIf y s).waits = if y then [] else s.waits := by cases y <;> rfl
theorem syncIf_ok {y : Bool} {s : Wst} (h : Wok s) : Wok (syncIf y s) := by
  cases y
  · exact h
  · exact fun c hc => by cases hc
theorem layW_ok {st : Wst} {file : ByteArray} {lba : Nat} {rs : Nat → L8} (h : Wok st) (hlen : ∀ i, (rs i).length ≤ 25) : ∀ k, lba + k ≤ 4096 → Wok (layW st file lba rs k)
  | 0, _ => h
  | k + 1, hb => by
    intro c hc
    have ih := layW_ok (lba := lba) (file := file) h hlen k (by omega)
    rcases List.mem_append.1 hc with q | q
    · exact ih c q
    · rw [List.mem_singleton.1 q]
      refine ⟨rfl, ?_⟩
      have := hlen k
      show 25 * (lba + k) + (rs k).length ≤ _
      omega
/-- does a write end with a sync? -/
def syncs (n : Nat) (fua cache : Bool) : Bool := decide (0 < n) && (fua || !cache)
theorem store_write2_spec {w : World} {ps pw : Nat} {D : Nat → Prop} {st : Wst} {file : ByteArray} {blocks : Nat} {cache fua : Bool} {lba : Nat} {L : Sl} {bs : List Bk} {R : Int → Int → World → Prop}
    (hS : IsS w ps pw file blocks cache) (hps : ¬ D ps) (hw : IsW w pw D st) (hok : Wok st) (hs : 1 ≤ file.size ∧ file.size ≤ 32) (hbk : blocks ≤ 4096) (hl : lba + bs.length ≤ blocks) (hL : ∀ u, Keep D w u → Rd u 19 L (bs.flatMap bc))
    (ho : st.ops < 10000000000) (hn : st.waits.length < 10000000)
    (h : ∀ u D', Keep D w u → IsW u pw D' (syncIf (syncs bs.length fua cache) (layW st file lba (rsOf bs) bs.length)) → (∀ k, D' k → D k ∨ w.heap.size ≤ k) → IsS u ps pw file blocks cache → R (bs.length : Int) 0 u) :
    Cstore_Store_Write (some ⟨ps, 0, none⟩) (lba : Int) L fua w R := by
  refine store_write_spec hS hps hw hs hbk (by omega) hL (by omega) (by omega) (fun q => absurd q (by omega)) fun _ u D' hk hw' hD' hS' => ?_
  obtain ⟨lo, lw⟩ := layW_ops st file lba (rsOf bs) bs.length
  by_cases q : 0 < bs.length ∧ (fua = true ∨ cache = false)
  · rw [if_pos q]
    have hy : syncs bs.length fua cache = true := by
      unfold syncs
      rw [Bool.and_eq_true, decide_eq_true_eq, Bool.or_eq_true, Bool.not_eq_true']
      exact q
    refine sync_spec hw' (layW_ok hok (rsOf_len bs) _ (by omega)) (by omega) (by omega) fun u2 D2 hk2 hw2 hD2 => ?_
    have s1 := hk.size
    have lt := lt_of_heap hS
    refine h u2 D2 (hk.trans hk2 fun i hi e => ?_) (by rw [hy]; exact hw2) (fun k hk' => ?_) (hk2.heap hS' fun e => ?_)
    · rcases hD' i e with r | r
      · exact r
      · omega
    · rcases hD2 k hk' with r | r
      · exact hD' k r
      · exact .inr (by omega)
    · rcases hD' _ e with r | r
      · exact hps r
      · omega
  · rw [if_neg q]
    have hy : syncs bs.length fua cache = false := by
      unfold syncs
      by_cases q1 : 0 < bs.length
      · rw [decide_eq_true q1, Bool.true_and]
        cases fua <;> cases cache <;> simp_all
      · rw [decide_eq_false q1, Bool.false_and]
    exact h u D' hk (by rw [hy]; exact hw') hD' hS'
theorem store_sync_spec {w : World} {ps pw : Nat} {D : Nat → Prop} {st : Wst} {file : ByteArray} {blocks : Nat} {cache : Bool} {R : Int → World → Prop} (hS : IsS w ps pw file blocks cache) (hps : ¬ D ps) (hw : IsW w pw D st) (hok : Wok st)
    (ho : st.ops < 10000000000) (hn : st.waits.length < 10000000)
    (h : ∀ u D', Keep D w u → IsW u pw D' (synced st) → (∀ k, D' k → D k ∨ w.heap.size ≤ k) → IsS u ps pw file blocks cache → R 0 u) : Cstore_Store_Sync (some ⟨ps, 0, none⟩) w R := by
  refine Fstore_Store_Sync.calls _ _ _ (br_f rfl ⟨rfl, some ⟨pw, 0, none⟩, by rw [gA, add0, Blk.cell hS]; rfl, ?_⟩)
  exact sync_spec hw hok (by omega) (by omega) fun u D' hk hw' hD' => h u D' hk hw' hD' (hk.heap hS hps)
theorem wok0 : Wok st0 := fun c hc => by cases hc
end Go.Proofs.YtaneeadpjelomaaDoor

/- Layer 4: unmapping; an array of blocks as a variable. -/
namespace Go.Proofs.YtaneeadpjelomaaDoor
open Go CF

theorem layW_zero {st : Wst} {file : ByteArray} {lba : Nat} (hg : Good (cont st file)) : ∀ k, Good (cont (layW st file lba (fun _ => [0]) k) file) ∧
    ∀ j, blkAt (cont (layW st file lba (fun _ => [0]) k) file) j = if lba ≤ j ∧ j < lba + k then emptyB else blkAt (cont st file) j
  | 0 => ⟨hg, fun j => by rw [if_neg (by omega)]; rfl⟩
  | k + 1 => by
    obtain ⟨h1, h2⟩ := layW_zero (lba := lba) hg k
    refine ⟨?_, fun j => ?_⟩
    · show Good (cont (stepW _ file _ _) file)
      rw [cont_step]; exact good_zero h1 _
    · show blkAt (cont (stepW _ file _ _) file) j = _
      rw [cont_step, blkAt_zero h1, h2]
      by_cases e : j = lba + k
      · subst e
        rw [if_pos rfl, if_pos (by omega)]
      · rw [if_neg e]
        by_cases q : lba ≤ j ∧ j < lba + k
        · rw [if_pos q, if_pos (by omega)]
        · rw [if_neg q, if_neg (by omega)]
theorem store_unmap_spec {w : World} {ps pw : Nat} {D : Nat → Prop} {st : Wst} {file : ByteArray} {blocks : Nat} {cache : Bool} {lba n : Nat} {R : Int → Int → World → Prop}
    (hS : IsS w ps pw file blocks cache) (hps : ¬ D ps) (hw : IsW w pw D st) (hok : Wok st) (hs : 1 ≤ file.size ∧ file.size ≤ 32) (hbk : blocks ≤ 4096) (hl : lba + n ≤ blocks)
    (ho : st.ops < 10000000000) (hn : st.waits.length < 10000000)
    (h : ∀ u D', Keep D w u → IsW u pw D' (syncIf (syncs n false cache) (layW st file lba (fun _ => [0]) n)) → (∀ k, D' k → D k ∨ w.heap.size ≤ k) → IsS u ps pw file blocks cache → R (n : Int) 0 u) :
    Cstore_Store_Unmap (some ⟨ps, 0, none⟩) (lba : Int) (n : Int) w R := by
  refine Fstore_Store_Unmap.calls _ _ _ _ _ ?_
  refine check_spec hS hbk (by omega) ?_
  rw [if_pos hl]
  refine br_f rfl ?_
  refine lay_spec (n := n) (rs := fun _ => [0]) hS hps hw hs (by omega) (fun _ => by decide) (by omega) (by omega) (fun x u K hx hk hK => ?_) fun u D' hk hw' hD' hS' => ?_
  · refine ⟨rfl, ?_⟩
    show Cstore_Store_Unmap_1 (x : Int) u K
    refine Fstore_Store_Unmap_1.calls _ _ _ ?_
    refine lit_rule (cells := #[.int .u8 0]) (e := t_uint8) (z := 1) (base := 0) (by kernel_rfl) rfl (by decide) (Nat.zero_le _) fun w3 hlit3 hg3 _ => hK _ w3 hg3 hlit3
  · obtain ⟨lo, lw⟩ := layW_ops st file lba (fun _ => [0]) n
    by_cases q : 0 < n ∧ (false = true ∨ cache = false)
    · rw [if_pos q]
      have hy : syncs n false cache = true := by
        unfold syncs
        rw [Bool.and_eq_true, decide_eq_true_eq, Bool.or_eq_true, Bool.not_eq_true']
        exact q
      refine sync_spec hw' (layW_ok hok (fun _ => by decide) _ (by omega)) (by omega) (by omega) fun u2 D2 hk2 hw2 hD2 => ?_
      have s1 := hk.size
      have lt := lt_of_heap hS
      refine h u2 D2 (hk.trans hk2 fun i hi e => ?_) (by rw [hy]; exact hw2) (fun k hk' => ?_) (hk2.heap hS' fun e => ?_)
      · rcases hD' i e with r | r
        · exact r
        · omega
      · rcases hD2 k hk' with r | r
        · exact hD' k r
        · exact .inr (by omega)
      · rcases hD' _ e with r | r
        · exact hps r
        · omega
    · rw [if_neg q]
      have hy : syncs n false cache = false := by
        unfold syncs
        by_cases q1 : 0 < n
        · rw [decide_eq_true q1, Bool.true_and]
          cases cache <;> simp_all
        · rw [decide_eq_false q1, Bool.false_and]
      exact h u D' hk (by rw [hy]; exact hw') hD' hS'
/-- blocks side by side in a variable -/
theorem want_set {b : Nat} {w : World} {bs : List Bk} {t : TypeId} {j : Nat} {x : Bk} (hb : Blk w b (bs.flatMap bc).toArray t) (hj : j < bs.length) {K : World → Prop}
    (h : ∀ w', Blk w' b ((bs.set j x).flatMap bc).toArray t → Keep (fun k => k = b) w w' → w'.heap.size = w.heap.size → K w') : RunU Tryd.prog (storeVar t_api_Block ((⟨b, 0, none⟩ : Addr).add (j * 19)) (.agg (bc x).toArray)) w K := by
  rw [add0, Nat.zero_add]
  have hsz : (bs.flatMap bc).length = bs.length * 19 := flat_length bc_len bs
  have hj1 : (j + 1) * 19 ≤ bs.length * 19 := Nat.mul_le_mul_right _ hj
  refine storeAt_rule (o := j * 19) hb i_api_Block (by simp [bc_len]) (by simp only [List.size_toArray, bc_len, hsz]; omega) (fun v hv => bc_ones x v (by simpa using hv)) fun w1 hb1 hk1 hs1 => h w1 ?_ hk1 hs1
  have e : (bs.set j x).flatMap bc = (bs.flatMap bc).take (j * 19) ++ bc x ++ (bs.flatMap bc).drop ((j + 1) * 19) := by
    have h1 := flat_cut bs 0 j
    rw [Nat.zero_mul, List.drop_zero, List.drop_zero] at h1
    have h2 := flat_cut bs (j + 1) (bs.length)
    rw [List.take_of_length_le (by rw [List.length_drop, hsz]; omega), List.take_of_length_le (by rw [List.length_drop]; omega)] at h2
    rw [h1, h2, List.set_eq_take_append_cons_drop, if_pos hj, List.flatMap_append, List.flatMap_cons, List.append_assoc]
  rw [e]
  have hb1 : Blk w1 b ((bs.flatMap bc).toArray.toList.take (j * 19) ++ (bc x).toArray.toList ++ (bs.flatMap bc).toArray.toList.drop (j * 19 + (bc x).toArray.size)).toArray t := hb1
  simp only [List.size_toArray, bc_len] at hb1
  rw [show (j + 1) * 19 = j * 19 + 19 by omega]
  exact hb1
end Go.Proofs.YtaneeadpjelomaaDoor

/- Layer 4: a script of writes and unmappings. -/
namespace Go.Proofs.YtaneeadpjelomaaDoor
open Go CF

/-- an entry of a script -/
structure Act4 where
  kind : Nat
  a : Int
  n : Int
  l : Sl
  bs : List Bk
  on : Bool
def ac (x : Act4) : List Value := [.int .u8 (x.kind : Int), .int .i64 x.a, .int .i64 x.n, .slice x.l.A x.l.n x.l.c, .bool x.on]
theorem ac_len (x : Act4) : (ac x).length = 5 := rfl
theorem eqAt (bs : List Bk) (F : Nat) (xs : List Bk) (j : Nat) : (xs.length + F ≤ bs.length) → True := fun _ => trivial
/-- the array behind a write of a list from a place on -/
def setAll (bs : List Bk) (F : Nat) (xs : List Bk) : Nat → List Bk
  | 0 => bs
  | k + 1 => (setAll bs F xs k).set (F + k) ((xs[k]?).getD emptyB)
theorem setAll_len (bs : List Bk) (F : Nat) (xs : List Bk) : ∀ k, (setAll bs F xs k).length = bs.length
  | 0 => rfl
  | k + 1 => by simp [setAll, setAll_len bs F xs k]
theorem setAll_get (bs : List Bk) (F : Nat) (xs : List Bk) : ∀ k, F + k ≤ bs.length → ∀ j, j < bs.length → (setAll bs F xs k)[j]? = if F ≤ j ∧ j < F + k then some ((xs[j - F]?).getD emptyB) else bs[j]?
  | 0, _, j, _ => by rw [if_neg (by omega)]; rfl
  | k + 1, hk, j, hj => by
    have ih := setAll_get bs F xs k (by omega) j hj
    simp only [setAll]
    rw [List.getElem?_set, setAll_len]
    by_cases e : F + k = j
    · subst e
      rw [if_pos rfl, if_pos (by omega), if_pos (by omega), Nat.add_sub_cancel_left]
    · rw [if_neg e, ih]
      by_cases q : F ≤ j ∧ j < F + k
      · rw [if_pos q, if_pos (by omega)]
      · rw [if_neg q, if_neg (by omega)]
/-- a file tells these blocks -/
def Tells (st : Wst) (file : ByteArray) (bs : List Bk) : Prop := Good (cont st file) ∧ ∀ j, j < bs.length → some (blkAt (cont st file) j) = bs[j]?
theorem cont_syncIf (y : Bool) (s : Wst) (file : ByteArray) : cont (syncIf y s) file = cont s file := by
  unfold cont; rw [syncIf_seen]
theorem tells_write {st : Wst} {file : ByteArray} {bs xs : List Bk} {F : Nat} {y : Bool} (h : Tells st file bs) (hF : F + xs.length ≤ bs.length) :
    Tells (syncIf y (layW st file F (rsOf xs) xs.length)) file (setAll bs F xs xs.length) := by
  obtain ⟨h1, h2⟩ := layW_file (lba := F) (bs := xs) h.1 xs.length (Nat.le_refl _)
  refine ⟨by rw [cont_syncIf]; exact h1, fun j hj => ?_⟩
  rw [setAll_len] at hj
  rw [cont_syncIf, h2, setAll_get _ _ _ _ hF _ hj]
  split
  · rfl
  · exact h.2 j hj
theorem tells_unmap {st : Wst} {file : ByteArray} {bs : List Bk} {F n : Nat} {y : Bool} (h : Tells st file bs) (hF : F + n ≤ bs.length) :
    Tells (syncIf y (layW st file F (fun _ => [0]) n)) file (setAll bs F [] n) := by
  obtain ⟨h1, h2⟩ := layW_zero (lba := F) h.1 n
  refine ⟨by rw [cont_syncIf]; exact h1, fun j hj => ?_⟩
  rw [setAll_len] at hj
  rw [cont_syncIf, h2, setAll_get _ _ _ _ hF _ hj]
  split
  · simp
  · exact h.2 j hj
theorem tells_empty (n : Nat) (file : ByteArray) : Tells st0 file (List.replicate n emptyB) := by
  refine ⟨good_nil, fun j hj => ?_⟩
  rw [List.length_replicate] at hj
  rw [List.getElem?_replicate, if_pos hj]
  show some (blkAt [] j) = _
  rw [blkAt_nil]
theorem tells_read {st : Wst} {file : ByteArray} {bs : List Bk} (h : Tells st file bs) : rdBl st file 0 bs.length = bs :=
  rdBl_list rfl fun i hi => by
    have := h.2 i hi
    rw [List.getElem?_eq_getElem hi] at this
    rw [Nat.zero_add]
    exact Option.some.inj this
end Go.Proofs.YtaneeadpjelomaaDoor

/- Layers 2 and 13: the guard of bytes, blocks as they go over the wire. -/
namespace Go.Proofs.YtaneeadpjelomaaDoor
open Go CF

def gG (s : Nat) : Nat := if s / 32768 = 1 then (2 * s % 65536) ^^^ 0x8bb7 else 2 * s % 65536
def gGs : Nat → Nat → Nat
  | 0, s => s
  | k + 1, s => gG (gGs k s)
def gB (s : Nat) (b : UInt8) : Nat := gGs 8 (s ^^^ b.toNat * 256)
def c16 (l : L8) : Nat := l.foldl gB 0
theorem xor_lt16 {a b : Nat} (ha : a < 65536) (hb : b < 65536) : a ^^^ b < 65536 := Nat.xor_lt_two_pow (n := 16) ha hb
theorem gG_lt {s : Nat} (h : s < 65536) : gG s < 65536 := by
  unfold gG
  split
  · exact xor_lt16 (Nat.mod_lt _ (by decide)) (by decide)
  · exact Nat.mod_lt _ (by decide)
theorem gGs_lt {s : Nat} (h : s < 65536) : ∀ k, gGs k s < 65536
  | 0 => h
  | k + 1 => gG_lt (gGs_lt h k)
theorem gB_lt {s : Nat} (h : s < 65536) (b : UInt8) : gB s b < 65536 := gGs_lt (xor_lt16 h (by have := b.toNat_lt; omega)) 8
theorem c16f_lt {l : L8} : ∀ {s : Nat}, s < 65536 → l.foldl gB s < 65536 := by
  induction l with
  | nil => intro s h; exact h
  | cons b r ih => intro s h; exact ih (gB_lt h b)
theorem c16_lt (l : L8) : c16 l < 65536 := c16f_lt (by decide)
theorem xor_odd {a : Nat} (h : a % 2 = 0) : (a ^^^ 0x8bb7) % 2 = 1 := by rw [xor_mod2, h]; decide
theorem gG_inj {a b : Nat} (ha : a < 65536) (hb : b < 65536) (h : gG a = gG b) : a = b := by
  unfold gG at h
  split at h <;> split at h
  · have : 2 * a % 65536 = 2 * b % 65536 := by
      have := congrArg (· ^^^ 0x8bb7) h
      simpa [Nat.xor_assoc] using this
    omega
  · have := xor_odd (a := 2 * a % 65536) (by omega)
    rw [h] at this
    omega
  · have := xor_odd (a := 2 * b % 65536) (by omega)
    rw [← h] at this
    omega
  · omega
theorem gGs_inj {a b : Nat} (ha : a < 65536) (hb : b < 65536) : ∀ k, gGs k a = gGs k b → a = b
  | 0, h => h
  | k + 1, h => gGs_inj ha hb k (gG_inj (gGs_lt ha k) (gGs_lt hb k) h)
theorem gB_inj {a b : Nat} {x : UInt8} (ha : a < 65536) (hb : b < 65536) (h : gB a x = gB b x) : a = b := by
  have hx := x.toNat_lt
  have := gGs_inj (xor_lt16 ha (by omega)) (xor_lt16 hb (by omega)) 8 h
  have := congrArg (· ^^^ x.toNat * 256) this
  simpa [Nat.xor_assoc] using this
theorem gB_ne {a : Nat} {x y : UInt8} (ha : a < 65536) (h : x ≠ y) : gB a x ≠ gB a y := by
  intro q
  have hx := x.toNat_lt
  have hy := y.toNat_lt
  have := gGs_inj (xor_lt16 ha (by omega)) (xor_lt16 ha (by omega)) 8 q
  have := congrArg (a ^^^ ·) this
  simp only [← Nat.xor_assoc, Nat.xor_self, Nat.zero_xor] at this
  exact h (UInt8.toNat_inj.1 (by omega))
theorem c16f_inj {l : L8} : ∀ {a b : Nat}, a < 65536 → b < 65536 → l.foldl gB a = l.foldl gB b → a = b := by
  induction l with
  | nil => intro a b _ _ h; exact h
  | cons x r ih => intro a b ha hb h; exact gB_inj ha hb (ih (gB_lt ha x) (gB_lt hb x) h)
/-- one byte turned turns the guard -/
theorem c16_turn {p q : L8} {x y : UInt8} (h : x ≠ y) : c16 (p ++ x :: q) ≠ c16 (p ++ y :: q) := by
  intro e
  unfold c16 at e
  rw [List.foldl_append, List.foldl_append] at e
  have hs : p.foldl gB 0 < 65536 := c16f_lt (by decide)
  exact gB_ne hs h (c16f_inj (gB_lt hs x) (gB_lt hs y) e)
theorem c16_snoc (l : L8) (b : UInt8) : c16 (l ++ [b]) = gB (c16 l) b := by simp [c16, List.foldl_append]
/-! ### the model's words -/
theorem wu16' (n : Nat) : IntKind.wrap .u16 (n : Int) = ((n % 65536 : Nat) : Int) := by
  have e : IntKind.wrap .u16 (n : Int) = (n : Int) % 65536 := by simp [IntKind.wrap, IntKind.signed, IntKind.bits]
  rw [e]; omega
theorem xor16 {a b : Nat} (ha : a < 65536) (hb : b < 65536) : bXor .u16 (a : Int) (b : Int) = ((a ^^^ b : Nat) : Int) := by
  unfold bXor
  show IntKind.wrap .u16 (((BitVec.ofInt 16 (a : Int) ^^^ BitVec.ofInt 16 (b : Int)).toNat : Nat) : Int) = _
  rw [BitVec.ofInt_natCast, BitVec.ofInt_natCast, BitVec.toNat_xor, BitVec.toNat_ofNat, BitVec.toNat_ofNat, Nat.mod_eq_of_lt (by omega), Nat.mod_eq_of_lt (by omega)]
  have := xor_lt16 ha hb
  exact wu16 (by omega) (by omega)
theorem shl16_8 {b : Nat} (h : b < 256) : bShl .u16 (b : Int) 8 = ((b * 256 : Nat) : Int) := by
  unfold bShl
  have e : (min 8 (IntKind.bits .u16)) = 8 := by decide
  rw [e, show (b : Int) * 2 ^ 8 = ((b * 256 : Nat) : Int) by omega]
  exact wu16 (by omega) (by omega)
theorem shl16_1 {s : Nat} : bShl .u16 (s : Int) 1 = ((2 * s % 65536 : Nat) : Int) := by
  unfold bShl
  have e : (min 1 (IntKind.bits .u16)) = 1 := by decide
  rw [e, show (s : Int) * 2 ^ 1 = ((2 * s : Nat) : Int) by omega, wu16']
/-! ### tuples, looks -/
def mkR (kind lba : Nat) : Nat := if kind = 1 ∨ kind = 2 then lba % 4294967296 else 0
theorem mkR_lt (kind lba : Nat) : mkR kind lba < 4294967296 := by unfold mkR; split <;> omega
/-- a block of data, protected -/
def mkB (kind lba : Nat) (d : L8) (h : d.length = 16) : Bk := ⟨d, c16 d, 0, mkR kind lba, h, c16_lt d, by decide, mkR_lt kind lba⟩
def escB (kind : Nat) (b : Bk) : Bool := decide (b.a = 65535) && (decide (kind ≠ 3) || decide (b.r = 4294967295))
def chkB (kind prot lba : Nat) (b : Bk) : Nat :=
  if kind = 0 ∨ 3 < kind ∨ prot = 3 ∨ 4 < prot ∨ escB kind b = true then 0
  else if prot ≠ 2 ∧ b.g ≠ c16 b.d then 0x1001
  else if prot ≠ 4 ∧ kind ≠ 3 ∧ b.r ≠ lba % 4294967296 then 0x1003 else 0
def knownB (kind prot : Nat) : Bool := decide (kind ≤ 3) && (decide (prot = 0) || (decide (0 < kind) && decide (prot ≤ 4)))
/-! ### over the wire -/
def tupB (b : Bk) : L8 := be2 b.g ++ be2 b.a ++ be4 b.r
def wireB (wt : Bool) (b : Bk) : L8 := b.d ++ if wt then tupB b else []
def packB (wt : Bool) (l : List Bk) : L8 := l.flatMap (wireB wt)
def szB (wt : Bool) : Nat := if wt then 24 else 16
theorem wireB_len (wt : Bool) (b : Bk) : (wireB wt b).length = szB wt := by
  cases wt
  · simp [wireB, szB, b.hd]
  · simp [wireB, szB, tupB, be2, be4, b.hd]
theorem packB_len (wt : Bool) (l : List Bk) : (packB wt l).length = l.length * szB wt := by
  unfold packB
  induction l with
  | nil => simp
  | cons a r ih => rw [List.flatMap_cons, List.length_append, ih, wireB_len, List.length_cons, Nat.succ_mul, Nat.add_comm]
def pad16 (l : L8) : L8 := (l ++ List.replicate 16 0).take 16
theorem pad16_len (l : L8) : (pad16 l).length = 16 := by simp [pad16]
theorem pad16_eq {l : L8} (h : l.length = 16) : pad16 l = l := by
  unfold pad16; rw [List.take_append_of_le_length (by omega), List.take_of_length_le (by omega)]
theorem num_take (l : L8) (k : Nat) : num (l.take k) < 256 ^ k :=
  Nat.lt_of_lt_of_le (num_lt _) (Nat.pow_le_pow_right (by decide) (by rw [List.length_take]; omega))
/-- the block that some bytes are -/
def unB (wt : Bool) (l : L8) : Bk :=
  if wt then ⟨pad16 l, num ((l.drop 16).take 2), num ((l.drop 18).take 2), num ((l.drop 20).take 4), pad16_len l, num_take _ 2, num_take _ 2, num_take _ 4⟩
  else ⟨pad16 l, 0, 0, 0, pad16_len l, by decide, by decide, by decide⟩
def unpB (wt : Bool) (l : L8) : List Bk := (List.range (l.length / szB wt)).map fun i => unB wt ((l.drop (i * szB wt)).take (szB wt))
theorem unpB_len (wt : Bool) (l : L8) : (unpB wt l).length = l.length / szB wt := by simp [unpB]
theorem unpB_at {wt : Bool} {l : L8} {i : Nat} (h : i < (unpB wt l).length) : (unpB wt l)[i] = unB wt ((l.drop (i * szB wt)).take (szB wt)) := by simp [unpB]
theorem num_two {a b : UInt8} : num [a, b] = a.toNat * 256 + b.toNat := by simp [num]
theorem unB_wire (b : Bk) : unB true (wireB true b) = b := by
  have hd := b.hd
  have e : wireB true b = b.d ++ (be2 b.g ++ (be2 b.a ++ be4 b.r)) := by simp [wireB, tupB]
  have d16 : (wireB true b).drop 16 = be2 b.g ++ (be2 b.a ++ be4 b.r) := by rw [e, ← hd, List.drop_left]
  have d18 : (wireB true b).drop 18 = be2 b.a ++ be4 b.r := by
    have : (wireB true b).drop 18 = ((wireB true b).drop 16).drop 2 := by rw [List.drop_drop]
    rw [this, d16]; rfl
  have d20 : (wireB true b).drop 20 = be4 b.r := by
    have : (wireB true b).drop 20 = ((wireB true b).drop 18).drop 2 := by rw [List.drop_drop]
    rw [this, d18]; rfl
  unfold unB
  rw [if_pos rfl]
  apply bk_ext
  · show pad16 (wireB true b) = b.d
    unfold pad16
    rw [e, List.append_assoc, List.take_append_of_le_length (by omega), List.take_of_length_le (by omega)]
  · show num (((wireB true b).drop 16).take 2) = b.g
    rw [d16]; exact num_be2 b.hg
  · show num (((wireB true b).drop 18).take 2) = b.a
    rw [d18]; exact num_be2 b.ha
  · show num (((wireB true b).drop 20).take 4) = b.r
    rw [d20]; exact num_be4 b.hr
theorem unB_wire0 (b : Bk) : (unB false (wireB false b)).d = b.d := by
  unfold unB wireB
  show pad16 (b.d ++ []) = b.d
  rw [List.append_nil, pad16_eq b.hd]
end Go.Proofs.YtaneeadpjelomaaDoor

/- Layers 2 and 13: the walks of the guard, of tuples and of blocks over the wire. -/
namespace Go.Proofs.YtaneeadpjelomaaDoor
open Go CF

theorem c16_br {s : Nat} (hs : s < 65536) {X Y : Prop} (h1 : s / 32768 = 1 → X) (h0 : ¬ s / 32768 = 1 → Y) : Br ((bShr .u16 (s : Int) 15) == 1) X Y := by
  rw [shr .u16 s 15 (by decide)]
  exact br_eq (fun q => h1 (by have : (2 : Nat) ^ 15 = 32768 := rfl; omega)) (fun q => h0 (by have : (2 : Nat) ^ 15 = 32768 := rfl; omega))
theorem c16_spec {p : Sl} {l : L8} {w : World} {R : Int → World → Prop} (hp : Rd w 1 p (bv l)) (h : R ((c16 l : Nat) : Int) w) : Ccrc_C16 p w R := by
  refine Fcrc_C16.calls _ _ _ ?_
  refine Fcrc_Add16.calls _ _ _ _ ?_
  have hln : l.length = p.n := by have := hp.len; rw [bv_length] at this; omega
  have hnb := hp.nb
  refine ⟨fun v x w' => w' = w ∧ ∃ j : Nat, x = j ∧ j ≤ p.n ∧ v = ((c16 (l.take j) : Nat) : Int), fun _ x _ => p.n - x.toNat, ⟨rfl, 0, rfl, Nat.zero_le _, rfl⟩, ?_⟩
  rintro v x w0 ⟨rfl, j, rfl, hj, rfl⟩
  have hcs := c16_lt (l.take j)
  refine br_nat (fun hlt => ?_) (fun hge => ?_)
  · obtain ⟨a, ha, hc⟩ := hp.byte (i := j) hlt
    have hjs : j < l.length := by omega
    have hb8 := l[j].toNat_lt
    refine ⟨⟨by omega, by omega, by rw [ha]; rfl⟩, (l[j].toNat : Int), by rw [ha]; exact hc, ?_⟩
    rw [wu16 (n := (l[j].toNat : Int)) (by omega) (by omega), shl16_8 hb8, xor16 hcs (by omega)]
    generalize hT : c16 (l.take j) ^^^ l[j].toNat * 256 = T
    have hTl : T < 65536 := by rw [← hT]; exact xor_lt16 hcs (by omega)
    refine ⟨fun v x w' => w' = w0 ∧ ∃ k : Nat, x = k ∧ k ≤ 8 ∧ v = ((gGs k T : Nat) : Int), fun _ x _ => 8 - x.toNat, ⟨rfl, 0, rfl, by decide, rfl⟩, ?_⟩
    rintro v x w1 ⟨rfl, k, rfl, hk, rfl⟩
    have hgl := gGs_lt hTl k
    refine br_dec (fun hlt8 => ?_) (fun hge8 => ?_)
    · refine c16_br hgl (fun q => ?_) (fun q => ?_)
      · rw [shl16_1, show bXor .u16 ((2 * gGs k T % 65536 : Nat) : Int) 35767 = ((2 * gGs k T % 65536 ^^^ 35767 : Nat) : Int) from xor16 (by omega) (by decide), w64 (by omega) (by omega)]
        refine ⟨⟨rfl, k + 1, by omega, by omega, ?_⟩, by dsimp only; omega⟩
        simp only [gGs]; unfold gG; rw [if_pos q]
      · rw [shl16_1, w64 (by omega) (by omega)]
        refine ⟨⟨rfl, k + 1, by omega, by omega, ?_⟩, by dsimp only; omega⟩
        simp only [gGs]; unfold gG; rw [if_neg q]
    · have : k = 8 := by omega
      subst this
      rw [w64 (by omega) (by omega)]
      refine ⟨⟨rfl, j + 1, by omega, by omega, ?_⟩, by dsimp only; omega⟩
      rw [List.take_succ_eq_append_getElem hjs, c16_snoc]
      unfold gB
      rw [hT]
  · have : j = p.n := by omega
    subst this
    rw [List.take_of_length_le (by omega)]
    exact h
/-! ### blocks in memory -/
def tc (g a r : Nat) : List Value := [.int .u16 (g : Int), .int .u16 (a : Int), .int .u32 (r : Int)]
theorem dRd {w : World} {pb : Nat} {b : Bk} (h : Blk w pb (bc b).toArray t_api_Block) : Rd w 1 ⟨some ⟨pb, 0, none⟩, 16, 16⟩ (bv b.d) :=
  ⟨by rw [bv_length, b.hd]; rfl, Nat.le_refl _, by show 16 ≤ _; decide, fun _ => ⟨_, rfl, fun j v hj => blk_cells h j v (by rw [bc, List.getElem?_append_left (List.getElem?_eq_some_iff.1 hj).1]; exact hj)⟩⟩
theorem bc_tail (b : Bk) : (bc b).drop 16 = tc b.g b.a b.r := by
  unfold bc
  rw [List.drop_append, List.drop_of_length_le (by rw [bv_length, b.hd]; omega), bv_length, b.hd]; rfl
theorem bc_head (b : Bk) : (bc b).take 16 = bv b.d := by
  unfold bc
  rw [List.take_append_of_le_length (by rw [bv_length, b.hd]; omega), List.take_of_length_le (by rw [bv_length, b.hd]; omega)]
theorem cells_tail {w : World} {a : Addr} {b : Bk} (h : Cells w a (bc b)) : Cells w (a.add 16) (tc b.g b.a b.r) := fun j v hj => by
  rw [addr_add]
  refine h (16 + j) v ?_
  rw [← bc_tail, List.getElem?_drop] at hj
  exact hj
theorem cells_head {w : World} {a : Addr} {b : Bk} (h : Cells w a (bc b)) : Cells w (a.add 0) (bv b.d) := fun j v hj => by
  rw [addr_zero]
  refine h j v ?_
  rw [← bc_head, List.getElem?_take] at hj
  split at hj
  · exact hj
  · cases hj
theorem tLoad {w : World} {a : Addr} {g n r : Nat} (h : Cells w a (tc g n r)) : (loadVar t_api_Tuple a).run Tryd.prog w = .ok (.agg (tc g n r).toArray) w :=
  loadVar_rule g_api_Tuple i_api_Tuple rfl h
theorem dLoad {w : World} {a : Addr} {d : L8} (hd : d.length = 16) (h : Cells w a (bv d)) : (loadVar t_16_uint8 a).run Tryd.prog w = .ok (.agg (bv d).toArray) w :=
  loadVar_rule g_16_uint8 i_16_uint8 (by rw [bv_length, hd]) h
theorem bLoad {w : World} {a : Addr} {b : Bk} (h : Cells w a (bc b)) : (loadVar t_api_Block a).run Tryd.prog w = .ok (.agg (bc b).toArray) w :=
  loadVar_rule g_api_Block i_api_Block (by rw [bc_len]) h
theorem make_spec {kind lba app : Nat} {d : L8} {w : World} {R : Array Value → World → Prop} (hd : d.length = 16) (h : ∀ w', Grow w w' → R (tc (c16 d) app (mkR kind lba)).toArray w') : Cpi_Make (kind : Int) (lba : Int) (bv d).toArray (app : Int) w R := by
  refine Fpi_Make.calls _ _ _ _ _ _ ?_
  refine new_rule fun db w0 hdb hb0 hg0 hsz0 => ?_
  have hb0 : Blk w0 db (bv d).toArray t_16_uint8 := hb0
  refine new_rule fun ab w1 hab hb1 hg1 hsz1 => ⟨by decide, ?_⟩
  have hb0' := hg1.heap hb0 (fun q => q)
  have hrd : Rd w1 1 ⟨some ⟨db, 0, none⟩, 16, 16⟩ (bv d) := ⟨by rw [bv_length, hd]; rfl, Nat.le_refl _, by show 16 ≤ _; decide, fun _ => ⟨_, rfl, fun j v hj => blk_cells hb0' j v hj⟩⟩
  refine c16_spec (p := ⟨some ⟨db, 0, none⟩, 16, 16⟩) hrd ?_
  refine new_rule fun tb w2 htb hb2 hg2 hsz2 => ?_
  refine storeVar_rule (cells := (tc (c16 d) app 0).toArray) hb2 i_api_Tuple rfl rfl (by simp [tc, Value.oneCell']) fun w3 hb3 hk3 hsz3 => ?_
  have hb1' : Blk w2 ab _ t_api_Tuple := hg2.heap hb1 (fun q => q)
  have hb13 : Blk w3 ab _ t_api_Tuple := hk3.heap hb1' (by omega)
  have hg03 : Grow w w3 := ((hg0.trans hg1).trans hg2).keep hk3 fun i hi q => by omega
  refine letX0 (fun u => Grow w u ∧ Blk u tb (tc (c16 d) app (mkR kind lba)).toArray t_api_Tuple ∧ Blk u ab #[.int .u16 0, .int .u16 0, .int .u32 0] t_api_Tuple) ?_ (fun J => ?_)
  · rintro u ⟨hgu, hbt, hba⟩
    refine ⟨_, tLoad (blk_cells hbt), ?_⟩
    refine storeVar_rule (cells := (tc (c16 d) app (mkR kind lba)).toArray) hba i_api_Tuple rfl rfl (by simp [tc, Value.oneCell']) fun u2 hb2' hk2' _ => ?_
    exact ⟨_, tLoad (blk_cells hb2'), h u2 (hgu.keep hk2' fun i hi q => by have := hg0.size; omega)⟩
  · by_cases q : kind = 1 ∨ kind = 2
    · refine br_t (by rw [Bool.or_eq_true, beq_iff_eq, beq_iff_eq]; omega) ?_
      rw [add0]
      refine put_rule hb3 (by show 2 < 3; decide) rfl fun w4 hb4 hk4 _ => J w4 ⟨hg03.keep hk4 fun i hi q => by have := hg0.size; omega, ?_, hk4.heap hb13 (by omega)⟩
      have e : IntKind.wrap .u32 (lba : Int) = ((mkR kind lba : Nat) : Int) := by
        unfold mkR; rw [if_pos q]
        have e : IntKind.wrap .u32 (lba : Int) = (lba : Int) % 4294967296 := by simp [IntKind.wrap, IntKind.signed, IntKind.bits]
        rw [e]; omega
      rw [e] at hb4
      exact hb4
    · refine br_f (by rw [Bool.or_eq_false_iff, beq_eq_false_iff_ne, beq_eq_false_iff_ne]; omega) (J w3 ⟨hg03, ?_, hb13⟩)
      unfold mkR; rw [if_neg q]; exact hb3
theorem escapes_spec {kind : Nat} {b : Bk} {w : World} {R : Bool → World → Prop} (h : ∀ w', Grow w w' → R (escB kind b) w') : Cpi_escapes (kind : Int) (tc b.g b.a b.r).toArray w R := by
  refine Fpi_escapes.calls _ _ _ _ ?_
  refine new_rule fun tb w0 htb hb0 hg0 hsz0 => ?_
  have hb0 : Blk w0 tb (tc b.g b.a b.r).toArray t_api_Tuple := hb0
  refine ⟨(b.a : Int), by rw [add0, hb0.cell]; rfl, ?_⟩
  have := h w0 hg0
  unfold escB at this
  refine br_ne (fun q => ?_) (fun q => ⟨(b.r : Int), fun _ => by rw [add0, hb0.cell]; rfl, ?_⟩)
  · rw [decide_eq_false (by omega)] at this; exact this
  · have e : ((kind : Int) != 3 || (b.r : Int) == 4294967295) = (decide (b.a = 65535) && (decide (kind ≠ 3) || decide (b.r = 4294967295))) := by
      rw [decide_eq_true (by omega : b.a = 65535), Bool.true_and, Bool.eq_iff_iff, Bool.or_eq_true, Bool.or_eq_true, bne_iff_ne, beq_iff_eq, decide_eq_true_eq, decide_eq_true_eq]
      omega
    rw [e]; exact this
theorem check_b_spec {kind prot lba : Nat} {b : Bk} {w : World} {R : Int → World → Prop} (h : ∀ w', Grow w w' → R ((chkB kind prot lba b : Nat) : Int) w') : Cpi_Check (kind : Int) (prot : Int) (lba : Int) (bc b).toArray w R := by
  refine Fpi_Check.calls _ _ _ _ _ _ ?_
  refine new_rule fun bb w0 hbb hb0 hg0 hsz0 => ?_
  have hb0 : Blk w0 bb (bc b).toArray t_api_Block := hb0
  have ht0 : Cells w0 (⟨bb, 0, none⟩ : Addr) (bc b) := blk_cells hb0
  refine ⟨_, fun _ => tLoad (cells_tail ht0), ?_⟩
  generalize hG : (((((kind : Int) == 0) || decide ((kind : Int) > 3)) || ((prot : Int) == 3)) || decide ((prot : Int) > 4)) = G
  have hGiff : G = true ↔ (kind = 0 ∨ 3 < kind ∨ prot = 3 ∨ 4 < prot) := by
    rw [← hG, Bool.or_eq_true, Bool.or_eq_true, Bool.or_eq_true, beq_iff_eq, beq_iff_eq, decide_eq_true_eq, decide_eq_true_eq]
    omega
  refine letJ1 (fun x u => Grow w0 u ∧ (G = false → x = escB kind b)) ?_ (fun J => ⟨fun q => escapes_spec fun u hu => J _ _ ⟨hu, fun _ => rfl⟩, fun q => J _ _ ⟨Keep.refl _ _, fun e => by rw [e] at q; cases q⟩⟩)
  rintro x u ⟨hgu, hx⟩
  by_cases hz : G = true ∨ escB kind b = true
  · have hc : chkB kind prot lba b = 0 := by
      unfold chkB
      refine if_pos ?_
      rcases hz with q | q
      · have := hGiff.1 q; omega
      · simp [q]
    have := h u (hg0.trans hgu)
    rw [hc] at this
    refine br_t ?_ this
    rw [Bool.or_eq_true]
    cases hg : G with
    | true => exact .inl rfl
    | false => right; rw [hx hg]; exact hz.resolve_left (by rw [hg]; decide)
  have hGf : G = false := by cases hg : G with | false => rfl | true => exact absurd (.inl hg) hz
  have hE : escB kind b = false := by cases hg : escB kind b with | false => rfl | true => exact absurd (.inr hg) hz
  have hn : ¬ (kind = 0 ∨ 3 < kind ∨ prot = 3 ∨ 4 < prot ∨ escB kind b = true) := by
    have hx : ¬ (kind = 0 ∨ 3 < kind ∨ prot = 3 ∨ 4 < prot) := fun q => hz (.inl (hGiff.2 q))
    rintro (q | q | q | q | q)
    · exact hx (.inl q)
    · exact hx (.inr (.inl q))
    · exact hx (.inr (.inr (.inl q)))
    · exact hx (.inr (.inr (.inr q)))
    · rw [hE] at q; cases q
  refine br_f (by rw [hGf, hx hGf, hE]; rfl) ?_
  rintro w2 rfl
  have hg2 : Grow w0 u.drew := hgu.trans (keep_drew u)
  have hbu : ∀ {v : World}, Grow w0 v → Blk v bb (bc b).toArray t_api_Block := fun g => g.heap hb0 (fun q => q)
  obtain ⟨e16, e17, e18⟩ := bc_at b
  refine ⟨fun v => Grow w0 v, hg2, (b.g : Int), fun _ v hv => by rw [add0, add0, (hbu hv).cell]; exact e16, fun _ => by decide, ?_⟩
  have hd : ∀ {v : World}, Grow w0 v → Rd v 1 ⟨some ⟨bb, 0, none⟩, 16, 16⟩ (bv b.d) := fun g => dRd (hbu g)
  refine letJ1 (fun x v => Grow w0 v ∧ ((prot : Int) ≠ 2 → x = ((c16 b.d : Nat) : Int))) ?_ (fun J => ⟨fun q => c16_spec (p := ⟨some ⟨bb, 0, none⟩, 16, 16⟩) (hd hg2) (J _ _ ⟨hg2, fun _ => rfl⟩), fun q => J _ _ ⟨hg2, fun e => absurd (by simpa using q) e⟩⟩)
  rintro x v ⟨hgv, hxv⟩
  refine ⟨hgv, ?_⟩
  have hfin := h v (hg0.trans hgv)
  by_cases q1 : prot ≠ 2 ∧ b.g ≠ c16 b.d
  · have hc : chkB kind prot lba b = 4097 := by unfold chkB; rw [if_neg hn, if_pos q1]
    rw [hc] at hfin
    refine br_t ?_ hfin
    rw [hxv (by omega), Bool.and_eq_true, bne_iff_ne, bne_iff_ne]
    omega
  refine br_f ?_ ⟨(b.r : Int), fun _ => by rw [add0, add0, (hbu hgv).cell]; exact e18, ?_⟩
  · rw [Bool.and_eq_false_iff, bne_eq_false_iff_eq, bne_eq_false_iff_eq]
    by_cases e : prot = 2
    · left; omega
    · right; rw [hxv (by omega)]; omega
  have e32 : IntKind.wrap .u32 (lba : Int) = ((lba % 4294967296 : Nat) : Int) := by
    have e : IntKind.wrap .u32 (lba : Int) = (lba : Int) % 4294967296 := by simp [IntKind.wrap, IntKind.signed, IntKind.bits]
    rw [e]; omega
  rw [e32]
  by_cases q2 : prot ≠ 4 ∧ kind ≠ 3 ∧ b.r ≠ lba % 4294967296
  · have hc : chkB kind prot lba b = 4099 := by unfold chkB; rw [if_neg hn, if_neg q1, if_pos q2]
    rw [hc] at hfin
    refine br_t ?_ hfin
    rw [Bool.and_eq_true, Bool.and_eq_true, bne_iff_ne, bne_iff_ne, bne_iff_ne]
    omega
  · have hc : chkB kind prot lba b = 0 := by unfold chkB; rw [if_neg hn, if_neg q1, if_neg q2]
    rw [hc] at hfin
    refine br_f ?_ hfin
    rw [Bool.and_eq_false_iff, Bool.and_eq_false_iff, bne_eq_false_iff_eq, bne_eq_false_iff_eq, bne_eq_false_iff_eq]
    omega
theorem size_spec {wt : Bool} {w : World} {R : Int → World → Prop} (h : R ((szB wt : Nat) : Int) w) : Cpi_Size wt w R := by
  refine Fpi_Size.calls _ _ _ ?_
  cases wt
  · exact br_f rfl h
  · exact br_t rfl h
end Go.Proofs.YtaneeadpjelomaaDoor

/- What a command brings: a sense, a result. -/
namespace Go.Proofs.YtaneeadpjelomaaDoor
open Go CF

/-- a sense -/
structure Sn where
  key : Nat
  code : Nat
  info : Nat
  hi : Bool
  field : Int
  bit : Int
  hf : Bool
  ic : Bool
def sn0 : Sn := ⟨0, 0, 0, false, 0, 0, false, false⟩
def snv (s : Sn) : List Value := [.int .u8 (s.key : Int), .int .u16 (s.code : Int), .int .u64 (s.info : Int), .bool s.hi, .int .i64 s.field, .int .i64 s.bit, .bool s.hf, .bool s.ic]
def badS (code : Nat) : Sn := ⟨5, code, 0, false, 0, 0, false, false⟩
def badF (field : Nat) : Sn := ⟨5, 0x2600, 0, false, (field : Int), -1, true, false⟩
def atS (key code info : Nat) : Sn := ⟨key, code, info, true, 0, 0, false, false⟩
/-- a result: status, sense, data -/
def rsv (st : Nat) (s : Sn) (d : Sl) : List Value := [.int .u8 (st : Int)] ++ snv s ++ [.slice d.A d.n d.c]
abbrev nilS : Sl := ⟨none, 0, 0⟩
theorem rsv_len (st : Nat) (s : Sn) (d : Sl) : (rsv st s d).length = 10 := rfl
theorem rsv_ones (st : Nat) (s : Sn) (d : Sl) : (rsv st s d).toArray.all (·.oneCell') = true := by simp [rsv, snv, Value.oneCell']
theorem rLoad {w : World} {a : Addr} {st : Nat} {s : Sn} {d : Sl} (h : Cells w a (rsv st s d)) : (loadVar t_api_Result a).run Tryd.prog w = .ok (.agg (rsv st s d).toArray) w := loadVar_rule g_api_Result i_api_Result rfl h
theorem sLoad {w : World} {a : Addr} {s : Sn} (h : Cells w a (snv s)) : (loadVar t_api_Sense a).run Tryd.prog w = .ok (.agg (snv s).toArray) w := loadVar_rule g_api_Sense i_api_Sense rfl h
/-- a result that is laid and handed back -/
theorem ret_rule {w : World} {a : Nat} {old : Array Value} {st : Nat} {s : Sn} {d : Sl} {K : Array Value → World → Prop} (hb : Blk w a old t_api_Result) (ho : old.size = 10)
    (h : ∀ w', Keep (fun k => k = a) w w' → K (rsv st s d).toArray w') :
    RunU Tryd.prog (storeVar t_api_Result ⟨a, 0, none⟩ (.agg (rsv st s d).toArray)) w fun w' => ∃ res : Array Value, (loadVar t_api_Result ⟨a, 0, none⟩).run Tryd.prog w' = .ok (.agg res) w' ∧ K res w' :=
  storeVar_rule (cells := (rsv st s d).toArray) hb i_api_Result rfl ho (rsv_ones _ _ _) fun w1 hb1 hk1 _ => ⟨_, rLoad (blk_cells hb1), h w1 hk1⟩
/-- a result that is laid into a variable -/
theorem lay_rule {w : World} {a : Nat} {old : Array Value} {st : Nat} {s : Sn} {d : Sl} {K : World → Prop} (hb : Blk w a old t_api_Result) (ho : old.size = 10)
    (h : ∀ w', Blk w' a (rsv st s d).toArray t_api_Result → Keep (fun k => k = a) w w' → w'.heap.size = w.heap.size → K w') : RunU Tryd.prog (storeVar t_api_Result ⟨a, 0, none⟩ (.agg (rsv st s d).toArray)) w K :=
  storeVar_rule (cells := (rsv st s d).toArray) hb i_api_Result rfl ho (rsv_ones _ _ _) h
theorem grow_new {w u v : World} {a : Nat} (hg : Grow w u) (ha : w.heap.size ≤ a) (hk : Keep (fun k => k = a) u v) : Grow w v := hg.keep hk fun i hi q => by omega
theorem fails_spec {s : Sn} {w : World} {R : Array Value → World → Prop} (h : ∀ w', Grow w w' → R (rsv 2 s nilS).toArray w') : Csbc_fails (snv s).toArray w R := by
  refine Fsbc_fails.calls _ _ _ ?_
  refine new_rule fun sb w0 hsb hb0 hg0 hsz0 => ?_
  have hb0 : Blk w0 sb (snv s).toArray t_api_Sense := hb0
  refine new_rule fun ab w1 hab hb1 hg1 hsz1 => ⟨_, sLoad (blk_cells (hg1.heap hb0 (fun q => q))), (rsv 2 s nilS).toArray, by kernel_rfl, ?_⟩
  exact ret_rule hb1 rfl fun w2 hk2 => h w2 (grow_new (hg0.trans hg1) (by have := hg0.size; omega) hk2)
theorem at_spec {key code info : Nat} {w : World} {R : Array Value → World → Prop} (h : ∀ w', Grow w w' → R (rsv 2 (atS key code info) nilS).toArray w') : Csbc_at (key : Int) (code : Int) (info : Int) w R := by
  refine Fsbc_at.calls _ _ _ _ _ ?_
  refine new_rule fun ab w0 hab hb0 hg0 hsz0 => ?_
  refine fails_spec (s := atS key code info) fun w1 hg1 => ?_
  exact ret_rule (hg1.heap hb0 (fun q => q)) rfl fun w2 hk2 => h w2 (grow_new (hg0.trans hg1) (by omega) hk2)
theorem good_spec {d : Sl} {w : World} {R : Array Value → World → Prop} (h : ∀ w', Grow w w' → R (rsv 0 sn0 d).toArray w') : Csbc_good d w R := by
  refine Fsbc_good.calls _ _ _ ?_
  refine new_rule fun ab w0 hab hb0 hg0 hsz0 => ?_
  exact ret_rule (st := 0) (s := sn0) (d := d) hb0 rfl fun w2 hk2 => h w2 (grow_new hg0 (by omega) hk2)
theorem length_spec {w : World} {R : Array Value → World → Prop} (h : ∀ w', Grow w w' → R (rsv 2 (badS 0x1a00) nilS).toArray w') : Csbc_length w R := by
  refine Fsbc_length.calls _ _ ?_
  refine new_rule fun ab w0 hab hb0 hg0 hsz0 => ?_
  refine fails_spec (s := badS 0x1a00) fun w1 hg1 => ?_
  exact ret_rule (hg1.heap hb0 (fun q => q)) rfl fun w2 hk2 => h w2 (grow_new (hg0.trans hg1) (by omega) hk2)
theorem within_spec {a b c : Nat} {w : World} {R : Bool → World → Prop} (ha : a < 18446744073709551616) (hb : b < 18446744073709551616) (hc : c < 18446744073709551616) (h : R (decide (a + b ≤ c)) w) : Cbe_Within (a : Int) (b : Int) (c : Int) w R := by
  refine Fbe_Within.calls _ _ _ _ _ ?_
  unfold Fbe_Within
  have e : (decide ((a : Int) ≤ (c : Int)) && decide ((b : Int) ≤ IntKind.wrap .u64 ((c : Int) - (a : Int)))) = decide (a + b ≤ c) := by
    rw [Bool.eq_iff_iff, Bool.and_eq_true, decide_eq_true_eq, decide_eq_true_eq, decide_eq_true_eq]
    by_cases q : a ≤ c
    · rw [wu64 (by omega) (by omega)]; omega
    · omega
  first
    | (rw [e]; exact h)
    | exact e ▸ h
end Go.Proofs.YtaneeadpjelomaaDoor

/- Layer 15: what parameters say, in plain words. -/
namespace Go.Proofs.YtaneeadpjelomaaDoor
open Go CF

/-- a piece -/
structure SegX where
  from_ : Int
  to_ : Int
  blocks : Int
  src : Nat
  dst : Nat
def sgv (x : SegX) : List Value := [.int .i64 x.from_, .int .i64 x.to_, .int .i64 x.blocks, .int .u64 (x.src : Int), .int .u64 (x.dst : Int)]
theorem sgv_len (x : SegX) : (sgv x).length = 5 := rfl
def sub (p : L8) (at_ n : Nat) : L8 := (p.drop at_).take n
theorem sub_len {p : L8} {at_ n : Nat} (h : at_ + n ≤ p.length) : (sub p at_ n).length = n := by simp [sub]; omega
def trimR (l : L8) : L8 := (l.reverse.dropWhile (· == 32)).reverse
def frontX : L8 := [0xe4, 0, 0, 0, 2, 1, 0, 20]
def unitBad (d : L8) : Option Nat :=
  match (List.range 8).find? (fun i => decide (d.getD i 0 ≠ frontX.getD i 0)) with
  | some i => some i
  | none => if d.getD 28 0 ≠ 0 then some 28 else if num (sub d 29 3) ≠ 16 then some 29 else none
def unitNm (d : L8) : L8 := trimR (sub d 8 20)
def segBad (nu : Nat) (q : L8) : Option Nat :=
  if num (sub q 0 4) ≠ 0x02000018 then some 0 else if num (sub q 8 2) ≠ 0 then some 8 else if nu ≤ num (sub q 4 2) then some 4 else if nu ≤ num (sub q 6 2) then some 6
  else if 256 < num (sub q 10 2) then some 10 else none
def segOf (q : L8) : SegX := ⟨(num (sub q 4 2) : Int), (num (sub q 6 2) : Int), (num (sub q 10 2) : Int), num (sub q 12 8), num (sub q 20 8)⟩
def nuX (p : L8) : Nat := num (sub p 2 2)
def nsX (p : L8) : Nat := num (sub p 8 4)
def headX (p : L8) : Option Sn :=
  if p.length < 16 then some (badS 0x1a00)
  else if num (sub p 0 2) ≠ 0 then some (badF 0) else if num (sub p 4 4) ≠ 0 then some (badF 4) else if num (sub p 12 4) ≠ 0 then some (badF 12)
  else if nuX p % 32 ≠ 0 then some (badF 2) else if nsX p % 28 ≠ 0 then some (badF 8) else if p.length ≠ 16 + nuX p + nsX p then some (badS 0x1a00)
  else if 256 < nuX p ∨ 224 < nsX p then some (badS 0x2608) else none
def unitAt (p : L8) (j : Nat) : L8 := sub p (16 + 32 * j) 32
def segAt (p : L8) (j : Nat) : L8 := sub p (16 + nuX p + 28 * j) 28
def uFault (p : L8) (j : Nat) : Option Nat := (unitBad (unitAt p j)).map (16 + 32 * j + ·)
def sFault (p : L8) (j : Nat) : Option Nat := (segBad (nuX p / 32) (segAt p j)).map (16 + nuX p + 28 * j + ·)
def unitsX (p : L8) (k : Nat) : List L8 := (List.range k).map fun j => unitNm (unitAt p j)
def segsX (p : L8) (k : Nat) : List SegX := (List.range k).map fun j => segOf (segAt p j)
structure ParX where
  us : List L8
  ss : List SegX
  sn : Sn
  ok : Bool
def noX (s : Sn) : ParX := ⟨[], [], s, false⟩
def parseX (p : L8) : ParX :=
  if p = [] then ⟨[], [], sn0, true⟩ else match headX p with
  | some s => noX s
  | none => match (List.range (nuX p / 32)).findSome? (uFault p) with
    | some f => noX (badF f)
    | none => match (List.range (nsX p / 28)).findSome? (sFault p) with
      | some f => noX (badF f)
      | none => ⟨unitsX p (nuX p / 32), segsX p (nsX p / 28), sn0, true⟩
theorem findSome_range {α : Type} {f : Nat → Option α} {n i : Nat} {x : α} (hi : i < n) (h : ∀ j, j < i → f j = none) (hx : f i = some x) : (List.range n).findSome? f = some x := by
  induction n generalizing i with
  | zero => omega
  | succ n ih =>
    rw [List.range_succ, List.findSome?_append]
    by_cases e : i < n
    · rw [ih e h hx]; rfl
    · have : i = n := by omega
      subst this
      have : (List.range i).findSome? f = none := by
        rw [List.findSome?_eq_none_iff]
        intro j hj; exact h j (List.mem_range.1 hj)
      rw [this]
      simp [hx]
theorem findSome_none {α : Type} {f : Nat → Option α} {n : Nat} (h : ∀ j, j < n → f j = none) : (List.range n).findSome? f = none := by
  rw [List.findSome?_eq_none_iff]
  intro j hj; exact h j (List.mem_range.1 hj)
theorem unitsX_succ (p : L8) (k : Nat) : unitsX p (k + 1) = unitsX p k ++ [unitNm (unitAt p k)] := by simp [unitsX, List.range_succ]
theorem segsX_succ (p : L8) (k : Nat) : segsX p (k + 1) = segsX p k ++ [segOf (segAt p k)] := by simp [segsX, List.range_succ]
theorem unitsX_len (p : L8) (k : Nat) : (unitsX p k).length = k := by simp [unitsX]
theorem segsX_len (p : L8) (k : Nat) : (segsX p k).length = k := by simp [segsX]
/-! ### trimmed -/
theorem snoc_ind {α : Type} {P : List α → Prop} (h0 : P []) (hs : ∀ l b, P l → P (l ++ [b])) : ∀ l, P l := by
  intro l
  rw [← List.reverse_reverse l]
  induction l.reverse with
  | nil => exact h0
  | cons b r ih => rw [List.reverse_cons]; exact hs _ _ ih
theorem trimR_nil : trimR [] = [] := rfl
theorem trimR_snoc (l : L8) (b : UInt8) : trimR (l ++ [b]) = if b = 32 then trimR l else l ++ [b] := by
  unfold trimR
  rw [List.reverse_append, List.reverse_singleton, List.singleton_append, List.dropWhile_cons]
  by_cases h : b = 32
  · rw [if_pos h, if_pos (by simp [h])]
  · rw [if_neg h, if_neg (by simp [h])]
    simp
theorem trimR_rep (l : L8) (k : Nat) : trimR (l ++ List.replicate k 32) = trimR l := by
  induction k with
  | zero => simp
  | succ k ih => rw [List.replicate_succ', ← List.append_assoc, trimR_snoc, if_pos rfl, ih]
theorem trimR_of {l : L8} (h : l.getLast? ≠ some 32) : trimR l = l := by
  rcases List.eq_nil_or_concat l with rfl | ⟨r, b, rfl⟩
  · rfl
  · rw [List.concat_eq_append] at h ⊢
    rw [trimR_snoc, if_neg]
    intro q
    apply h
    rw [q]; simp
theorem trimR_last : ∀ l : L8, (trimR l).getLast? ≠ some 32 := by
  refine snoc_ind (by simp [trimR]) fun l b ih => ?_
  rw [trimR_snoc]
  split
  · exact ih
  · rename_i h
    simpa using h
theorem trimR_pad : ∀ l : L8, ∃ k, l = trimR l ++ List.replicate k 32 := by
  refine snoc_ind ⟨0, rfl⟩ fun l b ih => ?_
  rw [trimR_snoc]
  split
  · rename_i h
    obtain ⟨k, hk⟩ := ih
    refine ⟨k + 1, ?_⟩
    conv => lhs; rw [hk]
    rw [h, List.replicate_succ', List.append_assoc]
  · exact ⟨0, by simp⟩
end Go.Proofs.YtaneeadpjelomaaDoor
