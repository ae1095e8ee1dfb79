import Derived.Laws.MakeOwn
import Derived.Lib.AppendZerosOnto
import Derived.Deep.DeepAppendWide
import Derived.Test.YtpmebahhjgkflaaGreatDoorB7
/- Layer 3: the world's calls; a plan: the numbers of the calls that fail. -/
namespace Go.Proofs.YtpmebahhjgkflaaGreatDoor
open Go CF
set_option maxRecDepth 100000

/-- what waits -/
structure Cg where
  kind : Int
  name : ByteArray
  to : ByteArray
  off : Nat
  p : L8
def cgv (x : Cg × Sl) : List Value := [.int .u8 x.1.kind, .string x.1.name, .string x.1.to, .int .i64 (x.1.off : Int), .slice x.2.A x.2.n x.2.c]
/-- a world as it is meant: no call fails -/
structure Wst where
  seen : Files
  dur : Files
  waits : List Cg
  ops : Nat
/-- a plan: the map that holds it, the calls that fail -/
structure Pl where
  mf : Option Nat
  F : Int → Bool
def PlanAt (w : World) (pl : Pl) : Prop := match pl.mf with
  | none => ∀ n, pl.F n = false
  | some b => ∃ m, IMap w b m ∧ ∀ n, (m n).getD (.bool false) = .bool (pl.F n)
def noPlan : Pl := ⟨none, fun _ => false⟩
theorem PlanAt.keep {S : Nat → Prop} {w w' : World} {pl : Pl} (h : PlanAt w pl) (k : Keep S w w') (hn : ∀ b, pl.mf = some b → ¬ S b) : PlanAt w' pl := by
  obtain ⟨mf, F⟩ := pl
  cases mf with
  | none => exact h
  | some b =>
    obtain ⟨m, h1, h2⟩ := h
    exact ⟨m, h1.keep k (hn b rfl), h2⟩
theorem PlanAt.map {w : World} {pl : Pl} (h : PlanAt w pl) {b : Nat} (hb : pl.mf = some b) : ∃ es c, w.heap[b]? = some (.map es c) := by
  obtain ⟨mf, F⟩ := pl
  simp only at hb
  subst hb
  obtain ⟨m, ⟨es, c, h1, _⟩, _⟩ := h
  exact ⟨es, c, h1⟩
def wcells (mf : Option Nat) (mb md : Nat) (ws : Sl) (ops : Nat) : Array Value := #[.map (some mb), .map (some md), .slice ws.A ws.n ws.c, .int .i64 (ops : Int), .map mf, .int .i64 (-1), .bool false]
/-- the world lies at a block; D: the blocks that it may write over -/
structure IsWd (w : World) (pw : Nat) (D : Nat → Prop) (st : Wst) (pl : Pl) (mb md : Nat) (ws : Sl) (cs : List (Cg × Sl)) : Prop where
  blk : Blk w pw (wcells pl.mf mb md ws st.ops) t_world_World
  seen : IsF w mb st.seen
  dur : IsF w md st.dur
  ne : mb ≠ md
  own : Own w 0 t_world_change 5 ws (cs.flatMap cgv)
  waits : cs.map (·.1) = st.waits
  rows : ∀ c ∈ cs, Own w 0 t_uint8 1 c.2 (bv c.1.p)
  dw : D pw
  db : D mb
  dd : D md
  ds : ∀ g, ws.blk = some g → D g
  lt : ∀ k, D k → k < w.heap.size
  nb : NoBytes w D
  plan : PlanAt w pl
  dp : ∀ b, pl.mf = some b → D b
  np : pl.mf ≠ some mb ∧ pl.mf ≠ some md
/-- a world whose calls of these numbers fail -/
def IsWq (w : World) (pw : Nat) (D : Nat → Prop) (st : Wst) (F : Int → Bool) : Prop := ∃ pl, pl.F = F ∧ ∃ mb md ws cs, IsWd w pw D st pl mb md ws cs
def quiet : Int → Bool := fun _ => false
abbrev IsW (w : World) (pw : Nat) (D : Nat → Prop) (st : Wst) : Prop := IsWq w pw D st quiet
theorem IsWd.keep {S : Nat → Prop} {w w' : World} {pw : Nat} {D : Nat → Prop} {st : Wst} {pl : Pl} {mb md : Nat} {ws : Sl} {cs : List (Cg × Sl)} (h : IsWd w pw D st pl mb md ws cs) (k : Keep S w w') (hd : ∀ k, D k → ¬ S k) (hs : NoBytes w S) :
    IsWd w' pw D st pl mb md ws cs := by
  have hsz := k.size
  refine ⟨k.heap h.blk (hd _ h.dw), h.seen.keep k (hd _ h.db) hs, h.dur.keep k (hd _ h.dd) hs, h.ne, h.own.keep k fun b hb => hd _ (h.ds b hb), h.waits, fun c hc => (h.rows c hc).keep k fun b hb => ?_, h.dw, h.db, h.dd, h.ds, fun k hk => by have := h.lt k hk; omega, fun g cur hg q => ?_, h.plan.keep k fun b hb => hd _ (h.dp b hb), h.dp, h.np⟩
  · obtain ⟨cur, hcur⟩ := own_heap (h.rows c hc) hb
    exact hs b cur hcur
  · have hlt := h.lt g q
    have := k.block g hlt (hd g q)
    exact h.nb g cur (by rw [← this]; exact hg) q
theorem IsW.q {w : World} {pw : Nat} {D : Nat → Prop} {st : Wst} (h : IsW w pw D st) : IsWq w pw D st quiet := h
theorem IsWq.isW {w : World} {pw : Nat} {D : Nat → Prop} {st : Wst} (h : IsWq w pw D st quiet) : IsW w pw D st := h
theorem IsWq.keep {S : Nat → Prop} {w w' : World} {pw : Nat} {D : Nat → Prop} {st : Wst} {F : Int → Bool} (h : IsWq w pw D st F) (k : Keep S w w') (hd : ∀ k, D k → ¬ S k) (hs : NoBytes w S) : IsWq w' pw D st F := by
  obtain ⟨pl, hq, mb, md, ws, cs, h⟩ := h
  exact ⟨pl, hq, mb, md, ws, cs, h.keep k hd hs⟩
theorem IsWq.grow {w w' : World} {pw : Nat} {D : Nat → Prop} {st : Wst} {F : Int → Bool} (h : IsWq w pw D st F) (k : Grow w w') : IsWq w' pw D st F := h.keep k (fun _ _ q => q) (nobytes_none w)
/-- a world made -/
theorem world_new_spec {w : World} {R : Option Addr → World → Prop}
    (h : ∀ pw D w', Grow w w' → IsW w' pw D ⟨fun _ => none, fun _ => none, [], 0⟩ → (∀ k, D k → w.heap.size ≤ k) → R (some ⟨pw, 0, none⟩) w') : Cworld_New w R := by
  refine Fworld_New.calls _ _ ?_
  rintro mb w1 rfl rfl
  rintro md w2 rfl rfl
  refine new_rule fun pw w3 hpw hb3 hg3 hsz3 => ?_
  have hg1 := keep_alloc w (.map #[] 0)
  have hg2 := keep_alloc (w.alloc (.map #[] 0)) (.map #[] 0)
  have s1 : (w.alloc (.map #[] 0)).heap.size = w.heap.size + 1 := by simp
  have s2 : ((w.alloc (.map #[] 0)).alloc (.map #[] 0)).heap.size = w.heap.size + 2 := by simp
  have f1 : IsF w3 w.heap.size fun _ => none := ((isF_new w).grow hg2).grow hg3
  have f2 : IsF w3 (w.alloc (.map #[] 0)).heap.size fun _ => none := (isF_new _).grow hg3
  refine h pw (fun k => k = pw ∨ k = w.heap.size ∨ k = (w.alloc (.map #[] 0)).heap.size) w3 ((hg1.trans hg2).trans hg3) ⟨noPlan, rfl, w.heap.size, (w.alloc (.map #[] 0)).heap.size, ⟨none, 0, 0⟩, [], ?_⟩ fun k hk => by omega
  refine ⟨hb3, f1, f2, by omega, own_nil _ _ _ _, rfl, fun c hc => (by cases hc), .inl rfl, .inr (.inl rfl), .inr (.inr rfl), fun g hg => (by simp [Sl.blk] at hg), fun k hk => (by omega), fun g cur hg q => ?_, fun _ => rfl, fun b hb => (by cases hb), ⟨fun q => (by cases q), fun q => (by cases q)⟩⟩
  rcases q with rfl | rfl | rfl
  · rw [hb3] at hg
    injection hg with hg
    injection hg with _ ht
    exact absurd ht (by decide)
  · exact isF_map f1 _ _ _ hg
  · exact isF_map f2 _ _ _ hg
theorem checkKey_int {P : Program} {w : World} {k : TypeId} {q : IntKind} (ek : Bool) (n : Nat) (hk : P.underlying k = some (.int q)) (z : Int) : (Instr.checkKey ek (n + 1) k (.int q z)).run P w = .ok () w := by
  unfold Instr.checkKey
  simp [run_underlying hk]
theorem nil_look (w : World) (n : Int) : (Instr.lookup t_map_int_bool (.map none) (.int .i64 n) false).run Tryz.prog w = .ok (.bool false) w := by
  have hf : (Instr.findKey 3 (.int .i64 n) []).run Tryz.prog w = .ok none w := by
    unfold Instr.findKey
    simp [run_underlying u_int, Instr.findNow]
  unfold Instr.lookup
  simp [run_underlying u_map_int_bool, checkKey_int _ _ u_int, hf, zero_rule i_bool]
theorem plan_look {w : World} {pl : Pl} (h : PlanAt w pl) (n : Int) : (Instr.lookup t_map_int_bool (.map pl.mf) (.int .i64 n) false).run Tryz.prog w = .ok (.bool (pl.F n)) w := by
  obtain ⟨mf, F⟩ := pl
  cases mf with
  | none =>
    have e : F n = false := h n
    show _ = Result.ok (Value.bool (F n)) w
    rw [e]; exact nil_look _ _
  | some b =>
    obtain ⟨m, h1, h2⟩ := h
    have := (ilook_rule (P := Tryz.prog) u_map_int_bool u_int (zero_rule i_bool (w := w)) h1 n).2
    rw [h2 n] at this
    exact this
/-- a counted call -/
theorem call_any {w : World} {pw : Nat} {D : Nat → Prop} {st : Wst} {pl : Pl} {mb md : Nat} {ws : Sl} {cs : List (Cg × Sl)} {R : Int → World → Prop} (hw : IsWd w pw D st pl mb md ws cs) (ho : st.ops < 1000000000000)
    (h : ∀ w', Keep (fun k => k = pw) w w' → IsWd w' pw D { st with ops := st.ops + 1 } pl mb md ws cs → R (if pl.F (st.ops : Int) then 6 else 0) w') : Cworld_World_call (some ⟨pw, 0, none⟩) w R := by
  refine Fworld_World_call.calls _ _ _ ?_
  have hb := hw.blk
  refine ⟨rfl, false, by rw [gA, add0, hb.cell]; rfl, br_f rfl ⟨rfl, (st.ops : Int), by rw [gA, add0, hb.cell]; rfl, rfl, (st.ops : Int), by rw [gA, add0, hb.cell]; rfl, rfl, ?_⟩⟩
  rw [w64 (by omega) (by omega)]
  rw [gA, add0]
  refine put_rule hb (by show 3 < 7; decide) rfl fun w1 hb1 hk1 hsz1 => ?_
  have hb1 : Blk w1 pw (wcells pl.mf mb md ws (st.ops + 1)) t_world_World := hb1
  have fin : IsWd w1 pw D { st with ops := st.ops + 1 } pl mb md ws cs := by
    have nbp : NoBytes w fun k => k = pw := fun g cur hg q => hw.nb g cur hg (by subst q; exact hw.dw)
    have nm : mb ≠ pw := fun q => isF_map hw.seen _ _ _ (by rw [q]; exact hb)
    have nd : md ≠ pw := fun q => isF_map hw.dur _ _ _ (by rw [q]; exact hb)
    refine ⟨hb1, hw.seen.keep hk1 nm nbp, hw.dur.keep hk1 nd nbp, hw.ne, hw.own.keep hk1 fun b hb2 q => ?_, hw.waits, fun c hc => (hw.rows c hc).keep hk1 fun b hb2 => ?_, hw.dw, hw.db, hw.dd, hw.ds, fun k hk => by have := hw.lt k hk; omega, fun g cur hg q => ?_,
      hw.plan.keep hk1 fun b hb2 q => ?_, hw.dp, hw.np⟩
    · obtain ⟨cur, hc⟩ := own_heap hw.own hb2
      subst q
      rw [hb] at hc
      injection hc with hc
      injection hc with _ ht
      exact absurd ht (by decide)
    · obtain ⟨cur, hc2⟩ := own_heap (hw.rows c hc) hb2
      exact nbp b cur hc2
    · by_cases e : g = pw
      · subst e
        rw [hb1] at hg
        injection hg with hg
        injection hg with _ ht
        exact absurd ht (by decide)
      · exact hw.nb g cur (by rw [← hk1.block g (hw.lt g q) e]; exact hg) q
    · subst q
      obtain ⟨es, c, hm⟩ := hw.plan.map hb2
      rw [hb] at hm
      cases hm
  refine ⟨rfl, -1, by rw [add0, hb1.cell]; rfl, br_f (by rw [beq_eq_false_iff_ne]; omega) ⟨rfl, pl.mf, by rw [add0, hb1.cell]; rfl, pl.F (st.ops : Int), plan_look fin.plan _, ?_⟩⟩
  have := h w1 hk1 fin
  cases hf : pl.F (st.ops : Int) with
  | false => rw [hf] at this; exact br_f rfl this
  | true => rw [hf] at this; exact br_t rfl this
end Go.Proofs.YtpmebahhjgkflaaGreatDoor

/- Layer 3: changes, writes. -/
namespace Go.Proofs.YtpmebahhjgkflaaGreatDoor
open Go CF
set_option maxRecDepth 100000

theorem blk_cells {w : World} {b : Nat} {l : List Value} {t : TypeId} (h : Blk w b l.toArray t) : Cells w ⟨b, 0, none⟩ l := fun j v hj => by
  rw [add0, h.cell]; simpa using hj
theorem blk_type {w : World} {b : Nat} {cs cs' : Array Value} {t t' : TypeId} {f : Nat × Nat} (h : Blk w b cs t) (h' : w.heap[b]? = some (.cells cs' t' f)) : t = t' := by
  rw [h] at h'
  injection h' with h'
  injection h'
section
variable {w w' : World} {pw : Nat} {D : Nat → Prop} {st : Wst} {pl : Pl} {mb md : Nat} {ws : Sl} {cs : List (Cg × Sl)}
end
end Go.Proofs.YtpmebahhjgkflaaGreatDoor

/- Layer 3: a world whose rows are old; what reads leave of it. -/
namespace Go.Proofs.YtpmebahhjgkflaaGreatDoor
open Go CF
set_option maxRecDepth 100000

/-- what of these blocks holds bytes is new -/
def NoBytesB (w : World) (S : Nat → Prop) (B : Nat) : Prop := ∀ g cur, w.heap[g]? = some (.cells cur t_uint8 (0, 0)) → S g → B ≤ g
theorem NoBytes.b {w : World} {S : Nat → Prop} (h : NoBytes w S) (B : Nat) : NoBytesB w S B := fun g cur hg q => absurd q (h g cur hg)
def FileAtB (w : World) (B : Nat) (v : Option Value) (l : Option L8) : Prop := FileAt w v l ∧ ∀ s : Sl, v = some (.slice s.A s.n s.c) → ∀ b, s.blk = some b → b < B
theorem FileAtB.keep {S : Nat → Prop} {w w' : World} {B : Nat} {v : Option Value} {l : Option L8} (h : FileAtB w B v l) (k : Keep S w w') (hn : NoBytesB w S B) : FileAtB w' B v l := by
  refine ⟨?_, h.2⟩
  cases l with
  | none => exact h.1
  | some l =>
    obtain ⟨⟨s, h1, h2, h3⟩, hB⟩ := h
    refine ⟨s, h1, h2.keep k fun b hb q => ?_, h3⟩
    obtain ⟨cur, hc⟩ := own_heap h2 hb
    have := hn b cur hc q
    have := hB s h1 b hb
    omega
theorem FileAt.toB {w : World} {v : Option Value} {l : Option L8} (h : FileAt w v l) : FileAtB w w.heap.size v l := by
  refine ⟨h, fun s hs b hb => ?_⟩
  cases l with
  | none => rw [show v = none from h] at hs; cases hs
  | some l =>
    obtain ⟨s', h1, h2, _⟩ := h
    rw [h1] at hs
    injection hs with hs
    injection hs with hA hn hc
    have : s'.blk = some b := by rw [← hb]; simp [Sl.blk, hA]
    obtain ⟨cur, hc⟩ := own_heap h2 this
    exact lt_of_heap hc
def IsFB (w : World) (mb : Nat) (F : Files) (B : Nat) : Prop := ∃ m, SMap w mb m ∧ ∀ s, FileAtB w B (m s) (F s)
theorem IsFB.keep {S : Nat → Prop} {w w' : World} {mb B : Nat} {F : Files} (h : IsFB w mb F B) (k : Keep S w w') (hm : ¬ S mb) (hn : NoBytesB w S B) : IsFB w' mb F B := by
  obtain ⟨m, h1, h2⟩ := h
  exact ⟨m, h1.keep k hm, fun s => (h2 s).keep k hn⟩
theorem IsFB.isF {w : World} {mb B : Nat} {F : Files} (h : IsFB w mb F B) : IsF w mb F := by
  obtain ⟨m, h1, h2⟩ := h
  exact ⟨m, h1, fun s => (h2 s).1⟩
theorem IsF.toB {w : World} {mb : Nat} {F : Files} (h : IsF w mb F) : IsFB w mb F w.heap.size := by
  obtain ⟨m, h1, h2⟩ := h
  exact ⟨m, h1, fun s => (h2 s).toB⟩
/-- the world's rows lie under B -/
def IsWBq (w : World) (pw : Nat) (D : Nat → Prop) (st : Wst) (F : Int → Bool) (B : Nat) : Prop := ∃ pl, pl.F = F ∧ ∃ mb md ws cs, IsWd w pw D st pl mb md ws cs ∧ IsFB w mb st.seen B ∧ IsFB w md st.dur B ∧ ∀ c ∈ cs, ∀ b, c.2.blk = some b → b < B
def IsWB (w : World) (pw : Nat) (D : Nat → Prop) (st : Wst) (B : Nat) : Prop := IsWBq w pw D st quiet B
section
variable {w u v : World} {pw B : Nat} {D S : Nat → Prop} {st : Wst} {F : Int → Bool} {k : Nat}
theorem IsWBq.isWq (h : IsWBq w pw D st F B) : IsWq w pw D st F := by
  obtain ⟨pl, hF, mb, md, ws, cs, h, _⟩ := h
  exact ⟨pl, hF, mb, md, ws, cs, h⟩
theorem IsWB.isW (h : IsWB w pw D st B) : IsW w pw D st := (IsWBq.isWq h).isW
theorem IsWq.toB (h : IsWq w pw D st F) : IsWBq w pw D st F w.heap.size := by
  obtain ⟨pl, hF, mb, md, ws, cs, h⟩ := h
  refine ⟨pl, hF, mb, md, ws, cs, h, h.seen.toB, h.dur.toB, fun c hc b hb => ?_⟩
  obtain ⟨cur, hcur⟩ := own_heap (h.rows c hc) hb
  exact lt_of_heap hcur
theorem IsW.toB (h : IsW w pw D st) : IsWB w pw D st w.heap.size := h.q.toB
theorem IsWBq.keep (h : IsWBq w pw D st F B) (k : Keep S w u) (hd : ∀ k, D k → ¬ S k) (hs : NoBytesB w S B) : IsWBq u pw D st F B := by
  obtain ⟨pl, hF, mb, md, ws, cs, h, f1, f2, f3⟩ := h
  have hsz := k.size
  have g1 := f1.keep k (hd _ h.db) hs
  have g2 := f2.keep k (hd _ h.dd) hs
  refine ⟨pl, hF, mb, md, ws, cs, ⟨k.heap h.blk (hd _ h.dw), g1.isF, g2.isF, h.ne, h.own.keep k fun b hb => hd _ (h.ds b hb), h.waits, fun c hc => (h.rows c hc).keep k fun b hb q => ?_, h.dw, h.db, h.dd, h.ds, fun k hk => by have := h.lt k hk; omega, fun g cur hg q => ?_,
    h.plan.keep k fun b hb => hd _ (h.dp b hb), h.dp, h.np⟩, g1, g2, f3⟩
  · obtain ⟨cur, hcur⟩ := own_heap (h.rows c hc) hb
    have := hs b cur hcur q
    have := f3 c hc b hb
    omega
  · have hlt := h.lt g q
    have := k.block g hlt (hd g q)
    exact h.nb g cur (by rw [← this]; exact hg) q
theorem IsWB.keep (h : IsWB w pw D st B) (k : Keep S w u) (hd : ∀ k, D k → ¬ S k) (hs : NoBytesB w S B) : IsWB u pw D st B := IsWBq.keep h k hd hs
theorem IsWBq.grow (h : IsWBq w pw D st F B) (k : Grow w u) : IsWBq u pw D st F B := h.keep k (fun _ _ q => q) ((nobytes_none w).b B)
theorem IsWB.grow (h : IsWB w pw D st B) (k : Grow w u) : IsWB u pw D st B := h.keep k (fun _ _ q => q) ((nobytes_none w).b B)
/-- k reads lie between two worlds -/
def RdW (w u : World) (pw : Nat) (D : Nat → Prop) (st : Wst) (k : Nat) : Prop := ∀ F B, IsWBq w pw D st F B → IsWBq u pw D { st with ops := st.ops + k } F B
theorem RdW.isWq (h : RdW w u pw D st k) (hw : IsWq w pw D st F) : IsWq u pw D { st with ops := st.ops + k } F := (h _ _ hw.toB).isWq
theorem RdW.isW (h : RdW w u pw D st k) (hw : IsW w pw D st) : IsW u pw D { st with ops := st.ops + k } := (h.isWq hw.q).isW
theorem RdW.refl (w : World) (pw : Nat) (D : Nat → Prop) (st : Wst) : RdW w w pw D st 0 := fun _ _ h => h
theorem RdW.grow (h : RdW w u pw D st k) (g : Grow u v) : RdW w v pw D st k := fun F B hB => (h F B hB).grow g
theorem RdW.keep (h : RdW w u pw D st k) (g : Keep S u v) (hd : ∀ k, D k → ¬ S k) (hs : NoBytes u S) : RdW w v pw D st k := fun F B hB => (h F B hB).keep g hd (hs.b B)
theorem RdW.trans {j : Nat} (h : RdW w u pw D st k) (g : RdW u v pw D { st with ops := st.ops + k } j) : RdW w v pw D st (k + j) := fun F B hB => by
  have := g F B (h F B hB)
  rw [← Nat.add_assoc]; exact this
theorem rdW_call {pl : Pl} {mb md : Nat} {ws : Sl} {cs : List (Cg × Sl)} (hw : IsWd w pw D st pl mb md ws cs) (hk : Keep (fun k => k = pw) w u) (hw1 : IsWd u pw D { st with ops := st.ops + 1 } pl mb md ws cs) : RdW w u pw D st 1 := fun F B hB => by
  obtain ⟨pl', hF, mb', md', ws', cs', h, f1, f2, f3⟩ := hB
  have nbp : NoBytes w fun k => k = pw := fun g cur hg q => hw.nb g cur hg (by subst q; exact hw.dw)
  have e := h.blk.symm.trans hw.blk
  injection e with e
  injection e with e
  have e := congrArg Array.toList e
  simp only [wcells, List.cons.injEq, Value.map.injEq, Option.some.injEq, Value.slice.injEq, true_and, and_true] at e
  obtain ⟨rfl, rfl, ⟨eA, en, ec⟩, em⟩ := e
  obtain ⟨A, n, c⟩ := ws
  obtain ⟨A', n', c'⟩ := ws'
  dsimp only at eA en ec
  subst eA en ec
  have nm : mb' ≠ pw := fun q => isF_map hw.seen _ _ _ (by rw [q]; exact hw.blk)
  have nd : md' ≠ pw := fun q => isF_map hw.dur _ _ _ (by rw [q]; exact hw.blk)
  refine ⟨pl', hF, mb', md', _, cs', ⟨by rw [em]; exact hw1.blk, hw1.seen, hw1.dur, hw1.ne, h.own.keep hk fun b hb2 q => ?_, h.waits, fun c hc => (h.rows c hc).keep hk fun b hb2 => ?_, hw1.dw, hw1.db, hw1.dd, h.ds, hw1.lt, hw1.nb, h.plan.keep hk fun b hb2 q => ?_, h.dp, h.np⟩, f1.keep hk nm (nbp.b B), f2.keep hk nd (nbp.b B), f3⟩
  · obtain ⟨cur, hc⟩ := own_heap h.own hb2
    subst q
    exact absurd (blk_type hw.blk hc) (by decide)
  · obtain ⟨cur, hc2⟩ := own_heap (h.rows c hc) hb2
    exact nbp b cur hc2
  · obtain ⟨es, c, hm⟩ := h.plan.map hb2
    subst q
    rw [h.blk] at hm; cases hm
end
end Go.Proofs.YtpmebahhjgkflaaGreatDoor

/- Layer 3: writes, reads. -/
namespace Go.Proofs.YtpmebahhjgkflaaGreatDoor
open Go CF
set_option maxRecDepth 100000

theorem bv_one' (l : L8) : ∀ u ∈ bv l, u.oneCell' = true := by
  intro u hu
  simp only [bv, List.mem_map] at hu
  obtain ⟨p, _, rfl⟩ := hu; rfl
theorem name_spec {s : ByteArray} {w : World} {R : Bool → World → Prop} (h : R (decide (1 ≤ s.size ∧ s.size ≤ 32)) w) : Cworld_name s w R := by
  refine Fworld_name.calls _ _ _ ?_
  have e : ((decide ((s.size : Int) ≥ 1)) && (decide ((s.size : Int) ≤ 32))) = decide (1 ≤ s.size ∧ s.size ≤ 32) := by
    rw [Bool.eq_iff_iff, Bool.and_eq_true, decide_eq_true_eq, decide_eq_true_eq, decide_eq_true_eq]
    omega
  unfold Fworld_name
  rw [e]
  exact h
theorem world_readR_any {w : World} {pw : Nat} {D : Nat → Prop} {st : Wst} {F : Int → Bool} {file : ByteArray} {off n : Nat} {R : Sl → Int → World → Prop} (hw : IsWq w pw D st F) (hs : 1 ≤ file.size ∧ file.size ≤ 32) (hb : off ≤ 1000000000) (hb2 : n ≤ 1000000000)
    (ho : st.ops < 1000000000000)
    (h : F (st.ops : Int) = false → ∀ s w', Keep D w w' → RdW w w' pw D st 1 → Own w' w.heap.size t_uint8 1 s (bv ((((st.seen file).getD []).drop off).take n)) → s.n ≤ 1048576 → R s (if (st.seen file).isSome then 0 else 8) w')
    (hbad : F (st.ops : Int) = true → ∀ w', Keep D w w' → RdW w w' pw D st 1 → R ⟨none, 0, 0⟩ 6 w') :
    Cworld_World_Read (some ⟨pw, 0, none⟩) file (off : Int) (n : Int) w R := by
  obtain ⟨pl, hF, mb, md, ws, cs, hw⟩ := hw
  subst hF
  refine Fworld_World_Read.calls _ _ _ _ _ _ ?_
  refine name_spec ?_
  rw [decide_eq_true hs]
  refine br_f (by rw [Bool.or_eq_false_iff, Bool.or_eq_false_iff, decide_eq_false_iff_not, decide_eq_false_iff_not]; exact ⟨⟨rfl, by omega⟩, by omega⟩) (br_f rfl ⟨rfl, some mb, by rw [gA, add0, hw.blk.cell]; rfl, ?_⟩)
  obtain ⟨r, hlk, _, hown, hr2, hol⟩ := file_look hw.seen file
  refine ⟨r, hlk, ?_⟩
  refine call_any hw ho fun w1 hk1 hw1 => ?_
  have hkD : Keep D w w1 := hk1.mono fun _ _ q => by subst q; exact hw.dw
  have hw1' : RdW w w1 pw D st 1 := rdW_call hw hk1 hw1
  have hsz := hk1.size
  cases hfl : pl.F (st.ops : Int) with
  | true => exact br_t rfl (hbad hfl w1 hkD hw1')
  | false =>
  have h := h hfl
  refine br_f rfl ?_
  cases hF : st.seen file with
  | none =>
    rw [hF] at hr2
    refine br_t (by rw [hr2]; rfl) ?_
    have := h ⟨none, 0, 0⟩ w1 hkD hw1'
    rw [hF] at this
    exact this (by simp only [Option.getD_none, List.drop_nil, List.take_nil]; exact own_nil _ _ _ _) (Nat.zero_le _)
  | some l =>
    rw [hF] at hr2 hown hol h
    simp only [Option.getD_some, Option.isSome_some, if_true] at hr2 hown hol h
    refine br_f (by rw [hr2]; rfl) ?_
    have hln : l.length = r.1.n := by have := hown.len; rw [bv_length] at this; omega
    have hown1 : Own w1 0 t_uint8 1 r.1 (bv l) := hown.keep hk1 fun b hb3 q => by
      obtain ⟨cur, hc⟩ := own_heap hown hb3
      subst q
      exact absurd (blk_type hw.blk hc) (by decide)
    refine br_dec (fun hge => ?_) (fun hlt => ?_)
    · have := h ⟨none, 0, 0⟩ w1 hkD hw1'
      rw [List.drop_of_length_le (by omega), List.take_nil] at this
      exact this (own_nil w1 w.heap.size t_uint8 1) (Nat.zero_le _)
    · have hrd := hown1.rd (by omega)
      have hcap := hrd.cap
      have e1 : IntKind.wrap .i64 ((r.1.n : Int) - (off : Int)) = ((r.1.n - off : Nat) : Int) := by rw [w64 (by omega) (by omega)]; omega
      have e2 : IntKind.wrap .i64 ((off : Int) + (mn (n : Int) (IntKind.wrap .i64 ((r.1.n : Int) - (off : Int))))) = ((off + min n (r.1.n - off) : Nat) : Int) := by
        rw [e1, mn_nat, w64 (by omega) (by omega)]; omega
      rw [e2]
      refine ⟨⟨by omega, by omega, by omega, hcap⟩, ?_⟩
      simp only [Int.toNat_natCast]
      have hx := hrd.cutB (l := off) (k := off + min n (r.1.n - off)) (by omega) (by omega)
      refine append_rule (s := ⟨none, 0, 0⟩) (vs := []) (base := w.heap.size) u_sl_uint8 i_uint8 rfl (by decide) (by decide) (own_nil _ _ _ _) hx (bv_one' _) (by show (0 + (off + min n (r.1.n - off) - off)) * 1 ≤ _; omega) hsz fun s2 w2 hn2 hown2 hk2 _ => ?_
      have hg2 : Grow w1 w2 := hk2.mono fun i hi q => by cases q
      rw [List.nil_append] at hown2
      have e3 : (l.drop off).take (off + min n (r.1.n - off) - off) = (l.drop off).take n := by
        rw [show off + min n (r.1.n - off) - off = min n (l.drop off).length by rw [List.length_drop]; omega]
        rcases Nat.le_total n (l.drop off).length with q | q
        · rw [Nat.min_eq_left q]
        · rw [Nat.min_eq_right q, List.take_length, List.take_of_length_le q]
      rw [e3] at hown2
      refine h s2 w2 (hkD.grow hg2) (hw1'.grow hg2) hown2 ?_
      have : s2.n = 0 + (off + min n (r.1.n - off) - off) := hn2
      omega
theorem world_readR_spec {w : World} {pw : Nat} {D : Nat → Prop} {st : Wst} {file : ByteArray} {off n : Nat} {R : Sl → Int → World → Prop} (hw : IsW w pw D st) (hs : 1 ≤ file.size ∧ file.size ≤ 32) (hb : off ≤ 1000000000) (hb2 : n ≤ 1000000000)
    (ho : st.ops < 1000000000000)
    (h : ∀ s w', Keep D w w' → RdW w w' pw D st 1 → Own w' w.heap.size t_uint8 1 s (bv ((((st.seen file).getD []).drop off).take n)) → s.n ≤ 1048576 → R s (if (st.seen file).isSome then 0 else 8) w') :
    Cworld_World_Read (some ⟨pw, 0, none⟩) file (off : Int) (n : Int) w R :=
  world_readR_any hw.q hs hb hb2 ho (fun _ s w' k r => h s w' k r) (fun q => by cases q)
theorem world_read_spec {w : World} {pw : Nat} {D : Nat → Prop} {st : Wst} {file : ByteArray} {off n : Nat} {R : Sl → Int → World → Prop} (hw : IsW w pw D st) (hs : 1 ≤ file.size ∧ file.size ≤ 32) (hb : off ≤ 1000000000) (hb2 : n ≤ 1000000000)
    (ho : st.ops < 1000000000000)
    (h : ∀ s w', Keep D w w' → IsW w' pw D { st with ops := st.ops + 1 } → Own w' w.heap.size t_uint8 1 s (bv ((((st.seen file).getD []).drop off).take n)) → s.n ≤ 1048576 → R s (if (st.seen file).isSome then 0 else 8) w') :
    Cworld_World_Read (some ⟨pw, 0, none⟩) file (off : Int) (n : Int) w R := world_readR_spec hw hs hb hb2 ho fun s w' k r => h s w' k (r.isW hw)
end Go.Proofs.YtpmebahhjgkflaaGreatDoor

/- Layer 4: numbers in bytes, blocks as records. -/
namespace Go.Proofs.YtpmebahhjgkflaaGreatDoor
open Go CF
set_option maxRecDepth 100000

def num (l : L8) : Nat := l.foldl (fun v b => v * 256 + b.toNat) 0
theorem num_snoc (l : L8) (b : UInt8) : num (l ++ [b]) = num l * 256 + b.toNat := by simp [num, List.foldl_append]
theorem num_lt (l : L8) : num l < 256 ^ l.length := by
  have key : ∀ (l : L8) (v : Nat), l.foldl (fun v b => v * 256 + b.toNat) v < (v + 1) * 256 ^ l.length := by
    intro l
    induction l with
    | nil => intro v; simp
    | cons b r ih =>
      intro v
      rw [List.foldl_cons, List.length_cons, Nat.pow_succ]
      have h1 := ih (v * 256 + b.toNat)
      have h2 := b.toNat_lt
      have h3 : (v * 256 + b.toNat + 1) * 256 ^ r.length ≤ (v + 1) * 256 * 256 ^ r.length := Nat.mul_le_mul_right _ (by omega)
      have h4 : (v + 1) * 256 * 256 ^ r.length = (v + 1) * (256 ^ r.length * 256) := by rw [Nat.mul_assoc, Nat.mul_comm 256]
      omega
  have := key l 0
  rw [Nat.zero_add, Nat.one_mul] at this
  exact this
theorem bor_add {a b : Nat} (ha : a < 72057594037927936) (hb : b < 256) : bOr .u64 ((a * 256 : Nat) : Int) (b : Int) = ((a * 256 + b : Nat) : Int) := by
  unfold bOr
  show IntKind.wrap .u64 (((BitVec.ofInt 64 ((a * 256 : Nat) : Int) ||| BitVec.ofInt 64 (b : Int)).toNat : Nat) : Int) = _
  rw [BitVec.ofInt_natCast, BitVec.ofInt_natCast, BitVec.toNat_or, BitVec.toNat_ofNat, BitVec.toNat_ofNat, Nat.mod_eq_of_lt (by omega), Nat.mod_eq_of_lt (by omega)]
  have e : a * 256 ||| b = a * 256 + b := by
    have := Nat.shiftLeft_add_eq_or_of_lt (i := 8) (b := b) (by omega) a
    rw [Nat.shiftLeft_eq] at this
    exact this.symm
  rw [e]
  exact wu64 (by omega) (by omega)
theorem shl8 {a : Nat} (ha : a < 72057594037927936) : bShl .u64 (a : Int) 8 = ((a * 256 : Nat) : Int) := by
  unfold bShl
  have e : (min 8 (IntKind.bits .u64)) = 8 := by decide
  rw [e, wu64 (by omega) (by omega)]
  omega
theorem get_spec {p : Sl} {l : L8} {at_ n : Nat} {w : World} {R : Int → Int → World → Prop} (hp : Rd w 1 p (bv l)) (hb : p.n ≤ 140737489403904) (hn : 1 ≤ n) (hn8 : n ≤ 8) (hat : at_ + n ≤ l.length)
    (h : R ((num ((l.drop at_).take n) : Nat) : Int) 0 w) : Cbe_Get p (at_ : Int) (n : Int) w R := by
  refine Fbe_Get.calls _ _ _ _ _ ?_
  have hln : l.length = p.n := by have := hp.len; rw [bv_length] at this; omega
  have hcap := hp.cap
  refine Fbe_field.calls _ _ _ _ _ ?_
  have e1 : IntKind.wrap .i64 ((p.n : Int) - (n : Int)) = (p.n : Int) - (n : Int) := w64 (by omega) (by omega)
  refine br_f (by rw [Bool.or_eq_false_iff, decide_eq_false_iff_not, decide_eq_false_iff_not]; omega) (br_f (by rw [Bool.or_eq_false_iff, decide_eq_false_iff_not, decide_eq_false_iff_not, e1]; omega) (br_f rfl ?_))
  have e2 : IntKind.wrap .i64 ((at_ : Int) + (n : Int)) = ((at_ + n : Nat) : Int) := by rw [w64 (by omega) (by omega)]; omega
  rw [e2]
  simp only [Int.toNat_natCast]
  refine ⟨⟨by omega, by omega, by omega, hcap⟩, ?_⟩
  have hx := hp.cutB (l := at_) (k := at_ + n) (by omega) (by omega)
  rw [show at_ + n - at_ = n by omega] at hx
  generalize hseg : (l.drop at_).take n = seg at *
  have hsl : seg.length = n := by rw [← hseg, List.length_take, List.length_drop]; omega
  refine ⟨fun v x w' => w' = w ∧ ∃ j : Nat, x = j ∧ j ≤ n ∧ v = ((num (seg.take j) : Nat) : Int), fun _ x _ => n - x.toNat, ⟨rfl, 0, rfl, Nat.zero_le _, rfl⟩, ?_⟩
  rintro v x w0 ⟨rfl, j, rfl, hj, rfl⟩
  refine br_nat (fun hlt => ?_) (fun hge => ?_)
  · obtain ⟨a, ha, hc⟩ := hx.byte (i := j) (by show j < n; omega)
    have ha : cutA p.A p.c at_ 1 = some a := ha
    have hjs : j < seg.length := by omega
    refine ⟨⟨by omega, by omega, by rw [ha]; rfl⟩, ((seg[j]).toNat : Int), by rw [ha]; exact hc, ?_⟩
    have hnl := num_lt (seg.take j)
    have hb8 := seg[j].toNat_lt
    have hsm : num (seg.take j) < 72057594037927936 := by
      refine Nat.lt_of_lt_of_le hnl ?_
      rw [List.length_take, Nat.min_eq_left (by omega)]
      calc 256 ^ j ≤ 256 ^ 7 := Nat.pow_le_pow_right (by decide) (by omega)
        _ = 72057594037927936 := by decide
    rw [shl8 hsm, wu64 (by omega) (by omega), bor_add hsm (by omega), w64 (by omega) (by omega)]
    refine ⟨⟨rfl, j + 1, by omega, by omega, ?_⟩, by dsimp only; omega⟩
    rw [List.take_succ_eq_append_getElem hjs, num_snoc]
  · have : j = n := by omega
    subst this
    rw [List.take_of_length_le (by omega)]
    exact h
/-- a block -/
structure Bk where
  d : L8
  g : Nat
  a : Nat
  r : Nat
  hd : d.length = 16
  hg : g < 65536
  ha : a < 65536
  hr : r < 4294967296
def bc (b : Bk) : List Value := bv b.d ++ [.int .u16 (b.g : Int), .int .u16 (b.a : Int), .int .u32 (b.r : Int)]
theorem wrap_u8 (n : Nat) : IntKind.wrap .u8 (n : Int) = ((UInt8.ofNat n).toNat : Int) := by
  rw [UInt8.toNat_ofNat']
  have e : IntKind.wrap .u8 (n : Int) = (n : Int) % 256 := by simp [IntKind.wrap, IntKind.signed, IntKind.bits]
  rw [e]
  omega
theorem shr (k : IntKind) (n s : Nat) (hs : s ≤ k.bits) : bShr k (n : Int) s = ((n / 2 ^ s : Nat) : Int) := by
  unfold bShr
  rw [Nat.min_eq_left hs, show ((2 : Int) ^ s) = ((2 ^ s : Nat) : Int) by norm_cast]
  exact (Int.ofNat_fdiv n (2 ^ s)).symm
end Go.Proofs.YtpmebahhjgkflaaGreatDoor

/- Layer 4: records, blocks. -/
namespace Go.Proofs.YtpmebahhjgkflaaGreatDoor
open Go CF
set_option maxRecDepth 100000

theorem num4 (l : L8) (h : l.length = 4) : num l < 4294967296 := by have := num_lt l; rw [h] at this; exact this
end Go.Proofs.YtpmebahhjgkflaaGreatDoor

/- Layer 4: what a file says of blocks. -/
namespace Go.Proofs.YtpmebahhjgkflaaGreatDoor
open Go CF
set_option maxRecDepth 100000

/-- a record is there at whole -/
def Good (f : L8) : Prop := ∀ j : Nat, f.getD (25 * j) 0 = 1 → 25 * j + 25 ≤ f.length
end Go.Proofs.YtpmebahhjgkflaaGreatDoor

/- Layer 4: the store's calls. -/
namespace Go.Proofs.YtpmebahhjgkflaaGreatDoor
open Go CF
set_option maxRecDepth 100000

def scells (pw : Nat) (file : ByteArray) (blocks : Nat) (cache : Bool) : Array Value := #[.pointer (some ⟨pw, 0, none⟩), .string file, .int .i64 (blocks : Int), .bool cache]
abbrev IsS (w : World) (ps pw : Nat) (file : ByteArray) (blocks : Nat) (cache : Bool) : Prop := Blk w ps (scells pw file blocks cache) t_store_Store
theorem open_spec {w : World} {pw : Nat} {file : ByteArray} {blocks : Nat} {cache : Bool} {R : Option Addr → Int → World → Prop} (hs : 1 ≤ file.size ∧ file.size ≤ 32) (hb : 1 ≤ blocks ∧ blocks ≤ 4096)
    (h : ∀ ps w', ps = w.heap.size → Grow w w' → IsS w' ps pw file blocks cache → R (some ⟨ps, 0, none⟩) 0 w') : Cstore_Open (some ⟨pw, 0, none⟩) file (blocks : Int) cache w R := by
  refine Fstore_Open.calls _ _ _ _ _ _ ?_
  refine br_f (by rw [Bool.or_eq_false_iff, Bool.or_eq_false_iff, Bool.or_eq_false_iff, decide_eq_false_iff_not, decide_eq_false_iff_not, decide_eq_false_iff_not, decide_eq_false_iff_not]; omega) (br_f rfl ?_)
  exact new_rule fun ps w1 hps hb1 hg1 _ => h ps w1 hps hg1 hb1
end Go.Proofs.YtpmebahhjgkflaaGreatDoor

/- Layer 4: writing and reading blocks. -/
namespace Go.Proofs.YtpmebahhjgkflaaGreatDoor
open Go CF
set_option maxRecDepth 100000

theorem IsWq.lt {w : World} {pw : Nat} {D : Nat → Prop} {st : Wst} {F : Int → Bool} (h : IsWq w pw D st F) {k : Nat} (hk : D k) : k < w.heap.size := by
  obtain ⟨_, _, mb, md, ws, cs, h⟩ := h
  exact h.lt k hk
end Go.Proofs.YtpmebahhjgkflaaGreatDoor

/- Layer 2: the sum of bytes. -/
namespace Go.Proofs.YtpmebahhjgkflaaGreatDoor
open Go CF
set_option maxRecDepth 100000

def poly : Nat := 0x82f63b78
/-- one bit of the sum -/
def crcG (s : Nat) : Nat := if s % 2 = 1 then (s / 2) ^^^ poly else s / 2
def crcGs : Nat → Nat → Nat
  | 0, s => s
  | k + 1, s => crcG (crcGs k s)
def crcB (s : Nat) (b : UInt8) : Nat := crcGs 8 (s ^^^ b.toNat)
def crcS (s : Nat) (l : L8) : Nat := l.foldl crcB s
def c32 (l : L8) : Nat := crcS 0xffffffff l ^^^ 0xffffffff
theorem xor_lt32 {a b : Nat} (ha : a < 4294967296) (hb : b < 4294967296) : a ^^^ b < 4294967296 := Nat.xor_lt_two_pow (n := 32) ha hb
theorem crcG_lt {s : Nat} (h : s < 4294967296) : crcG s < 4294967296 := by
  unfold crcG
  split
  · exact xor_lt32 (by omega) (by decide)
  · omega
theorem crcGs_lt {s : Nat} (h : s < 4294967296) : ∀ k, crcGs k s < 4294967296
  | 0 => h
  | k + 1 => crcG_lt (crcGs_lt h k)
theorem crcB_lt {s : Nat} (h : s < 4294967296) (b : UInt8) : crcB s b < 4294967296 := crcGs_lt (xor_lt32 h (by have := b.toNat_lt; omega)) 8
theorem crcS_lt {l : L8} : ∀ {s : Nat}, s < 4294967296 → crcS s l < 4294967296 := by
  induction l with
  | nil => intro s h; exact h
  | cons b r ih => intro s h; exact ih (crcB_lt h b)
theorem crcS_append (s : Nat) (a b : L8) : crcS s (a ++ b) = crcS (crcS s a) b := by simp [crcS, List.foldl_append]
theorem crcS_snoc (s : Nat) (a : L8) (b : UInt8) : crcS s (a ++ [b]) = crcB (crcS s a) b := by rw [crcS_append]; rfl
/-! ### another byte, another sum -/
/-! ### the same, a bit at a time -/
/-! ### the same in the model's words -/
theorem xor32 {a b : Nat} (ha : a < 4294967296) (hb : b < 4294967296) : bXor .u32 (a : Int) (b : Int) = ((a ^^^ b : Nat) : Int) := by
  unfold bXor
  show IntKind.wrap .u32 (((BitVec.ofInt 32 (a : Int) ^^^ BitVec.ofInt 32 (b : Int)).toNat : Nat) : Int) = _
  rw [BitVec.ofInt_natCast, BitVec.ofInt_natCast, BitVec.toNat_xor, BitVec.toNat_ofNat, BitVec.toNat_ofNat, Nat.mod_eq_of_lt (by omega), Nat.mod_eq_of_lt (by omega)]
  have := xor_lt32 ha hb
  exact wu32 (by omega) (by omega)
theorem and32_1 {a : Nat} (ha : a < 4294967296) : bAnd .u32 (a : Int) 1 = ((a % 2 : Nat) : Int) := by
  unfold bAnd
  show IntKind.wrap .u32 (((BitVec.ofInt 32 (a : Int) &&& BitVec.ofInt 32 ((1 : Nat) : Int)).toNat : Nat) : Int) = _
  rw [BitVec.ofInt_natCast, BitVec.ofInt_natCast, BitVec.toNat_and, BitVec.toNat_ofNat, BitVec.toNat_ofNat, Nat.mod_eq_of_lt (by omega), Nat.mod_eq_of_lt (by omega)]
  rw [Nat.and_one_is_mod]
  exact wu32 (by omega) (by omega)
theorem not32 {a : Nat} (ha : a < 4294967296) : bNot .u32 (a : Int) = ((a ^^^ 4294967295 : Nat) : Int) := by
  unfold bNot
  have e : (if IntKind.signed .u32 = true then (-1 : Int) else IntKind.max .u32) = ((4294967295 : Nat) : Int) := by decide
  rw [e, xor32 (by decide) ha, Nat.xor_comm]
end Go.Proofs.YtpmebahhjgkflaaGreatDoor

/- Layer 2: the program's sum and the reference's. -/
namespace Go.Proofs.YtpmebahhjgkflaaGreatDoor
open Go CF
set_option maxRecDepth 100000

theorem crc_br {s : Nat} (hs : s < 4294967296) {X Y : Prop} (h1 : s % 2 = 1 → X) (h0 : s % 2 = 0 → Y) : Br ((bAnd .u32 (s : Int) 1) == 1) X Y := by
  rw [and32_1 hs]
  exact br_eq (fun q => h1 (by omega)) (fun q => h0 (by omega))
theorem crc_v1 {s : Nat} (hs : s < 4294967296) (h : s % 2 = 1) : bXor .u32 (bShr .u32 (s : Int) 1) 2197175160 = ((crcG s : Nat) : Int) := by
  rw [shr .u32 s 1 (by decide)]
  have := xor32 (a := s / 2) (b := poly) (by omega) (by decide)
  unfold crcG
  rw [if_pos h]
  exact this
theorem crc_v0 {s : Nat} (h : s % 2 = 0) : bShr .u32 (s : Int) 1 = ((crcG s : Nat) : Int) := by
  rw [shr .u32 s 1 (by decide)]
  unfold crcG
  rw [if_neg (by omega)]
theorem crc_add32_spec {p : Sl} {l : L8} {s : Nat} {w : World} {R : Int → World → Prop} (hp : Rd w 1 p (bv l)) (hs : s < 4294967296)
    (h : R ((crcS (s ^^^ 4294967295) l ^^^ 4294967295 : Nat) : Int) w) : Ccrc_Add32 (s : Int) p w R := by
  refine Fcrc_Add32.calls _ _ _ _ ?_
  have hln : l.length = p.n := by have := hp.len; rw [bv_length] at this; omega
  have hnb := hp.nb
  have hs' : s ^^^ 4294967295 < 4294967296 := xor_lt32 hs (by decide)
  refine ⟨fun v x w' => w' = w ∧ ∃ j : Nat, x = j ∧ j ≤ p.n ∧ v = ((crcS (s ^^^ 4294967295) (l.take j) : Nat) : Int), fun _ x _ => p.n - x.toNat, ⟨rfl, 0, rfl, Nat.zero_le _, not32 hs⟩, ?_⟩
  rintro v x w0 ⟨rfl, j, rfl, hj, rfl⟩
  have hcs : crcS (s ^^^ 4294967295) (l.take j) < 4294967296 := crcS_lt hs'
  refine br_nat (fun hlt => ?_) (fun hge => ?_)
  · obtain ⟨a, ha, hc⟩ := hp.byte (i := j) hlt
    have hjs : j < l.length := by omega
    have hb8 := l[j].toNat_lt
    refine ⟨⟨by omega, by omega, by rw [ha]; rfl⟩, (l[j].toNat : Int), by rw [ha]; exact hc, ?_⟩
    rw [wu32 (n := (l[j].toNat : Int)) (by omega) (by omega), xor32 hcs (by omega)]
    generalize hT : crcS (s ^^^ 4294967295) (l.take j) ^^^ l[j].toNat = T
    have hTl : T < 4294967296 := by rw [← hT]; exact xor_lt32 hcs (by omega)
    refine ⟨fun v x w' => w' = w0 ∧ ∃ k : Nat, x = k ∧ k ≤ 8 ∧ v = ((crcGs k T : Nat) : Int), fun _ x _ => 8 - x.toNat, ⟨rfl, 0, rfl, by decide, rfl⟩, ?_⟩
    rintro v x w1 ⟨rfl, k, rfl, hk, rfl⟩
    refine br_dec (fun hlt8 => ?_) (fun hge8 => ?_)
    · refine crc_br (crcGs_lt hTl k) (fun q => ?_) (fun q => ?_)
      · rw [crc_v1 (crcGs_lt hTl k) q, w64 (by omega) (by omega)]
        exact ⟨⟨rfl, k + 1, by omega, by omega, rfl⟩, by dsimp only; omega⟩
      · rw [crc_v0 q, w64 (by omega) (by omega)]
        exact ⟨⟨rfl, k + 1, by omega, by omega, rfl⟩, by dsimp only; omega⟩
    · have : k = 8 := by omega
      subst this
      rw [w64 (by omega) (by omega)]
      refine ⟨⟨rfl, j + 1, by omega, by omega, ?_⟩, by dsimp only; omega⟩
      rw [List.take_succ_eq_append_getElem hjs, crcS_snoc]
      unfold crcB
      rw [hT]
  · have : j = p.n := by omega
    subst this
    rw [List.take_of_length_le (by omega)] at hcs ⊢
    rw [not32 hcs]
    exact h
theorem crc_c32_spec {p : Sl} {l : L8} {w : World} {R : Int → World → Prop} (hp : Rd w 1 p (bv l)) (h : R ((c32 l : Nat) : Int) w) : Ccrc_C32 p w R := by
  refine Fcrc_C32.calls _ _ _ ?_
  refine crc_add32_spec (s := 0) hp (by decide) ?_
  rw [Nat.zero_xor]
  exact h
end Go.Proofs.YtpmebahhjgkflaaGreatDoor

/- Rules: a byte put into a row of one's own, rows that are made, noughts behind a row. -/
namespace Go.Proofs.YtpmebahhjgkflaaGreatDoor.CF
open Go Go.RowKit
set_option maxRecDepth 100000

theorem make_rule {P : Program} {w : World} {t e : TypeId} {zv : Value} {bytes n base : Nat} (ht : P.underlying t = some (.slice e)) (hinfo : (P.info? e).map (fun i => (i.zero, i.size, i.bytes)) = some (some zv, 1, bytes)) (hzc : zv.cells = #[zv])
    (hb : bytes * n ≤ 281474976710656) (hn : n ≤ 140737488355328) (hbase : base ≤ w.heap.size)
    {K : Sl → World → Prop} (h : ∀ w1, Own w1 base e 1 ⟨some ⟨w.heap.size, 0, none⟩, n, n⟩ (List.replicate n zv) → Grow w w1 → w1.heap.size = w.heap.size + 1 → K ⟨some ⟨w.heap.size, 0, none⟩, n, n⟩ w1) :
    RunK P .sl (Instr.makeSlice t (.int .i64 (n : Int)) (.int .i64 (n : Int))) w K := by
  obtain ⟨i, hi, hzz⟩ := Option.map_eq_some_iff.1 hinfo
  simp only [Prod.mk.injEq] at hzz
  obtain ⟨hz, hsz, hby⟩ := hzz
  have hb' : (i.bytes : Int) * (n : Int) ≤ 281474976710656 := by
    rw [hby, ← Int.natCast_mul]; omega
  have hr := run_make (P := P) w t e i zv ht hi hz .i64 .i64 (n : Int) (n : Int) (by omega) (Int.le_refl _) hb' (by omega)
  simp only [Int.toNat_natCast] at hr
  refine ⟨⟨some ⟨w.heap.size, 0, none⟩, n, n⟩, _, hr, h _ ?_ (keep_alloc w _) (by simp)⟩
  have hm : madeCells zv.cells (n * i.size) = (List.replicate n zv).toArray := by
    rw [hzc, hsz, Nat.mul_one]
    apply Array.ext
    · simp [madeCells]
    · intro k h1 h2
      simp [madeCells, Nat.mod_one]
  rw [hm]
  have := World.ownsRow_lit (e := e) (size := 1) (base := base) w (List.replicate n zv).toArray n hbase (by unfold maxLen; omega) (by simp)
  exact this
/-! ### where ways meet: what holds there, told once -/
theorem letX0 {j : World → Prop} {body : (World → Prop) → Prop} (I : World → Prop) (h1 : ∀ u, I u → j u) (h2 : (∀ u, I u → j u) → body j) : letX j body := h2 h1
theorem letX1 {α : Type} {j : α → World → Prop} {body : (α → World → Prop) → Prop} (I : α → World → Prop) (h1 : ∀ x u, I x u → j x u) (h2 : (∀ x u, I x u → j x u) → body j) : letX j body := h2 h1
theorem letJ1 {α : Type} {j : α → World → Prop} {body : (α → World → Prop) → Prop} (I : α → World → Prop) (h1 : ∀ x u, I x u → j x u) (h2 : (∀ x u, I x u → j x u) → body j) : letJ j body := h2 h1
end Go.Proofs.YtpmebahhjgkflaaGreatDoor.CF

/- Layer 1: numbers laid in bytes. -/
namespace Go.Proofs.YtpmebahhjgkflaaGreatDoor
open Go CF
set_option maxRecDepth 100000

def beN : Nat → Nat → L8
  | 0, _ => []
  | j + 1, v => UInt8.ofNat (v / 256 ^ j) :: beN j v
def lay (l : L8) (at_ n v : Nat) : L8 := l.take at_ ++ beN n v ++ l.drop (at_ + n)
end Go.Proofs.YtpmebahhjgkflaaGreatDoor

/- Layer 4: what was written is read; lists of blocks that are alike. -/
namespace Go.Proofs.YtpmebahhjgkflaaGreatDoor
open Go CF
set_option maxRecDepth 100000

end Go.Proofs.YtpmebahhjgkflaaGreatDoor

/- Layer 4: blocks as arguments; the law of two pieces. -/
namespace Go.Proofs.YtpmebahhjgkflaaGreatDoor
open Go CF
set_option maxRecDepth 100000

section
variable {H : Type} {enc : TypeId × Value → H} {w : World} {base : Nat} {spare : Nat → Bool} {held : Bool}
end
end Go.Proofs.YtpmebahhjgkflaaGreatDoor

/- Layer 3: what waits is done; how much waits. -/
namespace Go.Proofs.YtpmebahhjgkflaaGreatDoor
open Go CF
set_option maxRecDepth 100000

end Go.Proofs.YtpmebahhjgkflaaGreatDoor

/- Layer 4: writing with what is made durable; the law of caches. -/
namespace Go.Proofs.YtpmebahhjgkflaaGreatDoor
open Go CF
set_option maxRecDepth 100000

end Go.Proofs.YtpmebahhjgkflaaGreatDoor

/- Layer 4: unmapping; an array of blocks as a variable. -/
namespace Go.Proofs.YtpmebahhjgkflaaGreatDoor
open Go CF
set_option maxRecDepth 100000

end Go.Proofs.YtpmebahhjgkflaaGreatDoor

/- Layer 4: a script of writes and unmappings. -/
namespace Go.Proofs.YtpmebahhjgkflaaGreatDoor
open Go CF
set_option maxRecDepth 100000

/-- an entry of a script -/
structure Act4 where
  kind : Nat
  a : Int
  n : Int
  l : Sl
  bs : List Bk
  on : Bool
def ac (x : Act4) : List Value := [.int .u8 (x.kind : Int), .int .i64 x.a, .int .i64 x.n, .slice x.l.A x.l.n x.l.c, .bool x.on]
end Go.Proofs.YtpmebahhjgkflaaGreatDoor

/- Layers 2 and 13: the guard of bytes, blocks as they go over the wire. -/
namespace Go.Proofs.YtpmebahhjgkflaaGreatDoor
open Go CF
set_option maxRecDepth 100000

def gG (s : Nat) : Nat := if s / 32768 = 1 then (2 * s % 65536) ^^^ 0x8bb7 else 2 * s % 65536
def gGs : Nat → Nat → Nat
  | 0, s => s
  | k + 1, s => gG (gGs k s)
def gB (s : Nat) (b : UInt8) : Nat := gGs 8 (s ^^^ b.toNat * 256)
/-! ### the model's words -/
/-! ### tuples, looks -/
/-! ### over the wire -/
end Go.Proofs.YtpmebahhjgkflaaGreatDoor
