/- Layer 3: the world's calls, where no call fails. -/
import Derived.Test.YtaneeadpjelomaaWo1
namespace Go.Proofs.Ytaneeadpjelomaa
open Go CF

/-- what waits -/
structure Cg where
  kind : Int
  name : ByteArray
  to : ByteArray
  off : Nat
  p : L8
def cgv (x : Cg × Sl) : List Value := [.int .u8 x.1.kind, .string x.1.name, .string x.1.to, .int .i64 (x.1.off : Int), .slice x.2.A x.2.n x.2.c]
theorem cgv_len (x : Cg × Sl) : (cgv x).length = 5 := rfl
/-- a world as it is meant: no call fails -/
structure Wst where
  seen : Files
  dur : Files
  waits : List Cg
  ops : Nat
def wcells (mb md : Nat) (ws : Sl) (ops : Nat) : Array Value := #[.map (some mb), .map (some md), .slice ws.A ws.n ws.c, .int .i64 (ops : Int), .map none, .int .i64 (-1), .bool false]
/-- the world lies at a block; D: the blocks that it may write over -/
structure IsWd (w : World) (pw : Nat) (D : Nat → Prop) (st : Wst) (mb md : Nat) (ws : Sl) (cs : List (Cg × Sl)) : Prop where
  blk : Blk w pw (wcells mb md ws st.ops) t_world_World
  seen : IsF w mb st.seen
  dur : IsF w md st.dur
  ne : mb ≠ md
  own : Own w 0 t_world_change 5 ws (cs.flatMap cgv)
  waits : cs.map (·.1) = st.waits
  rows : ∀ c ∈ cs, Own w 0 t_uint8 1 c.2 (bv c.1.p)
  dw : D pw
  db : D mb
  dd : D md
  ds : ∀ g, ws.blk = some g → D g
  lt : ∀ k, D k → k < w.heap.size
  nb : NoBytes w D
def IsW (w : World) (pw : Nat) (D : Nat → Prop) (st : Wst) : Prop := ∃ mb md ws cs, IsWd w pw D st mb md ws cs
theorem IsWd.keep {S : Nat → Prop} {w w' : World} {pw : Nat} {D : Nat → Prop} {st : Wst} {mb md : Nat} {ws : Sl} {cs : List (Cg × Sl)} (h : IsWd w pw D st mb md ws cs) (k : Keep S w w') (hd : ∀ k, D k → ¬ S k) (hs : NoBytes w S) :
    IsWd w' pw D st mb md ws cs := by
  have hsz := k.size
  refine ⟨k.heap h.blk (hd _ h.dw), h.seen.keep k (hd _ h.db) hs, h.dur.keep k (hd _ h.dd) hs, h.ne, h.own.keep k fun b hb => hd _ (h.ds b hb), h.waits, fun c hc => (h.rows c hc).keep k fun b hb => ?_, h.dw, h.db, h.dd, h.ds, fun k hk => by have := h.lt k hk; omega, fun g cur hg q => ?_⟩
  · obtain ⟨cur, hcur⟩ := own_heap (h.rows c hc) hb
    exact hs b cur hcur
  · have hlt := h.lt g q
    have := k.block g hlt (hd g q)
    exact h.nb g cur (by rw [← this]; exact hg) q
theorem IsW.keep {S : Nat → Prop} {w w' : World} {pw : Nat} {D : Nat → Prop} {st : Wst} (h : IsW w pw D st) (k : Keep S w w') (hd : ∀ k, D k → ¬ S k) (hs : NoBytes w S) : IsW w' pw D st := by
  obtain ⟨mb, md, ws, cs, h⟩ := h
  exact ⟨mb, md, ws, cs, h.keep k hd hs⟩
theorem IsW.grow {w w' : World} {pw : Nat} {D : Nat → Prop} {st : Wst} (h : IsW w pw D st) (k : Grow w w') : IsW w' pw D st := h.keep k (fun _ _ q => q) (nobytes_none w)
/-- a world made -/
theorem world_new_spec {w : World} {R : Option Addr → World → Prop}
    (h : ∀ pw D w', Grow w w' → IsW w' pw D ⟨fun _ => none, fun _ => none, [], 0⟩ → (∀ k, D k → w.heap.size ≤ k) → R (some ⟨pw, 0, none⟩) w') : Cworld_New w R := by
  refine Fworld_New.calls _ _ ?_
  rintro mb w1 rfl rfl
  rintro md w2 rfl rfl
  refine new_rule fun pw w3 hpw hb3 hg3 hsz3 => ?_
  have hg1 := keep_alloc w (.map #[] 0)
  have hg2 := keep_alloc (w.alloc (.map #[] 0)) (.map #[] 0)
  have s1 : (w.alloc (.map #[] 0)).heap.size = w.heap.size + 1 := by simp
  have s2 : ((w.alloc (.map #[] 0)).alloc (.map #[] 0)).heap.size = w.heap.size + 2 := by simp
  have f1 : IsF w3 w.heap.size fun _ => none := ((isF_new w).grow hg2).grow hg3
  have f2 : IsF w3 (w.alloc (.map #[] 0)).heap.size fun _ => none := (isF_new _).grow hg3
  refine h pw (fun k => k = pw ∨ k = w.heap.size ∨ k = (w.alloc (.map #[] 0)).heap.size) w3 ((hg1.trans hg2).trans hg3) ⟨w.heap.size, (w.alloc (.map #[] 0)).heap.size, ⟨none, 0, 0⟩, [], ?_⟩ fun k hk => by omega
  refine ⟨hb3, f1, f2, by omega, own_nil _ _ _ _, rfl, fun c hc => (by cases hc), .inl rfl, .inr (.inl rfl), .inr (.inr rfl), fun g hg => (by simp [Sl.blk] at hg), fun k hk => (by omega), fun g cur hg q => ?_⟩
  rcases q with rfl | rfl | rfl
  · rw [hb3] at hg
    injection hg with hg
    injection hg with _ ht
    exact absurd ht (by decide)
  · exact isF_map f1 _ _ _ hg
  · exact isF_map f2 _ _ _ hg
theorem checkKey_int {P : Program} {w : World} {k : TypeId} {q : IntKind} (ek : Bool) (n : Nat) (hk : P.underlying k = some (.int q)) (z : Int) : (Instr.checkKey ek (n + 1) k (.int q z)).run P w = .ok () w := by
  unfold Instr.checkKey
  simp [run_underlying hk]
theorem nil_look (w : World) (n : Int) : (Instr.lookup t_map_int_bool (.map none) (.int .i64 n) false).run Try.prog w = .ok (.bool false) w := by
  have hf : (Instr.findKey 3 (.int .i64 n) []).run Try.prog w = .ok none w := by
    unfold Instr.findKey
    simp [run_underlying u_int, Instr.findNow]
  unfold Instr.lookup
  simp [run_underlying u_map_int_bool, checkKey_int _ _ u_int, hf, zero_rule i_bool]
/-- a counted call -/
theorem call_spec {w : World} {pw : Nat} {D : Nat → Prop} {st : Wst} {mb md : Nat} {ws : Sl} {cs : List (Cg × Sl)} {R : Int → World → Prop} (hw : IsWd w pw D st mb md ws cs) (ho : st.ops < 1000000000000)
    (h : ∀ w', Keep (fun k => k = pw) w w' → IsWd w' pw D { st with ops := st.ops + 1 } mb md ws cs → R 0 w') : Cworld_World_call (some ⟨pw, 0, none⟩) w R := by
  refine Fworld_World_call.calls _ _ _ ?_
  have hb := hw.blk
  refine ⟨rfl, false, by rw [gA, add0, hb.cell]; rfl, br_f rfl ⟨rfl, (st.ops : Int), by rw [gA, add0, hb.cell]; rfl, rfl, (st.ops : Int), by rw [gA, add0, hb.cell]; rfl, rfl, ?_⟩⟩
  rw [w64 (by omega) (by omega)]
  rw [gA, add0]
  refine put_rule hb (by show 3 < 7; decide) rfl fun w1 hb1 hk1 hsz1 => ?_
  have hb1 : Blk w1 pw (wcells mb md ws (st.ops + 1)) t_world_World := hb1
  refine ⟨rfl, -1, by rw [add0, hb1.cell]; rfl, br_f (by rw [beq_eq_false_iff_ne]; omega) ⟨rfl, none, by rw [add0, hb1.cell]; rfl, false, ?_, br_f rfl ?_⟩⟩
  · exact nil_look _ _
  · refine h w1 hk1 ?_
    have nbp : NoBytes w fun k => k = pw := fun g cur hg q => hw.nb g cur hg (by subst q; exact hw.dw)
    have nm : mb ≠ pw := fun q => isF_map hw.seen _ _ _ (by rw [q]; exact hb)
    have nd : md ≠ pw := fun q => isF_map hw.dur _ _ _ (by rw [q]; exact hb)
    refine ⟨hb1, hw.seen.keep hk1 nm nbp, hw.dur.keep hk1 nd nbp, hw.ne, hw.own.keep hk1 fun b hb2 q => ?_, hw.waits, fun c hc => (hw.rows c hc).keep hk1 fun b hb2 => ?_, hw.dw, hw.db, hw.dd, hw.ds, fun k hk => by have := hw.lt k hk; omega, fun g cur hg q => ?_⟩
    · obtain ⟨cur, hc⟩ := own_heap hw.own hb2
      subst q
      rw [hb] at hc
      injection hc with hc
      injection hc with _ ht
      exact absurd ht (by decide)
    · obtain ⟨cur, hc2⟩ := own_heap (hw.rows c hc) hb2
      exact nbp b cur hc2
    · by_cases e : g = pw
      · subst e
        rw [hb1] at hg
        injection hg with hg
        injection hg with _ ht
        exact absurd ht (by decide)
      · exact hw.nb g cur (by rw [← hk1.block g (hw.lt g q) e]; exact hg) q
end Go.Proofs.Ytaneeadpjelomaa
