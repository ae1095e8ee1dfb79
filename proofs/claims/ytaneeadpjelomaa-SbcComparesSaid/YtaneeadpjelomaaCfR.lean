/- Rules: a byte put into a row of one's own, rows that are made, noughts behind a row. -/
import Derived.Test.YtaneeadpjelomaaCfQ
import Derived.Laws.MakeOwn
import Derived.Lib.AppendZerosOnto
import Derived.Deep.DeepAppendWide
namespace Go.Proofs.Ytaneeadpjelomaa.CF
open Go Go.RowKit

theorem own_put {w : World} {base : Nat} {e : TypeId} {s : Sl} {vs : List Value} (hs : Own w base e 1 s vs) {i : Nat} (hi : i < s.n) {v : Value} (hv : v.oneCell' = true)
    {K : World → Prop} (h : ∀ w1, Own w1 base e 1 s (vs.set i v) → Keep (fun k => some k = s.blk) w w1 → w1.heap.size = w.heap.size → K w1) : Put ((gA s.A).add (i * 1)) v w K := by
  obtain ⟨hlen, hown⟩ := hs
  rcases hown with ⟨_, hn0⟩ | ⟨g, cap, cur, hv', hbg, hg, hnc, hcm, hcs, htake⟩
  · omega
  · injection hv' with hA hN hC
    have hcs' : cur.size = cap := by simpa using hcs
    rw [Nat.mul_one, hA, gA, add0, Nat.zero_add]
    refine put_rule hg (by omega) hv fun w1 hb1 hk1 hsz1 => ?_
    refine h w1 ⟨by rw [List.length_set]; exact hlen, .inr ⟨g, cap, _, by rw [hA, hC], hbg, hb1, hnc, hcm, by simpa using hcs, ?_⟩⟩ (hk1.mono fun k _ q => by simp [Sl.blk, hA, q]) hsz1
    have hF : cur.toList.take (s.n * 1) = vs := htake
    rw [← hF, Array.toList_setIfInBounds, List.take_set]
theorem make_rule {P : Program} {w : World} {t e : TypeId} {zv : Value} {bytes n base : Nat} (ht : P.underlying t = some (.slice e)) (hinfo : (P.info? e).map (fun i => (i.zero, i.size, i.bytes)) = some (some zv, 1, bytes)) (hzc : zv.cells = #[zv])
    (hb : bytes * n ≤ 281474976710656) (hn : n ≤ 140737488355328) (hbase : base ≤ w.heap.size)
    {K : Sl → World → Prop} (h : ∀ w1, Own w1 base e 1 ⟨some ⟨w.heap.size, 0, none⟩, n, n⟩ (List.replicate n zv) → Grow w w1 → w1.heap.size = w.heap.size + 1 → K ⟨some ⟨w.heap.size, 0, none⟩, n, n⟩ w1) :
    RunK P .sl (Instr.makeSlice t (.int .i64 (n : Int)) (.int .i64 (n : Int))) w K := by
  obtain ⟨i, hi, hzz⟩ := Option.map_eq_some_iff.1 hinfo
  simp only [Prod.mk.injEq] at hzz
  obtain ⟨hz, hsz, hby⟩ := hzz
  have hb' : (i.bytes : Int) * (n : Int) ≤ 281474976710656 := by
    rw [hby, ← Int.natCast_mul]; omega
  have hr := run_make (P := P) w t e i zv ht hi hz .i64 .i64 (n : Int) (n : Int) (by omega) (Int.le_refl _) hb' (by omega)
  simp only [Int.toNat_natCast] at hr
  refine ⟨⟨some ⟨w.heap.size, 0, none⟩, n, n⟩, _, hr, h _ ?_ (keep_alloc w _) (by simp)⟩
  have hm : madeCells zv.cells (n * i.size) = (List.replicate n zv).toArray := by
    rw [hzc, hsz, Nat.mul_one]
    apply Array.ext
    · simp [madeCells]
    · intro k h1 h2
      simp [madeCells, Nat.mod_one]
  rw [hm]
  have := World.ownsRow_lit (e := e) (size := 1) (base := base) w (List.replicate n zv).toArray n hbase (by unfold maxLen; omega) (by simp)
  exact this
theorem append_zeros_rule {P : Program} {w : World} {t tn ty e : TypeId} {zv : Value} {base k : Nat} (ht : P.underlying t = some (.slice e)) (htn : P.underlying tn = some (.int .i64)) (hinfo : (P.info? e).map (fun i => (i.zero, i.size, i.bytes)) = some (some zv, 1, 1)) (hzc : zv.cells = #[zv])
    {s : Sl} {vs : List Value} (hs : Rd w 1 s vs) (hc : s.c < s.n + k) (hk : 0 < k) (hbd : s.n + k ≤ 1000000000) (hbase : base ≤ w.heap.size)
    {K : Sl → World → Prop} (h : ∀ s' w', s'.n = s.n + k → Own w' base e 1 s' (vs ++ List.replicate k zv) → Grow w w' → s'.blk = some w.heap.size → K s' w') :
    RunK P .sl (Builtin.append_ #[t, tn] ty #[.slice s.A s.n s.c, .int .i64 (k : Int)]) w K := by
  obtain ⟨i, hi, hzz⟩ := Option.map_eq_some_iff.1 hinfo
  simp only [Prod.mk.injEq] at hzz
  obtain ⟨hz, hsz, hby⟩ := hzz
  have hvl : vs.length = s.n := by have := hs.len; omega
  have hold : (Builtin.firstCells i.size s.n (.slice s.A s.n s.c)).run P w.drew = .ok vs.toArray w.drew := by
    rw [hsz]
    by_cases hne : vs = []
    · subst hne
      simp only [List.length_nil] at hvl
      rw [← hvl]
      cases hA : s.A with
      | none => exact run_firstCells_none (P := P) (w := w.drew) 1 0 0 _
      | some a => exact run_firstCells_some (P := P) (w := w.drew) 1 0 a 0 s.c [] rfl (fun j v hj => by simp at hj)
    · obtain ⟨a, ha, hc⟩ := (hs.grow (keep_drew w)).at_ hne
      rw [ha]
      exact run_firstCells_some (P := P) (w := w.drew) 1 s.n a s.n s.c vs (by omega) hc
  have hr := Go.Lib.run_append_grow_zeros (P := P) w t tn ty e i zv .i64 .i64 ht htn hi hz s.A s.n s.c vs hold k hk (by omega) hc (by omega) (by rw [hby]; omega) (by rw [hby]; exact growslice_fits (by omega) (by omega))
  refine ⟨⟨some ⟨w.heap.size, 0, none⟩, s.n + k, grownCap w (s.n + k) s.c e⟩, _, hr, h _ _ rfl ?_ ⟨rfl, rfl, rfl, by simp, fun k hk _ => heap_alloc_lt w.drew _ k hk⟩ rfl⟩
  have hge := grownCap_ge w (s.n + k) s.c e
  have hcm : grownCap w (s.n + k) s.c e ≤ maxLen := grownCap_le_maxLen w (s.n + k) s.c e (by unfold maxLen; omega)
  have hzk : ∀ m, (Builtin.zeroCells zv.cells m).size = m := fun m => by rw [size_zeroCells, hzc]; simp
  have hzr : (Builtin.zeroCells zv.cells k).toList = List.replicate k zv := by
    rw [hzc]
    apply List.ext_getElem
    · rw [Array.length_toList, ← hzc, hzk]; simp
    · intro j h1 h2
      simp [Builtin.zeroCells, Nat.mod_one]
  refine ⟨by simp; omega, .inr ⟨w.heap.size, grownCap w (s.n + k) s.c e, _, rfl, hbase, heap_alloc_new w.drew _, hge, hcm, ?_, ?_⟩⟩
  · simp only [Array.size_append, List.size_toArray, hzk, hvl]
    omega
  · simp only [Array.toList_append, hzr]
    have : (vs ++ List.replicate k zv).length = (s.n + k) * 1 := by simp; omega
    rw [← this]
    exact List.take_left
/-- append(s, x...) where both together are greater than half of what a row may be -/
theorem append_wide_rule {P : Program} {w : World} {base : Nat} {t ty e : TypeId} {zv : Value} {z bytes : Nat} (ht : P.underlying t = some (.slice e)) (hinfo : (P.info? e).map (fun i => (i.zero, i.size, i.bytes)) = some (some zv, z, bytes))
    (hzc : zv.cells.size = z) (hz0 : 0 < z) (hb0 : 0 < bytes) {s x : Sl} {vs xs : List Value} (hs : Own w base e z s vs) (hx : Rd w z x xs) (h1 : ∀ u ∈ xs, u.oneCell' = true)
    (hm : s.n + x.n ≤ 140737489403904) (hbd : ((s.n + x.n) + (s.n + x.n) / 4 + 192) * bytes ≤ 281474976710656) (hbase : base ≤ w.heap.size) {K : Sl → World → Prop}
    (h : ∀ s' w', s'.n = s.n + x.n → Own w' base e z s' (vs ++ xs) → Keep (fun k => some k = s.blk) w w' → K s' w') :
    RunK P .sl (Builtin.append_ #[t, t] ty #[.slice s.A s.n s.c, .slice x.A x.n x.c]) w K := by
  obtain ⟨i, hi, hzz⟩ := Option.map_eq_some_iff.1 hinfo
  simp only [Prod.mk.injEq] at hzz
  obtain ⟨hz, hsz, hby⟩ := hzz
  have blk : (Value.slice s.A s.n s.c).ownBlock = s.blk := by unfold Sl.blk; cases s.A <;> rfl
  have hxl : xs.length = x.n * z := hx.len
  by_cases hne : xs = []
  · have hn0 : x.n = 0 := by
      rw [hne, List.length_nil] at hxl
      rcases Nat.mul_eq_zero.1 hxl.symm with q | q <;> omega
    have hsl := hs.len
    have hc : s.n + x.n ≤ s.c := by
      rcases hs.2 with ⟨h2, q⟩ | ⟨g, cap, cur, hv, _, _, h4, _⟩
      · injection h2 with _ e1 e2; omega
      · injection hv with _ _ e2; omega
    have hfc : (Builtin.firstCells i.size x.n (.slice x.A x.n x.c)).run P w = .ok #[] w := by
      rw [hn0]
      cases hA : x.A with
      | none => exact run_firstCells_none (P := P) (w := w) i.size 0 0 _
      | some a => exact run_firstCells_some (P := P) (w := w) i.size 0 a 0 x.c [] (by simp) (fun j v hj => by simp at hj)
    refine ⟨s, w, ?_, h s w (by omega) (by rw [hne, List.append_nil]; exact hs) (Keep.refl _ _)⟩
    show _ = Result.ok (Value.slice s.A s.n s.c) w
    rw [hn0] at hc hfc ⊢
    obtain ⟨A, n, c⟩ := s
    simp only [Nat.add_zero] at hc ⊢
    cases A <;> simp [Builtin.append_, run_underlying ht, sizeOf, typeInfo, hi, Builtin.lenOf, hfc, hc, storeCells]
  · obtain ⟨a, ha, hcells⟩ := hx.at_ hne
    obtain ⟨v', w', hr, hown, hg, _⟩ := run_append_own_wide (P := P) w base t ty e i zv z bytes ht hi hz hsz hby hzc hz0 _ s.n vs hs a x.n x.c xs hx.len hcells h1 (by unfold maxLen; omega) hbd hbase
    have hv' : ∃ s' : Sl, v' = .slice s'.A s'.n s'.c ∧ s'.n = s.n + x.n := by
      rcases hown.2 with ⟨rfl, hn⟩ | ⟨g, cap, cur, rfl, _⟩
      · exact ⟨⟨none, 0, 0⟩, rfl, hn.symm⟩
      · exact ⟨⟨some ⟨g, 0, none⟩, _, cap⟩, rfl, rfl⟩
    obtain ⟨s', rfl, hn'⟩ := hv'
    rw [ha]
    exact ⟨s', w', hr, h s' w' hn' (by have q := hown; rw [← hn'] at q; exact q) (blk ▸ keep_grownBy hg)⟩
/-! ### where ways meet: what holds there, told once -/
theorem letX0 {j : World → Prop} {body : (World → Prop) → Prop} (I : World → Prop) (h1 : ∀ u, I u → j u) (h2 : (∀ u, I u → j u) → body j) : letX j body := h2 h1
theorem letX1 {α : Type} {j : α → World → Prop} {body : (α → World → Prop) → Prop} (I : α → World → Prop) (h1 : ∀ x u, I x u → j x u) (h2 : (∀ x u, I x u → j x u) → body j) : letX j body := h2 h1
theorem letX2 {α β : Type} {j : α → β → World → Prop} {body : (α → β → World → Prop) → Prop} (I : α → β → World → Prop) (h1 : ∀ x y u, I x y u → j x y u) (h2 : (∀ x y u, I x y u → j x y u) → body j) : letX j body := h2 h1
theorem letX3 {α β γ : Type} {j : α → β → γ → World → Prop} {body : (α → β → γ → World → Prop) → Prop} (I : α → β → γ → World → Prop) (h1 : ∀ x y z u, I x y z u → j x y z u) (h2 : (∀ x y z u, I x y z u → j x y z u) → body j) : letX j body := h2 h1
theorem letJ1 {α : Type} {j : α → World → Prop} {body : (α → World → Prop) → Prop} (I : α → World → Prop) (h1 : ∀ x u, I x u → j x u) (h2 : (∀ x u, I x u → j x u) → body j) : letJ j body := h2 h1
/-- the bytes of a constant, and where they lie -/
theorem bytes_at_rule {P : Program} {w : World} {t e : TypeId} {n : Nat} {parts : Array (Nat × Value)} {l : L8}
    (hr : (Instr.buildSlice t n parts).run P w = .ok (.slice (some ⟨w.heap.size, 0, none⟩) n n) (w.alloc (.cells (bv l).toArray e))) (hn : n = l.length) (hb : n ≤ 140737488355328)
    (ht : P.underlying t = some (.slice e)) (he : P.underlying e = some (.int .u8))
    {K : Sl → World → Prop} (h : ∀ w', Grow w w' → w'.heap.size = w.heap.size + 1 → Rd w' 1 ⟨some ⟨w.heap.size, 0, none⟩, n, n⟩ (bv l) → K ⟨some ⟨w.heap.size, 0, none⟩, n, n⟩ w') :
    RunK P .sl (Instr.buildSlice t n parts) w fun xs w0 => RunK P .sl (convert t t (.slice xs.A xs.n xs.c)) w0 K := by
  refine ⟨⟨some ⟨w.heap.size, 0, none⟩, n, n⟩, _, hr, ⟨some ⟨w.heap.size, 0, none⟩, n, n⟩, _, Go.Lib.run_convert_bytes_const w t e _ n n ht he, ?_⟩
  refine h _ (keep_alloc w _) (by simp) ⟨by rw [bv_length, hn, Nat.mul_one], Nat.le_refl _, by show n ≤ _; omega, fun _ => ⟨_, rfl, fun j v hj => ?_⟩⟩
  rw [add0, Nat.zero_add]
  unfold World.cell?
  simp only [World.alloc, Array.getElem?_push, if_true]
  simpa using hj
end Go.Proofs.Ytaneeadpjelomaa.CF
