/- More rules of memory: bytes of a constant, elements of slices. -/
import Derived.Test.YtaneeadpjelomaaCfE
import Derived.Lib.SlBytesConst
import Derived.Lib.AppendStr
namespace Go.Proofs.Ytaneeadpjelomaa.CF
open Go Go.RowKit

theorem bytes_const_rule {P : Program} {w : World} {t e : TypeId} {n : Nat} {parts : Array (Nat × Value)} {l : L8}
    (hr : (Instr.buildSlice t n parts).run P w = .ok (.slice (some ⟨w.heap.size, 0, none⟩) n n) (w.alloc (.cells (bv l).toArray e))) (hn : n = l.length) (hb : n ≤ 140737488355328)
    (ht : P.underlying t = some (.slice e)) (he : P.underlying e = some (.int .u8))
    {K : Sl → World → Prop} (h : ∀ s w', Grow w w' → Rd w' 1 s (bv l) → K s w') :
    RunK P .sl (Instr.buildSlice t n parts) w fun xs w0 => RunK P .sl (convert t t (.slice xs.A xs.n xs.c)) w0 K := by
  refine ⟨⟨some ⟨w.heap.size, 0, none⟩, n, n⟩, _, hr, ⟨some ⟨w.heap.size, 0, none⟩, n, n⟩, _, Go.Lib.run_convert_bytes_const w t e _ n n ht he, ?_⟩
  refine h _ _ (keep_alloc w _) ⟨by rw [bv_length, hn, Nat.mul_one], Nat.le_refl _, Nat.le_trans hb (by decide), fun _ => ⟨_, rfl, fun j v hj => ?_⟩⟩
  rw [add0, Nat.zero_add]
  unfold World.cell?
  simp only [World.alloc, Array.getElem?_push, if_true]
  simpa using hj
open Go.Lib in
theorem strCells_bv (l : L8) : strCells (str l) = bv l := rfl
open Go.Lib in
theorem append_str_at {P : Program} {w : World} (base : Nat) (t u ty e : TypeId) (i : TypeInfo) (ht : P.underlying t = some (.slice e)) (hu : P.underlying u = some .string) (hi : P.info? e = some i) (hz : i.zero = some (.int .u8 0))
    (hsize : i.size = 1) (hby : i.bytes = 1) (o : Sl) (xs : List Value) (hown : Own w base e 1 o xs) (s : ByteArray) (hbytes : o.n + s.size ≤ 140737488355328) (hbase : base ≤ w.heap.size) :
    ∃ (o' : Sl) (w' : World), (Builtin.append_ #[t, u] ty #[.slice o.A o.n o.c, .string s]).run P w = .ok (.slice o'.A o'.n o'.c) w' ∧ o'.n = o.n + s.size ∧ Own w' base e 1 o' (xs ++ strCells s) ∧ Keep (fun k => some k = o.blk) w w' ∧
      (o'.blk = o.blk ∨ o'.blk = some w.heap.size) := by
  have hxl : xs.length = o.n := by simpa using hown.1
  have hlen : (xs ++ strCells s).length = (o.n + s.size) * 1 := by rw [List.length_append, hxl, strCells_length, Nat.mul_one]
  have hmx : (140737488355328 : Nat) ≤ maxLen := by unfold maxLen; omega
  have grown : ∀ (old : Nat), old < o.n + s.size → ∀ (row : Option Nat),
      (w.drew.alloc (.cells (xs.toArray ++ (strCells s).toArray ++ Builtin.zeroCells (Value.int .u8 0).cells (grownCap w (o.n + s.size) old e - (o.n + s.size))) e)).ownsRow base e 1
        (.slice (some ⟨w.heap.size, 0, none⟩) (o.n + s.size) (grownCap w (o.n + s.size) old e)) (o.n + s.size) (xs ++ strCells s) ∧
      Keep (fun k => some k = row) w (w.drew.alloc (.cells (xs.toArray ++ (strCells s).toArray ++ Builtin.zeroCells (Value.int .u8 0).cells (grownCap w (o.n + s.size) old e - (o.n + s.size))) e)) := by
    intro old ho row
    have hge := grownCap_ge w (o.n + s.size) old e
    have hcm : grownCap w (o.n + s.size) old e ≤ maxLen := grownCap_le_maxLen w (o.n + s.size) old e (by omega)
    refine ⟨⟨hlen, .inr ⟨w.heap.size, _, _, rfl, hbase, heap_alloc_new w.drew _, hge, hcm, ?_, ?_⟩⟩, ⟨rfl, rfl, rfl, by simp, fun k hk _ => heap_alloc_lt w.drew _ k hk⟩⟩
    · have hz1 : (Value.int IntKind.u8 0).cells.size = 1 := rfl
      simp only [Array.size_append, List.size_toArray, size_zeroCells, hz1, hxl, strCells_length]
      omega
    · simp only [Array.toList_append, List.append_assoc]
      rw [← List.append_assoc, ← hlen]
      exact List.take_left
  rcases hown.2 with ⟨h0, hn0⟩ | ⟨g, cap, cur, hv, hbg, hg, hnc, hcm, hcs, htake⟩
  · injection h0 with hA hN hC
    obtain ⟨A, n, c⟩ := o
    simp only at hA hN hC hn0 hxl grown hbytes hlen
    subst hA; subst hN; subst hC
    have hx : xs = [] := List.eq_nil_of_length_eq_zero hxl
    subst hx
    by_cases hm : s.size = 0
    · have hn : strCells s = [] := List.eq_nil_of_length_eq_zero (by rw [strCells_length]; exact hm)
      refine ⟨⟨none, 0, 0⟩, w, ?_, by simp [hm], by rw [hn]; exact own_nil w base e 1, Keep.refl _ _, .inl rfl⟩
      have hf := run_firstCells_string (P := P) w 1 s
      rw [hm] at hf
      simp [Builtin.append_, run_underlying ht, run_underlying hu, sizeOf, typeInfo, hi, hsize, Builtin.lenOf, hm, hf]
    · have hr := run_append_nil_string (P := P) w t u ty e i (.int .u8 0) ht hu hi hz s (by omega) (by omega) (by rw [hby]; omega)
      have hgr := grown 0 (by omega) none
      simp only [Nat.zero_add, List.nil_append, Array.empty_append] at hgr
      have e1 : (s.data.map fun b => Value.int .u8 b.toNat) = (strCells s).toArray := by
        apply Array.ext'
        simp [strCells]
      rw [e1] at hr
      refine ⟨⟨some ⟨w.heap.size, 0, none⟩, s.size, _⟩, _, hr, by simp, hgr.1, hgr.2, .inr rfl⟩
  · injection hv with hA hN hC
    obtain ⟨A, n, c⟩ := o
    simp only at hA hN hC hnc hcm hcs htake hxl grown hbytes hlen
    subst hA; subst hC
    by_cases hroom : n + s.size ≤ c
    · have hcs' : cur.size = c := by simpa using hcs
      have hr := run_append_room_string (P := P) w t u ty e i ht hu hi hsize g n c cur hg s hroom (by omega)
      refine ⟨⟨some ⟨g, 0, none⟩, n + s.size, c⟩, _, hr, rfl, ⟨hlen, .inr ⟨g, c, _, rfl, hbg, setRow_heap w g cur _ e _ hg, hroom, hcm, ?_, ?_⟩⟩, ⟨rfl, rfl, rfl, by simp, fun k _ hk => setRow_other w g k _ (fun e => hk (by simp [Sl.blk, e]))⟩, .inl rfl⟩
      · simp only [List.size_toArray, List.length_append, List.length_take, List.length_drop, Array.length_toList, strCells_length]
        omega
      · have ht' : cur.toList.take n = xs := by simpa using htake
        rw [ht', ← hlen]
        exact List.take_left
    · have holds : ∀ j u, xs[j]? = some u → w.cell? ((⟨g, 0, none⟩ : Addr).add j) = some u := World.ownsRow.cells hown (g := g) rfl
      have hr := run_append_grow_string (P := P) w t u ty e i (.int .u8 0) ht hu hi hz ⟨g, 0, none⟩ n c xs (by rw [hsize]; simpa using hxl) holds s (by omega) (by omega) (by rw [hby]; exact growslice_fits (by omega) (by omega))
      have hgr := grown c (by omega) (some g)
      exact ⟨⟨some ⟨w.heap.size, 0, none⟩, n + s.size, _⟩, _, hr, rfl, hgr.1, hgr.2, .inr rfl⟩
/-- the bytes of a string, behind a row of one's own -/
theorem append_str_rule {P : Program} {w : World} {base : Nat} {t u ty e : TypeId} (ht : P.underlying t = some (.slice e)) (hu : P.underlying u = some .string)
    (hinfo : (P.info? e).map (fun i => (i.zero, i.size, i.bytes)) = some (some (.int .u8 0), 1, 1)) {o : Sl} {vs l : L8} (hs : Own w base e 1 o (bv vs)) (hbd : o.n + l.length ≤ 140737488355328) (hbase : base ≤ w.heap.size)
    {K : Sl → World → Prop} (h : ∀ o' w', o'.n = o.n + l.length → Own w' base e 1 o' (bv (vs ++ l)) → Keep (fun k => some k = o.blk) w w' → (o'.blk = o.blk ∨ o'.blk = some w.heap.size) → K o' w') :
    RunK P .sl (Builtin.append_ #[t, u] ty #[.slice o.A o.n o.c, .string (str l)]) w K := by
  obtain ⟨i, hi, hzz⟩ := Option.map_eq_some_iff.1 hinfo
  simp only [Prod.mk.injEq] at hzz
  obtain ⟨o', w', hr, hn, hown, hk, hat⟩ := append_str_at base t u ty e i ht hu hi hzz.1 hzz.2.1 hzz.2.2 o (bv vs) hs (str l) (by rw [size_str]; exact hbd) hbase
  refine ⟨o', w', hr, h o' w' (by rw [hn, size_str]) ?_ hk hat⟩
  rw [bv_append, ← strCells_bv l]
  exact hown
/-! ### a row that grows by strings and bytes, in any order of their making -/
structure Ctx (w : World) (e : TypeId) (pb : Nat) (pcs : Array Value) (pt : TypeId) (u : World) (o : Sl) (os : L8) (lits : List (Sl × UInt8)) : Prop where
  own : Own u w.heap.size e 1 o (bv os)
  grow : Grow w u
  blk : Blk u pb pcs pt
  ne : o.blk ≠ some pb
  lit : ∀ p ∈ lits, Rd u 1 p.1 (bv [p.2]) ∧ (∀ b, p.1.blk = some b → b < u.heap.size) ∧ ∀ b, p.1.blk = some b → o.blk ≠ some b
section
variable {P : Program} {w : World} {t e : TypeId} {pb : Nat} {pcs : Array Value} {pt : TypeId} {u : World} {o : Sl} {os : L8} {lits : List (Sl × UInt8)}
theorem Ctx.n (h : Ctx w e pb pcs pt u o os lits) : o.n = os.length := by have := h.own.len; rw [bv_length] at this; omega
/-- behind a growth of the row -/
theorem Ctx.step (h : Ctx w e pb pcs pt u o os lits) {o' : Sl} {u' : World} {os' : L8} (hown : Own u' w.heap.size e 1 o' (bv os')) (hk : Keep (fun k => some k = o.blk) u u')
    (hat : o'.blk = o.blk ∨ o'.blk = some u.heap.size) : Ctx w e pb pcs pt u' o' os' lits := by
  have hpb := lt_of_heap h.blk
  refine ⟨hown, h.grow.keep hk fun i hi q => ?_, hk.heap h.blk fun q => h.ne q.symm, fun q => ?_, fun p hp => ⟨(h.lit p hp).1.keep hk fun a ha _ q => ?_, fun b hb => ?_, fun b hb q => ?_⟩⟩
  · have := (h.own.ge i q.symm).1; omega
  · rcases hat with r | r
    · exact h.ne (by rw [← r]; exact q)
    · rw [r] at q; injection q with q; omega
  · exact (h.lit p hp).2.2 a.block (by simp [Sl.blk, ha]) q.symm
  · have := (h.lit p hp).2.1 b hb; have := hk.size; omega
  · rcases hat with r | r
    · exact (h.lit p hp).2.2 b hb (by rw [← r]; exact q)
    · rw [r] at q; injection q with q; have := (h.lit p hp).2.1 b hb; omega
theorem Ctx.add (h : Ctx w e pb pcs pt u o os lits) {c : UInt8} {z : Int} (hz : z = (c.toNat : Int)) (ht : P.underlying t = some (.slice e))
    (hr : (Instr.buildSlice t 1 #[(0, .int .u8 z)]).run P u = .ok (.slice (some ⟨u.heap.size, 0, none⟩) 1 1) (u.alloc (.cells #[.int .u8 z] e)))
    {K : Sl → World → Prop} (hK : ∀ s u', Ctx w e pb pcs pt u' o os ((s, c) :: lits) → K s u') : RunK P .sl (Instr.buildSlice t 1 #[(0, .int .u8 z)]) u K := by
  subst hz
  refine ⟨⟨some ⟨u.heap.size, 0, none⟩, 1, 1⟩, _, hr, ?_⟩
  have hg : Grow u (u.alloc (.cells #[.int .u8 (c.toNat : Int)] e)) := keep_alloc u _
  refine hK _ _ ⟨h.own.grow hg, h.grow.trans hg, hg.heap h.blk (fun q => q), h.ne, fun p hp => ?_⟩
  rcases List.mem_cons.1 hp with rfl | hp
  · refine ⟨⟨rfl, Nat.le_refl _, by show 1 ≤ _; decide, fun _ => ⟨_, rfl, fun j v hj => ?_⟩⟩, fun b hb => ?_, fun b hb q => ?_⟩
    · rw [add0, Nat.zero_add]
      unfold World.cell?
      simp only [World.alloc, Array.getElem?_push, if_true]
      simpa [bv] using hj
    · simp only [Sl.blk, Option.map_some, Option.some.injEq] at hb; subst hb; simp
    · simp only [Sl.blk, Option.map_some, Option.some.injEq] at hb; subst hb
      have := (h.own.ge _ q).2; omega
  · obtain ⟨h1, h2, h3⟩ := h.lit p hp
    exact ⟨h1.grow hg, fun b hb => by have := h2 b hb; have := hg.size; omega, h3⟩
theorem Ctx.str (h : Ctx w e pb pcs pt u o os lits) {l : L8} {tu ty : TypeId} (ht : P.underlying t = some (.slice e)) (hu : P.underlying tu = some .string)
    (hinfo : (P.info? e).map (fun i => (i.zero, i.size, i.bytes)) = some (some (.int .u8 0), 1, 1)) (hbd : os.length + l.length ≤ 140737488355328)
    {K : Sl → World → Prop} (hK : ∀ s u', Ctx w e pb pcs pt u' s (os ++ l) lits → K s u') : RunK P .sl (Builtin.append_ #[t, tu] ty #[.slice o.A o.n o.c, .string (CF.str l)]) u K :=
  append_str_rule ht hu hinfo h.own (by rw [h.n]; exact hbd) h.grow.size fun o' w' _ hown hk hat => hK _ _ (h.step hown hk hat)
theorem Ctx.app (h : Ctx w e pb pcs pt u o os lits) {s : Sl} {c : UInt8} {ty : TypeId} (hm : (s, c) ∈ lits) (ht : P.underlying t = some (.slice e))
    (hinfo : (P.info? e).map (fun i => (i.zero, i.size, i.bytes)) = some (some (.int .u8 0), 1, 1)) (hbd : os.length + 1 ≤ 140737488355328)
    {K : Sl → World → Prop} (hK : ∀ s' u', Ctx w e pb pcs pt u' s' (os ++ [c]) lits → K s' u') : RunK P .sl (Builtin.append_ #[t, t] ty #[.slice o.A o.n o.c, .slice s.A s.n s.c]) u K := by
  have hs := (h.lit _ hm).1
  have hn : s.n = 1 := by have := hs.len; simp [bv] at this; omega
  refine append_rule ht hinfo rfl (by decide) (by decide) h.own hs (by simp [bv, Value.oneCell']) (by rw [hn, h.n]; omega) h.grow.size fun o' w' _ hown hk hat => hK _ _ (h.step (by rw [bv_append]; exact hown) hk hat)
end
end Go.Proofs.Ytaneeadpjelomaa.CF
