import Derived.Lib.SlBytesConst
import Derived.Lib.AppendStr
import Derived.MapKept
import Derived.Laws.CopyRow
import Derived.Laws.IdiomCopy
import Derived.Test.YtaneeadpjelomaaProg
import Derived.Test.YtaneeadpjelomaaB1
/- More rules of memory: bytes of a constant, elements of slices. -/
namespace Go.Proofs.Ytaneeadpjelomaa.CF
open Go Go.RowKit

theorem bytes_const_rule {P : Program} {w : World} {t e : TypeId} {n : Nat} {parts : Array (Nat × Value)} {l : L8}
    (hr : (Instr.buildSlice t n parts).run P w = .ok (.slice (some ⟨w.heap.size, 0, none⟩) n n) (w.alloc (.cells (bv l).toArray e))) (hn : n = l.length) (hb : n ≤ 140737488355328)
    (ht : P.underlying t = some (.slice e)) (he : P.underlying e = some (.int .u8))
    {K : Sl → World → Prop} (h : ∀ s w', Grow w w' → Rd w' 1 s (bv l) → K s w') :
    RunK P .sl (Instr.buildSlice t n parts) w fun xs w0 => RunK P .sl (convert t t (.slice xs.A xs.n xs.c)) w0 K := by
  refine ⟨⟨some ⟨w.heap.size, 0, none⟩, n, n⟩, _, hr, ⟨some ⟨w.heap.size, 0, none⟩, n, n⟩, _, Go.Lib.run_convert_bytes_const w t e _ n n ht he, ?_⟩
  refine h _ _ (keep_alloc w _) ⟨by rw [bv_length, hn, Nat.mul_one], Nat.le_refl _, Nat.le_trans hb (by decide), fun _ => ⟨_, rfl, fun j v hj => ?_⟩⟩
  rw [add0, Nat.zero_add]
  unfold World.cell?
  simp only [World.alloc, Array.getElem?_push, if_true]
  simpa using hj
open Go.Lib in
theorem strCells_bv (l : L8) : strCells (str l) = bv l := rfl
open Go.Lib in
theorem append_str_at {P : Program} {w : World} (base : Nat) (t u ty e : TypeId) (i : TypeInfo) (ht : P.underlying t = some (.slice e)) (hu : P.underlying u = some .string) (hi : P.info? e = some i) (hz : i.zero = some (.int .u8 0))
    (hsize : i.size = 1) (hby : i.bytes = 1) (o : Sl) (xs : List Value) (hown : Own w base e 1 o xs) (s : ByteArray) (hbytes : o.n + s.size ≤ 140737488355328) (hbase : base ≤ w.heap.size) :
    ∃ (o' : Sl) (w' : World), (Builtin.append_ #[t, u] ty #[.slice o.A o.n o.c, .string s]).run P w = .ok (.slice o'.A o'.n o'.c) w' ∧ o'.n = o.n + s.size ∧ Own w' base e 1 o' (xs ++ strCells s) ∧ Keep (fun k => some k = o.blk) w w' ∧
      (o'.blk = o.blk ∨ o'.blk = some w.heap.size) := by
  have hxl : xs.length = o.n := by simpa using hown.1
  have hlen : (xs ++ strCells s).length = (o.n + s.size) * 1 := by rw [List.length_append, hxl, strCells_length, Nat.mul_one]
  have hmx : (140737488355328 : Nat) ≤ maxLen := by unfold maxLen; omega
  have grown : ∀ (old : Nat), old < o.n + s.size → ∀ (row : Option Nat),
      (w.drew.alloc (.cells (xs.toArray ++ (strCells s).toArray ++ Builtin.zeroCells (Value.int .u8 0).cells (grownCap w (o.n + s.size) old e - (o.n + s.size))) e)).ownsRow base e 1
        (.slice (some ⟨w.heap.size, 0, none⟩) (o.n + s.size) (grownCap w (o.n + s.size) old e)) (o.n + s.size) (xs ++ strCells s) ∧
      Keep (fun k => some k = row) w (w.drew.alloc (.cells (xs.toArray ++ (strCells s).toArray ++ Builtin.zeroCells (Value.int .u8 0).cells (grownCap w (o.n + s.size) old e - (o.n + s.size))) e)) := by
    intro old ho row
    have hge := grownCap_ge w (o.n + s.size) old e
    have hcm : grownCap w (o.n + s.size) old e ≤ maxLen := grownCap_le_maxLen w (o.n + s.size) old e (by omega)
    refine ⟨⟨hlen, .inr ⟨w.heap.size, _, _, rfl, hbase, heap_alloc_new w.drew _, hge, hcm, ?_, ?_⟩⟩, ⟨rfl, rfl, rfl, by simp, fun k hk _ => heap_alloc_lt w.drew _ k hk⟩⟩
    · have hz1 : (Value.int IntKind.u8 0).cells.size = 1 := rfl
      simp only [Array.size_append, List.size_toArray, size_zeroCells, hz1, hxl, strCells_length]
      omega
    · simp only [Array.toList_append, List.append_assoc]
      rw [← List.append_assoc, ← hlen]
      exact List.take_left
  rcases hown.2 with ⟨h0, hn0⟩ | ⟨g, cap, cur, hv, hbg, hg, hnc, hcm, hcs, htake⟩
  · injection h0 with hA hN hC
    obtain ⟨A, n, c⟩ := o
    simp only at hA hN hC hn0 hxl grown hbytes hlen
    subst hA; subst hN; subst hC
    have hx : xs = [] := List.eq_nil_of_length_eq_zero hxl
    subst hx
    by_cases hm : s.size = 0
    · have hn : strCells s = [] := List.eq_nil_of_length_eq_zero (by rw [strCells_length]; exact hm)
      refine ⟨⟨none, 0, 0⟩, w, ?_, by simp [hm], by rw [hn]; exact own_nil w base e 1, Keep.refl _ _, .inl rfl⟩
      have hf := run_firstCells_string (P := P) w 1 s
      rw [hm] at hf
      simp [Builtin.append_, run_underlying ht, run_underlying hu, sizeOf, typeInfo, hi, hsize, Builtin.lenOf, hm, hf]
    · have hr := run_append_nil_string (P := P) w t u ty e i (.int .u8 0) ht hu hi hz s (by omega) (by omega) (by rw [hby]; omega)
      have hgr := grown 0 (by omega) none
      simp only [Nat.zero_add, List.nil_append, Array.empty_append] at hgr
      have e1 : (s.data.map fun b => Value.int .u8 b.toNat) = (strCells s).toArray := by
        apply Array.ext'
        simp [strCells]
      rw [e1] at hr
      refine ⟨⟨some ⟨w.heap.size, 0, none⟩, s.size, _⟩, _, hr, by simp, hgr.1, hgr.2, .inr rfl⟩
  · injection hv with hA hN hC
    obtain ⟨A, n, c⟩ := o
    simp only at hA hN hC hnc hcm hcs htake hxl grown hbytes hlen
    subst hA; subst hC
    by_cases hroom : n + s.size ≤ c
    · have hcs' : cur.size = c := by simpa using hcs
      have hr := run_append_room_string (P := P) w t u ty e i ht hu hi hsize g n c cur hg s hroom (by omega)
      refine ⟨⟨some ⟨g, 0, none⟩, n + s.size, c⟩, _, hr, rfl, ⟨hlen, .inr ⟨g, c, _, rfl, hbg, setRow_heap w g cur _ e _ hg, hroom, hcm, ?_, ?_⟩⟩, ⟨rfl, rfl, rfl, by simp, fun k _ hk => setRow_other w g k _ (fun e => hk (by simp [Sl.blk, e]))⟩, .inl rfl⟩
      · simp only [List.size_toArray, List.length_append, List.length_take, List.length_drop, Array.length_toList, strCells_length]
        omega
      · have ht' : cur.toList.take n = xs := by simpa using htake
        rw [ht', ← hlen]
        exact List.take_left
    · have holds : ∀ j u, xs[j]? = some u → w.cell? ((⟨g, 0, none⟩ : Addr).add j) = some u := World.ownsRow.cells hown (g := g) rfl
      have hr := run_append_grow_string (P := P) w t u ty e i (.int .u8 0) ht hu hi hz ⟨g, 0, none⟩ n c xs (by rw [hsize]; simpa using hxl) holds s (by omega) (by omega) (by rw [hby]; exact growslice_fits (by omega) (by omega))
      have hgr := grown c (by omega) (some g)
      exact ⟨⟨some ⟨w.heap.size, 0, none⟩, n + s.size, _⟩, _, hr, rfl, hgr.1, hgr.2, .inr rfl⟩
/-- the bytes of a string, behind a row of one's own -/
theorem append_str_rule {P : Program} {w : World} {base : Nat} {t u ty e : TypeId} (ht : P.underlying t = some (.slice e)) (hu : P.underlying u = some .string)
    (hinfo : (P.info? e).map (fun i => (i.zero, i.size, i.bytes)) = some (some (.int .u8 0), 1, 1)) {o : Sl} {vs l : L8} (hs : Own w base e 1 o (bv vs)) (hbd : o.n + l.length ≤ 140737488355328) (hbase : base ≤ w.heap.size)
    {K : Sl → World → Prop} (h : ∀ o' w', o'.n = o.n + l.length → Own w' base e 1 o' (bv (vs ++ l)) → Keep (fun k => some k = o.blk) w w' → (o'.blk = o.blk ∨ o'.blk = some w.heap.size) → K o' w') :
    RunK P .sl (Builtin.append_ #[t, u] ty #[.slice o.A o.n o.c, .string (str l)]) w K := by
  obtain ⟨i, hi, hzz⟩ := Option.map_eq_some_iff.1 hinfo
  simp only [Prod.mk.injEq] at hzz
  obtain ⟨o', w', hr, hn, hown, hk, hat⟩ := append_str_at base t u ty e i ht hu hi hzz.1 hzz.2.1 hzz.2.2 o (bv vs) hs (str l) (by rw [size_str]; exact hbd) hbase
  refine ⟨o', w', hr, h o' w' (by rw [hn, size_str]) ?_ hk hat⟩
  rw [bv_append, ← strCells_bv l]
  exact hown
/-! ### a row that grows by strings and bytes, in any order of their making -/
structure Ctx (w : World) (e : TypeId) (pb : Nat) (pcs : Array Value) (pt : TypeId) (u : World) (o : Sl) (os : L8) (lits : List (Sl × UInt8)) : Prop where
  own : Own u w.heap.size e 1 o (bv os)
  grow : Grow w u
  blk : Blk u pb pcs pt
  ne : o.blk ≠ some pb
  lit : ∀ p ∈ lits, Rd u 1 p.1 (bv [p.2]) ∧ (∀ b, p.1.blk = some b → b < u.heap.size) ∧ ∀ b, p.1.blk = some b → o.blk ≠ some b
section
variable {P : Program} {w : World} {t e : TypeId} {pb : Nat} {pcs : Array Value} {pt : TypeId} {u : World} {o : Sl} {os : L8} {lits : List (Sl × UInt8)}
theorem Ctx.n (h : Ctx w e pb pcs pt u o os lits) : o.n = os.length := by have := h.own.len; rw [bv_length] at this; omega
/-- behind a growth of the row -/
theorem Ctx.step (h : Ctx w e pb pcs pt u o os lits) {o' : Sl} {u' : World} {os' : L8} (hown : Own u' w.heap.size e 1 o' (bv os')) (hk : Keep (fun k => some k = o.blk) u u')
    (hat : o'.blk = o.blk ∨ o'.blk = some u.heap.size) : Ctx w e pb pcs pt u' o' os' lits := by
  have hpb := lt_of_heap h.blk
  refine ⟨hown, h.grow.keep hk fun i hi q => ?_, hk.heap h.blk fun q => h.ne q.symm, fun q => ?_, fun p hp => ⟨(h.lit p hp).1.keep hk fun a ha _ q => ?_, fun b hb => ?_, fun b hb q => ?_⟩⟩
  · have := (h.own.ge i q.symm).1; omega
  · rcases hat with r | r
    · exact h.ne (by rw [← r]; exact q)
    · rw [r] at q; injection q with q; omega
  · exact (h.lit p hp).2.2 a.block (by simp [Sl.blk, ha]) q.symm
  · have := (h.lit p hp).2.1 b hb; have := hk.size; omega
  · rcases hat with r | r
    · exact (h.lit p hp).2.2 b hb (by rw [← r]; exact q)
    · rw [r] at q; injection q with q; have := (h.lit p hp).2.1 b hb; omega
theorem Ctx.add (h : Ctx w e pb pcs pt u o os lits) {c : UInt8} {z : Int} (hz : z = (c.toNat : Int)) (ht : P.underlying t = some (.slice e))
    (hr : (Instr.buildSlice t 1 #[(0, .int .u8 z)]).run P u = .ok (.slice (some ⟨u.heap.size, 0, none⟩) 1 1) (u.alloc (.cells #[.int .u8 z] e)))
    {K : Sl → World → Prop} (hK : ∀ s u', Ctx w e pb pcs pt u' o os ((s, c) :: lits) → K s u') : RunK P .sl (Instr.buildSlice t 1 #[(0, .int .u8 z)]) u K := by
  subst hz
  refine ⟨⟨some ⟨u.heap.size, 0, none⟩, 1, 1⟩, _, hr, ?_⟩
  have hg : Grow u (u.alloc (.cells #[.int .u8 (c.toNat : Int)] e)) := keep_alloc u _
  refine hK _ _ ⟨h.own.grow hg, h.grow.trans hg, hg.heap h.blk (fun q => q), h.ne, fun p hp => ?_⟩
  rcases List.mem_cons.1 hp with rfl | hp
  · refine ⟨⟨rfl, Nat.le_refl _, by show 1 ≤ _; decide, fun _ => ⟨_, rfl, fun j v hj => ?_⟩⟩, fun b hb => ?_, fun b hb q => ?_⟩
    · rw [add0, Nat.zero_add]
      unfold World.cell?
      simp only [World.alloc, Array.getElem?_push, if_true]
      simpa [bv] using hj
    · simp only [Sl.blk, Option.map_some, Option.some.injEq] at hb; subst hb; simp
    · simp only [Sl.blk, Option.map_some, Option.some.injEq] at hb; subst hb
      have := (h.own.ge _ q).2; omega
  · obtain ⟨h1, h2, h3⟩ := h.lit p hp
    exact ⟨h1.grow hg, fun b hb => by have := h2 b hb; have := hg.size; omega, h3⟩
theorem Ctx.str (h : Ctx w e pb pcs pt u o os lits) {l : L8} {tu ty : TypeId} (ht : P.underlying t = some (.slice e)) (hu : P.underlying tu = some .string)
    (hinfo : (P.info? e).map (fun i => (i.zero, i.size, i.bytes)) = some (some (.int .u8 0), 1, 1)) (hbd : os.length + l.length ≤ 140737488355328)
    {K : Sl → World → Prop} (hK : ∀ s u', Ctx w e pb pcs pt u' s (os ++ l) lits → K s u') : RunK P .sl (Builtin.append_ #[t, tu] ty #[.slice o.A o.n o.c, .string (CF.str l)]) u K :=
  append_str_rule ht hu hinfo h.own (by rw [h.n]; exact hbd) h.grow.size fun o' w' _ hown hk hat => hK _ _ (h.step hown hk hat)
theorem Ctx.app (h : Ctx w e pb pcs pt u o os lits) {s : Sl} {c : UInt8} {ty : TypeId} (hm : (s, c) ∈ lits) (ht : P.underlying t = some (.slice e))
    (hinfo : (P.info? e).map (fun i => (i.zero, i.size, i.bytes)) = some (some (.int .u8 0), 1, 1)) (hbd : os.length + 1 ≤ 140737488355328)
    {K : Sl → World → Prop} (hK : ∀ s' u', Ctx w e pb pcs pt u' s' (os ++ [c]) lits → K s' u') : RunK P .sl (Builtin.append_ #[t, t] ty #[.slice o.A o.n o.c, .slice s.A s.n s.c]) u K := by
  have hs := (h.lit _ hm).1
  have hn : s.n = 1 := by have := hs.len; simp [bv] at this; omega
  refine append_rule ht hinfo rfl (by decide) (by decide) h.own hs (by simp [bv, Value.oneCell']) (by rw [hn, h.n]; omega) h.grow.size fun o' w' _ hown hk hat => hK _ _ (h.step (by rw [bv_append]; exact hown) hk hat)
end
end Go.Proofs.Ytaneeadpjelomaa.CF

/- Rules of maps with strings for keys. -/
namespace Go.Proofs.Ytaneeadpjelomaa.CF
open Go Go.RowKit

/-- all keys are strings -/
def SKeys (es : List MapEntry) : Prop := ∀ e ∈ es, ∃ s, e.key = .string s
def sidx : List MapEntry → ByteArray → Nat → Option (Nat × Value)
  | [], _, _ => none
  | e :: r, s, i => match e.key with
    | .string t => if s = t then some (i, e.val) else sidx r s (i + 1)
    | _ => sidx r s (i + 1)
def sget (es : List MapEntry) (s : ByteArray) : Option Value := (sidx es s 0).map (·.2)
theorem findNow_str {s : ByteArray} : ∀ {es : List MapEntry} (i : Nat), SKeys es → Instr.findNow .string (.string s) es i = some (sidx es s i)
  | [], _, _ => rfl
  | e :: r, i, h => by
    obtain ⟨t, ht⟩ := h e (by simp)
    have ih := findNow_str (s := s) (i + 1) (fun x hx => h x (by simp [hx]) : SKeys r)
    unfold Instr.findNow sidx
    rw [ht]
    simp only [Instr.sameNow]
    by_cases e : s = t
    · have : (s == t) = true := (MapKept.bytes_beq s t).2 e
      rw [this]
      simp only [if_pos e]
    · have : (s == t) = false := Bool.eq_false_iff.2 fun q => e ((MapKept.bytes_beq s t).1 q)
      rw [this]
      simp only [if_neg e]
      exact ih
theorem sidx_shift {s : ByteArray} : ∀ (es : List MapEntry) (i j : Nat), sidx es s (i + j) = (sidx es s i).map fun p => (p.1 + j, p.2)
  | [], _, _ => rfl
  | e :: r, i, j => by
    unfold sidx
    have := sidx_shift (s := s) r (i + 1) j
    rw [show i + 1 + j = i + j + 1 by omega] at this
    cases e.key with
    | string t => by_cases q : s = t <;> simp [q, this]
    | _ => simpa using this
theorem sget_nil (s : ByteArray) : sget [] s = none := rfl
theorem sget_cons {e : MapEntry} {r : List MapEntry} {t : ByteArray} (h : e.key = .string t) (s : ByteArray) : sget (e :: r) s = if s = t then some e.val else sget r s := by
  unfold sget
  conv => lhs; unfold sidx
  rw [h]
  by_cases q : s = t
  · simp [q]
  · simp only [if_neg q]
    rw [sidx_shift r 0 1, Option.map_map]
    rfl
theorem sget_push {es : List MapEntry} {s : ByteArray} {e : MapEntry} (hk : SKeys es) (he : e.key = .string s) (hn : sget es s = none) (t : ByteArray) :
    sget (es ++ [e]) t = if t = s then some e.val else sget es t := by
  induction es with
  | nil => rw [List.nil_append, sget_cons he]
  | cons x r ih =>
    obtain ⟨u, hu⟩ := hk x (by simp)
    rw [sget_cons hu] at hn
    rw [List.cons_append, sget_cons hu, sget_cons hu]
    by_cases q : s = u
    · rw [if_pos q] at hn; cases hn
    · rw [if_neg q] at hn
      rw [ih (fun x hx => hk x (by simp [hx])) hn]
      by_cases q1 : t = u
      · by_cases q2 : t = s
        · exact absurd (q2.symm.trans q1) q
        · rw [if_pos q1, if_neg q2, if_pos q1]
      · simp only [if_neg q1]
theorem sget_modify {es : List MapEntry} {s : ByteArray} {i : Nat} {v v' : Value} (hk : SKeys es) (hn : sidx es s 0 = some (i, v)) (t : ByteArray) :
    sget (es.modify i fun e => { e with key := .string s, val := v' }) t = if t = s then some v' else sget es t := by
  induction es generalizing i with
  | nil => cases hn
  | cons x r ih =>
    obtain ⟨u, hu⟩ := hk x (by simp)
    unfold sidx at hn
    rw [hu] at hn
    by_cases q : s = u
    · simp only [if_pos q, Option.some.injEq, Prod.mk.injEq] at hn
      obtain ⟨rfl, _⟩ := hn
      rw [List.modify_zero_cons, sget_cons (t := s) rfl, sget_cons hu]
      by_cases q1 : t = s
      · simp [q1]
      · have q2 : t ≠ u := fun e => q1 (e.trans q.symm)
        simp [q1, q2]
    · simp only [if_neg q] at hn
      rw [sidx_shift r 0 1] at hn
      obtain ⟨p, hp, hpe⟩ := Option.map_eq_some_iff.1 hn
      simp only [Prod.mk.injEq] at hpe
      obtain ⟨rfl, hp2⟩ := hpe
      rw [List.modify_succ_cons, sget_cons hu, sget_cons hu, ih (i := p.1) (fun x hx => hk x (by simp [hx])) (by rw [hp, ← hp2])]
      by_cases q1 : t = u
      · have q2 : t ≠ s := fun e => q (e.symm.trans q1)
        simp [q1, q2]
        exact fun e => absurd e.symm q
      · simp [q1]
theorem skeys_modify {es : List MapEntry} {s : ByteArray} {i : Nat} {v' : Value} (hk : SKeys es) : SKeys (es.modify i fun e => { e with key := .string s, val := v' }) := by
  intro e he
  obtain ⟨j, hj, rfl⟩ := List.getElem_of_mem he
  rw [List.getElem_modify]
  split
  · exact ⟨s, rfl⟩
  · exact hk _ (List.getElem_mem _)
theorem sidx_at {es : Array MapEntry} {s : ByteArray} {i j : Nat} {v : Value} (hs : SKeys es.toList) (h : sidx es.toList s j = some (j + i, v)) : ∃ e0, es[i]? = some e0 ∧ e0.key = .string s := by
  rw [← Array.getElem?_toList]
  generalize es.toList = l at *
  induction l generalizing i j with
  | nil => cases h
  | cons x r ih =>
    obtain ⟨u, hu⟩ := hs x (by simp)
    unfold sidx at h
    rw [hu] at h
    by_cases q : s = u
    · simp only [if_pos q, Option.some.injEq, Prod.mk.injEq] at h
      have : i = 0 := by omega
      subst this
      exact ⟨x, rfl, by rw [hu, q]⟩
    · simp only [if_neg q] at h
      have hi : 0 < i := by
        rw [show j + 1 = 0 + (j + 1) by omega, sidx_shift] at h
        obtain ⟨p, _, hp⟩ := Option.map_eq_some_iff.1 h
        simp only [Prod.mk.injEq] at hp
        omega
      obtain ⟨i', rfl⟩ : ∃ i', i = i' + 1 := ⟨i - 1, by omega⟩
      rw [List.getElem?_cons_succ]
      exact ih (j := j + 1) (fun y hy => hs y (by simp [hy])) (by rw [h]; congr 2; omega)
/-- a map that holds these values -/
def SMap (w : World) (b : Nat) (m : ByteArray → Option Value) : Prop :=
  ∃ es clock, w.heap[b]? = some (.map es clock) ∧ SKeys es.toList ∧ ∀ s, sget es.toList s = m s
def upd (m : ByteArray → Option Value) (s : ByteArray) (v : Value) : ByteArray → Option Value := fun t => if t = s then some v else m t
theorem SMap.keep {S : Nat → Prop} {w w' : World} {b : Nat} {m : ByteArray → Option Value} (h : SMap w b m) (k : Keep S w w') (hn : ¬ S b) : SMap w' b m := by
  obtain ⟨es, c, h1, h2⟩ := h
  exact ⟨es, c, k.heap h1 hn, h2⟩
theorem smap_new (w : World) : SMap (w.alloc (.map #[] 0)) w.heap.size fun _ => none :=
  ⟨#[], 0, by show (w.heap.push _)[w.heap.size]? = _; simp, fun e he => by simp at he, fun s => rfl⟩
section
variable {P : Program} {w : World} {b : Nat} {m : ByteArray → Option Value} {t k e : TypeId}
theorem run_getMap {es : Array MapEntry} {clock : Nat} (h : w.heap[b]? = some (.map es clock)) : (getObj b).run P w = .ok (.map es clock) w := by
  simp [getObj, Sem.run, h]
theorem checkKey_str (ek : Bool) (n : Nat) (hk : P.underlying k = some .string) (s : ByteArray) : (Instr.checkKey ek (n + 1) k (.string s)).run P w = .ok () w := by
  unfold Instr.checkKey
  simp [run_underlying hk]
theorem findKey_str {es : List MapEntry} (hk : P.underlying k = some .string) (hs : SKeys es) (s : ByteArray) : (Instr.findKey k (.string s) es).run P w = .ok (sidx es s 0) w := by
  unfold Instr.findKey
  simp [run_underlying hk, findNow_str 0 hs]
theorem look_rule (ht : P.underlying t = some (.map k e)) (hk : P.underlying k = some .string) {zv : Value} (hz : (zeroValue e).run P w = .ok zv w) (h : SMap w b m) (s : ByteArray) :
    (Instr.lookup t (.map (some b)) (.string s) true).run P w = .ok (.tuple #[(m s).getD zv, .bool (m s).isSome]) w ∧
    (Instr.lookup t (.map (some b)) (.string s) false).run P w = .ok ((m s).getD zv) w := by
  obtain ⟨es, c, hb, hs, hm⟩ := h
  have := hm s
  unfold sget at this
  unfold Instr.lookup
  constructor
  · cases hi : sidx es.toList s 0 with
    | none =>
      rw [hi] at this
      simp only [Option.map_none] at this
      rw [← this]
      simp [run_underlying ht, run_getMap hb, checkKey_str _ _ hk, findKey_str hk hs, hi, hz]
    | some p =>
      rw [hi] at this
      simp only [Option.map_some] at this
      rw [← this]
      simp [run_underlying ht, run_getMap hb, checkKey_str _ _ hk, findKey_str hk hs, hi]
  · cases hi : sidx es.toList s 0 with
    | none =>
      rw [hi] at this
      simp only [Option.map_none] at this
      rw [← this]
      simp [run_underlying ht, run_getMap hb, checkKey_str _ _ hk, findKey_str hk hs, hi, hz]
    | some p =>
      rw [hi] at this
      simp only [Option.map_some] at this
      rw [← this]
      simp [run_underlying ht, run_getMap hb, checkKey_str _ _ hk, findKey_str hk hs, hi]
theorem run_setMap {o : Obj} {es : Array MapEntry} {c : Nat} (h : w.heap[b]? = some (.map es c)) : (setObj b o).run P w = .ok () { w with heap := w.heap.setIfInBounds b o } := by
  simp [setObj, Sem.run, h]
/-- a value under a key -/
theorem upd_rule (ht : P.underlying t = some (.map k e)) (hk : P.underlying k = some .string) (h : SMap w b m) (s : ByteArray) (v : Value)
    {K : World → Prop} (hK : ∀ w1, SMap w1 b (upd m s v) → Keep (fun k => k = b) w w1 → w1.heap.size = w.heap.size → K w1) : RunU P (Instr.mapUpdate t (.map (some b)) (.string s) v) w K := by
  obtain ⟨es, c, hb, hs, hm⟩ := h
  have hlt := lt_of_heap hb
  have hget : ∀ (o : Obj), ({ w with heap := w.heap.setIfInBounds b o } : World).heap[b]? = some o := fun o => by
    simp [hlt]
  have hkeep : ∀ (o : Obj), Keep (fun k => k = b) w { w with heap := w.heap.setIfInBounds b o } := fun o =>
    ⟨rfl, rfl, rfl, by simp, fun k _ hn => by simp [Array.getElem?_setIfInBounds, Ne.symm hn]⟩
  cases hi : sidx es.toList s 0 with
  | none =>
    have hn : sget es.toList s = none := by unfold sget; rw [hi]; rfl
    refine ⟨_, ?_, hK { w with heap := w.heap.setIfInBounds b (.map (es.push { key := .string s, val := v, born := c }) (c + 1)) } ⟨_, _, hget _, ?_, fun t => ?_⟩ (hkeep _) (by simp)⟩
    · unfold Instr.mapUpdate
      simp [run_underlying ht, run_getMap hb, checkKey_str _ _ hk, findKey_str hk hs, hi, run_setMap hb]
    · intro e he
      rw [Array.toList_push, List.mem_append, List.mem_singleton] at he
      rcases he with he | rfl
      · exact hs e he
      · exact ⟨s, rfl⟩
    · rw [Array.toList_push, sget_push hs rfl hn]
      unfold upd
      rw [hm]
  | some p =>
    obtain ⟨i, v0⟩ := p
    have hold : ∃ e0, es[i]? = some e0 ∧ e0.key = .string s := sidx_at (j := 0) hs (by rw [hi, Nat.zero_add])
    obtain ⟨e0, he0, hk0⟩ := hold
    refine ⟨_, ?_, hK { w with heap := w.heap.setIfInBounds b (.map (es.modify i fun e => { e with key := .string s, val := v }) c) } ⟨_, _, hget _, ?_, fun t => ?_⟩ (hkeep _) (by simp)⟩
    · unfold Instr.mapUpdate
      simp [run_underlying ht, run_getMap hb, checkKey_str _ _ hk, findKey_str hk hs, hi, run_setMap hb, he0, hk0, Instr.keyThatStays, Instr.sameBits, (MapKept.bytes_beq s s).2 rfl]
    · rw [Array.toList_modify]; exact skeys_modify hs
    · rw [Array.toList_modify, sget_modify hs hi]
      unfold upd
      rw [hm]
end
end Go.Proofs.Ytaneeadpjelomaa.CF

/- Rules: bytes copied into a row of one's own. -/
namespace Go.Proofs.Ytaneeadpjelomaa.CF
open Go Go.RowKit

theorem copy_rule {P : Program} {w : World} {base : Nat} {t ty e : TypeId} {zv : Option Value} {bytes : Nat} (ht : P.underlying t = some (.slice e)) (hinfo : (P.info? e).map (fun i => (i.zero, i.size, i.bytes)) = some (zv, 1, bytes))
    {f x : Sl} {F xs : List Value} {o : Nat} (hf : Own w base e 1 f F) (hx : Rd w 1 x xs) (h1 : ∀ u ∈ xs, u.oneCell' = true) (ho : o + x.n ≤ f.n)
    {K : Int → World → Prop} (h : ∀ w', Own w' base e 1 f (F.take o ++ xs ++ F.drop (o + x.n)) → Keep (fun k => some k = f.blk) w w' → w'.heap.size = w.heap.size → K (x.n : Int) w') :
    RunK P (.i .i64) (Builtin.copy_ #[t, t] ty #[.slice (cutA f.A f.c o 1) (f.n - o) (f.c - o), .slice x.A x.n x.c]) w K := by
  have hs : (P.info? e).map (·.size) = some 1 := by
    obtain ⟨i, hi, hzz⟩ := Option.map_eq_some_iff.1 hinfo
    simp only [Prod.mk.injEq] at hzz
    rw [hi, Option.map_some, hzz.2.1]
  have hFl : F.length = f.n := by have := hf.len; omega
  have hxl : xs.length = x.n := by have := hx.len; omega
  rcases Nat.eq_zero_or_pos x.n with h0 | hpos
  · have hx0 : xs = [] := List.eq_nil_of_length_eq_zero (by omega)
    refine ⟨(x.n : Int), w, ?_, h w ?_ (Keep.refl _ _) rfl⟩
    · rw [run_copy_none (P := P) w t t ty e _ _ _ _ _ _ ht hs (by rw [h0]; exact Nat.zero_min _), h0]; rfl
    · rw [hx0, h0, List.append_nil, Nat.add_zero, List.take_append_drop]; exact hf
  · obtain ⟨hlen, hown⟩ := hf
    rcases hown with ⟨h2, hn0⟩ | ⟨g, cap, cur, hv, hbg, hg, hnc, hcm, hcs, htake⟩
    · omega
    · injection hv with hA hN hC
      have hne : xs ≠ [] := fun e => by rw [e] at hxl; simp at hxl; omega
      obtain ⟨a, ha, hc⟩ := hx.at_ hne
      have hcA : cutA f.A f.c o 1 = some ⟨g, o, none⟩ := by
        unfold cutA
        rw [if_neg (by omega), hA]
        simp [Addr.add]
        omega
      have hcs' : cur.size = cap := by simpa using hcs
      have hmin : xs.length = Nat.min x.n (f.n - o) := by
        have : Nat.min x.n (f.n - o) = x.n := Nat.min_eq_left (by omega)
        omega
      have hr := run_copy_row (P := P) w t t ty e g o (f.n - o) (f.c - o) a x.n x.c cur e xs ht hs hg hmin hc (by omega) h1
      rw [hcA, ha]
      refine ⟨(x.n : Int), _, by rw [hr, hxl]; rfl, h _ ⟨?_, .inr ⟨g, cap, _, by rw [hA, hC], hbg, setRow_heap w g cur _ e _ hg, hnc, hcm, ?_, ?_⟩⟩ ⟨rfl, rfl, rfl, by simp, fun k _ hk => setRow_other w g k _ (fun e => hk (by simp [Sl.blk, hA, e]))⟩ (by simp)⟩
      · simp only [List.length_append, List.length_take, List.length_drop]
        omega
      · simp only [List.size_toArray, List.length_append, List.length_take, List.length_drop, Array.length_toList]
        omega
      · have hF : cur.toList.take (f.n * 1) = F := htake
        rw [Nat.mul_one] at hF ⊢
        rw [← hF]
        apply List.ext_getElem?
        intro j
        simp only [List.getElem?_take, List.getElem?_append, List.length_append, List.length_take, Array.length_toList, List.getElem?_drop, hxl]
        have e1 : min o cur.size = o := by omega
        have e2 : min o (min f.n cur.size) = o := by omega
        simp only [e1, e2]
        by_cases q1 : j < o
        · have q2 : j < o + x.n := by omega
          have q3 : j < f.n := by omega
          simp only [if_pos q1, if_pos q2, if_pos q3]
        · by_cases q2 : j < o + x.n
          · have q3 : j < f.n := by omega
            simp only [if_neg q1, if_pos q2, if_pos q3]
          · by_cases q3 : j < f.n
            · have q4 : o + x.n + (j - (o + x.n)) < f.n := by omega
              simp only [if_neg q2, if_pos q3, if_pos q4]
            · have q4 : ¬ o + x.n + (j - (o + x.n)) < f.n := by omega
              simp only [if_neg q2, if_neg q3, if_neg q4]
end Go.Proofs.Ytaneeadpjelomaa.CF

-- printed by wip/cf/cfprint.py
namespace Go.Proofs.Ytaneeadpjelomaa
open Go CF
def cs : List Nat := [3, 4, 5, 6, 7, 8, 9, 10, 11, 12, 13, 14, 15, 16, 17, 18, 19, 20, 21, 22, 23, 24, 25, 26, 27, 28, 29, 30, 31, 32, 33, 34, 35, 36, 37, 38, 39, 40, 41, 42, 43, 44, 45, 46, 47, 48, 49, 50, 51, 52, 53, 54, 55, 56, 57, 58, 59, 60, 61, 62, 63, 64, 65, 66, 67, 68, 69, 70]
def okCalls (P : Program) : List Nat → Bool
  | [] => true
  | f :: r => (match P.funcs[f]? with | some fn => !(fn.name == "runtime.NumGoroutine") && !fn.body.isNone | none => false) && okCalls P r
theorem okCalls_ok {P : Program} : ∀ {l : List Nat}, okCalls P l = true → Callable P l
  | [], _, f, h => by cases h
  | g :: r, hok, f, h => by
    simp only [okCalls, Bool.and_eq_true] at hok
    simp only [memN, Bool.or_eq_true] at h
    rcases h with h | h
    · have e : g = f := Nat.eq_of_beq_eq_true h
      subst e
      have h1 := hok.1
      split at h1
      · rename_i fn hf
        simp only [Bool.and_eq_true, Bool.not_eq_true'] at h1
        exact ⟨fn, hf, h1.1, h1.2⟩
      · cases h1
    · exact okCalls_ok hok.2 f h
theorem callable : Callable Try.prog cs := okCalls_ok (by kernel_rfl)
theorem wide : Try.prog.follows .mixedOrders = true := by kernel_rfl
noncomputable def G : Gen := gen Try.prog cs
def s_f : ByteArray := ⟨#[102]⟩
def Cpalletlaw14_SbcCompares (p0 : Sl) (p1 : Sl) (p2 : Sl) (p3 : Int) (p4 : Int) (w : World) (R : Bool → World → Prop) : Prop := CallK Try.prog 3 #[.slice p0.A p0.n p0.c, .slice p1.A p1.n p1.c, .slice p2.A p2.n p2.c, .int .u8 p3, .int .u8 p4] w [.b] R
def Cpalletlaw14_SbcProtects (p0 : Sl) (p1 : Int) (p2 : Int) (p3 : Int) (p4 : Int) (w : World) (R : Bool → World → Prop) : Prop := CallK Try.prog 4 #[.slice p0.A p0.n p0.c, .int .u8 p1, .int .u8 p2, .int .u8 p3, .int .u8 p4] w [.b] R
def Cpalletlaw14_SbcSplits (p0 : Sl) (p1 : Int) (p2 : Int) (p3 : Bool) (w : World) (R : Bool → World → Prop) : Prop := CallK Try.prog 5 #[.slice p0.A p0.n p0.c, .int .u8 p1, .int .u8 p2, .bool p3] w [.b] R
def Cpalletlaw14_SbcUnmaps (p0 : Sl) (p1 : Int) (p2 : Int) (p3 : Bool) (w : World) (R : Bool → World → Prop) : Prop := CallK Try.prog 6 #[.slice p0.A p0.n p0.c, .int .u8 p1, .int .u8 p2, .bool p3] w [.b] R
def Cpalletlaw14_SbcRefuses (p0 : Array Value) (p1 : Sl) (p2 : Int) (w : World) (R : Bool → World → Prop) : Prop := CallK Try.prog 7 #[.agg p0, .slice p1.A p1.n p1.c, .int .u8 p2] w [.b] R
def Cpalletlaw14_SbcVerifies (p0 : Sl) (p1 : Int) (p2 : Int) (p3 : Int) (w : World) (R : Bool → World → Prop) : Prop := CallK Try.prog 8 #[.slice p0.A p0.n p0.c, .int .u16 p1, .int .u8 p2, .int .u8 p3] w [.b] R
def Cpalletlaw14_SbcPrefix (p0 : Sl) (p1 : Int) (p2 : Int) (p3 : Bool) (w : World) (R : Bool → World → Prop) : Prop := CallK Try.prog 9 #[.slice p0.A p0.n p0.c, .int .u8 p1, .int .u8 p2, .bool p3] w [.b] R
def Cpalletlaw14_awake (w : World) (R : Bool → World → Prop) : Prop := CallK Try.prog 10 #[] w [.b] R
def Cpalletlaw14_device (p0 : Int) (p1 : Int) (p2 : Bool) (w : World) (R : (Option Addr) → (Option Addr) → World → Prop) : Prop := CallK Try.prog 11 #[.int .i64 p0, .int .u8 p1, .bool p2] w [.p, .p] R
def Csbc_Dev_Do (p0 : Option Addr) (p1 : Array Value) (p2 : Sl) (w : World) (R : (Array Value) → World → Prop) : Prop := CallK Try.prog 12 #[.pointer p0, .agg p1, .slice p2.A p2.n p2.c] w [.ag] R
def Cpalletref14_Same (p0 : Array Value) (p1 : Array Value) (w : World) (R : Bool → World → Prop) : Prop := CallK Try.prog 13 #[.agg p0, .agg p1] w [.b] R
def Cpalletref14_At (p0 : Int) (p1 : Int) (p2 : Int) (w : World) (R : (Array Value) → World → Prop) : Prop := CallK Try.prog 14 #[.int .u8 p0, .int .u16 p1, .int .u64 p2] w [.ag] R
def Cpalletref13_Unpack (p0 : Sl) (p1 : Bool) (w : World) (R : Sl → Bool → World → Prop) : Prop := CallK Try.prog 15 #[.slice p0.A p0.n p0.c, .bool p1] w [.sl, .b] R
def Cpalletlaw14_bytes (p0 : Int) (p1 : Int) (w : World) (R : Sl → World → Prop) : Prop := CallK Try.prog 16 #[.int .i64 p0, .int .u8 p1] w [.sl] R
def Cworld_World_Waits (p0 : Option Addr) (w : World) (R : Int → World → Prop) : Prop := CallK Try.prog 17 #[.pointer p0] w [.i .i64] R
def Cpalletref14_Ends (p0 : Int) (p1 : Int) (w : World) (R : (Array Value) → World → Prop) : Prop := CallK Try.prog 18 #[.int .u8 p0, .int .u16 p1] w [.ag] R
def Cworld_World_Plan (p0 : Option Addr) (p1 : Sl) (p2 : Int) (w : World) (R : World → Prop) : Prop := CallK Try.prog 19 #[.pointer p0, .slice p1.A p1.n p1.c, .int .i64 p2] w [] R
def Cworld_New (w : World) (R : (Option Addr) → World → Prop) : Prop := CallK Try.prog 20 #[] w [.p] R
def Cstore_Open (p0 : Option Addr) (p1 : ByteArray) (p2 : Int) (p3 : Bool) (w : World) (R : (Option Addr) → Int → World → Prop) : Prop := CallK Try.prog 21 #[.pointer p0, .string p1, .int .i64 p2, .bool p3] w [.p, .i .i64] R
def Csbc_fails (p0 : Array Value) (w : World) (R : (Array Value) → World → Prop) : Prop := CallK Try.prog 22 #[.agg p0] w [.ag] R
def Cpi_Known (p0 : Int) (p1 : Int) (w : World) (R : Bool → World → Prop) : Prop := CallK Try.prog 23 #[.int .u8 p0, .int .u8 p1] w [.b] R
def Cbe_Within (p0 : Int) (p1 : Int) (p2 : Int) (w : World) (R : Bool → World → Prop) : Prop := CallK Try.prog 24 #[.int .u64 p0, .int .u64 p1, .int .u64 p2] w [.b] R
def Csbc_Dev_blocks (p0 : Option Addr) (w : World) (R : Int → World → Prop) : Prop := CallK Try.prog 25 #[.pointer p0] w [.i .u64] R
def Csbc_at (p0 : Int) (p1 : Int) (p2 : Int) (w : World) (R : (Array Value) → World → Prop) : Prop := CallK Try.prog 26 #[.int .u8 p0, .int .u16 p1, .int .u64 p2] w [.ag] R
def Csbc_Dev_read (p0 : Option Addr) (p1 : Array Value) (w : World) (R : Sl → (Array Value) → Bool → World → Prop) : Prop := CallK Try.prog 27 #[.pointer p0, .agg p1] w [.sl, .ag, .b] R
def Csbc_good (p0 : Sl) (w : World) (R : (Array Value) → World → Prop) : Prop := CallK Try.prog 28 #[.slice p0.A p0.n p0.c] w [.ag] R
def Cpi_Pack (p0 : Sl) (p1 : Bool) (w : World) (R : Sl → World → Prop) : Prop := CallK Try.prog 29 #[.slice p0.A p0.n p0.c, .bool p1] w [.sl] R
def Csbc_Dev_come (p0 : Option Addr) (p1 : Array Value) (p2 : Sl) (p3 : Int) (w : World) (R : Sl → (Array Value) → Bool → World → Prop) : Prop := CallK Try.prog 30 #[.pointer p0, .agg p1, .slice p2.A p2.n p2.c, .int .u64 p3] w [.sl, .ag, .b] R
def Csbc_Dev_write (p0 : Option Addr) (p1 : Int) (p2 : Sl) (p3 : Bool) (w : World) (R : (Array Value) → World → Prop) : Prop := CallK Try.prog 31 #[.pointer p0, .int .u64 p1, .slice p2.A p2.n p2.c, .bool p3] w [.ag] R
def Csbc_Dev_verify (p0 : Option Addr) (p1 : Array Value) (p2 : Sl) (w : World) (R : (Array Value) → World → Prop) : Prop := CallK Try.prog 32 #[.pointer p0, .agg p1, .slice p2.A p2.n p2.c] w [.ag] R
def Cstore_Store_Sync (p0 : Option Addr) (w : World) (R : Int → World → Prop) : Prop := CallK Try.prog 33 #[.pointer p0] w [.i .i64] R
def Csbc_Dev_same (p0 : Option Addr) (p1 : Array Value) (p2 : Sl) (w : World) (R : (Array Value) → World → Prop) : Prop := CallK Try.prog 34 #[.pointer p0, .agg p1, .slice p2.A p2.n p2.c] w [.ag] R
def Csbc_Dev_unmap (p0 : Option Addr) (p1 : Sl) (w : World) (R : (Array Value) → World → Prop) : Prop := CallK Try.prog 35 #[.pointer p0, .slice p1.A p1.n p1.c] w [.ag] R
def Csbc_Dev_compare (p0 : Option Addr) (p1 : Array Value) (p2 : Sl) (w : World) (R : (Array Value) → World → Prop) : Prop := CallK Try.prog 36 #[.pointer p0, .agg p1, .slice p2.A p2.n p2.c] w [.ag] R
def Csbc_Dev_capacity (p0 : Option Addr) (p1 : Array Value) (w : World) (R : (Array Value) → World → Prop) : Prop := CallK Try.prog 37 #[.pointer p0, .agg p1] w [.ag] R
def Cpalletref01_Num (p0 : Sl) (p1 : Int) (p2 : Int) (w : World) (R : Int → World → Prop) : Prop := CallK Try.prog 38 #[.slice p0.A p0.n p0.c, .int .i64 p1, .int .i64 p2] w [.i .u64] R
def Cstore_Store_Blocks (p0 : Option Addr) (w : World) (R : Int → World → Prop) : Prop := CallK Try.prog 39 #[.pointer p0] w [.i .i64] R
def Cstore_Store_Read (p0 : Option Addr) (p1 : Int) (p2 : Int) (w : World) (R : Sl → Int → Int → World → Prop) : Prop := CallK Try.prog 40 #[.pointer p0, .int .i64 p1, .int .i64 p2] w [.sl, .i .i64, .i .i64] R
def Cpi_Check (p0 : Int) (p1 : Int) (p2 : Int) (p3 : Array Value) (w : World) (R : Int → World → Prop) : Prop := CallK Try.prog 41 #[.int .u8 p0, .int .u8 p1, .int .u64 p2, .agg p3] w [.i .u16] R
def Cpi_Unpack (p0 : Sl) (p1 : Bool) (w : World) (R : Sl → Bool → World → Prop) : Prop := CallK Try.prog 42 #[.slice p0.A p0.n p0.c, .bool p1] w [.sl, .b] R
def Csbc_length (w : World) (R : (Array Value) → World → Prop) : Prop := CallK Try.prog 43 #[] w [.ag] R
def Cpi_Make (p0 : Int) (p1 : Int) (p2 : Array Value) (p3 : Int) (w : World) (R : (Array Value) → World → Prop) : Prop := CallK Try.prog 44 #[.int .u8 p0, .int .u64 p1, .agg p2, .int .u16 p3] w [.ag] R
def Cstore_Store_Write (p0 : Option Addr) (p1 : Int) (p2 : Sl) (p3 : Bool) (w : World) (R : Int → Int → World → Prop) : Prop := CallK Try.prog 45 #[.pointer p0, .int .i64 p1, .slice p2.A p2.n p2.c, .bool p3] w [.i .i64, .i .i64] R
def Csbc_differ (p0 : Sl) (p1 : Sl) (w : World) (R : Int → World → Prop) : Prop := CallK Try.prog 46 #[.slice p0.A p0.n p0.c, .slice p1.A p1.n p1.c] w [.i .i64] R
def Cworld_World_Sync (p0 : Option Addr) (w : World) (R : Int → World → Prop) : Prop := CallK Try.prog 47 #[.pointer p0] w [.i .i64] R
def Cstore_Store_Unmap (p0 : Option Addr) (p1 : Int) (p2 : Int) (w : World) (R : Int → Int → World → Prop) : Prop := CallK Try.prog 48 #[.pointer p0, .int .i64 p1, .int .i64 p2] w [.i .i64, .i .i64] R
def Cbe_Get (p0 : Sl) (p1 : Int) (p2 : Int) (w : World) (R : Int → Int → World → Prop) : Prop := CallK Try.prog 49 #[.slice p0.A p0.n p0.c, .int .i64 p1, .int .i64 p2] w [.i .u64, .i .i64] R
def Cpi_Size (p0 : Bool) (w : World) (R : Int → World → Prop) : Prop := CallK Try.prog 50 #[.bool p0] w [.i .i64] R
def Cbe_Put (p0 : Sl) (p1 : Int) (p2 : Int) (p3 : Int) (w : World) (R : Sl → Int → World → Prop) : Prop := CallK Try.prog 51 #[.slice p0.A p0.n p0.c, .int .i64 p1, .int .i64 p2, .int .u64 p3] w [.sl, .i .i64] R
def Cpalletref01_Get (p0 : Sl) (p1 : Int) (p2 : Int) (w : World) (R : Int → Int → World → Prop) : Prop := CallK Try.prog 52 #[.slice p0.A p0.n p0.c, .int .i64 p1, .int .i64 p2] w [.i .u64, .i .i64] R
def Cstore_Store_check (p0 : Option Addr) (p1 : Int) (p2 : Int) (w : World) (R : Int → World → Prop) : Prop := CallK Try.prog 53 #[.pointer p0, .int .i64 p1, .int .i64 p2] w [.i .i64] R
def Cworld_World_Read (p0 : Option Addr) (p1 : ByteArray) (p2 : Int) (p3 : Int) (w : World) (R : Sl → Int → World → Prop) : Prop := CallK Try.prog 54 #[.pointer p0, .string p1, .int .i64 p2, .int .i64 p3] w [.sl, .i .i64] R
def Cstore_block (p0 : Sl) (w : World) (R : (Array Value) → World → Prop) : Prop := CallK Try.prog 55 #[.slice p0.A p0.n p0.c] w [.ag] R
def Cpi_escapes (p0 : Int) (p1 : Array Value) (w : World) (R : Bool → World → Prop) : Prop := CallK Try.prog 56 #[.int .u8 p0, .agg p1] w [.b] R
def Ccrc_C16 (p0 : Sl) (w : World) (R : Int → World → Prop) : Prop := CallK Try.prog 57 #[.slice p0.A p0.n p0.c] w [.i .u16] R
def Cstore_Store_lay (p0 : Option Addr) (p1 : Int) (p2 : Int) (p3 : Value) (p4 : Bool) (w : World) (R : Int → Int → World → Prop) : Prop := CallK Try.prog 58 #[.pointer p0, .int .i64 p1, .int .i64 p2, p3, .bool p4] w [.i .i64, .i .i64] R
def Cstore_Store_Write_1 (p0 : Int) (p1 : Addr) (w : World) (R : Sl → World → Prop) : Prop := CallK Try.prog 59 #[.int .i64 p0, .pointer (some p1)] w [.sl] R
def Cstore_record (p0 : Array Value) (w : World) (R : Sl → World → Prop) : Prop := CallK Try.prog 60 #[.agg p0] w [.sl] R
def Cworld_World_call (p0 : Option Addr) (w : World) (R : Int → World → Prop) : Prop := CallK Try.prog 61 #[.pointer p0] w [.i .i64] R
def Cworld_apply (p0 : Option Nat) (p1 : Array Value) (p2 : Int) (w : World) (R : World → Prop) : Prop := CallK Try.prog 62 #[.map p0, .agg p1, .int .i64 p2] w [] R
def Cstore_Store_Unmap_1 (p0 : Int) (w : World) (R : Sl → World → Prop) : Prop := CallK Try.prog 63 #[.int .i64 p0] w [.sl] R
def Cbe_field (p0 : Sl) (p1 : Int) (p2 : Int) (w : World) (R : Int → World → Prop) : Prop := CallK Try.prog 64 #[.slice p0.A p0.n p0.c, .int .i64 p1, .int .i64 p2] w [.i .i64] R
def Cpalletref01_field (p0 : Int) (p1 : Int) (p2 : Int) (w : World) (R : Int → World → Prop) : Prop := CallK Try.prog 65 #[.int .i64 p0, .int .i64 p1, .int .i64 p2] w [.i .i64] R
def Cworld_name (p0 : ByteArray) (w : World) (R : Bool → World → Prop) : Prop := CallK Try.prog 66 #[.string p0] w [.b] R
def Cstore_empty (w : World) (R : (Array Value) → World → Prop) : Prop := CallK Try.prog 67 #[] w [.ag] R
def Ccrc_Add16 (p0 : Int) (p1 : Sl) (w : World) (R : Int → World → Prop) : Prop := CallK Try.prog 68 #[.int .u16 p0, .slice p1.A p1.n p1.c] w [.i .u16] R
def Cworld_World_Write (p0 : Option Addr) (p1 : ByteArray) (p2 : Int) (p3 : Sl) (w : World) (R : Int → World → Prop) : Prop := CallK Try.prog 69 #[.pointer p0, .string p1, .int .i64 p2, .slice p3.A p3.n p3.c] w [.i .i64] R
def Cworld_World_do (p0 : Option Addr) (p1 : Array Value) (w : World) (R : Int → World → Prop) : Prop := CallK Try.prog 70 #[.pointer p0, .agg p1] w [.i .i64] R
abbrev t_int : TypeId := 3
theorem u_int : Try.prog.underlying 3 = some (.int .i64) := by kernel_rfl
theorem i_int : (Try.prog.info? 3).map (fun i => (i.zero, i.size, i.bytes)) = some (some (.int .i64 0), 1, 8) := by kernel_rfl
abbrev t_bool : TypeId := 4
theorem u_bool : Try.prog.underlying 4 = some .bool := by kernel_rfl
theorem i_bool : (Try.prog.info? 4).map (fun i => (i.zero, i.size, i.bytes)) = some (some (.bool false), 1, 1) := by kernel_rfl
abbrev t_uint8 : TypeId := 5
theorem u_uint8 : Try.prog.underlying 5 = some (.int .u8) := by kernel_rfl
theorem i_uint8 : (Try.prog.info? 5).map (fun i => (i.zero, i.size, i.bytes)) = some (some (.int .u8 0), 1, 1) := by kernel_rfl
abbrev t_string : TypeId := 9
theorem u_string : Try.prog.underlying 9 = some .string := by kernel_rfl
theorem i_string : (Try.prog.info? 9).map (fun i => (i.zero, i.size, i.bytes)) = some (some (.string ⟨#[]⟩), 1, 16) := by kernel_rfl
abbrev t_sl_uint8 : TypeId := 22
theorem u_sl_uint8 : Try.prog.underlying 22 = some (.slice 5) := by kernel_rfl
theorem i_sl_uint8 : (Try.prog.info? 22).map (fun i => (i.zero, i.size, i.bytes)) = some (some (.slice none 0 0), 1, 24) := by kernel_rfl
abbrev t_p_sbc_Dev : TypeId := 24
theorem i_p_sbc_Dev : (Try.prog.info? 24).map (fun i => (i.zero, i.size, i.bytes)) = some (some (.pointer none), 1, 8) := by kernel_rfl
abbrev t_p_world_World : TypeId := 25
theorem i_p_world_World : (Try.prog.info? 25).map (fun i => (i.zero, i.size, i.bytes)) = some (some (.pointer none), 1, 8) := by kernel_rfl
abbrev t_api_Status : TypeId := 28
theorem u_api_Status : Try.prog.underlying 28 = some (.int .u8) := by kernel_rfl
theorem i_api_Status : (Try.prog.info? 28).map (fun i => (i.zero, i.size, i.bytes)) = some (some (.int .u8 0), 1, 1) := by kernel_rfl
abbrev t_uint16 : TypeId := 29
theorem u_uint16 : Try.prog.underlying 29 = some (.int .u16) := by kernel_rfl
theorem i_uint16 : (Try.prog.info? 29).map (fun i => (i.zero, i.size, i.bytes)) = some (some (.int .u16 0), 1, 2) := by kernel_rfl
abbrev t_uint64 : TypeId := 30
theorem u_uint64 : Try.prog.underlying 30 = some (.int .u64) := by kernel_rfl
theorem i_uint64 : (Try.prog.info? 30).map (fun i => (i.zero, i.size, i.bytes)) = some (some (.int .u64 0), 1, 8) := by kernel_rfl
abbrev t_api_Sense : TypeId := 32
theorem i_api_Sense : (Try.prog.info? 32).map (fun i => (i.zero, i.size, i.bytes)) = some (some (.agg #[.int .u8 0, .int .u16 0, .int .u64 0, .bool false, .int .i64 0, .int .i64 0, .bool false, .bool false]), 8, 48) := by kernel_rfl
theorem g_api_Sense : (Try.prog.underlying 32).map kdOf = some .ag := by kernel_rfl
abbrev t_api_Result : TypeId := 34
theorem i_api_Result : (Try.prog.info? 34).map (fun i => (i.zero, i.size, i.bytes)) = some (some (.agg #[.int .u8 0, .int .u8 0, .int .u16 0, .int .u64 0, .bool false, .int .i64 0, .int .i64 0, .bool false, .bool false, .slice none 0 0]), 10, 80) := by kernel_rfl
theorem g_api_Result : (Try.prog.underlying 34).map kdOf = some .ag := by kernel_rfl
abbrev t_api_Kind : TypeId := 36
theorem u_api_Kind : Try.prog.underlying 36 = some (.int .u8) := by kernel_rfl
theorem i_api_Kind : (Try.prog.info? 36).map (fun i => (i.zero, i.size, i.bytes)) = some (some (.int .u8 0), 1, 1) := by kernel_rfl
abbrev t_api_Cmd : TypeId := 38
theorem i_api_Cmd : (Try.prog.info? 38).map (fun i => (i.zero, i.size, i.bytes)) = some (some (.agg #[.int .u8 0, .bool false, .int .u64 0, .int .u64 0, .int .i64 0, .bool false, .int .u8 0, .bool false, .bool false, .int .u8 0, .int .u8 0, .bool false, .int .u8 0, .int .u8 0, .bool false]), 15, 48) := by kernel_rfl
theorem g_api_Cmd : (Try.prog.underlying 38).map kdOf = some .ag := by kernel_rfl
abbrev t_sl_api_Block : TypeId := 42
theorem u_sl_api_Block : Try.prog.underlying 42 = some (.slice 78) := by kernel_rfl
theorem i_sl_api_Block : (Try.prog.info? 42).map (fun i => (i.zero, i.size, i.bytes)) = some (some (.slice none 0 0), 1, 24) := by kernel_rfl
abbrev t_sl_int : TypeId := 53
theorem u_sl_int : Try.prog.underlying 53 = some (.slice 3) := by kernel_rfl
theorem i_sl_int : (Try.prog.info? 53).map (fun i => (i.zero, i.size, i.bytes)) = some (some (.slice none 0 0), 1, 24) := by kernel_rfl
abbrev t_p_store_Store : TypeId := 55
theorem i_p_store_Store : (Try.prog.info? 55).map (fun i => (i.zero, i.size, i.bytes)) = some (some (.pointer none), 1, 8) := by kernel_rfl
abbrev t_api_Errno : TypeId := 56
theorem u_api_Errno : Try.prog.underlying 56 = some (.int .i64) := by kernel_rfl
theorem i_api_Errno : (Try.prog.info? 56).map (fun i => (i.zero, i.size, i.bytes)) = some (some (.int .i64 0), 1, 8) := by kernel_rfl
abbrev t_sbc_Dev : TypeId := 60
theorem i_sbc_Dev : (Try.prog.info? 60).map (fun i => (i.zero, i.size, i.bytes)) = some (some (.agg #[.pointer none, .int .u8 0]), 2, 16) := by kernel_rfl
theorem g_sbc_Dev : (Try.prog.underlying 60).map kdOf = some .ag := by kernel_rfl
abbrev t_16_uint8 : TypeId := 73
theorem i_16_uint8 : (Try.prog.info? 73).map (fun i => (i.zero, i.size, i.bytes)) = some (some (.agg #[.int .u8 0, .int .u8 0, .int .u8 0, .int .u8 0, .int .u8 0, .int .u8 0, .int .u8 0, .int .u8 0, .int .u8 0, .int .u8 0, .int .u8 0, .int .u8 0, .int .u8 0, .int .u8 0, .int .u8 0, .int .u8 0]), 16, 16) := by kernel_rfl
theorem g_16_uint8 : (Try.prog.underlying 73).map kdOf = some .ag := by kernel_rfl
abbrev t_uint32 : TypeId := 74
theorem u_uint32 : Try.prog.underlying 74 = some (.int .u32) := by kernel_rfl
theorem i_uint32 : (Try.prog.info? 74).map (fun i => (i.zero, i.size, i.bytes)) = some (some (.int .u32 0), 1, 4) := by kernel_rfl
abbrev t_api_Tuple : TypeId := 76
theorem i_api_Tuple : (Try.prog.info? 76).map (fun i => (i.zero, i.size, i.bytes)) = some (some (.agg #[.int .u16 0, .int .u16 0, .int .u32 0]), 3, 8) := by kernel_rfl
theorem g_api_Tuple : (Try.prog.underlying 76).map kdOf = some .ag := by kernel_rfl
abbrev t_api_Block : TypeId := 78
theorem i_api_Block : (Try.prog.info? 78).map (fun i => (i.zero, i.size, i.bytes)) = some (some (.agg #[.int .u8 0, .int .u8 0, .int .u8 0, .int .u8 0, .int .u8 0, .int .u8 0, .int .u8 0, .int .u8 0, .int .u8 0, .int .u8 0, .int .u8 0, .int .u8 0, .int .u8 0, .int .u8 0, .int .u8 0, .int .u8 0, .int .u16 0, .int .u16 0, .int .u32 0]), 19, 24) := by kernel_rfl
theorem g_api_Block : (Try.prog.underlying 78).map kdOf = some .ag := by kernel_rfl
abbrev t_map_string_sl_uint8 : TypeId := 80
theorem u_map_string_sl_uint8 : Try.prog.underlying 80 = some (.map 9 22) := by kernel_rfl
theorem i_map_string_sl_uint8 : (Try.prog.info? 80).map (fun i => (i.zero, i.size, i.bytes)) = some (some (.map none), 1, 8) := by kernel_rfl
abbrev t_sl_world_change : TypeId := 81
theorem u_sl_world_change : Try.prog.underlying 81 = some (.slice 113) := by kernel_rfl
theorem i_sl_world_change : (Try.prog.info? 81).map (fun i => (i.zero, i.size, i.bytes)) = some (some (.slice none 0 0), 1, 24) := by kernel_rfl
abbrev t_map_int_bool : TypeId := 82
theorem u_map_int_bool : Try.prog.underlying 82 = some (.map 3 4) := by kernel_rfl
theorem i_map_int_bool : (Try.prog.info? 82).map (fun i => (i.zero, i.size, i.bytes)) = some (some (.map none), 1, 8) := by kernel_rfl
abbrev t_world_World : TypeId := 84
theorem i_world_World : (Try.prog.info? 84).map (fun i => (i.zero, i.size, i.bytes)) = some (some (.agg #[.map none, .map none, .slice none 0 0, .int .i64 0, .map none, .int .i64 0, .bool false]), 7, 72) := by kernel_rfl
theorem g_world_World : (Try.prog.underlying 84).map kdOf = some .ag := by kernel_rfl
abbrev t_store_Store : TypeId := 86
theorem i_store_Store : (Try.prog.info? 86).map (fun i => (i.zero, i.size, i.bytes)) = some (some (.agg #[.pointer none, .string ⟨#[]⟩, .int .i64 0, .bool false]), 4, 40) := by kernel_rfl
theorem g_store_Store : (Try.prog.underlying 86).map kdOf = some .ag := by kernel_rfl
abbrev t_world_change : TypeId := 113
theorem i_world_change : (Try.prog.info? 113).map (fun i => (i.zero, i.size, i.bytes)) = some (some (.agg #[.int .u8 0, .string ⟨#[]⟩, .string ⟨#[]⟩, .int .i64 0, .slice none 0 0]), 5, 72) := by kernel_rfl
theorem g_world_change : (Try.prog.underlying 113).map kdOf = some .ag := by kernel_rfl
end Go.Proofs.Ytaneeadpjelomaa

-- printed by wip/cf/cfprint.py
namespace Go.Proofs.Ytaneeadpjelomaa
open Go CF
set_option linter.unusedVariables false
set_option maxRecDepth 100000
/-- pallet/palletlaw14.SbcCompares -/
def Fpalletlaw14_SbcCompares (there : Sl) (told : Sl) (fresh : Sl) (at_ : Int) (count : Int) (w : World) (R : Bool → World → Prop) : Prop :=
  Cpalletlaw14_awake  w fun b w0 => Br (!b) (R false w0) (((4 : Int) ≠ 0) ∧ ((IntKind.wrap .i64 (17 - (IntKind.wrap .i64 (1 + ((IntKind.wrap .i64 count).tmod 4))))) ≠ 0) ∧ Br (((decide ((there.n : Int) < (IntKind.wrap .i64 (16 * (IntKind.wrap .i64 (1 + ((IntKind.wrap .i64 count).tmod 4))))))) || (decide ((told.n : Int) < (IntKind.wrap .i64 (16 * (IntKind.wrap .i64 (1 + ((IntKind.wrap .i64 count).tmod 4)))))))) || (decide ((fresh.n : Int) < (IntKind.wrap .i64 (16 * (IntKind.wrap .i64 (1 + ((IntKind.wrap .i64 count).tmod 4)))))))) (R true w0) (Cpalletlaw14_device 16 1 true w0 fun p p1 w01 => Br ((p).isNone) (R false w01) ((0 ≤ (0 : Int) ∧ (0 : Int) ≤ (IntKind.wrap .i64 (16 * (IntKind.wrap .i64 (1 + ((IntKind.wrap .i64 count).tmod 4))))) ∧ (IntKind.wrap .i64 (16 * (IntKind.wrap .i64 (1 + ((IntKind.wrap .i64 count).tmod 4))))) ≤ (there.c : Int) ∧ there.n ≤ there.c) ∧ Csbc_Dev_Do p #[.int .u8 8, .bool false, .int .u64 (IntKind.wrap .u64 ((IntKind.wrap .i64 at_).tmod (IntKind.wrap .i64 (17 - (IntKind.wrap .i64 (1 + ((IntKind.wrap .i64 count).tmod 4))))))), .int .u64 (IntKind.wrap .u64 (IntKind.wrap .i64 (1 + ((IntKind.wrap .i64 count).tmod 4)))), .int .i64 0, .bool false, .int .u8 0, .bool false, .bool false, .int .u8 0, .int .u8 0, .bool false, .int .u8 0, .int .u8 0, .bool false] ⟨(cutA there.A there.c 0 1), ((IntKind.wrap .i64 (16 * (IntKind.wrap .i64 (1 + ((IntKind.wrap .i64 count).tmod 4))))).toNat - 0), (there.c - 0)⟩ w01 fun g w02 => New (.cells #[.int .u8 0, .int .u8 0, .int .u16 0, .int .u64 0, .bool false, .int .i64 0, .int .i64 0, .bool false, .bool false, .slice none 0 0] 34) w02 fun a w03 => RunU Try.prog (storeVar 34 a (.agg g)) w03 fun w04 => (0 ≤ (0 : Int) ∧ (0 : Int) ≤ (IntKind.wrap .i64 (16 * (IntKind.wrap .i64 (1 + ((IntKind.wrap .i64 count).tmod 4))))) ∧ (IntKind.wrap .i64 (16 * (IntKind.wrap .i64 (1 + ((IntKind.wrap .i64 count).tmod 4))))) ≤ (told.c : Int) ∧ told.n ≤ told.c) ∧ RunK Try.prog .sl (Builtin.append_ #[22, 22] 22 #[.slice none 0 0, .slice (cutA told.A told.c 0 1) ((IntKind.wrap .i64 (16 * (IntKind.wrap .i64 (1 + ((IntKind.wrap .i64 count).tmod 4))))).toNat - 0) (told.c - 0)]) w04 fun xs w05 => (0 ≤ (0 : Int) ∧ (0 : Int) ≤ (IntKind.wrap .i64 (16 * (IntKind.wrap .i64 (1 + ((IntKind.wrap .i64 count).tmod 4))))) ∧ (IntKind.wrap .i64 (16 * (IntKind.wrap .i64 (1 + ((IntKind.wrap .i64 count).tmod 4))))) ≤ (fresh.c : Int) ∧ fresh.n ≤ fresh.c) ∧ RunK Try.prog .sl (Builtin.append_ #[22, 22] 22 #[.slice xs.A xs.n xs.c, .slice (cutA fresh.A fresh.c 0 1) ((IntKind.wrap .i64 (16 * (IntKind.wrap .i64 (1 + ((IntKind.wrap .i64 count).tmod 4))))).toNat - 0) (fresh.c - 0)]) w05 fun xs1 w06 => Csbc_Dev_Do p #[.int .u8 14, .bool false, .int .u64 (IntKind.wrap .u64 ((IntKind.wrap .i64 at_).tmod (IntKind.wrap .i64 (17 - (IntKind.wrap .i64 (1 + ((IntKind.wrap .i64 count).tmod 4))))))), .int .u64 (IntKind.wrap .u64 (IntKind.wrap .i64 (1 + ((IntKind.wrap .i64 count).tmod 4)))), .int .i64 0, .bool false, .int .u8 0, .bool false, .bool false, .int .u8 0, .int .u8 0, .bool false, .int .u8 0, .int .u8 0, .bool false] xs1 w06 fun g1 w07 => New (.cells #[.int .u8 0, .int .u8 0, .int .u16 0, .int .u64 0, .bool false, .int .i64 0, .int .i64 0, .bool false, .bool false, .slice none 0 0] 34) w07 fun b1 w08 => RunU Try.prog (storeVar 34 b1 (.agg g1)) w08 fun w09 => Csbc_Dev_Do p #[.int .u8 7, .bool false, .int .u64 (IntKind.wrap .u64 ((IntKind.wrap .i64 at_).tmod (IntKind.wrap .i64 (17 - (IntKind.wrap .i64 (1 + ((IntKind.wrap .i64 count).tmod 4))))))), .int .u64 (IntKind.wrap .u64 (IntKind.wrap .i64 (1 + ((IntKind.wrap .i64 count).tmod 4)))), .int .i64 0, .bool false, .int .u8 0, .bool false, .bool false, .int .u8 0, .int .u8 0, .bool false, .int .u8 0, .int .u8 0, .bool false] ⟨none, 0, 0⟩ w09 fun g2 w010 => New (.cells #[.int .u8 0, .int .u8 0, .int .u16 0, .int .u64 0, .bool false, .int .i64 0, .int .i64 0, .bool false, .bool false, .slice none 0 0] 34) w010 fun c w011 => RunU Try.prog (storeVar 34 c (.agg g2)) w011 fun w012 => ∃ (I : Int → Int → World → Prop) (μ : Int → Int → World → Nat), I (-1) (IntKind.wrap .i64 ((IntKind.wrap .i64 (16 * (IntKind.wrap .i64 (1 + ((IntKind.wrap .i64 count).tmod 4))))) - 1)) w012 ∧ ∀ (first : Int) (i : Int) (w013 : World), I first i w013 → Br (decide (i ≥ 0)) (letX (fun (first1 : Int) (w014 : World) => I first1 (IntKind.wrap .i64 (i - 1)) w014 ∧ μ first1 (IntKind.wrap .i64 (i - 1)) w014 < μ first i w013) fun J_ => ∀ w015, w015 = w013.drew → ∃ S : World → Prop, S w015 ∧ (0 ≤ i ∧ i < (there.n : Int) ∧ there.A.isSome = true) ∧ ∃ n : Int, (∀ u, S u → u.cell? ((gA there.A).add (i.toNat * 1)) = some (.int .u8 n)) ∧ (0 ≤ i ∧ i < (told.n : Int) ∧ told.A.isSome = true) ∧ ∃ n1 : Int, (∀ u1, S u1 → u1.cell? ((gA told.A).add (i.toNat * 1)) = some (.int .u8 n1)) ∧ Br (n != n1) (J_ i w015) (J_ first w015)) (∃ n2 : Int, w013.cell? (a.add 0) = some (.int .u8 n2) ∧ ∃ n3 : Int, ((!(n2 != 0)) = true → w013.cell? (c.add 0) = some (.int .u8 n3)) ∧ Br ((n2 != 0) || (n3 != 0)) (R false w013) (Br (decide (first < 0)) (∀ w017, w017 = w013.drew → ∃ S1 : World → Prop, S1 w017 ∧ ∃ n4 : Int, (∀ u2, S1 u2 → u2.cell? (b1.add 0) = some (.int .u8 n4)) ∧ ∃ xs2 : Sl, ((n4 == 0) = true → (∀ u3, S1 u3 → u3.cell? (c.add 9) = some (.slice xs2.A xs2.n xs2.c))) ∧ ∃ s : ByteArray, ((n4 == 0) = true → (∀ u4, S1 u4 → (convert 22 9 (.slice xs2.A xs2.n xs2.c)).run Try.prog u4 = .ok (.string s) u4)) ∧ ((n4 == 0) = true → (0 ≤ (0 : Int) ∧ (0 : Int) ≤ (IntKind.wrap .i64 (16 * (IntKind.wrap .i64 (1 + ((IntKind.wrap .i64 count).tmod 4))))) ∧ (IntKind.wrap .i64 (16 * (IntKind.wrap .i64 (1 + ((IntKind.wrap .i64 count).tmod 4))))) ≤ (fresh.c : Int) ∧ fresh.n ≤ fresh.c)) ∧ ∃ s1 : ByteArray, ((n4 == 0) = true → (∀ u5, S1 u5 → (convert 22 9 (.slice (cutA fresh.A fresh.c 0 1) ((IntKind.wrap .i64 (16 * (IntKind.wrap .i64 (1 + ((IntKind.wrap .i64 count).tmod 4))))).toNat - 0) (fresh.c - 0))).run Try.prog u5 = .ok (.string s1) u5)) ∧ R ((n4 == 0) && (sEq s s1)) w017) (∀ w018, w018 = w013.drew → ∃ S2 : World → Prop, S2 w018 ∧ ∃ g3 : Array Value, (∀ u6, S2 u6 → (loadVar 34 b1).run Try.prog u6 = .ok (.agg g3) u6) ∧ Cpalletref14_At 14 7424 (IntKind.wrap .u64 first) w018 fun g4 w019 => S2 w019 ∧ Cpalletref14_Same g3 g4 w019 fun b2 w020 => S2 w020 ∧ ∃ S3 : World → Prop, S3 w020 ∧ (∀ u7, S3 u7 → S2 u7) ∧ ∃ xs3 : Sl, (b2 = true → (∀ u8, S3 u8 → u8.cell? (c.add 9) = some (.slice xs3.A xs3.n xs3.c))) ∧ ∃ S4 : World → Prop, S4 w020 ∧ (∀ u9, S4 u9 → S3 u9) ∧ ∃ s2 : ByteArray, (b2 = true → (∀ u10, S4 u10 → (convert 22 9 (.slice xs3.A xs3.n xs3.c)).run Try.prog u10 = .ok (.string s2) u10)) ∧ (b2 = true → (0 ≤ (0 : Int) ∧ (0 : Int) ≤ (IntKind.wrap .i64 (16 * (IntKind.wrap .i64 (1 + ((IntKind.wrap .i64 count).tmod 4))))) ∧ (IntKind.wrap .i64 (16 * (IntKind.wrap .i64 (1 + ((IntKind.wrap .i64 count).tmod 4))))) ≤ (there.c : Int) ∧ there.n ≤ there.c)) ∧ ∃ S5 : World → Prop, S5 w020 ∧ (∀ u11, S5 u11 → S4 u11) ∧ ∃ s3 : ByteArray, (b2 = true → (∀ u12, S5 u12 → (convert 22 9 (.slice (cutA there.A there.c 0 1) ((IntKind.wrap .i64 (16 * (IntKind.wrap .i64 (1 + ((IntKind.wrap .i64 count).tmod 4))))).toNat - 0) (there.c - 0))).run Try.prog u12 = .ok (.string s3) u12)) ∧ R (b2 && (sEq s2 s3)) w020))))))
theorem Fpalletlaw14_SbcCompares.calls (there : Sl) (told : Sl) (fresh : Sl) (at_ : Int) (count : Int) (w : World) (R : Bool → World → Prop) (h : Fpalletlaw14_SbcCompares there told fresh at_ count w R) : Cpalletlaw14_SbcCompares there told fresh at_ count w R :=
  calls_of_vc (anOp_ok callable) wide Try.func3 [(54, ⟨[(19, .i .i64), (20, .i .i64)], [0, 1, 2, 11, 15, 17, 18]⟩), (5, ⟨[(19, .i .i64)], [0, 1, 2, 11, 15, 17, 18, 20]⟩)] [.b] [.slice there.A there.n there.c, .slice told.A told.n told.c, .slice fresh.A fresh.n fresh.c, .int .u8 at_, .int .u8 count] w R (Eq.mp (show Fpalletlaw14_SbcCompares there told fresh at_ count w R = vcF Try.prog G Try.f3 [(54, ⟨[(19, .i .i64), (20, .i .i64)], [0, 1, 2, 11, 15, 17, 18]⟩), (5, ⟨[(19, .i .i64)], [0, 1, 2, 11, 15, 17, 18, 20]⟩)] [.b] [.slice there.A there.n there.c, .slice told.A told.n told.c, .slice fresh.A fresh.n fresh.c, .int .u8 at_, .int .u8 count] w R by kernel_rfl) h)
/-- pallet/palletlaw14.SbcProtects -/
def Fpalletlaw14_SbcProtects (p : Sl) (prot : Int) (lba : Int) (at_ : Int) (by_ : Int) (w : World) (R : Bool → World → Prop) : Prop :=
  Cpalletlaw14_awake  w fun b w0 => Br (!b) (R false w0) (((3 : Int) ≠ 0) ∧ ((16 : Int) ≠ 0) ∧ ((8 : Int) ≠ 0) ∧ Cpalletlaw14_device 16 (IntKind.wrap .u8 (1 + (prot.tmod 3))) true w0 fun p1 p2 w01 => Br (((p1).isNone) || ((mn (IntKind.wrap .i64 ((p.n : Int).tdiv 16)) 8) == 0)) (R (!(p1).isNone) w01) ((0 ≤ (0 : Int) ∧ (0 : Int) ≤ (IntKind.wrap .i64 (16 * (mn (IntKind.wrap .i64 ((p.n : Int).tdiv 16)) 8))) ∧ (IntKind.wrap .i64 (16 * (mn (IntKind.wrap .i64 ((p.n : Int).tdiv 16)) 8))) ≤ (p.c : Int) ∧ p.n ≤ p.c) ∧ Csbc_Dev_Do p1 #[.int .u8 8, .bool false, .int .u64 ((IntKind.wrap .u64 lba).tmod 8), .int .u64 (IntKind.wrap .u64 (mn (IntKind.wrap .i64 ((p.n : Int).tdiv 16)) 8)), .int .i64 0, .bool false, .int .u8 0, .bool false, .bool false, .int .u8 0, .int .u8 0, .bool false, .int .u8 0, .int .u8 0, .bool false] ⟨(cutA p.A p.c 0 1), ((IntKind.wrap .i64 (16 * (mn (IntKind.wrap .i64 ((p.n : Int).tdiv 16)) 8))).toNat - 0), (p.c - 0)⟩ w01 fun g w02 => New (.cells #[.int .u8 0, .int .u8 0, .int .u16 0, .int .u64 0, .bool false, .int .i64 0, .int .i64 0, .bool false, .bool false, .slice none 0 0] 34) w02 fun r w03 => RunU Try.prog (storeVar 34 r (.agg g)) w03 fun w04 => ∃ n : Int, w04.cell? (r.add 0) = some (.int .u8 n) ∧ Br (n != 0) (R false w04) (∃ (I : Int → World → Prop) (μ : Int → World → Nat), I 0 w04 ∧ ∀ (q : Int) (w05 : World), I q w05 → Br (decide (q < 5)) (letX (fun (w06 : World) => I (IntKind.wrap .u8 (q + 1)) w06 ∧ μ (IntKind.wrap .u8 (q + 1)) w06 < μ q w05) fun J_ => Csbc_Dev_Do p1 #[.int .u8 7, .bool false, .int .u64 ((IntKind.wrap .u64 lba).tmod 8), .int .u64 (IntKind.wrap .u64 (mn (IntKind.wrap .i64 ((p.n : Int).tdiv 16)) 8)), .int .i64 0, .bool false, .int .u8 q, .bool false, .bool false, .int .u8 0, .int .u8 0, .bool false, .int .u8 0, .int .u8 0, .bool false] ⟨none, 0, 0⟩ w05 fun g1 w07 => New (.cells #[.int .u8 0, .int .u8 0, .int .u16 0, .int .u64 0, .bool false, .int .i64 0, .int .i64 0, .bool false, .bool false, .slice none 0 0] 34) w07 fun r1 w08 => RunU Try.prog (storeVar 34 r1 (.agg g1)) w08 fun w09 => ∃ n1 : Int, w09.cell? (r1.add 0) = some (.int .u8 n1) ∧ Br (n1 != 0) (R false w09) (Br (q == 0) (J_ w09) (∃ xs : Sl, w09.cell? (r1.add 9) = some (.slice xs.A xs.n xs.c) ∧ Cpalletref13_Unpack xs true w09 fun xs1 b1 w010 => Br ((!b1) || ((xs1.n : Int) != (mn (IntKind.wrap .i64 ((p.n : Int).tdiv 16)) 8))) (R false w010) (∃ xs2 : Sl, w010.cell? (r1.add 9) = some (.slice xs2.A xs2.n xs2.c) ∧ Csbc_Dev_Do p1 #[.int .u8 8, .bool false, .int .u64 ((IntKind.wrap .u64 lba).tmod 8), .int .u64 (IntKind.wrap .u64 (mn (IntKind.wrap .i64 ((p.n : Int).tdiv 16)) 8)), .int .i64 0, .bool false, .int .u8 q, .bool false, .bool false, .int .u8 0, .int .u8 0, .bool false, .int .u8 0, .int .u8 0, .bool false] xs2 w010 fun g2 w011 => New (.cells #[.int .u8 0, .int .u8 0, .int .u16 0, .int .u64 0, .bool false, .int .i64 0, .int .i64 0, .bool false, .bool false, .slice none 0 0] 34) w011 fun w_ w012 => RunU Try.prog (storeVar 34 w_ (.agg g2)) w012 fun w013 => ∃ n2 : Int, w013.cell? (w_.add 0) = some (.int .u8 n2) ∧ Br (n2 != 0) (R false w013) (J_ w013))))) (Csbc_Dev_Do p1 #[.int .u8 7, .bool false, .int .u64 ((IntKind.wrap .u64 lba).tmod 8), .int .u64 (IntKind.wrap .u64 (mn (IntKind.wrap .i64 ((p.n : Int).tdiv 16)) 8)), .int .i64 0, .bool false, .int .u8 1, .bool false, .bool false, .int .u8 0, .int .u8 0, .bool false, .int .u8 0, .int .u8 0, .bool false] ⟨none, 0, 0⟩ w05 fun g3 w014 => New (.cells #[.int .u8 0, .int .u8 0, .int .u16 0, .int .u64 0, .bool false, .int .i64 0, .int .i64 0, .bool false, .bool false, .slice none 0 0] 34) w014 fun r2 w015 => RunU Try.prog (storeVar 34 r2 (.agg g3)) w015 fun w016 => ∃ xs3 : Sl, w016.cell? (r2.add 9) = some (.slice xs3.A xs3.n xs3.c) ∧ ((IntKind.wrap .i64 (16 * (mn (IntKind.wrap .i64 ((p.n : Int).tdiv 16)) 8))) ≠ 0) ∧ ((16 : Int) ≠ 0) ∧ ((16 : Int) ≠ 0) ∧ (0 ≤ (IntKind.wrap .i64 ((IntKind.wrap .i64 ((IntKind.wrap .i64 (((IntKind.wrap .i64 at_).tmod (IntKind.wrap .i64 (16 * (mn (IntKind.wrap .i64 ((p.n : Int).tdiv 16)) 8)))).tdiv 16)) * 24)) + (((IntKind.wrap .i64 at_).tmod (IntKind.wrap .i64 (16 * (mn (IntKind.wrap .i64 ((p.n : Int).tdiv 16)) 8)))).tmod 16))) ∧ (IntKind.wrap .i64 ((IntKind.wrap .i64 ((IntKind.wrap .i64 (((IntKind.wrap .i64 at_).tmod (IntKind.wrap .i64 (16 * (mn (IntKind.wrap .i64 ((p.n : Int).tdiv 16)) 8)))).tdiv 16)) * 24)) + (((IntKind.wrap .i64 at_).tmod (IntKind.wrap .i64 (16 * (mn (IntKind.wrap .i64 ((p.n : Int).tdiv 16)) 8)))).tmod 16))) < (xs3.n : Int) ∧ xs3.A.isSome = true) ∧ ∃ n3 : Int, w016.cell? ((gA xs3.A).add ((IntKind.wrap .i64 ((IntKind.wrap .i64 ((IntKind.wrap .i64 (((IntKind.wrap .i64 at_).tmod (IntKind.wrap .i64 (16 * (mn (IntKind.wrap .i64 ((p.n : Int).tdiv 16)) 8)))).tdiv 16)) * 24)) + (((IntKind.wrap .i64 at_).tmod (IntKind.wrap .i64 (16 * (mn (IntKind.wrap .i64 ((p.n : Int).tdiv 16)) 8)))).tmod 16))).toNat * 1)) = some (.int .u8 n3) ∧ (0 ≤ (IntKind.wrap .i64 ((IntKind.wrap .i64 ((IntKind.wrap .i64 (((IntKind.wrap .i64 at_).tmod (IntKind.wrap .i64 (16 * (mn (IntKind.wrap .i64 ((p.n : Int).tdiv 16)) 8)))).tdiv 16)) * 24)) + (((IntKind.wrap .i64 at_).tmod (IntKind.wrap .i64 (16 * (mn (IntKind.wrap .i64 ((p.n : Int).tdiv 16)) 8)))).tmod 16))) ∧ (IntKind.wrap .i64 ((IntKind.wrap .i64 ((IntKind.wrap .i64 (((IntKind.wrap .i64 at_).tmod (IntKind.wrap .i64 (16 * (mn (IntKind.wrap .i64 ((p.n : Int).tdiv 16)) 8)))).tdiv 16)) * 24)) + (((IntKind.wrap .i64 at_).tmod (IntKind.wrap .i64 (16 * (mn (IntKind.wrap .i64 ((p.n : Int).tdiv 16)) 8)))).tmod 16))) < (xs3.n : Int) ∧ xs3.A.isSome = true) ∧ Put ((gA xs3.A).add ((IntKind.wrap .i64 ((IntKind.wrap .i64 ((IntKind.wrap .i64 (((IntKind.wrap .i64 at_).tmod (IntKind.wrap .i64 (16 * (mn (IntKind.wrap .i64 ((p.n : Int).tdiv 16)) 8)))).tdiv 16)) * 24)) + (((IntKind.wrap .i64 at_).tmod (IntKind.wrap .i64 (16 * (mn (IntKind.wrap .i64 ((p.n : Int).tdiv 16)) 8)))).tmod 16))).toNat * 1)) (.int .u8 (bXor .u8 n3 by_)) w016 fun w017 => Csbc_Dev_Do p1 #[.int .u8 8, .bool false, .int .u64 ((IntKind.wrap .u64 lba).tmod 8), .int .u64 (IntKind.wrap .u64 (mn (IntKind.wrap .i64 ((p.n : Int).tdiv 16)) 8)), .int .i64 0, .bool false, .int .u8 1, .bool false, .bool false, .int .u8 0, .int .u8 0, .bool false, .int .u8 0, .int .u8 0, .bool false] xs3 w017 fun g4 w018 => New (.cells #[.int .u8 0, .int .u8 0, .int .u16 0, .int .u64 0, .bool false, .int .i64 0, .int .i64 0, .bool false, .bool false, .slice none 0 0] 34) w018 fun w_1 w019 => RunU Try.prog (storeVar 34 w_1 (.agg g4)) w019 fun w020 => Csbc_Dev_Do p1 #[.int .u8 7, .bool false, .int .u64 ((IntKind.wrap .u64 lba).tmod 8), .int .u64 (IntKind.wrap .u64 (mn (IntKind.wrap .i64 ((p.n : Int).tdiv 16)) 8)), .int .i64 0, .bool false, .int .u8 0, .bool false, .bool false, .int .u8 0, .int .u8 0, .bool false, .int .u8 0, .int .u8 0, .bool false] ⟨none, 0, 0⟩ w020 fun g5 w021 => New (.cells #[.int .u8 0, .int .u8 0, .int .u16 0, .int .u64 0, .bool false, .int .i64 0, .int .i64 0, .bool false, .bool false, .slice none 0 0] 34) w021 fun s w022 => RunU Try.prog (storeVar 34 s (.agg g5)) w022 fun w023 => Br (by_ == 0) (∃ n4 : Int, w023.cell? (w_1.add 0) = some (.int .u8 n4) ∧ R (n4 == 0) w023) (∀ w024, w024 = w023.drew → ∃ S : World → Prop, S w024 ∧ ∃ g6 : Array Value, (∀ u, S u → (loadVar 34 w_1).run Try.prog u = .ok (.agg g6) u) ∧ ((16 : Int) ≠ 0) ∧ Cpalletref14_At 11 4097 (IntKind.wrap .u64 (((IntKind.wrap .u64 lba).tmod 8) + (IntKind.wrap .u64 (IntKind.wrap .i64 (((IntKind.wrap .i64 at_).tmod (IntKind.wrap .i64 (16 * (mn (IntKind.wrap .i64 ((p.n : Int).tdiv 16)) 8)))).tdiv 16))))) w024 fun g7 w025 => S w025 ∧ Cpalletref14_Same g6 g7 w025 fun b2 w026 => S w026 ∧ ∃ S1 : World → Prop, S1 w026 ∧ (∀ u1, S1 u1 → S u1) ∧ ∃ xs4 : Sl, (b2 = true → (∀ u2, S1 u2 → u2.cell? (s.add 9) = some (.slice xs4.A xs4.n xs4.c))) ∧ ∃ S2 : World → Prop, S2 w026 ∧ (∀ u3, S2 u3 → S1 u3) ∧ ∃ s1 : ByteArray, (b2 = true → (∀ u4, S2 u4 → (convert 22 9 (.slice xs4.A xs4.n xs4.c)).run Try.prog u4 = .ok (.string s1) u4)) ∧ (b2 = true → (0 ≤ (0 : Int) ∧ (0 : Int) ≤ (IntKind.wrap .i64 (16 * (mn (IntKind.wrap .i64 ((p.n : Int).tdiv 16)) 8))) ∧ (IntKind.wrap .i64 (16 * (mn (IntKind.wrap .i64 ((p.n : Int).tdiv 16)) 8))) ≤ (p.c : Int) ∧ p.n ≤ p.c)) ∧ ∃ S3 : World → Prop, S3 w026 ∧ (∀ u5, S3 u5 → S2 u5) ∧ ∃ s2 : ByteArray, (b2 = true → (∀ u6, S3 u6 → (convert 22 9 (.slice (cutA p.A p.c 0 1) ((IntKind.wrap .i64 (16 * (mn (IntKind.wrap .i64 ((p.n : Int).tdiv 16)) 8))).toNat - 0) (p.c - 0))).run Try.prog u6 = .ok (.string s2) u6)) ∧ R (b2 && (sEq s1 s2)) w026)))))
theorem Fpalletlaw14_SbcProtects.calls (p : Sl) (prot : Int) (lba : Int) (at_ : Int) (by_ : Int) (w : World) (R : Bool → World → Prop) (h : Fpalletlaw14_SbcProtects p prot lba at_ by_ w R) : Cpalletlaw14_SbcProtects p prot lba at_ by_ w R :=
  calls_of_vc (anOp_ok callable) wide Try.func4 [(39, ⟨[(17, .i .u8)], [0, 3, 4, 12, 13, 14]⟩), (5, ⟨[], [0, 3, 4, 12, 13, 14, 17]⟩)] [.b] [.slice p.A p.n p.c, .int .u8 prot, .int .u8 lba, .int .u8 at_, .int .u8 by_] w R (Eq.mp (show Fpalletlaw14_SbcProtects p prot lba at_ by_ w R = vcF Try.prog G Try.f4 [(39, ⟨[(17, .i .u8)], [0, 3, 4, 12, 13, 14]⟩), (5, ⟨[], [0, 3, 4, 12, 13, 14, 17]⟩)] [.b] [.slice p.A p.n p.c, .int .u8 prot, .int .u8 lba, .int .u8 at_, .int .u8 by_] w R by kernel_rfl) h)
/-- pallet/palletlaw14.SbcSplits -/
def Fpalletlaw14_SbcSplits (p : Sl) (lba : Int) (prot : Int) (same : Bool) (w : World) (R : Bool → World → Prop) : Prop :=
  Cpalletlaw14_awake  w fun b w0 => Br (!b) (R false w0) (((4 : Int) ≠ 0) ∧ ((16 : Int) ≠ 0) ∧ ((10 : Int) ≠ 0) ∧ Cpalletlaw14_device 16 (prot.tmod 4) true w0 fun p1 p2 w01 => Cpalletlaw14_device 16 (prot.tmod 4) true w01 fun p3 p4 w02 => Br ((((p1).isNone) || ((p3).isNone)) || ((mn (IntKind.wrap .i64 ((p.n : Int).tdiv 16)) 6) == 0)) (R (!(p1).isNone) w02) (New (.cells #[.int .u8 0, .bool false, .int .u64 0, .int .u64 0, .int .i64 0, .bool false, .int .u8 0, .bool false, .bool false, .int .u8 0, .int .u8 0, .bool false, .int .u8 0, .int .u8 0, .bool false] 38) w02 fun c w03 => RunU Try.prog (storeVar 38 c (.agg #[.int .u8 8, .bool false, .int .u64 (IntKind.wrap .u64 ((IntKind.wrap .i64 lba).tmod 10)), .int .u64 (IntKind.wrap .u64 (mn (IntKind.wrap .i64 ((p.n : Int).tdiv 16)) 6)), .int .i64 0, .bool false, .int .u8 0, .bool false, .bool false, .int .u8 0, .int .u8 0, .bool false, .int .u8 0, .int .u8 0, .bool false])) w03 fun w04 => (0 ≤ (0 : Int) ∧ (0 : Int) ≤ (IntKind.wrap .i64 (16 * (mn (IntKind.wrap .i64 ((p.n : Int).tdiv 16)) 6))) ∧ (IntKind.wrap .i64 (16 * (mn (IntKind.wrap .i64 ((p.n : Int).tdiv 16)) 6))) ≤ (p.c : Int) ∧ p.n ≤ p.c) ∧ letX (fun (q : Sl) (w05 : World) => ∃ g : Array Value, (loadVar 38 c).run Try.prog w05 = .ok (.agg g) w05 ∧ Csbc_Dev_Do p1 g q w05 fun g1 w06 => New (.cells #[.int .u8 0, .int .u8 0, .int .u16 0, .int .u64 0, .bool false, .int .i64 0, .int .i64 0, .bool false, .bool false, .slice none 0 0] 34) w06 fun r w07 => RunU Try.prog (storeVar 34 r (.agg g1)) w07 fun w08 => ∃ (I : Int → World → Prop) (μ : Int → World → Nat), I 0 w08 ∧ ∀ (i : Int) (w09 : World), I i w09 → Br (decide (i < (mn (IntKind.wrap .i64 ((p.n : Int).tdiv 16)) 6))) (letX (fun (w010 : World) => I (IntKind.wrap .i64 (i + 1)) w010 ∧ μ (IntKind.wrap .i64 (i + 1)) w010 < μ i w09) fun J_ => (0 ≤ (IntKind.wrap .i64 (16 * i)) ∧ (IntKind.wrap .i64 (16 * i)) ≤ (IntKind.wrap .i64 ((IntKind.wrap .i64 (16 * i)) + 16)) ∧ (IntKind.wrap .i64 ((IntKind.wrap .i64 (16 * i)) + 16)) ≤ (p.c : Int) ∧ p.n ≤ p.c) ∧ letX (fun (one : Sl) (w011 : World) => Csbc_Dev_Do p3 #[.int .u8 8, .bool false, .int .u64 (IntKind.wrap .u64 (IntKind.wrap .i64 (((IntKind.wrap .i64 lba).tmod 10) + i))), .int .u64 1, .int .i64 0, .bool false, .int .u8 0, .bool false, .bool false, .int .u8 0, .int .u8 0, .bool false, .int .u8 0, .int .u8 0, .bool false] one w011 fun g2 w012 => New (.cells #[.int .u8 0, .int .u8 0, .int .u16 0, .int .u64 0, .bool false, .int .i64 0, .int .i64 0, .bool false, .bool false, .slice none 0 0] 34) w012 fun s w013 => RunU Try.prog (storeVar 34 s (.agg g2)) w013 fun w014 => ∃ n : Int, w014.cell? (s.add 0) = some (.int .u8 n) ∧ Br (n != 0) (R false w014) (J_ w014)) fun J_1 => Br same ((0 ≤ (0 : Int) ∧ (0 : Int) ≤ (16 : Int) ∧ (16 : Int) ≤ (p.c : Int) ∧ p.n ≤ p.c) ∧ J_1 (⟨(cutA p.A p.c 0 1), (16 - 0), (p.c - 0)⟩ : Sl) w09) (J_1 (⟨(cutA p.A p.c (IntKind.wrap .i64 (16 * i)).toNat 1), ((IntKind.wrap .i64 ((IntKind.wrap .i64 (16 * i)) + 16)).toNat - (IntKind.wrap .i64 (16 * i)).toNat), (p.c - (IntKind.wrap .i64 (16 * i)).toNat)⟩ : Sl) w09)) (letX (fun (with_ : Int) (w015 : World) => Csbc_Dev_Do p1 #[.int .u8 7, .bool false, .int .u64 0, .int .u64 16, .int .i64 0, .bool false, .int .u8 with_, .bool false, .bool false, .int .u8 0, .int .u8 0, .bool false, .int .u8 0, .int .u8 0, .bool false] ⟨none, 0, 0⟩ w015 fun g3 w016 => New (.cells #[.int .u8 0, .int .u8 0, .int .u16 0, .int .u64 0, .bool false, .int .i64 0, .int .i64 0, .bool false, .bool false, .slice none 0 0] 34) w016 fun x w017 => RunU Try.prog (storeVar 34 x (.agg g3)) w017 fun w018 => ∃ (I1 : Sl → Int → World → Prop) (μ1 : Sl → Int → World → Nat), I1 (⟨none, 0, 0⟩ : Sl) 0 w018 ∧ ∀ (all : Sl) (i1 : Int) (w019 : World), I1 all i1 w019 → Br (decide (i1 < 16)) (Csbc_Dev_Do p3 #[.int .u8 7, .bool false, .int .u64 (IntKind.wrap .u64 i1), .int .u64 1, .int .i64 0, .bool false, .int .u8 with_, .bool false, .bool false, .int .u8 0, .int .u8 0, .bool false, .int .u8 0, .int .u8 0, .bool false] ⟨none, 0, 0⟩ w019 fun g4 w020 => New (.cells #[.int .u8 0, .int .u8 0, .int .u16 0, .int .u64 0, .bool false, .int .i64 0, .int .i64 0, .bool false, .bool false, .slice none 0 0] 34) w020 fun s1 w021 => RunU Try.prog (storeVar 34 s1 (.agg g4)) w021 fun w022 => ∃ n1 : Int, w022.cell? (s1.add 0) = some (.int .u8 n1) ∧ Br (n1 != 0) (R false w022) (∃ xs : Sl, w022.cell? (s1.add 9) = some (.slice xs.A xs.n xs.c) ∧ RunK Try.prog .sl (Builtin.append_ #[22, 22] 22 #[.slice all.A all.n all.c, .slice xs.A xs.n xs.c]) w022 fun xs1 w023 => I1 xs1 (IntKind.wrap .i64 (i1 + 1)) w023 ∧ μ1 xs1 (IntKind.wrap .i64 (i1 + 1)) w023 < μ1 all i1 w019)) (∃ n2 : Int, w019.cell? (r.add 0) = some (.int .u8 n2) ∧ ∃ n3 : Int, ((n2 == 0) = true → w019.cell? (x.add 0) = some (.int .u8 n3)) ∧ ∃ xs2 : Sl, (((n2 == 0) && (n3 == 0)) = true → w019.cell? (x.add 9) = some (.slice xs2.A xs2.n xs2.c)) ∧ ∃ s2 : ByteArray, (((n2 == 0) && (n3 == 0)) = true → (convert 22 9 (.slice xs2.A xs2.n xs2.c)).run Try.prog w019 = .ok (.string s2) w019) ∧ ∃ s3 : ByteArray, (((n2 == 0) && (n3 == 0)) = true → (convert 22 9 (.slice all.A all.n all.c)).run Try.prog w019 = .ok (.string s3) w019) ∧ R (((n2 == 0) && (n3 == 0)) && (sEq s2 s3)) w019)) fun J_2 => Br (decide ((prot.tmod 4) > 0)) (J_2 1 w09) (J_2 0 w09))) fun J_3 => Br same (Put (c.add 0) (.int .u8 12) w04 fun w024 => (0 ≤ (0 : Int) ∧ (0 : Int) ≤ (16 : Int) ∧ (16 : Int) ≤ (p.c : Int) ∧ p.n ≤ p.c) ∧ J_3 (⟨(cutA p.A p.c 0 1), (16 - 0), (p.c - 0)⟩ : Sl) w024) (J_3 (⟨(cutA p.A p.c 0 1), ((IntKind.wrap .i64 (16 * (mn (IntKind.wrap .i64 ((p.n : Int).tdiv 16)) 6))).toNat - 0), (p.c - 0)⟩ : Sl) w04)))
theorem Fpalletlaw14_SbcSplits.calls (p : Sl) (lba : Int) (prot : Int) (same : Bool) (w : World) (R : Bool → World → Prop) (h : Fpalletlaw14_SbcSplits p lba prot same w R) : Cpalletlaw14_SbcSplits p lba prot same w R :=
  calls_of_vc (anOp_ok callable) wide Try.func5 [(51, ⟨[(19, .i .i64)], [0, 3, 9, 10, 11, 12, 14, 18]⟩), (5, ⟨[], [0, 3, 9, 10, 11, 12, 14, 18, 19]⟩), (64, ⟨[(20, .sl)], [0, 3, 9, 10, 11, 12, 14, 18, 19]⟩), (93, ⟨[(24, .sl), (25, .i .i64)], [14, 18, 22, 23]⟩), (82, ⟨[(22, .i .u8)], [12, 14, 18]⟩), (40, ⟨[(17, .sl)], [0, 3, 9, 10, 11, 12, 14, 16]⟩)] [.b] [.slice p.A p.n p.c, .int .u8 lba, .int .u8 prot, .bool same] w R (Eq.mp (show Fpalletlaw14_SbcSplits p lba prot same w R = vcF Try.prog G Try.f5 [(51, ⟨[(19, .i .i64)], [0, 3, 9, 10, 11, 12, 14, 18]⟩), (5, ⟨[], [0, 3, 9, 10, 11, 12, 14, 18, 19]⟩), (64, ⟨[(20, .sl)], [0, 3, 9, 10, 11, 12, 14, 18, 19]⟩), (93, ⟨[(24, .sl), (25, .i .i64)], [14, 18, 22, 23]⟩), (82, ⟨[(22, .i .u8)], [12, 14, 18]⟩), (40, ⟨[(17, .sl)], [0, 3, 9, 10, 11, 12, 14, 16]⟩)] [.b] [.slice p.A p.n p.c, .int .u8 lba, .int .u8 prot, .bool same] w R by kernel_rfl) h)
/-- pallet/palletlaw14.SbcUnmaps -/
def Fpalletlaw14_SbcUnmaps (p : Sl) (lba : Int) (n : Int) (same : Bool) (w : World) (R : Bool → World → Prop) : Prop :=
  Cpalletlaw14_awake  w fun b w0 => Br ((!b) || (decide ((p.n : Int) < 256))) (Cpalletlaw14_awake  w0 fun b1 w01 => R b1 w01) (Cpalletlaw14_device 16 1 true w0 fun p1 p2 w02 => Br ((p1).isNone) (R false w02) (((16 : Int) ≠ 0) ∧ ((IntKind.wrap .i64 (16 - ((IntKind.wrap .i64 lba).tmod 16))) ≠ 0) ∧ (0 ≤ (0 : Int) ∧ (0 : Int) ≤ (256 : Int) ∧ (256 : Int) ≤ (p.c : Int) ∧ p.n ≤ p.c) ∧ Csbc_Dev_Do p1 #[.int .u8 8, .bool false, .int .u64 0, .int .u64 16, .int .i64 0, .bool false, .int .u8 0, .bool false, .bool false, .int .u8 0, .int .u8 0, .bool false, .int .u8 0, .int .u8 0, .bool false] ⟨(cutA p.A p.c 0 1), (256 - 0), (p.c - 0)⟩ w02 fun g w03 => New (.cells #[.int .u8 0, .int .u8 0, .int .u16 0, .int .u64 0, .bool false, .int .i64 0, .int .i64 0, .bool false, .bool false, .slice none 0 0] 34) w03 fun a w04 => RunU Try.prog (storeVar 34 a (.agg g)) w04 fun w05 => RunK Try.prog .sl (Instr.buildSlice 22 24 #[(0, .int .u8 0), (1, .int .u8 22), (2, .int .u8 0), (3, .int .u8 16), (4, .int .u8 0), (5, .int .u8 0), (6, .int .u8 0), (7, .int .u8 0), (8, .int .u8 0), (9, .int .u8 0), (10, .int .u8 0), (11, .int .u8 0), (12, .int .u8 0), (13, .int .u8 0), (14, .int .u8 0), (15, .int .u8 (IntKind.wrap .u8 ((IntKind.wrap .i64 lba).tmod 16))), (16, .int .u8 0), (17, .int .u8 0), (18, .int .u8 0), (19, .int .u8 (IntKind.wrap .u8 (IntKind.wrap .i64 (1 + ((IntKind.wrap .i64 n).tmod (IntKind.wrap .i64 (16 - ((IntKind.wrap .i64 lba).tmod 16)))))))), (20, .int .u8 0), (21, .int .u8 0), (22, .int .u8 0), (23, .int .u8 0)]) w05 fun xs w06 => New (.cells #[.int .u8 0, .bool false, .int .u64 0, .int .u64 0, .int .i64 0, .bool false, .int .u8 0, .bool false, .bool false, .int .u8 0, .int .u8 0, .bool false, .int .u8 0, .int .u8 0, .bool false] 38) w06 fun c w07 => RunU Try.prog (storeVar 38 c (.agg #[.int .u8 13, .bool false, .int .u64 0, .int .u64 0, .int .i64 24, .bool false, .int .u8 0, .bool false, .bool false, .int .u8 0, .int .u8 0, .bool false, .int .u8 0, .int .u8 0, .bool false])) w07 fun w08 => letX (fun (q : Sl) (w09 : World) => ∃ g1 : Array Value, (loadVar 38 c).run Try.prog w09 = .ok (.agg g1) w09 ∧ Csbc_Dev_Do p1 g1 q w09 fun g2 w010 => New (.cells #[.int .u8 0, .int .u8 0, .int .u16 0, .int .u64 0, .bool false, .int .i64 0, .int .i64 0, .bool false, .bool false, .slice none 0 0] 34) w010 fun b2 w011 => RunU Try.prog (storeVar 34 b2 (.agg g2)) w011 fun w012 => Csbc_Dev_Do p1 #[.int .u8 7, .bool false, .int .u64 0, .int .u64 16, .int .i64 0, .bool false, .int .u8 0, .bool false, .bool false, .int .u8 0, .int .u8 0, .bool false, .int .u8 0, .int .u8 0, .bool false] ⟨none, 0, 0⟩ w012 fun g3 w013 => New (.cells #[.int .u8 0, .int .u8 0, .int .u16 0, .int .u64 0, .bool false, .int .i64 0, .int .i64 0, .bool false, .bool false, .slice none 0 0] 34) w013 fun r w014 => RunU Try.prog (storeVar 34 r (.agg g3)) w014 fun w015 => ∃ n1 : Int, w015.cell? (a.add 0) = some (.int .u8 n1) ∧ ∃ n2 : Int, ((!(n1 != 0)) = true → w015.cell? (b2.add 0) = some (.int .u8 n2)) ∧ ∃ n3 : Int, ((!((n1 != 0) || (n2 != 0))) = true → w015.cell? (r.add 0) = some (.int .u8 n3)) ∧ ∃ xs1 : Sl, ((!(((n1 != 0) || (n2 != 0)) || (n3 != 0))) = true → w015.cell? (r.add 9) = some (.slice xs1.A xs1.n xs1.c)) ∧ Br ((((n1 != 0) || (n2 != 0)) || (n3 != 0)) || ((xs1.n : Int) != 256)) (R false w015) (∃ (I : Int → World → Prop) (μ : Int → World → Nat), I 0 w015 ∧ ∀ (i : Int) (w016 : World), I i w016 → Br (decide (i < 256)) (letX (fun (w017 : World) => I (IntKind.wrap .i64 (i + 1)) w017 ∧ μ (IntKind.wrap .i64 (i + 1)) w017 < μ i w016) fun J_ => (0 ≤ i ∧ i < (p.n : Int) ∧ p.A.isSome = true) ∧ ∃ n4 : Int, w016.cell? ((gA p.A).add (i.toNat * 1)) = some (.int .u8 n4) ∧ letX (fun (want : Int) (w018 : World) => ∃ xs2 : Sl, w018.cell? (r.add 9) = some (.slice xs2.A xs2.n xs2.c) ∧ (0 ≤ i ∧ i < (xs2.n : Int) ∧ xs2.A.isSome = true) ∧ ∃ n5 : Int, w018.cell? ((gA xs2.A).add (i.toNat * 1)) = some (.int .u8 n5) ∧ Br (n5 != want) (R false w018) (J_ w018)) fun J_1 => Br ((decide (i ≥ (IntKind.wrap .i64 (16 * ((IntKind.wrap .i64 lba).tmod 16))))) && (decide (i < (IntKind.wrap .i64 (16 * (IntKind.wrap .i64 (((IntKind.wrap .i64 lba).tmod 16) + (IntKind.wrap .i64 (1 + ((IntKind.wrap .i64 n).tmod (IntKind.wrap .i64 (16 - ((IntKind.wrap .i64 lba).tmod 16))))))))))))) (J_1 0 w016) (J_1 n4 w016)) (R true w016))) fun J_2 => Br same (RunU Try.prog (storeVar 38 c (.agg #[.int .u8 12, .bool false, .int .u64 (IntKind.wrap .u64 ((IntKind.wrap .i64 lba).tmod 16)), .int .u64 (IntKind.wrap .u64 (IntKind.wrap .i64 (1 + ((IntKind.wrap .i64 n).tmod (IntKind.wrap .i64 (16 - ((IntKind.wrap .i64 lba).tmod 16))))))), .int .i64 0, .bool false, .int .u8 0, .bool true, .bool false, .int .u8 0, .int .u8 0, .bool false, .int .u8 0, .int .u8 0, .bool false])) w08 fun w019 => Cpalletlaw14_bytes 16 0 w019 fun xs3 w020 => J_2 xs3 w020) (J_2 xs w08)))
theorem Fpalletlaw14_SbcUnmaps.calls (p : Sl) (lba : Int) (n : Int) (same : Bool) (w : World) (R : Bool → World → Prop) (h : Fpalletlaw14_SbcUnmaps p lba n same w R) : Cpalletlaw14_SbcUnmaps p lba n same w R :=
  calls_of_vc (anOp_ok callable) wide Try.func6 [(57, ⟨[(18, .i .i64)], [0, 11, 12, 17]⟩), (5, ⟨[], [0, 11, 12, 17, 18]⟩), (70, ⟨[(19, .i .u8)], [0, 11, 12, 17, 18]⟩), (37, ⟨[(14, .sl)], [0, 9, 11, 12, 13, 15]⟩)] [.b] [.slice p.A p.n p.c, .int .u8 lba, .int .u8 n, .bool same] w R (Eq.mp (show Fpalletlaw14_SbcUnmaps p lba n same w R = vcF Try.prog G Try.f6 [(57, ⟨[(18, .i .i64)], [0, 11, 12, 17]⟩), (5, ⟨[], [0, 11, 12, 17, 18]⟩), (70, ⟨[(19, .i .u8)], [0, 11, 12, 17, 18]⟩), (37, ⟨[(14, .sl)], [0, 9, 11, 12, 13, 15]⟩)] [.b] [.slice p.A p.n p.c, .int .u8 lba, .int .u8 n, .bool same] w R by kernel_rfl) h)
/-- pallet/palletlaw14.SbcRefuses -/
def Fpalletlaw14_SbcRefuses (c : Array Value) (p : Sl) (prot : Int) (w : World) (R : Bool → World → Prop) : Prop :=
  New (.cells c 38) w fun c1 w0 => Cpalletlaw14_awake  w0 fun b w01 => Br (!b) (R false w01) (((4 : Int) ≠ 0) ∧ Cpalletlaw14_device 16 (prot.tmod 4) true w01 fun p1 p2 w02 => Br ((p1).isNone) (R false w02) (Cpalletlaw14_bytes 32 119 w02 fun xs w03 => Csbc_Dev_Do p1 #[.int .u8 8, .bool false, .int .u64 0, .int .u64 2, .int .i64 0, .bool false, .int .u8 0, .bool false, .bool false, .int .u8 0, .int .u8 0, .bool false, .int .u8 0, .int .u8 0, .bool false] xs w03 fun g w04 => New (.cells #[.int .u8 0, .int .u8 0, .int .u16 0, .int .u64 0, .bool false, .int .i64 0, .int .i64 0, .bool false, .bool false, .slice none 0 0] 34) w04 fun r w05 => RunU Try.prog (storeVar 34 r (.agg g)) w05 fun w06 => ∃ n : Int, w06.cell? (r.add 0) = some (.int .u8 n) ∧ Br (n != 0) (R false w06) (Cworld_World_Waits p2 w06 fun n1 w07 => ∃ g1 : Array Value, (loadVar 38 c1).run Try.prog w07 = .ok (.agg g1) w07 ∧ Csbc_Dev_Do p1 g1 p w07 fun g2 w08 => New (.cells #[.int .u8 0, .int .u8 0, .int .u16 0, .int .u64 0, .bool false, .int .i64 0, .int .i64 0, .bool false, .bool false, .slice none 0 0] 34) w08 fun r1 w09 => RunU Try.prog (storeVar 34 r1 (.agg g2)) w09 fun w010 => ∃ g3 : Array Value, (loadVar 38 c1).run Try.prog w010 = .ok (.agg g3) w010 ∧ Csbc_Dev_Do none g3 p w010 fun g4 w011 => Cpalletref14_Ends 5 9472 w011 fun g5 w012 => Cpalletref14_Same g4 g5 w012 fun b1 w013 => Br (!b1) (R false w013) (∃ n2 : Int, w013.cell? (r1.add 0) = some (.int .u8 n2) ∧ ∃ n3 : Int, ((n2 != 0) = true → w013.cell? (r1.add 0) = some (.int .u8 n3)) ∧ ∃ n4 : Int, ((!((n2 != 0) && (n3 != 2))) = true → w013.cell? (r1.add 0) = some (.int .u8 n4)) ∧ ∃ g6 : Array Value, (((n4 == 0) && (!((n2 != 0) && (n3 != 2)))) = true → (loadVar 32 (r1.add 1)).run Try.prog w013 = .ok (.agg g6) w013) ∧ ∃ b2 : Bool, (((n4 == 0) && (!((n2 != 0) && (n3 != 2)))) = true → (do eqGuard .neq 32 (.tmp 57) (.tmp 58) (.agg g6) (.agg #[.int .u8 0, .int .u16 0, .int .u64 0, .bool false, .int .i64 0, .int .i64 0, .bool false, .bool false]); binOp .neq 32 (.agg g6) (.agg #[.int .u8 0, .int .u16 0, .int .u64 0, .bool false, .int .i64 0, .int .i64 0, .bool false, .bool false]) : Sem Value).run Try.prog w013 = .ok (.bool b2) w013) ∧ ∃ n5 : Int, ((!(((n2 != 0) && (n3 != 2)) || ((n4 == 0) && b2))) = true → w013.cell? (r1.add 0) = some (.int .u8 n5)) ∧ ∃ xs1 : Sl, (((n5 == 2) && (!(((n2 != 0) && (n3 != 2)) || ((n4 == 0) && b2)))) = true → w013.cell? (r1.add 9) = some (.slice xs1.A xs1.n xs1.c)) ∧ Br ((((n2 != 0) && (n3 != 2)) || ((n4 == 0) && b2)) || ((n5 == 2) && ((xs1.n : Int) != 0))) (R false w013) (∃ n6 : Int, w013.cell? ((r1.add 1).add 0) = some (.int .u8 n6) ∧ letJ (fun (n7 : Int) (w014 : World) => R ((n6 != 5) || (n7 == n1)) w014) fun J_ => ((!(n6 != 5)) = true → Cworld_World_Waits p2 w013 J_) ∧ ((!(n6 != 5)) = false → J_ (Kd.dflt (.i .i64)) w013))))))
theorem Fpalletlaw14_SbcRefuses.calls (c : Array Value) (p : Sl) (prot : Int) (w : World) (R : Bool → World → Prop) (h : Fpalletlaw14_SbcRefuses c p prot w R) : Cpalletlaw14_SbcRefuses c p prot w R :=
  calls_of_vc (anOp_ok callable) wide Try.func7 [] [.b] [.agg c, .slice p.A p.n p.c, .int .u8 prot] w R (Eq.mp (show Fpalletlaw14_SbcRefuses c p prot w R = vcF Try.prog G Try.f7 [] [.b] [.agg c, .slice p.A p.n p.c, .int .u8 prot] w R by kernel_rfl) h)
/-- pallet/palletlaw14.SbcVerifies -/
def Fpalletlaw14_SbcVerifies (p : Sl) (at_ : Int) (by_ : Int) (lba : Int) (w : World) (R : Bool → World → Prop) : Prop :=
  Cpalletlaw14_awake  w fun b w0 => Br (!b) (R false w0) (((16 : Int) ≠ 0) ∧ ((10 : Int) ≠ 0) ∧ Cpalletlaw14_device 16 0 true w0 fun p1 p2 w01 => Br (((p1).isNone) || ((mn (IntKind.wrap .i64 ((p.n : Int).tdiv 16)) 6) == 0)) (R (!(p1).isNone) w01) ((0 ≤ (0 : Int) ∧ (0 : Int) ≤ (IntKind.wrap .i64 (16 * (mn (IntKind.wrap .i64 ((p.n : Int).tdiv 16)) 6))) ∧ (IntKind.wrap .i64 (16 * (mn (IntKind.wrap .i64 ((p.n : Int).tdiv 16)) 6))) ≤ (p.c : Int) ∧ p.n ≤ p.c) ∧ Csbc_Dev_Do p1 #[.int .u8 9, .bool false, .int .u64 ((IntKind.wrap .u64 lba).tmod 10), .int .u64 (IntKind.wrap .u64 (mn (IntKind.wrap .i64 ((p.n : Int).tdiv 16)) 6)), .int .i64 0, .bool false, .int .u8 0, .bool false, .bool false, .int .u8 0, .int .u8 0, .bool false, .int .u8 0, .int .u8 0, .bool false] ⟨(cutA p.A p.c 0 1), ((IntKind.wrap .i64 (16 * (mn (IntKind.wrap .i64 ((p.n : Int).tdiv 16)) 6))).toNat - 0), (p.c - 0)⟩ w01 fun g w02 => New (.cells #[.int .u8 0, .int .u8 0, .int .u16 0, .int .u64 0, .bool false, .int .i64 0, .int .i64 0, .bool false, .bool false, .slice none 0 0] 34) w02 fun a w03 => RunU Try.prog (storeVar 34 a (.agg g)) w03 fun w04 => Cworld_World_Waits p2 w04 fun n w05 => (0 ≤ (0 : Int) ∧ (0 : Int) ≤ (IntKind.wrap .i64 (16 * (mn (IntKind.wrap .i64 ((p.n : Int).tdiv 16)) 6))) ∧ (IntKind.wrap .i64 (16 * (mn (IntKind.wrap .i64 ((p.n : Int).tdiv 16)) 6))) ≤ (p.c : Int) ∧ p.n ≤ p.c) ∧ Csbc_Dev_Do p1 #[.int .u8 10, .bool false, .int .u64 ((IntKind.wrap .u64 lba).tmod 10), .int .u64 (IntKind.wrap .u64 (mn (IntKind.wrap .i64 ((p.n : Int).tdiv 16)) 6)), .int .i64 0, .bool false, .int .u8 0, .bool false, .bool false, .int .u8 0, .int .u8 0, .bool false, .int .u8 0, .int .u8 0, .bool true] ⟨(cutA p.A p.c 0 1), ((IntKind.wrap .i64 (16 * (mn (IntKind.wrap .i64 ((p.n : Int).tdiv 16)) 6))).toNat - 0), (p.c - 0)⟩ w05 fun g1 w06 => New (.cells #[.int .u8 0, .int .u8 0, .int .u16 0, .int .u64 0, .bool false, .int .i64 0, .int .i64 0, .bool false, .bool false, .slice none 0 0] 34) w06 fun b1 w07 => RunU Try.prog (storeVar 34 b1 (.agg g1)) w07 fun w08 => Csbc_Dev_Do p1 #[.int .u8 10, .bool false, .int .u64 ((IntKind.wrap .u64 lba).tmod 10), .int .u64 (IntKind.wrap .u64 (mn (IntKind.wrap .i64 ((p.n : Int).tdiv 16)) 6)), .int .i64 0, .bool false, .int .u8 0, .bool false, .bool false, .int .u8 0, .int .u8 0, .bool false, .int .u8 0, .int .u8 0, .bool false] ⟨none, 0, 0⟩ w08 fun g2 w09 => New (.cells #[.int .u8 0, .int .u8 0, .int .u16 0, .int .u64 0, .bool false, .int .i64 0, .int .i64 0, .bool false, .bool false, .slice none 0 0] 34) w09 fun c w010 => RunU Try.prog (storeVar 34 c (.agg g2)) w010 fun w011 => ∃ n1 : Int, w011.cell? (a.add 0) = some (.int .u8 n1) ∧ ∃ n2 : Int, ((!(n1 != 0)) = true → w011.cell? (b1.add 0) = some (.int .u8 n2)) ∧ ∃ n3 : Int, ((!((n1 != 0) || (n2 != 0))) = true → w011.cell? (c.add 0) = some (.int .u8 n3)) ∧ Br ((((n1 != 0) || (n2 != 0)) || (n3 != 0)) || (n != 0)) (R false w011) (Br (by_ == 0) (R true w011) (((IntKind.wrap .i64 (16 * (mn (IntKind.wrap .i64 ((p.n : Int).tdiv 16)) 6))) ≠ 0) ∧ (0 ≤ (0 : Int) ∧ (0 : Int) ≤ (IntKind.wrap .i64 (16 * (mn (IntKind.wrap .i64 ((p.n : Int).tdiv 16)) 6))) ∧ (IntKind.wrap .i64 (16 * (mn (IntKind.wrap .i64 ((p.n : Int).tdiv 16)) 6))) ≤ (p.c : Int) ∧ p.n ≤ p.c) ∧ RunK Try.prog .sl (Builtin.append_ #[22, 22] 22 #[.slice none 0 0, .slice (cutA p.A p.c 0 1) ((IntKind.wrap .i64 (16 * (mn (IntKind.wrap .i64 ((p.n : Int).tdiv 16)) 6))).toNat - 0) (p.c - 0)]) w011 fun xs w012 => (0 ≤ ((IntKind.wrap .i64 at_).tmod (IntKind.wrap .i64 (16 * (mn (IntKind.wrap .i64 ((p.n : Int).tdiv 16)) 6)))) ∧ ((IntKind.wrap .i64 at_).tmod (IntKind.wrap .i64 (16 * (mn (IntKind.wrap .i64 ((p.n : Int).tdiv 16)) 6)))) < (xs.n : Int) ∧ xs.A.isSome = true) ∧ ∃ n4 : Int, w012.cell? ((gA xs.A).add (((IntKind.wrap .i64 at_).tmod (IntKind.wrap .i64 (16 * (mn (IntKind.wrap .i64 ((p.n : Int).tdiv 16)) 6)))).toNat * 1)) = some (.int .u8 n4) ∧ (0 ≤ ((IntKind.wrap .i64 at_).tmod (IntKind.wrap .i64 (16 * (mn (IntKind.wrap .i64 ((p.n : Int).tdiv 16)) 6)))) ∧ ((IntKind.wrap .i64 at_).tmod (IntKind.wrap .i64 (16 * (mn (IntKind.wrap .i64 ((p.n : Int).tdiv 16)) 6)))) < (xs.n : Int) ∧ xs.A.isSome = true) ∧ Put ((gA xs.A).add (((IntKind.wrap .i64 at_).tmod (IntKind.wrap .i64 (16 * (mn (IntKind.wrap .i64 ((p.n : Int).tdiv 16)) 6)))).toNat * 1)) (.int .u8 (bXor .u8 n4 by_)) w012 fun w013 => Csbc_Dev_Do p1 #[.int .u8 10, .bool false, .int .u64 ((IntKind.wrap .u64 lba).tmod 10), .int .u64 (IntKind.wrap .u64 (mn (IntKind.wrap .i64 ((p.n : Int).tdiv 16)) 6)), .int .i64 0, .bool false, .int .u8 0, .bool false, .bool false, .int .u8 0, .int .u8 0, .bool false, .int .u8 0, .int .u8 0, .bool true] xs w013 fun g3 w014 => New (.cells #[.int .u8 0, .int .u8 0, .int .u16 0, .int .u64 0, .bool false, .int .i64 0, .int .i64 0, .bool false, .bool false, .slice none 0 0] 34) w014 fun e w015 => RunU Try.prog (storeVar 34 e (.agg g3)) w015 fun w016 => ∀ w017, w017 = w016.drew → ∃ S : World → Prop, S w017 ∧ ∃ g4 : Array Value, (∀ u, S u → (loadVar 34 e).run Try.prog u = .ok (.agg g4) u) ∧ Cpalletref14_At 14 7424 (IntKind.wrap .u64 ((IntKind.wrap .i64 at_).tmod (IntKind.wrap .i64 (16 * (mn (IntKind.wrap .i64 ((p.n : Int).tdiv 16)) 6))))) w017 fun g5 w018 => S w018 ∧ Cpalletref14_Same g4 g5 w018 fun b2 w019 => letJ (fun (n5 : Int) (w020 : World) => R (b2 && (n5 == n)) w020) fun J_ => (b2 = true → Cworld_World_Waits p2 w019 J_) ∧ (b2 = false → J_ (Kd.dflt (.i .i64)) w019)))))
theorem Fpalletlaw14_SbcVerifies.calls (p : Sl) (at_ : Int) (by_ : Int) (lba : Int) (w : World) (R : Bool → World → Prop) (h : Fpalletlaw14_SbcVerifies p at_ by_ lba w R) : Cpalletlaw14_SbcVerifies p at_ by_ lba w R :=
  calls_of_vc (anOp_ok callable) wide Try.func8 [] [.b] [.slice p.A p.n p.c, .int .u16 at_, .int .u8 by_, .int .u8 lba] w R (Eq.mp (show Fpalletlaw14_SbcVerifies p at_ by_ lba w R = vcF Try.prog G Try.f8 [] [.b] [.slice p.A p.n p.c, .int .u16 at_, .int .u8 by_, .int .u8 lba] w R by kernel_rfl) h)
/-- pallet/palletlaw14.SbcPrefix -/
def Fpalletlaw14_SbcPrefix (p : Sl) (fail : Int) (lba : Int) (same : Bool) (w : World) (R : Bool → World → Prop) : Prop :=
  Cpalletlaw14_awake  w fun b w0 => Br (!b) (R false w0) (((16 : Int) ≠ 0) ∧ ((8 : Int) ≠ 0) ∧ Br (((IntKind.wrap .i64 ((p.n : Int).tdiv 16)) == 0) || (decide ((IntKind.wrap .i64 ((p.n : Int).tdiv 16)) > 8))) (R true w0) (Cpalletlaw14_device 16 0 true w0 fun p1 p2 w01 => Br ((p1).isNone) (R false w01) (Cpalletlaw14_bytes 256 85 w01 fun xs w02 => Csbc_Dev_Do p1 #[.int .u8 8, .bool false, .int .u64 0, .int .u64 16, .int .i64 0, .bool false, .int .u8 0, .bool false, .bool false, .int .u8 0, .int .u8 0, .bool false, .int .u8 0, .int .u8 0, .bool false] xs w02 fun g w03 => New (.cells #[.int .u8 0, .int .u8 0, .int .u16 0, .int .u64 0, .bool false, .int .i64 0, .int .i64 0, .bool false, .bool false, .slice none 0 0] 34) w03 fun r w04 => RunU Try.prog (storeVar 34 r (.agg g)) w04 fun w05 => ∃ n : Int, w05.cell? (r.add 0) = some (.int .u8 n) ∧ Br (n != 0) (R false w05) (((12 : Int) ≠ 0) ∧ RunK Try.prog .sl (Instr.buildSlice 53 1 #[(0, .int .i64 ((IntKind.wrap .i64 fail).tmod 12))]) w05 fun xs1 w06 => Cworld_World_Plan p2 xs1 (-1) w06 fun w07 => New (.cells #[.int .u8 0, .bool false, .int .u64 0, .int .u64 0, .int .i64 0, .bool false, .int .u8 0, .bool false, .bool false, .int .u8 0, .int .u8 0, .bool false, .int .u8 0, .int .u8 0, .bool false] 38) w07 fun c w08 => RunU Try.prog (storeVar 38 c (.agg #[.int .u8 8, .bool false, .int .u64 (IntKind.wrap .u64 ((IntKind.wrap .i64 lba).tmod 8)), .int .u64 (IntKind.wrap .u64 (IntKind.wrap .i64 ((p.n : Int).tdiv 16))), .int .i64 0, .bool false, .int .u8 0, .bool false, .bool false, .int .u8 0, .int .u8 0, .bool false, .int .u8 0, .int .u8 0, .bool false])) w08 fun w09 => (0 ≤ (0 : Int) ∧ (0 : Int) ≤ (IntKind.wrap .i64 (16 * (IntKind.wrap .i64 ((p.n : Int).tdiv 16)))) ∧ (IntKind.wrap .i64 (16 * (IntKind.wrap .i64 ((p.n : Int).tdiv 16)))) ≤ (p.c : Int) ∧ p.n ≤ p.c) ∧ letX (fun (q : Sl) (w010 : World) => ∃ g1 : Array Value, (loadVar 38 c).run Try.prog w010 = .ok (.agg g1) w010 ∧ Csbc_Dev_Do p1 g1 q w010 fun g2 w011 => New (.cells #[.int .u8 0, .int .u8 0, .int .u16 0, .int .u64 0, .bool false, .int .i64 0, .int .i64 0, .bool false, .bool false, .slice none 0 0] 34) w011 fun r1 w012 => RunU Try.prog (storeVar 34 r1 (.agg g2)) w012 fun w013 => Cworld_World_Plan p2 ⟨none, 0, 0⟩ (-1) w013 fun w014 => Csbc_Dev_Do p1 #[.int .u8 7, .bool false, .int .u64 0, .int .u64 16, .int .i64 0, .bool false, .int .u8 0, .bool false, .bool false, .int .u8 0, .int .u8 0, .bool false, .int .u8 0, .int .u8 0, .bool false] ⟨none, 0, 0⟩ w014 fun g3 w015 => New (.cells #[.int .u8 0, .int .u8 0, .int .u16 0, .int .u64 0, .bool false, .int .i64 0, .int .i64 0, .bool false, .bool false, .slice none 0 0] 34) w015 fun l w016 => RunU Try.prog (storeVar 34 l (.agg g3)) w016 fun w017 => ∃ n1 : Int, w017.cell? (l.add 0) = some (.int .u8 n1) ∧ ∃ xs2 : Sl, ((!(n1 != 0)) = true → w017.cell? (l.add 9) = some (.slice xs2.A xs2.n xs2.c)) ∧ Br ((n1 != 0) || ((xs2.n : Int) != 256)) (R false w017) (((12 : Int) ≠ 0) ∧ letX (fun (done : Int) (w018 : World) => ∃ (I : Int → World → Prop) (μ : Int → World → Nat), I 0 w018 ∧ ∀ (i : Int) (w019 : World), I i w019 → Br (decide (i < 256)) (letX (fun (w020 : World) => I (IntKind.wrap .i64 (i + 1)) w020 ∧ μ (IntKind.wrap .i64 (i + 1)) w020 < μ i w019) fun J_ => letX (fun (want : Int) (w021 : World) => ∃ xs3 : Sl, w021.cell? (l.add 9) = some (.slice xs3.A xs3.n xs3.c) ∧ (0 ≤ i ∧ i < (xs3.n : Int) ∧ xs3.A.isSome = true) ∧ ∃ n2 : Int, w021.cell? ((gA xs3.A).add (i.toNat * 1)) = some (.int .u8 n2) ∧ Br (n2 != want) (R false w021) (J_ w021)) fun J_1 => Br ((decide ((IntKind.wrap .i64 (i - (IntKind.wrap .i64 (16 * ((IntKind.wrap .i64 lba).tmod 8))))) ≥ 0)) && (decide ((IntKind.wrap .i64 (i - (IntKind.wrap .i64 (16 * ((IntKind.wrap .i64 lba).tmod 8))))) < (IntKind.wrap .i64 (16 * done))))) (((q.n : Int) ≠ 0) ∧ (0 ≤ ((IntKind.wrap .i64 (i - (IntKind.wrap .i64 (16 * ((IntKind.wrap .i64 lba).tmod 8))))).tmod (q.n : Int)) ∧ ((IntKind.wrap .i64 (i - (IntKind.wrap .i64 (16 * ((IntKind.wrap .i64 lba).tmod 8))))).tmod (q.n : Int)) < (q.n : Int) ∧ q.A.isSome = true) ∧ ∃ n3 : Int, w019.cell? ((gA q.A).add (((IntKind.wrap .i64 (i - (IntKind.wrap .i64 (16 * ((IntKind.wrap .i64 lba).tmod 8))))).tmod (q.n : Int)).toNat * 1)) = some (.int .u8 n3) ∧ J_1 n3 w019) (J_1 85 w019)) (R true w019)) fun J_2 => Br (decide (((IntKind.wrap .i64 fail).tmod 12) < (IntKind.wrap .i64 ((p.n : Int).tdiv 16)))) (((12 : Int) ≠ 0) ∧ ∀ w022, w022 = w017.drew → ∃ S : World → Prop, S w022 ∧ ∃ g4 : Array Value, (∀ u, S u → (loadVar 34 r1).run Try.prog u = .ok (.agg g4) u) ∧ Cpalletref14_At 3 3072 (IntKind.wrap .u64 (IntKind.wrap .i64 (((IntKind.wrap .i64 lba).tmod 8) + ((IntKind.wrap .i64 fail).tmod 12)))) w022 fun g5 w023 => S w023 ∧ Cpalletref14_Same g4 g5 w023 fun b1 w024 => Br (!b1) (R false w024) (J_2 ((IntKind.wrap .i64 fail).tmod 12) w024)) (∃ n4 : Int, w017.cell? (r1.add 0) = some (.int .u8 n4) ∧ Br (n4 != 0) (R false w017) (J_2 (IntKind.wrap .i64 ((p.n : Int).tdiv 16)) w017)))) fun J_3 => Br same (Put (c.add 0) (.int .u8 12) w09 fun w025 => (0 ≤ (0 : Int) ∧ (0 : Int) ≤ (16 : Int) ∧ (16 : Int) ≤ (p.c : Int) ∧ p.n ≤ p.c) ∧ J_3 (⟨(cutA p.A p.c 0 1), (16 - 0), (p.c - 0)⟩ : Sl) w025) (J_3 (⟨(cutA p.A p.c 0 1), ((IntKind.wrap .i64 (16 * (IntKind.wrap .i64 ((p.n : Int).tdiv 16)))).toNat - 0), (p.c - 0)⟩ : Sl) w09)))))
theorem Fpalletlaw14_SbcPrefix.calls (p : Sl) (fail : Int) (lba : Int) (same : Bool) (w : World) (R : Bool → World → Prop) (h : Fpalletlaw14_SbcPrefix p fail lba same w R) : Cpalletlaw14_SbcPrefix p fail lba same w R :=
  calls_of_vc (anOp_ok callable) wide Try.func9 [(96, ⟨[(19, .i .i64)], [10, 15, 17, 18]⟩), (5, ⟨[], [10, 15, 17, 18, 19]⟩), (112, ⟨[(20, .i .u8)], [10, 15, 17, 18, 19]⟩), (79, ⟨[(18, .i .i64)], [10, 15, 17]⟩), (52, ⟨[(15, .sl)], [1, 9, 10, 11, 12, 14]⟩)] [.b] [.slice p.A p.n p.c, .int .u8 fail, .int .u8 lba, .bool same] w R (Eq.mp (show Fpalletlaw14_SbcPrefix p fail lba same w R = vcF Try.prog G Try.f9 [(96, ⟨[(19, .i .i64)], [10, 15, 17, 18]⟩), (5, ⟨[], [10, 15, 17, 18, 19]⟩), (112, ⟨[(20, .i .u8)], [10, 15, 17, 18, 19]⟩), (79, ⟨[(18, .i .i64)], [10, 15, 17]⟩), (52, ⟨[(15, .sl)], [1, 9, 10, 11, 12, 14]⟩)] [.b] [.slice p.A p.n p.c, .int .u8 fail, .int .u8 lba, .bool same] w R by kernel_rfl) h)
/-- pallet/palletlaw14.awake -/
def Fpalletlaw14_awake (w : World) (R : Bool → World → Prop) : Prop :=
  Cpalletlaw14_device 4 0 true w fun p p1 w0 => Br ((p).isNone) (R false w0) (Cpalletlaw14_bytes 16 170 w0 fun xs w01 => Csbc_Dev_Do p #[.int .u8 8, .bool false, .int .u64 1, .int .u64 1, .int .i64 0, .bool false, .int .u8 0, .bool false, .bool false, .int .u8 0, .int .u8 0, .bool false, .int .u8 0, .int .u8 0, .bool false] xs w01 fun g w02 => New (.cells #[.int .u8 0, .int .u8 0, .int .u16 0, .int .u64 0, .bool false, .int .i64 0, .int .i64 0, .bool false, .bool false, .slice none 0 0] 34) w02 fun a w03 => RunU Try.prog (storeVar 34 a (.agg g)) w03 fun w04 => Csbc_Dev_Do p #[.int .u8 7, .bool false, .int .u64 1, .int .u64 1, .int .i64 0, .bool false, .int .u8 0, .bool false, .bool false, .int .u8 0, .int .u8 0, .bool false, .int .u8 0, .int .u8 0, .bool false] ⟨none, 0, 0⟩ w04 fun g1 w05 => New (.cells #[.int .u8 0, .int .u8 0, .int .u16 0, .int .u64 0, .bool false, .int .i64 0, .int .i64 0, .bool false, .bool false, .slice none 0 0] 34) w05 fun b w06 => RunU Try.prog (storeVar 34 b (.agg g1)) w06 fun w07 => ∀ w08, w08 = w07.drew → ∃ S : World → Prop, S w08 ∧ ∃ n : Int, (∀ u, S u → u.cell? (a.add 0) = some (.int .u8 n)) ∧ ∃ n1 : Int, ((n == 0) = true → (∀ u1, S u1 → u1.cell? (b.add 0) = some (.int .u8 n1))) ∧ ∃ xs1 : Sl, (((n == 0) && (n1 == 0)) = true → (∀ u2, S u2 → u2.cell? (b.add 9) = some (.slice xs1.A xs1.n xs1.c))) ∧ ∃ s : ByteArray, (((n == 0) && (n1 == 0)) = true → (∀ u3, S u3 → (convert 22 9 (.slice xs1.A xs1.n xs1.c)).run Try.prog u3 = .ok (.string s) u3)) ∧ letJ (fun (xs2 : Sl) (w09 : World) => S w09 ∧ ∃ S1 : World → Prop, S1 w09 ∧ (∀ u4, S1 u4 → S u4) ∧ ∃ s1 : ByteArray, (((n == 0) && (n1 == 0)) = true → (∀ u5, S1 u5 → (convert 22 9 (.slice xs2.A xs2.n xs2.c)).run Try.prog u5 = .ok (.string s1) u5)) ∧ R (((n == 0) && (n1 == 0)) && (sEq s s1)) w09) fun J_ => (((n == 0) && (n1 == 0)) = true → Cpalletlaw14_bytes 16 170 w08 J_) ∧ (((n == 0) && (n1 == 0)) = false → J_ (Kd.dflt .sl) w08))
theorem Fpalletlaw14_awake.calls (w : World) (R : Bool → World → Prop) (h : Fpalletlaw14_awake w R) : Cpalletlaw14_awake w R :=
  calls_of_vc (anOp_ok callable) wide Try.func10 [] [.b] [] w R (Eq.mp (show Fpalletlaw14_awake w R = vcF Try.prog G Try.f10 [] [.b] [] w R by kernel_rfl) h)
/-- pallet/palletlaw14.device -/
def Fpalletlaw14_device (blocks : Int) (prot : Int) (cache : Bool) (w : World) (R : (Option Addr) → (Option Addr) → World → Prop) : Prop :=
  Cworld_New  w fun p w0 => Cstore_Open p s_f blocks cache w0 fun p1 n w01 => Br (n != 0) (R none p w01) (New (.cells #[.pointer p1, .int .u8 prot] 60) w01 fun a w02 => R (some a) p w02)
theorem Fpalletlaw14_device.calls (blocks : Int) (prot : Int) (cache : Bool) (w : World) (R : (Option Addr) → (Option Addr) → World → Prop) (h : Fpalletlaw14_device blocks prot cache w R) : Cpalletlaw14_device blocks prot cache w R :=
  calls_of_vc (anOp_ok callable) wide Try.func11 [] [.p, .p] [.int .i64 blocks, .int .u8 prot, .bool cache] w R (Eq.mp (show Fpalletlaw14_device blocks prot cache w R = vcF Try.prog G Try.f11 [] [.p, .p] [.int .i64 blocks, .int .u8 prot, .bool cache] w R by kernel_rfl) h)
/-- (*pallet/sbc.Dev).Do -/
def Fsbc_Dev_Do (d : Option Addr) (c : Array Value) (p : Sl) (w : World) (R : (Array Value) → World → Prop) : Prop :=
  New (.cells c 38) w fun c1 w0 => New (.cells #[.int .u8 0, .int .u8 0, .int .u16 0, .int .u64 0, .bool false, .int .i64 0, .int .i64 0, .bool false, .bool false, .slice none 0 0] 34) w0 fun a w01 => ((!((d).isNone)) = true → d.isSome = true) ∧ ∃ p1 : Option Addr, ((!((d).isNone)) = true → w01.cell? ((gA d).add 0) = some (.pointer p1)) ∧ Br (((d).isNone) || ((p1).isNone)) (Csbc_fails #[.int .u8 5, .int .u16 9472, .int .u64 0, .bool false, .int .i64 0, .int .i64 0, .bool false, .bool false] w01 fun g w02 => RunU Try.prog (storeVar 34 a (.agg g)) w02 fun w03 => ∃ res : Array Value, (loadVar 34 a).run Try.prog w03 = .ok (.agg res) w03 ∧ R res w03) (∀ w04, w04 = w01.drew → ∃ S : World → Prop, S w04 ∧ d.isSome = true ∧ ∃ n : Int, (∀ u, S u → u.cell? ((gA d).add 1) = some (.int .u8 n)) ∧ ∃ n1 : Int, (∀ u1, S u1 → u1.cell? (c1.add 6) = some (.int .u8 n1)) ∧ Cpi_Known n n1 w04 fun b w05 => Br (!b) (Csbc_fails #[.int .u8 5, .int .u16 9216, .int .u64 0, .bool false, .int .i64 1, .int .i64 7, .bool true, .bool true] w05 fun g1 w06 => RunU Try.prog (storeVar 34 a (.agg g1)) w06 fun w07 => ∃ res1 : Array Value, (loadVar 34 a).run Try.prog w07 = .ok (.agg res1) w07 ∧ R res1 w07) (∀ w08, w08 = w05.drew → ∃ S1 : World → Prop, S1 w08 ∧ ∃ n2 : Int, (∀ u2, S1 u2 → u2.cell? (c1.add 2) = some (.int .u64 n2)) ∧ ∃ n3 : Int, (∀ u3, S1 u3 → u3.cell? (c1.add 3) = some (.int .u64 n3)) ∧ Csbc_Dev_blocks d w08 fun n4 w09 => S1 w09 ∧ Cbe_Within n2 n3 n4 w09 fun b1 w010 => S1 w010 ∧ ∃ S2 : World → Prop, S2 w010 ∧ (∀ u4, S2 u4 → S1 u4) ∧ ∃ n5 : Int, ((!b1) = true → (∀ u5, S2 u5 → u5.cell? (c1.add 0) = some (.int .u8 n5))) ∧ ∃ S3 : World → Prop, S3 w010 ∧ (∀ u6, S3 u6 → S2 u6) ∧ ∃ n6 : Int, (((!b1) && (n5 != 13)) = true → (∀ u7, S3 u7 → u7.cell? (c1.add 0) = some (.int .u8 n6))) ∧ Br (((!b1) && (n5 != 13)) && (n6 != 6)) (∃ n7 : Int, w010.cell? (c1.add 2) = some (.int .u64 n7) ∧ Csbc_at 5 8448 n7 w010 fun g2 w011 => RunU Try.prog (storeVar 34 a (.agg g2)) w011 fun w012 => ∃ res2 : Array Value, (loadVar 34 a).run Try.prog w012 = .ok (.agg res2) w012 ∧ R res2 w012) (∃ n8 : Int, w010.cell? (c1.add 0) = some (.int .u8 n8) ∧ letX (fun (w013 : World) => Csbc_fails #[.int .u8 5, .int .u16 8192, .int .u64 0, .bool false, .int .i64 0, .int .i64 7, .bool true, .bool true] w013 fun g3 w014 => RunU Try.prog (storeVar 34 a (.agg g3)) w014 fun w015 => ∃ res3 : Array Value, (loadVar 34 a).run Try.prog w015 = .ok (.agg res3) w015 ∧ R res3 w015) fun J_ => Br (n8 == 7) (∃ g4 : Array Value, (loadVar 38 c1).run Try.prog w010 = .ok (.agg g4) w010 ∧ Csbc_Dev_read d g4 w010 fun xs g5 b2 w017 => New (.cells #[.int .u8 0, .int .u8 0, .int .u16 0, .int .u64 0, .bool false, .int .i64 0, .int .i64 0, .bool false, .bool false, .slice none 0 0] 34) w017 fun r w018 => RunU Try.prog (storeVar 34 r (.agg g5)) w018 fun w019 => Br (!b2) (∃ g6 : Array Value, (loadVar 34 r).run Try.prog w019 = .ok (.agg g6) w019 ∧ RunU Try.prog (storeVar 34 a (.agg g6)) w019 fun w020 => ∃ res4 : Array Value, (loadVar 34 a).run Try.prog w020 = .ok (.agg res4) w020 ∧ R res4 w020) (∃ n9 : Int, w019.cell? (c1.add 6) = some (.int .u8 n9) ∧ Cpi_Pack xs (n9 != 0) w019 fun xs1 w021 => Csbc_good xs1 w021 fun g7 w022 => RunU Try.prog (storeVar 34 a (.agg g7)) w022 fun w023 => ∃ res5 : Array Value, (loadVar 34 a).run Try.prog w023 = .ok (.agg res5) w023 ∧ R res5 w023)) (letX (fun (x : Bool) (w024 : World) => Br x (∃ g8 : Array Value, (loadVar 38 c1).run Try.prog w024 = .ok (.agg g8) w024 ∧ ∃ n10 : Int, w024.cell? (c1.add 3) = some (.int .u64 n10) ∧ Csbc_Dev_come d g8 p n10 w024 fun xs2 g9 b3 w025 => New (.cells #[.int .u8 0, .int .u8 0, .int .u16 0, .int .u64 0, .bool false, .int .i64 0, .int .i64 0, .bool false, .bool false, .slice none 0 0] 34) w025 fun r1 w026 => RunU Try.prog (storeVar 34 r1 (.agg g9)) w026 fun w027 => Br (!b3) (∃ g10 : Array Value, (loadVar 34 r1).run Try.prog w027 = .ok (.agg g10) w027 ∧ RunU Try.prog (storeVar 34 a (.agg g10)) w027 fun w028 => ∃ res6 : Array Value, (loadVar 34 a).run Try.prog w028 = .ok (.agg res6) w028 ∧ R res6 w028) (∃ n11 : Int, w027.cell? (c1.add 2) = some (.int .u64 n11) ∧ ∃ b4 : Bool, w027.cell? (c1.add 5) = some (.bool b4) ∧ ∃ n12 : Int, ((!b4) = true → w027.cell? (c1.add 0) = some (.int .u8 n12)) ∧ Csbc_Dev_write d n11 xs2 (b4 || (n12 == 9)) w027 fun g11 w029 => RunU Try.prog (storeVar 34 a (.agg g11)) w029 fun w030 => ∃ res7 : Array Value, (loadVar 34 a).run Try.prog w030 = .ok (.agg res7) w030 ∧ R res7 w030)) (Br (n8 == 10) (∃ g12 : Array Value, (loadVar 38 c1).run Try.prog w024 = .ok (.agg g12) w024 ∧ Csbc_Dev_verify d g12 p w024 fun g13 w031 => RunU Try.prog (storeVar 34 a (.agg g13)) w031 fun w032 => ∃ res8 : Array Value, (loadVar 34 a).run Try.prog w032 = .ok (.agg res8) w032 ∧ R res8 w032) (Br (n8 == 11) (d.isSome = true ∧ ∃ p2 : Option Addr, w024.cell? ((gA d).add 0) = some (.pointer p2) ∧ Cstore_Store_Sync p2 w024 fun n13 w033 => Br (n13 != 0) (Csbc_fails #[.int .u8 3, .int .u16 3072, .int .u64 0, .bool false, .int .i64 0, .int .i64 0, .bool false, .bool false] w033 fun g14 w034 => RunU Try.prog (storeVar 34 a (.agg g14)) w034 fun w035 => ∃ res9 : Array Value, (loadVar 34 a).run Try.prog w035 = .ok (.agg res9) w035 ∧ R res9 w035) (Csbc_good ⟨none, 0, 0⟩ w033 fun g15 w036 => RunU Try.prog (storeVar 34 a (.agg g15)) w036 fun w037 => ∃ res10 : Array Value, (loadVar 34 a).run Try.prog w037 = .ok (.agg res10) w037 ∧ R res10 w037)) (Br (n8 == 12) (∃ g16 : Array Value, (loadVar 38 c1).run Try.prog w024 = .ok (.agg g16) w024 ∧ Csbc_Dev_same d g16 p w024 fun g17 w038 => RunU Try.prog (storeVar 34 a (.agg g17)) w038 fun w039 => ∃ res11 : Array Value, (loadVar 34 a).run Try.prog w039 = .ok (.agg res11) w039 ∧ R res11 w039) (Br (n8 == 13) (Csbc_Dev_unmap d p w024 fun g18 w040 => RunU Try.prog (storeVar 34 a (.agg g18)) w040 fun w041 => ∃ res12 : Array Value, (loadVar 34 a).run Try.prog w041 = .ok (.agg res12) w041 ∧ R res12 w041) (Br (n8 == 14) (∃ g19 : Array Value, (loadVar 38 c1).run Try.prog w024 = .ok (.agg g19) w024 ∧ Csbc_Dev_compare d g19 p w024 fun g20 w042 => RunU Try.prog (storeVar 34 a (.agg g20)) w042 fun w043 => ∃ res13 : Array Value, (loadVar 34 a).run Try.prog w043 = .ok (.agg res13) w043 ∧ R res13 w043) (Br (n8 == 6) (∃ g21 : Array Value, (loadVar 38 c1).run Try.prog w024 = .ok (.agg g21) w024 ∧ Csbc_Dev_capacity d g21 w024 fun g22 w044 => RunU Try.prog (storeVar 34 a (.agg g22)) w044 fun w045 => ∃ res14 : Array Value, (loadVar 34 a).run Try.prog w045 = .ok (.agg res14) w045 ∧ R res14 w045) (J_ w024)))))))) fun J_1 => Br (n8 == 8) (J_1 (n8 == 8) w010) (J_1 (n8 == 9) w010)))))
theorem Fsbc_Dev_Do.calls (d : Option Addr) (c : Array Value) (p : Sl) (w : World) (R : (Array Value) → World → Prop) (h : Fsbc_Dev_Do d c p w R) : Csbc_Dev_Do d c p w R :=
  calls_of_vc (anOp_ok callable) wide Try.func12 [(2, ⟨[], [6]⟩), (43, ⟨[(75, .b)], [0, 2, 4, 6, 56]⟩)] [.ag] [.pointer d, .agg c, .slice p.A p.n p.c] w R (Eq.mp (show Fsbc_Dev_Do d c p w R = vcF Try.prog G Try.f12 [(2, ⟨[], [6]⟩), (43, ⟨[(75, .b)], [0, 2, 4, 6, 56]⟩)] [.ag] [.pointer d, .agg c, .slice p.A p.n p.c] w R by kernel_rfl) h)
/-- pallet/palletref14.Same -/
def Fpalletref14_Same (a : Array Value) (b : Array Value) (w : World) (R : Bool → World → Prop) : Prop :=
  New (.cells a 34) w fun a1 w0 => New (.cells b 34) w0 fun b1 w01 => ∃ n : Int, w01.cell? (a1.add 0) = some (.int .u8 n) ∧ ∃ n1 : Int, w01.cell? (b1.add 0) = some (.int .u8 n1) ∧ ∃ g : Array Value, ((n == n1) = true → (loadVar 32 (a1.add 1)).run Try.prog w01 = .ok (.agg g) w01) ∧ ∃ g1 : Array Value, ((n == n1) = true → (loadVar 32 (b1.add 1)).run Try.prog w01 = .ok (.agg g1) w01) ∧ ∃ b2 : Bool, ((n == n1) = true → (do eqGuard .eql 32 (.tmp 12) (.tmp 14) (.agg g) (.agg g1); binOp .eql 32 (.agg g) (.agg g1) : Sem Value).run Try.prog w01 = .ok (.bool b2) w01) ∧ ∃ xs : Sl, (((n == n1) && b2) = true → w01.cell? (a1.add 9) = some (.slice xs.A xs.n xs.c)) ∧ ∃ s : ByteArray, (((n == n1) && b2) = true → (convert 22 9 (.slice xs.A xs.n xs.c)).run Try.prog w01 = .ok (.string s) w01) ∧ ∃ xs1 : Sl, (((n == n1) && b2) = true → w01.cell? (b1.add 9) = some (.slice xs1.A xs1.n xs1.c)) ∧ ∃ s1 : ByteArray, (((n == n1) && b2) = true → (convert 22 9 (.slice xs1.A xs1.n xs1.c)).run Try.prog w01 = .ok (.string s1) w01) ∧ R (((n == n1) && b2) && (sEq s s1)) w01
theorem Fpalletref14_Same.calls (a : Array Value) (b : Array Value) (w : World) (R : Bool → World → Prop) (h : Fpalletref14_Same a b w R) : Cpalletref14_Same a b w R :=
  calls_of_vc (anOp_ok callable) wide Try.func13 [] [.b] [.agg a, .agg b] w R (Eq.mp (show Fpalletref14_Same a b w R = vcF Try.prog G Try.f13 [] [.b] [.agg a, .agg b] w R by kernel_rfl) h)
/-- pallet/palletref14.At -/
def Fpalletref14_At (key : Int) (code : Int) (n : Int) (w : World) (R : (Array Value) → World → Prop) : Prop :=
  New (.cells #[.int .u8 0, .int .u8 0, .int .u16 0, .int .u64 0, .bool false, .int .i64 0, .int .i64 0, .bool false, .bool false, .slice none 0 0] 34) w fun a w0 => Cpalletref14_Ends key code w0 fun g w01 => New (.cells #[.int .u8 0, .int .u8 0, .int .u16 0, .int .u64 0, .bool false, .int .i64 0, .int .i64 0, .bool false, .bool false, .slice none 0 0] 34) w01 fun r w02 => RunU Try.prog (storeVar 34 r (.agg g)) w02 fun w03 => Put ((r.add 1).add 2) (.int .u64 n) w03 fun w04 => Put ((r.add 1).add 3) (.bool true) w04 fun w05 => ∃ g1 : Array Value, (loadVar 34 r).run Try.prog w05 = .ok (.agg g1) w05 ∧ RunU Try.prog (storeVar 34 a (.agg g1)) w05 fun w06 => ∃ res : Array Value, (loadVar 34 a).run Try.prog w06 = .ok (.agg res) w06 ∧ R res w06
theorem Fpalletref14_At.calls (key : Int) (code : Int) (n : Int) (w : World) (R : (Array Value) → World → Prop) (h : Fpalletref14_At key code n w R) : Cpalletref14_At key code n w R :=
  calls_of_vc (anOp_ok callable) wide Try.func14 [] [.ag] [.int .u8 key, .int .u16 code, .int .u64 n] w R (Eq.mp (show Fpalletref14_At key code n w R = vcF Try.prog G Try.f14 [] [.ag] [.int .u8 key, .int .u16 code, .int .u64 n] w R by kernel_rfl) h)
end Go.Proofs.Ytaneeadpjelomaa

-- printed by wip/cf/cfprint.py
namespace Go.Proofs.Ytaneeadpjelomaa
open Go CF
set_option linter.unusedVariables false
set_option maxRecDepth 100000
/-- pallet/palletref13.Unpack -/
def Fpalletref13_Unpack (p : Sl) (with_ : Bool) (w : World) (R : Sl → Bool → World → Prop) : Prop :=
  letX (fun (n : Int) (w0 : World) => (n ≠ 0) ∧ Br (((p.n : Int).tmod n) != 0) (R (⟨none, 0, 0⟩ : Sl) false w0) (∃ (I : Sl → Int → World → Prop) (μ : Sl → Int → World → Nat), I (⟨none, 0, 0⟩ : Sl) 0 w0 ∧ ∀ (out : Sl) (at_ : Int) (w01 : World), I out at_ w01 → Br (decide (at_ < (p.n : Int))) (letX (fun (out1 : Sl) (w02 : World) => I out1 (IntKind.wrap .i64 (at_ + n)) w02 ∧ μ out1 (IntKind.wrap .i64 (at_ + n)) w02 < μ out at_ w01) fun J_ => New (.cells #[.int .u8 0, .int .u8 0, .int .u8 0, .int .u8 0, .int .u8 0, .int .u8 0, .int .u8 0, .int .u8 0, .int .u8 0, .int .u8 0, .int .u8 0, .int .u8 0, .int .u8 0, .int .u8 0, .int .u8 0, .int .u8 0, .int .u16 0, .int .u16 0, .int .u32 0] 78) w01 fun b w03 => ∃ (I1 : Int → World → Prop) (μ1 : Int → World → Nat), I1 0 w03 ∧ ∀ (i : Int) (w04 : World), I1 i w04 → Br (decide (i < 16)) ((0 ≤ (IntKind.wrap .i64 (at_ + i)) ∧ (IntKind.wrap .i64 (at_ + i)) < (p.n : Int) ∧ p.A.isSome = true) ∧ ∃ n1 : Int, w04.cell? ((gA p.A).add ((IntKind.wrap .i64 (at_ + i)).toNat * 1)) = some (.int .u8 n1) ∧ (0 ≤ i ∧ i < (16 : Int)) ∧ Put ((b.add 0).add (i.toNat * 1)) (.int .u8 n1) w04 fun w05 => I1 (IntKind.wrap .i64 (i + 1)) w05 ∧ μ1 (IntKind.wrap .i64 (i + 1)) w05 < μ1 i w04) (letX (fun (w06 : World) => ∃ g : Array Value, (loadVar 78 b).run Try.prog w06 = .ok (.agg g) w06 ∧ RunK Try.prog .sl (Instr.buildSlice 42 1 #[(0, .agg g)]) w06 fun xs w07 => RunK Try.prog .sl (Builtin.append_ #[42, 42] 42 #[.slice out.A out.n out.c, .slice xs.A xs.n xs.c]) w07 fun xs1 w08 => J_ xs1 w08) fun J_1 => Br with_ (Cpalletref01_Num p (IntKind.wrap .i64 (at_ + 16)) 2 w04 fun n2 w09 => Cpalletref01_Num p (IntKind.wrap .i64 (at_ + 18)) 2 w09 fun n3 w010 => Cpalletref01_Num p (IntKind.wrap .i64 (at_ + 20)) 4 w010 fun n4 w011 => RunU Try.prog (storeVar 76 (b.add 16) (.agg #[.int .u16 (IntKind.wrap .u16 n2), .int .u16 (IntKind.wrap .u16 n3), .int .u32 (IntKind.wrap .u32 n4)])) w011 fun w012 => J_1 w012) (J_1 w04))) (R out true w01))) fun J_2 => Br with_ (J_2 24 w) (J_2 16 w)
theorem Fpalletref13_Unpack.calls (p : Sl) (with_ : Bool) (w : World) (R : Sl → Bool → World → Prop) (h : Fpalletref13_Unpack p with_ w R) : Cpalletref13_Unpack p with_ w R :=
  calls_of_vc (anOp_ok callable) wide Try.func15 [(24, ⟨[(7, .sl), (8, .i .i64)], [0, 1, 6]⟩), (5, ⟨[(7, .sl)], [0, 1, 6, 8]⟩), (36, ⟨[(10, .i .i64)], [0, 1, 6, 7, 8, 9]⟩), (49, ⟨[], [0, 1, 6, 7, 8, 9]⟩), (10, ⟨[(6, .i .i64)], [0, 1]⟩)] [.sl, .b] [.slice p.A p.n p.c, .bool with_] w R (Eq.mp (show Fpalletref13_Unpack p with_ w R = vcF Try.prog G Try.f15 [(24, ⟨[(7, .sl), (8, .i .i64)], [0, 1, 6]⟩), (5, ⟨[(7, .sl)], [0, 1, 6, 8]⟩), (36, ⟨[(10, .i .i64)], [0, 1, 6, 7, 8, 9]⟩), (49, ⟨[], [0, 1, 6, 7, 8, 9]⟩), (10, ⟨[(6, .i .i64)], [0, 1]⟩)] [.sl, .b] [.slice p.A p.n p.c, .bool with_] w R by kernel_rfl) h)
/-- pallet/palletlaw14.bytes -/
def Fpalletlaw14_bytes (n : Int) (b : Int) (w : World) (R : Sl → World → Prop) : Prop :=
  RunK Try.prog .sl (Instr.makeSlice 22 (.int .i64 n) (.int .i64 n)) w fun xs w0 => ∃ (I : Int → World → Prop) (μ : Int → World → Nat), I 0 w0 ∧ ∀ (i : Int) (w01 : World), I i w01 → Br (decide (i < n)) ((0 ≤ i ∧ i < (xs.n : Int) ∧ xs.A.isSome = true) ∧ Put ((gA xs.A).add (i.toNat * 1)) (.int .u8 b) w01 fun w02 => I (IntKind.wrap .i64 (i + 1)) w02 ∧ μ (IntKind.wrap .i64 (i + 1)) w02 < μ i w01) (R xs w01)
theorem Fpalletlaw14_bytes.calls (n : Int) (b : Int) (w : World) (R : Sl → World → Prop) (h : Fpalletlaw14_bytes n b w R) : Cpalletlaw14_bytes n b w R :=
  calls_of_vc (anOp_ok callable) wide Try.func16 [(9, ⟨[(6, .i .i64)], [0, 1, 5]⟩)] [.sl] [.int .i64 n, .int .u8 b] w R (Eq.mp (show Fpalletlaw14_bytes n b w R = vcF Try.prog G Try.f16 [(9, ⟨[(6, .i .i64)], [0, 1, 5]⟩)] [.sl] [.int .i64 n, .int .u8 b] w R by kernel_rfl) h)
/-- (*pallet/world.World).Waits -/
def Fworld_World_Waits (w_ : Option Addr) (w : World) (R : Int → World → Prop) : Prop :=
  Br ((w_).isNone) (R 0 w) (w_.isSome = true ∧ ∃ xs : Sl, w.cell? ((gA w_).add 2) = some (.slice xs.A xs.n xs.c) ∧ R (xs.n : Int) w)
theorem Fworld_World_Waits.calls (w_ : Option Addr) (w : World) (R : Int → World → Prop) (h : Fworld_World_Waits w_ w R) : Cworld_World_Waits w_ w R :=
  calls_of_vc (anOp_ok callable) wide Try.func17 [] [.i .i64] [.pointer w_] w R (Eq.mp (show Fworld_World_Waits w_ w R = vcF Try.prog G Try.f17 [] [.i .i64] [.pointer w_] w R by kernel_rfl) h)
/-- pallet/palletref14.Ends -/
def Fpalletref14_Ends (key : Int) (code : Int) (w : World) (R : (Array Value) → World → Prop) : Prop :=
  New (.cells #[.int .u8 0, .int .u8 0, .int .u16 0, .int .u64 0, .bool false, .int .i64 0, .int .i64 0, .bool false, .bool false, .slice none 0 0] 34) w fun a w0 => ∃ g : Array Value, (Instr.build 34 #[(0, .int .u8 2), (1, .agg #[.int .u8 key, .int .u16 code, .int .u64 0, .bool false, .int .i64 0, .int .i64 0, .bool false, .bool false])]).run Try.prog w0 = .ok (.agg g) w0 ∧ RunU Try.prog (storeVar 34 a (.agg g)) w0 fun w01 => ∃ res : Array Value, (loadVar 34 a).run Try.prog w01 = .ok (.agg res) w01 ∧ R res w01
theorem Fpalletref14_Ends.calls (key : Int) (code : Int) (w : World) (R : (Array Value) → World → Prop) (h : Fpalletref14_Ends key code w R) : Cpalletref14_Ends key code w R :=
  calls_of_vc (anOp_ok callable) wide Try.func18 [] [.ag] [.int .u8 key, .int .u16 code] w R (Eq.mp (show Fpalletref14_Ends key code w R = vcF Try.prog G Try.f18 [] [.ag] [.int .u8 key, .int .u16 code] w R by kernel_rfl) h)
/-- (*pallet/world.World).Plan -/
def Fworld_World_Plan (w_ : Option Addr) (fails : Sl) (stop : Int) (w : World) (R : World → Prop) : Prop :=
  Br ((w_).isNone) (R w) (New (.map #[] 0) w fun m w0 => w_.isSome = true ∧ Put ((gA w_).add 3) (.int .i64 0) w0 fun w01 => w_.isSome = true ∧ Put ((gA w_).add 5) (.int .i64 stop) w01 fun w02 => w_.isSome = true ∧ Put ((gA w_).add 4) (.map (some m.block)) w02 fun w03 => ∃ (I : Int → World → Prop) (μ : Int → World → Nat), I 0 w03 ∧ ∀ (x : Int) (w04 : World), I x w04 → Br (decide (x < (fails.n : Int))) ((0 ≤ x ∧ x < (fails.n : Int) ∧ fails.A.isSome = true) ∧ ∃ n : Int, w04.cell? ((gA fails.A).add (x.toNat * 1)) = some (.int .i64 n) ∧ w_.isSome = true ∧ ∃ m1 : Option Nat, w04.cell? ((gA w_).add 4) = some (.map m1) ∧ RunU Try.prog (Instr.mapUpdate 82 (.map m1) (.int .i64 n) (.bool true)) w04 fun w05 => I (IntKind.wrap .i64 (x + 1)) w05 ∧ μ (IntKind.wrap .i64 (x + 1)) w05 < μ x w04) (R w04))
theorem Fworld_World_Plan.calls (w_ : Option Addr) (fails : Sl) (stop : Int) (w : World) (R : World → Prop) (h : Fworld_World_Plan w_ fails stop w R) : Cworld_World_Plan w_ fails stop w R :=
  calls_of_vc (anOp_ok callable) wide Try.func19 [(9, ⟨[(23, .i .i64)], [0, 21, 22]⟩)] [] [.pointer w_, .slice fails.A fails.n fails.c, .int .i64 stop] w R (Eq.mp (show Fworld_World_Plan w_ fails stop w R = vcF Try.prog G Try.f19 [(9, ⟨[(23, .i .i64)], [0, 21, 22]⟩)] [] [.pointer w_, .slice fails.A fails.n fails.c, .int .i64 stop] w R by kernel_rfl) h)
/-- pallet/world.New -/
def Fworld_New (w : World) (R : (Option Addr) → World → Prop) : Prop :=
  New (.map #[] 0) w fun m w0 => New (.map #[] 0) w0 fun m1 w01 => New (.cells #[.map (some m.block), .map (some m1.block), .slice none 0 0, .int .i64 0, .map none, .int .i64 (-1), .bool false] 84) w01 fun a w02 => R (some a) w02
theorem Fworld_New.calls (w : World) (R : (Option Addr) → World → Prop) (h : Fworld_New w R) : Cworld_New w R :=
  calls_of_vc (anOp_ok callable) wide Try.func20 [] [.p] [] w R (Eq.mp (show Fworld_New w R = vcF Try.prog G Try.f20 [] [.p] [] w R by kernel_rfl) h)
/-- pallet/store.Open -/
def Fstore_Open (w_ : Option Addr) (file : ByteArray) (blocks : Int) (cache : Bool) (w : World) (R : (Option Addr) → Int → World → Prop) : Prop :=
  Br ((((decide ((file.size : Int) < 1)) || (decide ((file.size : Int) > 32))) || (decide (blocks < 1))) || (decide (blocks > 4096))) (R none 1 w) (Br ((w_).isNone) (R none 8 w) (New (.cells #[.pointer w_, .string file, .int .i64 blocks, .bool cache] 86) w fun a w0 => R (some a) 0 w0))
theorem Fstore_Open.calls (w_ : Option Addr) (file : ByteArray) (blocks : Int) (cache : Bool) (w : World) (R : (Option Addr) → Int → World → Prop) (h : Fstore_Open w_ file blocks cache w R) : Cstore_Open w_ file blocks cache w R :=
  calls_of_vc (anOp_ok callable) wide Try.func21 [] [.p, .i .i64] [.pointer w_, .string file, .int .i64 blocks, .bool cache] w R (Eq.mp (show Fstore_Open w_ file blocks cache w R = vcF Try.prog G Try.f21 [] [.p, .i .i64] [.pointer w_, .string file, .int .i64 blocks, .bool cache] w R by kernel_rfl) h)
/-- pallet/sbc.fails -/
def Fsbc_fails (s : Array Value) (w : World) (R : (Array Value) → World → Prop) : Prop :=
  New (.cells s 32) w fun s1 w0 => New (.cells #[.int .u8 0, .int .u8 0, .int .u16 0, .int .u64 0, .bool false, .int .i64 0, .int .i64 0, .bool false, .bool false, .slice none 0 0] 34) w0 fun a w01 => ∃ g : Array Value, (loadVar 32 s1).run Try.prog w01 = .ok (.agg g) w01 ∧ ∃ g1 : Array Value, (Instr.build 34 #[(0, .int .u8 2), (1, .agg g)]).run Try.prog w01 = .ok (.agg g1) w01 ∧ RunU Try.prog (storeVar 34 a (.agg g1)) w01 fun w02 => ∃ res : Array Value, (loadVar 34 a).run Try.prog w02 = .ok (.agg res) w02 ∧ R res w02
theorem Fsbc_fails.calls (s : Array Value) (w : World) (R : (Array Value) → World → Prop) (h : Fsbc_fails s w R) : Csbc_fails s w R :=
  calls_of_vc (anOp_ok callable) wide Try.func22 [] [.ag] [.agg s] w R (Eq.mp (show Fsbc_fails s w R = vcF Try.prog G Try.f22 [] [.ag] [.agg s] w R by kernel_rfl) h)
/-- pallet/pi.Known -/
def Fpi_Known (kind : Int) (prot : Int) (w : World) (R : Bool → World → Prop) : Prop :=
  R ((decide (kind ≤ 3)) && ((prot == 0) || ((decide (kind > 0)) && (decide (prot ≤ 4))))) w
theorem Fpi_Known.calls (kind : Int) (prot : Int) (w : World) (R : Bool → World → Prop) (h : Fpi_Known kind prot w R) : Cpi_Known kind prot w R :=
  calls_of_vc (anOp_ok callable) wide Try.func23 [] [.b] [.int .u8 kind, .int .u8 prot] w R (Eq.mp (show Fpi_Known kind prot w R = vcF Try.prog G Try.f23 [] [.b] [.int .u8 kind, .int .u8 prot] w R by kernel_rfl) h)
/-- pallet/be.Within -/
def Fbe_Within (lba : Int) (n : Int) (blocks : Int) (w : World) (R : Bool → World → Prop) : Prop :=
  R ((decide (lba ≤ blocks)) && (decide (n ≤ (IntKind.wrap .u64 (blocks - lba))))) w
theorem Fbe_Within.calls (lba : Int) (n : Int) (blocks : Int) (w : World) (R : Bool → World → Prop) (h : Fbe_Within lba n blocks w R) : Cbe_Within lba n blocks w R :=
  calls_of_vc (anOp_ok callable) wide Try.func24 [] [.b] [.int .u64 lba, .int .u64 n, .int .u64 blocks] w R (Eq.mp (show Fbe_Within lba n blocks w R = vcF Try.prog G Try.f24 [] [.b] [.int .u64 lba, .int .u64 n, .int .u64 blocks] w R by kernel_rfl) h)
/-- (*pallet/sbc.Dev).blocks -/
def Fsbc_Dev_blocks (d : Option Addr) (w : World) (R : Int → World → Prop) : Prop :=
  d.isSome = true ∧ ∃ p : Option Addr, w.cell? ((gA d).add 0) = some (.pointer p) ∧ Cstore_Store_Blocks p w fun n w0 => R (IntKind.wrap .u64 n) w0
theorem Fsbc_Dev_blocks.calls (d : Option Addr) (w : World) (R : Int → World → Prop) (h : Fsbc_Dev_blocks d w R) : Csbc_Dev_blocks d w R :=
  calls_of_vc (anOp_ok callable) wide Try.func25 [] [.i .u64] [.pointer d] w R (Eq.mp (show Fsbc_Dev_blocks d w R = vcF Try.prog G Try.f25 [] [.i .u64] [.pointer d] w R by kernel_rfl) h)
/-- pallet/sbc.at -/
def Fsbc_at (key : Int) (code : Int) (info : Int) (w : World) (R : (Array Value) → World → Prop) : Prop :=
  New (.cells #[.int .u8 0, .int .u8 0, .int .u16 0, .int .u64 0, .bool false, .int .i64 0, .int .i64 0, .bool false, .bool false, .slice none 0 0] 34) w fun a w0 => Csbc_fails #[.int .u8 key, .int .u16 code, .int .u64 info, .bool true, .int .i64 0, .int .i64 0, .bool false, .bool false] w0 fun g w01 => RunU Try.prog (storeVar 34 a (.agg g)) w01 fun w02 => ∃ res : Array Value, (loadVar 34 a).run Try.prog w02 = .ok (.agg res) w02 ∧ R res w02
theorem Fsbc_at.calls (key : Int) (code : Int) (info : Int) (w : World) (R : (Array Value) → World → Prop) (h : Fsbc_at key code info w R) : Csbc_at key code info w R :=
  calls_of_vc (anOp_ok callable) wide Try.func26 [] [.ag] [.int .u8 key, .int .u16 code, .int .u64 info] w R (Eq.mp (show Fsbc_at key code info w R = vcF Try.prog G Try.f26 [] [.ag] [.int .u8 key, .int .u16 code, .int .u64 info] w R by kernel_rfl) h)
/-- (*pallet/sbc.Dev).read -/
def Fsbc_Dev_read (d : Option Addr) (c : Array Value) (w : World) (R : Sl → (Array Value) → Bool → World → Prop) : Prop :=
  New (.cells c 38) w fun c1 w0 => New (.cells #[.int .u8 0, .int .u8 0, .int .u16 0, .int .u64 0, .bool false, .int .i64 0, .int .i64 0, .bool false, .bool false, .slice none 0 0] 34) w0 fun a w01 => ∀ w02, w02 = w01.drew → ∃ S : World → Prop, S w02 ∧ d.isSome = true ∧ ∃ p : Option Addr, (∀ u, S u → u.cell? ((gA d).add 0) = some (.pointer p)) ∧ ∃ n : Int, (∀ u1, S u1 → u1.cell? (c1.add 2) = some (.int .u64 n)) ∧ ∃ n1 : Int, (∀ u2, S u2 → u2.cell? (c1.add 3) = some (.int .u64 n1)) ∧ Cstore_Store_Read p (IntKind.wrap .i64 n) (IntKind.wrap .i64 n1) w02 fun xs n2 n3 w03 => Br (n3 != 0) (∃ n4 : Int, w03.cell? (c1.add 2) = some (.int .u64 n4) ∧ Csbc_at 3 4352 (IntKind.wrap .u64 (n4 + (IntKind.wrap .u64 n2))) w03 fun g w04 => RunU Try.prog (storeVar 34 a (.agg g)) w04 fun w05 => ∃ res : Array Value, (loadVar 34 a).run Try.prog w05 = .ok (.agg res) w05 ∧ R (⟨none, 0, 0⟩ : Sl) res false w05) (∃ (I : Int → World → Prop) (μ : Int → World → Nat), I 0 w03 ∧ ∀ (x : Int) (w06 : World), I x w06 → Br (decide (x < (xs.n : Int))) ((0 ≤ x ∧ x < (xs.n : Int) ∧ xs.A.isSome = true) ∧ ∃ g1 : Array Value, (loadVar 78 ((gA xs.A).add (x.toNat * 19))).run Try.prog w06 = .ok (.agg g1) w06 ∧ New (.cells #[.int .u8 0, .int .u8 0, .int .u8 0, .int .u8 0, .int .u8 0, .int .u8 0, .int .u8 0, .int .u8 0, .int .u8 0, .int .u8 0, .int .u8 0, .int .u8 0, .int .u8 0, .int .u8 0, .int .u8 0, .int .u8 0, .int .u16 0, .int .u16 0, .int .u32 0] 78) w06 fun b w07 => RunU Try.prog (storeVar 78 b (.agg g1)) w07 fun w08 => ∃ n5 : Int, w08.cell? (c1.add 2) = some (.int .u64 n5) ∧ ∀ w09, w09 = w08.drew → ∃ S1 : World → Prop, S1 w09 ∧ d.isSome = true ∧ ∃ n6 : Int, (∀ u3, S1 u3 → u3.cell? ((gA d).add 1) = some (.int .u8 n6)) ∧ ∃ n7 : Int, (∀ u4, S1 u4 → u4.cell? (c1.add 6) = some (.int .u8 n7)) ∧ ∃ g2 : Array Value, (∀ u5, S1 u5 → (loadVar 78 b).run Try.prog u5 = .ok (.agg g2) u5) ∧ Cpi_Check n6 n7 (IntKind.wrap .u64 (n5 + (IntKind.wrap .u64 x))) g2 w09 fun n8 w010 => Br (n8 != 0) (Csbc_at 11 n8 (IntKind.wrap .u64 (n5 + (IntKind.wrap .u64 x))) w010 fun g3 w011 => RunU Try.prog (storeVar 34 a (.agg g3)) w011 fun w012 => ∃ res1 : Array Value, (loadVar 34 a).run Try.prog w012 = .ok (.agg res1) w012 ∧ R (⟨none, 0, 0⟩ : Sl) res1 false w012) (I (IntKind.wrap .i64 (x + 1)) w010 ∧ μ (IntKind.wrap .i64 (x + 1)) w010 < μ x w06)) (RunU Try.prog (storeVar 34 a (.agg #[.int .u8 0, .int .u8 0, .int .u16 0, .int .u64 0, .bool false, .int .i64 0, .int .i64 0, .bool false, .bool false, .slice none 0 0])) w06 fun w013 => ∃ res2 : Array Value, (loadVar 34 a).run Try.prog w013 = .ok (.agg res2) w013 ∧ R xs res2 true w013))
theorem Fsbc_Dev_read.calls (d : Option Addr) (c : Array Value) (w : World) (R : Sl → (Array Value) → Bool → World → Prop) (h : Fsbc_Dev_read d c w R) : Csbc_Dev_read d c w R :=
  calls_of_vc (anOp_ok callable) wide Try.func27 [(15, ⟨[(39, .i .i64)], [0, 3, 5, 7, 37, 38]⟩)] [.sl, .ag, .b] [.pointer d, .agg c] w R (Eq.mp (show Fsbc_Dev_read d c w R = vcF Try.prog G Try.f27 [(15, ⟨[(39, .i .i64)], [0, 3, 5, 7, 37, 38]⟩)] [.sl, .ag, .b] [.pointer d, .agg c] w R by kernel_rfl) h)
/-- pallet/sbc.good -/
def Fsbc_good (data : Sl) (w : World) (R : (Array Value) → World → Prop) : Prop :=
  New (.cells #[.int .u8 0, .int .u8 0, .int .u16 0, .int .u64 0, .bool false, .int .i64 0, .int .i64 0, .bool false, .bool false, .slice none 0 0] 34) w fun a w0 => RunU Try.prog (storeVar 34 a (.agg #[.int .u8 0, .int .u8 0, .int .u16 0, .int .u64 0, .bool false, .int .i64 0, .int .i64 0, .bool false, .bool false, .slice data.A data.n data.c])) w0 fun w01 => ∃ res : Array Value, (loadVar 34 a).run Try.prog w01 = .ok (.agg res) w01 ∧ R res w01
theorem Fsbc_good.calls (data : Sl) (w : World) (R : (Array Value) → World → Prop) (h : Fsbc_good data w R) : Csbc_good data w R :=
  calls_of_vc (anOp_ok callable) wide Try.func28 [] [.ag] [.slice data.A data.n data.c] w R (Eq.mp (show Fsbc_good data w R = vcF Try.prog G Try.f28 [] [.ag] [.slice data.A data.n data.c] w R by kernel_rfl) h)
/-- pallet/pi.Pack -/
def Fpi_Pack (list : Sl) (with_ : Bool) (w : World) (R : Sl → World → Prop) : Prop :=
  ∃ (I : Sl → Int → World → Prop) (μ : Sl → Int → World → Nat), I (⟨none, 0, 0⟩ : Sl) 0 w ∧ ∀ (p : Sl) (x : Int) (w0 : World), I p x w0 → Br (decide (x < (list.n : Int))) (letX (fun (p1 : Sl) (w01 : World) => I p1 (IntKind.wrap .i64 (x + 1)) w01 ∧ μ p1 (IntKind.wrap .i64 (x + 1)) w01 < μ p x w0) fun J_ => (0 ≤ x ∧ x < (list.n : Int) ∧ list.A.isSome = true) ∧ ∃ g : Array Value, (loadVar 78 ((gA list.A).add (x.toNat * 19))).run Try.prog w0 = .ok (.agg g) w0 ∧ New (.cells #[.int .u8 0, .int .u8 0, .int .u8 0, .int .u8 0, .int .u8 0, .int .u8 0, .int .u8 0, .int .u8 0, .int .u8 0, .int .u8 0, .int .u8 0, .int .u8 0, .int .u8 0, .int .u8 0, .int .u8 0, .int .u8 0, .int .u16 0, .int .u16 0, .int .u32 0] 78) w0 fun b w02 => RunU Try.prog (storeVar 78 b (.agg g)) w02 fun w03 => (0 ≤ (0 : Int) ∧ (0 : Int) ≤ (16 : Int) ∧ (16 : Int) ≤ (16 : Int)) ∧ RunK Try.prog .sl (Builtin.append_ #[22, 22] 22 #[.slice p.A p.n p.c, .slice (some (if 16 = 0 then (b.add 0) else (b.add 0).add (0 * 1))) (16 - 0) (16 - 0)]) w03 fun xs w04 => Br with_ (∃ g1 : Array Value, (loadVar 76 (b.add 16)).run Try.prog w04 = .ok (.agg g1) w04 ∧ New (.cells #[.int .u16 0, .int .u16 0, .int .u32 0] 76) w04 fun t w06 => RunU Try.prog (storeVar 76 t (.agg g1)) w06 fun w07 => ∃ n : Int, w07.cell? (t.add 0) = some (.int .u16 n) ∧ ∃ n1 : Int, w07.cell? (t.add 0) = some (.int .u16 n1) ∧ ∃ n2 : Int, w07.cell? (t.add 1) = some (.int .u16 n2) ∧ ∃ n3 : Int, w07.cell? (t.add 1) = some (.int .u16 n3) ∧ ∃ n4 : Int, w07.cell? (t.add 2) = some (.int .u32 n4) ∧ ∃ n5 : Int, w07.cell? (t.add 2) = some (.int .u32 n5) ∧ ∃ n6 : Int, w07.cell? (t.add 2) = some (.int .u32 n6) ∧ ∃ n7 : Int, w07.cell? (t.add 2) = some (.int .u32 n7) ∧ RunK Try.prog .sl (Instr.buildSlice 22 8 #[(0, .int .u8 (IntKind.wrap .u8 (bShr .u16 n 8))), (1, .int .u8 (IntKind.wrap .u8 n1)), (2, .int .u8 (IntKind.wrap .u8 (bShr .u16 n2 8))), (3, .int .u8 (IntKind.wrap .u8 n3)), (4, .int .u8 (IntKind.wrap .u8 (bShr .u32 n4 24))), (5, .int .u8 (IntKind.wrap .u8 (bShr .u32 n5 16))), (6, .int .u8 (IntKind.wrap .u8 (bShr .u32 n6 8))), (7, .int .u8 (IntKind.wrap .u8 n7))]) w07 fun xs1 w08 => RunK Try.prog .sl (Builtin.append_ #[22, 22] 22 #[.slice xs.A xs.n xs.c, .slice xs1.A xs1.n xs1.c]) w08 fun xs2 w09 => J_ xs2 w09) (J_ xs w04)) (R p w0)
theorem Fpi_Pack.calls (list : Sl) (with_ : Bool) (w : World) (R : Sl → World → Prop) (h : Fpi_Pack list with_ w R) : Cpi_Pack list with_ w R :=
  calls_of_vc (anOp_ok callable) wide Try.func29 [(9, ⟨[(5, .sl), (11, .i .i64)], [1, 9, 10]⟩), (5, ⟨[(5, .sl)], [1, 9, 10, 11]⟩)] [.sl] [.slice list.A list.n list.c, .bool with_] w R (Eq.mp (show Fpi_Pack list with_ w R = vcF Try.prog G Try.f29 [(9, ⟨[(5, .sl), (11, .i .i64)], [1, 9, 10]⟩), (5, ⟨[(5, .sl)], [1, 9, 10, 11]⟩)] [.sl] [.slice list.A list.n list.c, .bool with_] w R by kernel_rfl) h)
/-- (*pallet/sbc.Dev).come -/
def Fsbc_Dev_come (d : Option Addr) (c : Array Value) (p : Sl) (n : Int) (w : World) (R : Sl → (Array Value) → Bool → World → Prop) : Prop :=
  New (.cells c 38) w fun c1 w0 => New (.cells #[.int .u8 0, .int .u8 0, .int .u16 0, .int .u64 0, .bool false, .int .i64 0, .int .i64 0, .bool false, .bool false, .slice none 0 0] 34) w0 fun a w01 => ∃ n1 : Int, w01.cell? (c1.add 6) = some (.int .u8 n1) ∧ Cpi_Unpack p (n1 != 0) w01 fun xs b w02 => Br ((!b) || ((IntKind.wrap .u64 (xs.n : Int)) != n)) (Csbc_length  w02 fun g w03 => RunU Try.prog (storeVar 34 a (.agg g)) w03 fun w04 => ∃ res : Array Value, (loadVar 34 a).run Try.prog w04 = .ok (.agg res) w04 ∧ R (⟨none, 0, 0⟩ : Sl) res false w04) (∃ (I : Int → World → Prop) (μ : Int → World → Nat), I 0 w02 ∧ ∀ (x : Int) (w05 : World), I x w05 → Br (decide (x < (xs.n : Int))) (letX (fun (w06 : World) => I (IntKind.wrap .i64 (x + 1)) w06 ∧ μ (IntKind.wrap .i64 (x + 1)) w06 < μ x w05) fun J_ => ∃ n2 : Int, w05.cell? (c1.add 2) = some (.int .u64 n2) ∧ Br (!(n1 != 0)) (∀ w07, w07 = w05.drew → ∃ S : World → Prop, S w07 ∧ d.isSome = true ∧ ∃ n3 : Int, (∀ u, S u → u.cell? ((gA d).add 1) = some (.int .u8 n3)) ∧ (0 ≤ x ∧ x < (xs.n : Int) ∧ xs.A.isSome = true) ∧ ∃ g1 : Array Value, (∀ u1, S u1 → (loadVar 73 (((gA xs.A).add (x.toNat * 19)).add 0)).run Try.prog u1 = .ok (.agg g1) u1) ∧ Cpi_Make n3 (IntKind.wrap .u64 (n2 + (IntKind.wrap .u64 x))) g1 0 w07 fun g2 w08 => (0 ≤ x ∧ x < (xs.n : Int) ∧ xs.A.isSome = true) ∧ RunU Try.prog (storeVar 76 (((gA xs.A).add (x.toNat * 19)).add 16) (.agg g2)) w08 fun w09 => J_ w09) (∀ w010, w010 = w05.drew → ∃ S1 : World → Prop, S1 w010 ∧ d.isSome = true ∧ ∃ n4 : Int, (∀ u2, S1 u2 → u2.cell? ((gA d).add 1) = some (.int .u8 n4)) ∧ ∃ n5 : Int, (∀ u3, S1 u3 → u3.cell? (c1.add 6) = some (.int .u8 n5)) ∧ (0 ≤ x ∧ x < (xs.n : Int) ∧ xs.A.isSome = true) ∧ ∃ g3 : Array Value, (∀ u4, S1 u4 → (loadVar 78 ((gA xs.A).add (x.toNat * 19))).run Try.prog u4 = .ok (.agg g3) u4) ∧ Cpi_Check n4 n5 (IntKind.wrap .u64 (n2 + (IntKind.wrap .u64 x))) g3 w010 fun n6 w011 => Br (n6 != 0) (Csbc_at 11 n6 (IntKind.wrap .u64 (n2 + (IntKind.wrap .u64 x))) w011 fun g4 w012 => RunU Try.prog (storeVar 34 a (.agg g4)) w012 fun w013 => ∃ res1 : Array Value, (loadVar 34 a).run Try.prog w013 = .ok (.agg res1) w013 ∧ R (⟨none, 0, 0⟩ : Sl) res1 false w013) (J_ w011))) (RunU Try.prog (storeVar 34 a (.agg #[.int .u8 0, .int .u8 0, .int .u16 0, .int .u64 0, .bool false, .int .i64 0, .int .i64 0, .bool false, .bool false, .slice none 0 0])) w05 fun w014 => ∃ res2 : Array Value, (loadVar 34 a).run Try.prog w014 = .ok (.agg res2) w014 ∧ R xs res2 true w014))
theorem Fsbc_Dev_come.calls (d : Option Addr) (c : Array Value) (p : Sl) (n : Int) (w : World) (R : Sl → (Array Value) → Bool → World → Prop) (h : Fsbc_Dev_come d c p n w R) : Csbc_Dev_come d c p n w R :=
  calls_of_vc (anOp_ok callable) wide Try.func30 [(18, ⟨[(38, .i .i64)], [0, 5, 9, 11, 12, 37]⟩), (5, ⟨[], [0, 5, 9, 11, 12, 37, 38]⟩)] [.sl, .ag, .b] [.pointer d, .agg c, .slice p.A p.n p.c, .int .u64 n] w R (Eq.mp (show Fsbc_Dev_come d c p n w R = vcF Try.prog G Try.f30 [(18, ⟨[(38, .i .i64)], [0, 5, 9, 11, 12, 37]⟩), (5, ⟨[], [0, 5, 9, 11, 12, 37, 38]⟩)] [.sl, .ag, .b] [.pointer d, .agg c, .slice p.A p.n p.c, .int .u64 n] w R by kernel_rfl) h)
/-- (*pallet/sbc.Dev).write -/
def Fsbc_Dev_write (d : Option Addr) (lba : Int) (l : Sl) (fua : Bool) (w : World) (R : (Array Value) → World → Prop) : Prop :=
  New (.cells #[.int .u8 0, .int .u8 0, .int .u16 0, .int .u64 0, .bool false, .int .i64 0, .int .i64 0, .bool false, .bool false, .slice none 0 0] 34) w fun a w0 => d.isSome = true ∧ ∃ p : Option Addr, w0.cell? ((gA d).add 0) = some (.pointer p) ∧ Cstore_Store_Write p (IntKind.wrap .i64 lba) l fua w0 fun n n1 w01 => Br (n1 != 0) (Csbc_at 3 3072 (IntKind.wrap .u64 (lba + (IntKind.wrap .u64 n))) w01 fun g w02 => RunU Try.prog (storeVar 34 a (.agg g)) w02 fun w03 => ∃ res : Array Value, (loadVar 34 a).run Try.prog w03 = .ok (.agg res) w03 ∧ R res w03) (Csbc_good ⟨none, 0, 0⟩ w01 fun g1 w04 => RunU Try.prog (storeVar 34 a (.agg g1)) w04 fun w05 => ∃ res1 : Array Value, (loadVar 34 a).run Try.prog w05 = .ok (.agg res1) w05 ∧ R res1 w05)
theorem Fsbc_Dev_write.calls (d : Option Addr) (lba : Int) (l : Sl) (fua : Bool) (w : World) (R : (Array Value) → World → Prop) (h : Fsbc_Dev_write d lba l fua w R) : Csbc_Dev_write d lba l fua w R :=
  calls_of_vc (anOp_ok callable) wide Try.func31 [] [.ag] [.pointer d, .int .u64 lba, .slice l.A l.n l.c, .bool fua] w R (Eq.mp (show Fsbc_Dev_write d lba l fua w R = vcF Try.prog G Try.f31 [] [.ag] [.pointer d, .int .u64 lba, .slice l.A l.n l.c, .bool fua] w R by kernel_rfl) h)
/-- (*pallet/sbc.Dev).verify -/
def Fsbc_Dev_verify (d : Option Addr) (c : Array Value) (p : Sl) (w : World) (R : (Array Value) → World → Prop) : Prop :=
  New (.cells c 38) w fun c1 w0 => New (.cells #[.int .u8 0, .int .u8 0, .int .u16 0, .int .u64 0, .bool false, .int .i64 0, .int .i64 0, .bool false, .bool false, .slice none 0 0] 34) w0 fun a w01 => ∃ b : Bool, w01.cell? (c1.add 14) = some (.bool b) ∧ letX (fun (came : Sl) (w02 : World) => ∃ g : Array Value, (loadVar 38 c1).run Try.prog w02 = .ok (.agg g) w02 ∧ Csbc_Dev_read d g w02 fun xs g1 b1 w03 => New (.cells #[.int .u8 0, .int .u8 0, .int .u16 0, .int .u64 0, .bool false, .int .i64 0, .int .i64 0, .bool false, .bool false, .slice none 0 0] 34) w03 fun r w04 => RunU Try.prog (storeVar 34 r (.agg g1)) w04 fun w05 => Br (!b1) (∃ g2 : Array Value, (loadVar 34 r).run Try.prog w05 = .ok (.agg g2) w05 ∧ RunU Try.prog (storeVar 34 a (.agg g2)) w05 fun w06 => ∃ res : Array Value, (loadVar 34 a).run Try.prog w06 = .ok (.agg res) w06 ∧ R res w06) (∃ b2 : Bool, w05.cell? (c1.add 14) = some (.bool b2) ∧ letX (fun (w07 : World) => Csbc_good ⟨none, 0, 0⟩ w07 fun g3 w08 => RunU Try.prog (storeVar 34 a (.agg g3)) w08 fun w09 => ∃ res1 : Array Value, (loadVar 34 a).run Try.prog w09 = .ok (.agg res1) w09 ∧ R res1 w09) fun J_ => Br b2 (Csbc_differ xs came w05 fun n w010 => Br (decide (n ≥ 0)) (Csbc_at 14 7424 (IntKind.wrap .u64 n) w010 fun g4 w011 => RunU Try.prog (storeVar 34 a (.agg g4)) w011 fun w012 => ∃ res2 : Array Value, (loadVar 34 a).run Try.prog w012 = .ok (.agg res2) w012 ∧ R res2 w012) (J_ w010)) (J_ w05))) fun J_1 => Br b (∃ n1 : Int, w01.cell? (c1.add 6) = some (.int .u8 n1) ∧ Cpi_Unpack p (n1 != 0) w01 fun xs1 b3 w013 => ∃ n2 : Int, ((!(!b3)) = true → w013.cell? (c1.add 3) = some (.int .u64 n2)) ∧ Br ((!b3) || ((IntKind.wrap .u64 (xs1.n : Int)) != n2)) (Csbc_length  w013 fun g5 w014 => RunU Try.prog (storeVar 34 a (.agg g5)) w014 fun w015 => ∃ res3 : Array Value, (loadVar 34 a).run Try.prog w015 = .ok (.agg res3) w015 ∧ R res3 w015) (J_1 xs1 w013)) (J_1 (⟨none, 0, 0⟩ : Sl) w01)
theorem Fsbc_Dev_verify.calls (d : Option Addr) (c : Array Value) (p : Sl) (w : World) (R : (Array Value) → World → Prop) (h : Fsbc_Dev_verify d c p w R) : Csbc_Dev_verify d c p w R :=
  calls_of_vc (anOp_ok callable) wide Try.func32 [(34, ⟨[], [6]⟩), (10, ⟨[(7, .sl)], [0, 4, 6]⟩)] [.ag] [.pointer d, .agg c, .slice p.A p.n p.c] w R (Eq.mp (show Fsbc_Dev_verify d c p w R = vcF Try.prog G Try.f32 [(34, ⟨[], [6]⟩), (10, ⟨[(7, .sl)], [0, 4, 6]⟩)] [.ag] [.pointer d, .agg c, .slice p.A p.n p.c] w R by kernel_rfl) h)
/-- (*pallet/store.Store).Sync -/
def Fstore_Store_Sync (s : Option Addr) (w : World) (R : Int → World → Prop) : Prop :=
  Br ((s).isNone) (R 8 w) (s.isSome = true ∧ ∃ p : Option Addr, w.cell? ((gA s).add 0) = some (.pointer p) ∧ Cworld_World_Sync p w fun n w0 => R n w0)
theorem Fstore_Store_Sync.calls (s : Option Addr) (w : World) (R : Int → World → Prop) (h : Fstore_Store_Sync s w R) : Cstore_Store_Sync s w R :=
  calls_of_vc (anOp_ok callable) wide Try.func33 [] [.i .i64] [.pointer s] w R (Eq.mp (show Fstore_Store_Sync s w R = vcF Try.prog G Try.f33 [] [.i .i64] [.pointer s] w R by kernel_rfl) h)
/-- (*pallet/sbc.Dev).same -/
def Fsbc_Dev_same (d : Option Addr) (c : Array Value) (p : Sl) (w : World) (R : (Array Value) → World → Prop) : Prop :=
  New (.cells c 38) w fun c1 w0 => New (.cells #[.int .u8 0, .int .u8 0, .int .u16 0, .int .u64 0, .bool false, .int .i64 0, .int .i64 0, .bool false, .bool false, .slice none 0 0] 34) w0 fun a w01 => ∃ n : Int, w01.cell? (c1.add 3) = some (.int .u64 n) ∧ letX (fun (n1 : Int) (w02 : World) => ∃ g : Array Value, (loadVar 38 c1).run Try.prog w02 = .ok (.agg g) w02 ∧ Csbc_Dev_come d g p 1 w02 fun xs g1 b w03 => New (.cells #[.int .u8 0, .int .u8 0, .int .u16 0, .int .u64 0, .bool false, .int .i64 0, .int .i64 0, .bool false, .bool false, .slice none 0 0] 34) w03 fun r w04 => RunU Try.prog (storeVar 34 r (.agg g1)) w04 fun w05 => Br (!b) (∃ g2 : Array Value, (loadVar 34 r).run Try.prog w05 = .ok (.agg g2) w05 ∧ RunU Try.prog (storeVar 34 a (.agg g2)) w05 fun w06 => ∃ res : Array Value, (loadVar 34 a).run Try.prog w06 = .ok (.agg res) w06 ∧ R res w06) (∃ b1 : Bool, w05.cell? (c1.add 7) = some (.bool b1) ∧ (b1 = true → (0 ≤ (0 : Int) ∧ (0 : Int) < (xs.n : Int) ∧ xs.A.isSome = true)) ∧ ∃ g3 : Array Value, (b1 = true → (loadVar 73 (((gA xs.A).add ((0 : Int).toNat * 19)).add 0)).run Try.prog w05 = .ok (.agg g3) w05) ∧ ∃ b2 : Bool, (b1 = true → (do eqGuard .eql 73 (.tmp 42) (.tmp 43) (.agg g3) (.agg #[.int .u8 0, .int .u8 0, .int .u8 0, .int .u8 0, .int .u8 0, .int .u8 0, .int .u8 0, .int .u8 0, .int .u8 0, .int .u8 0, .int .u8 0, .int .u8 0, .int .u8 0, .int .u8 0, .int .u8 0, .int .u8 0]); binOp .eql 73 (.agg g3) (.agg #[.int .u8 0, .int .u8 0, .int .u8 0, .int .u8 0, .int .u8 0, .int .u8 0, .int .u8 0, .int .u8 0, .int .u8 0, .int .u8 0, .int .u8 0, .int .u8 0, .int .u8 0, .int .u8 0, .int .u8 0, .int .u8 0]) : Sem Value).run Try.prog w05 = .ok (.bool b2) w05) ∧ Br (b1 && b2) (∀ w07, w07 = w05.drew → ∃ S : World → Prop, S w07 ∧ d.isSome = true ∧ ∃ p1 : Option Addr, (∀ u, S u → u.cell? ((gA d).add 0) = some (.pointer p1)) ∧ ∃ n2 : Int, (∀ u1, S u1 → u1.cell? (c1.add 2) = some (.int .u64 n2)) ∧ Cstore_Store_Unmap p1 (IntKind.wrap .i64 n2) (IntKind.wrap .i64 n1) w07 fun n3 n4 w08 => Br (n4 != 0) (∃ n5 : Int, w08.cell? (c1.add 2) = some (.int .u64 n5) ∧ Csbc_at 3 3072 (IntKind.wrap .u64 (n5 + (IntKind.wrap .u64 n3))) w08 fun g4 w09 => RunU Try.prog (storeVar 34 a (.agg g4)) w09 fun w010 => ∃ res1 : Array Value, (loadVar 34 a).run Try.prog w010 = .ok (.agg res1) w010 ∧ R res1 w010) (Csbc_good ⟨none, 0, 0⟩ w08 fun g5 w011 => RunU Try.prog (storeVar 34 a (.agg g5)) w011 fun w012 => ∃ res2 : Array Value, (loadVar 34 a).run Try.prog w012 = .ok (.agg res2) w012 ∧ R res2 w012)) (∃ (I : Sl → Int → World → Prop) (μ : Sl → Int → World → Nat), I (⟨none, 0, 0⟩ : Sl) 0 w05 ∧ ∀ (all : Sl) (x : Int) (w013 : World), I all x w013 → Br (decide (x < n1)) (letX (fun (all1 : Sl) (w014 : World) => I all1 (IntKind.wrap .u64 (x + 1)) w014 ∧ μ all1 (IntKind.wrap .u64 (x + 1)) w014 < μ all x w013) fun J_ => (0 ≤ (0 : Int) ∧ (0 : Int) < (xs.n : Int) ∧ xs.A.isSome = true) ∧ ∃ g6 : Array Value, (loadVar 78 ((gA xs.A).add ((0 : Int).toNat * 19))).run Try.prog w013 = .ok (.agg g6) w013 ∧ New (.cells #[.int .u8 0, .int .u8 0, .int .u8 0, .int .u8 0, .int .u8 0, .int .u8 0, .int .u8 0, .int .u8 0, .int .u8 0, .int .u8 0, .int .u8 0, .int .u8 0, .int .u8 0, .int .u8 0, .int .u8 0, .int .u8 0, .int .u16 0, .int .u16 0, .int .u32 0] 78) w013 fun b3 w015 => RunU Try.prog (storeVar 78 b3 (.agg g6)) w015 fun w016 => ∃ n6 : Int, w016.cell? (c1.add 6) = some (.int .u8 n6) ∧ letX (fun (w017 : World) => ∃ g7 : Array Value, (loadVar 78 b3).run Try.prog w017 = .ok (.agg g7) w017 ∧ RunK Try.prog .sl (Instr.buildSlice 42 1 #[(0, .agg g7)]) w017 fun xs1 w018 => RunK Try.prog .sl (Builtin.append_ #[42, 42] 42 #[.slice all.A all.n all.c, .slice xs1.A xs1.n xs1.c]) w018 fun xs2 w019 => J_ xs2 w019) fun J_1 => Br (n6 == 0) (∀ w020, w020 = w016.drew → ∃ S1 : World → Prop, S1 w020 ∧ d.isSome = true ∧ ∃ n7 : Int, (∀ u2, S1 u2 → u2.cell? ((gA d).add 1) = some (.int .u8 n7)) ∧ ∃ n8 : Int, (∀ u3, S1 u3 → u3.cell? (c1.add 2) = some (.int .u64 n8)) ∧ ∃ g8 : Array Value, (∀ u4, S1 u4 → (loadVar 73 (b3.add 0)).run Try.prog u4 = .ok (.agg g8) u4) ∧ Cpi_Make n7 (IntKind.wrap .u64 (n8 + x)) g8 0 w020 fun g9 w021 => RunU Try.prog (storeVar 76 (b3.add 16) (.agg g9)) w021 fun w022 => J_1 w022) (d.isSome = true ∧ ∃ n9 : Int, w016.cell? ((gA d).add 1) = some (.int .u8 n9) ∧ ((!(n9 == 1)) = true → d.isSome = true) ∧ ∃ n10 : Int, ((!(n9 == 1)) = true → w016.cell? ((gA d).add 1) = some (.int .u8 n10)) ∧ Br ((n9 == 1) || (n10 == 2)) (∃ n11 : Int, w016.cell? (c1.add 2) = some (.int .u64 n11) ∧ Put ((b3.add 16).add 2) (.int .u32 (IntKind.wrap .u32 (IntKind.wrap .u64 (n11 + x)))) w016 fun w024 => J_1 w024) (J_1 w016))) (∃ n12 : Int, w013.cell? (c1.add 2) = some (.int .u64 n12) ∧ Csbc_Dev_write d n12 all false w013 fun g10 w025 => RunU Try.prog (storeVar 34 a (.agg g10)) w025 fun w026 => ∃ res3 : Array Value, (loadVar 34 a).run Try.prog w026 = .ok (.agg res3) w026 ∧ R res3 w026)))) fun J_2 => Br (n == 0) (∀ w027, w027 = w01.drew → ∃ S2 : World → Prop, S2 w027 ∧ ∃ n13 : Int, (∀ u5, S2 u5 → u5.cell? (c1.add 2) = some (.int .u64 n13)) ∧ Csbc_Dev_blocks d w027 fun n14 w028 => S2 w028 ∧ J_2 (IntKind.wrap .u64 (n14 - n13)) w028) (J_2 n w01)
theorem Fsbc_Dev_same.calls (d : Option Addr) (c : Array Value) (p : Sl) (w : World) (R : (Array Value) → World → Prop) (h : Fsbc_Dev_same d c p w R) : Csbc_Dev_same d c p w R :=
  calls_of_vc (anOp_ok callable) wide Try.func34 [(42, ⟨[(13, .sl), (69, .i .u64)], [0, 4, 6, 8, 68]⟩), (5, ⟨[(13, .sl)], [0, 4, 6, 8, 68, 69]⟩), (55, ⟨[], [0, 4, 6, 8, 13, 15, 68, 69]⟩), (10, ⟨[(7, .i .u64)], [0, 2, 4, 6]⟩)] [.ag] [.pointer d, .agg c, .slice p.A p.n p.c] w R (Eq.mp (show Fsbc_Dev_same d c p w R = vcF Try.prog G Try.f34 [(42, ⟨[(13, .sl), (69, .i .u64)], [0, 4, 6, 8, 68]⟩), (5, ⟨[(13, .sl)], [0, 4, 6, 8, 68, 69]⟩), (55, ⟨[], [0, 4, 6, 8, 13, 15, 68, 69]⟩), (10, ⟨[(7, .i .u64)], [0, 2, 4, 6]⟩)] [.ag] [.pointer d, .agg c, .slice p.A p.n p.c] w R by kernel_rfl) h)
/-- (*pallet/sbc.Dev).unmap -/
def Fsbc_Dev_unmap (d : Option Addr) (p : Sl) (w : World) (R : (Array Value) → World → Prop) : Prop :=
  New (.cells #[.int .u8 0, .int .u8 0, .int .u16 0, .int .u64 0, .bool false, .int .i64 0, .int .i64 0, .bool false, .bool false, .slice none 0 0] 34) w fun a w0 => Br ((p.n : Int) == 0) (Csbc_good ⟨none, 0, 0⟩ w0 fun g w01 => RunU Try.prog (storeVar 34 a (.agg g)) w01 fun w02 => ∃ res : Array Value, (loadVar 34 a).run Try.prog w02 = .ok (.agg res) w02 ∧ R res w02) (Cbe_Get p 0 2 w0 fun n n1 w03 => Cbe_Get p 2 2 w03 fun n2 n3 w04 => ((!((((n3 != 0) || (decide ((p.n : Int) < 8))) || ((IntKind.wrap .i64 n) != (IntKind.wrap .i64 ((p.n : Int) - 2)))) || ((IntKind.wrap .i64 n2) != (IntKind.wrap .i64 ((p.n : Int) - 8))))) = true → ((16 : Int) ≠ 0)) ∧ Br (((((n3 != 0) || (decide ((p.n : Int) < 8))) || ((IntKind.wrap .i64 n) != (IntKind.wrap .i64 ((p.n : Int) - 2)))) || ((IntKind.wrap .i64 n2) != (IntKind.wrap .i64 ((p.n : Int) - 8)))) || ((n2.tmod 16) != 0)) (Csbc_length  w04 fun g1 w05 => RunU Try.prog (storeVar 34 a (.agg g1)) w05 fun w06 => ∃ res1 : Array Value, (loadVar 34 a).run Try.prog w06 = .ok (.agg res1) w06 ∧ R res1 w06) (∃ (I : Int → Int → World → Prop) (μ : Int → Int → World → Nat), I 0 8 w04 ∧ ∀ (total : Int) (i : Int) (w07 : World), I total i w07 → Br (decide (i < (p.n : Int))) (Cbe_Get p i 8 w07 fun n4 n5 w08 => Cbe_Get p (IntKind.wrap .i64 (i + 8)) 4 w08 fun n6 n7 w09 => Csbc_Dev_blocks d w09 fun n8 w010 => Cbe_Within n4 n6 n8 w010 fun b w011 => Br (!b) (Csbc_at 5 8448 n4 w011 fun g2 w012 => RunU Try.prog (storeVar 34 a (.agg g2)) w012 fun w013 => ∃ res2 : Array Value, (loadVar 34 a).run Try.prog w013 = .ok (.agg res2) w013 ∧ R res2 w013) (Br (decide ((IntKind.wrap .u64 (total + n6)) > 256)) (Csbc_fails #[.int .u8 5, .int .u16 9728, .int .u64 0, .bool false, .int .i64 (IntKind.wrap .i64 (i + 8)), .int .i64 (-1), .bool true, .bool false] w011 fun g3 w014 => RunU Try.prog (storeVar 34 a (.agg g3)) w014 fun w015 => ∃ res3 : Array Value, (loadVar 34 a).run Try.prog w015 = .ok (.agg res3) w015 ∧ R res3 w015) (I (IntKind.wrap .u64 (total + n6)) (IntKind.wrap .i64 (i + 16)) w011 ∧ μ (IntKind.wrap .u64 (total + n6)) (IntKind.wrap .i64 (i + 16)) w011 < μ total i w07))) (∃ (I1 : Int → World → Prop) (μ1 : Int → World → Nat), I1 8 w07 ∧ ∀ (i1 : Int) (w016 : World), I1 i1 w016 → Br (decide (i1 < (p.n : Int))) (Cbe_Get p i1 8 w016 fun n9 n10 w017 => Cbe_Get p (IntKind.wrap .i64 (i1 + 8)) 4 w017 fun n11 n12 w018 => d.isSome = true ∧ ∃ p1 : Option Addr, w018.cell? ((gA d).add 0) = some (.pointer p1) ∧ Cstore_Store_Unmap p1 (IntKind.wrap .i64 n9) (IntKind.wrap .i64 n11) w018 fun n13 n14 w019 => Br (n14 != 0) (Csbc_at 3 3072 (IntKind.wrap .u64 (n9 + (IntKind.wrap .u64 n13))) w019 fun g4 w020 => RunU Try.prog (storeVar 34 a (.agg g4)) w020 fun w021 => ∃ res4 : Array Value, (loadVar 34 a).run Try.prog w021 = .ok (.agg res4) w021 ∧ R res4 w021) (I1 (IntKind.wrap .i64 (i1 + 16)) w019 ∧ μ1 (IntKind.wrap .i64 (i1 + 16)) w019 < μ1 i1 w016)) (Csbc_good ⟨none, 0, 0⟩ w016 fun g5 w022 => RunU Try.prog (storeVar 34 a (.agg g5)) w022 fun w023 => ∃ res5 : Array Value, (loadVar 34 a).run Try.prog w023 = .ok (.agg res5) w023 ∧ R res5 w023))))
theorem Fsbc_Dev_unmap.calls (d : Option Addr) (p : Sl) (w : World) (R : (Array Value) → World → Prop) (h : Fsbc_Dev_unmap d p w R) : Csbc_Dev_unmap d p w R :=
  calls_of_vc (anOp_ok callable) wide Try.func35 [(27, ⟨[(9, .i .u64), (10, .i .i64)], [0, 1, 4]⟩), (57, ⟨[(15, .i .i64)], [0, 1, 4]⟩)] [.ag] [.pointer d, .slice p.A p.n p.c] w R (Eq.mp (show Fsbc_Dev_unmap d p w R = vcF Try.prog G Try.f35 [(27, ⟨[(9, .i .u64), (10, .i .i64)], [0, 1, 4]⟩), (57, ⟨[(15, .i .i64)], [0, 1, 4]⟩)] [.ag] [.pointer d, .slice p.A p.n p.c] w R by kernel_rfl) h)
/-- (*pallet/sbc.Dev).compare -/
def Fsbc_Dev_compare (d : Option Addr) (c : Array Value) (p : Sl) (w : World) (R : (Array Value) → World → Prop) : Prop :=
  New (.cells c 38) w fun c1 w0 => New (.cells #[.int .u8 0, .int .u8 0, .int .u16 0, .int .u64 0, .bool false, .int .i64 0, .int .i64 0, .bool false, .bool false, .slice none 0 0] 34) w0 fun a w01 => ∀ w02, w02 = w01.drew → ∃ S : World → Prop, S w02 ∧ ∃ n : Int, (∀ u, S u → u.cell? (c1.add 6) = some (.int .u8 n)) ∧ ∃ n1 : Int, (∀ u1, S u1 → u1.cell? (c1.add 3) = some (.int .u64 n1)) ∧ Cpi_Size (n != 0) w02 fun n2 w03 => S w03 ∧ Br ((p.n : Int) != (IntKind.wrap .i64 (2 * (IntKind.wrap .i64 (n2 * (IntKind.wrap .i64 n1)))))) (Csbc_length  w03 fun g w04 => RunU Try.prog (storeVar 34 a (.agg g)) w04 fun w05 => ∃ res : Array Value, (loadVar 34 a).run Try.prog w05 = .ok (.agg res) w05 ∧ R res w05) (∀ w06, w06 = w03.drew → ∃ S1 : World → Prop, S1 w06 ∧ (0 ≤ (0 : Int) ∧ (0 : Int) ≤ (IntKind.wrap .i64 (n2 * (IntKind.wrap .i64 n1))) ∧ (IntKind.wrap .i64 (n2 * (IntKind.wrap .i64 n1))) ≤ (p.c : Int) ∧ p.n ≤ p.c) ∧ ∃ n3 : Int, (∀ u2, S1 u2 → u2.cell? (c1.add 6) = some (.int .u8 n3)) ∧ Cpi_Unpack ⟨(cutA p.A p.c 0 1), ((IntKind.wrap .i64 (n2 * (IntKind.wrap .i64 n1))).toNat - 0), (p.c - 0)⟩ (n3 != 0) w06 fun xs b w07 => ∀ w08, w08 = w07.drew → ∃ S2 : World → Prop, S2 w08 ∧ ∃ g1 : Array Value, (∀ u3, S2 u3 → (loadVar 38 c1).run Try.prog u3 = .ok (.agg g1) u3) ∧ (0 ≤ (IntKind.wrap .i64 (n2 * (IntKind.wrap .i64 n1))) ∧ (IntKind.wrap .i64 (n2 * (IntKind.wrap .i64 n1))) ≤ (p.n : Int) ∧ (p.n : Int) ≤ (p.c : Int) ∧ p.n ≤ p.c) ∧ ∃ n4 : Int, (∀ u4, S2 u4 → u4.cell? (c1.add 3) = some (.int .u64 n4)) ∧ (Csbc_Dev_come d g1 ⟨(cutA p.A p.c (IntKind.wrap .i64 (n2 * (IntKind.wrap .i64 n1))).toNat 1), (((p.n : Int)).toNat - (IntKind.wrap .i64 (n2 * (IntKind.wrap .i64 n1))).toNat), (p.c - (IntKind.wrap .i64 (n2 * (IntKind.wrap .i64 n1))).toNat)⟩ n4 w08 fun xs1 g2 b1 w09 => New (.cells #[.int .u8 0, .int .u8 0, .int .u16 0, .int .u64 0, .bool false, .int .i64 0, .int .i64 0, .bool false, .bool false, .slice none 0 0] 34) w09 fun r w010 => S2 w010 ∧ RunU Try.prog (storeVar 34 r (.agg g2)) w010 fun w011 => Br (!b1) (∃ g3 : Array Value, (loadVar 34 r).run Try.prog w011 = .ok (.agg g3) w011 ∧ RunU Try.prog (storeVar 34 a (.agg g3)) w011 fun w012 => ∃ res1 : Array Value, (loadVar 34 a).run Try.prog w012 = .ok (.agg res1) w012 ∧ R res1 w012) (∃ g4 : Array Value, (loadVar 38 c1).run Try.prog w011 = .ok (.agg g4) w011 ∧ Csbc_Dev_read d g4 w011 fun xs2 g5 b2 w013 => RunU Try.prog (storeVar 34 r (.agg g5)) w013 fun w014 => Br (!b2) (∃ g6 : Array Value, (loadVar 34 r).run Try.prog w014 = .ok (.agg g6) w014 ∧ RunU Try.prog (storeVar 34 a (.agg g6)) w014 fun w015 => ∃ res2 : Array Value, (loadVar 34 a).run Try.prog w015 = .ok (.agg res2) w015 ∧ R res2 w015) (Csbc_differ xs2 xs w014 fun n5 w016 => Br (decide (n5 ≥ 0)) (Csbc_at 14 7424 (IntKind.wrap .u64 n5) w016 fun g7 w017 => RunU Try.prog (storeVar 34 a (.agg g7)) w017 fun w018 => ∃ res3 : Array Value, (loadVar 34 a).run Try.prog w018 = .ok (.agg res3) w018 ∧ R res3 w018) (∃ n6 : Int, w016.cell? (c1.add 2) = some (.int .u64 n6) ∧ ∃ b3 : Bool, w016.cell? (c1.add 5) = some (.bool b3) ∧ Csbc_Dev_write d n6 xs1 b3 w016 fun g8 w019 => RunU Try.prog (storeVar 34 a (.agg g8)) w019 fun w020 => ∃ res4 : Array Value, (loadVar 34 a).run Try.prog w020 = .ok (.agg res4) w020 ∧ R res4 w020)))) ∧ New (.cells #[.int .u8 0, .int .u8 0, .int .u16 0, .int .u64 0, .bool false, .int .i64 0, .int .i64 0, .bool false, .bool false, .slice none 0 0] 34) w08 fun r1 w021 => S2 w021 ∧ Csbc_Dev_come d g1 ⟨(cutA p.A p.c (IntKind.wrap .i64 (n2 * (IntKind.wrap .i64 n1))).toNat 1), (((p.n : Int)).toNat - (IntKind.wrap .i64 (n2 * (IntKind.wrap .i64 n1))).toNat), (p.c - (IntKind.wrap .i64 (n2 * (IntKind.wrap .i64 n1))).toNat)⟩ n4 w021 fun xs3 g9 b4 w022 => RunU Try.prog (storeVar 34 r1 (.agg g9)) w022 fun w023 => Br (!b4) (∃ g10 : Array Value, (loadVar 34 r1).run Try.prog w023 = .ok (.agg g10) w023 ∧ RunU Try.prog (storeVar 34 a (.agg g10)) w023 fun w024 => ∃ res5 : Array Value, (loadVar 34 a).run Try.prog w024 = .ok (.agg res5) w024 ∧ R res5 w024) (∃ g11 : Array Value, (loadVar 38 c1).run Try.prog w023 = .ok (.agg g11) w023 ∧ Csbc_Dev_read d g11 w023 fun xs4 g12 b5 w025 => RunU Try.prog (storeVar 34 r1 (.agg g12)) w025 fun w026 => Br (!b5) (∃ g13 : Array Value, (loadVar 34 r1).run Try.prog w026 = .ok (.agg g13) w026 ∧ RunU Try.prog (storeVar 34 a (.agg g13)) w026 fun w027 => ∃ res6 : Array Value, (loadVar 34 a).run Try.prog w027 = .ok (.agg res6) w027 ∧ R res6 w027) (Csbc_differ xs4 xs w026 fun n7 w028 => Br (decide (n7 ≥ 0)) (Csbc_at 14 7424 (IntKind.wrap .u64 n7) w028 fun g14 w029 => RunU Try.prog (storeVar 34 a (.agg g14)) w029 fun w030 => ∃ res7 : Array Value, (loadVar 34 a).run Try.prog w030 = .ok (.agg res7) w030 ∧ R res7 w030) (∃ n8 : Int, w028.cell? (c1.add 2) = some (.int .u64 n8) ∧ ∃ b6 : Bool, w028.cell? (c1.add 5) = some (.bool b6) ∧ Csbc_Dev_write d n8 xs3 b6 w028 fun g15 w031 => RunU Try.prog (storeVar 34 a (.agg g15)) w031 fun w032 => ∃ res8 : Array Value, (loadVar 34 a).run Try.prog w032 = .ok (.agg res8) w032 ∧ R res8 w032))))
theorem Fsbc_Dev_compare.calls (d : Option Addr) (c : Array Value) (p : Sl) (w : World) (R : (Array Value) → World → Prop) (h : Fsbc_Dev_compare d c p w R) : Csbc_Dev_compare d c p w R :=
  calls_of_vc (anOp_ok callable) wide Try.func36 [] [.ag] [.pointer d, .agg c, .slice p.A p.n p.c] w R (Eq.mp (show Fsbc_Dev_compare d c p w R = vcF Try.prog G Try.f36 [] [.ag] [.pointer d, .agg c, .slice p.A p.n p.c] w R by kernel_rfl) h)
/-- (*pallet/sbc.Dev).capacity -/
def Fsbc_Dev_capacity (d : Option Addr) (c : Array Value) (w : World) (R : (Array Value) → World → Prop) : Prop :=
  New (.cells c 38) w fun c1 w0 => New (.cells #[.int .u8 0, .int .u8 0, .int .u16 0, .int .u64 0, .bool false, .int .i64 0, .int .i64 0, .bool false, .bool false, .slice none 0 0] 34) w0 fun a w01 => Csbc_Dev_blocks d w01 fun n w02 => ∃ b : Bool, w02.cell? (c1.add 1) = some (.bool b) ∧ Br (!b) (RunK Try.prog .sl (Instr.makeSlice 22 (.int .i64 8) (.int .i64 8)) w02 fun xs w03 => Cbe_Put xs 0 4 (IntKind.wrap .u64 (n - 1)) w03 fun xs1 n1 w04 => Cbe_Put xs1 4 4 16 w04 fun xs2 n2 w05 => Csbc_good xs2 w05 fun g w06 => RunU Try.prog (storeVar 34 a (.agg g)) w06 fun w07 => ∃ res : Array Value, (loadVar 34 a).run Try.prog w07 = .ok (.agg res) w07 ∧ R res w07) (RunK Try.prog .sl (Instr.makeSlice 22 (.int .i64 32) (.int .i64 32)) w02 fun xs3 w08 => Cbe_Put xs3 0 8 (IntKind.wrap .u64 (n - 1)) w08 fun xs4 n3 w09 => Cbe_Put xs4 8 4 16 w09 fun xs5 n4 w010 => d.isSome = true ∧ ∃ n5 : Int, w010.cell? ((gA d).add 1) = some (.int .u8 n5) ∧ letX (fun (w011 : World) => (0 ≤ (14 : Int) ∧ (14 : Int) < (xs5.n : Int) ∧ xs5.A.isSome = true) ∧ Put ((gA xs5.A).add ((14 : Int).toNat * 1)) (.int .u8 128) w011 fun w012 => ∃ n6 : Int, w012.cell? (c1.add 4) = some (.int .i64 n6) ∧ (0 ≤ (0 : Int) ∧ (0 : Int) ≤ (mn (mx n6 0) 32) ∧ (mn (mx n6 0) 32) ≤ (xs5.c : Int) ∧ xs5.n ≤ xs5.c) ∧ Csbc_good ⟨(cutA xs5.A xs5.c 0 1), ((mn (mx n6 0) 32).toNat - 0), (xs5.c - 0)⟩ w012 fun g1 w013 => RunU Try.prog (storeVar 34 a (.agg g1)) w013 fun w014 => ∃ res1 : Array Value, (loadVar 34 a).run Try.prog w014 = .ok (.agg res1) w014 ∧ R res1 w014) fun J_ => Br (decide (n5 > 0)) (d.isSome = true ∧ ∃ n7 : Int, w010.cell? ((gA d).add 1) = some (.int .u8 n7) ∧ (0 ≤ (12 : Int) ∧ (12 : Int) < (xs5.n : Int) ∧ xs5.A.isSome = true) ∧ Put ((gA xs5.A).add ((12 : Int).toNat * 1)) (.int .u8 (bOr .u8 (bShl .u8 (IntKind.wrap .u8 (n7 - 1)) 1) 1)) w010 fun w015 => J_ w015) (J_ w010))
theorem Fsbc_Dev_capacity.calls (d : Option Addr) (c : Array Value) (w : World) (R : (Array Value) → World → Prop) (h : Fsbc_Dev_capacity d c w R) : Csbc_Dev_capacity d c w R :=
  calls_of_vc (anOp_ok callable) wide Try.func37 [(28, ⟨[], [3, 4, 8]⟩)] [.ag] [.pointer d, .agg c] w R (Eq.mp (show Fsbc_Dev_capacity d c w R = vcF Try.prog G Try.f37 [(28, ⟨[], [3, 4, 8]⟩)] [.ag] [.pointer d, .agg c] w R by kernel_rfl) h)
/-- pallet/palletref01.Num -/
def Fpalletref01_Num (p : Sl) (at_ : Int) (n : Int) (w : World) (R : Int → World → Prop) : Prop :=
  Cpalletref01_Get p at_ n w fun n1 n2 w0 => R n1 w0
theorem Fpalletref01_Num.calls (p : Sl) (at_ : Int) (n : Int) (w : World) (R : Int → World → Prop) (h : Fpalletref01_Num p at_ n w R) : Cpalletref01_Num p at_ n w R :=
  calls_of_vc (anOp_ok callable) wide Try.func38 [] [.i .u64] [.slice p.A p.n p.c, .int .i64 at_, .int .i64 n] w R (Eq.mp (show Fpalletref01_Num p at_ n w R = vcF Try.prog G Try.f38 [] [.i .u64] [.slice p.A p.n p.c, .int .i64 at_, .int .i64 n] w R by kernel_rfl) h)
/-- (*pallet/store.Store).Blocks -/
def Fstore_Store_Blocks (s : Option Addr) (w : World) (R : Int → World → Prop) : Prop :=
  Br ((s).isNone) (R 0 w) (s.isSome = true ∧ ∃ n : Int, w.cell? ((gA s).add 2) = some (.int .i64 n) ∧ R n w)
theorem Fstore_Store_Blocks.calls (s : Option Addr) (w : World) (R : Int → World → Prop) (h : Fstore_Store_Blocks s w R) : Cstore_Store_Blocks s w R :=
  calls_of_vc (anOp_ok callable) wide Try.func39 [] [.i .i64] [.pointer s] w R (Eq.mp (show Fstore_Store_Blocks s w R = vcF Try.prog G Try.f39 [] [.i .i64] [.pointer s] w R by kernel_rfl) h)
/-- (*pallet/store.Store).Read -/
def Fstore_Store_Read (s : Option Addr) (lba : Int) (n : Int) (w : World) (R : Sl → Int → Int → World → Prop) : Prop :=
  Cstore_Store_check s lba n w fun n1 w0 => Br (n1 != 0) (R (⟨none, 0, 0⟩ : Sl) 0 n1 w0) (∃ (I : Sl → Int → World → Prop) (μ : Sl → Int → World → Nat), I (⟨none, 0, 0⟩ : Sl) 0 w0 ∧ ∀ (out : Sl) (x : Int) (w01 : World), I out x w01 → Br (decide (x < n)) (∀ w02, w02 = w01.drew → ∃ S : World → Prop, S w02 ∧ s.isSome = true ∧ ∃ p : Option Addr, (∀ u, S u → u.cell? ((gA s).add 0) = some (.pointer p)) ∧ s.isSome = true ∧ ∃ s1 : ByteArray, (∀ u1, S u1 → u1.cell? ((gA s).add 1) = some (.string s1)) ∧ Cworld_World_Read p s1 (IntKind.wrap .i64 ((IntKind.wrap .i64 (lba + x)) * 25)) 25 w02 fun xs n2 w03 => Br ((n2 != 0) && (n2 != 8)) (R (⟨none, 0, 0⟩ : Sl) x n2 w03) (Cstore_block xs w03 fun g w04 => RunK Try.prog .sl (Instr.buildSlice 42 1 #[(0, .agg g)]) w04 fun xs1 w05 => RunK Try.prog .sl (Builtin.append_ #[42, 42] 42 #[.slice out.A out.n out.c, .slice xs1.A xs1.n xs1.c]) w05 fun xs2 w06 => I xs2 (IntKind.wrap .i64 (x + 1)) w06 ∧ μ xs2 (IntKind.wrap .i64 (x + 1)) w06 < μ out x w01)) (R out n 0 w01))
theorem Fstore_Store_Read.calls (s : Option Addr) (lba : Int) (n : Int) (w : World) (R : Sl → Int → Int → World → Prop) (h : Fstore_Store_Read s lba n w R) : Cstore_Store_Read s lba n w R :=
  calls_of_vc (anOp_ok callable) wide Try.func40 [(18, ⟨[(10, .sl), (22, .i .i64)], [0, 1, 2, 21]⟩)] [.sl, .i .i64, .i .i64] [.pointer s, .int .i64 lba, .int .i64 n] w R (Eq.mp (show Fstore_Store_Read s lba n w R = vcF Try.prog G Try.f40 [(18, ⟨[(10, .sl), (22, .i .i64)], [0, 1, 2, 21]⟩)] [.sl, .i .i64, .i .i64] [.pointer s, .int .i64 lba, .int .i64 n] w R by kernel_rfl) h)
/-- pallet/pi.Check -/
def Fpi_Check (kind : Int) (prot : Int) (lba : Int) (b : Array Value) (w : World) (R : Int → World → Prop) : Prop :=
  New (.cells b 78) w fun b1 w0 => ∃ g : Array Value, ((!((((kind == 0) || (decide (kind > 3))) || (prot == 3)) || (decide (prot > 4)))) = true → (loadVar 76 (b1.add 16)).run Try.prog w0 = .ok (.agg g) w0) ∧ letJ (fun (b2 : Bool) (w01 : World) => Br (((((kind == 0) || (decide (kind > 3))) || (prot == 3)) || (decide (prot > 4))) || b2) (R 0 w01) (∀ w02, w02 = w01.drew → ∃ S : World → Prop, S w02 ∧ ∃ n : Int, ((prot != 2) = true → (∀ u, S u → u.cell? ((b1.add 16).add 0) = some (.int .u16 n))) ∧ ((prot != 2) = true → (0 ≤ (0 : Int) ∧ (0 : Int) ≤ (16 : Int) ∧ (16 : Int) ≤ (16 : Int))) ∧ letJ (fun (n1 : Int) (w03 : World) => S w03 ∧ Br ((prot != 2) && (n != n1)) (R 4097 w03) (∃ n2 : Int, (((prot != 4) && (kind != 3)) = true → w03.cell? ((b1.add 16).add 2) = some (.int .u32 n2)) ∧ Br (((prot != 4) && (kind != 3)) && (n2 != (IntKind.wrap .u32 lba))) (R 4099 w03) (R 0 w03))) fun J_ => ((prot != 2) = true → Ccrc_C16 ⟨(some (if 16 = 0 then (b1.add 0) else (b1.add 0).add (0 * 1))), (16 - 0), (16 - 0)⟩ w02 J_) ∧ ((prot != 2) = false → J_ (Kd.dflt (.i .u16)) w02))) fun J_1 => ((!((((kind == 0) || (decide (kind > 3))) || (prot == 3)) || (decide (prot > 4)))) = true → Cpi_escapes kind g w0 J_1) ∧ ((!((((kind == 0) || (decide (kind > 3))) || (prot == 3)) || (decide (prot > 4)))) = false → J_1 (Kd.dflt .b) w0)
theorem Fpi_Check.calls (kind : Int) (prot : Int) (lba : Int) (b : Array Value) (w : World) (R : Int → World → Prop) (h : Fpi_Check kind prot lba b w R) : Cpi_Check kind prot lba b w R :=
  calls_of_vc (anOp_ok callable) wide Try.func41 [] [.i .u16] [.int .u8 kind, .int .u8 prot, .int .u64 lba, .agg b] w R (Eq.mp (show Fpi_Check kind prot lba b w R = vcF Try.prog G Try.f41 [] [.i .u16] [.int .u8 kind, .int .u8 prot, .int .u64 lba, .agg b] w R by kernel_rfl) h)
/-- pallet/pi.Unpack -/
def Fpi_Unpack (p : Sl) (with_ : Bool) (w : World) (R : Sl → Bool → World → Prop) : Prop :=
  Cpi_Size with_ w fun n w0 => (n ≠ 0) ∧ Br (((p.n : Int).tmod n) != 0) (R (⟨none, 0, 0⟩ : Sl) false w0) (∃ (I : Sl → Sl → World → Prop) (μ : Sl → Sl → World → Nat), I p (⟨none, 0, 0⟩ : Sl) w0 ∧ ∀ (p1 : Sl) (out : Sl) (w01 : World), I p1 out w01 → Br (decide ((p1.n : Int) > 0)) (letX (fun (out1 : Sl) (w02 : World) => (0 ≤ n ∧ n ≤ (p1.n : Int) ∧ (p1.n : Int) ≤ (p1.c : Int) ∧ p1.n ≤ p1.c) ∧ I (⟨(cutA p1.A p1.c n.toNat 1), (((p1.n : Int)).toNat - n.toNat), (p1.c - n.toNat)⟩ : Sl) out1 w02 ∧ μ (⟨(cutA p1.A p1.c n.toNat 1), (((p1.n : Int)).toNat - n.toNat), (p1.c - n.toNat)⟩ : Sl) out1 w02 < μ p1 out w01) fun J_ => New (.cells #[.int .u8 0, .int .u8 0, .int .u8 0, .int .u8 0, .int .u8 0, .int .u8 0, .int .u8 0, .int .u8 0, .int .u8 0, .int .u8 0, .int .u8 0, .int .u8 0, .int .u8 0, .int .u8 0, .int .u8 0, .int .u8 0, .int .u16 0, .int .u16 0, .int .u32 0] 78) w01 fun b w03 => (0 ≤ (0 : Int) ∧ (0 : Int) ≤ (16 : Int) ∧ (16 : Int) ≤ (16 : Int)) ∧ RunK Try.prog (.i .i64) (Builtin.copy_ #[22, 22] 3 #[.slice (some (if 16 = 0 then (b.add 0) else (b.add 0).add (0 * 1))) (16 - 0) (16 - 0), .slice p1.A p1.n p1.c]) w03 fun n1 w04 => letX (fun (w05 : World) => ∃ g : Array Value, (loadVar 78 b).run Try.prog w05 = .ok (.agg g) w05 ∧ RunK Try.prog .sl (Instr.buildSlice 42 1 #[(0, .agg g)]) w05 fun xs w06 => RunK Try.prog .sl (Builtin.append_ #[42, 42] 42 #[.slice out.A out.n out.c, .slice xs.A xs.n xs.c]) w06 fun xs1 w07 => J_ xs1 w07) fun J_1 => Br with_ ((0 ≤ (16 : Int) ∧ (16 : Int) ≤ (p1.n : Int) ∧ (p1.n : Int) ≤ (p1.c : Int) ∧ p1.n ≤ p1.c) ∧ ∀ w08, w08 = w04.drew → ∃ S : World → Prop, S w08 ∧ (0 ≤ (0 : Int) ∧ (0 : Int) < (((((p1.n : Int)).toNat - 16) : Nat) : Int) ∧ (cutA p1.A p1.c 16 1).isSome = true) ∧ ∃ n2 : Int, (∀ u, S u → u.cell? ((gA (cutA p1.A p1.c 16 1)).add ((0 : Int).toNat * 1)) = some (.int .u8 n2)) ∧ (0 ≤ (1 : Int) ∧ (1 : Int) < (((((p1.n : Int)).toNat - 16) : Nat) : Int) ∧ (cutA p1.A p1.c 16 1).isSome = true) ∧ ∃ n3 : Int, (∀ u1, S u1 → u1.cell? ((gA (cutA p1.A p1.c 16 1)).add ((1 : Int).toNat * 1)) = some (.int .u8 n3)) ∧ (0 ≤ (2 : Int) ∧ (2 : Int) < (((((p1.n : Int)).toNat - 16) : Nat) : Int) ∧ (cutA p1.A p1.c 16 1).isSome = true) ∧ ∃ n4 : Int, (∀ u2, S u2 → u2.cell? ((gA (cutA p1.A p1.c 16 1)).add ((2 : Int).toNat * 1)) = some (.int .u8 n4)) ∧ (0 ≤ (3 : Int) ∧ (3 : Int) < (((((p1.n : Int)).toNat - 16) : Nat) : Int) ∧ (cutA p1.A p1.c 16 1).isSome = true) ∧ ∃ n5 : Int, (∀ u3, S u3 → u3.cell? ((gA (cutA p1.A p1.c 16 1)).add ((3 : Int).toNat * 1)) = some (.int .u8 n5)) ∧ (0 ≤ (4 : Int) ∧ (4 : Int) < (((((p1.n : Int)).toNat - 16) : Nat) : Int) ∧ (cutA p1.A p1.c 16 1).isSome = true) ∧ ∃ n6 : Int, (∀ u4, S u4 → u4.cell? ((gA (cutA p1.A p1.c 16 1)).add ((4 : Int).toNat * 1)) = some (.int .u8 n6)) ∧ (0 ≤ (5 : Int) ∧ (5 : Int) < (((((p1.n : Int)).toNat - 16) : Nat) : Int) ∧ (cutA p1.A p1.c 16 1).isSome = true) ∧ ∃ n7 : Int, (∀ u5, S u5 → u5.cell? ((gA (cutA p1.A p1.c 16 1)).add ((5 : Int).toNat * 1)) = some (.int .u8 n7)) ∧ (0 ≤ (6 : Int) ∧ (6 : Int) < (((((p1.n : Int)).toNat - 16) : Nat) : Int) ∧ (cutA p1.A p1.c 16 1).isSome = true) ∧ ∃ n8 : Int, (∀ u6, S u6 → u6.cell? ((gA (cutA p1.A p1.c 16 1)).add ((6 : Int).toNat * 1)) = some (.int .u8 n8)) ∧ (0 ≤ (7 : Int) ∧ (7 : Int) < (((((p1.n : Int)).toNat - 16) : Nat) : Int) ∧ (cutA p1.A p1.c 16 1).isSome = true) ∧ ∃ n9 : Int, (∀ u7, S u7 → u7.cell? ((gA (cutA p1.A p1.c 16 1)).add ((7 : Int).toNat * 1)) = some (.int .u8 n9)) ∧ RunU Try.prog (storeVar 76 (b.add 16) (.agg #[.int .u16 (bOr .u16 (bShl .u16 (IntKind.wrap .u16 n2) 8) (IntKind.wrap .u16 n3)), .int .u16 (bOr .u16 (bShl .u16 (IntKind.wrap .u16 n4) 8) (IntKind.wrap .u16 n5)), .int .u32 (bOr .u32 (bOr .u32 (bOr .u32 (bShl .u32 (IntKind.wrap .u32 n6) 24) (bShl .u32 (IntKind.wrap .u32 n7) 16)) (bShl .u32 (IntKind.wrap .u32 n8) 8)) (IntKind.wrap .u32 n9))])) w08 fun w09 => J_1 w09) (J_1 w04)) (R out true w01))
theorem Fpi_Unpack.calls (p : Sl) (with_ : Bool) (w : World) (R : Sl → Bool → World → Prop) (h : Fpi_Unpack p with_ w R) : Cpi_Unpack p with_ w R :=
  calls_of_vc (anOp_ok callable) wide Try.func42 [(15, ⟨[(0, .sl), (7, .sl)], [1, 6]⟩), (5, ⟨[(7, .sl)], [0, 1, 6]⟩), (31, ⟨[], [0, 1, 6, 7, 8]⟩)] [.sl, .b] [.slice p.A p.n p.c, .bool with_] w R (Eq.mp (show Fpi_Unpack p with_ w R = vcF Try.prog G Try.f42 [(15, ⟨[(0, .sl), (7, .sl)], [1, 6]⟩), (5, ⟨[(7, .sl)], [0, 1, 6]⟩), (31, ⟨[], [0, 1, 6, 7, 8]⟩)] [.sl, .b] [.slice p.A p.n p.c, .bool with_] w R by kernel_rfl) h)
/-- pallet/sbc.length -/
def Fsbc_length (w : World) (R : (Array Value) → World → Prop) : Prop :=
  New (.cells #[.int .u8 0, .int .u8 0, .int .u16 0, .int .u64 0, .bool false, .int .i64 0, .int .i64 0, .bool false, .bool false, .slice none 0 0] 34) w fun a w0 => Csbc_fails #[.int .u8 5, .int .u16 6656, .int .u64 0, .bool false, .int .i64 0, .int .i64 0, .bool false, .bool false] w0 fun g w01 => RunU Try.prog (storeVar 34 a (.agg g)) w01 fun w02 => ∃ res : Array Value, (loadVar 34 a).run Try.prog w02 = .ok (.agg res) w02 ∧ R res w02
theorem Fsbc_length.calls (w : World) (R : (Array Value) → World → Prop) (h : Fsbc_length w R) : Csbc_length w R :=
  calls_of_vc (anOp_ok callable) wide Try.func43 [] [.ag] [] w R (Eq.mp (show Fsbc_length w R = vcF Try.prog G Try.f43 [] [.ag] [] w R by kernel_rfl) h)
/-- pallet/pi.Make -/
def Fpi_Make (kind : Int) (lba : Int) (data : Array Value) (app : Int) (w : World) (R : (Array Value) → World → Prop) : Prop :=
  New (.cells data 73) w fun data1 w0 => New (.cells #[.int .u16 0, .int .u16 0, .int .u32 0] 76) w0 fun a w01 => (0 ≤ (0 : Int) ∧ (0 : Int) ≤ (16 : Int) ∧ (16 : Int) ≤ (16 : Int)) ∧ Ccrc_C16 ⟨(some (if 16 = 0 then data1 else data1.add (0 * 1))), (16 - 0), (16 - 0)⟩ w01 fun n w02 => New (.cells #[.int .u16 0, .int .u16 0, .int .u32 0] 76) w02 fun t w03 => RunU Try.prog (storeVar 76 t (.agg #[.int .u16 n, .int .u16 app, .int .u32 0])) w03 fun w04 => letX (fun (w05 : World) => ∃ g : Array Value, (loadVar 76 t).run Try.prog w05 = .ok (.agg g) w05 ∧ RunU Try.prog (storeVar 76 a (.agg g)) w05 fun w06 => ∃ res : Array Value, (loadVar 76 a).run Try.prog w06 = .ok (.agg res) w06 ∧ R res w06) fun J_ => Br ((kind == 1) || (kind == 2)) (Put (t.add 2) (.int .u32 (IntKind.wrap .u32 lba)) w04 fun w07 => J_ w07) (J_ w04)
theorem Fpi_Make.calls (kind : Int) (lba : Int) (data : Array Value) (app : Int) (w : World) (R : (Array Value) → World → Prop) (h : Fpi_Make kind lba data app w R) : Cpi_Make kind lba data app w R :=
  calls_of_vc (anOp_ok callable) wide Try.func44 [(10, ⟨[], [8, 9]⟩)] [.ag] [.int .u8 kind, .int .u64 lba, .agg data, .int .u16 app] w R (Eq.mp (show Fpi_Make kind lba data app w R = vcF Try.prog G Try.f44 [(10, ⟨[], [8, 9]⟩)] [.ag] [.int .u8 kind, .int .u64 lba, .agg data, .int .u16 app] w R by kernel_rfl) h)
/-- (*pallet/store.Store).Write -/
def Fstore_Store_Write (s : Option Addr) (lba : Int) (list : Sl) (fua : Bool) (w : World) (R : Int → Int → World → Prop) : Prop :=
  New (.cells #[.slice list.A list.n list.c] 42) w fun list1 w0 => ∃ xs : Sl, w0.cell? list1 = some (.slice xs.A xs.n xs.c) ∧ Cstore_Store_check s lba (xs.n : Int) w0 fun n w01 => Br (n != 0) (R 0 n w01) (∃ xs1 : Sl, w01.cell? list1 = some (.slice xs1.A xs1.n xs1.c) ∧ Cstore_Store_lay s lba (xs1.n : Int) (.func (.func 59) #[] #[.pointer (some list1)]) fua w01 fun n1 n2 w02 => R n1 n2 w02)
theorem Fstore_Store_Write.calls (s : Option Addr) (lba : Int) (list : Sl) (fua : Bool) (w : World) (R : Int → Int → World → Prop) (h : Fstore_Store_Write s lba list fua w R) : Cstore_Store_Write s lba list fua w R :=
  calls_of_vc (anOp_ok callable) wide Try.func45 [] [.i .i64, .i .i64] [.pointer s, .int .i64 lba, .slice list.A list.n list.c, .bool fua] w R (Eq.mp (show Fstore_Store_Write s lba list fua w R = vcF Try.prog G Try.f45 [] [.i .i64, .i .i64] [.pointer s, .int .i64 lba, .slice list.A list.n list.c, .bool fua] w R by kernel_rfl) h)
/-- pallet/sbc.differ -/
def Fsbc_differ (a : Sl) (b : Sl) (w : World) (R : Int → World → Prop) : Prop :=
  Cpi_Pack a false w fun xs w0 => Cpi_Pack b false w0 fun xs1 w01 => ∃ (I : Int → World → Prop) (μ : Int → World → Nat), I 0 w01 ∧ ∀ (x : Int) (w02 : World), I x w02 → Br (decide (x < (xs.n : Int))) (∀ w03, w03 = w02.drew → ∃ S : World → Prop, S w03 ∧ (0 ≤ x ∧ x < (xs.n : Int) ∧ xs.A.isSome = true) ∧ ∃ n : Int, (∀ u, S u → u.cell? ((gA xs.A).add (x.toNat * 1)) = some (.int .u8 n)) ∧ (0 ≤ x ∧ x < (xs1.n : Int) ∧ xs1.A.isSome = true) ∧ ∃ n1 : Int, (∀ u1, S u1 → u1.cell? ((gA xs1.A).add (x.toNat * 1)) = some (.int .u8 n1)) ∧ Br (n != n1) (R x w03) (I (IntKind.wrap .i64 (x + 1)) w03 ∧ μ (IntKind.wrap .i64 (x + 1)) w03 < μ x w02)) (R (-1) w02)
theorem Fsbc_differ.calls (a : Sl) (b : Sl) (w : World) (R : Int → World → Prop) (h : Fsbc_differ a b w R) : Csbc_differ a b w R :=
  calls_of_vc (anOp_ok callable) wide Try.func46 [(9, ⟨[(14, .i .i64)], [5, 6, 13]⟩)] [.i .i64] [.slice a.A a.n a.c, .slice b.A b.n b.c] w R (Eq.mp (show Fsbc_differ a b w R = vcF Try.prog G Try.f46 [(9, ⟨[(14, .i .i64)], [5, 6, 13]⟩)] [.i .i64] [.slice a.A a.n a.c, .slice b.A b.n b.c] w R by kernel_rfl) h)
end Go.Proofs.Ytaneeadpjelomaa
