import Derived.Lib.SlBytesConst
import Derived.Lib.AppendStr
import Derived.MapKept
import Derived.Laws.CopyRow
import Derived.Laws.IdiomCopy
import Derived.Test.YtiokflecflbopaaDoorProg
import Derived.WalkKit
import Derived.ProofKit
import Derived.OpenShut
import Derived.ShutString
import Derived.ChangeOld
import Derived.Below
import Derived.SizedLaws
import Derived.Test.YtiokflecflbopaaDoorB1
/- More rules of memory: bytes of a constant, elements of slices. -/
namespace Go.Proofs.YtiokflecflbopaaDoor.CF
open Go Go.RowKit

theorem bytes_const_rule {P : Program} {w : World} {t e : TypeId} {n : Nat} {parts : Array (Nat × Value)} {l : L8}
    (hr : (Instr.buildSlice t n parts).run P w = .ok (.slice (some ⟨w.heap.size, 0, none⟩) n n) (w.alloc (.cells (bv l).toArray e))) (hn : n = l.length) (hb : n ≤ 140737488355328)
    (ht : P.underlying t = some (.slice e)) (he : P.underlying e = some (.int .u8))
    {K : Sl → World → Prop} (h : ∀ s w', Grow w w' → Rd w' 1 s (bv l) → K s w') :
    RunK P .sl (Instr.buildSlice t n parts) w fun xs w0 => RunK P .sl (convert t t (.slice xs.A xs.n xs.c)) w0 K := by
  refine ⟨⟨some ⟨w.heap.size, 0, none⟩, n, n⟩, _, hr, ⟨some ⟨w.heap.size, 0, none⟩, n, n⟩, _, Go.Lib.run_convert_bytes_const w t e _ n n ht he, ?_⟩
  refine h _ _ (keep_alloc w _) ⟨by rw [bv_length, hn, Nat.mul_one], Nat.le_refl _, Nat.le_trans hb (by decide), fun _ => ⟨_, rfl, fun j v hj => ?_⟩⟩
  rw [add0, Nat.zero_add]
  unfold World.cell?
  simp only [World.alloc, Array.getElem?_push, if_true]
  simpa using hj
open Go.Lib in
theorem strCells_bv (l : L8) : strCells (str l) = bv l := rfl
open Go.Lib in
theorem append_str_at {P : Program} {w : World} (base : Nat) (t u ty e : TypeId) (i : TypeInfo) (ht : P.underlying t = some (.slice e)) (hu : P.underlying u = some .string) (hi : P.info? e = some i) (hz : i.zero = some (.int .u8 0))
    (hsize : i.size = 1) (hby : i.bytes = 1) (o : Sl) (xs : List Value) (hown : Own w base e 1 o xs) (s : ByteArray) (hbytes : o.n + s.size ≤ 140737488355328) (hbase : base ≤ w.heap.size) :
    ∃ (o' : Sl) (w' : World), (Builtin.append_ #[t, u] ty #[.slice o.A o.n o.c, .string s]).run P w = .ok (.slice o'.A o'.n o'.c) w' ∧ o'.n = o.n + s.size ∧ Own w' base e 1 o' (xs ++ strCells s) ∧ Keep (fun k => some k = o.blk) w w' ∧
      (o'.blk = o.blk ∨ o'.blk = some w.heap.size) := by
  have hxl : xs.length = o.n := by simpa using hown.1
  have hlen : (xs ++ strCells s).length = (o.n + s.size) * 1 := by rw [List.length_append, hxl, strCells_length, Nat.mul_one]
  have hmx : (140737488355328 : Nat) ≤ maxLen := by unfold maxLen; omega
  have grown : ∀ (old : Nat), old < o.n + s.size → ∀ (row : Option Nat),
      (w.drew.alloc (.cells (xs.toArray ++ (strCells s).toArray ++ Builtin.zeroCells (Value.int .u8 0).cells (grownCap w (o.n + s.size) old e - (o.n + s.size))) e)).ownsRow base e 1
        (.slice (some ⟨w.heap.size, 0, none⟩) (o.n + s.size) (grownCap w (o.n + s.size) old e)) (o.n + s.size) (xs ++ strCells s) ∧
      Keep (fun k => some k = row) w (w.drew.alloc (.cells (xs.toArray ++ (strCells s).toArray ++ Builtin.zeroCells (Value.int .u8 0).cells (grownCap w (o.n + s.size) old e - (o.n + s.size))) e)) := by
    intro old ho row
    have hge := grownCap_ge w (o.n + s.size) old e
    have hcm : grownCap w (o.n + s.size) old e ≤ maxLen := grownCap_le_maxLen w (o.n + s.size) old e (by omega)
    refine ⟨⟨hlen, .inr ⟨w.heap.size, _, _, rfl, hbase, heap_alloc_new w.drew _, hge, hcm, ?_, ?_⟩⟩, ⟨rfl, rfl, rfl, by simp, fun k hk _ => heap_alloc_lt w.drew _ k hk⟩⟩
    · have hz1 : (Value.int IntKind.u8 0).cells.size = 1 := rfl
      simp only [Array.size_append, List.size_toArray, size_zeroCells, hz1, hxl, strCells_length]
      omega
    · simp only [Array.toList_append, List.append_assoc]
      rw [← List.append_assoc, ← hlen]
      exact List.take_left
  rcases hown.2 with ⟨h0, hn0⟩ | ⟨g, cap, cur, hv, hbg, hg, hnc, hcm, hcs, htake⟩
  · injection h0 with hA hN hC
    obtain ⟨A, n, c⟩ := o
    simp only at hA hN hC hn0 hxl grown hbytes hlen
    subst hA; subst hN; subst hC
    have hx : xs = [] := List.eq_nil_of_length_eq_zero hxl
    subst hx
    by_cases hm : s.size = 0
    · have hn : strCells s = [] := List.eq_nil_of_length_eq_zero (by rw [strCells_length]; exact hm)
      refine ⟨⟨none, 0, 0⟩, w, ?_, by simp [hm], by rw [hn]; exact own_nil w base e 1, Keep.refl _ _, .inl rfl⟩
      have hf := run_firstCells_string (P := P) w 1 s
      rw [hm] at hf
      simp [Builtin.append_, run_underlying ht, run_underlying hu, sizeOf, typeInfo, hi, hsize, Builtin.lenOf, hm, hf]
    · have hr := run_append_nil_string (P := P) w t u ty e i (.int .u8 0) ht hu hi hz s (by omega) (by omega) (by rw [hby]; omega)
      have hgr := grown 0 (by omega) none
      simp only [Nat.zero_add, List.nil_append, Array.empty_append] at hgr
      have e1 : (s.data.map fun b => Value.int .u8 b.toNat) = (strCells s).toArray := by
        apply Array.ext'
        simp [strCells]
      rw [e1] at hr
      refine ⟨⟨some ⟨w.heap.size, 0, none⟩, s.size, _⟩, _, hr, by simp, hgr.1, hgr.2, .inr rfl⟩
  · injection hv with hA hN hC
    obtain ⟨A, n, c⟩ := o
    simp only at hA hN hC hnc hcm hcs htake hxl grown hbytes hlen
    subst hA; subst hC
    by_cases hroom : n + s.size ≤ c
    · have hcs' : cur.size = c := by simpa using hcs
      have hr := run_append_room_string (P := P) w t u ty e i ht hu hi hsize g n c cur hg s hroom (by omega)
      refine ⟨⟨some ⟨g, 0, none⟩, n + s.size, c⟩, _, hr, rfl, ⟨hlen, .inr ⟨g, c, _, rfl, hbg, setRow_heap w g cur _ e _ hg, hroom, hcm, ?_, ?_⟩⟩, ⟨rfl, rfl, rfl, by simp, fun k _ hk => setRow_other w g k _ (fun e => hk (by simp [Sl.blk, e]))⟩, .inl rfl⟩
      · simp only [List.size_toArray, List.length_append, List.length_take, List.length_drop, Array.length_toList, strCells_length]
        omega
      · have ht' : cur.toList.take n = xs := by simpa using htake
        rw [ht', ← hlen]
        exact List.take_left
    · have holds : ∀ j u, xs[j]? = some u → w.cell? ((⟨g, 0, none⟩ : Addr).add j) = some u := World.ownsRow.cells hown (g := g) rfl
      have hr := run_append_grow_string (P := P) w t u ty e i (.int .u8 0) ht hu hi hz ⟨g, 0, none⟩ n c xs (by rw [hsize]; simpa using hxl) holds s (by omega) (by omega) (by rw [hby]; exact growslice_fits (by omega) (by omega))
      have hgr := grown c (by omega) (some g)
      exact ⟨⟨some ⟨w.heap.size, 0, none⟩, n + s.size, _⟩, _, hr, rfl, hgr.1, hgr.2, .inr rfl⟩
/-- the bytes of a string, behind a row of one's own -/
theorem append_str_rule {P : Program} {w : World} {base : Nat} {t u ty e : TypeId} (ht : P.underlying t = some (.slice e)) (hu : P.underlying u = some .string)
    (hinfo : (P.info? e).map (fun i => (i.zero, i.size, i.bytes)) = some (some (.int .u8 0), 1, 1)) {o : Sl} {vs l : L8} (hs : Own w base e 1 o (bv vs)) (hbd : o.n + l.length ≤ 140737488355328) (hbase : base ≤ w.heap.size)
    {K : Sl → World → Prop} (h : ∀ o' w', o'.n = o.n + l.length → Own w' base e 1 o' (bv (vs ++ l)) → Keep (fun k => some k = o.blk) w w' → (o'.blk = o.blk ∨ o'.blk = some w.heap.size) → K o' w') :
    RunK P .sl (Builtin.append_ #[t, u] ty #[.slice o.A o.n o.c, .string (str l)]) w K := by
  obtain ⟨i, hi, hzz⟩ := Option.map_eq_some_iff.1 hinfo
  simp only [Prod.mk.injEq] at hzz
  obtain ⟨o', w', hr, hn, hown, hk, hat⟩ := append_str_at base t u ty e i ht hu hi hzz.1 hzz.2.1 hzz.2.2 o (bv vs) hs (str l) (by rw [size_str]; exact hbd) hbase
  refine ⟨o', w', hr, h o' w' (by rw [hn, size_str]) ?_ hk hat⟩
  rw [bv_append, ← strCells_bv l]
  exact hown
/-! ### a row that grows by strings and bytes, in any order of their making -/
structure Ctx (w : World) (e : TypeId) (pb : Nat) (pcs : Array Value) (pt : TypeId) (u : World) (o : Sl) (os : L8) (lits : List (Sl × UInt8)) : Prop where
  own : Own u w.heap.size e 1 o (bv os)
  grow : Grow w u
  blk : Blk u pb pcs pt
  ne : o.blk ≠ some pb
  lit : ∀ p ∈ lits, Rd u 1 p.1 (bv [p.2]) ∧ (∀ b, p.1.blk = some b → b < u.heap.size) ∧ ∀ b, p.1.blk = some b → o.blk ≠ some b
section
variable {P : Program} {w : World} {t e : TypeId} {pb : Nat} {pcs : Array Value} {pt : TypeId} {u : World} {o : Sl} {os : L8} {lits : List (Sl × UInt8)}
theorem Ctx.n (h : Ctx w e pb pcs pt u o os lits) : o.n = os.length := by have := h.own.len; rw [bv_length] at this; omega
/-- behind a growth of the row -/
theorem Ctx.step (h : Ctx w e pb pcs pt u o os lits) {o' : Sl} {u' : World} {os' : L8} (hown : Own u' w.heap.size e 1 o' (bv os')) (hk : Keep (fun k => some k = o.blk) u u')
    (hat : o'.blk = o.blk ∨ o'.blk = some u.heap.size) : Ctx w e pb pcs pt u' o' os' lits := by
  have hpb := lt_of_heap h.blk
  refine ⟨hown, h.grow.keep hk fun i hi q => ?_, hk.heap h.blk fun q => h.ne q.symm, fun q => ?_, fun p hp => ⟨(h.lit p hp).1.keep hk fun a ha _ q => ?_, fun b hb => ?_, fun b hb q => ?_⟩⟩
  · have := (h.own.ge i q.symm).1; omega
  · rcases hat with r | r
    · exact h.ne (by rw [← r]; exact q)
    · rw [r] at q; injection q with q; omega
  · exact (h.lit p hp).2.2 a.block (by simp [Sl.blk, ha]) q.symm
  · have := (h.lit p hp).2.1 b hb; have := hk.size; omega
  · rcases hat with r | r
    · exact (h.lit p hp).2.2 b hb (by rw [← r]; exact q)
    · rw [r] at q; injection q with q; have := (h.lit p hp).2.1 b hb; omega
theorem Ctx.add (h : Ctx w e pb pcs pt u o os lits) {c : UInt8} {z : Int} (hz : z = (c.toNat : Int)) (ht : P.underlying t = some (.slice e))
    (hr : (Instr.buildSlice t 1 #[(0, .int .u8 z)]).run P u = .ok (.slice (some ⟨u.heap.size, 0, none⟩) 1 1) (u.alloc (.cells #[.int .u8 z] e)))
    {K : Sl → World → Prop} (hK : ∀ s u', Ctx w e pb pcs pt u' o os ((s, c) :: lits) → K s u') : RunK P .sl (Instr.buildSlice t 1 #[(0, .int .u8 z)]) u K := by
  subst hz
  refine ⟨⟨some ⟨u.heap.size, 0, none⟩, 1, 1⟩, _, hr, ?_⟩
  have hg : Grow u (u.alloc (.cells #[.int .u8 (c.toNat : Int)] e)) := keep_alloc u _
  refine hK _ _ ⟨h.own.grow hg, h.grow.trans hg, hg.heap h.blk (fun q => q), h.ne, fun p hp => ?_⟩
  rcases List.mem_cons.1 hp with rfl | hp
  · refine ⟨⟨rfl, Nat.le_refl _, by show 1 ≤ _; decide, fun _ => ⟨_, rfl, fun j v hj => ?_⟩⟩, fun b hb => ?_, fun b hb q => ?_⟩
    · rw [add0, Nat.zero_add]
      unfold World.cell?
      simp only [World.alloc, Array.getElem?_push, if_true]
      simpa [bv] using hj
    · simp only [Sl.blk, Option.map_some, Option.some.injEq] at hb; subst hb; simp
    · simp only [Sl.blk, Option.map_some, Option.some.injEq] at hb; subst hb
      have := (h.own.ge _ q).2; omega
  · obtain ⟨h1, h2, h3⟩ := h.lit p hp
    exact ⟨h1.grow hg, fun b hb => by have := h2 b hb; have := hg.size; omega, h3⟩
theorem Ctx.str (h : Ctx w e pb pcs pt u o os lits) {l : L8} {tu ty : TypeId} (ht : P.underlying t = some (.slice e)) (hu : P.underlying tu = some .string)
    (hinfo : (P.info? e).map (fun i => (i.zero, i.size, i.bytes)) = some (some (.int .u8 0), 1, 1)) (hbd : os.length + l.length ≤ 140737488355328)
    {K : Sl → World → Prop} (hK : ∀ s u', Ctx w e pb pcs pt u' s (os ++ l) lits → K s u') : RunK P .sl (Builtin.append_ #[t, tu] ty #[.slice o.A o.n o.c, .string (CF.str l)]) u K :=
  append_str_rule ht hu hinfo h.own (by rw [h.n]; exact hbd) h.grow.size fun o' w' _ hown hk hat => hK _ _ (h.step hown hk hat)
theorem Ctx.app (h : Ctx w e pb pcs pt u o os lits) {s : Sl} {c : UInt8} {ty : TypeId} (hm : (s, c) ∈ lits) (ht : P.underlying t = some (.slice e))
    (hinfo : (P.info? e).map (fun i => (i.zero, i.size, i.bytes)) = some (some (.int .u8 0), 1, 1)) (hbd : os.length + 1 ≤ 140737488355328)
    {K : Sl → World → Prop} (hK : ∀ s' u', Ctx w e pb pcs pt u' s' (os ++ [c]) lits → K s' u') : RunK P .sl (Builtin.append_ #[t, t] ty #[.slice o.A o.n o.c, .slice s.A s.n s.c]) u K := by
  have hs := (h.lit _ hm).1
  have hn : s.n = 1 := by have := hs.len; simp [bv] at this; omega
  refine append_rule ht hinfo rfl (by decide) (by decide) h.own hs (by simp [bv, Value.oneCell']) (by rw [hn, h.n]; omega) h.grow.size fun o' w' _ hown hk hat => hK _ _ (h.step (by rw [bv_append]; exact hown) hk hat)
end
end Go.Proofs.YtiokflecflbopaaDoor.CF

/- Rules of maps with strings for keys. -/
namespace Go.Proofs.YtiokflecflbopaaDoor.CF
open Go Go.RowKit

/-- all keys are strings -/
def SKeys (es : List MapEntry) : Prop := ∀ e ∈ es, ∃ s, e.key = .string s
def sidx : List MapEntry → ByteArray → Nat → Option (Nat × Value)
  | [], _, _ => none
  | e :: r, s, i => match e.key with
    | .string t => if s = t then some (i, e.val) else sidx r s (i + 1)
    | _ => sidx r s (i + 1)
def sget (es : List MapEntry) (s : ByteArray) : Option Value := (sidx es s 0).map (·.2)
theorem findNow_str {s : ByteArray} : ∀ {es : List MapEntry} (i : Nat), SKeys es → Instr.findNow .string (.string s) es i = some (sidx es s i)
  | [], _, _ => rfl
  | e :: r, i, h => by
    obtain ⟨t, ht⟩ := h e (by simp)
    have ih := findNow_str (s := s) (i + 1) (fun x hx => h x (by simp [hx]) : SKeys r)
    unfold Instr.findNow sidx
    rw [ht]
    simp only [Instr.sameNow]
    by_cases e : s = t
    · have : (s == t) = true := (MapKept.bytes_beq s t).2 e
      rw [this]
      simp only [if_pos e]
    · have : (s == t) = false := Bool.eq_false_iff.2 fun q => e ((MapKept.bytes_beq s t).1 q)
      rw [this]
      simp only [if_neg e]
      exact ih
theorem sidx_shift {s : ByteArray} : ∀ (es : List MapEntry) (i j : Nat), sidx es s (i + j) = (sidx es s i).map fun p => (p.1 + j, p.2)
  | [], _, _ => rfl
  | e :: r, i, j => by
    unfold sidx
    have := sidx_shift (s := s) r (i + 1) j
    rw [show i + 1 + j = i + j + 1 by omega] at this
    cases e.key with
    | string t => by_cases q : s = t <;> simp [q, this]
    | _ => simpa using this
theorem sget_nil (s : ByteArray) : sget [] s = none := rfl
theorem sget_cons {e : MapEntry} {r : List MapEntry} {t : ByteArray} (h : e.key = .string t) (s : ByteArray) : sget (e :: r) s = if s = t then some e.val else sget r s := by
  unfold sget
  conv => lhs; unfold sidx
  rw [h]
  by_cases q : s = t
  · simp [q]
  · simp only [if_neg q]
    rw [sidx_shift r 0 1, Option.map_map]
    rfl
theorem sget_push {es : List MapEntry} {s : ByteArray} {e : MapEntry} (hk : SKeys es) (he : e.key = .string s) (hn : sget es s = none) (t : ByteArray) :
    sget (es ++ [e]) t = if t = s then some e.val else sget es t := by
  induction es with
  | nil => rw [List.nil_append, sget_cons he]
  | cons x r ih =>
    obtain ⟨u, hu⟩ := hk x (by simp)
    rw [sget_cons hu] at hn
    rw [List.cons_append, sget_cons hu, sget_cons hu]
    by_cases q : s = u
    · rw [if_pos q] at hn; cases hn
    · rw [if_neg q] at hn
      rw [ih (fun x hx => hk x (by simp [hx])) hn]
      by_cases q1 : t = u
      · by_cases q2 : t = s
        · exact absurd (q2.symm.trans q1) q
        · rw [if_pos q1, if_neg q2, if_pos q1]
      · simp only [if_neg q1]
theorem sget_modify {es : List MapEntry} {s : ByteArray} {i : Nat} {v v' : Value} (hk : SKeys es) (hn : sidx es s 0 = some (i, v)) (t : ByteArray) :
    sget (es.modify i fun e => { e with key := .string s, val := v' }) t = if t = s then some v' else sget es t := by
  induction es generalizing i with
  | nil => cases hn
  | cons x r ih =>
    obtain ⟨u, hu⟩ := hk x (by simp)
    unfold sidx at hn
    rw [hu] at hn
    by_cases q : s = u
    · simp only [if_pos q, Option.some.injEq, Prod.mk.injEq] at hn
      obtain ⟨rfl, _⟩ := hn
      rw [List.modify_zero_cons, sget_cons (t := s) rfl, sget_cons hu]
      by_cases q1 : t = s
      · simp [q1]
      · have q2 : t ≠ u := fun e => q1 (e.trans q.symm)
        simp [q1, q2]
    · simp only [if_neg q] at hn
      rw [sidx_shift r 0 1] at hn
      obtain ⟨p, hp, hpe⟩ := Option.map_eq_some_iff.1 hn
      simp only [Prod.mk.injEq] at hpe
      obtain ⟨rfl, hp2⟩ := hpe
      rw [List.modify_succ_cons, sget_cons hu, sget_cons hu, ih (i := p.1) (fun x hx => hk x (by simp [hx])) (by rw [hp, ← hp2])]
      by_cases q1 : t = u
      · have q2 : t ≠ s := fun e => q (e.symm.trans q1)
        simp [q1, q2]
        exact fun e => absurd e.symm q
      · simp [q1]
theorem skeys_modify {es : List MapEntry} {s : ByteArray} {i : Nat} {v' : Value} (hk : SKeys es) : SKeys (es.modify i fun e => { e with key := .string s, val := v' }) := by
  intro e he
  obtain ⟨j, hj, rfl⟩ := List.getElem_of_mem he
  rw [List.getElem_modify]
  split
  · exact ⟨s, rfl⟩
  · exact hk _ (List.getElem_mem _)
theorem sidx_at {es : Array MapEntry} {s : ByteArray} {i j : Nat} {v : Value} (hs : SKeys es.toList) (h : sidx es.toList s j = some (j + i, v)) : ∃ e0, es[i]? = some e0 ∧ e0.key = .string s := by
  rw [← Array.getElem?_toList]
  generalize es.toList = l at *
  induction l generalizing i j with
  | nil => cases h
  | cons x r ih =>
    obtain ⟨u, hu⟩ := hs x (by simp)
    unfold sidx at h
    rw [hu] at h
    by_cases q : s = u
    · simp only [if_pos q, Option.some.injEq, Prod.mk.injEq] at h
      have : i = 0 := by omega
      subst this
      exact ⟨x, rfl, by rw [hu, q]⟩
    · simp only [if_neg q] at h
      have hi : 0 < i := by
        rw [show j + 1 = 0 + (j + 1) by omega, sidx_shift] at h
        obtain ⟨p, _, hp⟩ := Option.map_eq_some_iff.1 h
        simp only [Prod.mk.injEq] at hp
        omega
      obtain ⟨i', rfl⟩ : ∃ i', i = i' + 1 := ⟨i - 1, by omega⟩
      rw [List.getElem?_cons_succ]
      exact ih (j := j + 1) (fun y hy => hs y (by simp [hy])) (by rw [h]; congr 2; omega)
/-- a map that holds these values -/
def SMap (w : World) (b : Nat) (m : ByteArray → Option Value) : Prop :=
  ∃ es clock, w.heap[b]? = some (.map es clock) ∧ SKeys es.toList ∧ ∀ s, sget es.toList s = m s
def upd (m : ByteArray → Option Value) (s : ByteArray) (v : Value) : ByteArray → Option Value := fun t => if t = s then some v else m t
theorem SMap.keep {S : Nat → Prop} {w w' : World} {b : Nat} {m : ByteArray → Option Value} (h : SMap w b m) (k : Keep S w w') (hn : ¬ S b) : SMap w' b m := by
  obtain ⟨es, c, h1, h2⟩ := h
  exact ⟨es, c, k.heap h1 hn, h2⟩
theorem smap_new (w : World) : SMap (w.alloc (.map #[] 0)) w.heap.size fun _ => none :=
  ⟨#[], 0, by show (w.heap.push _)[w.heap.size]? = _; simp, fun e he => by simp at he, fun s => rfl⟩
section
variable {P : Program} {w : World} {b : Nat} {m : ByteArray → Option Value} {t k e : TypeId}
theorem run_getMap {es : Array MapEntry} {clock : Nat} (h : w.heap[b]? = some (.map es clock)) : (getObj b).run P w = .ok (.map es clock) w := by
  simp [getObj, Sem.run, h]
theorem checkKey_str (ek : Bool) (n : Nat) (hk : P.underlying k = some .string) (s : ByteArray) : (Instr.checkKey ek (n + 1) k (.string s)).run P w = .ok () w := by
  unfold Instr.checkKey
  simp [run_underlying hk]
theorem findKey_str {es : List MapEntry} (hk : P.underlying k = some .string) (hs : SKeys es) (s : ByteArray) : (Instr.findKey k (.string s) es).run P w = .ok (sidx es s 0) w := by
  unfold Instr.findKey
  simp [run_underlying hk, findNow_str 0 hs]
theorem look_rule (ht : P.underlying t = some (.map k e)) (hk : P.underlying k = some .string) {zv : Value} (hz : (zeroValue e).run P w = .ok zv w) (h : SMap w b m) (s : ByteArray) :
    (Instr.lookup t (.map (some b)) (.string s) true).run P w = .ok (.tuple #[(m s).getD zv, .bool (m s).isSome]) w ∧
    (Instr.lookup t (.map (some b)) (.string s) false).run P w = .ok ((m s).getD zv) w := by
  obtain ⟨es, c, hb, hs, hm⟩ := h
  have := hm s
  unfold sget at this
  unfold Instr.lookup
  constructor
  · cases hi : sidx es.toList s 0 with
    | none =>
      rw [hi] at this
      simp only [Option.map_none] at this
      rw [← this]
      simp [run_underlying ht, run_getMap hb, checkKey_str _ _ hk, findKey_str hk hs, hi, hz]
    | some p =>
      rw [hi] at this
      simp only [Option.map_some] at this
      rw [← this]
      simp [run_underlying ht, run_getMap hb, checkKey_str _ _ hk, findKey_str hk hs, hi]
  · cases hi : sidx es.toList s 0 with
    | none =>
      rw [hi] at this
      simp only [Option.map_none] at this
      rw [← this]
      simp [run_underlying ht, run_getMap hb, checkKey_str _ _ hk, findKey_str hk hs, hi, hz]
    | some p =>
      rw [hi] at this
      simp only [Option.map_some] at this
      rw [← this]
      simp [run_underlying ht, run_getMap hb, checkKey_str _ _ hk, findKey_str hk hs, hi]
theorem run_setMap {o : Obj} {es : Array MapEntry} {c : Nat} (h : w.heap[b]? = some (.map es c)) : (setObj b o).run P w = .ok () { w with heap := w.heap.setIfInBounds b o } := by
  simp [setObj, Sem.run, h]
/-- a value under a key -/
theorem upd_rule (ht : P.underlying t = some (.map k e)) (hk : P.underlying k = some .string) (h : SMap w b m) (s : ByteArray) (v : Value)
    {K : World → Prop} (hK : ∀ w1, SMap w1 b (upd m s v) → Keep (fun k => k = b) w w1 → w1.heap.size = w.heap.size → K w1) : RunU P (Instr.mapUpdate t (.map (some b)) (.string s) v) w K := by
  obtain ⟨es, c, hb, hs, hm⟩ := h
  have hlt := lt_of_heap hb
  have hget : ∀ (o : Obj), ({ w with heap := w.heap.setIfInBounds b o } : World).heap[b]? = some o := fun o => by
    simp [hlt]
  have hkeep : ∀ (o : Obj), Keep (fun k => k = b) w { w with heap := w.heap.setIfInBounds b o } := fun o =>
    ⟨rfl, rfl, rfl, by simp, fun k _ hn => by simp [Array.getElem?_setIfInBounds, Ne.symm hn]⟩
  cases hi : sidx es.toList s 0 with
  | none =>
    have hn : sget es.toList s = none := by unfold sget; rw [hi]; rfl
    refine ⟨_, ?_, hK { w with heap := w.heap.setIfInBounds b (.map (es.push { key := .string s, val := v, born := c }) (c + 1)) } ⟨_, _, hget _, ?_, fun t => ?_⟩ (hkeep _) (by simp)⟩
    · unfold Instr.mapUpdate
      simp [run_underlying ht, run_getMap hb, checkKey_str _ _ hk, findKey_str hk hs, hi, run_setMap hb]
    · intro e he
      rw [Array.toList_push, List.mem_append, List.mem_singleton] at he
      rcases he with he | rfl
      · exact hs e he
      · exact ⟨s, rfl⟩
    · rw [Array.toList_push, sget_push hs rfl hn]
      unfold upd
      rw [hm]
  | some p =>
    obtain ⟨i, v0⟩ := p
    have hold : ∃ e0, es[i]? = some e0 ∧ e0.key = .string s := sidx_at (j := 0) hs (by rw [hi, Nat.zero_add])
    obtain ⟨e0, he0, hk0⟩ := hold
    refine ⟨_, ?_, hK { w with heap := w.heap.setIfInBounds b (.map (es.modify i fun e => { e with key := .string s, val := v }) c) } ⟨_, _, hget _, ?_, fun t => ?_⟩ (hkeep _) (by simp)⟩
    · unfold Instr.mapUpdate
      simp [run_underlying ht, run_getMap hb, checkKey_str _ _ hk, findKey_str hk hs, hi, run_setMap hb, he0, hk0, Instr.keyThatStays, Instr.sameBits, (MapKept.bytes_beq s s).2 rfl]
    · rw [Array.toList_modify]; exact skeys_modify hs
    · rw [Array.toList_modify, sget_modify hs hi]
      unfold upd
      rw [hm]
end
end Go.Proofs.YtiokflecflbopaaDoor.CF

/- Rules: bytes copied into a row of one's own. -/
namespace Go.Proofs.YtiokflecflbopaaDoor.CF
open Go Go.RowKit

theorem copy_rule {P : Program} {w : World} {base : Nat} {t ty e : TypeId} {zv : Option Value} {bytes : Nat} (ht : P.underlying t = some (.slice e)) (hinfo : (P.info? e).map (fun i => (i.zero, i.size, i.bytes)) = some (zv, 1, bytes))
    {f x : Sl} {F xs : List Value} {o : Nat} (hf : Own w base e 1 f F) (hx : Rd w 1 x xs) (h1 : ∀ u ∈ xs, u.oneCell' = true) (ho : o + x.n ≤ f.n)
    {K : Int → World → Prop} (h : ∀ w', Own w' base e 1 f (F.take o ++ xs ++ F.drop (o + x.n)) → Keep (fun k => some k = f.blk) w w' → w'.heap.size = w.heap.size → K (x.n : Int) w') :
    RunK P (.i .i64) (Builtin.copy_ #[t, t] ty #[.slice (cutA f.A f.c o 1) (f.n - o) (f.c - o), .slice x.A x.n x.c]) w K := by
  have hs : (P.info? e).map (·.size) = some 1 := by
    obtain ⟨i, hi, hzz⟩ := Option.map_eq_some_iff.1 hinfo
    simp only [Prod.mk.injEq] at hzz
    rw [hi, Option.map_some, hzz.2.1]
  have hFl : F.length = f.n := by have := hf.len; omega
  have hxl : xs.length = x.n := by have := hx.len; omega
  rcases Nat.eq_zero_or_pos x.n with h0 | hpos
  · have hx0 : xs = [] := List.eq_nil_of_length_eq_zero (by omega)
    refine ⟨(x.n : Int), w, ?_, h w ?_ (Keep.refl _ _) rfl⟩
    · rw [run_copy_none (P := P) w t t ty e _ _ _ _ _ _ ht hs (by rw [h0]; exact Nat.zero_min _), h0]; rfl
    · rw [hx0, h0, List.append_nil, Nat.add_zero, List.take_append_drop]; exact hf
  · obtain ⟨hlen, hown⟩ := hf
    rcases hown with ⟨h2, hn0⟩ | ⟨g, cap, cur, hv, hbg, hg, hnc, hcm, hcs, htake⟩
    · omega
    · injection hv with hA hN hC
      have hne : xs ≠ [] := fun e => by rw [e] at hxl; simp at hxl; omega
      obtain ⟨a, ha, hc⟩ := hx.at_ hne
      have hcA : cutA f.A f.c o 1 = some ⟨g, o, none⟩ := by
        unfold cutA
        rw [if_neg (by omega), hA]
        simp [Addr.add]
        omega
      have hcs' : cur.size = cap := by simpa using hcs
      have hmin : xs.length = Nat.min x.n (f.n - o) := by
        have : Nat.min x.n (f.n - o) = x.n := Nat.min_eq_left (by omega)
        omega
      have hr := run_copy_row (P := P) w t t ty e g o (f.n - o) (f.c - o) a x.n x.c cur e xs ht hs hg hmin hc (by omega) h1
      rw [hcA, ha]
      refine ⟨(x.n : Int), _, by rw [hr, hxl]; rfl, h _ ⟨?_, .inr ⟨g, cap, _, by rw [hA, hC], hbg, setRow_heap w g cur _ e _ hg, hnc, hcm, ?_, ?_⟩⟩ ⟨rfl, rfl, rfl, by simp, fun k _ hk => setRow_other w g k _ (fun e => hk (by simp [Sl.blk, hA, e]))⟩ (by simp)⟩
      · simp only [List.length_append, List.length_take, List.length_drop]
        omega
      · simp only [List.size_toArray, List.length_append, List.length_take, List.length_drop, Array.length_toList]
        omega
      · have hF : cur.toList.take (f.n * 1) = F := htake
        rw [Nat.mul_one] at hF ⊢
        rw [← hF]
        apply List.ext_getElem?
        intro j
        simp only [List.getElem?_take, List.getElem?_append, List.length_append, List.length_take, Array.length_toList, List.getElem?_drop, hxl]
        have e1 : min o cur.size = o := by omega
        have e2 : min o (min f.n cur.size) = o := by omega
        simp only [e1, e2]
        by_cases q1 : j < o
        · have q2 : j < o + x.n := by omega
          have q3 : j < f.n := by omega
          simp only [if_pos q1, if_pos q2, if_pos q3]
        · by_cases q2 : j < o + x.n
          · have q3 : j < f.n := by omega
            simp only [if_neg q1, if_pos q2, if_pos q3]
          · by_cases q3 : j < f.n
            · have q4 : o + x.n + (j - (o + x.n)) < f.n := by omega
              simp only [if_neg q2, if_pos q3, if_pos q4]
            · have q4 : ¬ o + x.n + (j - (o + x.n)) < f.n := by omega
              simp only [if_neg q2, if_neg q3, if_neg q4]
end Go.Proofs.YtiokflecflbopaaDoor.CF

-- printed by wip/cf/cfprint.py
namespace Go.Proofs.YtiokflecflbopaaDoor
open Go CF
def cs : List Nat := [3, 4, 5, 6, 7, 8, 9, 10, 11, 12, 13, 14, 15, 16, 17, 18, 19, 20, 21, 22, 23, 24, 25, 26, 27, 28, 29, 30, 31, 32, 33, 34, 35, 36, 37, 38, 39, 40, 41, 42, 43, 44, 45, 46, 47, 48, 49, 50, 51, 52, 53, 54, 55, 56, 58, 59, 60, 61, 62, 63, 64, 66, 67, 68]
def okCalls (P : Program) : List Nat → Bool
  | [] => true
  | f :: r => (match P.funcs[f]? with | some fn => !(fn.name == "runtime.NumGoroutine") && !fn.body.isNone | none => false) && okCalls P r
theorem okCalls_ok {P : Program} : ∀ {l : List Nat}, okCalls P l = true → Callable P l
  | [], _, f, h => by cases h
  | g :: r, hok, f, h => by
    simp only [okCalls, Bool.and_eq_true] at hok
    simp only [memN, Bool.or_eq_true] at h
    rcases h with h | h
    · have e : g = f := Nat.eq_of_beq_eq_true h
      subst e
      have h1 := hok.1
      split at h1
      · rename_i fn hf
        simp only [Bool.and_eq_true, Bool.not_eq_true'] at h1
        exact ⟨fn, hf, h1.1, h1.2⟩
      · cases h1
    · exact okCalls_ok hok.2 f h
theorem callable : Callable Tryd.prog cs := okCalls_ok (by kernel_rfl)
theorem wide : Tryd.prog.follows .mixedOrders = true := by kernel_rfl
noncomputable def G : Gen := gen Tryd.prog cs
def s_No : ByteArray := ⟨#[78, 111]⟩
def s_Yes : ByteArray := ⟨#[89, 101, 115]⟩
def s_a : ByteArray := ⟨#[97]⟩
def s_1 : ByteArray := ⟨#[49]⟩
def s_0x : ByteArray := ⟨#[48, 120]⟩
def s_Reject : ByteArray := ⟨#[82, 101, 106, 101, 99, 116]⟩
def s_x00 : ByteArray := ⟨#[0]⟩
def s_x3d : ByteArray := ⟨#[61]⟩
def s_ParseUint : ByteArray := ⟨#[80, 97, 114, 115, 101, 85, 105, 110, 116]⟩
def s_0123456789abcdefghijklmnopqrstuv : ByteArray := ⟨#[48, 49, 50, 51, 52, 53, 54, 55, 56, 57, 97, 98, 99, 100, 101, 102, 103, 104, 105, 106, 107, 108, 109, 110, 111, 112, 113, 114, 115, 116, 117, 118, 119, 120, 121, 122]⟩
def s_00010203040506070809101112131415 : ByteArray := ⟨#[48, 48, 48, 49, 48, 50, 48, 51, 48, 52, 48, 53, 48, 54, 48, 55, 48, 56, 48, 57, 49, 48, 49, 49, 49, 50, 49, 51, 49, 52, 49, 53, 49, 54, 49, 55, 49, 56, 49, 57, 50, 48, 50, 49, 50, 50, 50, 51, 50, 52, 50, 53, 50, 54, 50, 55, 50, 56, 50, 57, 51, 48, 51, 49, 51, 50, 51, 51, 51, 52, 51, 53, 51, 54, 51, 55, 51, 56, 51, 57, 52, 48, 52, 49, 52, 50, 52, 51, 52, 52, 52, 53, 52, 54, 52, 55, 52, 56, 52, 57, 53, 48, 53, 49, 53, 50, 53, 51, 53, 52, 53, 53, 53, 54, 53, 55, 53, 56, 53, 57, 54, 48, 54, 49, 54, 50, 54, 51, 54, 52, 54, 53, 54, 54, 54, 55, 54, 56, 54, 57, 55, 48, 55, 49, 55, 50, 55, 51, 55, 52, 55, 53, 55, 54, 55, 55, 55, 56, 55, 57, 56, 48, 56, 49, 56, 50, 56, 51, 56, 52, 56, 53, 56, 54, 56, 55, 56, 56, 56, 57, 57, 48, 57, 49, 57, 50, 57, 51, 57, 52, 57, 53, 57, 54, 57, 55, 57, 56, 57, 57]⟩
def s_strconvx3ax20illegalx20AppendInt : ByteArray := ⟨#[115, 116, 114, 99, 111, 110, 118, 58, 32, 105, 108, 108, 101, 103, 97, 108, 32, 65, 112, 112, 101, 110, 100, 73, 110, 116, 47, 70, 111, 114, 109, 97, 116, 73, 110, 116, 32, 98, 97, 115, 101]⟩
def s_invalidx20basex20 : ByteArray := ⟨#[105, 110, 118, 97, 108, 105, 100, 32, 98, 97, 115, 101, 32]⟩
def s_invalidx20bitx20sizex20 : ByteArray := ⟨#[105, 110, 118, 97, 108, 105, 100, 32, 98, 105, 116, 32, 115, 105, 122, 101, 32]⟩
def s_x00x01x02x02x03x03x03x03x04x04x0 : ByteArray := ⟨#[0, 1, 2, 2, 3, 3, 3, 3, 4, 4, 4, 4, 4, 4, 4, 4, 5, 5, 5, 5, 5, 5, 5, 5, 5, 5, 5, 5, 5, 5, 5, 5, 6, 6, 6, 6, 6, 6, 6, 6, 6, 6, 6, 6, 6, 6, 6, 6, 6, 6, 6, 6, 6, 6, 6, 6, 6, 6, 6, 6, 6, 6, 6, 6, 7, 7, 7, 7, 7, 7, 7, 7, 7, 7, 7, 7, 7, 7, 7, 7, 7, 7, 7, 7, 7, 7, 7, 7, 7, 7, 7, 7, 7, 7, 7, 7, 7, 7, 7, 7, 7, 7, 7, 7, 7, 7, 7, 7, 7, 7, 7, 7, 7, 7, 7, 7, 7, 7, 7, 7, 7, 7, 7, 7, 7, 7, 7, 7, 8, 8, 8, 8, 8, 8, 8, 8, 8, 8, 8, 8, 8, 8, 8, 8, 8, 8, 8, 8, 8, 8, 8, 8, 8, 8, 8, 8, 8, 8, 8, 8, 8, 8, 8, 8, 8, 8, 8, 8, 8, 8, 8, 8, 8, 8, 8, 8, 8, 8, 8, 8, 8, 8, 8, 8, 8, 8, 8, 8, 8, 8, 8, 8, 8, 8, 8, 8, 8, 8, 8, 8, 8, 8, 8, 8, 8, 8, 8, 8, 8, 8, 8, 8, 8, 8, 8, 8, 8, 8, 8, 8, 8, 8, 8, 8, 8, 8, 8, 8, 8, 8, 8, 8, 8, 8, 8, 8, 8, 8, 8, 8, 8, 8, 8, 8, 8, 8, 8, 8, 8, 8, 8, 8, 8, 8, 8, 8]⟩
def Cpalletlaw18_TextAgrees (p0 : Int) (p1 : Int) (p2 : Bool) (p3 : Bool) (w : World) (R : Bool → World → Prop) : Prop := CallK Tryd.prog 3 #[.int .u64 p0, .int .u64 p1, .bool p2, .bool p3] w [.b] R
def Cpalletlaw18_TextAsks (p0 : Sl) (p1 : ByteArray) (p2 : ByteArray) (p3 : Sl) (p4 : Int) (p5 : Int) (p6 : Int) (p7 : Bool) (w : World) (R : Bool → World → Prop) : Prop := CallK Tryd.prog 4 #[.slice p0.A p0.n p0.c, .string p1, .string p2, .slice p3.A p3.n p3.c, .int .u64 p4, .int .u64 p5, .int .u64 p6, .bool p7] w [.b] R
def Cpalletlaw18_awake (w : World) (R : Bool → World → Prop) : Prop := CallK Tryd.prog 5 #[] w [.b] R
def Ctext_Number (p0 : ByteArray) (w : World) (R : Int → Bool → World → Prop) : Prop := CallK Tryd.prog 6 #[.string p0] w [.i .u64, .b] R
def Cpalletref18_Dec (p0 : Int) (w : World) (R : ByteArray → World → Prop) : Prop := CallK Tryd.prog 7 #[.int .u64 p0] w [.s] R
def Ctext_Least (p0 : ByteArray) (p1 : Int) (p2 : Int) (p3 : Int) (w : World) (R : ByteArray → World → Prop) : Prop := CallK Tryd.prog 8 #[.string p0, .int .u64 p1, .int .u64 p2, .int .u64 p3] w [.s] R
def Ctext_Both (p0 : ByteArray) (p1 : Bool) (w : World) (R : ByteArray → World → Prop) : Prop := CallK Tryd.prog 9 #[.string p0, .bool p1] w [.s] R
def Ctext_Either (p0 : ByteArray) (p1 : Bool) (w : World) (R : ByteArray → World → Prop) : Prop := CallK Tryd.prog 10 #[.string p0, .bool p1] w [.s] R
def Ctext_Find (p0 : Sl) (p1 : ByteArray) (w : World) (R : ByteArray → Bool → World → Prop) : Prop := CallK Tryd.prog 11 #[.slice p0.A p0.n p0.c, .string p1] w [.s, .b] R
def Cpalletref18_Find (p0 : Sl) (p1 : ByteArray) (w : World) (R : ByteArray → Bool → World → Prop) : Prop := CallK Tryd.prog 12 #[.slice p0.A p0.n p0.c, .string p1] w [.s, .b] R
def Cpalletref18_Number (p0 : ByteArray) (w : World) (R : Int → Bool → World → Prop) : Prop := CallK Tryd.prog 13 #[.string p0] w [.i .u64, .b] R
def Cpalletref18_Least (p0 : ByteArray) (p1 : Int) (p2 : Int) (p3 : Int) (w : World) (R : ByteArray → World → Prop) : Prop := CallK Tryd.prog 14 #[.string p0, .int .u64 p1, .int .u64 p2, .int .u64 p3] w [.s] R
def Cpalletref18_Both (p0 : ByteArray) (p1 : Bool) (w : World) (R : ByteArray → World → Prop) : Prop := CallK Tryd.prog 15 #[.string p0, .bool p1] w [.s] R
def Cpalletref18_Either (p0 : ByteArray) (p1 : Bool) (w : World) (R : ByteArray → World → Prop) : Prop := CallK Tryd.prog 16 #[.string p0, .bool p1] w [.s] R
def Ctext_First (p0 : ByteArray) (p1 : Sl) (w : World) (R : ByteArray → World → Prop) : Prop := CallK Tryd.prog 17 #[.string p0, .slice p1.A p1.n p1.c] w [.s] R
def Cpalletref18_First (p0 : ByteArray) (p1 : Sl) (w : World) (R : ByteArray → World → Prop) : Prop := CallK Tryd.prog 18 #[.string p0, .slice p1.A p1.n p1.c] w [.s] R
def Ctext_Parse (p0 : Sl) (w : World) (R : Sl → Int → World → Prop) : Prop := CallK Tryd.prog 19 #[.slice p0.A p0.n p0.c] w [.sl, .i .i64] R
def Cstrings_CutPrefix (p0 : ByteArray) (p1 : ByteArray) (w : World) (R : ByteArray → Bool → World → Prop) : Prop := CallK Tryd.prog 20 #[.string p0, .string p1] w [.s, .b] R
def Ctext_parsed (p0 : ByteArray) (p1 : Int) (w : World) (R : Int → Bool → World → Prop) : Prop := CallK Tryd.prog 21 #[.string p0, .int .i64 p1] w [.i .u64, .b] R
def Cstrconv_FormatUint (p0 : Int) (p1 : Int) (w : World) (R : ByteArray → World → Prop) : Prop := CallK Tryd.prog 22 #[.int .u64 p0, .int .i64 p1] w [.s] R
def Ctext_yes (p0 : ByteArray) (p1 : Bool) (w : World) (R : ByteArray → World → Prop) : Prop := CallK Tryd.prog 23 #[.string p0, .bool p1] w [.s] R
def Cstrings_SplitSeq (p0 : ByteArray) (p1 : ByteArray) (w : World) (R : Value → World → Prop) : Prop := CallK Tryd.prog 24 #[.string p0, .string p1] w [.v] R
def Cstrings_Cut (p0 : ByteArray) (p1 : ByteArray) (w : World) (R : ByteArray → ByteArray → Bool → World → Prop) : Prop := CallK Tryd.prog 25 #[.string p0, .string p1] w [.s, .s, .b] R
def Ctext_key (p0 : ByteArray) (w : World) (R : Bool → World → Prop) : Prop := CallK Tryd.prog 26 #[.string p0] w [.b] R
def Ctext_value (p0 : ByteArray) (w : World) (R : Bool → World → Prop) : Prop := CallK Tryd.prog 27 #[.string p0] w [.b] R
def Cinternal_stringslite_CutPrefix (p0 : ByteArray) (p1 : ByteArray) (w : World) (R : ByteArray → Bool → World → Prop) : Prop := CallK Tryd.prog 28 #[.string p0, .string p1] w [.s, .b] R
def Cstrconv_ParseUint (p0 : ByteArray) (p1 : Int) (p2 : Int) (w : World) (R : Int → Value → World → Prop) : Prop := CallK Tryd.prog 29 #[.string p0, .int .i64 p1, .int .i64 p2] w [.i .u64, .v] R
def Cinternal_strconv_FormatUint (p0 : Int) (p1 : Int) (w : World) (R : ByteArray → World → Prop) : Prop := CallK Tryd.prog 30 #[.int .u64 p0, .int .i64 p1] w [.s] R
def Cstrings_splitSeq (p0 : ByteArray) (p1 : ByteArray) (p2 : Int) (w : World) (R : Value → World → Prop) : Prop := CallK Tryd.prog 31 #[.string p0, .string p1, .int .i64 p2] w [.v] R
def Cinternal_stringslite_Cut (p0 : ByteArray) (p1 : ByteArray) (w : World) (R : ByteArray → ByteArray → Bool → World → Prop) : Prop := CallK Tryd.prog 32 #[.string p0, .string p1] w [.s, .s, .b] R
def Cinternal_stringslite_HasPrefix (p0 : ByteArray) (p1 : ByteArray) (w : World) (R : Bool → World → Prop) : Prop := CallK Tryd.prog 33 #[.string p0, .string p1] w [.b] R
def Cinternal_strconv_ParseUint (p0 : ByteArray) (p1 : Int) (p2 : Int) (w : World) (R : Int → Value → World → Prop) : Prop := CallK Tryd.prog 34 #[.string p0, .int .i64 p1, .int .i64 p2] w [.i .u64, .v] R
def Cstrconv_toError (p0 : ByteArray) (p1 : ByteArray) (p2 : Int) (p3 : Int) (p4 : Value) (w : World) (R : Value → World → Prop) : Prop := CallK Tryd.prog 35 #[.string p0, .string p1, .int .i64 p2, .int .i64 p3, p4] w [.v] R
def Cinternal_strconv_small (p0 : Int) (w : World) (R : ByteArray → World → Prop) : Prop := CallK Tryd.prog 36 #[.int .i64 p0] w [.s] R
def Cinternal_strconv_numDigits (p0 : Int) (w : World) (R : Int → World → Prop) : Prop := CallK Tryd.prog 37 #[.int .u64 p0] w [.i .i64] R
def Cinternal_strconv_formatBase10 (p0 : Sl) (p1 : Int) (w : World) (R : World → Prop) : Prop := CallK Tryd.prog 38 #[.slice p0.A p0.n p0.c, .int .u64 p1] w [] R
def Cinternal_strconv_formatBits (p0 : Sl) (p1 : Int) (p2 : Int) (p3 : Bool) (p4 : Bool) (w : World) (R : Sl → ByteArray → World → Prop) : Prop := CallK Tryd.prog 39 #[.slice p0.A p0.n p0.c, .int .u64 p1, .int .i64 p2, .bool p3, .bool p4] w [.sl, .s] R
def Cstrings_splitSeq_1 (p0 : Value) (p1 : Addr) (p2 : Addr) (p3 : Addr) (w : World) (R : World → Prop) : Prop := CallK Tryd.prog 40 #[p0, .pointer (some p1), .pointer (some p2), .pointer (some p3)] w [] R
def Cunicode_utf8_DecodeRuneInString (p0 : ByteArray) (w : World) (R : Int → Int → World → Prop) : Prop := CallK Tryd.prog 41 #[.string p0] w [.i .i32, .i .i64] R
def Cstrings_Index (p0 : ByteArray) (p1 : ByteArray) (w : World) (R : Int → World → Prop) : Prop := CallK Tryd.prog 42 #[.string p0, .string p1] w [.i .i64] R
def Cinternal_stringslite_Index (p0 : ByteArray) (p1 : ByteArray) (w : World) (R : Int → World → Prop) : Prop := CallK Tryd.prog 43 #[.string p0, .string p1] w [.i .i64] R
def Cinternal_strconv_lower (p0 : Int) (w : World) (R : Int → World → Prop) : Prop := CallK Tryd.prog 44 #[.int .u8 p0] w [.i .u8] R
def Cinternal_strconv_underscoreOK (p0 : ByteArray) (w : World) (R : Bool → World → Prop) : Prop := CallK Tryd.prog 45 #[.string p0] w [.b] R
def Cstrconv_syntaxError (p0 : ByteArray) (p1 : ByteArray) (w : World) (R : (Option Addr) → World → Prop) : Prop := CallK Tryd.prog 46 #[.string p0, .string p1] w [.p] R
def Cstrconv_rangeError (p0 : ByteArray) (p1 : ByteArray) (w : World) (R : (Option Addr) → World → Prop) : Prop := CallK Tryd.prog 47 #[.string p0, .string p1] w [.p] R
def Cstrconv_baseError (p0 : ByteArray) (p1 : ByteArray) (p2 : Int) (w : World) (R : (Option Addr) → World → Prop) : Prop := CallK Tryd.prog 48 #[.string p0, .string p1, .int .i64 p2] w [.p] R
def Cstrconv_bitSizeError (p0 : ByteArray) (p1 : ByteArray) (p2 : Int) (w : World) (R : (Option Addr) → World → Prop) : Prop := CallK Tryd.prog 49 #[.string p0, .string p1, .int .i64 p2] w [.p] R
def Cinternal_strconv_log10Pow2 (p0 : Int) (w : World) (R : Int → World → Prop) : Prop := CallK Tryd.prog 50 #[.int .i64 p0] w [.i .i64] R
def Cmath_bits_Len64 (p0 : Int) (w : World) (R : Int → World → Prop) : Prop := CallK Tryd.prog 51 #[.int .u64 p0] w [.i .i64] R
def Cinternal_strconv_bool2_int (p0 : Bool) (w : World) (R : Int → World → Prop) : Prop := CallK Tryd.prog 52 #[.bool p0] w [.i .i64] R
def Cinternal_strconv_isPowerOfTwo (p0 : Int) (w : World) (R : Bool → World → Prop) : Prop := CallK Tryd.prog 53 #[.int .i64 p0] w [.b] R
def Cmath_bits_TrailingZeros (p0 : Int) (w : World) (R : Int → World → Prop) : Prop := CallK Tryd.prog 54 #[.int .u64 p0] w [.i .i64] R
def Cunicode_utf8_decodeRuneInStringSlow (p0 : ByteArray) (w : World) (R : Int → Int → World → Prop) : Prop := CallK Tryd.prog 55 #[.string p0] w [.i .i32, .i .i64] R
def Cinternal_stringslite_IndexByte (p0 : ByteArray) (p1 : Int) (w : World) (R : Int → World → Prop) : Prop := CallK Tryd.prog 56 #[.string p0, .int .u8 p1] w [.i .i64] R
def Cinternal_bytealg_Cutover (p0 : Int) (w : World) (R : Int → World → Prop) : Prop := CallK Tryd.prog 58 #[.int .i64 p0] w [.i .i64] R
def Cinternal_bytealg_IndexRabinKarp_string (p0 : ByteArray) (p1 : ByteArray) (w : World) (R : Int → World → Prop) : Prop := CallK Tryd.prog 59 #[.string p0, .string p1] w [.i .i64] R
def Cinternal_stringslite_Clone (p0 : ByteArray) (w : World) (R : ByteArray → World → Prop) : Prop := CallK Tryd.prog 60 #[.string p0] w [.s] R
def Cerrors_New (p0 : ByteArray) (w : World) (R : Value → World → Prop) : Prop := CallK Tryd.prog 61 #[.string p0] w [.v] R
def Cstrconv_Itoa (p0 : Int) (w : World) (R : ByteArray → World → Prop) : Prop := CallK Tryd.prog 62 #[.int .i64 p0] w [.s] R
def Cmath_bits_TrailingZeros32 (p0 : Int) (w : World) (R : Int → World → Prop) : Prop := CallK Tryd.prog 63 #[.int .u32 p0] w [.i .i64] R
def Cmath_bits_TrailingZeros64 (p0 : Int) (w : World) (R : Int → World → Prop) : Prop := CallK Tryd.prog 64 #[.int .u64 p0] w [.i .i64] R
def Cinternal_bytealg_hashStr_string (p0 : ByteArray) (w : World) (R : Int → Int → World → Prop) : Prop := CallK Tryd.prog 66 #[.string p0] w [.i .u32, .i .u32] R
def Cinternal_strconv_Itoa (p0 : Int) (w : World) (R : ByteArray → World → Prop) : Prop := CallK Tryd.prog 67 #[.int .i64 p0] w [.s] R
def Cinternal_strconv_FormatInt (p0 : Int) (p1 : Int) (w : World) (R : ByteArray → World → Prop) : Prop := CallK Tryd.prog 68 #[.int .i64 p0, .int .i64 p1] w [.s] R
abbrev t_int64 : TypeId := 2
theorem u_int64 : Tryd.prog.underlying 2 = some (.int .i64) := by kernel_rfl
theorem i_int64 : (Tryd.prog.info? 2).map (fun i => (i.zero, i.size, i.bytes)) = some (some (.int .i64 0), 1, 8) := by kernel_rfl
abbrev t_int : TypeId := 3
theorem u_int : Tryd.prog.underlying 3 = some (.int .i64) := by kernel_rfl
theorem i_int : (Tryd.prog.info? 3).map (fun i => (i.zero, i.size, i.bytes)) = some (some (.int .i64 0), 1, 8) := by kernel_rfl
abbrev t_bool : TypeId := 4
theorem u_bool : Tryd.prog.underlying 4 = some .bool := by kernel_rfl
theorem i_bool : (Tryd.prog.info? 4).map (fun i => (i.zero, i.size, i.bytes)) = some (some (.bool false), 1, 1) := by kernel_rfl
abbrev t_uint8 : TypeId := 5
theorem u_uint8 : Tryd.prog.underlying 5 = some (.int .u8) := by kernel_rfl
theorem i_uint8 : (Tryd.prog.info? 5).map (fun i => (i.zero, i.size, i.bytes)) = some (some (.int .u8 0), 1, 1) := by kernel_rfl
abbrev t_string : TypeId := 9
theorem u_string : Tryd.prog.underlying 9 = some .string := by kernel_rfl
theorem i_string : (Tryd.prog.info? 9).map (fun i => (i.zero, i.size, i.bytes)) = some (some (.string ⟨#[]⟩), 1, 16) := by kernel_rfl
abbrev t_interface : TypeId := 20
abbrev t_int32 : TypeId := 21
theorem u_int32 : Tryd.prog.underlying 21 = some (.int .i32) := by kernel_rfl
theorem i_int32 : (Tryd.prog.info? 21).map (fun i => (i.zero, i.size, i.bytes)) = some (some (.int .i32 0), 1, 4) := by kernel_rfl
abbrev t_uint64 : TypeId := 22
theorem u_uint64 : Tryd.prog.underlying 22 = some (.int .u64) := by kernel_rfl
theorem i_uint64 : (Tryd.prog.info? 22).map (fun i => (i.zero, i.size, i.bytes)) = some (some (.int .u64 0), 1, 8) := by kernel_rfl
abbrev t_sl_string : TypeId := 24
theorem u_sl_string : Tryd.prog.underlying 24 = some (.slice 9) := by kernel_rfl
theorem i_sl_string : (Tryd.prog.info? 24).map (fun i => (i.zero, i.size, i.bytes)) = some (some (.slice none 0 0), 1, 24) := by kernel_rfl
abbrev t_sl_api_Pair : TypeId := 31
theorem u_sl_api_Pair : Tryd.prog.underlying 31 = some (.slice 41) := by kernel_rfl
theorem i_sl_api_Pair : (Tryd.prog.info? 31).map (fun i => (i.zero, i.size, i.bytes)) = some (some (.slice none 0 0), 1, 24) := by kernel_rfl
abbrev t_api_Errno : TypeId := 36
theorem u_api_Errno : Tryd.prog.underlying 36 = some (.int .i64) := by kernel_rfl
theorem i_api_Errno : (Tryd.prog.info? 36).map (fun i => (i.zero, i.size, i.bytes)) = some (some (.int .i64 0), 1, 8) := by kernel_rfl
abbrev t_sl_uint8 : TypeId := 39
theorem u_sl_uint8 : Tryd.prog.underlying 39 = some (.slice 5) := by kernel_rfl
theorem i_sl_uint8 : (Tryd.prog.info? 39).map (fun i => (i.zero, i.size, i.bytes)) = some (some (.slice none 0 0), 1, 24) := by kernel_rfl
abbrev t_api_Pair : TypeId := 41
theorem i_api_Pair : (Tryd.prog.info? 41).map (fun i => (i.zero, i.size, i.bytes)) = some (some (.agg #[.string ⟨#[]⟩, .string ⟨#[]⟩]), 2, 32) := by kernel_rfl
theorem g_api_Pair : (Tryd.prog.underlying 41).map kdOf = some .ag := by kernel_rfl
abbrev t_error : TypeId := 52
abbrev t_24_uint8 : TypeId := 59
theorem i_24_uint8 : (Tryd.prog.info? 59).map (fun i => (i.zero, i.size, i.bytes)) = some (some (.agg #[.int .u8 0, .int .u8 0, .int .u8 0, .int .u8 0, .int .u8 0, .int .u8 0, .int .u8 0, .int .u8 0, .int .u8 0, .int .u8 0, .int .u8 0, .int .u8 0, .int .u8 0, .int .u8 0, .int .u8 0, .int .u8 0, .int .u8 0, .int .u8 0, .int .u8 0, .int .u8 0, .int .u8 0, .int .u8 0, .int .u8 0, .int .u8 0]), 24, 24) := by kernel_rfl
theorem g_24_uint8 : (Tryd.prog.underlying 59).map kdOf = some .ag := by kernel_rfl
abbrev t_strconv_Error : TypeId := 67
theorem u_strconv_Error : Tryd.prog.underlying 67 = some (.int .i64) := by kernel_rfl
theorem i_strconv_Error : (Tryd.prog.info? 67).map (fun i => (i.zero, i.size, i.bytes)) = some (some (.int .i64 0), 1, 8) := by kernel_rfl
abbrev t_uint : TypeId := 69
theorem u_uint : Tryd.prog.underlying 69 = some (.int .u64) := by kernel_rfl
theorem i_uint : (Tryd.prog.info? 69).map (fun i => (i.zero, i.size, i.bytes)) = some (some (.int .u64 0), 1, 8) := by kernel_rfl
abbrev t_p_strconv_NumError : TypeId := 70
theorem i_p_strconv_NumError : (Tryd.prog.info? 70).map (fun i => (i.zero, i.size, i.bytes)) = some (some (.pointer none), 1, 8) := by kernel_rfl
abbrev t_uint32 : TypeId := 76
theorem u_uint32 : Tryd.prog.underlying 76 = some (.int .u32) := by kernel_rfl
theorem i_uint32 : (Tryd.prog.info? 76).map (fun i => (i.zero, i.size, i.bytes)) = some (some (.int .u32 0), 1, 4) := by kernel_rfl
abbrev t_65_uint8 : TypeId := 77
theorem g_65_uint8 : (Tryd.prog.underlying 77).map kdOf = some .ag := by kernel_rfl
abbrev t_strconv_NumError : TypeId := 83
theorem i_strconv_NumError : (Tryd.prog.info? 83).map (fun i => (i.zero, i.size, i.bytes)) = some (some (.agg #[.string ⟨#[]⟩, .string ⟨#[]⟩, .nilIface]), 3, 48) := by kernel_rfl
theorem g_strconv_NumError : (Tryd.prog.underlying 83).map kdOf = some .ag := by kernel_rfl
abbrev t_utf8_acceptRange : TypeId := 88
theorem i_utf8_acceptRange : (Tryd.prog.info? 88).map (fun i => (i.zero, i.size, i.bytes)) = some (some (.agg #[.int .u8 0, .int .u8 0]), 2, 2) := by kernel_rfl
theorem g_utf8_acceptRange : (Tryd.prog.underlying 88).map kdOf = some .ag := by kernel_rfl
abbrev t_p_errors_errorString : TypeId := 93
theorem i_p_errors_errorString : (Tryd.prog.info? 93).map (fun i => (i.zero, i.size, i.bytes)) = some (some (.pointer none), 1, 8) := by kernel_rfl
abbrev t_errors_errorString : TypeId := 95
theorem i_errors_errorString : (Tryd.prog.info? 95).map (fun i => (i.zero, i.size, i.bytes)) = some (some (.agg #[.string ⟨#[]⟩]), 1, 16) := by kernel_rfl
theorem g_errors_errorString : (Tryd.prog.underlying 95).map kdOf = some .ag := by kernel_rfl
abbrev gl_internal_strconv_uint64pow10 : Nat := 0
abbrev gt_internal_strconv_uint64pow10 : TypeId := 75
abbrev gl_internal_bytealg_MaxLen : Nat := 1
abbrev gt_internal_bytealg_MaxLen : TypeId := 3
abbrev gl_strconv_ErrSyntax : Nat := 2
abbrev gt_strconv_ErrSyntax : TypeId := 52
abbrev gl_strconv_ErrRange : Nat := 3
abbrev gt_strconv_ErrRange : TypeId := 52
abbrev gl_unicode_utf8_first : Nat := 4
abbrev gt_unicode_utf8_first : TypeId := 86
abbrev gl_unicode_utf8_acceptRanges : Nat := 5
abbrev gt_unicode_utf8_acceptRanges : TypeId := 89
abbrev gl_math_bits_deBruijn32tab : Nat := 6
abbrev gt_math_bits_deBruijn32tab : TypeId := 96
abbrev gl_math_bits_deBruijn64tab : Nat := 7
abbrev gt_math_bits_deBruijn64tab : TypeId := 97
end Go.Proofs.YtiokflecflbopaaDoor

-- printed by wip/cf/cfprint.py
namespace Go.Proofs.YtiokflecflbopaaDoor
open Go CF
set_option linter.unusedVariables false
set_option maxRecDepth 100000
/-- pallet/palletlaw18.TextAgrees -/
def Fpalletlaw18_TextAgrees (a : Int) (b : Int) (x : Bool) (y : Bool) (w : World) (R : Bool → World → Prop) : Prop :=
  Cpalletlaw18_awake  w fun b1 w0 => Br (!b1) (R false w0) (RunK Tryd.prog .sl (Instr.buildSlice 24 2 #[(0, .string s_No), (1, .string s_Yes)]) w0 fun xs w01 => letX (fun (i : Int) (w02 : World) => letX (fun (j : Int) (w03 : World) => Cpalletref18_Dec a w03 fun s w04 => Ctext_Number s w04 fun n b2 w05 => ∀ w06, w06 = w05.drew → ∃ S : World → Prop, S w06 ∧ letJ (fun (s1 : ByteArray) (w07 : World) => S w07 ∧ letJ (fun (s2 : ByteArray) (w08 : World) => S w08 ∧ letJ (fun (s3 : ByteArray) (w09 : World) => S w09 ∧ letJ (fun (s4 : ByteArray) (w010 : World) => S w010 ∧ (((b2 && (n == a)) && (sEq s2 s4)) = true → (0 ≤ i ∧ i < (xs.n : Int) ∧ xs.A.isSome = true)) ∧ ∃ S1 : World → Prop, S1 w010 ∧ (∀ u, S1 u → S u) ∧ ∃ s5 : ByteArray, (((b2 && (n == a)) && (sEq s2 s4)) = true → (∀ u1, S1 u1 → u1.cell? ((gA xs.A).add (i.toNat * 1)) = some (.string s5))) ∧ (((b2 && (n == a)) && (sEq s2 s4)) = true → (0 ≤ j ∧ j < (xs.n : Int) ∧ xs.A.isSome = true)) ∧ ∃ S2 : World → Prop, S2 w010 ∧ (∀ u2, S2 u2 → S1 u2) ∧ ∃ s6 : ByteArray, (((b2 && (n == a)) && (sEq s2 s4)) = true → (∀ u3, S2 u3 → u3.cell? ((gA xs.A).add (j.toNat * 1)) = some (.string s6))) ∧ letJ (fun (s7 : ByteArray) (w011 : World) => S2 w011 ∧ letJ (fun (s8 : ByteArray) (w012 : World) => S2 w012 ∧ ((((b2 && (n == a)) && (sEq s2 s4)) && (sEq s7 s8)) = true → (0 ≤ i ∧ i < (xs.n : Int) ∧ xs.A.isSome = true)) ∧ ∃ S3 : World → Prop, S3 w012 ∧ (∀ u4, S3 u4 → S2 u4) ∧ ∃ s9 : ByteArray, ((((b2 && (n == a)) && (sEq s2 s4)) && (sEq s7 s8)) = true → (∀ u5, S3 u5 → u5.cell? ((gA xs.A).add (i.toNat * 1)) = some (.string s9))) ∧ ((((b2 && (n == a)) && (sEq s2 s4)) && (sEq s7 s8)) = true → (0 ≤ j ∧ j < (xs.n : Int) ∧ xs.A.isSome = true)) ∧ ∃ S4 : World → Prop, S4 w012 ∧ (∀ u6, S4 u6 → S3 u6) ∧ ∃ s10 : ByteArray, ((((b2 && (n == a)) && (sEq s2 s4)) && (sEq s7 s8)) = true → (∀ u7, S4 u7 → u7.cell? ((gA xs.A).add (j.toNat * 1)) = some (.string s10))) ∧ letJ (fun (s11 : ByteArray) (w013 : World) => S4 w013 ∧ letJ (fun (s12 : ByteArray) (w014 : World) => R ((((b2 && (n == a)) && (sEq s2 s4)) && (sEq s7 s8)) && (sEq s11 s12)) w014) fun J_ => ((((b2 && (n == a)) && (sEq s2 s4)) && (sEq s7 s8)) = true → Ctext_Either s10 x w013 J_) ∧ ((((b2 && (n == a)) && (sEq s2 s4)) && (sEq s7 s8)) = false → J_ (Kd.dflt .s) w013)) fun J_1 => ((((b2 && (n == a)) && (sEq s2 s4)) && (sEq s7 s8)) = true → Ctext_Either s9 y w012 J_1) ∧ ((((b2 && (n == a)) && (sEq s2 s4)) && (sEq s7 s8)) = false → J_1 (Kd.dflt .s) w012)) fun J_2 => (((b2 && (n == a)) && (sEq s2 s4)) = true → Ctext_Both s6 x w011 J_2) ∧ (((b2 && (n == a)) && (sEq s2 s4)) = false → J_2 (Kd.dflt .s) w011)) fun J_3 => (((b2 && (n == a)) && (sEq s2 s4)) = true → Ctext_Both s5 y w010 J_3) ∧ (((b2 && (n == a)) && (sEq s2 s4)) = false → J_3 (Kd.dflt .s) w010)) fun J_4 => ((b2 && (n == a)) = true → Ctext_Least s3 a 0 18446744073709551615 w09 J_4) ∧ ((b2 && (n == a)) = false → J_4 (Kd.dflt .s) w09)) fun J_5 => ((b2 && (n == a)) = true → Cpalletref18_Dec b w08 J_5) ∧ ((b2 && (n == a)) = false → J_5 (Kd.dflt .s) w08)) fun J_6 => ((b2 && (n == a)) = true → Ctext_Least s1 b 0 18446744073709551615 w07 J_6) ∧ ((b2 && (n == a)) = false → J_6 (Kd.dflt .s) w07)) fun J_7 => ((b2 && (n == a)) = true → Cpalletref18_Dec a w06 J_7) ∧ ((b2 && (n == a)) = false → J_7 (Kd.dflt .s) w06)) fun J_8 => Br y (J_8 1 w02) (J_8 0 w02)) fun J_9 => Br x (J_9 1 w01) (J_9 0 w01))
theorem Fpalletlaw18_TextAgrees.calls (a : Int) (b : Int) (x : Bool) (y : Bool) (w : World) (R : Bool → World → Prop) (h : Fpalletlaw18_TextAgrees a b x y w R) : Cpalletlaw18_TextAgrees a b x y w R :=
  calls_of_vc (anOp_ok callable) wide Tryd.func3 [(28, ⟨[(11, .i .i64)], [0, 1, 2, 3, 9, 10]⟩), (19, ⟨[(10, .i .i64)], [0, 1, 2, 3, 9]⟩)] [.b] [.int .u64 a, .int .u64 b, .bool x, .bool y] w R (Eq.mp (show Fpalletlaw18_TextAgrees a b x y w R = vcF Tryd.prog G Tryd.f3 [(28, ⟨[(11, .i .i64)], [0, 1, 2, 3, 9, 10]⟩), (19, ⟨[(10, .i .i64)], [0, 1, 2, 3, 9]⟩)] [.b] [.int .u64 a, .int .u64 b, .bool x, .bool y] w R by kernel_rfl) h)
/-- pallet/palletlaw18.TextAsks -/
def Fpalletlaw18_TextAsks (l : Sl) (k : ByteArray) (offer : ByteArray) (own : Sl) (n : Int) (low : Int) (high : Int) (yes : Bool) (w : World) (R : Bool → World → Prop) : Prop :=
  Cpalletlaw18_awake  w fun b w0 => Br (!b) (R false w0) (Ctext_Find l k w0 fun s b1 w01 => Cpalletref18_Find l k w01 fun s1 b2 w02 => Ctext_Number offer w02 fun n1 b3 w03 => Cpalletref18_Number offer w03 fun n2 b4 w04 => Br ((((!(sEq s s1)) || (!(b1 == b2))) || (n1 != n2)) || (!(b3 == b4))) (R false w04) (Ctext_Least offer n low high w04 fun s2 w05 => Cpalletref18_Least offer n low high w05 fun s3 w06 => letJ (fun (s4 : ByteArray) (w07 : World) => letJ (fun (s5 : ByteArray) (w08 : World) => letJ (fun (s6 : ByteArray) (w09 : World) => letJ (fun (s7 : ByteArray) (w010 : World) => letJ (fun (s8 : ByteArray) (w011 : World) => letJ (fun (s9 : ByteArray) (w012 : World) => R ((((sEq s2 s3) && (sEq s4 s5)) && (sEq s6 s7)) && (sEq s8 s9)) w012) fun J_ => ((((sEq s2 s3) && (sEq s4 s5)) && (sEq s6 s7)) = true → Cpalletref18_First offer own w011 J_) ∧ ((((sEq s2 s3) && (sEq s4 s5)) && (sEq s6 s7)) = false → J_ (Kd.dflt .s) w011)) fun J_1 => ((((sEq s2 s3) && (sEq s4 s5)) && (sEq s6 s7)) = true → Ctext_First offer own w010 J_1) ∧ ((((sEq s2 s3) && (sEq s4 s5)) && (sEq s6 s7)) = false → J_1 (Kd.dflt .s) w010)) fun J_2 => (((sEq s2 s3) && (sEq s4 s5)) = true → Cpalletref18_Either offer yes w09 J_2) ∧ (((sEq s2 s3) && (sEq s4 s5)) = false → J_2 (Kd.dflt .s) w09)) fun J_3 => (((sEq s2 s3) && (sEq s4 s5)) = true → Ctext_Either offer yes w08 J_3) ∧ (((sEq s2 s3) && (sEq s4 s5)) = false → J_3 (Kd.dflt .s) w08)) fun J_4 => ((sEq s2 s3) = true → Cpalletref18_Both offer yes w07 J_4) ∧ ((sEq s2 s3) = false → J_4 (Kd.dflt .s) w07)) fun J_5 => ((sEq s2 s3) = true → Ctext_Both offer yes w06 J_5) ∧ ((sEq s2 s3) = false → J_5 (Kd.dflt .s) w06)))
theorem Fpalletlaw18_TextAsks.calls (l : Sl) (k : ByteArray) (offer : ByteArray) (own : Sl) (n : Int) (low : Int) (high : Int) (yes : Bool) (w : World) (R : Bool → World → Prop) (h : Fpalletlaw18_TextAsks l k offer own n low high yes w R) : Cpalletlaw18_TextAsks l k offer own n low high yes w R :=
  calls_of_vc (anOp_ok callable) wide Tryd.func4 [] [.b] [.slice l.A l.n l.c, .string k, .string offer, .slice own.A own.n own.c, .int .u64 n, .int .u64 low, .int .u64 high, .bool yes] w R (Eq.mp (show Fpalletlaw18_TextAsks l k offer own n low high yes w R = vcF Tryd.prog G Tryd.f4 [] [.b] [.slice l.A l.n l.c, .string k, .string offer, .slice own.A own.n own.c, .int .u64 n, .int .u64 low, .int .u64 high, .bool yes] w R by kernel_rfl) h)
/-- pallet/palletlaw18.awake -/
def Fpalletlaw18_awake (w : World) (R : Bool → World → Prop) : Prop :=
  RunK Tryd.prog .sl (Instr.buildSlice 39 4 #[(0, .int .u8 97), (1, .int .u8 61), (2, .int .u8 49), (3, .int .u8 0)]) w fun xs w0 => RunK Tryd.prog .sl (convert 39 39 (.slice xs.A xs.n xs.c)) w0 fun xs1 w01 => Ctext_Parse xs1 w01 fun xs2 n w02 => (((n == 0) && ((xs2.n : Int) == 1)) = true → (0 ≤ (0 : Int) ∧ (0 : Int) < (xs2.n : Int) ∧ xs2.A.isSome = true)) ∧ ∃ g : Array Value, (((n == 0) && ((xs2.n : Int) == 1)) = true → (loadVar 41 ((gA xs2.A).add ((0 : Int).toNat * 2))).run Tryd.prog w02 = .ok (.agg g) w02) ∧ ∃ b : Bool, (((n == 0) && ((xs2.n : Int) == 1)) = true → (do eqGuard .eql 41 (.tmp 19) (.tmp 20) (.agg g) (.agg #[.string s_a, .string s_1]); binOp .eql 41 (.agg g) (.agg #[.string s_a, .string s_1]) : Sem Value).run Tryd.prog w02 = .ok (.bool b) w02) ∧ R (((n == 0) && ((xs2.n : Int) == 1)) && b) w02
theorem Fpalletlaw18_awake.calls (w : World) (R : Bool → World → Prop) (h : Fpalletlaw18_awake w R) : Cpalletlaw18_awake w R :=
  calls_of_vc (anOp_ok callable) wide Tryd.func5 [] [.b] [] w R (Eq.mp (show Fpalletlaw18_awake w R = vcF Tryd.prog G Tryd.f5 [] [.b] [] w R by kernel_rfl) h)
/-- pallet/text.Number -/
def Ftext_Number (s : ByteArray) (w : World) (R : Int → Bool → World → Prop) : Prop :=
  Cstrings_CutPrefix s s_0x w fun s1 b w0 => Br b (∃ (I : Int → World → Prop) (μ : Int → World → Nat), I 0 w0 ∧ ∀ (x : Int) (w01 : World), I x w01 → Br (decide (x < (s1.size : Int))) ((0 ≤ x ∧ x < (s1.size : Int)) ∧ ((!((bt s1 x) == 95)) = true → (0 ≤ x ∧ x < (s1.size : Int))) ∧ ((!(((bt s1 x) == 95) || ((bt s1 x) == 43))) = true → (0 ≤ x ∧ x < (s1.size : Int))) ∧ Br ((((bt s1 x) == 95) || ((bt s1 x) == 43)) || ((bt s1 x) == 45)) (R 0 false w01) (I (IntKind.wrap .i64 (x + 1)) w01 ∧ μ (IntKind.wrap .i64 (x + 1)) w01 < μ x w01)) (Ctext_parsed s1 16 w01 fun n b1 w02 => R n b1 w02)) (∃ (I1 : Int → World → Prop) (μ1 : Int → World → Nat), I1 0 w0 ∧ ∀ (x1 : Int) (w03 : World), I1 x1 w03 → Br (decide (x1 < (s.size : Int))) ((0 ≤ x1 ∧ x1 < (s.size : Int)) ∧ ((!(decide ((bt s x1) < 48))) = true → (0 ≤ x1 ∧ x1 < (s.size : Int))) ∧ Br ((decide ((bt s x1) < 48)) || (decide ((bt s x1) > 57))) (R 0 false w03) (I1 (IntKind.wrap .i64 (x1 + 1)) w03 ∧ μ1 (IntKind.wrap .i64 (x1 + 1)) w03 < μ1 x1 w03)) ((decide ((s.size : Int) > 1) = true → (0 ≤ (0 : Int) ∧ (0 : Int) < (s.size : Int))) ∧ Br ((decide ((s.size : Int) > 1)) && ((bt s 0) == 48)) (R 0 false w03) (Ctext_parsed s 10 w03 fun n1 b2 w04 => R n1 b2 w04)))
theorem Ftext_Number.calls (s : ByteArray) (w : World) (R : Int → Bool → World → Prop) (h : Ftext_Number s w R) : Ctext_Number s w R :=
  calls_of_vc (anOp_ok callable) wide Tryd.func6 [(12, ⟨[(16, .i .i64)], [4, 15]⟩), (33, ⟨[(42, .i .i64)], [0, 41]⟩)] [.i .u64, .b] [.string s] w R (Eq.mp (show Ftext_Number s w R = vcF Tryd.prog G Tryd.f6 [(12, ⟨[(16, .i .i64)], [4, 15]⟩), (33, ⟨[(42, .i .i64)], [0, 41]⟩)] [.i .u64, .b] [.string s] w R by kernel_rfl) h)
/-- pallet/palletref18.Dec -/
def Fpalletref18_Dec (n : Int) (w : World) (R : ByteArray → World → Prop) : Prop :=
  Br (decide (n < 10)) (RunK Tryd.prog .sl (Instr.buildSlice 39 1 #[(0, .int .u8 (IntKind.wrap .u8 (IntKind.wrap .u64 (48 + n))))]) w fun xs w0 => ∃ s : ByteArray, (convert 39 9 (.slice xs.A xs.n xs.c)).run Tryd.prog w0 = .ok (.string s) w0 ∧ R s w0) (∀ w01, w01 = w.drew → ∃ S : World → Prop, S w01 ∧ ((10 : Int) ≠ 0) ∧ ((10 : Int) ≠ 0) ∧ (Cpalletref18_Dec (IntKind.wrap .u64 (n.tdiv 10)) w01 fun s1 w02 => S w02 ∧ RunK Tryd.prog .sl (Instr.buildSlice 39 1 #[(0, .int .u8 (IntKind.wrap .u8 (IntKind.wrap .u64 (48 + (n.tmod 10)))))]) w02 fun xs1 w03 => S w03 ∧ ∃ S1 : World → Prop, S1 w03 ∧ (∀ u, S1 u → S u) ∧ ∃ s2 : ByteArray, (∀ u1, S1 u1 → (convert 39 9 (.slice xs1.A xs1.n xs1.c)).run Tryd.prog u1 = .ok (.string s2) u1) ∧ (s1.size + s2.size ≤ 9223372036854775807) ∧ R (s1 ++ s2) w03) ∧ RunK Tryd.prog .sl (Instr.buildSlice 39 1 #[(0, .int .u8 (IntKind.wrap .u8 (IntKind.wrap .u64 (48 + (n.tmod 10)))))]) w01 fun xs2 w04 => S w04 ∧ ∃ S2 : World → Prop, S2 w04 ∧ (∀ u2, S2 u2 → S u2) ∧ ∃ s3 : ByteArray, (∀ u3, S2 u3 → (convert 39 9 (.slice xs2.A xs2.n xs2.c)).run Tryd.prog u3 = .ok (.string s3) u3) ∧ Cpalletref18_Dec (IntKind.wrap .u64 (n.tdiv 10)) w04 fun s4 w05 => S2 w05 ∧ (s4.size + s3.size ≤ 9223372036854775807) ∧ R (s4 ++ s3) w05)
theorem Fpalletref18_Dec.calls (n : Int) (w : World) (R : ByteArray → World → Prop) (h : Fpalletref18_Dec n w R) : Cpalletref18_Dec n w R :=
  calls_of_vc (anOp_ok callable) wide Tryd.func7 [] [.s] [.int .u64 n] w R (Eq.mp (show Fpalletref18_Dec n w R = vcF Tryd.prog G Tryd.f7 [] [.s] [.int .u64 n] w R by kernel_rfl) h)
/-- pallet/text.Least -/
def Ftext_Least (offer : ByteArray) (own : Int) (low : Int) (high : Int) (w : World) (R : ByteArray → World → Prop) : Prop :=
  Ctext_Number offer w fun n b w0 => Br (((!b) || (decide (n < low))) || (decide (n > high))) (R s_Reject w0) (Cstrconv_FormatUint (mn n own) 10 w0 fun s w01 => R s w01)
theorem Ftext_Least.calls (offer : ByteArray) (own : Int) (low : Int) (high : Int) (w : World) (R : ByteArray → World → Prop) (h : Ftext_Least offer own low high w R) : Ctext_Least offer own low high w R :=
  calls_of_vc (anOp_ok callable) wide Tryd.func8 [] [.s] [.string offer, .int .u64 own, .int .u64 low, .int .u64 high] w R (Eq.mp (show Ftext_Least offer own low high w R = vcF Tryd.prog G Tryd.f8 [] [.s] [.string offer, .int .u64 own, .int .u64 low, .int .u64 high] w R by kernel_rfl) h)
/-- pallet/text.Both -/
def Ftext_Both (offer : ByteArray) (own : Bool) (w : World) (R : ByteArray → World → Prop) : Prop :=
  Ctext_yes offer ((sEq offer s_Yes) && own) w fun s w0 => R s w0
theorem Ftext_Both.calls (offer : ByteArray) (own : Bool) (w : World) (R : ByteArray → World → Prop) (h : Ftext_Both offer own w R) : Ctext_Both offer own w R :=
  calls_of_vc (anOp_ok callable) wide Tryd.func9 [] [.s] [.string offer, .bool own] w R (Eq.mp (show Ftext_Both offer own w R = vcF Tryd.prog G Tryd.f9 [] [.s] [.string offer, .bool own] w R by kernel_rfl) h)
/-- pallet/text.Either -/
def Ftext_Either (offer : ByteArray) (own : Bool) (w : World) (R : ByteArray → World → Prop) : Prop :=
  Ctext_yes offer ((sEq offer s_Yes) || own) w fun s w0 => R s w0
theorem Ftext_Either.calls (offer : ByteArray) (own : Bool) (w : World) (R : ByteArray → World → Prop) (h : Ftext_Either offer own w R) : Ctext_Either offer own w R :=
  calls_of_vc (anOp_ok callable) wide Tryd.func10 [] [.s] [.string offer, .bool own] w R (Eq.mp (show Ftext_Either offer own w R = vcF Tryd.prog G Tryd.f10 [] [.s] [.string offer, .bool own] w R by kernel_rfl) h)
/-- pallet/text.Find -/
def Ftext_Find (l : Sl) (k : ByteArray) (w : World) (R : ByteArray → Bool → World → Prop) : Prop :=
  ∃ (I : Int → World → Prop) (μ : Int → World → Nat), I 0 w ∧ ∀ (x : Int) (w0 : World), I x w0 → Br (decide (x < (l.n : Int))) ((0 ≤ x ∧ x < (l.n : Int) ∧ l.A.isSome = true) ∧ ∃ g : Array Value, (loadVar 41 ((gA l.A).add (x.toNat * 2))).run Tryd.prog w0 = .ok (.agg g) w0 ∧ New (.cells #[.string ⟨#[]⟩, .string ⟨#[]⟩] 41) w0 fun p w01 => RunU Tryd.prog (storeVar 41 p (.agg g)) w01 fun w02 => ∃ s : ByteArray, w02.cell? (p.add 0) = some (.string s) ∧ Br (sEq s k) (∃ s1 : ByteArray, w02.cell? (p.add 1) = some (.string s1) ∧ R s1 true w02) (I (IntKind.wrap .i64 (x + 1)) w02 ∧ μ (IntKind.wrap .i64 (x + 1)) w02 < μ x w0)) (R ⟨#[]⟩ false w0)
theorem Ftext_Find.calls (l : Sl) (k : ByteArray) (w : World) (R : ByteArray → Bool → World → Prop) (h : Ftext_Find l k w R) : Ctext_Find l k w R :=
  calls_of_vc (anOp_ok callable) wide Tryd.func11 [(6, ⟨[(10, .i .i64)], [1, 8, 9]⟩)] [.s, .b] [.slice l.A l.n l.c, .string k] w R (Eq.mp (show Ftext_Find l k w R = vcF Tryd.prog G Tryd.f11 [(6, ⟨[(10, .i .i64)], [1, 8, 9]⟩)] [.s, .b] [.slice l.A l.n l.c, .string k] w R by kernel_rfl) h)
/-- pallet/palletref18.Find -/
def Fpalletref18_Find (l : Sl) (k : ByteArray) (w : World) (R : ByteArray → Bool → World → Prop) : Prop :=
  ∃ (I : Int → World → Prop) (μ : Int → World → Nat), I 0 w ∧ ∀ (i : Int) (w0 : World), I i w0 → Br (decide (i < (l.n : Int))) ((0 ≤ i ∧ i < (l.n : Int) ∧ l.A.isSome = true) ∧ ∃ s : ByteArray, w0.cell? (((gA l.A).add (i.toNat * 2)).add 0) = some (.string s) ∧ Br (sEq s k) ((0 ≤ i ∧ i < (l.n : Int) ∧ l.A.isSome = true) ∧ ∃ s1 : ByteArray, w0.cell? (((gA l.A).add (i.toNat * 2)).add 1) = some (.string s1) ∧ R s1 true w0) (I (IntKind.wrap .i64 (i + 1)) w0 ∧ μ (IntKind.wrap .i64 (i + 1)) w0 < μ i w0)) (R ⟨#[]⟩ false w0)
theorem Fpalletref18_Find.calls (l : Sl) (k : ByteArray) (w : World) (R : ByteArray → Bool → World → Prop) (h : Fpalletref18_Find l k w R) : Cpalletref18_Find l k w R :=
  calls_of_vc (anOp_ok callable) wide Tryd.func12 [(6, ⟨[(6, .i .i64)], [0, 1]⟩)] [.s, .b] [.slice l.A l.n l.c, .string k] w R (Eq.mp (show Fpalletref18_Find l k w R = vcF Tryd.prog G Tryd.f12 [(6, ⟨[(6, .i .i64)], [0, 1]⟩)] [.s, .b] [.slice l.A l.n l.c, .string k] w R by kernel_rfl) h)
/-- pallet/palletref18.Number -/
def Fpalletref18_Number (s : ByteArray) (w : World) (R : Int → Bool → World → Prop) : Prop :=
  (decide ((s.size : Int) > 1) = true → (0 ≤ (0 : Int) ∧ (0 : Int) < (s.size : Int))) ∧ letX (fun (s1 : ByteArray) (base : Int) (w0 : World) => Br ((s1.size : Int) == 0) (R 0 false w0) (∃ (I : Int → Int → World → Prop) (μ : Int → Int → World → Nat), I 0 0 w0 ∧ ∀ (n : Int) (i : Int) (w01 : World), I n i w01 → Br (decide (i < (s1.size : Int))) (letX (fun (n1 : Int) (w02 : World) => I n1 (IntKind.wrap .i64 (i + 1)) w02 ∧ μ n1 (IntKind.wrap .i64 (i + 1)) w02 < μ n i w01) fun J_ => (0 ≤ i ∧ i < (s1.size : Int)) ∧ letX (fun (d : Int) (w03 : World) => ((!(decide (d ≥ base))) = true → (base ≠ 0)) ∧ Br ((decide (d ≥ base)) || (decide (n > (IntKind.wrap .u64 ((IntKind.wrap .u64 (18446744073709551615 - d)).tdiv base))))) (R 0 false w03) (J_ (IntKind.wrap .u64 ((IntKind.wrap .u64 (n * base)) + d)) w03)) fun J_1 => Br ((decide ((bt s1 i) ≥ 48)) && (decide ((bt s1 i) ≤ 57))) (J_1 (IntKind.wrap .u64 (IntKind.wrap .u8 ((bt s1 i) - 48))) w01) (Br ((decide ((bt s1 i) ≥ 97)) && (decide ((bt s1 i) ≤ 102))) (J_1 (IntKind.wrap .u64 ((IntKind.wrap .u64 (IntKind.wrap .u8 ((bt s1 i) - 97))) + 10)) w01) (Br ((decide ((bt s1 i) ≥ 65)) && (decide ((bt s1 i) ≤ 70))) (J_1 (IntKind.wrap .u64 ((IntKind.wrap .u64 (IntKind.wrap .u8 ((bt s1 i) - 65))) + 10)) w01) (J_1 99 w01)))) (R n true w01))) fun J_2 => Br ((decide ((s.size : Int) > 1)) && ((bt s 0) == 48)) ((0 ≤ (1 : Int) ∧ (1 : Int) < (s.size : Int)) ∧ Br ((bt s 1) != 120) (R 0 false w) ((0 ≤ (2 : Int) ∧ (2 : Int) ≤ (s.size : Int) ∧ (s.size : Int) ≤ (s.size : Int)) ∧ J_2 (s.extract 2 ((s.size : Int)).toNat) 16 w)) (J_2 s 10 w)
theorem Fpalletref18_Number.calls (s : ByteArray) (w : World) (R : Int → Bool → World → Prop) (h : Fpalletref18_Number s w R) : Cpalletref18_Number s w R :=
  calls_of_vc (anOp_ok callable) wide Tryd.func13 [(33, ⟨[(5, .i .u64), (6, .i .i64)], [0, 4]⟩), (5, ⟨[(5, .i .u64)], [0, 4, 6]⟩), (8, ⟨[(7, .i .u64)], [0, 4, 5, 6]⟩), (10, ⟨[(0, .s), (4, .i .u64)], []⟩)] [.i .u64, .b] [.string s] w R (Eq.mp (show Fpalletref18_Number s w R = vcF Tryd.prog G Tryd.f13 [(33, ⟨[(5, .i .u64), (6, .i .i64)], [0, 4]⟩), (5, ⟨[(5, .i .u64)], [0, 4, 6]⟩), (8, ⟨[(7, .i .u64)], [0, 4, 5, 6]⟩), (10, ⟨[(0, .s), (4, .i .u64)], []⟩)] [.i .u64, .b] [.string s] w R by kernel_rfl) h)
/-- pallet/palletref18.Least -/
def Fpalletref18_Least (offer : ByteArray) (own : Int) (low : Int) (high : Int) (w : World) (R : ByteArray → World → Prop) : Prop :=
  Cpalletref18_Number offer w fun n b w0 => Br (((!b) || (decide (n < low))) || (decide (n > high))) (R s_Reject w0) (Br (decide (own < n)) (Cpalletref18_Dec own w0 fun s1 w03 => R s1 w03) (Cpalletref18_Dec n w0 fun s2 w04 => R s2 w04))
theorem Fpalletref18_Least.calls (offer : ByteArray) (own : Int) (low : Int) (high : Int) (w : World) (R : ByteArray → World → Prop) (h : Fpalletref18_Least offer own low high w R) : Cpalletref18_Least offer own low high w R :=
  calls_of_vc (anOp_ok callable) wide Tryd.func14 [] [.s] [.string offer, .int .u64 own, .int .u64 low, .int .u64 high] w R (Eq.mp (show Fpalletref18_Least offer own low high w R = vcF Tryd.prog G Tryd.f14 [] [.s] [.string offer, .int .u64 own, .int .u64 low, .int .u64 high] w R by kernel_rfl) h)
/-- pallet/palletref18.Both -/
def Fpalletref18_Both (offer : ByteArray) (own : Bool) (w : World) (R : ByteArray → World → Prop) : Prop :=
  Br ((sEq offer s_Yes) && own) (R s_Yes w) (Br ((sEq offer s_Yes) || (sEq offer s_No)) (R s_No w) (R s_Reject w))
theorem Fpalletref18_Both.calls (offer : ByteArray) (own : Bool) (w : World) (R : ByteArray → World → Prop) (h : Fpalletref18_Both offer own w R) : Cpalletref18_Both offer own w R :=
  calls_of_vc (anOp_ok callable) wide Tryd.func15 [] [.s] [.string offer, .bool own] w R (Eq.mp (show Fpalletref18_Both offer own w R = vcF Tryd.prog G Tryd.f15 [] [.s] [.string offer, .bool own] w R by kernel_rfl) h)
/-- pallet/palletref18.Either -/
def Fpalletref18_Either (offer : ByteArray) (own : Bool) (w : World) (R : ByteArray → World → Prop) : Prop :=
  Br ((sEq offer s_Yes) || ((sEq offer s_No) && own)) (R s_Yes w) (Br (sEq offer s_No) (R s_No w) (R s_Reject w))
theorem Fpalletref18_Either.calls (offer : ByteArray) (own : Bool) (w : World) (R : ByteArray → World → Prop) (h : Fpalletref18_Either offer own w R) : Cpalletref18_Either offer own w R :=
  calls_of_vc (anOp_ok callable) wide Tryd.func16 [] [.s] [.string offer, .bool own] w R (Eq.mp (show Fpalletref18_Either offer own w R = vcF Tryd.prog G Tryd.f16 [] [.s] [.string offer, .bool own] w R by kernel_rfl) h)
/-- pallet/palletref18.First -/
def Fpalletref18_First (offer : ByteArray) (own : Sl) (w : World) (R : ByteArray → World → Prop) : Prop :=
  ∃ (I : Int → Int → World → Prop) (μ : Int → Int → World → Nat), I 0 0 w ∧ ∀ (from_ : Int) (i : Int) (w0 : World), I from_ i w0 → Br (decide (i ≤ (offer.size : Int))) (letX (fun (from_1 : Int) (w01 : World) => I from_1 (IntKind.wrap .i64 (i + 1)) w01 ∧ μ from_1 (IntKind.wrap .i64 (i + 1)) w01 < μ from_ i w0) fun J_ => (decide (i < (offer.size : Int)) = true → (0 ≤ i ∧ i < (offer.size : Int))) ∧ Br ((decide (i < (offer.size : Int))) && ((bt offer i) != 44)) (J_ from_ w0) (∃ (I1 : Int → World → Prop) (μ1 : Int → World → Nat), I1 0 w0 ∧ ∀ (j : Int) (w02 : World), I1 j w02 → Br (decide (j < (own.n : Int))) (∀ w03, w03 = w02.drew → ∃ S : World → Prop, S w03 ∧ (0 ≤ j ∧ j < (own.n : Int) ∧ own.A.isSome = true) ∧ ∃ s : ByteArray, (∀ u, S u → u.cell? ((gA own.A).add (j.toNat * 1)) = some (.string s)) ∧ (0 ≤ from_ ∧ from_ ≤ i ∧ i ≤ (offer.size : Int)) ∧ Br (sEq s (offer.extract from_.toNat i.toNat)) ((0 ≤ j ∧ j < (own.n : Int) ∧ own.A.isSome = true) ∧ ∃ s1 : ByteArray, w03.cell? ((gA own.A).add (j.toNat * 1)) = some (.string s1) ∧ R s1 w03) (I1 (IntKind.wrap .i64 (j + 1)) w03 ∧ μ1 (IntKind.wrap .i64 (j + 1)) w03 < μ1 j w02)) (J_ (IntKind.wrap .i64 (i + 1)) w02))) (R s_Reject w0)
theorem Fpalletref18_First.calls (offer : ByteArray) (own : Sl) (w : World) (R : ByteArray → World → Prop) (h : Fpalletref18_First offer own w R) : Cpalletref18_First offer own w R :=
  calls_of_vc (anOp_ok callable) wide Tryd.func18 [(9, ⟨[(5, .i .i64), (6, .i .i64)], [0, 1]⟩), (5, ⟨[(5, .i .i64)], [0, 1, 6]⟩), (21, ⟨[(7, .i .i64)], [0, 1, 5, 6]⟩)] [.s] [.string offer, .slice own.A own.n own.c] w R (Eq.mp (show Fpalletref18_First offer own w R = vcF Tryd.prog G Tryd.f18 [(9, ⟨[(5, .i .i64), (6, .i .i64)], [0, 1]⟩), (5, ⟨[(5, .i .i64)], [0, 1, 6]⟩), (21, ⟨[(7, .i .i64)], [0, 1, 5, 6]⟩)] [.s] [.string offer, .slice own.A own.n own.c] w R by kernel_rfl) h)
/-- pallet/text.Parse -/
def Ftext_Parse (p : Sl) (w : World) (R : Sl → Int → World → Prop) : Prop :=
  Br (decide ((p.n : Int) > 4096)) (R (⟨none, 0, 0⟩ : Sl) 2 w) (∃ s : ByteArray, (convert 39 9 (.slice p.A p.n p.c)).run Tryd.prog w = .ok (.string s) w ∧ ∃ (I : Sl → Int → ByteArray → World → Prop) (μ : Sl → Int → ByteArray → World → Nat), I (⟨none, 0, 0⟩ : Sl) 0 s w ∧ ∀ (out : Sl) (e : Int) (rest : ByteArray) (w0 : World), I out e rest w0 → Br (!(sEq rest ⟨#[]⟩)) (Cstrings_Cut rest s_x00 w0 fun s1 s2 b w02 => Cstrings_Cut s1 s_x3d w02 fun s3 s4 b1 w03 => letJ (fun (b2 : Bool) (w04 : World) => letJ (fun (b3 : Bool) (w05 : World) => Br ((((!b) || (!b1)) || (!b2)) || (!b3)) (R (⟨none, 0, 0⟩ : Sl) 13 w05) (Ctext_Find out s3 w05 fun s5 b4 w06 => letX (fun (e2 : Int) (w07 : World) => RunK Tryd.prog .sl (Instr.buildSlice 31 1 #[(0, .agg #[.string s3, .string s4])]) w07 fun xs w08 => RunK Tryd.prog .sl (Builtin.append_ #[31, 31] 31 #[.slice out.A out.n out.c, .slice xs.A xs.n xs.c]) w08 fun xs1 w09 => I xs1 e2 s2 w09 ∧ μ xs1 e2 s2 w09 < μ out e rest w0) fun J_ => Br b4 (J_ 9 w06) (J_ e w06))) fun J_1 => ((!(((!b) || (!b1)) || (!b2))) = true → Ctext_value s4 w04 J_1) ∧ ((!(((!b) || (!b1)) || (!b2))) = false → J_1 (Kd.dflt .b) w04)) fun J_2 => ((!((!b) || (!b1))) = true → Ctext_key s3 w03 J_2) ∧ ((!((!b) || (!b1))) = false → J_2 (Kd.dflt .b) w03)) (Br (decide ((out.n : Int) > 64)) (R (⟨none, 0, 0⟩ : Sl) 2 w0) (Br (e != 0) (R (⟨none, 0, 0⟩ : Sl) e w0) (R out 0 w0))))
theorem Ftext_Parse.calls (p : Sl) (w : World) (R : Sl → Int → World → Prop) (h : Ftext_Parse p w R) : Ctext_Parse p w R :=
  calls_of_vc (anOp_ok callable) wide Tryd.func19 [(18, ⟨[(4, .sl), (5, .i .i64), (6, .s)], []⟩), (40, ⟨[(5, .i .i64)], [4, 8, 10, 11]⟩)] [.sl, .i .i64] [.slice p.A p.n p.c] w R (Eq.mp (show Ftext_Parse p w R = vcF Tryd.prog G Tryd.f19 [(18, ⟨[(4, .sl), (5, .i .i64), (6, .s)], []⟩), (40, ⟨[(5, .i .i64)], [4, 8, 10, 11]⟩)] [.sl, .i .i64] [.slice p.A p.n p.c] w R by kernel_rfl) h)
/-- strings.CutPrefix -/
def Fstrings_CutPrefix (s : ByteArray) (prefix_ : ByteArray) (w : World) (R : ByteArray → Bool → World → Prop) : Prop :=
  Cinternal_stringslite_CutPrefix s prefix_ w fun s1 b w0 => R s1 b w0
theorem Fstrings_CutPrefix.calls (s : ByteArray) (prefix_ : ByteArray) (w : World) (R : ByteArray → Bool → World → Prop) (h : Fstrings_CutPrefix s prefix_ w R) : Cstrings_CutPrefix s prefix_ w R :=
  calls_of_vc (anOp_ok callable) wide Tryd.func20 [] [.s, .b] [.string s, .string prefix_] w R (Eq.mp (show Fstrings_CutPrefix s prefix_ w R = vcF Tryd.prog G Tryd.f20 [] [.s, .b] [.string s, .string prefix_] w R by kernel_rfl) h)
/-- pallet/text.parsed -/
def Ftext_parsed (s : ByteArray) (base : Int) (w : World) (R : Int → Bool → World → Prop) : Prop :=
  Cstrconv_ParseUint s base 64 w fun n v w0 => ∃ b : Bool, (do eqGuard .neq 52 (.tmp 14) (.const .nilIface) v .nilIface; binOp .neq 52 v .nilIface : Sem Value).run Tryd.prog w0 = .ok (.bool b) w0 ∧ Br b (R 0 false w0) (R n true w0)
theorem Ftext_parsed.calls (s : ByteArray) (base : Int) (w : World) (R : Int → Bool → World → Prop) (h : Ftext_parsed s base w R) : Ctext_parsed s base w R :=
  calls_of_vc (anOp_ok callable) wide Tryd.func21 [] [.i .u64, .b] [.string s, .int .i64 base] w R (Eq.mp (show Ftext_parsed s base w R = vcF Tryd.prog G Tryd.f21 [] [.i .u64, .b] [.string s, .int .i64 base] w R by kernel_rfl) h)
/-- strconv.FormatUint -/
def Fstrconv_FormatUint (i : Int) (base : Int) (w : World) (R : ByteArray → World → Prop) : Prop :=
  Cinternal_strconv_FormatUint i base w fun s w0 => R s w0
theorem Fstrconv_FormatUint.calls (i : Int) (base : Int) (w : World) (R : ByteArray → World → Prop) (h : Fstrconv_FormatUint i base w R) : Cstrconv_FormatUint i base w R :=
  calls_of_vc (anOp_ok callable) wide Tryd.func22 [] [.s] [.int .u64 i, .int .i64 base] w R (Eq.mp (show Fstrconv_FormatUint i base w R = vcF Tryd.prog G Tryd.f22 [] [.s] [.int .u64 i, .int .i64 base] w R by kernel_rfl) h)
/-- pallet/text.yes -/
def Ftext_yes (offer : ByteArray) (is : Bool) (w : World) (R : ByteArray → World → Prop) : Prop :=
  Br ((!(sEq offer s_Yes)) && (!(sEq offer s_No))) (R s_Reject w) (Br is (R s_Yes w) (R s_No w))
theorem Ftext_yes.calls (offer : ByteArray) (is : Bool) (w : World) (R : ByteArray → World → Prop) (h : Ftext_yes offer is w R) : Ctext_yes offer is w R :=
  calls_of_vc (anOp_ok callable) wide Tryd.func23 [] [.s] [.string offer, .bool is] w R (Eq.mp (show Ftext_yes offer is w R = vcF Tryd.prog G Tryd.f23 [] [.s] [.string offer, .bool is] w R by kernel_rfl) h)
/-- strings.SplitSeq -/
def Fstrings_SplitSeq (s : ByteArray) (sep : ByteArray) (w : World) (R : Value → World → Prop) : Prop :=
  Cstrings_splitSeq s sep 0 w fun v w0 => R v w0
theorem Fstrings_SplitSeq.calls (s : ByteArray) (sep : ByteArray) (w : World) (R : Value → World → Prop) (h : Fstrings_SplitSeq s sep w R) : Cstrings_SplitSeq s sep w R :=
  calls_of_vc (anOp_ok callable) wide Tryd.func24 [] [.v] [.string s, .string sep] w R (Eq.mp (show Fstrings_SplitSeq s sep w R = vcF Tryd.prog G Tryd.f24 [] [.v] [.string s, .string sep] w R by kernel_rfl) h)
/-- strings.Cut -/
def Fstrings_Cut (s : ByteArray) (sep : ByteArray) (w : World) (R : ByteArray → ByteArray → Bool → World → Prop) : Prop :=
  Cinternal_stringslite_Cut s sep w fun s1 s2 b w0 => R s1 s2 b w0
theorem Fstrings_Cut.calls (s : ByteArray) (sep : ByteArray) (w : World) (R : ByteArray → ByteArray → Bool → World → Prop) (h : Fstrings_Cut s sep w R) : Cstrings_Cut s sep w R :=
  calls_of_vc (anOp_ok callable) wide Tryd.func25 [] [.s, .s, .b] [.string s, .string sep] w R (Eq.mp (show Fstrings_Cut s sep w R = vcF Tryd.prog G Tryd.f25 [] [.s, .s, .b] [.string s, .string sep] w R by kernel_rfl) h)
/-- pallet/text.key -/
def Ftext_key (s : ByteArray) (w : World) (R : Bool → World → Prop) : Prop :=
  ∃ (I : Int → World → Prop) (μ : Int → World → Nat), I 0 w ∧ ∀ (x : Int) (w0 : World), I x w0 → Br (decide (x < (s.size : Int))) ((0 ≤ x ∧ x < (s.size : Int)) ∧ Br (!((((((((decide ((bt s x) ≥ 65)) && (decide ((bt s x) ≤ 90))) || ((decide ((bt s x) ≥ 97)) && (decide ((bt s x) ≤ 122)))) || ((decide ((bt s x) ≥ 48)) && (decide ((bt s x) ≤ 57)))) || ((bt s x) == 46)) || ((bt s x) == 45)) || ((bt s x) == 43)) || ((bt s x) == 95))) (R false w0) (I (IntKind.wrap .i64 (x + 1)) w0 ∧ μ (IntKind.wrap .i64 (x + 1)) w0 < μ x w0)) (R ((decide ((s.size : Int) ≥ 1)) && (decide ((s.size : Int) ≤ 63))) w0)
theorem Ftext_key.calls (s : ByteArray) (w : World) (R : Bool → World → Prop) (h : Ftext_key s w R) : Ctext_key s w R :=
  calls_of_vc (anOp_ok callable) wide Tryd.func26 [(6, ⟨[(7, .i .i64)], [0, 6]⟩)] [.b] [.string s] w R (Eq.mp (show Ftext_key s w R = vcF Tryd.prog G Tryd.f26 [(6, ⟨[(7, .i .i64)], [0, 6]⟩)] [.b] [.string s] w R by kernel_rfl) h)
/-- pallet/text.value -/
def Ftext_value (s : ByteArray) (w : World) (R : Bool → World → Prop) : Prop :=
  ∃ (I : Int → World → Prop) (μ : Int → World → Nat), I 0 w ∧ ∀ (x : Int) (w0 : World), I x w0 → Br (decide (x < (s.size : Int))) ((0 ≤ x ∧ x < (s.size : Int)) ∧ ((!(decide ((bt s x) < 32))) = true → (0 ≤ x ∧ x < (s.size : Int))) ∧ Br ((decide ((bt s x) < 32)) || (decide ((bt s x) > 126))) (R false w0) (I (IntKind.wrap .i64 (x + 1)) w0 ∧ μ (IntKind.wrap .i64 (x + 1)) w0 < μ x w0)) (R (decide ((s.size : Int) ≤ 255)) w0)
theorem Ftext_value.calls (s : ByteArray) (w : World) (R : Bool → World → Prop) (h : Ftext_value s w R) : Ctext_value s w R :=
  calls_of_vc (anOp_ok callable) wide Tryd.func27 [(6, ⟨[(6, .i .i64)], [0, 5]⟩)] [.b] [.string s] w R (Eq.mp (show Ftext_value s w R = vcF Tryd.prog G Tryd.f27 [(6, ⟨[(6, .i .i64)], [0, 5]⟩)] [.b] [.string s] w R by kernel_rfl) h)
/-- internal/stringslite.CutPrefix -/
def Finternal_stringslite_CutPrefix (s : ByteArray) (prefix_ : ByteArray) (w : World) (R : ByteArray → Bool → World → Prop) : Prop :=
  Cinternal_stringslite_HasPrefix s prefix_ w fun b w0 => Br (!b) (R s false w0) ((0 ≤ (prefix_.size : Int) ∧ (prefix_.size : Int) ≤ (s.size : Int) ∧ (s.size : Int) ≤ (s.size : Int)) ∧ R (s.extract (prefix_.size : Int).toNat ((s.size : Int)).toNat) true w0)
theorem Finternal_stringslite_CutPrefix.calls (s : ByteArray) (prefix_ : ByteArray) (w : World) (R : ByteArray → Bool → World → Prop) (h : Finternal_stringslite_CutPrefix s prefix_ w R) : Cinternal_stringslite_CutPrefix s prefix_ w R :=
  calls_of_vc (anOp_ok callable) wide Tryd.func28 [] [.s, .b] [.string s, .string prefix_] w R (Eq.mp (show Finternal_stringslite_CutPrefix s prefix_ w R = vcF Tryd.prog G Tryd.f28 [] [.s, .b] [.string s, .string prefix_] w R by kernel_rfl) h)
/-- strconv.ParseUint -/
def Fstrconv_ParseUint (s : ByteArray) (base : Int) (bitSize : Int) (w : World) (R : Int → Value → World → Prop) : Prop :=
  Cinternal_strconv_ParseUint s base bitSize w fun n v w0 => ∃ b : Bool, (do eqGuard .neq 52 (.tmp 17) (.const .nilIface) v .nilIface; binOp .neq 52 v .nilIface : Sem Value).run Tryd.prog w0 = .ok (.bool b) w0 ∧ Br b (Cstrconv_toError s_ParseUint s base bitSize v w0 fun v1 w01 => R n v1 w01) (R n .nilIface w0)
theorem Fstrconv_ParseUint.calls (s : ByteArray) (base : Int) (bitSize : Int) (w : World) (R : Int → Value → World → Prop) (h : Fstrconv_ParseUint s base bitSize w R) : Cstrconv_ParseUint s base bitSize w R :=
  calls_of_vc (anOp_ok callable) wide Tryd.func29 [] [.i .u64, .v] [.string s, .int .i64 base, .int .i64 bitSize] w R (Eq.mp (show Fstrconv_ParseUint s base bitSize w R = vcF Tryd.prog G Tryd.f29 [] [.i .u64, .v] [.string s, .int .i64 base, .int .i64 bitSize] w R by kernel_rfl) h)
/-- internal/strconv.FormatUint -/
def Finternal_strconv_FormatUint (i : Int) (base : Int) (w : World) (R : ByteArray → World → Prop) : Prop :=
  Br (base == 10) (Br (decide (i < 100)) (Cinternal_strconv_small (IntKind.wrap .i64 i) w fun s w0 => R s w0) (New (.cells #[.int .u8 0, .int .u8 0, .int .u8 0, .int .u8 0, .int .u8 0, .int .u8 0, .int .u8 0, .int .u8 0, .int .u8 0, .int .u8 0, .int .u8 0, .int .u8 0, .int .u8 0, .int .u8 0, .int .u8 0, .int .u8 0, .int .u8 0, .int .u8 0, .int .u8 0, .int .u8 0, .int .u8 0, .int .u8 0, .int .u8 0, .int .u8 0] 59) w fun a w01 => Cinternal_strconv_numDigits i w01 fun n w02 => (0 ≤ (0 : Int) ∧ (0 : Int) ≤ n ∧ n ≤ (24 : Int)) ∧ Cinternal_strconv_formatBase10 ⟨(some (if 24 = 0 then a else a.add (0 * 1))), (n.toNat - 0), (24 - 0)⟩ i w02 fun w03 => (0 ≤ (0 : Int) ∧ (0 : Int) ≤ n ∧ n ≤ (24 : Int)) ∧ ∃ s1 : ByteArray, (convert 39 9 (.slice (some (if 24 = 0 then a else a.add (0 * 1))) (n.toNat - 0) (24 - 0))).run Tryd.prog w03 = .ok (.string s1) w03 ∧ R s1 w03)) (Cinternal_strconv_formatBits ⟨none, 0, 0⟩ i base false false w fun xs s2 w04 => R s2 w04)
theorem Finternal_strconv_FormatUint.calls (i : Int) (base : Int) (w : World) (R : ByteArray → World → Prop) (h : Finternal_strconv_FormatUint i base w R) : Cinternal_strconv_FormatUint i base w R :=
  calls_of_vc (anOp_ok callable) wide Tryd.func30 [] [.s] [.int .u64 i, .int .i64 base] w R (Eq.mp (show Finternal_strconv_FormatUint i base w R = vcF Tryd.prog G Tryd.f30 [] [.s] [.int .u64 i, .int .i64 base] w R by kernel_rfl) h)
/-- strings.splitSeq -/
def Fstrings_splitSeq (s : ByteArray) (sep : ByteArray) (sepSave : Int) (w : World) (R : Value → World → Prop) : Prop :=
  New (.cells #[.string s] 9) w fun s1 w0 => New (.cells #[.string sep] 9) w0 fun sep1 w01 => New (.cells #[.int .i64 sepSave] 3) w01 fun sepSave1 w02 => R (.func (.func 40) #[] #[.pointer (some sep1), .pointer (some s1), .pointer (some sepSave1)]) w02
theorem Fstrings_splitSeq.calls (s : ByteArray) (sep : ByteArray) (sepSave : Int) (w : World) (R : Value → World → Prop) (h : Fstrings_splitSeq s sep sepSave w R) : Cstrings_splitSeq s sep sepSave w R :=
  calls_of_vc (anOp_ok callable) wide Tryd.func31 [] [.v] [.string s, .string sep, .int .i64 sepSave] w R (Eq.mp (show Fstrings_splitSeq s sep sepSave w R = vcF Tryd.prog G Tryd.f31 [] [.v] [.string s, .string sep, .int .i64 sepSave] w R by kernel_rfl) h)
/-- internal/stringslite.Cut -/
def Finternal_stringslite_Cut (s : ByteArray) (sep : ByteArray) (w : World) (R : ByteArray → ByteArray → Bool → World → Prop) : Prop :=
  Cinternal_stringslite_Index s sep w fun n w0 => Br (decide (n ≥ 0)) (∀ w01, w01 = w0.drew → ∃ S : World → Prop, S w01 ∧ (0 ≤ (0 : Int) ∧ (0 : Int) ≤ n ∧ n ≤ (s.size : Int)) ∧ (0 ≤ (IntKind.wrap .i64 (n + (sep.size : Int))) ∧ (IntKind.wrap .i64 (n + (sep.size : Int))) ≤ (s.size : Int) ∧ (s.size : Int) ≤ (s.size : Int)) ∧ R (s.extract 0 n.toNat) (s.extract (IntKind.wrap .i64 (n + (sep.size : Int))).toNat ((s.size : Int)).toNat) true w01) (R s ⟨#[]⟩ false w0)
theorem Finternal_stringslite_Cut.calls (s : ByteArray) (sep : ByteArray) (w : World) (R : ByteArray → ByteArray → Bool → World → Prop) (h : Finternal_stringslite_Cut s sep w R) : Cinternal_stringslite_Cut s sep w R :=
  calls_of_vc (anOp_ok callable) wide Tryd.func32 [] [.s, .s, .b] [.string s, .string sep] w R (Eq.mp (show Finternal_stringslite_Cut s sep w R = vcF Tryd.prog G Tryd.f32 [] [.s, .s, .b] [.string s, .string sep] w R by kernel_rfl) h)
/-- internal/stringslite.HasPrefix -/
def Finternal_stringslite_HasPrefix (s : ByteArray) (prefix_ : ByteArray) (w : World) (R : Bool → World → Prop) : Prop :=
  (decide ((s.size : Int) ≥ (prefix_.size : Int)) = true → (0 ≤ (0 : Int) ∧ (0 : Int) ≤ (prefix_.size : Int) ∧ (prefix_.size : Int) ≤ (s.size : Int))) ∧ R ((decide ((s.size : Int) ≥ (prefix_.size : Int))) && (sEq (s.extract 0 (prefix_.size : Int).toNat) prefix_)) w
theorem Finternal_stringslite_HasPrefix.calls (s : ByteArray) (prefix_ : ByteArray) (w : World) (R : Bool → World → Prop) (h : Finternal_stringslite_HasPrefix s prefix_ w R) : Cinternal_stringslite_HasPrefix s prefix_ w R :=
  calls_of_vc (anOp_ok callable) wide Tryd.func33 [] [.b] [.string s, .string prefix_] w R (Eq.mp (show Finternal_stringslite_HasPrefix s prefix_ w R = vcF Tryd.prog G Tryd.f33 [] [.b] [.string s, .string prefix_] w R by kernel_rfl) h)
/-- internal/strconv.ParseUint -/
def Finternal_strconv_ParseUint (s : ByteArray) (base : Int) (bitSize : Int) (w : World) (R : Int → Value → World → Prop) : Prop :=
  Br (sEq s ⟨#[]⟩) (∃ v : Value, (Instr.makeInterface 67 (.int .i64 2)).run Tryd.prog w = .ok v w ∧ R 0 v w) (letX (fun (s1 : ByteArray) (base1 : Int) (w0 : World) => letX (fun (bitSize1 : Int) (w01 : World) => letX (fun (cutoff : Int) (w02 : World) => (0 ≤ (IntKind.wrap .u64 bitSize1)) ∧ RunK Tryd.prog .sl (convert 9 39 (.string s1)) w02 fun xs w03 => ∃ (I : Bool → Int → Int → World → Prop) (μ : Bool → Int → Int → World → Nat), I false 0 0 w03 ∧ ∀ (underscores : Bool) (n : Int) (x : Int) (w04 : World), I underscores n x w04 → Br (decide (x < (xs.n : Int))) (letX (fun (underscores1 : Bool) (n1 : Int) (w05 : World) => I underscores1 n1 (IntKind.wrap .i64 (x + 1)) w05 ∧ μ underscores1 n1 (IntKind.wrap .i64 (x + 1)) w05 < μ underscores n x w04) fun J_ => (0 ≤ x ∧ x < (xs.n : Int) ∧ xs.A.isSome = true) ∧ ∃ n2 : Int, w04.cell? ((gA xs.A).add (x.toNat * 1)) = some (.int .u8 n2) ∧ letX (fun (underscores2 : Bool) (d : Int) (w06 : World) => Br (decide (d ≥ (IntKind.wrap .u8 base1))) (∃ v1 : Value, (Instr.makeInterface 67 (.int .i64 2)).run Tryd.prog w06 = .ok v1 w06 ∧ R 0 v1 w06) (Br (decide (n ≥ cutoff)) (∃ v2 : Value, (Instr.makeInterface 67 (.int .i64 1)).run Tryd.prog w06 = .ok v2 w06 ∧ R (IntKind.wrap .u64 ((bShl .u64 1 (IntKind.wrap .u64 bitSize1).toNat) - 1)) v2 w06) (Br ((decide ((IntKind.wrap .u64 ((IntKind.wrap .u64 (n * (IntKind.wrap .u64 base1))) + (IntKind.wrap .u64 d))) < (IntKind.wrap .u64 (n * (IntKind.wrap .u64 base1))))) || (decide ((IntKind.wrap .u64 ((IntKind.wrap .u64 (n * (IntKind.wrap .u64 base1))) + (IntKind.wrap .u64 d))) > (IntKind.wrap .u64 ((bShl .u64 1 (IntKind.wrap .u64 bitSize1).toNat) - 1))))) (∃ v3 : Value, (Instr.makeInterface 67 (.int .i64 1)).run Tryd.prog w06 = .ok v3 w06 ∧ R (IntKind.wrap .u64 ((bShl .u64 1 (IntKind.wrap .u64 bitSize1).toNat) - 1)) v3 w06) (J_ underscores2 (IntKind.wrap .u64 ((IntKind.wrap .u64 (n * (IntKind.wrap .u64 base1))) + (IntKind.wrap .u64 d))) w06)))) fun J_1 => Br ((n2 == 95) && (base == 0)) (J_ true n w04) (Br ((decide ((48 : Int) ≤ n2)) && (decide (n2 ≤ 57))) (J_1 underscores (IntKind.wrap .u8 (n2 - 48)) w04) (Cinternal_strconv_lower n2 w04 fun n3 w09 => letJ (fun (n4 : Int) (w010 : World) => Br ((decide ((97 : Int) ≤ n3)) && (decide (n4 ≤ 122))) (Cinternal_strconv_lower n2 w010 fun n5 w011 => J_1 underscores (IntKind.wrap .u8 ((IntKind.wrap .u8 (n5 - 97)) + 10)) w011) (∃ v4 : Value, (Instr.makeInterface 67 (.int .i64 2)).run Tryd.prog w010 = .ok v4 w010 ∧ R 0 v4 w010)) fun J_2 => (decide ((97 : Int) ≤ n3) = true → Cinternal_strconv_lower n2 w09 J_2) ∧ (decide ((97 : Int) ≤ n3) = false → J_2 (Kd.dflt (.i .u8)) w09)))) (letJ (fun (b : Bool) (w012 : World) => Br (underscores && (!b)) (∃ v5 : Value, (Instr.makeInterface 67 (.int .i64 2)).run Tryd.prog w012 = .ok v5 w012 ∧ R 0 v5 w012) (R n .nilIface w012)) fun J_3 => (underscores = true → Cinternal_strconv_underscoreOK s w04 J_3) ∧ (underscores = false → J_3 (Kd.dflt .b) w04))) fun J_4 => Br (base1 == 10) (J_4 1844674407370955162 w01) (Br (base1 == 16) (J_4 1152921504606846976 w01) (((IntKind.wrap .u64 base1) ≠ 0) ∧ J_4 (IntKind.wrap .u64 ((IntKind.wrap .u64 ((18446744073709551615 : Int).tdiv (IntKind.wrap .u64 base1))) + 1)) w01))) fun J_5 => Br (bitSize == 0) (J_5 64 w0) (Br ((decide (bitSize < 0)) || (decide (bitSize > 64))) (∃ v6 : Value, (Instr.makeInterface 67 (.int .i64 4)).run Tryd.prog w0 = .ok v6 w0 ∧ R 0 v6 w0) (J_5 bitSize w0))) fun J_6 => Br ((decide ((2 : Int) ≤ base)) && (decide (base ≤ 36))) (J_6 s base w) (Br (base == 0) ((0 ≤ (0 : Int) ∧ (0 : Int) < (s.size : Int)) ∧ Br ((bt s 0) == 48) ((decide ((s.size : Int) ≥ 3) = true → (0 ≤ (1 : Int) ∧ (1 : Int) < (s.size : Int))) ∧ letJ (fun (n6 : Int) (w019 : World) => Br ((decide ((s.size : Int) ≥ 3)) && (n6 == 98)) ((0 ≤ (2 : Int) ∧ (2 : Int) ≤ (s.size : Int) ∧ (s.size : Int) ≤ (s.size : Int)) ∧ J_6 (s.extract 2 ((s.size : Int)).toNat) 2 w019) ((decide ((s.size : Int) ≥ 3) = true → (0 ≤ (1 : Int) ∧ (1 : Int) < (s.size : Int))) ∧ letJ (fun (n7 : Int) (w021 : World) => Br ((decide ((s.size : Int) ≥ 3)) && (n7 == 111)) ((0 ≤ (2 : Int) ∧ (2 : Int) ≤ (s.size : Int) ∧ (s.size : Int) ≤ (s.size : Int)) ∧ J_6 (s.extract 2 ((s.size : Int)).toNat) 8 w021) ((decide ((s.size : Int) ≥ 3) = true → (0 ≤ (1 : Int) ∧ (1 : Int) < (s.size : Int))) ∧ letJ (fun (n8 : Int) (w023 : World) => Br ((decide ((s.size : Int) ≥ 3)) && (n8 == 120)) ((0 ≤ (2 : Int) ∧ (2 : Int) ≤ (s.size : Int) ∧ (s.size : Int) ≤ (s.size : Int)) ∧ J_6 (s.extract 2 ((s.size : Int)).toNat) 16 w023) ((0 ≤ (1 : Int) ∧ (1 : Int) ≤ (s.size : Int) ∧ (s.size : Int) ≤ (s.size : Int)) ∧ J_6 (s.extract 1 ((s.size : Int)).toNat) 8 w023)) fun J_7 => (decide ((s.size : Int) ≥ 3) = true → Cinternal_strconv_lower (bt s 1) w021 J_7) ∧ (decide ((s.size : Int) ≥ 3) = false → J_7 (Kd.dflt (.i .u8)) w021))) fun J_8 => (decide ((s.size : Int) ≥ 3) = true → Cinternal_strconv_lower (bt s 1) w019 J_8) ∧ (decide ((s.size : Int) ≥ 3) = false → J_8 (Kd.dflt (.i .u8)) w019))) fun J_9 => (decide ((s.size : Int) ≥ 3) = true → Cinternal_strconv_lower (bt s 1) w J_9) ∧ (decide ((s.size : Int) ≥ 3) = false → J_9 (Kd.dflt (.i .u8)) w)) (J_6 s 10 w)) (∃ v7 : Value, (Instr.makeInterface 67 (.int .i64 3)).run Tryd.prog w = .ok v7 w ∧ R 0 v7 w)))
theorem Finternal_strconv_ParseUint.calls (s : ByteArray) (base : Int) (bitSize : Int) (w : World) (R : Int → Value → World → Prop) (h : Finternal_strconv_ParseUint s base bitSize w R) : Cinternal_strconv_ParseUint s base bitSize w R :=
  calls_of_vc (anOp_ok callable) wide Tryd.func34 [(108, ⟨[(12, .b), (13, .i .u64), (101, .i .i64)], [1, 8, 9, 10, 11, 99, 100]⟩), (14, ⟨[(12, .b), (13, .i .u64)], [1, 8, 9, 10, 11, 99, 100, 101]⟩), (17, ⟨[(12, .b), (16, .i .u8)], [1, 8, 9, 10, 11, 13, 99, 100, 101]⟩), (8, ⟨[(10, .i .u64)], [0, 1, 2, 8, 9]⟩), (67, ⟨[(2, .i .i64)], [0, 1, 8, 9]⟩), (2, ⟨[(0, .s), (1, .i .i64)], [2, 8, 9]⟩)] [.i .u64, .v] [.string s, .int .i64 base, .int .i64 bitSize] w R (Eq.mp (show Finternal_strconv_ParseUint s base bitSize w R = vcF Tryd.prog G Tryd.f34 [(108, ⟨[(12, .b), (13, .i .u64), (101, .i .i64)], [1, 8, 9, 10, 11, 99, 100]⟩), (14, ⟨[(12, .b), (13, .i .u64)], [1, 8, 9, 10, 11, 99, 100, 101]⟩), (17, ⟨[(12, .b), (16, .i .u8)], [1, 8, 9, 10, 11, 13, 99, 100, 101]⟩), (8, ⟨[(10, .i .u64)], [0, 1, 2, 8, 9]⟩), (67, ⟨[(2, .i .i64)], [0, 1, 8, 9]⟩), (2, ⟨[(0, .s), (1, .i .i64)], [2, 8, 9]⟩)] [.i .u64, .v] [.string s, .int .i64 base, .int .i64 bitSize] w R by kernel_rfl) h)
/-- strconv.toError -/
def Fstrconv_toError (fn : ByteArray) (s : ByteArray) (base : Int) (bitSize : Int) (err : Value) (w : World) (R : Value → World → Prop) : Prop :=
  ∃ v : Value, (Instr.makeInterface 67 (.int .i64 2)).run Tryd.prog w = .ok v w ∧ ∃ b : Bool, (do eqGuard .eql 52 (.tmp 11) (.tmp 13) err v; binOp .eql 52 err v : Sem Value).run Tryd.prog w = .ok (.bool b) w ∧ Br b (Cstrconv_syntaxError fn s w fun p w0 => ∃ v1 : Value, (Instr.makeInterface 70 (.pointer p)).run Tryd.prog w0 = .ok v1 w0 ∧ R v1 w0) (∃ v2 : Value, (Instr.makeInterface 67 (.int .i64 1)).run Tryd.prog w = .ok v2 w ∧ ∃ b1 : Bool, (do eqGuard .eql 52 (.tmp 11) (.tmp 20) err v2; binOp .eql 52 err v2 : Sem Value).run Tryd.prog w = .ok (.bool b1) w ∧ Br b1 (Cstrconv_rangeError fn s w fun p1 w01 => ∃ v3 : Value, (Instr.makeInterface 70 (.pointer p1)).run Tryd.prog w01 = .ok v3 w01 ∧ R v3 w01) (∃ v4 : Value, (Instr.makeInterface 67 (.int .i64 3)).run Tryd.prog w = .ok v4 w ∧ ∃ b2 : Bool, (do eqGuard .eql 52 (.tmp 11) (.tmp 27) err v4; binOp .eql 52 err v4 : Sem Value).run Tryd.prog w = .ok (.bool b2) w ∧ Br b2 (Cstrconv_baseError fn s base w fun p2 w02 => ∃ v5 : Value, (Instr.makeInterface 70 (.pointer p2)).run Tryd.prog w02 = .ok v5 w02 ∧ R v5 w02) (∃ v6 : Value, (Instr.makeInterface 67 (.int .i64 4)).run Tryd.prog w = .ok v6 w ∧ ∃ b3 : Bool, (do eqGuard .eql 52 (.tmp 11) (.tmp 35) err v6; binOp .eql 52 err v6 : Sem Value).run Tryd.prog w = .ok (.bool b3) w ∧ Br b3 (Cstrconv_bitSizeError fn s bitSize w fun p3 w03 => ∃ v7 : Value, (Instr.makeInterface 70 (.pointer p3)).run Tryd.prog w03 = .ok v7 w03 ∧ R v7 w03) (R err w))))
theorem Fstrconv_toError.calls (fn : ByteArray) (s : ByteArray) (base : Int) (bitSize : Int) (err : Value) (w : World) (R : Value → World → Prop) (h : Fstrconv_toError fn s base bitSize err w R) : Cstrconv_toError fn s base bitSize err w R :=
  calls_of_vc (anOp_ok callable) wide Tryd.func35 [] [.v] [.string fn, .string s, .int .i64 base, .int .i64 bitSize, err] w R (Eq.mp (show Fstrconv_toError fn s base bitSize err w R = vcF Tryd.prog G Tryd.f35 [] [.v] [.string fn, .string s, .int .i64 base, .int .i64 bitSize, err] w R by kernel_rfl) h)
/-- internal/strconv.small -/
def Finternal_strconv_small (i : Int) (w : World) (R : ByteArray → World → Prop) : Prop :=
  Br (decide (i < 10)) ((0 ≤ i ∧ i ≤ (IntKind.wrap .i64 (i + 1)) ∧ (IntKind.wrap .i64 (i + 1)) ≤ (s_0123456789abcdefghijklmnopqrstuv.size : Int)) ∧ R (s_0123456789abcdefghijklmnopqrstuv.extract i.toNat (IntKind.wrap .i64 (i + 1)).toNat) w) ((0 ≤ (IntKind.wrap .i64 (i * 2)) ∧ (IntKind.wrap .i64 (i * 2)) ≤ (IntKind.wrap .i64 ((IntKind.wrap .i64 (i * 2)) + 2)) ∧ (IntKind.wrap .i64 ((IntKind.wrap .i64 (i * 2)) + 2)) ≤ (s_00010203040506070809101112131415.size : Int)) ∧ R (s_00010203040506070809101112131415.extract (IntKind.wrap .i64 (i * 2)).toNat (IntKind.wrap .i64 ((IntKind.wrap .i64 (i * 2)) + 2)).toNat) w)
theorem Finternal_strconv_small.calls (i : Int) (w : World) (R : ByteArray → World → Prop) (h : Finternal_strconv_small i w R) : Cinternal_strconv_small i w R :=
  calls_of_vc (anOp_ok callable) wide Tryd.func36 [] [.s] [.int .i64 i] w R (Eq.mp (show Finternal_strconv_small i w R = vcF Tryd.prog G Tryd.f36 [] [.s] [.int .i64 i] w R by kernel_rfl) h)
/-- internal/strconv.numDigits -/
def Finternal_strconv_numDigits (d : Int) (w : World) (R : Int → World → Prop) : Prop :=
  Cmath_bits_Len64 d w fun n w0 => Cinternal_strconv_log10Pow2 n w0 fun n1 w01 => (0 ≤ n1 ∧ n1 < (20 : Int)) ∧ ∃ n2 : Int, w01.cell? ((⟨0, 0, none⟩ : Addr).add (n1.toNat * 1)) = some (.int .u64 n2) ∧ Cinternal_strconv_bool2_int (decide (d ≥ n2)) w01 fun n3 w02 => R (IntKind.wrap .i64 (n1 + n3)) w02
theorem Finternal_strconv_numDigits.calls (d : Int) (w : World) (R : Int → World → Prop) (h : Finternal_strconv_numDigits d w R) : Cinternal_strconv_numDigits d w R :=
  calls_of_vc (anOp_ok callable) wide Tryd.func37 [] [.i .i64] [.int .u64 d] w R (Eq.mp (show Finternal_strconv_numDigits d w R = vcF Tryd.prog G Tryd.f37 [] [.i .i64] [.int .u64 d] w R by kernel_rfl) h)
/-- internal/strconv.formatBits -/
def Finternal_strconv_formatBits (dst : Sl) (u : Int) (base : Int) (neg : Bool) (append_ : Bool) (w : World) (R : Sl → ByteArray → World → Prop) : Prop :=
  letX (fun (w0 : World) => New (.cells #[.int .u8 0, .int .u8 0, .int .u8 0, .int .u8 0, .int .u8 0, .int .u8 0, .int .u8 0, .int .u8 0, .int .u8 0, .int .u8 0, .int .u8 0, .int .u8 0, .int .u8 0, .int .u8 0, .int .u8 0, .int .u8 0, .int .u8 0, .int .u8 0, .int .u8 0, .int .u8 0, .int .u8 0, .int .u8 0, .int .u8 0, .int .u8 0, .int .u8 0, .int .u8 0, .int .u8 0, .int .u8 0, .int .u8 0, .int .u8 0, .int .u8 0, .int .u8 0, .int .u8 0, .int .u8 0, .int .u8 0, .int .u8 0, .int .u8 0, .int .u8 0, .int .u8 0, .int .u8 0, .int .u8 0, .int .u8 0, .int .u8 0, .int .u8 0, .int .u8 0, .int .u8 0, .int .u8 0, .int .u8 0, .int .u8 0, .int .u8 0, .int .u8 0, .int .u8 0, .int .u8 0, .int .u8 0, .int .u8 0, .int .u8 0, .int .u8 0, .int .u8 0, .int .u8 0, .int .u8 0, .int .u8 0, .int .u8 0, .int .u8 0, .int .u8 0, .int .u8 0] 77) w0 fun a w01 => letX (fun (u1 : Int) (w02 : World) => Cinternal_strconv_isPowerOfTwo base w02 fun b w03 => letX (fun (i : Int) (w04 : World) => letX (fun (i1 : Int) (w05 : World) => Br append_ ((0 ≤ i1 ∧ i1 ≤ (65 : Int) ∧ (65 : Int) ≤ (65 : Int)) ∧ RunK Tryd.prog .sl (Builtin.append_ #[39, 39] 39 #[.slice dst.A dst.n dst.c, .slice (some (if 65 = i1.toNat then a else a.add (i1.toNat * 1))) (65 - i1.toNat) (65 - i1.toNat)]) w05 fun xs w06 => R xs ⟨#[]⟩ w06) ((0 ≤ i1 ∧ i1 ≤ (65 : Int) ∧ (65 : Int) ≤ (65 : Int)) ∧ ∃ s : ByteArray, (convert 39 9 (.slice (some (if 65 = i1.toNat then a else a.add (i1.toNat * 1))) (65 - i1.toNat) (65 - i1.toNat))).run Tryd.prog w05 = .ok (.string s) w05 ∧ R (⟨none, 0, 0⟩ : Sl) s w05)) fun J_ => Br neg ((0 ≤ (IntKind.wrap .i64 (i - 1)) ∧ (IntKind.wrap .i64 (i - 1)) < (65 : Int)) ∧ Put (a.add ((IntKind.wrap .i64 (i - 1)).toNat * 1)) (.int .u8 45) w04 fun w07 => J_ (IntKind.wrap .i64 (i - 1)) w07) (J_ i w04)) fun J_1 => Br b (Cmath_bits_TrailingZeros (IntKind.wrap .u64 base) w03 fun n w08 => ∃ (I : Int → Int → World → Prop) (μ : Int → Int → World → Nat), I u1 65 w08 ∧ ∀ (u2 : Int) (i2 : Int) (w09 : World), I u2 i2 w09 → Br (decide (u2 ≥ (IntKind.wrap .u64 base))) ((0 ≤ (bAnd .u64 u2 (IntKind.wrap .u64 ((IntKind.wrap .u64 base) - 1))) ∧ (bAnd .u64 u2 (IntKind.wrap .u64 ((IntKind.wrap .u64 base) - 1))) < (s_0123456789abcdefghijklmnopqrstuv.size : Int)) ∧ (0 ≤ (IntKind.wrap .i64 (i2 - 1)) ∧ (IntKind.wrap .i64 (i2 - 1)) < (65 : Int)) ∧ Put (a.add ((IntKind.wrap .i64 (i2 - 1)).toNat * 1)) (.int .u8 (bt s_0123456789abcdefghijklmnopqrstuv (bAnd .u64 u2 (IntKind.wrap .u64 ((IntKind.wrap .u64 base) - 1))))) w09 fun w010 => (0 ≤ (IntKind.wrap .u64 n)) ∧ I (bShr .u64 u2 (IntKind.wrap .u64 n).toNat) (IntKind.wrap .i64 (i2 - 1)) w010 ∧ μ (bShr .u64 u2 (IntKind.wrap .u64 n).toNat) (IntKind.wrap .i64 (i2 - 1)) w010 < μ u2 i2 w09) ((0 ≤ u2 ∧ u2 < (s_0123456789abcdefghijklmnopqrstuv.size : Int)) ∧ (0 ≤ (IntKind.wrap .i64 (i2 - 1)) ∧ (IntKind.wrap .i64 (i2 - 1)) < (65 : Int)) ∧ Put (a.add ((IntKind.wrap .i64 (i2 - 1)).toNat * 1)) (.int .u8 (bt s_0123456789abcdefghijklmnopqrstuv u2)) w09 fun w011 => J_1 (IntKind.wrap .i64 (i2 - 1)) w011)) (∃ (I1 : Int → Int → World → Prop) (μ1 : Int → Int → World → Nat), I1 u1 65 w03 ∧ ∀ (u3 : Int) (i3 : Int) (w012 : World), I1 u3 i3 w012 → Br (decide (u3 ≥ (IntKind.wrap .u64 base))) (((IntKind.wrap .u64 base) ≠ 0) ∧ (0 ≤ (IntKind.wrap .u64 (u3 - (IntKind.wrap .u64 ((IntKind.wrap .u64 (u3.tdiv (IntKind.wrap .u64 base))) * (IntKind.wrap .u64 base))))) ∧ (IntKind.wrap .u64 (u3 - (IntKind.wrap .u64 ((IntKind.wrap .u64 (u3.tdiv (IntKind.wrap .u64 base))) * (IntKind.wrap .u64 base))))) < (s_0123456789abcdefghijklmnopqrstuv.size : Int)) ∧ (0 ≤ (IntKind.wrap .i64 (i3 - 1)) ∧ (IntKind.wrap .i64 (i3 - 1)) < (65 : Int)) ∧ Put (a.add ((IntKind.wrap .i64 (i3 - 1)).toNat * 1)) (.int .u8 (bt s_0123456789abcdefghijklmnopqrstuv (IntKind.wrap .u64 (u3 - (IntKind.wrap .u64 ((IntKind.wrap .u64 (u3.tdiv (IntKind.wrap .u64 base))) * (IntKind.wrap .u64 base))))))) w012 fun w013 => I1 (IntKind.wrap .u64 (u3.tdiv (IntKind.wrap .u64 base))) (IntKind.wrap .i64 (i3 - 1)) w013 ∧ μ1 (IntKind.wrap .u64 (u3.tdiv (IntKind.wrap .u64 base))) (IntKind.wrap .i64 (i3 - 1)) w013 < μ1 u3 i3 w012) ((0 ≤ u3 ∧ u3 < (s_0123456789abcdefghijklmnopqrstuv.size : Int)) ∧ (0 ≤ (IntKind.wrap .i64 (i3 - 1)) ∧ (IntKind.wrap .i64 (i3 - 1)) < (65 : Int)) ∧ Put (a.add ((IntKind.wrap .i64 (i3 - 1)).toNat * 1)) (.int .u8 (bt s_0123456789abcdefghijklmnopqrstuv u3)) w012 fun w014 => J_1 (IntKind.wrap .i64 (i3 - 1)) w014))) fun J_2 => Br neg (J_2 (IntKind.wrap .u64 (0 - u)) w01) (J_2 u w01)) fun J_3 => Br (((decide (base < 2)) || (base == 10)) || (decide (base > 36))) (∃ v : Value, (Instr.makeInterface 9 (.string s_strconvx3ax20illegalx20AppendInt)).run Tryd.prog w = .ok v w ∧ False) (J_3 w)
theorem Finternal_strconv_formatBits.calls (dst : Sl) (u : Int) (base : Int) (neg : Bool) (append_ : Bool) (w : World) (R : Sl → ByteArray → World → Prop) (h : Finternal_strconv_formatBits dst u base neg append_ w R) : Cinternal_strconv_formatBits dst u base neg append_ w R :=
  calls_of_vc (anOp_ok callable) wide Tryd.func39 [(79, ⟨[(13, .i .i64)], [0, 4, 10, 11, 12]⟩), (25, ⟨[(13, .i .i64)], [0, 3, 4, 10, 11, 12]⟩), (33, ⟨[(1, .i .u64), (13, .i .i64)], [0, 3, 4, 10, 11, 12, 14, 15, 16]⟩), (54, ⟨[(1, .i .u64), (13, .i .i64)], [0, 3, 4, 10, 11, 12, 17]⟩), (19, ⟨[(1, .i .u64)], [0, 2, 3, 4, 10, 11, 12, 13]⟩), (7, ⟨[], [0, 1, 2, 3, 4, 10, 11]⟩)] [.sl, .s] [.slice dst.A dst.n dst.c, .int .u64 u, .int .i64 base, .bool neg, .bool append_] w R (Eq.mp (show Finternal_strconv_formatBits dst u base neg append_ w R = vcF Tryd.prog G Tryd.f39 [(79, ⟨[(13, .i .i64)], [0, 4, 10, 11, 12]⟩), (25, ⟨[(13, .i .i64)], [0, 3, 4, 10, 11, 12]⟩), (33, ⟨[(1, .i .u64), (13, .i .i64)], [0, 3, 4, 10, 11, 12, 14, 15, 16]⟩), (54, ⟨[(1, .i .u64), (13, .i .i64)], [0, 3, 4, 10, 11, 12, 17]⟩), (19, ⟨[(1, .i .u64)], [0, 2, 3, 4, 10, 11, 12, 13]⟩), (7, ⟨[], [0, 1, 2, 3, 4, 10, 11]⟩)] [.sl, .s] [.slice dst.A dst.n dst.c, .int .u64 u, .int .i64 base, .bool neg, .bool append_] w R by kernel_rfl) h)
/-- strings.splitSeq$1 -/
def Fstrings_splitSeq_1 (yield : Value) (fv : Addr) (fv1 : Addr) (fv2 : Addr) (w : World) (R : World → Prop) : Prop :=
  ∃ s : ByteArray, w.cell? fv = some (.string s) ∧ Br ((s.size : Int) == 0) (∃ (I : World → Prop) (μ : World → Nat), I w ∧ ∀ (w0 : World), I w0 → ∃ s1 : ByteArray, w0.cell? fv1 = some (.string s1) ∧ Br (decide ((s1.size : Int) > 0)) (∃ s2 : ByteArray, w0.cell? fv1 = some (.string s2) ∧ Cunicode_utf8_DecodeRuneInString s2 w0 fun n n1 w01 => ∃ s3 : ByteArray, w01.cell? fv1 = some (.string s3) ∧ (0 ≤ (0 : Int) ∧ (0 : Int) ≤ n1 ∧ n1 ≤ (s3.size : Int)) ∧ CallV Tryd.prog cs yield #[.string (s3.extract 0 n1.toNat)] w01 [.b] fun b w02 => Br (!b) (R w02) (∃ s4 : ByteArray, w02.cell? fv1 = some (.string s4) ∧ (0 ≤ n1 ∧ n1 ≤ (s4.size : Int) ∧ (s4.size : Int) ≤ (s4.size : Int)) ∧ Put fv1 (.string (s4.extract n1.toNat ((s4.size : Int)).toNat)) w02 fun w03 => I w03 ∧ μ w03 < μ w0)) (R w0)) (∃ (I1 : World → Prop) (μ1 : World → Nat), I1 w ∧ ∀ (w04 : World), I1 w04 → ∃ s5 : ByteArray, w04.cell? fv1 = some (.string s5) ∧ ∃ s6 : ByteArray, w04.cell? fv = some (.string s6) ∧ Cstrings_Index s5 s6 w04 fun n2 w05 => Br (decide (n2 < 0)) (∃ s7 : ByteArray, w05.cell? fv1 = some (.string s7) ∧ CallV Tryd.prog cs yield #[.string s7] w05 [.b] fun b1 w06 => R w06) (∃ s8 : ByteArray, w05.cell? fv1 = some (.string s8) ∧ ∃ n3 : Int, w05.cell? fv2 = some (.int .i64 n3) ∧ (0 ≤ (0 : Int) ∧ (0 : Int) ≤ (IntKind.wrap .i64 (n2 + n3)) ∧ (IntKind.wrap .i64 (n2 + n3)) ≤ (s8.size : Int)) ∧ CallV Tryd.prog cs yield #[.string (s8.extract 0 (IntKind.wrap .i64 (n2 + n3)).toNat)] w05 [.b] fun b2 w07 => Br (!b2) (R w07) (∃ s9 : ByteArray, w07.cell? fv1 = some (.string s9) ∧ ∃ s10 : ByteArray, w07.cell? fv = some (.string s10) ∧ (0 ≤ (IntKind.wrap .i64 (n2 + (s10.size : Int))) ∧ (IntKind.wrap .i64 (n2 + (s10.size : Int))) ≤ (s9.size : Int) ∧ (s9.size : Int) ≤ (s9.size : Int)) ∧ Put fv1 (.string (s9.extract (IntKind.wrap .i64 (n2 + (s10.size : Int))).toNat ((s9.size : Int)).toNat)) w07 fun w08 => I1 w08 ∧ μ1 w08 < μ1 w04)))
theorem Fstrings_splitSeq_1.calls (yield : Value) (fv : Addr) (fv1 : Addr) (fv2 : Addr) (w : World) (R : World → Prop) (h : Fstrings_splitSeq_1 yield fv fv1 fv2 w R) : Cstrings_splitSeq_1 yield fv fv1 fv2 w R :=
  calls_of_vc (anOp_ok callable) wide Tryd.func40 [(3, ⟨[], [0, 2]⟩), (15, ⟨[], [0, 1, 2, 3]⟩)] [] [yield, .pointer (some fv), .pointer (some fv1), .pointer (some fv2)] w R (Eq.mp (show Fstrings_splitSeq_1 yield fv fv1 fv2 w R = vcF Tryd.prog G Tryd.f40 [(3, ⟨[], [0, 2]⟩), (15, ⟨[], [0, 1, 2, 3]⟩)] [] [yield, .pointer (some fv), .pointer (some fv1), .pointer (some fv2)] w R by kernel_rfl) h)
/-- unicode/utf8.DecodeRuneInString -/
def Funicode_utf8_DecodeRuneInString (s : ByteArray) (w : World) (R : Int → Int → World → Prop) : Prop :=
  ((!(sEq s ⟨#[]⟩)) = true → (0 ≤ (0 : Int) ∧ (0 : Int) < (s.size : Int))) ∧ Br ((!(sEq s ⟨#[]⟩)) && (decide ((bt s 0) < 128))) ((0 ≤ (0 : Int) ∧ (0 : Int) < (s.size : Int)) ∧ R (IntKind.wrap .i32 (bt s 0)) 1 w) (Cunicode_utf8_decodeRuneInStringSlow s w fun n n1 w0 => R n n1 w0)
theorem Funicode_utf8_DecodeRuneInString.calls (s : ByteArray) (w : World) (R : Int → Int → World → Prop) (h : Funicode_utf8_DecodeRuneInString s w R) : Cunicode_utf8_DecodeRuneInString s w R :=
  calls_of_vc (anOp_ok callable) wide Tryd.func41 [] [.i .i32, .i .i64] [.string s] w R (Eq.mp (show Funicode_utf8_DecodeRuneInString s w R = vcF Tryd.prog G Tryd.f41 [] [.i .i32, .i .i64] [.string s] w R by kernel_rfl) h)
/-- strings.Index -/
def Fstrings_Index (s : ByteArray) (substr : ByteArray) (w : World) (R : Int → World → Prop) : Prop :=
  Cinternal_stringslite_Index s substr w fun n w0 => R n w0
theorem Fstrings_Index.calls (s : ByteArray) (substr : ByteArray) (w : World) (R : Int → World → Prop) (h : Fstrings_Index s substr w R) : Cstrings_Index s substr w R :=
  calls_of_vc (anOp_ok callable) wide Tryd.func42 [] [.i .i64] [.string s, .string substr] w R (Eq.mp (show Fstrings_Index s substr w R = vcF Tryd.prog G Tryd.f42 [] [.i .i64] [.string s, .string substr] w R by kernel_rfl) h)
/-- internal/strconv.lower -/
def Finternal_strconv_lower (c : Int) (w : World) (R : Int → World → Prop) : Prop :=
  R (bOr .u8 c 32) w
theorem Finternal_strconv_lower.calls (c : Int) (w : World) (R : Int → World → Prop) (h : Finternal_strconv_lower c w R) : Cinternal_strconv_lower c w R :=
  calls_of_vc (anOp_ok callable) wide Tryd.func44 [] [.i .u8] [.int .u8 c] w R (Eq.mp (show Finternal_strconv_lower c w R = vcF Tryd.prog G Tryd.f44 [] [.i .u8] [.int .u8 c] w R by kernel_rfl) h)
end Go.Proofs.YtiokflecflbopaaDoor

-- printed by wip/cf/cfprint.py
namespace Go.Proofs.YtiokflecflbopaaDoor
open Go CF
set_option linter.unusedVariables false
set_option maxRecDepth 100000
/-- internal/strconv.underscoreOK -/
def Finternal_strconv_underscoreOK (s : ByteArray) (w : World) (R : Bool → World → Prop) : Prop :=
  (decide ((s.size : Int) ≥ 1) = true → (0 ≤ (0 : Int) ∧ (0 : Int) < (s.size : Int))) ∧ (((!((bt s 0) == 45)) && (decide ((s.size : Int) ≥ 1))) = true → (0 ≤ (0 : Int) ∧ (0 : Int) < (s.size : Int))) ∧ letX (fun (s1 : ByteArray) (w0 : World) => (decide ((s1.size : Int) ≥ 2) = true → (0 ≤ (0 : Int) ∧ (0 : Int) < (s1.size : Int))) ∧ (((decide ((s1.size : Int) ≥ 2)) && ((bt s1 0) == 48)) = true → (0 ≤ (1 : Int) ∧ (1 : Int) < (s1.size : Int))) ∧ letJ (fun (n : Int) (w01 : World) => (((!(n == 98)) && ((decide ((s1.size : Int) ≥ 2)) && ((bt s1 0) == 48))) = true → (0 ≤ (1 : Int) ∧ (1 : Int) < (s1.size : Int))) ∧ letJ (fun (n1 : Int) (w02 : World) => (((!((n == 98) || (n1 == 111))) && ((decide ((s1.size : Int) ≥ 2)) && ((bt s1 0) == 48))) = true → (0 ≤ (1 : Int) ∧ (1 : Int) < (s1.size : Int))) ∧ letJ (fun (n2 : Int) (w03 : World) => letX (fun (saw : Int) (i : Int) (hex : Bool) (w04 : World) => ∃ (I : Int → Int → World → Prop) (μ : Int → Int → World → Nat), I saw i w04 ∧ ∀ (saw1 : Int) (i1 : Int) (w05 : World), I saw1 i1 w05 → Br (decide (i1 < (s1.size : Int))) (letX (fun (saw2 : Int) (w06 : World) => I saw2 (IntKind.wrap .i64 (i1 + 1)) w06 ∧ μ saw2 (IntKind.wrap .i64 (i1 + 1)) w06 < μ saw1 i1 w05) fun J_ => (0 ≤ i1 ∧ i1 < (s1.size : Int)) ∧ (decide ((48 : Int) ≤ (bt s1 i1)) = true → (0 ≤ i1 ∧ i1 < (s1.size : Int))) ∧ ((hex && (!((decide ((48 : Int) ≤ (bt s1 i1))) && (decide ((bt s1 i1) ≤ 57))))) = true → (0 ≤ i1 ∧ i1 < (s1.size : Int))) ∧ letJ (fun (n3 : Int) (w07 : World) => (((hex && (decide ((97 : Int) ≤ n3))) && (!((decide ((48 : Int) ≤ (bt s1 i1))) && (decide ((bt s1 i1) ≤ 57))))) = true → (0 ≤ i1 ∧ i1 < (s1.size : Int))) ∧ letJ (fun (n4 : Int) (w08 : World) => Br (((decide ((48 : Int) ≤ (bt s1 i1))) && (decide ((bt s1 i1) ≤ 57))) || ((hex && (decide ((97 : Int) ≤ n3))) && (decide (n4 ≤ 102)))) (J_ 48 w08) ((0 ≤ i1 ∧ i1 < (s1.size : Int)) ∧ Br ((bt s1 i1) == 95) (Br (saw1 != 48) (R false w08) (J_ 95 w08)) (Br (saw1 == 95) (R false w08) (J_ 33 w08)))) fun J_1 => (((hex && (decide ((97 : Int) ≤ n3))) && (!((decide ((48 : Int) ≤ (bt s1 i1))) && (decide ((bt s1 i1) ≤ 57))))) = true → Cinternal_strconv_lower (bt s1 i1) w07 J_1) ∧ (((hex && (decide ((97 : Int) ≤ n3))) && (!((decide ((48 : Int) ≤ (bt s1 i1))) && (decide ((bt s1 i1) ≤ 57))))) = false → J_1 (Kd.dflt (.i .u8)) w07)) fun J_2 => ((hex && (!((decide ((48 : Int) ≤ (bt s1 i1))) && (decide ((bt s1 i1) ≤ 57))))) = true → Cinternal_strconv_lower (bt s1 i1) w05 J_2) ∧ ((hex && (!((decide ((48 : Int) ≤ (bt s1 i1))) && (decide ((bt s1 i1) ≤ 57))))) = false → J_2 (Kd.dflt (.i .u8)) w05)) (R (saw1 != 95) w05)) fun J_3 => Br (((decide ((s1.size : Int) ≥ 2)) && ((bt s1 0) == 48)) && (((n == 98) || (n1 == 111)) || (n2 == 120))) ((0 ≤ (1 : Int) ∧ (1 : Int) < (s1.size : Int)) ∧ Cinternal_strconv_lower (bt s1 1) w03 fun n5 w09 => J_3 48 2 (n5 == 120) w09) (J_3 94 0 false w03)) fun J_4 => (((!((n == 98) || (n1 == 111))) && ((decide ((s1.size : Int) ≥ 2)) && ((bt s1 0) == 48))) = true → Cinternal_strconv_lower (bt s1 1) w02 J_4) ∧ (((!((n == 98) || (n1 == 111))) && ((decide ((s1.size : Int) ≥ 2)) && ((bt s1 0) == 48))) = false → J_4 (Kd.dflt (.i .u8)) w02)) fun J_5 => (((!(n == 98)) && ((decide ((s1.size : Int) ≥ 2)) && ((bt s1 0) == 48))) = true → Cinternal_strconv_lower (bt s1 1) w01 J_5) ∧ (((!(n == 98)) && ((decide ((s1.size : Int) ≥ 2)) && ((bt s1 0) == 48))) = false → J_5 (Kd.dflt (.i .u8)) w01)) fun J_6 => (((decide ((s1.size : Int) ≥ 2)) && ((bt s1 0) == 48)) = true → Cinternal_strconv_lower (bt s1 1) w0 J_6) ∧ (((decide ((s1.size : Int) ≥ 2)) && ((bt s1 0) == 48)) = false → J_6 (Kd.dflt (.i .u8)) w0)) fun J_7 => Br ((decide ((s.size : Int) ≥ 1)) && (((bt s 0) == 45) || ((bt s 0) == 43))) ((0 ≤ (1 : Int) ∧ (1 : Int) ≤ (s.size : Int) ∧ (s.size : Int) ≤ (s.size : Int)) ∧ J_7 (s.extract 1 ((s.size : Int)).toNat) w) (J_7 s w)
theorem Finternal_strconv_underscoreOK.calls (s : ByteArray) (w : World) (R : Bool → World → Prop) (h : Finternal_strconv_underscoreOK s w R) : Cinternal_strconv_underscoreOK s w R :=
  calls_of_vc (anOp_ok callable) wide Tryd.func45 [(30, ⟨[(3, .i .i32), (4, .i .i64)], [0, 5]⟩), (5, ⟨[(3, .i .i32)], [0, 4, 5]⟩), (22, ⟨[(3, .i .i32), (4, .i .i64), (5, .b)], [0]⟩), (13, ⟨[(0, .s)], [3, 4]⟩)] [.b] [.string s] w R (Eq.mp (show Finternal_strconv_underscoreOK s w R = vcF Tryd.prog G Tryd.f45 [(30, ⟨[(3, .i .i32), (4, .i .i64)], [0, 5]⟩), (5, ⟨[(3, .i .i32)], [0, 4, 5]⟩), (22, ⟨[(3, .i .i32), (4, .i .i64), (5, .b)], [0]⟩), (13, ⟨[(0, .s)], [3, 4]⟩)] [.b] [.string s] w R by kernel_rfl) h)
/-- strconv.syntaxError -/
def Fstrconv_syntaxError (fn : ByteArray) (str : ByteArray) (w : World) (R : (Option Addr) → World → Prop) : Prop :=
  ∀ w0, w0 = w.drew → ∃ S : World → Prop, S w0 ∧ ∃ v : Value, (∀ u, S u → u.cell? (⟨2, 0, none⟩ : Addr) = some v) ∧ Cinternal_stringslite_Clone str w0 fun s w01 => S w01 ∧ ∃ S1 : World → Prop, S1 w01 ∧ (∀ u1, S1 u1 → S u1) ∧ ∃ g : Array Value, (∀ u2, S1 u2 → (Instr.build 83 #[(0, .string fn), (1, .string s), (2, v)]).run Tryd.prog u2 = .ok (.agg g) u2) ∧ New (.cells g 83) w01 fun a w02 => R (some a) w02
theorem Fstrconv_syntaxError.calls (fn : ByteArray) (str : ByteArray) (w : World) (R : (Option Addr) → World → Prop) (h : Fstrconv_syntaxError fn str w R) : Cstrconv_syntaxError fn str w R :=
  calls_of_vc (anOp_ok callable) wide Tryd.func46 [] [.p] [.string fn, .string str] w R (Eq.mp (show Fstrconv_syntaxError fn str w R = vcF Tryd.prog G Tryd.f46 [] [.p] [.string fn, .string str] w R by kernel_rfl) h)
/-- strconv.rangeError -/
def Fstrconv_rangeError (fn : ByteArray) (str : ByteArray) (w : World) (R : (Option Addr) → World → Prop) : Prop :=
  ∀ w0, w0 = w.drew → ∃ S : World → Prop, S w0 ∧ ∃ v : Value, (∀ u, S u → u.cell? (⟨3, 0, none⟩ : Addr) = some v) ∧ Cinternal_stringslite_Clone str w0 fun s w01 => S w01 ∧ ∃ S1 : World → Prop, S1 w01 ∧ (∀ u1, S1 u1 → S u1) ∧ ∃ g : Array Value, (∀ u2, S1 u2 → (Instr.build 83 #[(0, .string fn), (1, .string s), (2, v)]).run Tryd.prog u2 = .ok (.agg g) u2) ∧ New (.cells g 83) w01 fun a w02 => R (some a) w02
theorem Fstrconv_rangeError.calls (fn : ByteArray) (str : ByteArray) (w : World) (R : (Option Addr) → World → Prop) (h : Fstrconv_rangeError fn str w R) : Cstrconv_rangeError fn str w R :=
  calls_of_vc (anOp_ok callable) wide Tryd.func47 [] [.p] [.string fn, .string str] w R (Eq.mp (show Fstrconv_rangeError fn str w R = vcF Tryd.prog G Tryd.f47 [] [.p] [.string fn, .string str] w R by kernel_rfl) h)
/-- strconv.baseError -/
def Fstrconv_baseError (fn : ByteArray) (str : ByteArray) (base : Int) (w : World) (R : (Option Addr) → World → Prop) : Prop :=
  Cinternal_stringslite_Clone str w fun s w0 => Cstrconv_Itoa base w0 fun s1 w01 => (s_invalidx20basex20.size + s1.size ≤ 9223372036854775807) ∧ Cerrors_New (s_invalidx20basex20 ++ s1) w01 fun v w02 => ∃ g : Array Value, (Instr.build 83 #[(0, .string fn), (1, .string s), (2, v)]).run Tryd.prog w02 = .ok (.agg g) w02 ∧ New (.cells g 83) w02 fun a w03 => R (some a) w03
theorem Fstrconv_baseError.calls (fn : ByteArray) (str : ByteArray) (base : Int) (w : World) (R : (Option Addr) → World → Prop) (h : Fstrconv_baseError fn str base w R) : Cstrconv_baseError fn str base w R :=
  calls_of_vc (anOp_ok callable) wide Tryd.func48 [] [.p] [.string fn, .string str, .int .i64 base] w R (Eq.mp (show Fstrconv_baseError fn str base w R = vcF Tryd.prog G Tryd.f48 [] [.p] [.string fn, .string str, .int .i64 base] w R by kernel_rfl) h)
/-- strconv.bitSizeError -/
def Fstrconv_bitSizeError (fn : ByteArray) (str : ByteArray) (bitSize : Int) (w : World) (R : (Option Addr) → World → Prop) : Prop :=
  Cinternal_stringslite_Clone str w fun s w0 => Cstrconv_Itoa bitSize w0 fun s1 w01 => (s_invalidx20bitx20sizex20.size + s1.size ≤ 9223372036854775807) ∧ Cerrors_New (s_invalidx20bitx20sizex20 ++ s1) w01 fun v w02 => ∃ g : Array Value, (Instr.build 83 #[(0, .string fn), (1, .string s), (2, v)]).run Tryd.prog w02 = .ok (.agg g) w02 ∧ New (.cells g 83) w02 fun a w03 => R (some a) w03
theorem Fstrconv_bitSizeError.calls (fn : ByteArray) (str : ByteArray) (bitSize : Int) (w : World) (R : (Option Addr) → World → Prop) (h : Fstrconv_bitSizeError fn str bitSize w R) : Cstrconv_bitSizeError fn str bitSize w R :=
  calls_of_vc (anOp_ok callable) wide Tryd.func49 [] [.p] [.string fn, .string str, .int .i64 bitSize] w R (Eq.mp (show Fstrconv_bitSizeError fn str bitSize w R = vcF Tryd.prog G Tryd.f49 [] [.p] [.string fn, .string str, .int .i64 bitSize] w R by kernel_rfl) h)
/-- internal/strconv.log10Pow2 -/
def Finternal_strconv_log10Pow2 (x : Int) (w : World) (R : Int → World → Prop) : Prop :=
  R (bShr .i64 (IntKind.wrap .i64 (x * 78913)) 18) w
theorem Finternal_strconv_log10Pow2.calls (x : Int) (w : World) (R : Int → World → Prop) (h : Finternal_strconv_log10Pow2 x w R) : Cinternal_strconv_log10Pow2 x w R :=
  calls_of_vc (anOp_ok callable) wide Tryd.func50 [] [.i .i64] [.int .i64 x] w R (Eq.mp (show Finternal_strconv_log10Pow2 x w R = vcF Tryd.prog G Tryd.f50 [] [.i .i64] [.int .i64 x] w R by kernel_rfl) h)
/-- math/bits.Len64 -/
def Fmath_bits_Len64 (x : Int) (w : World) (R : Int → World → Prop) : Prop :=
  letX (fun (x1 : Int) (n : Int) (w0 : World) => letX (fun (x2 : Int) (n1 : Int) (w01 : World) => letX (fun (x3 : Int) (n2 : Int) (w02 : World) => (0 ≤ (IntKind.wrap .u8 x3) ∧ (IntKind.wrap .u8 x3) < (s_x00x01x02x02x03x03x03x03x04x04x0.size : Int)) ∧ R (IntKind.wrap .i64 (n2 + (IntKind.wrap .i64 (bt s_x00x01x02x02x03x03x03x03x04x04x0 (IntKind.wrap .u8 x3))))) w02) fun J_ => Br (decide (x2 ≥ 256)) (J_ (bShr .u64 x2 8) (IntKind.wrap .i64 (n1 + 8)) w01) (J_ x2 n1 w01)) fun J_1 => Br (decide (x1 ≥ 65536)) (J_1 (bShr .u64 x1 16) (IntKind.wrap .i64 (n + 16)) w0) (J_1 x1 n w0)) fun J_2 => Br (decide (x ≥ 4294967296)) (J_2 (bShr .u64 x 32) 32 w) (J_2 x 0 w)
theorem Fmath_bits_Len64.calls (x : Int) (w : World) (R : Int → World → Prop) (h : Fmath_bits_Len64 x w R) : Cmath_bits_Len64 x w R :=
  calls_of_vc (anOp_ok callable) wide Tryd.func51 [(25, ⟨[(0, .i .u64), (2, .i .i64)], []⟩), (16, ⟨[(0, .i .u64), (2, .i .i64)], []⟩), (7, ⟨[(0, .i .u64), (2, .i .i64)], []⟩)] [.i .i64] [.int .u64 x] w R (Eq.mp (show Fmath_bits_Len64 x w R = vcF Tryd.prog G Tryd.f51 [(25, ⟨[(0, .i .u64), (2, .i .i64)], []⟩), (16, ⟨[(0, .i .u64), (2, .i .i64)], []⟩), (7, ⟨[(0, .i .u64), (2, .i .i64)], []⟩)] [.i .i64] [.int .u64 x] w R by kernel_rfl) h)
/-- internal/strconv.bool2[int] -/
def Finternal_strconv_bool2_int (b : Bool) (w : World) (R : Int → World → Prop) : Prop :=
  Br b (R 1 w) (R 0 w)
theorem Finternal_strconv_bool2_int.calls (b : Bool) (w : World) (R : Int → World → Prop) (h : Finternal_strconv_bool2_int b w R) : Cinternal_strconv_bool2_int b w R :=
  calls_of_vc (anOp_ok callable) wide Tryd.func52 [] [.i .i64] [.bool b] w R (Eq.mp (show Finternal_strconv_bool2_int b w R = vcF Tryd.prog G Tryd.f52 [] [.i .i64] [.bool b] w R by kernel_rfl) h)
/-- internal/strconv.isPowerOfTwo -/
def Finternal_strconv_isPowerOfTwo (x : Int) (w : World) (R : Bool → World → Prop) : Prop :=
  R ((bAnd .i64 x (IntKind.wrap .i64 (x - 1))) == 0) w
theorem Finternal_strconv_isPowerOfTwo.calls (x : Int) (w : World) (R : Bool → World → Prop) (h : Finternal_strconv_isPowerOfTwo x w R) : Cinternal_strconv_isPowerOfTwo x w R :=
  calls_of_vc (anOp_ok callable) wide Tryd.func53 [] [.b] [.int .i64 x] w R (Eq.mp (show Finternal_strconv_isPowerOfTwo x w R = vcF Tryd.prog G Tryd.f53 [] [.b] [.int .i64 x] w R by kernel_rfl) h)
/-- math/bits.TrailingZeros -/
def Fmath_bits_TrailingZeros (x : Int) (w : World) (R : Int → World → Prop) : Prop :=
  Br false (Cmath_bits_TrailingZeros32 (IntKind.wrap .u32 x) w fun n w0 => R n w0) (Cmath_bits_TrailingZeros64 x w fun n1 w01 => R n1 w01)
theorem Fmath_bits_TrailingZeros.calls (x : Int) (w : World) (R : Int → World → Prop) (h : Fmath_bits_TrailingZeros x w R) : Cmath_bits_TrailingZeros x w R :=
  calls_of_vc (anOp_ok callable) wide Tryd.func54 [] [.i .i64] [.int .u64 x] w R (Eq.mp (show Fmath_bits_TrailingZeros x w R = vcF Tryd.prog G Tryd.f54 [] [.i .i64] [.int .u64 x] w R by kernel_rfl) h)
/-- unicode/utf8.decodeRuneInStringSlow -/
def Funicode_utf8_decodeRuneInStringSlow (s : ByteArray) (w : World) (R : Int → Int → World → Prop) : Prop :=
  Br (decide ((s.size : Int) < 1)) (R 65533 0 w) ((0 ≤ (0 : Int) ∧ (0 : Int) < (s.size : Int)) ∧ (0 ≤ (bt s 0) ∧ (bt s 0) < (256 : Int)) ∧ ∃ n : Int, w.cell? ((⟨4, 0, none⟩ : Addr).add ((bt s 0).toNat * 1)) = some (.int .u8 n) ∧ Br (decide (n ≥ 240)) ((0 ≤ (0 : Int) ∧ (0 : Int) < (s.size : Int)) ∧ R (bOr .i32 (bClr .i32 (IntKind.wrap .i32 (bt s 0)) (bShr .i32 (bShl .i32 (IntKind.wrap .i32 n) 31) 31)) (bAnd .i32 65533 (bShr .i32 (bShl .i32 (IntKind.wrap .i32 n) 31) 31))) 1 w) ((0 ≤ (bShr .u8 n 4) ∧ (bShr .u8 n 4) < (16 : Int)) ∧ ∃ g : Array Value, (loadVar 88 ((⟨5, 0, none⟩ : Addr).add ((bShr .u8 n 4).toNat * 2))).run Tryd.prog w = .ok (.agg g) w ∧ New (.cells #[.int .u8 0, .int .u8 0] 88) w fun accept w0 => RunU Tryd.prog (storeVar 88 accept (.agg g)) w0 fun w01 => Br (decide ((s.size : Int) < (IntKind.wrap .i64 (bAnd .u8 n 7)))) (R 65533 1 w01) ((0 ≤ (1 : Int) ∧ (1 : Int) < (s.size : Int)) ∧ ∃ n1 : Int, w01.cell? (accept.add 0) = some (.int .u8 n1) ∧ ∃ n2 : Int, ((!(decide ((bt s 1) < n1))) = true → w01.cell? (accept.add 1) = some (.int .u8 n2)) ∧ Br ((decide ((bt s 1) < n1)) || (decide (n2 < (bt s 1)))) (R 65533 1 w01) (Br (decide ((IntKind.wrap .i64 (bAnd .u8 n 7)) ≤ 2)) (R (bOr .i32 (bShl .i32 (IntKind.wrap .i32 (bAnd .u8 (bt s 0) 31)) 6) (IntKind.wrap .i32 (bAnd .u8 (bt s 1) 63))) 2 w01) ((0 ≤ (2 : Int) ∧ (2 : Int) < (s.size : Int)) ∧ Br ((decide ((bt s 2) < 128)) || (decide ((191 : Int) < (bt s 2)))) (R 65533 1 w01) (Br (decide ((IntKind.wrap .i64 (bAnd .u8 n 7)) ≤ 3)) (R (bOr .i32 (bOr .i32 (bShl .i32 (IntKind.wrap .i32 (bAnd .u8 (bt s 0) 15)) 12) (bShl .i32 (IntKind.wrap .i32 (bAnd .u8 (bt s 1) 63)) 6)) (IntKind.wrap .i32 (bAnd .u8 (bt s 2) 63))) 3 w01) ((0 ≤ (3 : Int) ∧ (3 : Int) < (s.size : Int)) ∧ Br ((decide ((bt s 3) < 128)) || (decide ((191 : Int) < (bt s 3)))) (R 65533 1 w01) (R (bOr .i32 (bOr .i32 (bOr .i32 (bShl .i32 (IntKind.wrap .i32 (bAnd .u8 (bt s 0) 7)) 18) (bShl .i32 (IntKind.wrap .i32 (bAnd .u8 (bt s 1) 63)) 12)) (bShl .i32 (IntKind.wrap .i32 (bAnd .u8 (bt s 2) 63)) 6)) (IntKind.wrap .i32 (bAnd .u8 (bt s 3) 63))) 4 w01))))))))
theorem Funicode_utf8_decodeRuneInStringSlow.calls (s : ByteArray) (w : World) (R : Int → Int → World → Prop) (h : Funicode_utf8_decodeRuneInStringSlow s w R) : Cunicode_utf8_decodeRuneInStringSlow s w R :=
  calls_of_vc (anOp_ok callable) wide Tryd.func55 [] [.i .i32, .i .i64] [.string s] w R (Eq.mp (show Funicode_utf8_decodeRuneInStringSlow s w R = vcF Tryd.prog G Tryd.f55 [] [.i .i32, .i .i64] [.string s] w R by kernel_rfl) h)
/-- internal/bytealg.Cutover -/
def Finternal_bytealg_Cutover (n : Int) (w : World) (R : Int → World → Prop) : Prop :=
  ((8 : Int) ≠ 0) ∧ R (IntKind.wrap .i64 ((IntKind.wrap .i64 (n + 16)).tdiv 8)) w
theorem Finternal_bytealg_Cutover.calls (n : Int) (w : World) (R : Int → World → Prop) (h : Finternal_bytealg_Cutover n w R) : Cinternal_bytealg_Cutover n w R :=
  calls_of_vc (anOp_ok callable) wide Tryd.func58 [] [.i .i64] [.int .i64 n] w R (Eq.mp (show Finternal_bytealg_Cutover n w R = vcF Tryd.prog G Tryd.f58 [] [.i .i64] [.int .i64 n] w R by kernel_rfl) h)
/-- internal/bytealg.IndexRabinKarp[string] -/
def Finternal_bytealg_IndexRabinKarp_string (s : ByteArray) (sep : ByteArray) (w : World) (R : Int → World → Prop) : Prop :=
  Cinternal_bytealg_hashStr_string sep w fun n n1 w0 => ∃ (I : Int → Int → World → Prop) (μ : Int → Int → World → Nat), I 0 0 w0 ∧ ∀ (h : Int) (i : Int) (w01 : World), I h i w01 → Br (decide (i < (sep.size : Int))) ((0 ≤ i ∧ i < (s.size : Int)) ∧ I (IntKind.wrap .u32 ((IntKind.wrap .u32 (h * 16777619)) + (IntKind.wrap .u32 (bt s i)))) (IntKind.wrap .i64 (i + 1)) w01 ∧ μ (IntKind.wrap .u32 ((IntKind.wrap .u32 (h * 16777619)) + (IntKind.wrap .u32 (bt s i)))) (IntKind.wrap .i64 (i + 1)) w01 < μ h i w01) (((h == n) = true → (0 ≤ (0 : Int) ∧ (0 : Int) ≤ (sep.size : Int) ∧ (sep.size : Int) ≤ (s.size : Int))) ∧ Br ((h == n) && (sEq (s.extract 0 (sep.size : Int).toNat) sep)) (R 0 w01) (∃ (I1 : Int → Int → World → Prop) (μ1 : Int → Int → World → Nat), I1 h (sep.size : Int) w01 ∧ ∀ (h1 : Int) (i1 : Int) (w02 : World), I1 h1 i1 w02 → Br (decide (i1 < (s.size : Int))) ((0 ≤ i1 ∧ i1 < (s.size : Int)) ∧ (0 ≤ (IntKind.wrap .i64 (i1 - (sep.size : Int))) ∧ (IntKind.wrap .i64 (i1 - (sep.size : Int))) < (s.size : Int)) ∧ (((IntKind.wrap .u32 ((IntKind.wrap .u32 ((IntKind.wrap .u32 (h1 * 16777619)) + (IntKind.wrap .u32 (bt s i1)))) - (IntKind.wrap .u32 (n1 * (IntKind.wrap .u32 (bt s (IntKind.wrap .i64 (i1 - (sep.size : Int))))))))) == n) = true → (0 ≤ (IntKind.wrap .i64 ((IntKind.wrap .i64 (i1 + 1)) - (sep.size : Int))) ∧ (IntKind.wrap .i64 ((IntKind.wrap .i64 (i1 + 1)) - (sep.size : Int))) ≤ (IntKind.wrap .i64 (i1 + 1)) ∧ (IntKind.wrap .i64 (i1 + 1)) ≤ (s.size : Int))) ∧ Br (((IntKind.wrap .u32 ((IntKind.wrap .u32 ((IntKind.wrap .u32 (h1 * 16777619)) + (IntKind.wrap .u32 (bt s i1)))) - (IntKind.wrap .u32 (n1 * (IntKind.wrap .u32 (bt s (IntKind.wrap .i64 (i1 - (sep.size : Int))))))))) == n) && (sEq (s.extract (IntKind.wrap .i64 ((IntKind.wrap .i64 (i1 + 1)) - (sep.size : Int))).toNat (IntKind.wrap .i64 (i1 + 1)).toNat) sep)) (R (IntKind.wrap .i64 ((IntKind.wrap .i64 (i1 + 1)) - (sep.size : Int))) w02) (I1 (IntKind.wrap .u32 ((IntKind.wrap .u32 ((IntKind.wrap .u32 (h1 * 16777619)) + (IntKind.wrap .u32 (bt s i1)))) - (IntKind.wrap .u32 (n1 * (IntKind.wrap .u32 (bt s (IntKind.wrap .i64 (i1 - (sep.size : Int))))))))) (IntKind.wrap .i64 (i1 + 1)) w02 ∧ μ1 (IntKind.wrap .u32 ((IntKind.wrap .u32 ((IntKind.wrap .u32 (h1 * 16777619)) + (IntKind.wrap .u32 (bt s i1)))) - (IntKind.wrap .u32 (n1 * (IntKind.wrap .u32 (bt s (IntKind.wrap .i64 (i1 - (sep.size : Int))))))))) (IntKind.wrap .i64 (i1 + 1)) w02 < μ1 h1 i1 w02)) (R (-1) w02)))
theorem Finternal_bytealg_IndexRabinKarp_string.calls (s : ByteArray) (sep : ByteArray) (w : World) (R : Int → World → Prop) (h : Finternal_bytealg_IndexRabinKarp_string s sep w R) : Cinternal_bytealg_IndexRabinKarp_string s sep w R :=
  calls_of_vc (anOp_ok callable) wide Tryd.func59 [(15, ⟨[(8, .i .u32), (9, .i .i64)], [0, 1, 5, 6, 7]⟩), (33, ⟨[(8, .i .u32), (10, .i .i64)], [0, 1, 5, 6, 7]⟩)] [.i .i64] [.string s, .string sep] w R (Eq.mp (show Finternal_bytealg_IndexRabinKarp_string s sep w R = vcF Tryd.prog G Tryd.f59 [(15, ⟨[(8, .i .u32), (9, .i .i64)], [0, 1, 5, 6, 7]⟩), (33, ⟨[(8, .i .u32), (10, .i .i64)], [0, 1, 5, 6, 7]⟩)] [.i .i64] [.string s, .string sep] w R by kernel_rfl) h)
/-- errors.New -/
def Ferrors_New (text : ByteArray) (w : World) (R : Value → World → Prop) : Prop :=
  New (.cells #[.string text] 95) w fun a w0 => ∃ v : Value, (Instr.makeInterface 93 (.pointer (some a))).run Tryd.prog w0 = .ok v w0 ∧ R v w0
theorem Ferrors_New.calls (text : ByteArray) (w : World) (R : Value → World → Prop) (h : Ferrors_New text w R) : Cerrors_New text w R :=
  calls_of_vc (anOp_ok callable) wide Tryd.func61 [] [.v] [.string text] w R (Eq.mp (show Ferrors_New text w R = vcF Tryd.prog G Tryd.f61 [] [.v] [.string text] w R by kernel_rfl) h)
/-- strconv.Itoa -/
def Fstrconv_Itoa (i : Int) (w : World) (R : ByteArray → World → Prop) : Prop :=
  Cinternal_strconv_Itoa i w fun s w0 => R s w0
theorem Fstrconv_Itoa.calls (i : Int) (w : World) (R : ByteArray → World → Prop) (h : Fstrconv_Itoa i w R) : Cstrconv_Itoa i w R :=
  calls_of_vc (anOp_ok callable) wide Tryd.func62 [] [.s] [.int .i64 i] w R (Eq.mp (show Fstrconv_Itoa i w R = vcF Tryd.prog G Tryd.f62 [] [.s] [.int .i64 i] w R by kernel_rfl) h)
/-- math/bits.TrailingZeros32 -/
def Fmath_bits_TrailingZeros32 (x : Int) (w : World) (R : Int → World → Prop) : Prop :=
  Br (x == 0) (R 32 w) ((0 ≤ (bShr .u32 (IntKind.wrap .u32 ((bAnd .u32 x (IntKind.wrap .u32 (0 - x))) * 125613361)) 27) ∧ (bShr .u32 (IntKind.wrap .u32 ((bAnd .u32 x (IntKind.wrap .u32 (0 - x))) * 125613361)) 27) < (32 : Int)) ∧ ∃ n : Int, w.cell? ((⟨6, 0, none⟩ : Addr).add ((bShr .u32 (IntKind.wrap .u32 ((bAnd .u32 x (IntKind.wrap .u32 (0 - x))) * 125613361)) 27).toNat * 1)) = some (.int .u8 n) ∧ R (IntKind.wrap .i64 n) w)
theorem Fmath_bits_TrailingZeros32.calls (x : Int) (w : World) (R : Int → World → Prop) (h : Fmath_bits_TrailingZeros32 x w R) : Cmath_bits_TrailingZeros32 x w R :=
  calls_of_vc (anOp_ok callable) wide Tryd.func63 [] [.i .i64] [.int .u32 x] w R (Eq.mp (show Fmath_bits_TrailingZeros32 x w R = vcF Tryd.prog G Tryd.f63 [] [.i .i64] [.int .u32 x] w R by kernel_rfl) h)
/-- math/bits.TrailingZeros64 -/
def Fmath_bits_TrailingZeros64 (x : Int) (w : World) (R : Int → World → Prop) : Prop :=
  Br (x == 0) (R 64 w) ((0 ≤ (bShr .u64 (IntKind.wrap .u64 ((bAnd .u64 x (IntKind.wrap .u64 (0 - x))) * 285870213051353865)) 58) ∧ (bShr .u64 (IntKind.wrap .u64 ((bAnd .u64 x (IntKind.wrap .u64 (0 - x))) * 285870213051353865)) 58) < (64 : Int)) ∧ ∃ n : Int, w.cell? ((⟨7, 0, none⟩ : Addr).add ((bShr .u64 (IntKind.wrap .u64 ((bAnd .u64 x (IntKind.wrap .u64 (0 - x))) * 285870213051353865)) 58).toNat * 1)) = some (.int .u8 n) ∧ R (IntKind.wrap .i64 n) w)
theorem Fmath_bits_TrailingZeros64.calls (x : Int) (w : World) (R : Int → World → Prop) (h : Fmath_bits_TrailingZeros64 x w R) : Cmath_bits_TrailingZeros64 x w R :=
  calls_of_vc (anOp_ok callable) wide Tryd.func64 [] [.i .i64] [.int .u64 x] w R (Eq.mp (show Fmath_bits_TrailingZeros64 x w R = vcF Tryd.prog G Tryd.f64 [] [.i .i64] [.int .u64 x] w R by kernel_rfl) h)
/-- internal/bytealg.hashStr[string] -/
def Finternal_bytealg_hashStr_string (sep : ByteArray) (w : World) (R : Int → Int → World → Prop) : Prop :=
  ∃ (I : Int → Int → World → Prop) (μ : Int → Int → World → Nat), I 0 0 w ∧ ∀ (hash : Int) (i : Int) (w0 : World), I hash i w0 → Br (decide (i < (sep.size : Int))) ((0 ≤ i ∧ i < (sep.size : Int)) ∧ I (IntKind.wrap .u32 ((IntKind.wrap .u32 (hash * 16777619)) + (IntKind.wrap .u32 (bt sep i)))) (IntKind.wrap .i64 (i + 1)) w0 ∧ μ (IntKind.wrap .u32 ((IntKind.wrap .u32 (hash * 16777619)) + (IntKind.wrap .u32 (bt sep i)))) (IntKind.wrap .i64 (i + 1)) w0 < μ hash i w0) (∃ (I1 : Int → Int → Int → World → Prop) (μ1 : Int → Int → Int → World → Nat), I1 1 16777619 (sep.size : Int) w0 ∧ ∀ (pow : Int) (sq : Int) (i1 : Int) (w01 : World), I1 pow sq i1 w01 → Br (decide (i1 > 0)) (letX (fun (pow1 : Int) (sq1 : Int) (w02 : World) => I1 pow1 sq1 (bShr .i64 i1 1) w02 ∧ μ1 pow1 sq1 (bShr .i64 i1 1) w02 < μ1 pow sq i1 w01) fun J_ => Br ((bAnd .i64 i1 1) != 0) (J_ (IntKind.wrap .u32 (pow * sq)) (IntKind.wrap .u32 (sq * sq)) w01) (J_ pow (IntKind.wrap .u32 (sq * sq)) w01)) (R hash pow w01))
theorem Finternal_bytealg_hashStr_string.calls (sep : ByteArray) (w : World) (R : Int → Int → World → Prop) (h : Finternal_bytealg_hashStr_string sep w R) : Cinternal_bytealg_hashStr_string sep w R :=
  calls_of_vc (anOp_ok callable) wide Tryd.func66 [(9, ⟨[(4, .i .u32), (5, .i .i64)], [0]⟩), (24, ⟨[(6, .i .u32), (7, .i .u32), (8, .i .i64)], [4]⟩), (11, ⟨[(6, .i .u32), (7, .i .u32)], [4, 8]⟩)] [.i .u32, .i .u32] [.string sep] w R (Eq.mp (show Finternal_bytealg_hashStr_string sep w R = vcF Tryd.prog G Tryd.f66 [(9, ⟨[(4, .i .u32), (5, .i .i64)], [0]⟩), (24, ⟨[(6, .i .u32), (7, .i .u32), (8, .i .i64)], [4]⟩), (11, ⟨[(6, .i .u32), (7, .i .u32)], [4, 8]⟩)] [.i .u32, .i .u32] [.string sep] w R by kernel_rfl) h)
/-- internal/strconv.Itoa -/
def Finternal_strconv_Itoa (i : Int) (w : World) (R : ByteArray → World → Prop) : Prop :=
  Cinternal_strconv_FormatInt i 10 w fun s w0 => R s w0
theorem Finternal_strconv_Itoa.calls (i : Int) (w : World) (R : ByteArray → World → Prop) (h : Finternal_strconv_Itoa i w R) : Cinternal_strconv_Itoa i w R :=
  calls_of_vc (anOp_ok callable) wide Tryd.func67 [] [.s] [.int .i64 i] w R (Eq.mp (show Finternal_strconv_Itoa i w R = vcF Tryd.prog G Tryd.f67 [] [.s] [.int .i64 i] w R by kernel_rfl) h)
/-- internal/strconv.FormatInt -/
def Finternal_strconv_FormatInt (i : Int) (base : Int) (w : World) (R : ByteArray → World → Prop) : Prop :=
  Br (base == 10) (Br ((decide ((0 : Int) ≤ i)) && (decide (i < 100))) (Cinternal_strconv_small i w fun s w0 => R s w0) (New (.cells #[.int .u8 0, .int .u8 0, .int .u8 0, .int .u8 0, .int .u8 0, .int .u8 0, .int .u8 0, .int .u8 0, .int .u8 0, .int .u8 0, .int .u8 0, .int .u8 0, .int .u8 0, .int .u8 0, .int .u8 0, .int .u8 0, .int .u8 0, .int .u8 0, .int .u8 0, .int .u8 0, .int .u8 0, .int .u8 0, .int .u8 0, .int .u8 0] 59) w fun a w01 => letX (fun (u : Int) (w02 : World) => Cinternal_strconv_numDigits u w02 fun n w03 => (0 ≤ (1 : Int) ∧ (1 : Int) ≤ (IntKind.wrap .i64 (1 + n)) ∧ (IntKind.wrap .i64 (1 + n)) ≤ (24 : Int)) ∧ Cinternal_strconv_formatBase10 ⟨(some (if 24 = 1 then a else a.add (1 * 1))), ((IntKind.wrap .i64 (1 + n)).toNat - 1), (24 - 1)⟩ u w03 fun w04 => Br (decide (i < 0)) ((0 ≤ (0 : Int) ∧ (0 : Int) < (24 : Int)) ∧ Put (a.add ((0 : Int).toNat * 1)) (.int .u8 45) w04 fun w05 => (0 ≤ (0 : Int) ∧ (0 : Int) ≤ (IntKind.wrap .i64 (1 + n)) ∧ (IntKind.wrap .i64 (1 + n)) ≤ (24 : Int)) ∧ ∃ s1 : ByteArray, (convert 39 9 (.slice (some (if 24 = 0 then a else a.add (0 * 1))) ((IntKind.wrap .i64 (1 + n)).toNat - 0) (24 - 0))).run Tryd.prog w05 = .ok (.string s1) w05 ∧ R s1 w05) ((0 ≤ (1 : Int) ∧ (1 : Int) ≤ (IntKind.wrap .i64 (1 + n)) ∧ (IntKind.wrap .i64 (1 + n)) ≤ (24 : Int)) ∧ ∃ s2 : ByteArray, (convert 39 9 (.slice (some (if 24 = 1 then a else a.add (1 * 1))) ((IntKind.wrap .i64 (1 + n)).toNat - 1) (24 - 1))).run Tryd.prog w04 = .ok (.string s2) w04 ∧ R s2 w04)) fun J_ => Br (decide (i < 0)) (J_ (IntKind.wrap .u64 (0 - (IntKind.wrap .u64 i))) w01) (J_ (IntKind.wrap .u64 i) w01))) (Cinternal_strconv_formatBits ⟨none, 0, 0⟩ (IntKind.wrap .u64 i) base (decide (i < 0)) false w fun xs s3 w06 => R s3 w06)
theorem Finternal_strconv_FormatInt.calls (i : Int) (base : Int) (w : World) (R : ByteArray → World → Prop) (h : Finternal_strconv_FormatInt i base w R) : Cinternal_strconv_FormatInt i base w R :=
  calls_of_vc (anOp_ok callable) wide Tryd.func68 [(22, ⟨[(6, .i .u64)], [0, 5]⟩)] [.s] [.int .i64 i, .int .i64 base] w R (Eq.mp (show Finternal_strconv_FormatInt i base w R = vcF Tryd.prog G Tryd.f68 [(22, ⟨[(6, .i .u64)], [0, 5]⟩)] [.s] [.int .i64 i, .int .i64 base] w R by kernel_rfl) h)
end Go.Proofs.YtiokflecflbopaaDoor

/- Layer 3: files in a map, and a change applied to them. -/
namespace Go.Proofs.YtiokflecflbopaaDoor
open Go CF

abbrev Files := ByteArray → Option L8
def wr (f : L8) (o : Nat) (p : L8) : L8 :=
  (f ++ List.replicate (o + p.length - f.length) 0).take o ++ p ++ (f ++ List.replicate (o + p.length - f.length) 0).drop (o + p.length)
def setF (F : Files) (s : ByteArray) (v : Option L8) : Files := fun t => if t = s then v else F t
def applyWr (F : Files) (s : ByteArray) (o : Nat) (p : L8) : Files := setF F s (some (wr ((F s).getD []) o p))
theorem wr_len (f : L8) (o : Nat) (p : L8) : (wr f o p).length = max f.length (o + p.length) := by
  unfold wr
  simp only [List.length_append, List.length_take, List.length_drop, List.length_replicate]
  omega
theorem mn_nat (a b : Nat) : mn (a : Int) (b : Int) = ((min a b : Nat) : Int) := by
  unfold mn; split <;> omega
/-- a file's bytes, as they lie in the map -/
def FileAt (w : World) (v : Option Value) : Option L8 → Prop
  | none => v = none
  | some l => ∃ s : Sl, v = some (.slice s.A s.n s.c) ∧ Own w 0 t_uint8 1 s (bv l) ∧ l.length ≤ 1048576
def IsF (w : World) (mb : Nat) (F : Files) : Prop := ∃ m, SMap w mb m ∧ ∀ s, FileAt w (m s) (F s)
theorem own_heap {w : World} {base : Nat} {e : TypeId} {z : Nat} {s : Sl} {vs : List Value} (h : Own w base e z s vs) {g : Nat} (hg : s.blk = some g) : ∃ cur, w.heap[g]? = some (.cells cur e (0, 0)) := by
  rcases h.2 with ⟨h2, _⟩ | ⟨g', cap, cur, hv, _, hh, _⟩
  · injection h2 with hA; simp [Sl.blk, hA] at hg
  · injection hv with hA
    simp [Sl.blk, hA] at hg
    subst hg
    exact ⟨cur, hh⟩
/-- these blocks hold no bytes -/
def NoBytes (w : World) (S : Nat → Prop) : Prop := ∀ g cur, w.heap[g]? = some (.cells cur t_uint8 (0, 0)) → ¬ S g
theorem FileAt.keep {S : Nat → Prop} {w w' : World} {v : Option Value} {l : Option L8} (h : FileAt w v l) (k : Keep S w w') (hn : NoBytes w S) : FileAt w' v l := by
  cases l with
  | none => exact h
  | some l =>
    obtain ⟨s, h1, h2, h3⟩ := h
    refine ⟨s, h1, h2.keep k fun b hb => ?_, h3⟩
    obtain ⟨cur, hc⟩ := own_heap h2 hb
    exact hn b cur hc
theorem IsF.keep {S : Nat → Prop} {w w' : World} {mb : Nat} {F : Files} (h : IsF w mb F) (k : Keep S w w') (hm : ¬ S mb) (hn : NoBytes w S) : IsF w' mb F := by
  obtain ⟨m, h1, h2⟩ := h
  exact ⟨m, h1.keep k hm, fun s => (h2 s).keep k hn⟩
theorem nobytes_none (w : World) : NoBytes w fun _ => False := fun _ _ _ q => q
theorem IsF.grow {w w' : World} {mb : Nat} {F : Files} (h : IsF w mb F) (k : Grow w w') : IsF w' mb F := h.keep k (fun q => q) (nobytes_none w)
theorem isF_new (w : World) : IsF (w.alloc (.map #[] 0)) w.heap.size fun _ => none := ⟨_, smap_new w, fun _ => rfl⟩
theorem isF_lt {w : World} {mb : Nat} {F : Files} (h : IsF w mb F) : mb < w.heap.size := by
  obtain ⟨m, ⟨es, c, hb, _⟩, _⟩ := h
  exact lt_of_heap hb
theorem isF_map {w : World} {mb : Nat} {F : Files} (h : IsF w mb F) (cur : Array Value) (t : TypeId) (fr : Nat × Nat) : w.heap[mb]? ≠ some (.cells cur t fr) := by
  obtain ⟨m, ⟨es, c, hb, _⟩, _⟩ := h
  rw [hb]; intro q; cases q
theorem nobytes_map {w : World} {mb : Nat} {F : Files} (h : IsF w mb F) : NoBytes w fun k => k = mb := fun g cur hg q => by
  subst q; exact isF_map h _ _ _ hg
theorem zero_rule {P : Program} {w : World} {e : TypeId} {zv : Value} {z bytes : Nat} (hinfo : (P.info? e).map (fun i => (i.zero, i.size, i.bytes)) = some (some zv, z, bytes)) : (zeroValue e).run P w = .ok zv w := by
  obtain ⟨i, hi, hzz⟩ := Option.map_eq_some_iff.1 hinfo
  simp only [Prod.mk.injEq] at hzz
  simp [zeroValue, typeInfo, hi, hzz.1]
theorem bv_rep (j : Nat) : bv (List.replicate j 0) ++ [.int .u8 0] = bv (List.replicate (j + 1) 0) := by
  rw [List.replicate_succ', bv_append]; rfl
end Go.Proofs.YtiokflecflbopaaDoor

/- Layer 3: the world's calls, where no call fails. -/
namespace Go.Proofs.YtiokflecflbopaaDoor
open Go CF

/-- what waits -/
structure Cg where
  kind : Int
  name : ByteArray
  to : ByteArray
  off : Nat
  p : L8
def cgv (x : Cg × Sl) : List Value := [.int .u8 x.1.kind, .string x.1.name, .string x.1.to, .int .i64 (x.1.off : Int), .slice x.2.A x.2.n x.2.c]
theorem cgv_len (x : Cg × Sl) : (cgv x).length = 5 := rfl
/-- a world as it is meant: no call fails -/
structure Wst where
  seen : Files
  dur : Files
  waits : List Cg
  ops : Nat
def wcells (mb md : Nat) (ws : Sl) (ops : Nat) : Array Value := #[.map (some mb), .map (some md), .slice ws.A ws.n ws.c, .int .i64 (ops : Int), .map none, .int .i64 (-1), .bool false]
theorem checkKey_int {P : Program} {w : World} {k : TypeId} {q : IntKind} (ek : Bool) (n : Nat) (hk : P.underlying k = some (.int q)) (z : Int) : (Instr.checkKey ek (n + 1) k (.int q z)).run P w = .ok () w := by
  unfold Instr.checkKey
  simp [run_underlying hk]
end Go.Proofs.YtiokflecflbopaaDoor

/- Layer 3: changes, writes. -/
namespace Go.Proofs.YtiokflecflbopaaDoor
open Go CF

theorem blk_cells {w : World} {b : Nat} {l : List Value} {t : TypeId} (h : Blk w b l.toArray t) : Cells w ⟨b, 0, none⟩ l := fun j v hj => by
  rw [add0, h.cell]; simpa using hj
theorem blk_type {w : World} {b : Nat} {cs cs' : Array Value} {t t' : TypeId} {f : Nat × Nat} (h : Blk w b cs t) (h' : w.heap[b]? = some (.cells cs' t' f)) : t = t' := by
  rw [h] at h'
  injection h' with h'
  injection h'
theorem own_ne {w : World} {base : Nat} {e : TypeId} {z : Nat} {s : Sl} {vs : List Value} (h : Own w base e z s vs) {b : Nat} {cs : Array Value} {t : TypeId} (hb : Blk w b cs t) (hne : t ≠ e) : s.blk ≠ some b := fun q => by
  obtain ⟨cur, hc⟩ := own_heap h q
  exact hne (blk_type hb hc)
section
variable {w w' : World} {pw : Nat} {D : Nat → Prop} {st : Wst} {mb md : Nat} {ws : Sl} {cs : List (Cg × Sl)}
theorem nb_set {S : Nat → Prop} (h : NoBytes w D) (hl : ∀ k, D k → k < w.heap.size) (k : Keep S w w') (hs : ∀ g cur, S g → w'.heap[g]? ≠ some (.cells cur t_uint8 (0, 0))) : NoBytes w' D := fun g cur hg q => by
  by_cases e : S g
  · exact hs g cur e hg
  · exact h g cur (by rw [← k.block g (hl g q) e]; exact hg) q
end
theorem cgv_flat (l : List (Cg × Sl)) : (l.flatMap cgv).length = l.length * 5 := flat_length cgv_len l
end Go.Proofs.YtiokflecflbopaaDoor

/- Layer 3: a world whose rows are old; what reads leave of it. -/
namespace Go.Proofs.YtiokflecflbopaaDoor
open Go CF

/-- what of these blocks holds bytes is new -/
def NoBytesB (w : World) (S : Nat → Prop) (B : Nat) : Prop := ∀ g cur, w.heap[g]? = some (.cells cur t_uint8 (0, 0)) → S g → B ≤ g
theorem NoBytes.b {w : World} {S : Nat → Prop} (h : NoBytes w S) (B : Nat) : NoBytesB w S B := fun g cur hg q => absurd q (h g cur hg)
def FileAtB (w : World) (B : Nat) (v : Option Value) (l : Option L8) : Prop := FileAt w v l ∧ ∀ s : Sl, v = some (.slice s.A s.n s.c) → ∀ b, s.blk = some b → b < B
theorem FileAtB.keep {S : Nat → Prop} {w w' : World} {B : Nat} {v : Option Value} {l : Option L8} (h : FileAtB w B v l) (k : Keep S w w') (hn : NoBytesB w S B) : FileAtB w' B v l := by
  refine ⟨?_, h.2⟩
  cases l with
  | none => exact h.1
  | some l =>
    obtain ⟨⟨s, h1, h2, h3⟩, hB⟩ := h
    refine ⟨s, h1, h2.keep k fun b hb q => ?_, h3⟩
    obtain ⟨cur, hc⟩ := own_heap h2 hb
    have := hn b cur hc q
    have := hB s h1 b hb
    omega
theorem FileAt.toB {w : World} {v : Option Value} {l : Option L8} (h : FileAt w v l) : FileAtB w w.heap.size v l := by
  refine ⟨h, fun s hs b hb => ?_⟩
  cases l with
  | none => rw [show v = none from h] at hs; cases hs
  | some l =>
    obtain ⟨s', h1, h2, _⟩ := h
    rw [h1] at hs
    injection hs with hs
    injection hs with hA hn hc
    have : s'.blk = some b := by rw [← hb]; simp [Sl.blk, hA]
    obtain ⟨cur, hc⟩ := own_heap h2 this
    exact lt_of_heap hc
def IsFB (w : World) (mb : Nat) (F : Files) (B : Nat) : Prop := ∃ m, SMap w mb m ∧ ∀ s, FileAtB w B (m s) (F s)
theorem IsFB.keep {S : Nat → Prop} {w w' : World} {mb B : Nat} {F : Files} (h : IsFB w mb F B) (k : Keep S w w') (hm : ¬ S mb) (hn : NoBytesB w S B) : IsFB w' mb F B := by
  obtain ⟨m, h1, h2⟩ := h
  exact ⟨m, h1.keep k hm, fun s => (h2 s).keep k hn⟩
theorem IsFB.isF {w : World} {mb B : Nat} {F : Files} (h : IsFB w mb F B) : IsF w mb F := by
  obtain ⟨m, h1, h2⟩ := h
  exact ⟨m, h1, fun s => (h2 s).1⟩
theorem IsF.toB {w : World} {mb : Nat} {F : Files} (h : IsF w mb F) : IsFB w mb F w.heap.size := by
  obtain ⟨m, h1, h2⟩ := h
  exact ⟨m, h1, fun s => (h2 s).toB⟩
section
variable {w u v : World} {pw B : Nat} {D S : Nat → Prop} {st : Wst} {k : Nat}
end
end Go.Proofs.YtiokflecflbopaaDoor

/- Layer 3: writes, reads. -/
namespace Go.Proofs.YtiokflecflbopaaDoor
open Go CF

theorem bv_one' (l : L8) : ∀ u ∈ bv l, u.oneCell' = true := by
  intro u hu
  simp only [bv, List.mem_map] at hu
  obtain ⟨p, _, rfl⟩ := hu; rfl
end Go.Proofs.YtiokflecflbopaaDoor

/- Arguments, opened: rows of things, plain structs. -/
namespace Go.Proofs.YtiokflecflbopaaDoor.CF
open Go Go.RowKit

section
variable {H : Type} {enc : TypeId × Value → H} {P : Program} {w : World} {base : Nat} {spare : Nat → Bool} {held : Bool}
/-- its weights are within reach -/
def Light (P : Program) (t : TypeId) (d : DataW H) : Prop := ∀ m ∈ d.weights P t, m ≤ reachBytes
/-- what a reading of a type's cells tells -/
def Opens (enc : TypeId × Value → H) (P : Program) (w : World) (base : Nat) (spare : Nat → Bool) (held : Bool) (t : TypeId) (Φ : List Value → Prop) : Prop :=
  ∀ n cs x, DataW.trod enc P w base spare held n t cs = some x → Light P t x.1 → Φ cs
theorem mem_weightsAll {e : TypeId} : ∀ {ds : List (DataW H)} {d : DataW H}, d ∈ ds → ∀ m ∈ d.weights P e, m ∈ DataW.weightsAll P e ds
  | d0 :: ds, d, hd, m, hm => by
    simp only [DataW.weightsAll, List.mem_append]
    rcases List.mem_cons.1 hd with rfl | h
    · exact .inl hm
    · exact .inr (mem_weightsAll h m hm)
theorem cells_of {a : Addr} {n : Nat} {vs : List Value} (h : w.cells? base a n = some vs) : vs.length = n ∧ Cells w a vs := by
  unfold World.cells? at h
  split at h
  · have hl := mapM_some_length h
    simp at hl
    refine ⟨hl, fun j v hj => ?_⟩
    have hjn : j < n := by have := (List.getElem?_eq_some_iff.1 hj).1; omega
    have := mapM_some_get h j j (by simp [hjn])
    rw [this, hj]
  · cases h
theorem opens_bool {t : TypeId} (ht : P.underlying t = some .bool) : Opens enc P w base spare held t fun cs => ∃ b, cs = [.bool b] := fun _ _ _ h _ => by
  obtain ⟨b, hb, _⟩ := DataW.trod_bool ht h; exact ⟨b, hb⟩
theorem opens_int {t : TypeId} {k : IntKind} (ht : P.underlying t = some (.int k)) : Opens enc P w base spare held t fun cs => ∃ n, cs = [.int k n] ∧ (Lit.int k n).wf = true := fun _ _ _ h _ => by
  obtain ⟨n, hn, _, hw⟩ := DataW.trod_int ht h; exact ⟨n, hn, hw⟩
theorem opens_str {t : TypeId} (ht : P.underlying t = some .string) : Opens enc P w base spare held t fun cs => ∃ l : L8, cs = [.string (str l)] ∧ l.length ≤ 140737488351232 := fun _ _ x h hl => by
  obtain ⟨s, hs, hx, _⟩ := DataW.trod_string ht h
  refine ⟨ls s, by rw [hs, str_ls], ?_⟩
  have := hl (ls s).length (by rw [hx]; simp [DataW.weights, ls])
  exact this
theorem opens_u8 {t : TypeId} (ht : P.underlying t = some (.int .u8)) : Opens enc P w base spare held t fun cs => ∃ b : UInt8, cs = [.int .u8 (b.toNat : Int)] := fun n cs x h hl => by
  obtain ⟨z, hz, hw⟩ := opens_int ht n cs x h hl
  simp [Lit.wf, IntKind.min, IntKind.max, IntKind.signed, IntKind.bits] at hw
  refine ⟨UInt8.ofNat z.toNat, ?_⟩
  rw [hz]
  congr 2
  rw [UInt8.toNat_ofNat']
  omega
/-- fields, one by one -/
theorem opens_fields {t : TypeId} {fs : Array Field} (ht : P.underlying t = some (.struct fs)) {Φ : List (List Value → Prop)}
    (hl : fs.size = Φ.length) (hf : ∀ (i : Nat) (f : Field) (φ : List Value → Prop), fs[i]? = some f → Φ[i]? = some φ → Opens enc P w base spare held f.type φ) :
    Opens enc P w base spare held t fun cs => cs.length = P.cellsOf t ∧ ∀ (i : Nat) (f : Field) (φ : List Value → Prop), fs[i]? = some f → Φ[i]? = some φ → φ ((cs.drop f.offset).take (P.cellsOf f.type)) := fun n cs x h hw => by
  obtain ⟨xs, n', _, hx, hcl, hxl, heach⟩ := DataW.trod_struct ht h
  refine ⟨hcl, fun i f φ hfi hφ => ?_⟩
  have hi : i < xs.length := by rw [hxl]; exact (Array.getElem?_eq_some_iff.1 hfi).1
  have he := heach i f hfi
  rw [List.getElem?_eq_getElem hi] at he
  refine hf i f φ hfi hφ n' _ _ he fun m hm => hw m ?_
  rw [hx]
  show m ∈ DataW.weights P t (.agg (xs.map (·.1)))
  rw [DataW.weights, ht]
  refine DataW.weights_mem_each (j := i) (t := f.type) (d := xs[i].1) ?_ ?_ m hm
  · rw [List.getElem?_map, ← Array.getElem?_toList] at *; rw [hfi]; rfl
  · rw [List.getElem?_map, List.getElem?_eq_getElem hi]; rfl
theorem opens_array {t e : TypeId} {k : Nat} (ht : P.underlying t = some (.array k e)) {φ : List Value → Prop} (hf : Opens enc P w base spare held e φ) :
    Opens enc P w base spare held t fun cs => cs.length = P.cellsOf t ∧ ∀ i, i < k → φ ((cs.drop (i * P.cellsOf e)).take (P.cellsOf e)) := fun n cs x h hw => by
  obtain ⟨xs, n', _, hx, hcl, hxl, heach⟩ := DataW.trod_array ht h
  refine ⟨hcl, fun i hi => ?_⟩
  have hi' : i < xs.length := by omega
  have he := heach i hi
  rw [List.getElem?_eq_getElem hi'] at he
  refine hf n' _ _ he fun m hm => hw m ?_
  rw [hx]
  show m ∈ DataW.weights P t (.agg (xs.map (·.1)))
  rw [DataW.weights, ht]
  exact mem_weightsAll (List.mem_map.2 ⟨xs[i], List.getElem_mem hi', rfl⟩) m hm
theorem choose_list {α : Type} {Q : Nat → α → Prop} : ∀ (n : Nat), (∀ i, i < n → ∃ a, Q i a) → ∃ al : List α, al.length = n ∧ ∀ i (h : i < al.length), Q i al[i]
  | 0, _ => ⟨[], rfl, fun i h => absurd h (Nat.not_lt_zero i)⟩
  | n + 1, h => by
    obtain ⟨al, hl, ha⟩ := choose_list n fun i hi => h i (by omega)
    obtain ⟨a, hq⟩ := h n (by omega)
    refine ⟨al ++ [a], by simp [hl], fun i hi => ?_⟩
    rcases Nat.lt_or_ge i al.length with q | q
    · rw [List.getElem_append_left q]; exact ha i q
    · have : i = n := by simp at hi; omega
      subst this
      rw [List.getElem_append_right q]
      simpa [hl] using hq
/-- a slice of things that a list's elements tell -/
theorem opens_slice {α : Type} {t e : TypeId} {z bytes : Nat} {f : α → List Value} {Q : α → Prop} (ht : P.underlying t = some (.slice e)) (hz : P.cellsOf e = z) (hb : P.bytesOf e = bytes) (hb1 : 1 ≤ bytes)
    (hf : ∀ a, (f a).length = z) (hel : Opens enc P w base spare held e fun cs => ∃ a, cs = f a ∧ Q a) :
    Opens enc P w base spare held t fun cs => ∃ s : Sl, cs = [.slice s.A s.n s.c] ∧ ∃ al : List α, Rd w z s (al.flatMap f) ∧ al.length = s.n ∧ (∀ a ∈ al, Q a) ∧ s.n * bytes ≤ 140737488351232 := fun fuel cs x h hw => by
  rcases DataW.trod_slice ht h with ⟨hcs, _⟩ | ⟨a, len, cap, elems, rest, n, _, hcs, hx, _, hlc, hmc, hlen, heach, _, _⟩
  · exact ⟨⟨none, 0, 0⟩, hcs, [], by simpa using rd_nil w z, rfl, by simp, by simp⟩
  · have hwt : (elems.length + rest.length) * bytes ≤ 140737488351232 := by
      have := hw ((elems.length + rest.length) * bytes) (by rw [hx]; simp [DataW.weights, ht, hb])
      exact this
    have hsz : len * bytes ≤ 140737488351232 := by
      refine Nat.le_trans (Nat.mul_le_mul_right _ ?_) hwt
      omega
    have hln : len ≤ 140737488351232 := by
      have : len * 1 ≤ len * bytes := Nat.mul_le_mul_left _ hb1
      omega
    obtain ⟨al, hal, has⟩ := choose_list (α := α) (Q := fun i b => Q b ∧ Cells w (a.add (i * z)) (f b)) len fun i hi => by
      have hi' : i < elems.length := by omega
      have he := heach i hi
      rw [List.getElem?_eq_getElem hi', hz] at he
      obtain ⟨vs, hvs, hr⟩ := Option.bind_eq_some_iff.1 he
      obtain ⟨hvl, hvc⟩ := cells_of hvs
      obtain ⟨b, hb1, hb2⟩ := hel n vs _ hr fun m hm => hw m (by
        rw [hx]
        simp only [DataW.weights, ht, List.mem_cons, List.mem_append]
        exact .inr (.inl (mem_weightsAll (List.mem_map.2 ⟨elems[i], List.getElem_mem hi', rfl⟩) m hm)))
      exact ⟨b, hb2, hb1 ▸ hvc⟩
    refine ⟨⟨some a, len, cap⟩, hcs, al, ⟨by rw [flat_length hf, hal], hlc, by show len ≤ _; omega, fun _ => ⟨a, rfl, fun j v hj => ?_⟩⟩, hal, fun b hbm => ?_, hsz⟩
    · have hz0 : 0 < z := by
        rcases Nat.eq_zero_or_pos z with e0 | e0
        · exfalso
          have := (List.getElem?_eq_some_iff.1 hj).1
          rw [flat_length hf, e0] at this
          omega
        · exact e0
      have hjl : j < al.length * z := by rw [← flat_length hf]; exact (List.getElem?_eq_some_iff.1 hj).1
      have hq : j / z < al.length := Nat.div_lt_of_lt_mul (by rw [Nat.mul_comm]; exact hjl)
      have hfe := flat_elem hf hq
      have hjz : j / z * z + j % z = j := by rw [Nat.mul_comm]; exact Nat.div_add_mod j z
      have hcell := (has (j / z) hq).2 (j % z) v (by
        rw [← hfe, List.getElem?_take, if_pos (Nat.mod_lt _ hz0), List.getElem?_drop, hjz]; exact hj)
      rw [addr_add, hjz] at hcell
      exact hcell
    · obtain ⟨i, hi, rfl⟩ := List.getElem_of_mem hbm
      exact (has i hi).1
theorem Opens.mono {t : TypeId} {Φ Ψ : List Value → Prop} (h : Opens enc P w base spare held t Φ) (hi : ∀ cs, Φ cs → Ψ cs) : Opens enc P w base spare held t Ψ := fun n cs x ht hl => hi cs (h n cs x ht hl)
theorem flat_bv (l : L8) : l.flatMap (fun b => [Value.int .u8 (b.toNat : Int)]) = bv l := by
  unfold bv
  induction l with
  | nil => rfl
  | cons a r ih => simp only [List.flatMap_cons, ih, List.map_cons, List.singleton_append]
theorem opens_bytes {t e : TypeId} (ht : P.underlying t = some (.slice e)) (he : P.underlying e = some (.int .u8)) (hz : P.cellsOf e = 1) (hb : P.bytesOf e = 1) :
    Opens enc P w base spare held t fun cs => ∃ s : Sl, cs = [.slice s.A s.n s.c] ∧ ∃ l : L8, Rd w 1 s (bv l) ∧ l.length = s.n ∧ s.n ≤ 140737488351232 := by
  refine (opens_slice (f := fun b : UInt8 => [Value.int .u8 (b.toNat : Int)]) (Q := fun _ => True) ht hz hb (Nat.le_refl _) (fun _ => rfl) ((opens_u8 he).mono fun cs ⟨b, h⟩ => ⟨b, h, trivial⟩)).mono ?_
  rintro cs ⟨s, h1, al, h2, h3, _, h4⟩
  exact ⟨s, h1, al, by rw [← flat_bv]; exact h2, h3, by omega⟩
/-- a plain cell within reach -/
def okV : Value → Prop
  | .int k n => (Lit.int k n).wf = true
  | .string s => s.size ≤ 140737488351232
  | _ => True
theorem sizeT_cells (t : TypeId) : P.cellsOf t = sizeT P t := by
  unfold Program.cellsOf sizeT
  cases P.info? t <;> rfl
theorem FitL.join : ∀ {ks ls : List Kd} {a b : List Value}, FitL ks a → FitL ls b → FitL (ks ++ ls) (a ++ b)
  | [], _, [], _, _, h => h
  | _ :: _, _, _ :: _, _, h, h' => ⟨h.1, FitL.join h.2 h'⟩
  | [], _, _ :: _, _, h, _ => h.elim
  | _ :: _, _, [], _, h, _ => h.elim
theorem flatFs_opens {rec : TypeId → Option (List Kd)} {cs : List Value} : ∀ (l : List Field) (off : Nat) (ks : List Kd), flatFs rec P l off = some ks →
    (∀ f ∈ l, ∀ ls, rec f.type = some ls → P.cellsOf f.type = ls.length → FitL ls ((cs.drop f.offset).take ls.length) ∧ ∀ v ∈ (cs.drop f.offset).take ls.length, okV v) →
    FitL ks ((cs.drop off).take ks.length) ∧ ∀ v ∈ (cs.drop off).take ks.length, okV v
  | [], off, ks, h, _ => by
    simp only [flatFs, Option.some.injEq] at h
    subst h
    exact ⟨by simp [FitL], by simp⟩
  | f :: r, off, ks, h, hf => by
    simp only [flatFs] at h
    split at h
    · rename_i ks1 h1 h2 h3
      split at h
      · rename_i l h4 h5
        simp only [Option.some.injEq] at h
        subst h
        have ho : f.offset = off := Nat.eq_of_beq_eq_true h2
        have hz : sizeT P f.type = ks1.length := Nat.eq_of_beq_eq_true h4
        obtain ⟨a1, a2⟩ := hf f (by simp) ks1 h3 (by rw [sizeT_cells, hz])
        obtain ⟨b1, b2⟩ := flatFs_opens r (off + ks1.length) l h5 fun g hg => hf g (by simp [hg])
        rw [ho] at a1 a2
        have e : (cs.drop off).take (ks1 ++ l).length = (cs.drop off).take ks1.length ++ (cs.drop (off + ks1.length)).take l.length := by
          rw [List.length_append, List.take_add, List.drop_drop]
        rw [e]
        refine ⟨a1.join b1, fun v hv => ?_⟩
        rcases List.mem_append.1 hv with q | q
        · exact a2 v q
        · exact b2 v q
      · cases h
    · cases h
theorem repK_opens {ks : List Kd} : ∀ (n : Nat) (cs : List Value), cs.length = n * ks.length → (∀ i, i < n → FitL ks ((cs.drop (i * ks.length)).take ks.length)) → FitL (repK n ks) cs
  | 0, cs, hl, _ => by
    have : cs = [] := List.eq_nil_of_length_eq_zero (by simpa using hl)
    subst this; trivial
  | n + 1, cs, hl, h => by
    have h0 := h 0 (by omega)
    rw [Nat.zero_mul, List.drop_zero] at h0
    have hr := repK_opens (ks := ks) n (cs.drop ks.length) (by rw [List.length_drop, hl, Nat.succ_mul]; omega) fun i hi => by
      have := h (i + 1) (by omega)
      rwa [Nat.succ_mul, Nat.add_comm, ← List.drop_drop] at this
    have := h0.join hr
    rwa [List.take_append_drop] at this
theorem opens_flat : ∀ (d : Nat) (t : TypeId) (ks : List Kd), flatK P d t = some ks → P.cellsOf t = ks.length → Opens enc P w base spare held t fun cs => FitL ks cs ∧ ∀ v ∈ cs, okV v
  | 0, t, ks, h, _ => by cases h
  | d + 1, t, ks, h, hz => by
    unfold flatK at h
    split at h
    · rename_i hu
      cases h
      refine (opens_bool hu).mono ?_
      rintro cs ⟨b, rfl⟩
      exact ⟨⟨rfl, trivial⟩, by simp [okV]⟩
    · rename_i k hu
      cases h
      refine (opens_int hu).mono ?_
      rintro cs ⟨b, rfl, hw⟩
      exact ⟨⟨by simp only [Kd.fit]; cases k <;> rfl, trivial⟩, by simpa [okV] using hw⟩
    · rename_i hu
      cases h
      refine (opens_str hu).mono ?_
      rintro cs ⟨b, rfl, hw⟩
      exact ⟨⟨rfl, trivial⟩, by simpa [okV, size_str] using hw⟩
    · rename_i fs hu
      split at h
      · intro n cs x hx hw
        obtain ⟨xs, n', _, hxe, hcl, hxl, heach⟩ := DataW.trod_struct hu hx
        have := flatFs_opens (P := P) (cs := cs) fs.toList 0 ks h ?_
        · rw [List.drop_zero, ← hz, ← hcl, List.take_length] at this
          exact this
        · intro f hf ls hls hlz
          obtain ⟨i, hi, rfl⟩ := List.getElem_of_mem hf
          have hi' : i < fs.size := by simpa using hi
          have hfi : fs[i]? = some fs.toList[i] := by rw [Array.getElem?_eq_getElem hi']; rfl
          have hix : i < xs.length := by rw [hxl]; exact hi'
          have he := heach i _ hfi
          rw [List.getElem?_eq_getElem hix, hlz] at he
          refine opens_flat d _ ls hls hlz n' _ _ he fun m hm => hw m ?_
          rw [hxe]
          show m ∈ DataW.weights P t (.agg (xs.map (·.1)))
          rw [DataW.weights, hu]
          refine DataW.weights_mem_each (j := i) (t := fs.toList[i].type) (d := xs[i].1) ?_ ?_ m hm
          · rw [List.getElem?_map, List.getElem?_eq_getElem hi]; rfl
          · rw [List.getElem?_map, List.getElem?_eq_getElem hix]; rfl
      · cases h
    · rename_i k e hu
      split at h
      · rename_i ls hls
        split at h
        · rename_i hbe
          cases h
          have hze : P.cellsOf e = ls.length := by rw [sizeT_cells]; exact Nat.eq_of_beq_eq_true hbe
          refine (opens_array hu (opens_flat d e ls hls hze)).mono ?_
          rintro cs ⟨hcl, hall⟩
          rw [hz, repK_length] at hcl
          rw [hze] at hall
          refine ⟨repK_opens k cs hcl fun i hi => (hall i hi).1, fun v hv => ?_⟩
          obtain ⟨j, hj, rfl⟩ := List.getElem_of_mem hv
          have hl0 : 0 < ls.length := by
            rcases Nat.eq_zero_or_pos ls.length with q | q
            · rw [hcl, q] at hj; omega
            · exact q
          have hq : j / ls.length < k := Nat.div_lt_of_lt_mul (by rw [Nat.mul_comm, ← hcl]; exact hj)
          refine (hall _ hq).2 _ (List.mem_iff_getElem?.2 ⟨j % ls.length, ?_⟩)
          rw [List.getElem?_take, if_pos (Nat.mod_lt _ hl0), List.getElem?_drop, Nat.mul_comm, Nat.div_add_mod, List.getElem?_eq_getElem hj]
        · cases h
      · cases h
    · cases h
end
/-- the cells of a value at whole: one of its own is the value -/
theorem one_cell_val {v u : Value} (h : v.cells.toList = [u]) (hf : ∀ g, v ≠ .agg g) : v = u := by
  cases v <;> simp_all [Value.cells]
theorem below_of_call {P : Program} {f : FuncId} {args : Array Value} {w : World} (h : CallK P f args w [.b] fun b w' => b = true ∧ Grow w w') :
    Calls P f args w fun e w' => e = .returned (.bool true) ∧ Below w.heap.size w w' :=
  h.mono fun e w' hx => by
    obtain ⟨x, hx, hb, hg⟩ := hx
    have hb : x = true := hb
    subst hb
    exact ⟨hx, Keep.below hg⟩
end Go.Proofs.YtiokflecflbopaaDoor.CF

/- Layer 4: numbers in bytes, blocks as records. -/
namespace Go.Proofs.YtiokflecflbopaaDoor
open Go CF

def num (l : L8) : Nat := l.foldl (fun v b => v * 256 + b.toNat) 0
theorem num_snoc (l : L8) (b : UInt8) : num (l ++ [b]) = num l * 256 + b.toNat := by simp [num, List.foldl_append]
theorem num_lt (l : L8) : num l < 256 ^ l.length := by
  have key : ∀ (l : L8) (v : Nat), l.foldl (fun v b => v * 256 + b.toNat) v < (v + 1) * 256 ^ l.length := by
    intro l
    induction l with
    | nil => intro v; simp
    | cons b r ih =>
      intro v
      rw [List.foldl_cons, List.length_cons, Nat.pow_succ]
      have h1 := ih (v * 256 + b.toNat)
      have h2 := b.toNat_lt
      have h3 : (v * 256 + b.toNat + 1) * 256 ^ r.length ≤ (v + 1) * 256 * 256 ^ r.length := Nat.mul_le_mul_right _ (by omega)
      have h4 : (v + 1) * 256 * 256 ^ r.length = (v + 1) * (256 ^ r.length * 256) := by rw [Nat.mul_assoc, Nat.mul_comm 256]
      omega
  have := key l 0
  rw [Nat.zero_add, Nat.one_mul] at this
  exact this
theorem bor_add {a b : Nat} (ha : a < 72057594037927936) (hb : b < 256) : bOr .u64 ((a * 256 : Nat) : Int) (b : Int) = ((a * 256 + b : Nat) : Int) := by
  unfold bOr
  show IntKind.wrap .u64 (((BitVec.ofInt 64 ((a * 256 : Nat) : Int) ||| BitVec.ofInt 64 (b : Int)).toNat : Nat) : Int) = _
  rw [BitVec.ofInt_natCast, BitVec.ofInt_natCast, BitVec.toNat_or, BitVec.toNat_ofNat, BitVec.toNat_ofNat, Nat.mod_eq_of_lt (by omega), Nat.mod_eq_of_lt (by omega)]
  have e : a * 256 ||| b = a * 256 + b := by
    have := Nat.shiftLeft_add_eq_or_of_lt (i := 8) (b := b) (by omega) a
    rw [Nat.shiftLeft_eq] at this
    exact this.symm
  rw [e]
  exact wu64 (by omega) (by omega)
theorem shl8 {a : Nat} (ha : a < 72057594037927936) : bShl .u64 (a : Int) 8 = ((a * 256 : Nat) : Int) := by
  unfold bShl
  have e : (min 8 (IntKind.bits .u64)) = 8 := by decide
  rw [e, wu64 (by omega) (by omega)]
  omega
/-- a block -/
structure Bk where
  d : L8
  g : Nat
  a : Nat
  r : Nat
  hd : d.length = 16
  hg : g < 65536
  ha : a < 65536
  hr : r < 4294967296
def bc (b : Bk) : List Value := bv b.d ++ [.int .u16 (b.g : Int), .int .u16 (b.a : Int), .int .u32 (b.r : Int)]
theorem bc_len (b : Bk) : (bc b).length = 19 := by simp [bc, bv_length, b.hd]
theorem bv_inj {a b : L8} (h : bv a = bv b) : a = b := by
  induction a generalizing b with
  | nil => cases b with
    | nil => rfl
    | cons _ _ => simp [bv] at h
  | cons x r ih =>
    cases b with
    | nil => simp [bv] at h
    | cons y s =>
      simp only [bv, List.map_cons, List.cons.injEq, Value.int.injEq] at h
      have e : x = y := UInt8.toNat_inj.1 (by omega)
      rw [e, ih h.2]
theorem bc_inj {a b : Bk} (h : bc a = bc b) : a = b := by
  unfold bc at h
  obtain ⟨h1, h2⟩ := List.append_inj h (by rw [bv_length, bv_length, a.hd, b.hd])
  simp only [List.cons.injEq, Value.int.injEq, and_true, true_and] at h2
  have e1 := bv_inj h1
  have e2 : a.g = b.g := by omega
  have e3 : a.a = b.a := by omega
  have e4 : a.r = b.r := by omega
  cases a; cases b
  simp only at e1 e2 e3 e4
  subst e1; subst e2; subst e3; subst e4
  rfl
def kBk : List Kd := [.i .u8, .i .u8, .i .u8, .i .u8, .i .u8, .i .u8, .i .u8, .i .u8, .i .u8, .i .u8, .i .u8, .i .u8, .i .u8, .i .u8, .i .u8, .i .u8, .i .u16, .i .u16, .i .u32]
theorem fit_bytes : ∀ (l : L8) (n : Nat), l.length = n → FitL (List.replicate n (.i .u8)) (bv l)
  | [], 0, _ => trivial
  | _ :: l, n + 1, h => ⟨rfl, fit_bytes l n (by simpa using h)⟩
theorem fit_bc (b : Bk) : FitL kBk (bc b) := by
  have := (fit_bytes b.d 16 b.hd).join (ls := [.i .u16, .i .u16, .i .u32]) (b := [.int .u16 (b.g : Int), .int .u16 (b.a : Int), .int .u32 (b.r : Int)]) ⟨rfl, rfl, rfl, trivial⟩
  exact this
def emptyB : Bk := ⟨[0, 0, 0, 0, 0, 0, 0, 0, 0, 0, 0, 0, 0, 0, 0, 0], 65535, 65535, 4294967295, rfl, by decide, by decide, by decide⟩
def be2 (n : Nat) : L8 := [UInt8.ofNat (n / 2 ^ 8), UInt8.ofNat n]
def be4 (n : Nat) : L8 := [UInt8.ofNat (n / 2 ^ 24), UInt8.ofNat (n / 2 ^ 16), UInt8.ofNat (n / 2 ^ 8), UInt8.ofNat n]
def recB (b : Bk) : L8 := [1] ++ b.d ++ (be2 b.g ++ be2 b.a) ++ be4 b.r
theorem recB_len (b : Bk) : (recB b).length = 25 := by simp [recB, be2, be4, b.hd]
theorem wrap_u8 (n : Nat) : IntKind.wrap .u8 (n : Int) = ((UInt8.ofNat n).toNat : Int) := by
  rw [UInt8.toNat_ofNat']
  have e : IntKind.wrap .u8 (n : Int) = (n : Int) % 256 := by simp [IntKind.wrap, IntKind.signed, IntKind.bits]
  rw [e]
  omega
theorem shr (k : IntKind) (n s : Nat) (hs : s ≤ k.bits) : bShr k (n : Int) s = ((n / 2 ^ s : Nat) : Int) := by
  unfold bShr
  rw [Nat.min_eq_left hs, show ((2 : Int) ^ s) = ((2 ^ s : Nat) : Int) by norm_cast]
  exact (Int.ofNat_fdiv n (2 ^ s)).symm
end Go.Proofs.YtiokflecflbopaaDoor

/- Layer 4: records, blocks. -/
namespace Go.Proofs.YtiokflecflbopaaDoor
open Go CF

theorem storeAt_rule {P : Program} {w : World} {b o : Nat} {t ty : TypeId} {zv : Option Value} {z bytes : Nat} {old cells : Array Value} (hb : Blk w b old t) (hinfo : (P.info? ty).map (fun i => (i.zero, i.size, i.bytes)) = some (zv, z, bytes)) (hz : z = cells.size) (ho : o + cells.size ≤ old.size)
    (h1 : ∀ v ∈ cells.toList, v.oneCell' = true) {K : World → Prop} (h : ∀ w1, Blk w1 b (old.toList.take o ++ cells.toList ++ old.toList.drop (o + cells.size)).toArray t → Keep (fun k => k = b) w w1 → w1.heap.size = w.heap.size → K w1) : RunU P (storeVar ty ⟨b, o, none⟩ (.agg cells)) w K := by
  obtain ⟨i, hi, hzz⟩ := Option.map_eq_some_iff.1 hinfo
  simp only [Prod.mk.injEq] at hzz
  have hst := run_storeCells_at P b o t cells.toList 0 old w hb (by simpa using ho) h1
  have hs : cells.size = i.size := by omega
  refine ⟨_, ?_, h (w.setRow b (old.toList.take o ++ cells.toList ++ old.toList.drop (o + cells.size)).toArray) (setRow_heap w b old _ t (0, 0) hb) ⟨rfl, rfl, rfl, by simp, fun k _ hn => setRow_other w b k _ hn⟩ (by simp)⟩
  simp only [Nat.add_zero, Array.length_toList] at hst
  simp [storeVar, sizeOf, typeInfo, hi, Value.cells, hs]
  rw [hs, List.append_assoc] at hst
  exact hst
theorem bc_at (b : Bk) : (bc b).toArray[16]? = some (.int .u16 (b.g : Int)) ∧ (bc b).toArray[17]? = some (.int .u16 (b.a : Int)) ∧ (bc b).toArray[18]? = some (.int .u32 (b.r : Int)) := by
  have hl : (bv b.d).length = 16 := by rw [bv_length, b.hd]
  refine ⟨?_, ?_, ?_⟩ <;> · simp only [bc, List.getElem?_toArray]; rw [List.getElem?_append_right (by omega), hl]; rfl
theorem bc_ones (b : Bk) : ∀ v ∈ bc b, v.oneCell' = true := by
  intro v hv
  rcases List.mem_append.1 hv with q | q
  · exact bv_one' _ v q
  · simp only [List.mem_cons, List.not_mem_nil, or_false] at q
    rcases q with rfl | rfl | rfl <;> rfl
theorem bc_all (b : Bk) : ((bc b).toArray.all (·.oneCell')) = true := by
  rw [Array.all_eq_true_iff_forall_mem]; intro v hv; exact bc_ones b v (by simpa using hv)
theorem num2 (l : L8) (h : l.length = 2) : num l < 65536 := by have := num_lt l; rw [h] at this; exact this
theorem num4 (l : L8) (h : l.length = 4) : num l < 4294967296 := by have := num_lt l; rw [h] at this; exact this
def blkOf (l : L8) : Bk :=
  if h : 25 ≤ l.length ∧ l[0]? = some 1 then
    ⟨(l.drop 1).take 16, num ((l.drop 17).take 2), num ((l.drop 19).take 2), num ((l.drop 21).take 4), by simp; omega, num2 _ (by simp; omega), num2 _ (by simp; omega), num4 _ (by simp; omega)⟩
  else emptyB
end Go.Proofs.YtiokflecflbopaaDoor

/- Layer 4: what a file says of blocks. -/
namespace Go.Proofs.YtiokflecflbopaaDoor
open Go CF

theorem getD_wr (f : L8) (o : Nat) (p : L8) (k : Nat) : (wr f o p).getD k 0 = if o ≤ k ∧ k < o + p.length then p.getD (k - o) 0 else f.getD k 0 := by
  unfold wr
  simp only [List.getD_eq_getElem?_getD]
  generalize hg : f ++ List.replicate (o + p.length - f.length) 0 = g
  have hgl : g.length = max f.length (o + p.length) := by rw [← hg]; simp; omega
  have hgk : ∀ k : Nat, (g[k]?).getD 0 = (f[k]?).getD 0 := fun k => by
    rw [← hg]
    rcases Nat.lt_or_ge k f.length with q | q
    · rw [List.getElem?_append_left q]
    · rw [List.getElem?_append_right q, List.getElem?_eq_none q, List.getElem?_replicate]
      split <;> rfl
  have htl : (g.take o).length = o := by rw [List.length_take]; omega
  rcases Nat.lt_or_ge k o with q | q
  · rw [if_neg (by omega), List.append_assoc, List.getElem?_append_left (by omega), List.getElem?_take, if_pos q, hgk]
  · rcases Nat.lt_or_ge k (o + p.length) with q2 | q2
    · rw [if_pos ⟨q, q2⟩, List.append_assoc, List.getElem?_append_right (by omega), htl, List.getElem?_append_left (by omega)]
    · rw [if_neg (by omega), List.getElem?_append_right (by rw [List.length_append, htl]; omega), List.length_append, htl, List.getElem?_drop, show o + p.length + (k - (o + p.length)) = k by omega, hgk]
/-- a record is there at whole -/
def Good (f : L8) : Prop := ∀ j : Nat, f.getD (25 * j) 0 = 1 → 25 * j + 25 ≤ f.length
def blkAt (f : L8) (j : Nat) : Bk := blkOf ((f.drop (25 * j)).take 25)
def sl25 (f : L8) (j : Nat) : L8 := (List.range 25).map fun t => f.getD (25 * j + t) 0
theorem blkOf_not {l : L8} (h : ¬ (25 ≤ l.length ∧ l[0]? = some 1)) : blkOf l = emptyB := dif_neg h
theorem blkAt_good {f : L8} (h : Good f) (j : Nat) : blkAt f j = blkOf (sl25 f j) := by
  unfold blkAt
  by_cases h1 : f.getD (25 * j) 0 = 1
  · have hl := h j h1
    have e : (f.drop (25 * j)).take 25 = sl25 f j := by
      unfold sl25
      apply List.ext_getElem?
      intro t
      simp only [List.getElem?_take, List.getElem?_drop, List.getElem?_map, List.getElem?_range]
      by_cases q : t < 25
      · rw [if_pos q, List.getElem?_eq_getElem (show 25 * j + t < f.length by omega)]
        simp [q, List.getD_eq_getElem?_getD, List.getElem?_eq_getElem (show 25 * j + t < f.length by omega)]
      · simp [q]
    rw [e]
  · rw [blkOf_not, blkOf_not]
    · intro q
      have := q.2
      simp [sl25] at this
      exact h1 (by simpa using this)
    · intro q
      have hq := q.2
      have hlen := q.1
      rw [List.length_take, List.length_drop] at hlen
      rw [List.getElem?_take, if_pos (by decide), List.getElem?_drop, Nat.add_zero] at hq
      exact h1 (by rw [List.getD_eq_getElem?_getD, hq]; rfl)
theorem good_nil : Good [] := fun j h => by simp at h
theorem getD_off {f p : L8} {i j t : Nat} (hp : p.length ≤ 25) (hij : j ≠ i) (ht : t < 25) : (wr f (25 * i) p).getD (25 * j + t) 0 = f.getD (25 * j + t) 0 := by
  rw [getD_wr, if_neg (by omega)]
theorem num_be2 {n : Nat} (h : n < 65536) : num (be2 n) = n := by
  simp only [num, be2, List.foldl_cons, List.foldl_nil, UInt8.toNat_ofNat']
  omega
theorem num_be4 {n : Nat} (h : n < 4294967296) : num (be4 n) = n := by
  simp only [num, be4, List.foldl_cons, List.foldl_nil, UInt8.toNat_ofNat']
  omega
theorem bk_ext {a b : Bk} (h1 : a.d = b.d) (h2 : a.g = b.g) (h3 : a.a = b.a) (h4 : a.r = b.r) : a = b := by
  cases a; cases b; simp only at h1 h2 h3 h4; subst h1; subst h2; subst h3; subst h4; rfl
theorem blkOf_rec (b : Bk) : blkOf (recB b) = b := by
  have h : 25 ≤ (recB b).length ∧ (recB b)[0]? = some 1 := ⟨by rw [recB_len]; decide, rfl⟩
  have hd := b.hd
  have e : recB b = 1 :: (b.d ++ (be2 b.g ++ (be2 b.a ++ be4 b.r))) := by simp [recB]
  have d1 : (recB b).drop 1 = b.d ++ (be2 b.g ++ (be2 b.a ++ be4 b.r)) := by rw [e]; rfl
  have d17 : (recB b).drop 17 = be2 b.g ++ (be2 b.a ++ be4 b.r) := by
    rw [e, List.drop_succ_cons, List.drop_append, List.drop_of_length_le (by omega), hd]; rfl
  have d19 : (recB b).drop 19 = be2 b.a ++ be4 b.r := by
    have : (recB b).drop 19 = ((recB b).drop 17).drop 2 := by rw [List.drop_drop]
    rw [this, d17]; rfl
  have d21 : (recB b).drop 21 = be4 b.r := by
    have : (recB b).drop 21 = ((recB b).drop 19).drop 2 := by rw [List.drop_drop]
    rw [this, d19]; rfl
  unfold blkOf
  rw [dif_pos h]
  apply bk_ext
  · show ((recB b).drop 1).take 16 = b.d
    rw [d1, List.take_append_of_le_length (by omega), List.take_of_length_le (by omega)]
  · show num (((recB b).drop 17).take 2) = b.g
    rw [d17]; exact num_be2 b.hg
  · show num (((recB b).drop 19).take 2) = b.a
    rw [d19]; exact num_be2 b.ha
  · show num (((recB b).drop 21).take 4) = b.r
    rw [d21]; exact num_be4 b.hr
theorem good_rec {f : L8} (h : Good f) (i : Nat) (b : Bk) : Good (wr f (25 * i) (recB b)) := by
  intro j hj
  rw [wr_len, recB_len]
  by_cases e : j = i
  · subst e; omega
  · have := getD_off (f := f) (p := recB b) (t := 0) (by rw [recB_len]; decide) e (by decide)
    rw [Nat.add_zero] at this
    rw [this] at hj
    have := h j hj
    omega
theorem good_zero {f : L8} (h : Good f) (i : Nat) : Good (wr f (25 * i) [0]) := by
  intro j hj
  rw [wr_len]
  by_cases e : j = i
  · subst e
    rw [getD_wr, if_pos ⟨Nat.le_refl _, by simp⟩, Nat.sub_self] at hj
    cases hj
  · have := getD_off (f := f) (p := [0]) (t := 0) (by decide) e (by decide)
    rw [Nat.add_zero] at this
    rw [this] at hj
    have := h j hj
    omega
theorem sl25_off {f p : L8} {i j : Nat} (hp : p.length ≤ 25) (hij : j ≠ i) : sl25 (wr f (25 * i) p) j = sl25 f j := by
  unfold sl25
  apply List.map_congr_left
  intro t ht
  exact getD_off hp hij (List.mem_range.1 ht)
theorem blkAt_rec {f : L8} (h : Good f) (i : Nat) (b : Bk) (j : Nat) : blkAt (wr f (25 * i) (recB b)) j = if j = i then b else blkAt f j := by
  rw [blkAt_good (good_rec h i b)]
  by_cases e : j = i
  · subst e
    rw [if_pos rfl]
    have e2 : sl25 (wr f (25 * j) (recB b)) j = recB b := by
      unfold sl25
      apply List.ext_getElem?
      intro t
      rw [List.getElem?_map]
      by_cases q : t < 25
      · rw [List.getElem?_range q, Option.map_some, getD_wr, if_pos ⟨by omega, by rw [recB_len]; omega⟩, show 25 * j + t - 25 * j = t by omega, List.getD_eq_getElem?_getD, List.getElem?_eq_getElem (by rw [recB_len]; exact q)]
        rfl
      · rw [List.getElem?_eq_none (l := List.range 25) (by simp; omega), List.getElem?_eq_none (l := recB b) (by rw [recB_len]; omega)]; rfl
    rw [e2, blkOf_rec]
  · rw [if_neg e, sl25_off (by rw [recB_len]; decide) e, blkAt_good h]
theorem blkAt_zero {f : L8} (h : Good f) (i j : Nat) : blkAt (wr f (25 * i) [0]) j = if j = i then emptyB else blkAt f j := by
  rw [blkAt_good (good_zero h i)]
  by_cases e : j = i
  · subst e
    rw [if_pos rfl, blkOf_not]
    intro q
    have := q.2
    rw [sl25, List.getElem?_map, List.getElem?_range (by decide), Option.map_some, Nat.add_zero, getD_wr, if_pos ⟨Nat.le_refl _, by simp⟩, Nat.sub_self] at this
    cases this
  · rw [if_neg e, sl25_off (by decide) e, blkAt_good h]
end Go.Proofs.YtiokflecflbopaaDoor

/- Layer 4: the store's calls. -/
namespace Go.Proofs.YtiokflecflbopaaDoor
open Go CF

def scells (pw : Nat) (file : ByteArray) (blocks : Nat) (cache : Bool) : Array Value := #[.pointer (some ⟨pw, 0, none⟩), .string file, .int .i64 (blocks : Int), .bool cache]
def stepW (st : Wst) (file : ByteArray) (o : Nat) (r : L8) : Wst := ⟨applyWr st.seen file o r, st.dur, st.waits ++ [⟨119, file, ⟨#[]⟩, o, r⟩], st.ops + 1⟩
def layW (st : Wst) (file : ByteArray) (lba : Nat) (rs : Nat → L8) : Nat → Wst
  | 0 => st
  | k + 1 => stepW (layW st file lba rs k) file (25 * (lba + k)) (rs k)
theorem layW_ops (st : Wst) (file : ByteArray) (lba : Nat) (rs : Nat → L8) : ∀ k, (layW st file lba rs k).ops = st.ops + k ∧ (layW st file lba rs k).waits.length = st.waits.length + k
  | 0 => ⟨rfl, rfl⟩
  | k + 1 => by
    obtain ⟨h1, h2⟩ := layW_ops st file lba rs k
    simp only [layW, stepW, List.length_append, List.length_singleton, h1, h2]
    omega
end Go.Proofs.YtiokflecflbopaaDoor

/- Layer 4: writing and reading blocks. -/
namespace Go.Proofs.YtiokflecflbopaaDoor
open Go CF

def rsOf (bs : List Bk) (i : Nat) : L8 := match bs[i]? with | some b => recB b | none => []
theorem rsOf_len (bs : List Bk) (i : Nat) : (rsOf bs i).length ≤ 25 := by
  unfold rsOf; split
  · rw [recB_len]; exact Nat.le_refl _
  · decide
theorem rd_bk {w : World} {s : Sl} {bs : List Bk} (h : Rd w 19 s (bs.flatMap bc)) : bs.length = s.n := by
  have := h.len; rw [flat_length bc_len] at this; omega
theorem rd_bk_at {w : World} {s : Sl} {bs : List Bk} (h : Rd w 19 s (bs.flatMap bc)) {i : Nat} (hi : i < bs.length) : ∃ a, s.A = some a ∧ Cells w (a.add (i * 19)) (bc bs[i]) := by
  obtain ⟨a, ha, hc⟩ := h.elem (i := i) (by rw [← rd_bk h]; exact hi) (by decide)
  exact ⟨a, ha, by rw [flat_elem bc_len hi] at hc; exact hc⟩
def rdBl (st : Wst) (file : ByteArray) (lba n : Nat) : List Bk := (List.range n).map fun i => blkAt ((st.seen file).getD []) (lba + i)
theorem bc_flat_one (l : List Bk) : ∀ v ∈ l.flatMap bc, v.oneCell' = true := fun v hv => by
  obtain ⟨b, _, hb⟩ := List.mem_flatMap.1 hv
  exact bc_ones b v hb
end Go.Proofs.YtiokflecflbopaaDoor
