import Derived.Lib.SlBytesConst
import Derived.Lib.AppendStr
import Derived.WalkKit
import Derived.ProofKit
import Derived.OpenShut
import Derived.ShutString
import Derived.ChangeOld
import Derived.Below
import Derived.SizedLaws
import Derived.MapKept
import Derived.Laws.CopyRow
import Derived.Laws.IdiomCopy
import Derived.Test.YtaneeadpjelomaaDoorProg
import Derived.Test.YtaneeadpjelomaaDoorB1
/- More rules of memory: bytes of a constant, elements of slices. -/
namespace Go.Proofs.YtaneeadpjelomaaDoor.CF
open Go Go.RowKit

theorem bytes_const_rule {P : Program} {w : World} {t e : TypeId} {n : Nat} {parts : Array (Nat × Value)} {l : L8}
    (hr : (Instr.buildSlice t n parts).run P w = .ok (.slice (some ⟨w.heap.size, 0, none⟩) n n) (w.alloc (.cells (bv l).toArray e))) (hn : n = l.length) (hb : n ≤ 140737488355328)
    (ht : P.underlying t = some (.slice e)) (he : P.underlying e = some (.int .u8))
    {K : Sl → World → Prop} (h : ∀ s w', Grow w w' → Rd w' 1 s (bv l) → K s w') :
    RunK P .sl (Instr.buildSlice t n parts) w fun xs w0 => RunK P .sl (convert t t (.slice xs.A xs.n xs.c)) w0 K := by
  refine ⟨⟨some ⟨w.heap.size, 0, none⟩, n, n⟩, _, hr, ⟨some ⟨w.heap.size, 0, none⟩, n, n⟩, _, Go.Lib.run_convert_bytes_const w t e _ n n ht he, ?_⟩
  refine h _ _ (keep_alloc w _) ⟨by rw [bv_length, hn, Nat.mul_one], Nat.le_refl _, Nat.le_trans hb (by decide), fun _ => ⟨_, rfl, fun j v hj => ?_⟩⟩
  rw [add0, Nat.zero_add]
  unfold World.cell?
  simp only [World.alloc, Array.getElem?_push, if_true]
  simpa using hj
open Go.Lib in
theorem strCells_bv (l : L8) : strCells (str l) = bv l := rfl
open Go.Lib in
theorem append_str_at {P : Program} {w : World} (base : Nat) (t u ty e : TypeId) (i : TypeInfo) (ht : P.underlying t = some (.slice e)) (hu : P.underlying u = some .string) (hi : P.info? e = some i) (hz : i.zero = some (.int .u8 0))
    (hsize : i.size = 1) (hby : i.bytes = 1) (o : Sl) (xs : List Value) (hown : Own w base e 1 o xs) (s : ByteArray) (hbytes : o.n + s.size ≤ 140737488355328) (hbase : base ≤ w.heap.size) :
    ∃ (o' : Sl) (w' : World), (Builtin.append_ #[t, u] ty #[.slice o.A o.n o.c, .string s]).run P w = .ok (.slice o'.A o'.n o'.c) w' ∧ o'.n = o.n + s.size ∧ Own w' base e 1 o' (xs ++ strCells s) ∧ Keep (fun k => some k = o.blk) w w' ∧
      (o'.blk = o.blk ∨ o'.blk = some w.heap.size) := by
  have hxl : xs.length = o.n := by simpa using hown.1
  have hlen : (xs ++ strCells s).length = (o.n + s.size) * 1 := by rw [List.length_append, hxl, strCells_length, Nat.mul_one]
  have hmx : (140737488355328 : Nat) ≤ maxLen := by unfold maxLen; omega
  have grown : ∀ (old : Nat), old < o.n + s.size → ∀ (row : Option Nat),
      (w.drew.alloc (.cells (xs.toArray ++ (strCells s).toArray ++ Builtin.zeroCells (Value.int .u8 0).cells (grownCap w (o.n + s.size) old e - (o.n + s.size))) e)).ownsRow base e 1
        (.slice (some ⟨w.heap.size, 0, none⟩) (o.n + s.size) (grownCap w (o.n + s.size) old e)) (o.n + s.size) (xs ++ strCells s) ∧
      Keep (fun k => some k = row) w (w.drew.alloc (.cells (xs.toArray ++ (strCells s).toArray ++ Builtin.zeroCells (Value.int .u8 0).cells (grownCap w (o.n + s.size) old e - (o.n + s.size))) e)) := by
    intro old ho row
    have hge := grownCap_ge w (o.n + s.size) old e
    have hcm : grownCap w (o.n + s.size) old e ≤ maxLen := grownCap_le_maxLen w (o.n + s.size) old e (by omega)
    refine ⟨⟨hlen, .inr ⟨w.heap.size, _, _, rfl, hbase, heap_alloc_new w.drew _, hge, hcm, ?_, ?_⟩⟩, ⟨rfl, rfl, rfl, by simp, fun k hk _ => heap_alloc_lt w.drew _ k hk⟩⟩
    · have hz1 : (Value.int IntKind.u8 0).cells.size = 1 := rfl
      simp only [Array.size_append, List.size_toArray, size_zeroCells, hz1, hxl, strCells_length]
      omega
    · simp only [Array.toList_append, List.append_assoc]
      rw [← List.append_assoc, ← hlen]
      exact List.take_left
  rcases hown.2 with ⟨h0, hn0⟩ | ⟨g, cap, cur, hv, hbg, hg, hnc, hcm, hcs, htake⟩
  · injection h0 with hA hN hC
    obtain ⟨A, n, c⟩ := o
    simp only at hA hN hC hn0 hxl grown hbytes hlen
    subst hA; subst hN; subst hC
    have hx : xs = [] := List.eq_nil_of_length_eq_zero hxl
    subst hx
    by_cases hm : s.size = 0
    · have hn : strCells s = [] := List.eq_nil_of_length_eq_zero (by rw [strCells_length]; exact hm)
      refine ⟨⟨none, 0, 0⟩, w, ?_, by simp [hm], by rw [hn]; exact own_nil w base e 1, Keep.refl _ _, .inl rfl⟩
      have hf := run_firstCells_string (P := P) w 1 s
      rw [hm] at hf
      simp [Builtin.append_, run_underlying ht, run_underlying hu, sizeOf, typeInfo, hi, hsize, Builtin.lenOf, hm, hf]
    · have hr := run_append_nil_string (P := P) w t u ty e i (.int .u8 0) ht hu hi hz s (by omega) (by omega) (by rw [hby]; omega)
      have hgr := grown 0 (by omega) none
      simp only [Nat.zero_add, List.nil_append, Array.empty_append] at hgr
      have e1 : (s.data.map fun b => Value.int .u8 b.toNat) = (strCells s).toArray := by
        apply Array.ext'
        simp [strCells]
      rw [e1] at hr
      refine ⟨⟨some ⟨w.heap.size, 0, none⟩, s.size, _⟩, _, hr, by simp, hgr.1, hgr.2, .inr rfl⟩
  · injection hv with hA hN hC
    obtain ⟨A, n, c⟩ := o
    simp only at hA hN hC hnc hcm hcs htake hxl grown hbytes hlen
    subst hA; subst hC
    by_cases hroom : n + s.size ≤ c
    · have hcs' : cur.size = c := by simpa using hcs
      have hr := run_append_room_string (P := P) w t u ty e i ht hu hi hsize g n c cur hg s hroom (by omega)
      refine ⟨⟨some ⟨g, 0, none⟩, n + s.size, c⟩, _, hr, rfl, ⟨hlen, .inr ⟨g, c, _, rfl, hbg, setRow_heap w g cur _ e _ hg, hroom, hcm, ?_, ?_⟩⟩, ⟨rfl, rfl, rfl, by simp, fun k _ hk => setRow_other w g k _ (fun e => hk (by simp [Sl.blk, e]))⟩, .inl rfl⟩
      · simp only [List.size_toArray, List.length_append, List.length_take, List.length_drop, Array.length_toList, strCells_length]
        omega
      · have ht' : cur.toList.take n = xs := by simpa using htake
        rw [ht', ← hlen]
        exact List.take_left
    · have holds : ∀ j u, xs[j]? = some u → w.cell? ((⟨g, 0, none⟩ : Addr).add j) = some u := World.ownsRow.cells hown (g := g) rfl
      have hr := run_append_grow_string (P := P) w t u ty e i (.int .u8 0) ht hu hi hz ⟨g, 0, none⟩ n c xs (by rw [hsize]; simpa using hxl) holds s (by omega) (by omega) (by rw [hby]; exact growslice_fits (by omega) (by omega))
      have hgr := grown c (by omega) (some g)
      exact ⟨⟨some ⟨w.heap.size, 0, none⟩, n + s.size, _⟩, _, hr, rfl, hgr.1, hgr.2, .inr rfl⟩
/-- the bytes of a string, behind a row of one's own -/
theorem append_str_rule {P : Program} {w : World} {base : Nat} {t u ty e : TypeId} (ht : P.underlying t = some (.slice e)) (hu : P.underlying u = some .string)
    (hinfo : (P.info? e).map (fun i => (i.zero, i.size, i.bytes)) = some (some (.int .u8 0), 1, 1)) {o : Sl} {vs l : L8} (hs : Own w base e 1 o (bv vs)) (hbd : o.n + l.length ≤ 140737488355328) (hbase : base ≤ w.heap.size)
    {K : Sl → World → Prop} (h : ∀ o' w', o'.n = o.n + l.length → Own w' base e 1 o' (bv (vs ++ l)) → Keep (fun k => some k = o.blk) w w' → (o'.blk = o.blk ∨ o'.blk = some w.heap.size) → K o' w') :
    RunK P .sl (Builtin.append_ #[t, u] ty #[.slice o.A o.n o.c, .string (str l)]) w K := by
  obtain ⟨i, hi, hzz⟩ := Option.map_eq_some_iff.1 hinfo
  simp only [Prod.mk.injEq] at hzz
  obtain ⟨o', w', hr, hn, hown, hk, hat⟩ := append_str_at base t u ty e i ht hu hi hzz.1 hzz.2.1 hzz.2.2 o (bv vs) hs (str l) (by rw [size_str]; exact hbd) hbase
  refine ⟨o', w', hr, h o' w' (by rw [hn, size_str]) ?_ hk hat⟩
  rw [bv_append, ← strCells_bv l]
  exact hown
/-! ### a row that grows by strings and bytes, in any order of their making -/
structure Ctx (w : World) (e : TypeId) (pb : Nat) (pcs : Array Value) (pt : TypeId) (u : World) (o : Sl) (os : L8) (lits : List (Sl × UInt8)) : Prop where
  own : Own u w.heap.size e 1 o (bv os)
  grow : Grow w u
  blk : Blk u pb pcs pt
  ne : o.blk ≠ some pb
  lit : ∀ p ∈ lits, Rd u 1 p.1 (bv [p.2]) ∧ (∀ b, p.1.blk = some b → b < u.heap.size) ∧ ∀ b, p.1.blk = some b → o.blk ≠ some b
section
variable {P : Program} {w : World} {t e : TypeId} {pb : Nat} {pcs : Array Value} {pt : TypeId} {u : World} {o : Sl} {os : L8} {lits : List (Sl × UInt8)}
theorem Ctx.n (h : Ctx w e pb pcs pt u o os lits) : o.n = os.length := by have := h.own.len; rw [bv_length] at this; omega
/-- behind a growth of the row -/
theorem Ctx.step (h : Ctx w e pb pcs pt u o os lits) {o' : Sl} {u' : World} {os' : L8} (hown : Own u' w.heap.size e 1 o' (bv os')) (hk : Keep (fun k => some k = o.blk) u u')
    (hat : o'.blk = o.blk ∨ o'.blk = some u.heap.size) : Ctx w e pb pcs pt u' o' os' lits := by
  have hpb := lt_of_heap h.blk
  refine ⟨hown, h.grow.keep hk fun i hi q => ?_, hk.heap h.blk fun q => h.ne q.symm, fun q => ?_, fun p hp => ⟨(h.lit p hp).1.keep hk fun a ha _ q => ?_, fun b hb => ?_, fun b hb q => ?_⟩⟩
  · have := (h.own.ge i q.symm).1; omega
  · rcases hat with r | r
    · exact h.ne (by rw [← r]; exact q)
    · rw [r] at q; injection q with q; omega
  · exact (h.lit p hp).2.2 a.block (by simp [Sl.blk, ha]) q.symm
  · have := (h.lit p hp).2.1 b hb; have := hk.size; omega
  · rcases hat with r | r
    · exact (h.lit p hp).2.2 b hb (by rw [← r]; exact q)
    · rw [r] at q; injection q with q; have := (h.lit p hp).2.1 b hb; omega
theorem Ctx.add (h : Ctx w e pb pcs pt u o os lits) {c : UInt8} {z : Int} (hz : z = (c.toNat : Int)) (ht : P.underlying t = some (.slice e))
    (hr : (Instr.buildSlice t 1 #[(0, .int .u8 z)]).run P u = .ok (.slice (some ⟨u.heap.size, 0, none⟩) 1 1) (u.alloc (.cells #[.int .u8 z] e)))
    {K : Sl → World → Prop} (hK : ∀ s u', Ctx w e pb pcs pt u' o os ((s, c) :: lits) → K s u') : RunK P .sl (Instr.buildSlice t 1 #[(0, .int .u8 z)]) u K := by
  subst hz
  refine ⟨⟨some ⟨u.heap.size, 0, none⟩, 1, 1⟩, _, hr, ?_⟩
  have hg : Grow u (u.alloc (.cells #[.int .u8 (c.toNat : Int)] e)) := keep_alloc u _
  refine hK _ _ ⟨h.own.grow hg, h.grow.trans hg, hg.heap h.blk (fun q => q), h.ne, fun p hp => ?_⟩
  rcases List.mem_cons.1 hp with rfl | hp
  · refine ⟨⟨rfl, Nat.le_refl _, by show 1 ≤ _; decide, fun _ => ⟨_, rfl, fun j v hj => ?_⟩⟩, fun b hb => ?_, fun b hb q => ?_⟩
    · rw [add0, Nat.zero_add]
      unfold World.cell?
      simp only [World.alloc, Array.getElem?_push, if_true]
      simpa [bv] using hj
    · simp only [Sl.blk, Option.map_some, Option.some.injEq] at hb; subst hb; simp
    · simp only [Sl.blk, Option.map_some, Option.some.injEq] at hb; subst hb
      have := (h.own.ge _ q).2; omega
  · obtain ⟨h1, h2, h3⟩ := h.lit p hp
    exact ⟨h1.grow hg, fun b hb => by have := h2 b hb; have := hg.size; omega, h3⟩
theorem Ctx.str (h : Ctx w e pb pcs pt u o os lits) {l : L8} {tu ty : TypeId} (ht : P.underlying t = some (.slice e)) (hu : P.underlying tu = some .string)
    (hinfo : (P.info? e).map (fun i => (i.zero, i.size, i.bytes)) = some (some (.int .u8 0), 1, 1)) (hbd : os.length + l.length ≤ 140737488355328)
    {K : Sl → World → Prop} (hK : ∀ s u', Ctx w e pb pcs pt u' s (os ++ l) lits → K s u') : RunK P .sl (Builtin.append_ #[t, tu] ty #[.slice o.A o.n o.c, .string (CF.str l)]) u K :=
  append_str_rule ht hu hinfo h.own (by rw [h.n]; exact hbd) h.grow.size fun o' w' _ hown hk hat => hK _ _ (h.step hown hk hat)
theorem Ctx.app (h : Ctx w e pb pcs pt u o os lits) {s : Sl} {c : UInt8} {ty : TypeId} (hm : (s, c) ∈ lits) (ht : P.underlying t = some (.slice e))
    (hinfo : (P.info? e).map (fun i => (i.zero, i.size, i.bytes)) = some (some (.int .u8 0), 1, 1)) (hbd : os.length + 1 ≤ 140737488355328)
    {K : Sl → World → Prop} (hK : ∀ s' u', Ctx w e pb pcs pt u' s' (os ++ [c]) lits → K s' u') : RunK P .sl (Builtin.append_ #[t, t] ty #[.slice o.A o.n o.c, .slice s.A s.n s.c]) u K := by
  have hs := (h.lit _ hm).1
  have hn : s.n = 1 := by have := hs.len; simp [bv] at this; omega
  refine append_rule ht hinfo rfl (by decide) (by decide) h.own hs (by simp [bv, Value.oneCell']) (by rw [hn, h.n]; omega) h.grow.size fun o' w' _ hown hk hat => hK _ _ (h.step (by rw [bv_append]; exact hown) hk hat)
end
end Go.Proofs.YtaneeadpjelomaaDoor.CF

/- Arguments, opened: rows of things, plain structs. -/
namespace Go.Proofs.YtaneeadpjelomaaDoor.CF
open Go Go.RowKit

section
variable {H : Type} {enc : TypeId × Value → H} {P : Program} {w : World} {base : Nat} {spare : Nat → Bool} {held : Bool}
/-- its weights are within reach -/
def Light (P : Program) (t : TypeId) (d : DataW H) : Prop := ∀ m ∈ d.weights P t, m ≤ reachBytes
/-- what a reading of a type's cells tells -/
def Opens (enc : TypeId × Value → H) (P : Program) (w : World) (base : Nat) (spare : Nat → Bool) (held : Bool) (t : TypeId) (Φ : List Value → Prop) : Prop :=
  ∀ n cs x, DataW.trod enc P w base spare held n t cs = some x → Light P t x.1 → Φ cs
theorem mem_weightsAll {e : TypeId} : ∀ {ds : List (DataW H)} {d : DataW H}, d ∈ ds → ∀ m ∈ d.weights P e, m ∈ DataW.weightsAll P e ds
  | d0 :: ds, d, hd, m, hm => by
    simp only [DataW.weightsAll, List.mem_append]
    rcases List.mem_cons.1 hd with rfl | h
    · exact .inl hm
    · exact .inr (mem_weightsAll h m hm)
theorem cells_of {a : Addr} {n : Nat} {vs : List Value} (h : w.cells? base a n = some vs) : vs.length = n ∧ Cells w a vs := by
  unfold World.cells? at h
  split at h
  · have hl := mapM_some_length h
    simp at hl
    refine ⟨hl, fun j v hj => ?_⟩
    have hjn : j < n := by have := (List.getElem?_eq_some_iff.1 hj).1; omega
    have := mapM_some_get h j j (by simp [hjn])
    rw [this, hj]
  · cases h
theorem opens_bool {t : TypeId} (ht : P.underlying t = some .bool) : Opens enc P w base spare held t fun cs => ∃ b, cs = [.bool b] := fun _ _ _ h _ => by
  obtain ⟨b, hb, _⟩ := DataW.trod_bool ht h; exact ⟨b, hb⟩
theorem opens_int {t : TypeId} {k : IntKind} (ht : P.underlying t = some (.int k)) : Opens enc P w base spare held t fun cs => ∃ n, cs = [.int k n] ∧ (Lit.int k n).wf = true := fun _ _ _ h _ => by
  obtain ⟨n, hn, _, hw⟩ := DataW.trod_int ht h; exact ⟨n, hn, hw⟩
theorem opens_str {t : TypeId} (ht : P.underlying t = some .string) : Opens enc P w base spare held t fun cs => ∃ l : L8, cs = [.string (str l)] ∧ l.length ≤ 140737488351232 := fun _ _ x h hl => by
  obtain ⟨s, hs, hx, _⟩ := DataW.trod_string ht h
  refine ⟨ls s, by rw [hs, str_ls], ?_⟩
  have := hl (ls s).length (by rw [hx]; simp [DataW.weights, ls])
  exact this
theorem opens_u8 {t : TypeId} (ht : P.underlying t = some (.int .u8)) : Opens enc P w base spare held t fun cs => ∃ b : UInt8, cs = [.int .u8 (b.toNat : Int)] := fun n cs x h hl => by
  obtain ⟨z, hz, hw⟩ := opens_int ht n cs x h hl
  simp [Lit.wf, IntKind.min, IntKind.max, IntKind.signed, IntKind.bits] at hw
  refine ⟨UInt8.ofNat z.toNat, ?_⟩
  rw [hz]
  congr 2
  rw [UInt8.toNat_ofNat']
  omega
/-- fields, one by one -/
theorem opens_fields {t : TypeId} {fs : Array Field} (ht : P.underlying t = some (.struct fs)) {Φ : List (List Value → Prop)}
    (hl : fs.size = Φ.length) (hf : ∀ (i : Nat) (f : Field) (φ : List Value → Prop), fs[i]? = some f → Φ[i]? = some φ → Opens enc P w base spare held f.type φ) :
    Opens enc P w base spare held t fun cs => cs.length = P.cellsOf t ∧ ∀ (i : Nat) (f : Field) (φ : List Value → Prop), fs[i]? = some f → Φ[i]? = some φ → φ ((cs.drop f.offset).take (P.cellsOf f.type)) := fun n cs x h hw => by
  obtain ⟨xs, n', _, hx, hcl, hxl, heach⟩ := DataW.trod_struct ht h
  refine ⟨hcl, fun i f φ hfi hφ => ?_⟩
  have hi : i < xs.length := by rw [hxl]; exact (Array.getElem?_eq_some_iff.1 hfi).1
  have he := heach i f hfi
  rw [List.getElem?_eq_getElem hi] at he
  refine hf i f φ hfi hφ n' _ _ he fun m hm => hw m ?_
  rw [hx]
  show m ∈ DataW.weights P t (.agg (xs.map (·.1)))
  rw [DataW.weights, ht]
  refine DataW.weights_mem_each (j := i) (t := f.type) (d := xs[i].1) ?_ ?_ m hm
  · rw [List.getElem?_map, ← Array.getElem?_toList] at *; rw [hfi]; rfl
  · rw [List.getElem?_map, List.getElem?_eq_getElem hi]; rfl
theorem opens_array {t e : TypeId} {k : Nat} (ht : P.underlying t = some (.array k e)) {φ : List Value → Prop} (hf : Opens enc P w base spare held e φ) :
    Opens enc P w base spare held t fun cs => cs.length = P.cellsOf t ∧ ∀ i, i < k → φ ((cs.drop (i * P.cellsOf e)).take (P.cellsOf e)) := fun n cs x h hw => by
  obtain ⟨xs, n', _, hx, hcl, hxl, heach⟩ := DataW.trod_array ht h
  refine ⟨hcl, fun i hi => ?_⟩
  have hi' : i < xs.length := by omega
  have he := heach i hi
  rw [List.getElem?_eq_getElem hi'] at he
  refine hf n' _ _ he fun m hm => hw m ?_
  rw [hx]
  show m ∈ DataW.weights P t (.agg (xs.map (·.1)))
  rw [DataW.weights, ht]
  exact mem_weightsAll (List.mem_map.2 ⟨xs[i], List.getElem_mem hi', rfl⟩) m hm
theorem choose_list {α : Type} {Q : Nat → α → Prop} : ∀ (n : Nat), (∀ i, i < n → ∃ a, Q i a) → ∃ al : List α, al.length = n ∧ ∀ i (h : i < al.length), Q i al[i]
  | 0, _ => ⟨[], rfl, fun i h => absurd h (Nat.not_lt_zero i)⟩
  | n + 1, h => by
    obtain ⟨al, hl, ha⟩ := choose_list n fun i hi => h i (by omega)
    obtain ⟨a, hq⟩ := h n (by omega)
    refine ⟨al ++ [a], by simp [hl], fun i hi => ?_⟩
    rcases Nat.lt_or_ge i al.length with q | q
    · rw [List.getElem_append_left q]; exact ha i q
    · have : i = n := by simp at hi; omega
      subst this
      rw [List.getElem_append_right q]
      simpa [hl] using hq
/-- a slice of things that a list's elements tell -/
theorem opens_slice {α : Type} {t e : TypeId} {z bytes : Nat} {f : α → List Value} {Q : α → Prop} (ht : P.underlying t = some (.slice e)) (hz : P.cellsOf e = z) (hb : P.bytesOf e = bytes) (hb1 : 1 ≤ bytes)
    (hf : ∀ a, (f a).length = z) (hel : Opens enc P w base spare held e fun cs => ∃ a, cs = f a ∧ Q a) :
    Opens enc P w base spare held t fun cs => ∃ s : Sl, cs = [.slice s.A s.n s.c] ∧ ∃ al : List α, Rd w z s (al.flatMap f) ∧ al.length = s.n ∧ (∀ a ∈ al, Q a) ∧ s.n * bytes ≤ 140737488351232 := fun fuel cs x h hw => by
  rcases DataW.trod_slice ht h with ⟨hcs, _⟩ | ⟨a, len, cap, elems, rest, n, _, hcs, hx, _, hlc, hmc, hlen, heach, _, _⟩
  · exact ⟨⟨none, 0, 0⟩, hcs, [], by simpa using rd_nil w z, rfl, by simp, by simp⟩
  · have hwt : (elems.length + rest.length) * bytes ≤ 140737488351232 := by
      have := hw ((elems.length + rest.length) * bytes) (by rw [hx]; simp [DataW.weights, ht, hb])
      exact this
    have hsz : len * bytes ≤ 140737488351232 := by
      refine Nat.le_trans (Nat.mul_le_mul_right _ ?_) hwt
      omega
    have hln : len ≤ 140737488351232 := by
      have : len * 1 ≤ len * bytes := Nat.mul_le_mul_left _ hb1
      omega
    obtain ⟨al, hal, has⟩ := choose_list (α := α) (Q := fun i b => Q b ∧ Cells w (a.add (i * z)) (f b)) len fun i hi => by
      have hi' : i < elems.length := by omega
      have he := heach i hi
      rw [List.getElem?_eq_getElem hi', hz] at he
      obtain ⟨vs, hvs, hr⟩ := Option.bind_eq_some_iff.1 he
      obtain ⟨hvl, hvc⟩ := cells_of hvs
      obtain ⟨b, hb1, hb2⟩ := hel n vs _ hr fun m hm => hw m (by
        rw [hx]
        simp only [DataW.weights, ht, List.mem_cons, List.mem_append]
        exact .inr (.inl (mem_weightsAll (List.mem_map.2 ⟨elems[i], List.getElem_mem hi', rfl⟩) m hm)))
      exact ⟨b, hb2, hb1 ▸ hvc⟩
    refine ⟨⟨some a, len, cap⟩, hcs, al, ⟨by rw [flat_length hf, hal], hlc, by show len ≤ _; omega, fun _ => ⟨a, rfl, fun j v hj => ?_⟩⟩, hal, fun b hbm => ?_, hsz⟩
    · have hz0 : 0 < z := by
        rcases Nat.eq_zero_or_pos z with e0 | e0
        · exfalso
          have := (List.getElem?_eq_some_iff.1 hj).1
          rw [flat_length hf, e0] at this
          omega
        · exact e0
      have hjl : j < al.length * z := by rw [← flat_length hf]; exact (List.getElem?_eq_some_iff.1 hj).1
      have hq : j / z < al.length := Nat.div_lt_of_lt_mul (by rw [Nat.mul_comm]; exact hjl)
      have hfe := flat_elem hf hq
      have hjz : j / z * z + j % z = j := by rw [Nat.mul_comm]; exact Nat.div_add_mod j z
      have hcell := (has (j / z) hq).2 (j % z) v (by
        rw [← hfe, List.getElem?_take, if_pos (Nat.mod_lt _ hz0), List.getElem?_drop, hjz]; exact hj)
      rw [addr_add, hjz] at hcell
      exact hcell
    · obtain ⟨i, hi, rfl⟩ := List.getElem_of_mem hbm
      exact (has i hi).1
theorem Opens.mono {t : TypeId} {Φ Ψ : List Value → Prop} (h : Opens enc P w base spare held t Φ) (hi : ∀ cs, Φ cs → Ψ cs) : Opens enc P w base spare held t Ψ := fun n cs x ht hl => hi cs (h n cs x ht hl)
theorem flat_bv (l : L8) : l.flatMap (fun b => [Value.int .u8 (b.toNat : Int)]) = bv l := by
  unfold bv
  induction l with
  | nil => rfl
  | cons a r ih => simp only [List.flatMap_cons, ih, List.map_cons, List.singleton_append]
theorem opens_bytes {t e : TypeId} (ht : P.underlying t = some (.slice e)) (he : P.underlying e = some (.int .u8)) (hz : P.cellsOf e = 1) (hb : P.bytesOf e = 1) :
    Opens enc P w base spare held t fun cs => ∃ s : Sl, cs = [.slice s.A s.n s.c] ∧ ∃ l : L8, Rd w 1 s (bv l) ∧ l.length = s.n ∧ s.n ≤ 140737488351232 := by
  refine (opens_slice (f := fun b : UInt8 => [Value.int .u8 (b.toNat : Int)]) (Q := fun _ => True) ht hz hb (Nat.le_refl _) (fun _ => rfl) ((opens_u8 he).mono fun cs ⟨b, h⟩ => ⟨b, h, trivial⟩)).mono ?_
  rintro cs ⟨s, h1, al, h2, h3, _, h4⟩
  exact ⟨s, h1, al, by rw [← flat_bv]; exact h2, h3, by omega⟩
/-- a plain cell within reach -/
def okV : Value → Prop
  | .int k n => (Lit.int k n).wf = true
  | .string s => s.size ≤ 140737488351232
  | _ => True
theorem sizeT_cells (t : TypeId) : P.cellsOf t = sizeT P t := by
  unfold Program.cellsOf sizeT
  cases P.info? t <;> rfl
theorem FitL.join : ∀ {ks ls : List Kd} {a b : List Value}, FitL ks a → FitL ls b → FitL (ks ++ ls) (a ++ b)
  | [], _, [], _, _, h => h
  | _ :: _, _, _ :: _, _, h, h' => ⟨h.1, FitL.join h.2 h'⟩
  | [], _, _ :: _, _, h, _ => h.elim
  | _ :: _, _, [], _, h, _ => h.elim
theorem flatFs_opens {rec : TypeId → Option (List Kd)} {cs : List Value} : ∀ (l : List Field) (off : Nat) (ks : List Kd), flatFs rec P l off = some ks →
    (∀ f ∈ l, ∀ ls, rec f.type = some ls → P.cellsOf f.type = ls.length → FitL ls ((cs.drop f.offset).take ls.length) ∧ ∀ v ∈ (cs.drop f.offset).take ls.length, okV v) →
    FitL ks ((cs.drop off).take ks.length) ∧ ∀ v ∈ (cs.drop off).take ks.length, okV v
  | [], off, ks, h, _ => by
    simp only [flatFs, Option.some.injEq] at h
    subst h
    exact ⟨by simp [FitL], by simp⟩
  | f :: r, off, ks, h, hf => by
    simp only [flatFs] at h
    split at h
    · rename_i ks1 h1 h2 h3
      split at h
      · rename_i l h4 h5
        simp only [Option.some.injEq] at h
        subst h
        have ho : f.offset = off := Nat.eq_of_beq_eq_true h2
        have hz : sizeT P f.type = ks1.length := Nat.eq_of_beq_eq_true h4
        obtain ⟨a1, a2⟩ := hf f (by simp) ks1 h3 (by rw [sizeT_cells, hz])
        obtain ⟨b1, b2⟩ := flatFs_opens r (off + ks1.length) l h5 fun g hg => hf g (by simp [hg])
        rw [ho] at a1 a2
        have e : (cs.drop off).take (ks1 ++ l).length = (cs.drop off).take ks1.length ++ (cs.drop (off + ks1.length)).take l.length := by
          rw [List.length_append, List.take_add, List.drop_drop]
        rw [e]
        refine ⟨a1.join b1, fun v hv => ?_⟩
        rcases List.mem_append.1 hv with q | q
        · exact a2 v q
        · exact b2 v q
      · cases h
    · cases h
theorem repK_opens {ks : List Kd} : ∀ (n : Nat) (cs : List Value), cs.length = n * ks.length → (∀ i, i < n → FitL ks ((cs.drop (i * ks.length)).take ks.length)) → FitL (repK n ks) cs
  | 0, cs, hl, _ => by
    have : cs = [] := List.eq_nil_of_length_eq_zero (by simpa using hl)
    subst this; trivial
  | n + 1, cs, hl, h => by
    have h0 := h 0 (by omega)
    rw [Nat.zero_mul, List.drop_zero] at h0
    have hr := repK_opens (ks := ks) n (cs.drop ks.length) (by rw [List.length_drop, hl, Nat.succ_mul]; omega) fun i hi => by
      have := h (i + 1) (by omega)
      rwa [Nat.succ_mul, Nat.add_comm, ← List.drop_drop] at this
    have := h0.join hr
    rwa [List.take_append_drop] at this
theorem opens_flat : ∀ (d : Nat) (t : TypeId) (ks : List Kd), flatK P d t = some ks → P.cellsOf t = ks.length → Opens enc P w base spare held t fun cs => FitL ks cs ∧ ∀ v ∈ cs, okV v
  | 0, t, ks, h, _ => by cases h
  | d + 1, t, ks, h, hz => by
    unfold flatK at h
    split at h
    · rename_i hu
      cases h
      refine (opens_bool hu).mono ?_
      rintro cs ⟨b, rfl⟩
      exact ⟨⟨rfl, trivial⟩, by simp [okV]⟩
    · rename_i k hu
      cases h
      refine (opens_int hu).mono ?_
      rintro cs ⟨b, rfl, hw⟩
      exact ⟨⟨by simp only [Kd.fit]; cases k <;> rfl, trivial⟩, by simpa [okV] using hw⟩
    · rename_i hu
      cases h
      refine (opens_str hu).mono ?_
      rintro cs ⟨b, rfl, hw⟩
      exact ⟨⟨rfl, trivial⟩, by simpa [okV, size_str] using hw⟩
    · rename_i fs hu
      split at h
      · intro n cs x hx hw
        obtain ⟨xs, n', _, hxe, hcl, hxl, heach⟩ := DataW.trod_struct hu hx
        have := flatFs_opens (P := P) (cs := cs) fs.toList 0 ks h ?_
        · rw [List.drop_zero, ← hz, ← hcl, List.take_length] at this
          exact this
        · intro f hf ls hls hlz
          obtain ⟨i, hi, rfl⟩ := List.getElem_of_mem hf
          have hi' : i < fs.size := by simpa using hi
          have hfi : fs[i]? = some fs.toList[i] := by rw [Array.getElem?_eq_getElem hi']; rfl
          have hix : i < xs.length := by rw [hxl]; exact hi'
          have he := heach i _ hfi
          rw [List.getElem?_eq_getElem hix, hlz] at he
          refine opens_flat d _ ls hls hlz n' _ _ he fun m hm => hw m ?_
          rw [hxe]
          show m ∈ DataW.weights P t (.agg (xs.map (·.1)))
          rw [DataW.weights, hu]
          refine DataW.weights_mem_each (j := i) (t := fs.toList[i].type) (d := xs[i].1) ?_ ?_ m hm
          · rw [List.getElem?_map, List.getElem?_eq_getElem hi]; rfl
          · rw [List.getElem?_map, List.getElem?_eq_getElem hix]; rfl
      · cases h
    · rename_i k e hu
      split at h
      · rename_i ls hls
        split at h
        · rename_i hbe
          cases h
          have hze : P.cellsOf e = ls.length := by rw [sizeT_cells]; exact Nat.eq_of_beq_eq_true hbe
          refine (opens_array hu (opens_flat d e ls hls hze)).mono ?_
          rintro cs ⟨hcl, hall⟩
          rw [hz, repK_length] at hcl
          rw [hze] at hall
          refine ⟨repK_opens k cs hcl fun i hi => (hall i hi).1, fun v hv => ?_⟩
          obtain ⟨j, hj, rfl⟩ := List.getElem_of_mem hv
          have hl0 : 0 < ls.length := by
            rcases Nat.eq_zero_or_pos ls.length with q | q
            · rw [hcl, q] at hj; omega
            · exact q
          have hq : j / ls.length < k := Nat.div_lt_of_lt_mul (by rw [Nat.mul_comm, ← hcl]; exact hj)
          refine (hall _ hq).2 _ (List.mem_iff_getElem?.2 ⟨j % ls.length, ?_⟩)
          rw [List.getElem?_take, if_pos (Nat.mod_lt _ hl0), List.getElem?_drop, Nat.mul_comm, Nat.div_add_mod, List.getElem?_eq_getElem hj]
        · cases h
      · cases h
    · cases h
end
/-- the cells of a value at whole: one of its own is the value -/
theorem one_cell_val {v u : Value} (h : v.cells.toList = [u]) (hf : ∀ g, v ≠ .agg g) : v = u := by
  cases v <;> simp_all [Value.cells]
theorem below_of_call {P : Program} {f : FuncId} {args : Array Value} {w : World} (h : CallK P f args w [.b] fun b w' => b = true ∧ Grow w w') :
    Calls P f args w fun e w' => e = .returned (.bool true) ∧ Below w.heap.size w w' :=
  h.mono fun e w' hx => by
    obtain ⟨x, hx, hb, hg⟩ := hx
    have hb : x = true := hb
    subst hb
    exact ⟨hx, Keep.below hg⟩
end Go.Proofs.YtaneeadpjelomaaDoor.CF

/- Rules of maps with strings for keys. -/
namespace Go.Proofs.YtaneeadpjelomaaDoor.CF
open Go Go.RowKit

/-- all keys are strings -/
def SKeys (es : List MapEntry) : Prop := ∀ e ∈ es, ∃ s, e.key = .string s
def sidx : List MapEntry → ByteArray → Nat → Option (Nat × Value)
  | [], _, _ => none
  | e :: r, s, i => match e.key with
    | .string t => if s = t then some (i, e.val) else sidx r s (i + 1)
    | _ => sidx r s (i + 1)
def sget (es : List MapEntry) (s : ByteArray) : Option Value := (sidx es s 0).map (·.2)
theorem findNow_str {s : ByteArray} : ∀ {es : List MapEntry} (i : Nat), SKeys es → Instr.findNow .string (.string s) es i = some (sidx es s i)
  | [], _, _ => rfl
  | e :: r, i, h => by
    obtain ⟨t, ht⟩ := h e (by simp)
    have ih := findNow_str (s := s) (i + 1) (fun x hx => h x (by simp [hx]) : SKeys r)
    unfold Instr.findNow sidx
    rw [ht]
    simp only [Instr.sameNow]
    by_cases e : s = t
    · have : (s == t) = true := (MapKept.bytes_beq s t).2 e
      rw [this]
      simp only [if_pos e]
    · have : (s == t) = false := Bool.eq_false_iff.2 fun q => e ((MapKept.bytes_beq s t).1 q)
      rw [this]
      simp only [if_neg e]
      exact ih
theorem sidx_shift {s : ByteArray} : ∀ (es : List MapEntry) (i j : Nat), sidx es s (i + j) = (sidx es s i).map fun p => (p.1 + j, p.2)
  | [], _, _ => rfl
  | e :: r, i, j => by
    unfold sidx
    have := sidx_shift (s := s) r (i + 1) j
    rw [show i + 1 + j = i + j + 1 by omega] at this
    cases e.key with
    | string t => by_cases q : s = t <;> simp [q, this]
    | _ => simpa using this
theorem sget_nil (s : ByteArray) : sget [] s = none := rfl
theorem sget_cons {e : MapEntry} {r : List MapEntry} {t : ByteArray} (h : e.key = .string t) (s : ByteArray) : sget (e :: r) s = if s = t then some e.val else sget r s := by
  unfold sget
  conv => lhs; unfold sidx
  rw [h]
  by_cases q : s = t
  · simp [q]
  · simp only [if_neg q]
    rw [sidx_shift r 0 1, Option.map_map]
    rfl
theorem sget_push {es : List MapEntry} {s : ByteArray} {e : MapEntry} (hk : SKeys es) (he : e.key = .string s) (hn : sget es s = none) (t : ByteArray) :
    sget (es ++ [e]) t = if t = s then some e.val else sget es t := by
  induction es with
  | nil => rw [List.nil_append, sget_cons he]
  | cons x r ih =>
    obtain ⟨u, hu⟩ := hk x (by simp)
    rw [sget_cons hu] at hn
    rw [List.cons_append, sget_cons hu, sget_cons hu]
    by_cases q : s = u
    · rw [if_pos q] at hn; cases hn
    · rw [if_neg q] at hn
      rw [ih (fun x hx => hk x (by simp [hx])) hn]
      by_cases q1 : t = u
      · by_cases q2 : t = s
        · exact absurd (q2.symm.trans q1) q
        · rw [if_pos q1, if_neg q2, if_pos q1]
      · simp only [if_neg q1]
theorem sget_modify {es : List MapEntry} {s : ByteArray} {i : Nat} {v v' : Value} (hk : SKeys es) (hn : sidx es s 0 = some (i, v)) (t : ByteArray) :
    sget (es.modify i fun e => { e with key := .string s, val := v' }) t = if t = s then some v' else sget es t := by
  induction es generalizing i with
  | nil => cases hn
  | cons x r ih =>
    obtain ⟨u, hu⟩ := hk x (by simp)
    unfold sidx at hn
    rw [hu] at hn
    by_cases q : s = u
    · simp only [if_pos q, Option.some.injEq, Prod.mk.injEq] at hn
      obtain ⟨rfl, _⟩ := hn
      rw [List.modify_zero_cons, sget_cons (t := s) rfl, sget_cons hu]
      by_cases q1 : t = s
      · simp [q1]
      · have q2 : t ≠ u := fun e => q1 (e.trans q.symm)
        simp [q1, q2]
    · simp only [if_neg q] at hn
      rw [sidx_shift r 0 1] at hn
      obtain ⟨p, hp, hpe⟩ := Option.map_eq_some_iff.1 hn
      simp only [Prod.mk.injEq] at hpe
      obtain ⟨rfl, hp2⟩ := hpe
      rw [List.modify_succ_cons, sget_cons hu, sget_cons hu, ih (i := p.1) (fun x hx => hk x (by simp [hx])) (by rw [hp, ← hp2])]
      by_cases q1 : t = u
      · have q2 : t ≠ s := fun e => q (e.symm.trans q1)
        simp [q1, q2]
        exact fun e => absurd e.symm q
      · simp [q1]
theorem skeys_modify {es : List MapEntry} {s : ByteArray} {i : Nat} {v' : Value} (hk : SKeys es) : SKeys (es.modify i fun e => { e with key := .string s, val := v' }) := by
  intro e he
  obtain ⟨j, hj, rfl⟩ := List.getElem_of_mem he
  rw [List.getElem_modify]
  split
  · exact ⟨s, rfl⟩
  · exact hk _ (List.getElem_mem _)
theorem sidx_at {es : Array MapEntry} {s : ByteArray} {i j : Nat} {v : Value} (hs : SKeys es.toList) (h : sidx es.toList s j = some (j + i, v)) : ∃ e0, es[i]? = some e0 ∧ e0.key = .string s := by
  rw [← Array.getElem?_toList]
  generalize es.toList = l at *
  induction l generalizing i j with
  | nil => cases h
  | cons x r ih =>
    obtain ⟨u, hu⟩ := hs x (by simp)
    unfold sidx at h
    rw [hu] at h
    by_cases q : s = u
    · simp only [if_pos q, Option.some.injEq, Prod.mk.injEq] at h
      have : i = 0 := by omega
      subst this
      exact ⟨x, rfl, by rw [hu, q]⟩
    · simp only [if_neg q] at h
      have hi : 0 < i := by
        rw [show j + 1 = 0 + (j + 1) by omega, sidx_shift] at h
        obtain ⟨p, _, hp⟩ := Option.map_eq_some_iff.1 h
        simp only [Prod.mk.injEq] at hp
        omega
      obtain ⟨i', rfl⟩ : ∃ i', i = i' + 1 := ⟨i - 1, by omega⟩
      rw [List.getElem?_cons_succ]
      exact ih (j := j + 1) (fun y hy => hs y (by simp [hy])) (by rw [h]; congr 2; omega)
/-- a map that holds these values -/
def SMap (w : World) (b : Nat) (m : ByteArray → Option Value) : Prop :=
  ∃ es clock, w.heap[b]? = some (.map es clock) ∧ SKeys es.toList ∧ ∀ s, sget es.toList s = m s
def upd (m : ByteArray → Option Value) (s : ByteArray) (v : Value) : ByteArray → Option Value := fun t => if t = s then some v else m t
theorem SMap.keep {S : Nat → Prop} {w w' : World} {b : Nat} {m : ByteArray → Option Value} (h : SMap w b m) (k : Keep S w w') (hn : ¬ S b) : SMap w' b m := by
  obtain ⟨es, c, h1, h2⟩ := h
  exact ⟨es, c, k.heap h1 hn, h2⟩
theorem smap_new (w : World) : SMap (w.alloc (.map #[] 0)) w.heap.size fun _ => none :=
  ⟨#[], 0, by show (w.heap.push _)[w.heap.size]? = _; simp, fun e he => by simp at he, fun s => rfl⟩
section
variable {P : Program} {w : World} {b : Nat} {m : ByteArray → Option Value} {t k e : TypeId}
theorem run_getMap {es : Array MapEntry} {clock : Nat} (h : w.heap[b]? = some (.map es clock)) : (getObj b).run P w = .ok (.map es clock) w := by
  simp [getObj, Sem.run, h]
theorem checkKey_str (ek : Bool) (n : Nat) (hk : P.underlying k = some .string) (s : ByteArray) : (Instr.checkKey ek (n + 1) k (.string s)).run P w = .ok () w := by
  unfold Instr.checkKey
  simp [run_underlying hk]
theorem findKey_str {es : List MapEntry} (hk : P.underlying k = some .string) (hs : SKeys es) (s : ByteArray) : (Instr.findKey k (.string s) es).run P w = .ok (sidx es s 0) w := by
  unfold Instr.findKey
  simp [run_underlying hk, findNow_str 0 hs]
theorem look_rule (ht : P.underlying t = some (.map k e)) (hk : P.underlying k = some .string) {zv : Value} (hz : (zeroValue e).run P w = .ok zv w) (h : SMap w b m) (s : ByteArray) :
    (Instr.lookup t (.map (some b)) (.string s) true).run P w = .ok (.tuple #[(m s).getD zv, .bool (m s).isSome]) w ∧
    (Instr.lookup t (.map (some b)) (.string s) false).run P w = .ok ((m s).getD zv) w := by
  obtain ⟨es, c, hb, hs, hm⟩ := h
  have := hm s
  unfold sget at this
  unfold Instr.lookup
  constructor
  · cases hi : sidx es.toList s 0 with
    | none =>
      rw [hi] at this
      simp only [Option.map_none] at this
      rw [← this]
      simp [run_underlying ht, run_getMap hb, checkKey_str _ _ hk, findKey_str hk hs, hi, hz]
    | some p =>
      rw [hi] at this
      simp only [Option.map_some] at this
      rw [← this]
      simp [run_underlying ht, run_getMap hb, checkKey_str _ _ hk, findKey_str hk hs, hi]
  · cases hi : sidx es.toList s 0 with
    | none =>
      rw [hi] at this
      simp only [Option.map_none] at this
      rw [← this]
      simp [run_underlying ht, run_getMap hb, checkKey_str _ _ hk, findKey_str hk hs, hi, hz]
    | some p =>
      rw [hi] at this
      simp only [Option.map_some] at this
      rw [← this]
      simp [run_underlying ht, run_getMap hb, checkKey_str _ _ hk, findKey_str hk hs, hi]
theorem run_setMap {o : Obj} {es : Array MapEntry} {c : Nat} (h : w.heap[b]? = some (.map es c)) : (setObj b o).run P w = .ok () { w with heap := w.heap.setIfInBounds b o } := by
  simp [setObj, Sem.run, h]
/-- a value under a key -/
theorem upd_rule (ht : P.underlying t = some (.map k e)) (hk : P.underlying k = some .string) (h : SMap w b m) (s : ByteArray) (v : Value)
    {K : World → Prop} (hK : ∀ w1, SMap w1 b (upd m s v) → Keep (fun k => k = b) w w1 → w1.heap.size = w.heap.size → K w1) : RunU P (Instr.mapUpdate t (.map (some b)) (.string s) v) w K := by
  obtain ⟨es, c, hb, hs, hm⟩ := h
  have hlt := lt_of_heap hb
  have hget : ∀ (o : Obj), ({ w with heap := w.heap.setIfInBounds b o } : World).heap[b]? = some o := fun o => by
    simp [hlt]
  have hkeep : ∀ (o : Obj), Keep (fun k => k = b) w { w with heap := w.heap.setIfInBounds b o } := fun o =>
    ⟨rfl, rfl, rfl, by simp, fun k _ hn => by simp [Array.getElem?_setIfInBounds, Ne.symm hn]⟩
  cases hi : sidx es.toList s 0 with
  | none =>
    have hn : sget es.toList s = none := by unfold sget; rw [hi]; rfl
    refine ⟨_, ?_, hK { w with heap := w.heap.setIfInBounds b (.map (es.push { key := .string s, val := v, born := c }) (c + 1)) } ⟨_, _, hget _, ?_, fun t => ?_⟩ (hkeep _) (by simp)⟩
    · unfold Instr.mapUpdate
      simp [run_underlying ht, run_getMap hb, checkKey_str _ _ hk, findKey_str hk hs, hi, run_setMap hb]
    · intro e he
      rw [Array.toList_push, List.mem_append, List.mem_singleton] at he
      rcases he with he | rfl
      · exact hs e he
      · exact ⟨s, rfl⟩
    · rw [Array.toList_push, sget_push hs rfl hn]
      unfold upd
      rw [hm]
  | some p =>
    obtain ⟨i, v0⟩ := p
    have hold : ∃ e0, es[i]? = some e0 ∧ e0.key = .string s := sidx_at (j := 0) hs (by rw [hi, Nat.zero_add])
    obtain ⟨e0, he0, hk0⟩ := hold
    refine ⟨_, ?_, hK { w with heap := w.heap.setIfInBounds b (.map (es.modify i fun e => { e with key := .string s, val := v }) c) } ⟨_, _, hget _, ?_, fun t => ?_⟩ (hkeep _) (by simp)⟩
    · unfold Instr.mapUpdate
      simp [run_underlying ht, run_getMap hb, checkKey_str _ _ hk, findKey_str hk hs, hi, run_setMap hb, he0, hk0, Instr.keyThatStays, Instr.sameBits, (MapKept.bytes_beq s s).2 rfl]
    · rw [Array.toList_modify]; exact skeys_modify hs
    · rw [Array.toList_modify, sget_modify hs hi]
      unfold upd
      rw [hm]
end
end Go.Proofs.YtaneeadpjelomaaDoor.CF

/- Rules: bytes copied into a row of one's own. -/
namespace Go.Proofs.YtaneeadpjelomaaDoor.CF
open Go Go.RowKit

theorem copy_rule {P : Program} {w : World} {base : Nat} {t ty e : TypeId} {zv : Option Value} {bytes : Nat} (ht : P.underlying t = some (.slice e)) (hinfo : (P.info? e).map (fun i => (i.zero, i.size, i.bytes)) = some (zv, 1, bytes))
    {f x : Sl} {F xs : List Value} {o : Nat} (hf : Own w base e 1 f F) (hx : Rd w 1 x xs) (h1 : ∀ u ∈ xs, u.oneCell' = true) (ho : o + x.n ≤ f.n)
    {K : Int → World → Prop} (h : ∀ w', Own w' base e 1 f (F.take o ++ xs ++ F.drop (o + x.n)) → Keep (fun k => some k = f.blk) w w' → w'.heap.size = w.heap.size → K (x.n : Int) w') :
    RunK P (.i .i64) (Builtin.copy_ #[t, t] ty #[.slice (cutA f.A f.c o 1) (f.n - o) (f.c - o), .slice x.A x.n x.c]) w K := by
  have hs : (P.info? e).map (·.size) = some 1 := by
    obtain ⟨i, hi, hzz⟩ := Option.map_eq_some_iff.1 hinfo
    simp only [Prod.mk.injEq] at hzz
    rw [hi, Option.map_some, hzz.2.1]
  have hFl : F.length = f.n := by have := hf.len; omega
  have hxl : xs.length = x.n := by have := hx.len; omega
  rcases Nat.eq_zero_or_pos x.n with h0 | hpos
  · have hx0 : xs = [] := List.eq_nil_of_length_eq_zero (by omega)
    refine ⟨(x.n : Int), w, ?_, h w ?_ (Keep.refl _ _) rfl⟩
    · rw [run_copy_none (P := P) w t t ty e _ _ _ _ _ _ ht hs (by rw [h0]; exact Nat.zero_min _), h0]; rfl
    · rw [hx0, h0, List.append_nil, Nat.add_zero, List.take_append_drop]; exact hf
  · obtain ⟨hlen, hown⟩ := hf
    rcases hown with ⟨h2, hn0⟩ | ⟨g, cap, cur, hv, hbg, hg, hnc, hcm, hcs, htake⟩
    · omega
    · injection hv with hA hN hC
      have hne : xs ≠ [] := fun e => by rw [e] at hxl; simp at hxl; omega
      obtain ⟨a, ha, hc⟩ := hx.at_ hne
      have hcA : cutA f.A f.c o 1 = some ⟨g, o, none⟩ := by
        unfold cutA
        rw [if_neg (by omega), hA]
        simp [Addr.add]
        omega
      have hcs' : cur.size = cap := by simpa using hcs
      have hmin : xs.length = Nat.min x.n (f.n - o) := by
        have : Nat.min x.n (f.n - o) = x.n := Nat.min_eq_left (by omega)
        omega
      have hr := run_copy_row (P := P) w t t ty e g o (f.n - o) (f.c - o) a x.n x.c cur e xs ht hs hg hmin hc (by omega) h1
      rw [hcA, ha]
      refine ⟨(x.n : Int), _, by rw [hr, hxl]; rfl, h _ ⟨?_, .inr ⟨g, cap, _, by rw [hA, hC], hbg, setRow_heap w g cur _ e _ hg, hnc, hcm, ?_, ?_⟩⟩ ⟨rfl, rfl, rfl, by simp, fun k _ hk => setRow_other w g k _ (fun e => hk (by simp [Sl.blk, hA, e]))⟩ (by simp)⟩
      · simp only [List.length_append, List.length_take, List.length_drop]
        omega
      · simp only [List.size_toArray, List.length_append, List.length_take, List.length_drop, Array.length_toList]
        omega
      · have hF : cur.toList.take (f.n * 1) = F := htake
        rw [Nat.mul_one] at hF ⊢
        rw [← hF]
        apply List.ext_getElem?
        intro j
        simp only [List.getElem?_take, List.getElem?_append, List.length_append, List.length_take, Array.length_toList, List.getElem?_drop, hxl]
        have e1 : min o cur.size = o := by omega
        have e2 : min o (min f.n cur.size) = o := by omega
        simp only [e1, e2]
        by_cases q1 : j < o
        · have q2 : j < o + x.n := by omega
          have q3 : j < f.n := by omega
          simp only [if_pos q1, if_pos q2, if_pos q3]
        · by_cases q2 : j < o + x.n
          · have q3 : j < f.n := by omega
            simp only [if_neg q1, if_pos q2, if_pos q3]
          · by_cases q3 : j < f.n
            · have q4 : o + x.n + (j - (o + x.n)) < f.n := by omega
              simp only [if_neg q2, if_pos q3, if_pos q4]
            · have q4 : ¬ o + x.n + (j - (o + x.n)) < f.n := by omega
              simp only [if_neg q2, if_neg q3, if_neg q4]
end Go.Proofs.YtaneeadpjelomaaDoor.CF

-- printed by wip/cf/cfprint.py
namespace Go.Proofs.YtaneeadpjelomaaDoor
open Go CF
def cs : List Nat := [3, 4, 5, 6, 7, 8, 9, 10, 11, 12, 13, 14, 15, 16, 17, 18, 19, 20, 21, 22, 23, 24, 25, 26, 27, 28, 29, 30, 31, 32, 33, 34, 35, 36, 37, 38, 39, 40, 41, 42, 43, 44, 45, 46, 47, 48, 49, 50, 51, 52, 53, 54, 55, 56, 57, 58, 59, 60, 61, 62, 63, 64, 65, 66, 67, 68, 69, 70, 71, 72, 73, 74, 75, 76, 77, 78, 79, 80, 81, 82, 83, 84, 85, 86, 87, 88, 89, 90, 91, 92, 93, 94, 96]
def okCalls (P : Program) : List Nat → Bool
  | [] => true
  | f :: r => (match P.funcs[f]? with | some fn => !(fn.name == "runtime.NumGoroutine") && !fn.body.isNone | none => false) && okCalls P r
theorem okCalls_ok {P : Program} : ∀ {l : List Nat}, okCalls P l = true → Callable P l
  | [], _, f, h => by cases h
  | g :: r, hok, f, h => by
    simp only [okCalls, Bool.and_eq_true] at hok
    simp only [memN, Bool.or_eq_true] at h
    rcases h with h | h
    · have e : g = f := Nat.eq_of_beq_eq_true h
      subst e
      have h1 := hok.1
      split at h1
      · rename_i fn hf
        simp only [Bool.and_eq_true, Bool.not_eq_true'] at h1
        exact ⟨fn, hf, h1.1, h1.2⟩
      · cases h1
    · exact okCalls_ok hok.2 f h
theorem callable : Callable Tryd.prog cs := okCalls_ok (by kernel_rfl)
theorem wide : Tryd.prog.follows .mixedOrders = true := by kernel_rfl
noncomputable def G : Gen := gen Tryd.prog cs
def s_a : ByteArray := ⟨#[97]⟩
def s_b : ByteArray := ⟨#[98]⟩
def s_c : ByteArray := ⟨#[99]⟩
def s_S : ByteArray := ⟨#[83]⟩
def s_x20 : ByteArray := ⟨#[32]⟩
def Cpalletlaw15_XcopyReads (p0 : Sl) (w : World) (R : Bool → World → Prop) : Prop := CallK Tryd.prog 3 #[.slice p0.A p0.n p0.c] w [.b] R
def Cpalletlaw15_XcopyBytes (p0 : Array Value) (w : World) (R : Bool → World → Prop) : Prop := CallK Tryd.prog 4 #[.agg p0] w [.b] R
def Cpalletlaw15_XcopySpoils (p0 : Array Value) (p1 : Int) (p2 : Int) (w : World) (R : Bool → World → Prop) : Prop := CallK Tryd.prog 5 #[.agg p0, .int .u16 p1, .int .u8 p2] w [.b] R
def Cpalletlaw15_XcopyMoves (p0 : Sl) (p1 : Int) (p2 : Int) (p3 : Int) (w : World) (R : Bool → World → Prop) : Prop := CallK Tryd.prog 6 #[.slice p0.A p0.n p0.c, .int .u8 p1, .int .u8 p2, .int .u8 p3] w [.b] R
def Cpalletlaw15_XcopyStops (p0 : Sl) (p1 : Int) (p2 : Bool) (w : World) (R : Bool → World → Prop) : Prop := CallK Tryd.prog 7 #[.slice p0.A p0.n p0.c, .int .u8 p1, .bool p2] w [.b] R
def Cpalletlaw15_awake (w : World) (R : Bool → World → Prop) : Prop := CallK Tryd.prog 8 #[] w [.b] R
def Cxcopy_Parse (p0 : Sl) (w : World) (R : (Array Value) → (Array Value) → Bool → World → Prop) : Prop := CallK Tryd.prog 9 #[.slice p0.A p0.n p0.c] w [.ag, .ag, .b] R
def Cpalletref15_Parse (p0 : Sl) (w : World) (R : (Array Value) → (Array Value) → Bool → World → Prop) : Prop := CallK Tryd.prog 10 #[.slice p0.A p0.n p0.c] w [.ag, .ag, .b] R
def Cpalletlaw15_same (p0 : Array Value) (p1 : Array Value) (w : World) (R : Bool → World → Prop) : Prop := CallK Tryd.prog 11 #[.agg p0, .agg p1] w [.b] R
def Cxcopy_Bytes (p0 : Array Value) (w : World) (R : Sl → Int → World → Prop) : Prop := CallK Tryd.prog 12 #[.agg p0] w [.sl, .i .i64] R
def Cpalletref15_Bytes (p0 : Array Value) (w : World) (R : Sl → Int → World → Prop) : Prop := CallK Tryd.prog 13 #[.agg p0] w [.sl, .i .i64] R
def Cpalletlaw15_of (p0 : Array Value) (w : World) (R : (Array Value) → World → Prop) : Prop := CallK Tryd.prog 14 #[.agg p0] w [.ag] R
def Cpalletlaw15_pair (p0 : Int) (w : World) (R : Sl → Sl → (Option Addr) → (Option Addr) → World → Prop) : Prop := CallK Tryd.prog 15 #[.int .i64 p0] w [.sl, .sl, .p, .p] R
def Csbc_Dev_Do (p0 : Option Addr) (p1 : Array Value) (p2 : Sl) (w : World) (R : (Array Value) → World → Prop) : Prop := CallK Tryd.prog 16 #[.pointer p0, .agg p1, .slice p2.A p2.n p2.c] w [.ag] R
def Cxcopy_Run (p0 : Array Value) (p1 : Sl) (w : World) (R : Int → (Array Value) → World → Prop) : Prop := CallK Tryd.prog 17 #[.agg p0, .slice p1.A p1.n p1.c] w [.i .i64, .ag] R
def Cxcopy_bad (p0 : Int) (p1 : Int) (w : World) (R : (Array Value) → World → Prop) : Prop := CallK Tryd.prog 18 #[.int .u16 p0, .int .i64 p1] w [.ag] R
def Cxcopy_number (p0 : Sl) (p1 : Int) (p2 : Int) (w : World) (R : Int → World → Prop) : Prop := CallK Tryd.prog 19 #[.slice p0.A p0.n p0.c, .int .i64 p1, .int .i64 p2] w [.i .i64] R
def Cxcopy_unit (p0 : Sl) (w : World) (R : ByteArray → Int → World → Prop) : Prop := CallK Tryd.prog 20 #[.slice p0.A p0.n p0.c] w [.s, .i .i64] R
def Cbe_Get (p0 : Sl) (p1 : Int) (p2 : Int) (w : World) (R : Int → Int → World → Prop) : Prop := CallK Tryd.prog 21 #[.slice p0.A p0.n p0.c, .int .i64 p1, .int .i64 p2] w [.i .u64, .i .i64] R
def Cpalletref15_head (p0 : Sl) (w : World) (R : (Array Value) → Bool → World → Prop) : Prop := CallK Tryd.prog 22 #[.slice p0.A p0.n p0.c] w [.ag, .b] R
def Cpalletref01_Num (p0 : Sl) (p1 : Int) (p2 : Int) (w : World) (R : Int → World → Prop) : Prop := CallK Tryd.prog 23 #[.slice p0.A p0.n p0.c, .int .i64 p1, .int .i64 p2] w [.i .u64] R
def Cpalletref15_fault (p0 : Int) (w : World) (R : (Array Value) → World → Prop) : Prop := CallK Tryd.prog 24 #[.int .i64 p0] w [.ag] R
def Cpalletref15_trim (p0 : Sl) (w : World) (R : ByteArray → World → Prop) : Prop := CallK Tryd.prog 25 #[.slice p0.A p0.n p0.c] w [.s] R
def Cbe_Put (p0 : Sl) (p1 : Int) (p2 : Int) (p3 : Int) (w : World) (R : Sl → Int → World → Prop) : Prop := CallK Tryd.prog 26 #[.slice p0.A p0.n p0.c, .int .i64 p1, .int .i64 p2, .int .u64 p3] w [.sl, .i .i64] R
def Cstrings_HasSuffix (p0 : ByteArray) (p1 : ByteArray) (w : World) (R : Bool → World → Prop) : Prop := CallK Tryd.prog 27 #[.string p0, .string p1] w [.b] R
def Cpalletref01_Big (p0 : Int) (p1 : Int) (w : World) (R : Sl → World → Prop) : Prop := CallK Tryd.prog 28 #[.int .u64 p0, .int .i64 p1] w [.sl] R
def Cworld_New (w : World) (R : (Option Addr) → World → Prop) : Prop := CallK Tryd.prog 29 #[] w [.p] R
def Cpalletref03_New (w : World) (R : (Option Addr) → World → Prop) : Prop := CallK Tryd.prog 30 #[] w [.p] R
def Cstore_Open (p0 : Option Addr) (p1 : ByteArray) (p2 : Int) (p3 : Bool) (w : World) (R : (Option Addr) → Int → World → Prop) : Prop := CallK Tryd.prog 31 #[.pointer p0, .string p1, .int .i64 p2, .bool p3] w [.p, .i .i64] R
def Csbc_fails (p0 : Array Value) (w : World) (R : (Array Value) → World → Prop) : Prop := CallK Tryd.prog 32 #[.agg p0] w [.ag] R
def Cpi_Known (p0 : Int) (p1 : Int) (w : World) (R : Bool → World → Prop) : Prop := CallK Tryd.prog 33 #[.int .u8 p0, .int .u8 p1] w [.b] R
def Cbe_Within (p0 : Int) (p1 : Int) (p2 : Int) (w : World) (R : Bool → World → Prop) : Prop := CallK Tryd.prog 34 #[.int .u64 p0, .int .u64 p1, .int .u64 p2] w [.b] R
def Csbc_Dev_blocks (p0 : Option Addr) (w : World) (R : Int → World → Prop) : Prop := CallK Tryd.prog 35 #[.pointer p0] w [.i .u64] R
def Csbc_at (p0 : Int) (p1 : Int) (p2 : Int) (w : World) (R : (Array Value) → World → Prop) : Prop := CallK Tryd.prog 36 #[.int .u8 p0, .int .u16 p1, .int .u64 p2] w [.ag] R
def Csbc_Dev_read (p0 : Option Addr) (p1 : Array Value) (w : World) (R : Sl → (Array Value) → Bool → World → Prop) : Prop := CallK Tryd.prog 37 #[.pointer p0, .agg p1] w [.sl, .ag, .b] R
def Csbc_good (p0 : Sl) (w : World) (R : (Array Value) → World → Prop) : Prop := CallK Tryd.prog 38 #[.slice p0.A p0.n p0.c] w [.ag] R
def Cpi_Pack (p0 : Sl) (p1 : Bool) (w : World) (R : Sl → World → Prop) : Prop := CallK Tryd.prog 39 #[.slice p0.A p0.n p0.c, .bool p1] w [.sl] R
def Csbc_Dev_come (p0 : Option Addr) (p1 : Array Value) (p2 : Sl) (p3 : Int) (w : World) (R : Sl → (Array Value) → Bool → World → Prop) : Prop := CallK Tryd.prog 40 #[.pointer p0, .agg p1, .slice p2.A p2.n p2.c, .int .u64 p3] w [.sl, .ag, .b] R
def Csbc_Dev_write (p0 : Option Addr) (p1 : Int) (p2 : Sl) (p3 : Bool) (w : World) (R : (Array Value) → World → Prop) : Prop := CallK Tryd.prog 41 #[.pointer p0, .int .u64 p1, .slice p2.A p2.n p2.c, .bool p3] w [.ag] R
def Csbc_Dev_verify (p0 : Option Addr) (p1 : Array Value) (p2 : Sl) (w : World) (R : (Array Value) → World → Prop) : Prop := CallK Tryd.prog 42 #[.pointer p0, .agg p1, .slice p2.A p2.n p2.c] w [.ag] R
def Cstore_Store_Sync (p0 : Option Addr) (w : World) (R : Int → World → Prop) : Prop := CallK Tryd.prog 43 #[.pointer p0] w [.i .i64] R
def Csbc_Dev_same (p0 : Option Addr) (p1 : Array Value) (p2 : Sl) (w : World) (R : (Array Value) → World → Prop) : Prop := CallK Tryd.prog 44 #[.pointer p0, .agg p1, .slice p2.A p2.n p2.c] w [.ag] R
def Csbc_Dev_unmap (p0 : Option Addr) (p1 : Sl) (w : World) (R : (Array Value) → World → Prop) : Prop := CallK Tryd.prog 45 #[.pointer p0, .slice p1.A p1.n p1.c] w [.ag] R
def Csbc_Dev_compare (p0 : Option Addr) (p1 : Array Value) (p2 : Sl) (w : World) (R : (Array Value) → World → Prop) : Prop := CallK Tryd.prog 46 #[.pointer p0, .agg p1, .slice p2.A p2.n p2.c] w [.ag] R
def Csbc_Dev_capacity (p0 : Option Addr) (p1 : Array Value) (w : World) (R : (Array Value) → World → Prop) : Prop := CallK Tryd.prog 47 #[.pointer p0, .agg p1] w [.ag] R
def Cxcopy_Run_1 (p0 : Int) (p1 : Addr) (p2 : Addr) (w : World) (R : (Option Addr) → World → Prop) : Prop := CallK Tryd.prog 48 #[.int .i64 p0, .pointer (some p1), .pointer (some p2)] w [.p] R
def Cpi_Unpack (p0 : Sl) (p1 : Bool) (w : World) (R : Sl → Bool → World → Prop) : Prop := CallK Tryd.prog 49 #[.slice p0.A p0.n p0.c, .bool p1] w [.sl, .b] R
def Cstrings_TrimRight (p0 : ByteArray) (p1 : ByteArray) (w : World) (R : ByteArray → World → Prop) : Prop := CallK Tryd.prog 50 #[.string p0, .string p1] w [.s] R
def Cbe_field (p0 : Sl) (p1 : Int) (p2 : Int) (w : World) (R : Int → World → Prop) : Prop := CallK Tryd.prog 51 #[.slice p0.A p0.n p0.c, .int .i64 p1, .int .i64 p2] w [.i .i64] R
def Cpalletref01_Get (p0 : Sl) (p1 : Int) (p2 : Int) (w : World) (R : Int → Int → World → Prop) : Prop := CallK Tryd.prog 52 #[.slice p0.A p0.n p0.c, .int .i64 p1, .int .i64 p2] w [.i .u64, .i .i64] R
def Cinternal_stringslite_HasSuffix (p0 : ByteArray) (p1 : ByteArray) (w : World) (R : Bool → World → Prop) : Prop := CallK Tryd.prog 53 #[.string p0, .string p1] w [.b] R
def Cstore_Store_Blocks (p0 : Option Addr) (w : World) (R : Int → World → Prop) : Prop := CallK Tryd.prog 54 #[.pointer p0] w [.i .i64] R
def Cstore_Store_Read (p0 : Option Addr) (p1 : Int) (p2 : Int) (w : World) (R : Sl → Int → Int → World → Prop) : Prop := CallK Tryd.prog 55 #[.pointer p0, .int .i64 p1, .int .i64 p2] w [.sl, .i .i64, .i .i64] R
def Cpi_Check (p0 : Int) (p1 : Int) (p2 : Int) (p3 : Array Value) (w : World) (R : Int → World → Prop) : Prop := CallK Tryd.prog 56 #[.int .u8 p0, .int .u8 p1, .int .u64 p2, .agg p3] w [.i .u16] R
def Csbc_length (w : World) (R : (Array Value) → World → Prop) : Prop := CallK Tryd.prog 57 #[] w [.ag] R
def Cpi_Make (p0 : Int) (p1 : Int) (p2 : Array Value) (p3 : Int) (w : World) (R : (Array Value) → World → Prop) : Prop := CallK Tryd.prog 58 #[.int .u8 p0, .int .u64 p1, .agg p2, .int .u16 p3] w [.ag] R
def Cstore_Store_Write (p0 : Option Addr) (p1 : Int) (p2 : Sl) (p3 : Bool) (w : World) (R : Int → Int → World → Prop) : Prop := CallK Tryd.prog 59 #[.pointer p0, .int .i64 p1, .slice p2.A p2.n p2.c, .bool p3] w [.i .i64, .i .i64] R
def Csbc_differ (p0 : Sl) (p1 : Sl) (w : World) (R : Int → World → Prop) : Prop := CallK Tryd.prog 60 #[.slice p0.A p0.n p0.c, .slice p1.A p1.n p1.c] w [.i .i64] R
def Cworld_World_Sync (p0 : Option Addr) (w : World) (R : Int → World → Prop) : Prop := CallK Tryd.prog 61 #[.pointer p0] w [.i .i64] R
def Cstore_Store_Unmap (p0 : Option Addr) (p1 : Int) (p2 : Int) (w : World) (R : Int → Int → World → Prop) : Prop := CallK Tryd.prog 62 #[.pointer p0, .int .i64 p1, .int .i64 p2] w [.i .i64, .i .i64] R
def Cpi_Size (p0 : Bool) (w : World) (R : Int → World → Prop) : Prop := CallK Tryd.prog 63 #[.bool p0] w [.i .i64] R
def Cstrings_trimRightByte (p0 : ByteArray) (p1 : Int) (w : World) (R : ByteArray → World → Prop) : Prop := CallK Tryd.prog 64 #[.string p0, .int .u8 p1] w [.s] R
def Cstrings_makeASCIISet (p0 : ByteArray) (w : World) (R : (Array Value) → Bool → World → Prop) : Prop := CallK Tryd.prog 65 #[.string p0] w [.ag, .b] R
def Cstrings_trimRightASCII (p0 : ByteArray) (p1 : Option Addr) (w : World) (R : ByteArray → World → Prop) : Prop := CallK Tryd.prog 66 #[.string p0, .pointer p1] w [.s] R
def Cstrings_trimRightUnicode (p0 : ByteArray) (p1 : ByteArray) (w : World) (R : ByteArray → World → Prop) : Prop := CallK Tryd.prog 67 #[.string p0, .string p1] w [.s] R
def Cpalletref01_field (p0 : Int) (p1 : Int) (p2 : Int) (w : World) (R : Int → World → Prop) : Prop := CallK Tryd.prog 68 #[.int .i64 p0, .int .i64 p1, .int .i64 p2] w [.i .i64] R
def Cstore_Store_check (p0 : Option Addr) (p1 : Int) (p2 : Int) (w : World) (R : Int → World → Prop) : Prop := CallK Tryd.prog 69 #[.pointer p0, .int .i64 p1, .int .i64 p2] w [.i .i64] R
def Cworld_World_Read (p0 : Option Addr) (p1 : ByteArray) (p2 : Int) (p3 : Int) (w : World) (R : Sl → Int → World → Prop) : Prop := CallK Tryd.prog 70 #[.pointer p0, .string p1, .int .i64 p2, .int .i64 p3] w [.sl, .i .i64] R
def Cstore_block (p0 : Sl) (w : World) (R : (Array Value) → World → Prop) : Prop := CallK Tryd.prog 71 #[.slice p0.A p0.n p0.c] w [.ag] R
def Cpi_escapes (p0 : Int) (p1 : Array Value) (w : World) (R : Bool → World → Prop) : Prop := CallK Tryd.prog 72 #[.int .u8 p0, .agg p1] w [.b] R
def Ccrc_C16 (p0 : Sl) (w : World) (R : Int → World → Prop) : Prop := CallK Tryd.prog 73 #[.slice p0.A p0.n p0.c] w [.i .u16] R
def Cstore_Store_lay (p0 : Option Addr) (p1 : Int) (p2 : Int) (p3 : Value) (p4 : Bool) (w : World) (R : Int → Int → World → Prop) : Prop := CallK Tryd.prog 74 #[.pointer p0, .int .i64 p1, .int .i64 p2, p3, .bool p4] w [.i .i64, .i .i64] R
def Cstore_Store_Write_1 (p0 : Int) (p1 : Addr) (w : World) (R : Sl → World → Prop) : Prop := CallK Tryd.prog 75 #[.int .i64 p0, .pointer (some p1)] w [.sl] R
def Cstore_record (p0 : Array Value) (w : World) (R : Sl → World → Prop) : Prop := CallK Tryd.prog 76 #[.agg p0] w [.sl] R
def Cworld_World_call (p0 : Option Addr) (w : World) (R : Int → World → Prop) : Prop := CallK Tryd.prog 77 #[.pointer p0] w [.i .i64] R
def Cworld_apply (p0 : Option Nat) (p1 : Array Value) (p2 : Int) (w : World) (R : World → Prop) : Prop := CallK Tryd.prog 78 #[.map p0, .agg p1, .int .i64 p2] w [] R
def Cstore_Store_Unmap_1 (p0 : Int) (w : World) (R : Sl → World → Prop) : Prop := CallK Tryd.prog 79 #[.int .i64 p0] w [.sl] R
def Cstrings_asciiSet_contains (p0 : Option Addr) (p1 : Int) (w : World) (R : Bool → World → Prop) : Prop := CallK Tryd.prog 80 #[.pointer p0, .int .u8 p1] w [.b] R
def Cunicode_utf8_DecodeLastRuneInString (p0 : ByteArray) (w : World) (R : Int → Int → World → Prop) : Prop := CallK Tryd.prog 81 #[.string p0] w [.i .i32, .i .i64] R
def Cstrings_ContainsRune (p0 : ByteArray) (p1 : Int) (w : World) (R : Bool → World → Prop) : Prop := CallK Tryd.prog 82 #[.string p0, .int .i32 p1] w [.b] R
def Cworld_name (p0 : ByteArray) (w : World) (R : Bool → World → Prop) : Prop := CallK Tryd.prog 83 #[.string p0] w [.b] R
def Cstore_empty (w : World) (R : (Array Value) → World → Prop) : Prop := CallK Tryd.prog 84 #[] w [.ag] R
def Ccrc_Add16 (p0 : Int) (p1 : Sl) (w : World) (R : Int → World → Prop) : Prop := CallK Tryd.prog 85 #[.int .u16 p0, .slice p1.A p1.n p1.c] w [.i .u16] R
def Cworld_World_Write (p0 : Option Addr) (p1 : ByteArray) (p2 : Int) (p3 : Sl) (w : World) (R : Int → World → Prop) : Prop := CallK Tryd.prog 86 #[.pointer p0, .string p1, .int .i64 p2, .slice p3.A p3.n p3.c] w [.i .i64] R
def Cunicode_utf8_RuneStart (p0 : Int) (w : World) (R : Bool → World → Prop) : Prop := CallK Tryd.prog 87 #[.int .u8 p0] w [.b] R
def Cunicode_utf8_DecodeRuneInString (p0 : ByteArray) (w : World) (R : Int → Int → World → Prop) : Prop := CallK Tryd.prog 88 #[.string p0] w [.i .i32, .i .i64] R
def Cstrings_IndexRune (p0 : ByteArray) (p1 : Int) (w : World) (R : Int → World → Prop) : Prop := CallK Tryd.prog 89 #[.string p0, .int .i32 p1] w [.i .i64] R
def Cworld_World_do (p0 : Option Addr) (p1 : Array Value) (w : World) (R : Int → World → Prop) : Prop := CallK Tryd.prog 90 #[.pointer p0, .agg p1] w [.i .i64] R
def Cunicode_utf8_decodeRuneInStringSlow (p0 : ByteArray) (w : World) (R : Int → Int → World → Prop) : Prop := CallK Tryd.prog 91 #[.string p0] w [.i .i32, .i .i64] R
def Cstrings_IndexByte (p0 : ByteArray) (p1 : Int) (w : World) (R : Int → World → Prop) : Prop := CallK Tryd.prog 92 #[.string p0, .int .u8 p1] w [.i .i64] R
def Cunicode_utf8_ValidRune (p0 : Int) (w : World) (R : Bool → World → Prop) : Prop := CallK Tryd.prog 93 #[.int .i32 p0] w [.b] R
def Cinternal_bytealg_Cutover (p0 : Int) (w : World) (R : Int → World → Prop) : Prop := CallK Tryd.prog 94 #[.int .i64 p0] w [.i .i64] R
def Cinternal_stringslite_IndexByte (p0 : ByteArray) (p1 : Int) (w : World) (R : Int → World → Prop) : Prop := CallK Tryd.prog 96 #[.string p0, .int .u8 p1] w [.i .i64] R
abbrev t_int : TypeId := 3
theorem u_int : Tryd.prog.underlying 3 = some (.int .i64) := by kernel_rfl
theorem i_int : (Tryd.prog.info? 3).map (fun i => (i.zero, i.size, i.bytes)) = some (some (.int .i64 0), 1, 8) := by kernel_rfl
abbrev t_bool : TypeId := 4
theorem u_bool : Tryd.prog.underlying 4 = some .bool := by kernel_rfl
theorem i_bool : (Tryd.prog.info? 4).map (fun i => (i.zero, i.size, i.bytes)) = some (some (.bool false), 1, 1) := by kernel_rfl
abbrev t_uint8 : TypeId := 5
theorem u_uint8 : Tryd.prog.underlying 5 = some (.int .u8) := by kernel_rfl
theorem i_uint8 : (Tryd.prog.info? 5).map (fun i => (i.zero, i.size, i.bytes)) = some (some (.int .u8 0), 1, 1) := by kernel_rfl
abbrev t_string : TypeId := 9
theorem u_string : Tryd.prog.underlying 9 = some .string := by kernel_rfl
theorem i_string : (Tryd.prog.info? 9).map (fun i => (i.zero, i.size, i.bytes)) = some (some (.string ⟨#[]⟩), 1, 16) := by kernel_rfl
abbrev t_int32 : TypeId := 21
theorem u_int32 : Tryd.prog.underlying 21 = some (.int .i32) := by kernel_rfl
theorem i_int32 : (Tryd.prog.info? 21).map (fun i => (i.zero, i.size, i.bytes)) = some (some (.int .i32 0), 1, 4) := by kernel_rfl
abbrev t_sl_uint8 : TypeId := 22
theorem u_sl_uint8 : Tryd.prog.underlying 22 = some (.slice 5) := by kernel_rfl
theorem i_sl_uint8 : (Tryd.prog.info? 22).map (fun i => (i.zero, i.size, i.bytes)) = some (some (.slice none 0 0), 1, 24) := by kernel_rfl
abbrev t_sl_string : TypeId := 24
theorem u_sl_string : Tryd.prog.underlying 24 = some (.slice 9) := by kernel_rfl
theorem i_sl_string : (Tryd.prog.info? 24).map (fun i => (i.zero, i.size, i.bytes)) = some (some (.slice none 0 0), 1, 24) := by kernel_rfl
abbrev t_sl_xcopy_Seg : TypeId := 25
theorem u_sl_xcopy_Seg : Tryd.prog.underlying 25 = some (.slice 68) := by kernel_rfl
theorem i_sl_xcopy_Seg : (Tryd.prog.info? 25).map (fun i => (i.zero, i.size, i.bytes)) = some (some (.slice none 0 0), 1, 24) := by kernel_rfl
abbrev t_xcopy_List : TypeId := 27
theorem i_xcopy_List : (Tryd.prog.info? 27).map (fun i => (i.zero, i.size, i.bytes)) = some (some (.agg #[.slice none 0 0, .slice none 0 0]), 2, 48) := by kernel_rfl
theorem g_xcopy_List : (Tryd.prog.underlying 27).map kdOf = some .ag := by kernel_rfl
abbrev t_uint16 : TypeId := 28
theorem u_uint16 : Tryd.prog.underlying 28 = some (.int .u16) := by kernel_rfl
theorem i_uint16 : (Tryd.prog.info? 28).map (fun i => (i.zero, i.size, i.bytes)) = some (some (.int .u16 0), 1, 2) := by kernel_rfl
abbrev t_uint64 : TypeId := 29
theorem u_uint64 : Tryd.prog.underlying 29 = some (.int .u64) := by kernel_rfl
theorem i_uint64 : (Tryd.prog.info? 29).map (fun i => (i.zero, i.size, i.bytes)) = some (some (.int .u64 0), 1, 8) := by kernel_rfl
abbrev t_api_Sense : TypeId := 31
theorem i_api_Sense : (Tryd.prog.info? 31).map (fun i => (i.zero, i.size, i.bytes)) = some (some (.agg #[.int .u8 0, .int .u16 0, .int .u64 0, .bool false, .int .i64 0, .int .i64 0, .bool false, .bool false]), 8, 48) := by kernel_rfl
theorem g_api_Sense : (Tryd.prog.underlying 31).map kdOf = some .ag := by kernel_rfl
abbrev t_sl_palletref15_Seg : TypeId := 34
theorem u_sl_palletref15_Seg : Tryd.prog.underlying 34 = some (.slice 82) := by kernel_rfl
theorem i_sl_palletref15_Seg : (Tryd.prog.info? 34).map (fun i => (i.zero, i.size, i.bytes)) = some (some (.slice none 0 0), 1, 24) := by kernel_rfl
abbrev t_palletref15_List : TypeId := 36
theorem i_palletref15_List : (Tryd.prog.info? 36).map (fun i => (i.zero, i.size, i.bytes)) = some (some (.agg #[.slice none 0 0, .slice none 0 0]), 2, 48) := by kernel_rfl
theorem g_palletref15_List : (Tryd.prog.underlying 36).map kdOf = some .ag := by kernel_rfl
abbrev t_api_Errno : TypeId := 41
theorem u_api_Errno : Tryd.prog.underlying 41 = some (.int .i64) := by kernel_rfl
theorem i_api_Errno : (Tryd.prog.info? 41).map (fun i => (i.zero, i.size, i.bytes)) = some (some (.int .i64 0), 1, 8) := by kernel_rfl
abbrev t_sl_xcopy_Named : TypeId := 49
theorem u_sl_xcopy_Named : Tryd.prog.underlying 49 = some (.slice 60) := by kernel_rfl
theorem i_sl_xcopy_Named : (Tryd.prog.info? 49).map (fun i => (i.zero, i.size, i.bytes)) = some (some (.slice none 0 0), 1, 24) := by kernel_rfl
abbrev t_sl_palletref15_Named : TypeId := 50
theorem u_sl_palletref15_Named : Tryd.prog.underlying 50 = some (.slice 100) := by kernel_rfl
theorem i_sl_palletref15_Named : (Tryd.prog.info? 50).map (fun i => (i.zero, i.size, i.bytes)) = some (some (.slice none 0 0), 1, 24) := by kernel_rfl
abbrev t_p_world_World : TypeId := 51
theorem i_p_world_World : (Tryd.prog.info? 51).map (fun i => (i.zero, i.size, i.bytes)) = some (some (.pointer none), 1, 8) := by kernel_rfl
abbrev t_p_palletref03_World : TypeId := 52
theorem i_p_palletref03_World : (Tryd.prog.info? 52).map (fun i => (i.zero, i.size, i.bytes)) = some (some (.pointer none), 1, 8) := by kernel_rfl
abbrev t_api_Status : TypeId := 55
theorem u_api_Status : Tryd.prog.underlying 55 = some (.int .u8) := by kernel_rfl
theorem i_api_Status : (Tryd.prog.info? 55).map (fun i => (i.zero, i.size, i.bytes)) = some (some (.int .u8 0), 1, 1) := by kernel_rfl
abbrev t_api_Result : TypeId := 57
theorem i_api_Result : (Tryd.prog.info? 57).map (fun i => (i.zero, i.size, i.bytes)) = some (some (.agg #[.int .u8 0, .int .u8 0, .int .u16 0, .int .u64 0, .bool false, .int .i64 0, .int .i64 0, .bool false, .bool false, .slice none 0 0]), 10, 80) := by kernel_rfl
theorem g_api_Result : (Tryd.prog.underlying 57).map kdOf = some .ag := by kernel_rfl
abbrev t_p_sbc_Dev : TypeId := 58
theorem i_p_sbc_Dev : (Tryd.prog.info? 58).map (fun i => (i.zero, i.size, i.bytes)) = some (some (.pointer none), 1, 8) := by kernel_rfl
abbrev t_xcopy_Named : TypeId := 60
theorem i_xcopy_Named : (Tryd.prog.info? 60).map (fun i => (i.zero, i.size, i.bytes)) = some (some (.agg #[.string ⟨#[]⟩, .pointer none, .int .u8 0]), 3, 32) := by kernel_rfl
theorem g_xcopy_Named : (Tryd.prog.underlying 60).map kdOf = some .ag := by kernel_rfl
abbrev t_api_Kind : TypeId := 62
theorem u_api_Kind : Tryd.prog.underlying 62 = some (.int .u8) := by kernel_rfl
theorem i_api_Kind : (Tryd.prog.info? 62).map (fun i => (i.zero, i.size, i.bytes)) = some (some (.int .u8 0), 1, 1) := by kernel_rfl
abbrev t_api_Cmd : TypeId := 64
theorem i_api_Cmd : (Tryd.prog.info? 64).map (fun i => (i.zero, i.size, i.bytes)) = some (some (.agg #[.int .u8 0, .bool false, .int .u64 0, .int .u64 0, .int .i64 0, .bool false, .int .u8 0, .bool false, .bool false, .int .u8 0, .int .u8 0, .bool false, .int .u8 0, .int .u8 0, .bool false]), 15, 48) := by kernel_rfl
theorem g_api_Cmd : (Tryd.prog.underlying 64).map kdOf = some .ag := by kernel_rfl
abbrev t_xcopy_Seg : TypeId := 68
theorem i_xcopy_Seg : (Tryd.prog.info? 68).map (fun i => (i.zero, i.size, i.bytes)) = some (some (.agg #[.int .i64 0, .int .i64 0, .int .i64 0, .int .u64 0, .int .u64 0]), 5, 40) := by kernel_rfl
theorem g_xcopy_Seg : (Tryd.prog.underlying 68).map kdOf = some .ag := by kernel_rfl
abbrev t_palletref15_Seg : TypeId := 82
theorem i_palletref15_Seg : (Tryd.prog.info? 82).map (fun i => (i.zero, i.size, i.bytes)) = some (some (.agg #[.int .i64 0, .int .i64 0, .int .i64 0, .int .u64 0, .int .u64 0]), 5, 40) := by kernel_rfl
theorem g_palletref15_Seg : (Tryd.prog.underlying 82).map kdOf = some .ag := by kernel_rfl
abbrev t_p_store_Store : TypeId := 88
theorem i_p_store_Store : (Tryd.prog.info? 88).map (fun i => (i.zero, i.size, i.bytes)) = some (some (.pointer none), 1, 8) := by kernel_rfl
abbrev t_sbc_Dev : TypeId := 92
theorem i_sbc_Dev : (Tryd.prog.info? 92).map (fun i => (i.zero, i.size, i.bytes)) = some (some (.agg #[.pointer none, .int .u8 0]), 2, 16) := by kernel_rfl
theorem g_sbc_Dev : (Tryd.prog.underlying 92).map kdOf = some .ag := by kernel_rfl
abbrev t_p_palletref14_Dev : TypeId := 93
theorem i_p_palletref14_Dev : (Tryd.prog.info? 93).map (fun i => (i.zero, i.size, i.bytes)) = some (some (.pointer none), 1, 8) := by kernel_rfl
abbrev t_p_palletref04_Store : TypeId := 94
theorem i_p_palletref04_Store : (Tryd.prog.info? 94).map (fun i => (i.zero, i.size, i.bytes)) = some (some (.pointer none), 1, 8) := by kernel_rfl
abbrev t_palletref04_Store : TypeId := 96
theorem i_palletref04_Store : (Tryd.prog.info? 96).map (fun i => (i.zero, i.size, i.bytes)) = some (some (.agg #[.pointer none, .string ⟨#[]⟩, .int .i64 0, .bool false]), 4, 40) := by kernel_rfl
theorem g_palletref04_Store : (Tryd.prog.underlying 96).map kdOf = some .ag := by kernel_rfl
abbrev t_palletref14_Dev : TypeId := 98
theorem i_palletref14_Dev : (Tryd.prog.info? 98).map (fun i => (i.zero, i.size, i.bytes)) = some (some (.agg #[.pointer none, .int .i64 0]), 2, 16) := by kernel_rfl
theorem g_palletref14_Dev : (Tryd.prog.underlying 98).map kdOf = some .ag := by kernel_rfl
abbrev t_palletref15_Named : TypeId := 100
theorem i_palletref15_Named : (Tryd.prog.info? 100).map (fun i => (i.zero, i.size, i.bytes)) = some (some (.agg #[.string ⟨#[]⟩, .pointer none, .int .i64 0]), 3, 32) := by kernel_rfl
theorem g_palletref15_Named : (Tryd.prog.underlying 100).map kdOf = some .ag := by kernel_rfl
abbrev t_sl_api_Block : TypeId := 106
theorem u_sl_api_Block : Tryd.prog.underlying 106 = some (.slice 144) := by kernel_rfl
theorem i_sl_api_Block : (Tryd.prog.info? 106).map (fun i => (i.zero, i.size, i.bytes)) = some (some (.slice none 0 0), 1, 24) := by kernel_rfl
abbrev t_p_xcopy_Named : TypeId := 115
theorem i_p_xcopy_Named : (Tryd.prog.info? 115).map (fun i => (i.zero, i.size, i.bytes)) = some (some (.pointer none), 1, 8) := by kernel_rfl
abbrev t_map_string_sl_uint8 : TypeId := 124
theorem u_map_string_sl_uint8 : Tryd.prog.underlying 124 = some (.map 9 22) := by kernel_rfl
theorem i_map_string_sl_uint8 : (Tryd.prog.info? 124).map (fun i => (i.zero, i.size, i.bytes)) = some (some (.map none), 1, 8) := by kernel_rfl
abbrev t_sl_world_change : TypeId := 125
theorem u_sl_world_change : Tryd.prog.underlying 125 = some (.slice 170) := by kernel_rfl
theorem i_sl_world_change : (Tryd.prog.info? 125).map (fun i => (i.zero, i.size, i.bytes)) = some (some (.slice none 0 0), 1, 24) := by kernel_rfl
abbrev t_map_int_bool : TypeId := 126
theorem u_map_int_bool : Tryd.prog.underlying 126 = some (.map 3 4) := by kernel_rfl
theorem i_map_int_bool : (Tryd.prog.info? 126).map (fun i => (i.zero, i.size, i.bytes)) = some (some (.map none), 1, 8) := by kernel_rfl
abbrev t_world_World : TypeId := 128
theorem i_world_World : (Tryd.prog.info? 128).map (fun i => (i.zero, i.size, i.bytes)) = some (some (.agg #[.map none, .map none, .slice none 0 0, .int .i64 0, .map none, .int .i64 0, .bool false]), 7, 72) := by kernel_rfl
theorem g_world_World : (Tryd.prog.underlying 128).map kdOf = some .ag := by kernel_rfl
abbrev t_sl_palletref03_File : TypeId := 129
theorem u_sl_palletref03_File : Tryd.prog.underlying 129 = some (.slice 208) := by kernel_rfl
theorem i_sl_palletref03_File : (Tryd.prog.info? 129).map (fun i => (i.zero, i.size, i.bytes)) = some (some (.slice none 0 0), 1, 24) := by kernel_rfl
abbrev t_sl_palletref03_Change : TypeId := 130
theorem u_sl_palletref03_Change : Tryd.prog.underlying 130 = some (.slice 210) := by kernel_rfl
theorem i_sl_palletref03_Change : (Tryd.prog.info? 130).map (fun i => (i.zero, i.size, i.bytes)) = some (some (.slice none 0 0), 1, 24) := by kernel_rfl
abbrev t_sl_int : TypeId := 131
theorem u_sl_int : Tryd.prog.underlying 131 = some (.slice 3) := by kernel_rfl
theorem i_sl_int : (Tryd.prog.info? 131).map (fun i => (i.zero, i.size, i.bytes)) = some (some (.slice none 0 0), 1, 24) := by kernel_rfl
abbrev t_palletref03_World : TypeId := 133
theorem i_palletref03_World : (Tryd.prog.info? 133).map (fun i => (i.zero, i.size, i.bytes)) = some (some (.agg #[.slice none 0 0, .slice none 0 0, .int .i64 0, .slice none 0 0, .int .i64 0, .bool false]), 6, 96) := by kernel_rfl
theorem g_palletref03_World : (Tryd.prog.underlying 133).map kdOf = some .ag := by kernel_rfl
abbrev t_store_Store : TypeId := 135
theorem i_store_Store : (Tryd.prog.info? 135).map (fun i => (i.zero, i.size, i.bytes)) = some (some (.agg #[.pointer none, .string ⟨#[]⟩, .int .i64 0, .bool false]), 4, 40) := by kernel_rfl
theorem g_store_Store : (Tryd.prog.underlying 135).map kdOf = some .ag := by kernel_rfl
abbrev t_16_uint8 : TypeId := 139
theorem i_16_uint8 : (Tryd.prog.info? 139).map (fun i => (i.zero, i.size, i.bytes)) = some (some (.agg #[.int .u8 0, .int .u8 0, .int .u8 0, .int .u8 0, .int .u8 0, .int .u8 0, .int .u8 0, .int .u8 0, .int .u8 0, .int .u8 0, .int .u8 0, .int .u8 0, .int .u8 0, .int .u8 0, .int .u8 0, .int .u8 0]), 16, 16) := by kernel_rfl
theorem g_16_uint8 : (Tryd.prog.underlying 139).map kdOf = some .ag := by kernel_rfl
abbrev t_uint32 : TypeId := 140
theorem u_uint32 : Tryd.prog.underlying 140 = some (.int .u32) := by kernel_rfl
theorem i_uint32 : (Tryd.prog.info? 140).map (fun i => (i.zero, i.size, i.bytes)) = some (some (.int .u32 0), 1, 4) := by kernel_rfl
abbrev t_api_Tuple : TypeId := 142
theorem i_api_Tuple : (Tryd.prog.info? 142).map (fun i => (i.zero, i.size, i.bytes)) = some (some (.agg #[.int .u16 0, .int .u16 0, .int .u32 0]), 3, 8) := by kernel_rfl
theorem g_api_Tuple : (Tryd.prog.underlying 142).map kdOf = some .ag := by kernel_rfl
abbrev t_api_Block : TypeId := 144
theorem i_api_Block : (Tryd.prog.info? 144).map (fun i => (i.zero, i.size, i.bytes)) = some (some (.agg #[.int .u8 0, .int .u8 0, .int .u8 0, .int .u8 0, .int .u8 0, .int .u8 0, .int .u8 0, .int .u8 0, .int .u8 0, .int .u8 0, .int .u8 0, .int .u8 0, .int .u8 0, .int .u8 0, .int .u8 0, .int .u8 0, .int .u16 0, .int .u16 0, .int .u32 0]), 19, 24) := by kernel_rfl
theorem g_api_Block : (Tryd.prog.underlying 144).map kdOf = some .ag := by kernel_rfl
abbrev t_strings_asciiSet : TypeId := 155
theorem g_strings_asciiSet : (Tryd.prog.underlying 155).map kdOf = some .ag := by kernel_rfl
abbrev t_p_strings_asciiSet : TypeId := 159
theorem i_p_strings_asciiSet : (Tryd.prog.info? 159).map (fun i => (i.zero, i.size, i.bytes)) = some (some (.pointer none), 1, 8) := by kernel_rfl
abbrev t_world_change : TypeId := 170
theorem i_world_change : (Tryd.prog.info? 170).map (fun i => (i.zero, i.size, i.bytes)) = some (some (.agg #[.int .u8 0, .string ⟨#[]⟩, .string ⟨#[]⟩, .int .i64 0, .slice none 0 0]), 5, 72) := by kernel_rfl
theorem g_world_change : (Tryd.prog.underlying 170).map kdOf = some .ag := by kernel_rfl
abbrev t_utf8_acceptRange : TypeId := 189
theorem i_utf8_acceptRange : (Tryd.prog.info? 189).map (fun i => (i.zero, i.size, i.bytes)) = some (some (.agg #[.int .u8 0, .int .u8 0]), 2, 2) := by kernel_rfl
theorem g_utf8_acceptRange : (Tryd.prog.underlying 189).map kdOf = some .ag := by kernel_rfl
abbrev t_palletref03_File : TypeId := 208
theorem i_palletref03_File : (Tryd.prog.info? 208).map (fun i => (i.zero, i.size, i.bytes)) = some (some (.agg #[.string ⟨#[]⟩, .slice none 0 0]), 2, 40) := by kernel_rfl
theorem g_palletref03_File : (Tryd.prog.underlying 208).map kdOf = some .ag := by kernel_rfl
abbrev t_palletref03_Change : TypeId := 210
theorem i_palletref03_Change : (Tryd.prog.info? 210).map (fun i => (i.zero, i.size, i.bytes)) = some (some (.agg #[.int .i64 0, .string ⟨#[]⟩, .string ⟨#[]⟩, .int .i64 0, .slice none 0 0]), 5, 72) := by kernel_rfl
theorem g_palletref03_Change : (Tryd.prog.underlying 210).map kdOf = some .ag := by kernel_rfl
end Go.Proofs.YtaneeadpjelomaaDoor

-- printed by wip/cf/cfprint.py
namespace Go.Proofs.YtaneeadpjelomaaDoor
open Go CF
set_option linter.unusedVariables false
set_option maxRecDepth 100000
/-- pallet/palletlaw15.XcopyReads -/
def Fpalletlaw15_XcopyReads (p : Sl) (w : World) (R : Bool → World → Prop) : Prop :=
  Cpalletlaw15_awake  w fun b w0 => Br (((!b) || false) || false) (R false w0) (Cxcopy_Parse p w0 fun g g1 b1 w01 => New (.cells #[.slice none 0 0, .slice none 0 0] 27) w01 fun l w02 => New (.cells #[.int .u8 0, .int .u16 0, .int .u64 0, .bool false, .int .i64 0, .int .i64 0, .bool false, .bool false] 31) w02 fun s w03 => RunU Tryd.prog (storeVar 27 l (.agg g)) w03 fun w04 => RunU Tryd.prog (storeVar 31 s (.agg g1)) w04 fun w05 => Cpalletref15_Parse p w05 fun g2 g3 b2 w06 => New (.cells #[.slice none 0 0, .slice none 0 0] 36) w06 fun m w07 => New (.cells #[.int .u8 0, .int .u16 0, .int .u64 0, .bool false, .int .i64 0, .int .i64 0, .bool false, .bool false] 31) w07 fun t w08 => RunU Tryd.prog (storeVar 36 m (.agg g2)) w08 fun w09 => RunU Tryd.prog (storeVar 31 t (.agg g3)) w09 fun w010 => ∃ g4 : Array Value, (loadVar 27 l).run Tryd.prog w010 = .ok (.agg g4) w010 ∧ ∃ g5 : Array Value, (loadVar 36 m).run Tryd.prog w010 = .ok (.agg g5) w010 ∧ Cpalletlaw15_same g4 g5 w010 fun b3 w011 => ∃ g6 : Array Value, (b3 = true → (loadVar 31 s).run Tryd.prog w011 = .ok (.agg g6) w011) ∧ ∃ g7 : Array Value, (b3 = true → (loadVar 31 t).run Tryd.prog w011 = .ok (.agg g7) w011) ∧ ∃ b4 : Bool, (b3 = true → (do eqGuard .eql 31 (.tmp 31) (.tmp 32) (.agg g6) (.agg g7); binOp .eql 31 (.agg g6) (.agg g7) : Sem Value).run Tryd.prog w011 = .ok (.bool b4) w011) ∧ R ((b3 && b4) && (b1 == b2)) w011)
theorem Fpalletlaw15_XcopyReads.calls (p : Sl) (w : World) (R : Bool → World → Prop) (h : Fpalletlaw15_XcopyReads p w R) : Cpalletlaw15_XcopyReads p w R :=
  calls_of_vc (anOp_ok callable) wide Tryd.func3 [] [.b] [.slice p.A p.n p.c] w R (Eq.mp (show Fpalletlaw15_XcopyReads p w R = vcF Tryd.prog G Tryd.f3 [] [.b] [.slice p.A p.n p.c] w R by kernel_rfl) h)
/-- pallet/palletlaw15.XcopyBytes -/
def Fpalletlaw15_XcopyBytes (l : Array Value) (w : World) (R : Bool → World → Prop) : Prop :=
  New (.cells l 27) w fun l1 w0 => Cpalletlaw15_awake  w0 fun b w01 => Br (!b) (R false w01) (∃ g : Array Value, (loadVar 27 l1).run Tryd.prog w01 = .ok (.agg g) w01 ∧ Cxcopy_Bytes g w01 fun xs n w02 => ∃ g1 : Array Value, (loadVar 27 l1).run Tryd.prog w02 = .ok (.agg g1) w02 ∧ Cpalletlaw15_of g1 w02 fun g2 w03 => Cpalletref15_Bytes g2 w03 fun xs1 n1 w04 => ∃ s : ByteArray, ((!(n != n1)) = true → (convert 22 9 (.slice xs.A xs.n xs.c)).run Tryd.prog w04 = .ok (.string s) w04) ∧ ∃ s1 : ByteArray, ((!(n != n1)) = true → (convert 22 9 (.slice xs1.A xs1.n xs1.c)).run Tryd.prog w04 = .ok (.string s1) w04) ∧ Br ((n != n1) || (!(sEq s s1))) (R false w04) (Br (n != 0) (R true w04) (Cxcopy_Parse xs w04 fun g3 g4 b1 w05 => New (.cells #[.slice none 0 0, .slice none 0 0] 27) w05 fun m w06 => New (.cells #[.int .u8 0, .int .u16 0, .int .u64 0, .bool false, .int .i64 0, .int .i64 0, .bool false, .bool false] 31) w06 fun blank w07 => RunU Tryd.prog (storeVar 27 m (.agg g3)) w07 fun w08 => RunU Tryd.prog (storeVar 31 blank (.agg g4)) w08 fun w09 => ∀ w010, w010 = w09.drew → ∃ S : World → Prop, S w010 ∧ ∃ g5 : Array Value, (b1 = true → (∀ u, S u → (loadVar 27 m).run Tryd.prog u = .ok (.agg g5) u)) ∧ ∃ g6 : Array Value, (b1 = true → (∀ u1, S u1 → (loadVar 27 l1).run Tryd.prog u1 = .ok (.agg g6) u1)) ∧ letJ (fun (g7 : Array Value) (w011 : World) => S w011 ∧ letJ (fun (b2 : Bool) (w012 : World) => R (b1 && b2) w012) fun J_ => (b1 = true → Cpalletlaw15_same g5 g7 w011 J_) ∧ (b1 = false → J_ (Kd.dflt .b) w011)) fun J_1 => (b1 = true → Cpalletlaw15_of g6 w010 J_1) ∧ (b1 = false → J_1 (Kd.dflt .ag) w010))))
theorem Fpalletlaw15_XcopyBytes.calls (l : Array Value) (w : World) (R : Bool → World → Prop) (h : Fpalletlaw15_XcopyBytes l w R) : Cpalletlaw15_XcopyBytes l w R :=
  calls_of_vc (anOp_ok callable) wide Tryd.func4 [] [.b] [.agg l] w R (Eq.mp (show Fpalletlaw15_XcopyBytes l w R = vcF Tryd.prog G Tryd.f4 [] [.b] [.agg l] w R by kernel_rfl) h)
/-- pallet/palletlaw15.XcopySpoils -/
def Fpalletlaw15_XcopySpoils (l : Array Value) (at_ : Int) (by_ : Int) (w : World) (R : Bool → World → Prop) : Prop :=
  New (.cells l 27) w fun l1 w0 => Cpalletlaw15_awake  w0 fun b w01 => Br ((!b) || (by_ == 0)) (Cpalletlaw15_awake  w01 fun b1 w02 => R b1 w02) (∃ g : Array Value, (loadVar 27 l1).run Tryd.prog w01 = .ok (.agg g) w01 ∧ Cxcopy_Bytes g w01 fun xs n w03 => Br (n != 0) (R true w03) (((xs.n : Int) ≠ 0) ∧ RunK Tryd.prog .sl (Builtin.append_ #[22, 22] 22 #[.slice none 0 0, .slice xs.A xs.n xs.c]) w03 fun xs1 w04 => (0 ≤ ((IntKind.wrap .i64 at_).tmod (xs.n : Int)) ∧ ((IntKind.wrap .i64 at_).tmod (xs.n : Int)) < (xs1.n : Int) ∧ xs1.A.isSome = true) ∧ ∃ n1 : Int, w04.cell? ((gA xs1.A).add (((IntKind.wrap .i64 at_).tmod (xs.n : Int)).toNat * 1)) = some (.int .u8 n1) ∧ (0 ≤ ((IntKind.wrap .i64 at_).tmod (xs.n : Int)) ∧ ((IntKind.wrap .i64 at_).tmod (xs.n : Int)) < (xs1.n : Int) ∧ xs1.A.isSome = true) ∧ Put ((gA xs1.A).add (((IntKind.wrap .i64 at_).tmod (xs.n : Int)).toNat * 1)) (.int .u8 (bXor .u8 n1 by_)) w04 fun w05 => Cxcopy_Parse xs1 w05 fun g1 g2 b2 w06 => New (.cells #[.slice none 0 0, .slice none 0 0] 27) w06 fun m w07 => New (.cells #[.int .u8 0, .int .u16 0, .int .u64 0, .bool false, .int .i64 0, .int .i64 0, .bool false, .bool false] 31) w07 fun blank w08 => RunU Tryd.prog (storeVar 27 m (.agg g1)) w08 fun w09 => RunU Tryd.prog (storeVar 31 blank (.agg g2)) w09 fun w010 => (0 ≤ (0 : Int) ∧ (0 : Int) ≤ ((IntKind.wrap .i64 at_).tmod (xs.n : Int)) ∧ ((IntKind.wrap .i64 at_).tmod (xs.n : Int)) ≤ (xs.c : Int) ∧ xs.n ≤ xs.c) ∧ Cxcopy_Parse ⟨(cutA xs.A xs.c 0 1), (((IntKind.wrap .i64 at_).tmod (xs.n : Int)).toNat - 0), (xs.c - 0)⟩ w010 fun g3 g4 b3 w011 => New (.cells #[.slice none 0 0, .slice none 0 0] 27) w011 fun blank1 w012 => New (.cells #[.int .u8 0, .int .u16 0, .int .u64 0, .bool false, .int .i64 0, .int .i64 0, .bool false, .bool false] 31) w012 fun blank2 w013 => RunU Tryd.prog (storeVar 27 blank1 (.agg g3)) w013 fun w014 => RunU Tryd.prog (storeVar 31 blank2 (.agg g4)) w014 fun w015 => RunK Tryd.prog .sl (Instr.buildSlice 22 1 #[(0, .int .u8 0)]) w015 fun xs2 w016 => RunK Tryd.prog .sl (Builtin.append_ #[22, 22] 22 #[.slice xs1.A xs1.n xs1.c, .slice xs2.A xs2.n xs2.c]) w016 fun xs3 w017 => Cxcopy_Parse xs3 w017 fun g5 g6 b4 w018 => New (.cells #[.slice none 0 0, .slice none 0 0] 27) w018 fun blank3 w019 => New (.cells #[.int .u8 0, .int .u16 0, .int .u64 0, .bool false, .int .i64 0, .int .i64 0, .bool false, .bool false] 31) w019 fun blank4 w020 => RunU Tryd.prog (storeVar 27 blank3 (.agg g5)) w020 fun w021 => RunU Tryd.prog (storeVar 31 blank4 (.agg g6)) w021 fun w022 => ∀ w023, w023 = w022.drew → ∃ S : World → Prop, S w023 ∧ ∃ g7 : Array Value, (b2 = true → (∀ u, S u → (loadVar 27 m).run Tryd.prog u = .ok (.agg g7) u)) ∧ ∃ g8 : Array Value, (b2 = true → (∀ u1, S u1 → (loadVar 27 l1).run Tryd.prog u1 = .ok (.agg g8) u1)) ∧ letJ (fun (g9 : Array Value) (w024 : World) => S w024 ∧ letJ (fun (b5 : Bool) (w025 : World) => Br (b2 && b5) (R false w025) (R (((!b3) || (((IntKind.wrap .i64 at_).tmod (xs.n : Int)) == 0)) && (!b4)) w025)) fun J_ => (b2 = true → Cpalletlaw15_same g7 g9 w024 J_) ∧ (b2 = false → J_ (Kd.dflt .b) w024)) fun J_1 => (b2 = true → Cpalletlaw15_of g8 w023 J_1) ∧ (b2 = false → J_1 (Kd.dflt .ag) w023)))
theorem Fpalletlaw15_XcopySpoils.calls (l : Array Value) (at_ : Int) (by_ : Int) (w : World) (R : Bool → World → Prop) (h : Fpalletlaw15_XcopySpoils l at_ by_ w R) : Cpalletlaw15_XcopySpoils l at_ by_ w R :=
  calls_of_vc (anOp_ok callable) wide Tryd.func5 [] [.b] [.agg l, .int .u16 at_, .int .u8 by_] w R (Eq.mp (show Fpalletlaw15_XcopySpoils l at_ by_ w R = vcF Tryd.prog G Tryd.f5 [] [.b] [.agg l, .int .u16 at_, .int .u8 by_] w R by kernel_rfl) h)
/-- pallet/palletlaw15.XcopyMoves -/
def Fpalletlaw15_XcopyMoves (p : Sl) (src : Int) (dst : Int) (n : Int) (w : World) (R : Bool → World → Prop) : Prop :=
  Cpalletlaw15_awake  w fun b w0 => Br (!b) (R false w0) (Cpalletlaw15_pair 32 w0 fun xs xs1 p1 p2 w01 => ((16 : Int) ≠ 0) ∧ Br ((mn (IntKind.wrap .i64 ((p.n : Int).tdiv 16)) 32) == 0) (R true w01) (((mn (IntKind.wrap .i64 ((p.n : Int).tdiv 16)) 32) ≠ 0) ∧ ((IntKind.wrap .i64 ((IntKind.wrap .i64 ((mn (IntKind.wrap .i64 ((p.n : Int).tdiv 16)) 32) - ((IntKind.wrap .i64 src).tmod (mn (IntKind.wrap .i64 ((p.n : Int).tdiv 16)) 32)))) + 1)) ≠ 0) ∧ ((IntKind.wrap .i64 (33 - ((IntKind.wrap .i64 n).tmod (IntKind.wrap .i64 ((IntKind.wrap .i64 ((mn (IntKind.wrap .i64 ((p.n : Int).tdiv 16)) 32) - ((IntKind.wrap .i64 src).tmod (mn (IntKind.wrap .i64 ((p.n : Int).tdiv 16)) 32)))) + 1))))) ≠ 0) ∧ ∀ w02, w02 = w01.drew → ∃ S : World → Prop, S w02 ∧ (0 ≤ (0 : Int) ∧ (0 : Int) < (xs.n : Int) ∧ xs.A.isSome = true) ∧ ∃ p3 : Option Addr, (∀ u, S u → u.cell? (((gA xs.A).add ((0 : Int).toNat * 3)).add 1) = some (.pointer p3)) ∧ (0 ≤ (0 : Int) ∧ (0 : Int) ≤ (IntKind.wrap .i64 (16 * (mn (IntKind.wrap .i64 ((p.n : Int).tdiv 16)) 32))) ∧ (IntKind.wrap .i64 (16 * (mn (IntKind.wrap .i64 ((p.n : Int).tdiv 16)) 32))) ≤ (p.c : Int) ∧ p.n ≤ p.c) ∧ (Csbc_Dev_Do p3 #[.int .u8 8, .bool false, .int .u64 0, .int .u64 (IntKind.wrap .u64 (mn (IntKind.wrap .i64 ((p.n : Int).tdiv 16)) 32)), .int .i64 0, .bool false, .int .u8 0, .bool false, .bool false, .int .u8 0, .int .u8 0, .bool false, .int .u8 0, .int .u8 0, .bool false] ⟨(cutA p.A p.c 0 1), ((IntKind.wrap .i64 (16 * (mn (IntKind.wrap .i64 ((p.n : Int).tdiv 16)) 32))).toNat - 0), (p.c - 0)⟩ w02 fun g w03 => New (.cells #[.int .u8 0, .int .u8 0, .int .u16 0, .int .u64 0, .bool false, .int .i64 0, .int .i64 0, .bool false, .bool false, .slice none 0 0] 57) w03 fun w_ w04 => S w04 ∧ RunU Tryd.prog (storeVar 57 w_ (.agg g)) w04 fun w05 => RunK Tryd.prog .sl (Instr.buildSlice 24 2 #[(0, .string s_a), (1, .string s_b)]) w05 fun xs2 w06 => RunK Tryd.prog .sl (Instr.buildSlice 25 1 #[(0, .agg #[.int .i64 0, .int .i64 1, .int .i64 ((IntKind.wrap .i64 n).tmod (IntKind.wrap .i64 ((IntKind.wrap .i64 ((mn (IntKind.wrap .i64 ((p.n : Int).tdiv 16)) 32) - ((IntKind.wrap .i64 src).tmod (mn (IntKind.wrap .i64 ((p.n : Int).tdiv 16)) 32)))) + 1))), .int .u64 (IntKind.wrap .u64 ((IntKind.wrap .i64 src).tmod (mn (IntKind.wrap .i64 ((p.n : Int).tdiv 16)) 32))), .int .u64 (IntKind.wrap .u64 ((IntKind.wrap .i64 dst).tmod (IntKind.wrap .i64 (33 - ((IntKind.wrap .i64 n).tmod (IntKind.wrap .i64 ((IntKind.wrap .i64 ((mn (IntKind.wrap .i64 ((p.n : Int).tdiv 16)) 32) - ((IntKind.wrap .i64 src).tmod (mn (IntKind.wrap .i64 ((p.n : Int).tdiv 16)) 32)))) + 1)))))))])]) w06 fun xs3 w07 => Cxcopy_Run #[.slice xs2.A xs2.n xs2.c, .slice xs3.A xs3.n xs3.c] xs w07 fun n1 g1 w08 => New (.cells #[.int .u8 0, .int .u8 0, .int .u16 0, .int .u64 0, .bool false, .int .i64 0, .int .i64 0, .bool false, .bool false, .slice none 0 0] 57) w08 fun r w09 => RunU Tryd.prog (storeVar 57 r (.agg g1)) w09 fun w010 => (0 ≤ (1 : Int) ∧ (1 : Int) < (xs.n : Int) ∧ xs.A.isSome = true) ∧ ∃ p4 : Option Addr, w010.cell? (((gA xs.A).add ((1 : Int).toNat * 3)).add 1) = some (.pointer p4) ∧ Csbc_Dev_Do p4 #[.int .u8 7, .bool false, .int .u64 0, .int .u64 32, .int .i64 0, .bool false, .int .u8 0, .bool false, .bool false, .int .u8 0, .int .u8 0, .bool false, .int .u8 0, .int .u8 0, .bool false] ⟨none, 0, 0⟩ w010 fun g2 w011 => New (.cells #[.int .u8 0, .int .u8 0, .int .u16 0, .int .u64 0, .bool false, .int .i64 0, .int .i64 0, .bool false, .bool false, .slice none 0 0] 57) w011 fun l w012 => RunU Tryd.prog (storeVar 57 l (.agg g2)) w012 fun w013 => (0 ≤ (0 : Int) ∧ (0 : Int) < (xs.n : Int) ∧ xs.A.isSome = true) ∧ ∃ p5 : Option Addr, w013.cell? (((gA xs.A).add ((0 : Int).toNat * 3)).add 1) = some (.pointer p5) ∧ Csbc_Dev_Do p5 #[.int .u8 7, .bool false, .int .u64 0, .int .u64 (IntKind.wrap .u64 (mn (IntKind.wrap .i64 ((p.n : Int).tdiv 16)) 32)), .int .i64 0, .bool false, .int .u8 0, .bool false, .bool false, .int .u8 0, .int .u8 0, .bool false, .int .u8 0, .int .u8 0, .bool false] ⟨none, 0, 0⟩ w013 fun g3 w014 => New (.cells #[.int .u8 0, .int .u8 0, .int .u16 0, .int .u64 0, .bool false, .int .i64 0, .int .i64 0, .bool false, .bool false, .slice none 0 0] 57) w014 fun o w015 => RunU Tryd.prog (storeVar 57 o (.agg g3)) w015 fun w016 => ∀ w017, w017 = w016.drew → ∃ S1 : World → Prop, S1 w017 ∧ ∃ n2 : Int, (∀ u1, S1 u1 → u1.cell? (w_.add 0) = some (.int .u8 n2)) ∧ ∃ n3 : Int, ((!((n2 != 0) || (n1 != 1))) = true → (∀ u2, S1 u2 → u2.cell? (r.add 0) = some (.int .u8 n3))) ∧ ∃ xs4 : Sl, ((!(((n2 != 0) || (n1 != 1)) || (n3 != 0))) = true → (∀ u3, S1 u3 → u3.cell? (l.add 9) = some (.slice xs4.A xs4.n xs4.c))) ∧ ∃ xs5 : Sl, ((!((((n2 != 0) || (n1 != 1)) || (n3 != 0)) || ((xs4.n : Int) != 512))) = true → (∀ u4, S1 u4 → u4.cell? (o.add 9) = some (.slice xs5.A xs5.n xs5.c))) ∧ ∃ s : ByteArray, ((!((((n2 != 0) || (n1 != 1)) || (n3 != 0)) || ((xs4.n : Int) != 512))) = true → (∀ u5, S1 u5 → (convert 22 9 (.slice xs5.A xs5.n xs5.c)).run Tryd.prog u5 = .ok (.string s) u5)) ∧ ((!((((n2 != 0) || (n1 != 1)) || (n3 != 0)) || ((xs4.n : Int) != 512))) = true → (0 ≤ (0 : Int) ∧ (0 : Int) ≤ (IntKind.wrap .i64 (16 * (mn (IntKind.wrap .i64 ((p.n : Int).tdiv 16)) 32))) ∧ (IntKind.wrap .i64 (16 * (mn (IntKind.wrap .i64 ((p.n : Int).tdiv 16)) 32))) ≤ (p.c : Int) ∧ p.n ≤ p.c)) ∧ ∃ s1 : ByteArray, ((!((((n2 != 0) || (n1 != 1)) || (n3 != 0)) || ((xs4.n : Int) != 512))) = true → (∀ u6, S1 u6 → (convert 22 9 (.slice (cutA p.A p.c 0 1) ((IntKind.wrap .i64 (16 * (mn (IntKind.wrap .i64 ((p.n : Int).tdiv 16)) 32))).toNat - 0) (p.c - 0))).run Tryd.prog u6 = .ok (.string s1) u6)) ∧ Br (((((n2 != 0) || (n1 != 1)) || (n3 != 0)) || ((xs4.n : Int) != 512)) || (!(sEq s s1))) (R false w017) (∃ (I : Int → World → Prop) (μ : Int → World → Nat), I 0 w017 ∧ ∀ (i : Int) (w018 : World), I i w018 → Br (decide (i < 512)) (letX (fun (w019 : World) => I (IntKind.wrap .i64 (i + 1)) w019 ∧ μ (IntKind.wrap .i64 (i + 1)) w019 < μ i w018) fun J_ => letX (fun (want : Int) (w020 : World) => ∃ xs6 : Sl, w020.cell? (l.add 9) = some (.slice xs6.A xs6.n xs6.c) ∧ (0 ≤ i ∧ i < (xs6.n : Int) ∧ xs6.A.isSome = true) ∧ ∃ n4 : Int, w020.cell? ((gA xs6.A).add (i.toNat * 1)) = some (.int .u8 n4) ∧ Br (n4 != want) (R false w020) (J_ w020)) fun J_1 => Br ((decide ((IntKind.wrap .i64 (i - (IntKind.wrap .i64 (16 * ((IntKind.wrap .i64 dst).tmod (IntKind.wrap .i64 (33 - ((IntKind.wrap .i64 n).tmod (IntKind.wrap .i64 ((IntKind.wrap .i64 ((mn (IntKind.wrap .i64 ((p.n : Int).tdiv 16)) 32) - ((IntKind.wrap .i64 src).tmod (mn (IntKind.wrap .i64 ((p.n : Int).tdiv 16)) 32)))) + 1)))))))))) ≥ 0)) && (decide ((IntKind.wrap .i64 (i - (IntKind.wrap .i64 (16 * ((IntKind.wrap .i64 dst).tmod (IntKind.wrap .i64 (33 - ((IntKind.wrap .i64 n).tmod (IntKind.wrap .i64 ((IntKind.wrap .i64 ((mn (IntKind.wrap .i64 ((p.n : Int).tdiv 16)) 32) - ((IntKind.wrap .i64 src).tmod (mn (IntKind.wrap .i64 ((p.n : Int).tdiv 16)) 32)))) + 1)))))))))) < (IntKind.wrap .i64 (16 * ((IntKind.wrap .i64 n).tmod (IntKind.wrap .i64 ((IntKind.wrap .i64 ((mn (IntKind.wrap .i64 ((p.n : Int).tdiv 16)) 32) - ((IntKind.wrap .i64 src).tmod (mn (IntKind.wrap .i64 ((p.n : Int).tdiv 16)) 32)))) + 1)))))))) ((0 ≤ (IntKind.wrap .i64 ((IntKind.wrap .i64 (16 * ((IntKind.wrap .i64 src).tmod (mn (IntKind.wrap .i64 ((p.n : Int).tdiv 16)) 32)))) + (IntKind.wrap .i64 (i - (IntKind.wrap .i64 (16 * ((IntKind.wrap .i64 dst).tmod (IntKind.wrap .i64 (33 - ((IntKind.wrap .i64 n).tmod (IntKind.wrap .i64 ((IntKind.wrap .i64 ((mn (IntKind.wrap .i64 ((p.n : Int).tdiv 16)) 32) - ((IntKind.wrap .i64 src).tmod (mn (IntKind.wrap .i64 ((p.n : Int).tdiv 16)) 32)))) + 1)))))))))))) ∧ (IntKind.wrap .i64 ((IntKind.wrap .i64 (16 * ((IntKind.wrap .i64 src).tmod (mn (IntKind.wrap .i64 ((p.n : Int).tdiv 16)) 32)))) + (IntKind.wrap .i64 (i - (IntKind.wrap .i64 (16 * ((IntKind.wrap .i64 dst).tmod (IntKind.wrap .i64 (33 - ((IntKind.wrap .i64 n).tmod (IntKind.wrap .i64 ((IntKind.wrap .i64 ((mn (IntKind.wrap .i64 ((p.n : Int).tdiv 16)) 32) - ((IntKind.wrap .i64 src).tmod (mn (IntKind.wrap .i64 ((p.n : Int).tdiv 16)) 32)))) + 1)))))))))))) < (p.n : Int) ∧ p.A.isSome = true) ∧ ∃ n5 : Int, w018.cell? ((gA p.A).add ((IntKind.wrap .i64 ((IntKind.wrap .i64 (16 * ((IntKind.wrap .i64 src).tmod (mn (IntKind.wrap .i64 ((p.n : Int).tdiv 16)) 32)))) + (IntKind.wrap .i64 (i - (IntKind.wrap .i64 (16 * ((IntKind.wrap .i64 dst).tmod (IntKind.wrap .i64 (33 - ((IntKind.wrap .i64 n).tmod (IntKind.wrap .i64 ((IntKind.wrap .i64 ((mn (IntKind.wrap .i64 ((p.n : Int).tdiv 16)) 32) - ((IntKind.wrap .i64 src).tmod (mn (IntKind.wrap .i64 ((p.n : Int).tdiv 16)) 32)))) + 1)))))))))))).toNat * 1)) = some (.int .u8 n5) ∧ J_1 n5 w018) (J_1 0 w018)) (R true w018))) ∧ New (.cells #[.int .u8 0, .int .u8 0, .int .u16 0, .int .u64 0, .bool false, .int .i64 0, .int .i64 0, .bool false, .bool false, .slice none 0 0] 57) w02 fun w_1 w021 => S w021 ∧ Csbc_Dev_Do p3 #[.int .u8 8, .bool false, .int .u64 0, .int .u64 (IntKind.wrap .u64 (mn (IntKind.wrap .i64 ((p.n : Int).tdiv 16)) 32)), .int .i64 0, .bool false, .int .u8 0, .bool false, .bool false, .int .u8 0, .int .u8 0, .bool false, .int .u8 0, .int .u8 0, .bool false] ⟨(cutA p.A p.c 0 1), ((IntKind.wrap .i64 (16 * (mn (IntKind.wrap .i64 ((p.n : Int).tdiv 16)) 32))).toNat - 0), (p.c - 0)⟩ w021 fun g4 w022 => RunU Tryd.prog (storeVar 57 w_1 (.agg g4)) w022 fun w023 => RunK Tryd.prog .sl (Instr.buildSlice 24 2 #[(0, .string s_a), (1, .string s_b)]) w023 fun xs7 w024 => RunK Tryd.prog .sl (Instr.buildSlice 25 1 #[(0, .agg #[.int .i64 0, .int .i64 1, .int .i64 ((IntKind.wrap .i64 n).tmod (IntKind.wrap .i64 ((IntKind.wrap .i64 ((mn (IntKind.wrap .i64 ((p.n : Int).tdiv 16)) 32) - ((IntKind.wrap .i64 src).tmod (mn (IntKind.wrap .i64 ((p.n : Int).tdiv 16)) 32)))) + 1))), .int .u64 (IntKind.wrap .u64 ((IntKind.wrap .i64 src).tmod (mn (IntKind.wrap .i64 ((p.n : Int).tdiv 16)) 32))), .int .u64 (IntKind.wrap .u64 ((IntKind.wrap .i64 dst).tmod (IntKind.wrap .i64 (33 - ((IntKind.wrap .i64 n).tmod (IntKind.wrap .i64 ((IntKind.wrap .i64 ((mn (IntKind.wrap .i64 ((p.n : Int).tdiv 16)) 32) - ((IntKind.wrap .i64 src).tmod (mn (IntKind.wrap .i64 ((p.n : Int).tdiv 16)) 32)))) + 1)))))))])]) w024 fun xs8 w025 => Cxcopy_Run #[.slice xs7.A xs7.n xs7.c, .slice xs8.A xs8.n xs8.c] xs w025 fun n6 g5 w026 => New (.cells #[.int .u8 0, .int .u8 0, .int .u16 0, .int .u64 0, .bool false, .int .i64 0, .int .i64 0, .bool false, .bool false, .slice none 0 0] 57) w026 fun r1 w027 => RunU Tryd.prog (storeVar 57 r1 (.agg g5)) w027 fun w028 => (0 ≤ (1 : Int) ∧ (1 : Int) < (xs.n : Int) ∧ xs.A.isSome = true) ∧ ∃ p6 : Option Addr, w028.cell? (((gA xs.A).add ((1 : Int).toNat * 3)).add 1) = some (.pointer p6) ∧ Csbc_Dev_Do p6 #[.int .u8 7, .bool false, .int .u64 0, .int .u64 32, .int .i64 0, .bool false, .int .u8 0, .bool false, .bool false, .int .u8 0, .int .u8 0, .bool false, .int .u8 0, .int .u8 0, .bool false] ⟨none, 0, 0⟩ w028 fun g6 w029 => New (.cells #[.int .u8 0, .int .u8 0, .int .u16 0, .int .u64 0, .bool false, .int .i64 0, .int .i64 0, .bool false, .bool false, .slice none 0 0] 57) w029 fun l1 w030 => RunU Tryd.prog (storeVar 57 l1 (.agg g6)) w030 fun w031 => (0 ≤ (0 : Int) ∧ (0 : Int) < (xs.n : Int) ∧ xs.A.isSome = true) ∧ ∃ p7 : Option Addr, w031.cell? (((gA xs.A).add ((0 : Int).toNat * 3)).add 1) = some (.pointer p7) ∧ Csbc_Dev_Do p7 #[.int .u8 7, .bool false, .int .u64 0, .int .u64 (IntKind.wrap .u64 (mn (IntKind.wrap .i64 ((p.n : Int).tdiv 16)) 32)), .int .i64 0, .bool false, .int .u8 0, .bool false, .bool false, .int .u8 0, .int .u8 0, .bool false, .int .u8 0, .int .u8 0, .bool false] ⟨none, 0, 0⟩ w031 fun g7 w032 => New (.cells #[.int .u8 0, .int .u8 0, .int .u16 0, .int .u64 0, .bool false, .int .i64 0, .int .i64 0, .bool false, .bool false, .slice none 0 0] 57) w032 fun o1 w033 => RunU Tryd.prog (storeVar 57 o1 (.agg g7)) w033 fun w034 => ∀ w035, w035 = w034.drew → ∃ S2 : World → Prop, S2 w035 ∧ ∃ n7 : Int, (∀ u7, S2 u7 → u7.cell? (w_1.add 0) = some (.int .u8 n7)) ∧ ∃ n8 : Int, ((!((n7 != 0) || (n6 != 1))) = true → (∀ u8, S2 u8 → u8.cell? (r1.add 0) = some (.int .u8 n8))) ∧ ∃ xs9 : Sl, ((!(((n7 != 0) || (n6 != 1)) || (n8 != 0))) = true → (∀ u9, S2 u9 → u9.cell? (l1.add 9) = some (.slice xs9.A xs9.n xs9.c))) ∧ ∃ xs10 : Sl, ((!((((n7 != 0) || (n6 != 1)) || (n8 != 0)) || ((xs9.n : Int) != 512))) = true → (∀ u10, S2 u10 → u10.cell? (o1.add 9) = some (.slice xs10.A xs10.n xs10.c))) ∧ ∃ s2 : ByteArray, ((!((((n7 != 0) || (n6 != 1)) || (n8 != 0)) || ((xs9.n : Int) != 512))) = true → (∀ u11, S2 u11 → (convert 22 9 (.slice xs10.A xs10.n xs10.c)).run Tryd.prog u11 = .ok (.string s2) u11)) ∧ ((!((((n7 != 0) || (n6 != 1)) || (n8 != 0)) || ((xs9.n : Int) != 512))) = true → (0 ≤ (0 : Int) ∧ (0 : Int) ≤ (IntKind.wrap .i64 (16 * (mn (IntKind.wrap .i64 ((p.n : Int).tdiv 16)) 32))) ∧ (IntKind.wrap .i64 (16 * (mn (IntKind.wrap .i64 ((p.n : Int).tdiv 16)) 32))) ≤ (p.c : Int) ∧ p.n ≤ p.c)) ∧ ∃ s3 : ByteArray, ((!((((n7 != 0) || (n6 != 1)) || (n8 != 0)) || ((xs9.n : Int) != 512))) = true → (∀ u12, S2 u12 → (convert 22 9 (.slice (cutA p.A p.c 0 1) ((IntKind.wrap .i64 (16 * (mn (IntKind.wrap .i64 ((p.n : Int).tdiv 16)) 32))).toNat - 0) (p.c - 0))).run Tryd.prog u12 = .ok (.string s3) u12)) ∧ Br (((((n7 != 0) || (n6 != 1)) || (n8 != 0)) || ((xs9.n : Int) != 512)) || (!(sEq s2 s3))) (R false w035) (∃ (I1 : Int → World → Prop) (μ1 : Int → World → Nat), I1 0 w035 ∧ ∀ (i1 : Int) (w036 : World), I1 i1 w036 → Br (decide (i1 < 512)) (letX (fun (w037 : World) => I1 (IntKind.wrap .i64 (i1 + 1)) w037 ∧ μ1 (IntKind.wrap .i64 (i1 + 1)) w037 < μ1 i1 w036) fun J_2 => letX (fun (want1 : Int) (w038 : World) => ∃ xs11 : Sl, w038.cell? (l1.add 9) = some (.slice xs11.A xs11.n xs11.c) ∧ (0 ≤ i1 ∧ i1 < (xs11.n : Int) ∧ xs11.A.isSome = true) ∧ ∃ n9 : Int, w038.cell? ((gA xs11.A).add (i1.toNat * 1)) = some (.int .u8 n9) ∧ Br (n9 != want1) (R false w038) (J_2 w038)) fun J_3 => Br ((decide ((IntKind.wrap .i64 (i1 - (IntKind.wrap .i64 (16 * ((IntKind.wrap .i64 dst).tmod (IntKind.wrap .i64 (33 - ((IntKind.wrap .i64 n).tmod (IntKind.wrap .i64 ((IntKind.wrap .i64 ((mn (IntKind.wrap .i64 ((p.n : Int).tdiv 16)) 32) - ((IntKind.wrap .i64 src).tmod (mn (IntKind.wrap .i64 ((p.n : Int).tdiv 16)) 32)))) + 1)))))))))) ≥ 0)) && (decide ((IntKind.wrap .i64 (i1 - (IntKind.wrap .i64 (16 * ((IntKind.wrap .i64 dst).tmod (IntKind.wrap .i64 (33 - ((IntKind.wrap .i64 n).tmod (IntKind.wrap .i64 ((IntKind.wrap .i64 ((mn (IntKind.wrap .i64 ((p.n : Int).tdiv 16)) 32) - ((IntKind.wrap .i64 src).tmod (mn (IntKind.wrap .i64 ((p.n : Int).tdiv 16)) 32)))) + 1)))))))))) < (IntKind.wrap .i64 (16 * ((IntKind.wrap .i64 n).tmod (IntKind.wrap .i64 ((IntKind.wrap .i64 ((mn (IntKind.wrap .i64 ((p.n : Int).tdiv 16)) 32) - ((IntKind.wrap .i64 src).tmod (mn (IntKind.wrap .i64 ((p.n : Int).tdiv 16)) 32)))) + 1)))))))) ((0 ≤ (IntKind.wrap .i64 ((IntKind.wrap .i64 (16 * ((IntKind.wrap .i64 src).tmod (mn (IntKind.wrap .i64 ((p.n : Int).tdiv 16)) 32)))) + (IntKind.wrap .i64 (i1 - (IntKind.wrap .i64 (16 * ((IntKind.wrap .i64 dst).tmod (IntKind.wrap .i64 (33 - ((IntKind.wrap .i64 n).tmod (IntKind.wrap .i64 ((IntKind.wrap .i64 ((mn (IntKind.wrap .i64 ((p.n : Int).tdiv 16)) 32) - ((IntKind.wrap .i64 src).tmod (mn (IntKind.wrap .i64 ((p.n : Int).tdiv 16)) 32)))) + 1)))))))))))) ∧ (IntKind.wrap .i64 ((IntKind.wrap .i64 (16 * ((IntKind.wrap .i64 src).tmod (mn (IntKind.wrap .i64 ((p.n : Int).tdiv 16)) 32)))) + (IntKind.wrap .i64 (i1 - (IntKind.wrap .i64 (16 * ((IntKind.wrap .i64 dst).tmod (IntKind.wrap .i64 (33 - ((IntKind.wrap .i64 n).tmod (IntKind.wrap .i64 ((IntKind.wrap .i64 ((mn (IntKind.wrap .i64 ((p.n : Int).tdiv 16)) 32) - ((IntKind.wrap .i64 src).tmod (mn (IntKind.wrap .i64 ((p.n : Int).tdiv 16)) 32)))) + 1)))))))))))) < (p.n : Int) ∧ p.A.isSome = true) ∧ ∃ n10 : Int, w036.cell? ((gA p.A).add ((IntKind.wrap .i64 ((IntKind.wrap .i64 (16 * ((IntKind.wrap .i64 src).tmod (mn (IntKind.wrap .i64 ((p.n : Int).tdiv 16)) 32)))) + (IntKind.wrap .i64 (i1 - (IntKind.wrap .i64 (16 * ((IntKind.wrap .i64 dst).tmod (IntKind.wrap .i64 (33 - ((IntKind.wrap .i64 n).tmod (IntKind.wrap .i64 ((IntKind.wrap .i64 ((mn (IntKind.wrap .i64 ((p.n : Int).tdiv 16)) 32) - ((IntKind.wrap .i64 src).tmod (mn (IntKind.wrap .i64 ((p.n : Int).tdiv 16)) 32)))) + 1)))))))))))).toNat * 1)) = some (.int .u8 n10) ∧ J_3 n10 w036) (J_3 0 w036)) (R true w036))))
theorem Fpalletlaw15_XcopyMoves.calls (p : Sl) (src : Int) (dst : Int) (n : Int) (w : World) (R : Bool → World → Prop) (h : Fpalletlaw15_XcopyMoves p src dst n w R) : Cpalletlaw15_XcopyMoves p src dst n w R :=
  calls_of_vc (anOp_ok callable) wide Tryd.func6 [(51, ⟨[(22, .i .i64)], [0, 14, 15, 16, 20]⟩), (5, ⟨[], [0, 14, 15, 16, 20, 22]⟩), (67, ⟨[(23, .i .u8)], [0, 14, 15, 16, 20, 22]⟩), (51, ⟨[(22, .i .i64)], [0, 14, 15, 16, 20]⟩), (5, ⟨[], [0, 14, 15, 16, 20, 22]⟩), (67, ⟨[(23, .i .u8)], [0, 14, 15, 16, 20, 22]⟩)] [.b] [.slice p.A p.n p.c, .int .u8 src, .int .u8 dst, .int .u8 n] w R (Eq.mp (show Fpalletlaw15_XcopyMoves p src dst n w R = vcF Tryd.prog G Tryd.f6 [(51, ⟨[(22, .i .i64)], [0, 14, 15, 16, 20]⟩), (5, ⟨[], [0, 14, 15, 16, 20, 22]⟩), (67, ⟨[(23, .i .u8)], [0, 14, 15, 16, 20, 22]⟩), (51, ⟨[(22, .i .i64)], [0, 14, 15, 16, 20]⟩), (5, ⟨[], [0, 14, 15, 16, 20, 22]⟩), (67, ⟨[(23, .i .u8)], [0, 14, 15, 16, 20, 22]⟩)] [.b] [.slice p.A p.n p.c, .int .u8 src, .int .u8 dst, .int .u8 n] w R by kernel_rfl) h)
/-- pallet/palletlaw15.XcopyStops -/
def Fpalletlaw15_XcopyStops (p : Sl) (bad : Int) (shut : Bool) (w : World) (R : Bool → World → Prop) : Prop :=
  Cpalletlaw15_awake  w fun b w0 => Br ((!b) || (decide ((p.n : Int) < 128))) (Cpalletlaw15_awake  w0 fun b1 w01 => R b1 w01) (Cpalletlaw15_pair 32 w0 fun xs xs1 p1 p2 w02 => ∀ w03, w03 = w02.drew → ∃ S : World → Prop, S w03 ∧ (0 ≤ (0 : Int) ∧ (0 : Int) < (xs.n : Int) ∧ xs.A.isSome = true) ∧ ∃ p3 : Option Addr, (∀ u, S u → u.cell? (((gA xs.A).add ((0 : Int).toNat * 3)).add 1) = some (.pointer p3)) ∧ (0 ≤ (0 : Int) ∧ (0 : Int) ≤ (128 : Int) ∧ (128 : Int) ≤ (p.c : Int) ∧ p.n ≤ p.c) ∧ (Csbc_Dev_Do p3 #[.int .u8 8, .bool false, .int .u64 0, .int .u64 8, .int .i64 0, .bool false, .int .u8 0, .bool false, .bool false, .int .u8 0, .int .u8 0, .bool false, .int .u8 0, .int .u8 0, .bool false] ⟨(cutA p.A p.c 0 1), (128 - 0), (p.c - 0)⟩ w03 fun g w04 => New (.cells #[.int .u8 0, .int .u8 0, .int .u16 0, .int .u64 0, .bool false, .int .i64 0, .int .i64 0, .bool false, .bool false, .slice none 0 0] 57) w04 fun w_ w05 => S w05 ∧ RunU Tryd.prog (storeVar 57 w_ (.agg g)) w05 fun w06 => RunK Tryd.prog .sl (Instr.buildSlice 24 3 #[(0, .string s_a), (1, .string s_b), (2, .string s_c)]) w06 fun xs2 w07 => New (.cells #[.slice none 0 0, .slice none 0 0] 27) w07 fun l w08 => RunU Tryd.prog (storeVar 27 l (.agg #[.slice xs2.A xs2.n xs2.c, .slice none 0 0])) w08 fun w09 => ((8 : Int) ≠ 0) ∧ ∃ (I : Int → World → Prop) (μ : Int → World → Nat), I 0 w09 ∧ ∀ (i : Int) (w010 : World), I i w010 → Br (decide (i < 8)) (letX (fun (w011 : World) => I (IntKind.wrap .i64 (i + 1)) w011 ∧ μ (IntKind.wrap .i64 (i + 1)) w011 < μ i w010) fun J_ => New (.cells #[.int .i64 0, .int .i64 0, .int .i64 0, .int .u64 0, .int .u64 0] 68) w010 fun x w012 => RunU Tryd.prog (storeVar 68 x (.agg #[.int .i64 0, .int .i64 1, .int .i64 1, .int .u64 (IntKind.wrap .u64 i), .int .u64 (IntKind.wrap .u64 i)])) w012 fun w013 => letX (fun (w014 : World) => ∃ xs3 : Sl, w014.cell? (l.add 1) = some (.slice xs3.A xs3.n xs3.c) ∧ ∃ g1 : Array Value, (loadVar 68 x).run Tryd.prog w014 = .ok (.agg g1) w014 ∧ RunK Tryd.prog .sl (Instr.buildSlice 25 1 #[(0, .agg g1)]) w014 fun xs4 w015 => RunK Tryd.prog .sl (Builtin.append_ #[25, 25] 25 #[.slice xs3.A xs3.n xs3.c, .slice xs4.A xs4.n xs4.c]) w015 fun xs5 w016 => Put (l.add 1) (.slice xs5.A xs5.n xs5.c) w016 fun w017 => J_ w017) fun J_1 => Br ((i == ((IntKind.wrap .i64 bad).tmod 8)) && shut) (Put (x.add 1) (.int .i64 2) w013 fun w018 => J_1 w018) (Br (i == ((IntKind.wrap .i64 bad).tmod 8)) (Put (x.add 4) (.int .u64 32) w013 fun w020 => J_1 w020) (J_1 w013))) (∃ g2 : Array Value, (loadVar 27 l).run Tryd.prog w010 = .ok (.agg g2) w010 ∧ Cxcopy_Run g2 xs w010 fun n g3 w021 => New (.cells #[.int .u8 0, .int .u8 0, .int .u16 0, .int .u64 0, .bool false, .int .i64 0, .int .i64 0, .bool false, .bool false, .slice none 0 0] 57) w021 fun r w022 => RunU Tryd.prog (storeVar 57 r (.agg g3)) w022 fun w023 => letX (fun (code : Int) (w024 : World) => ∃ n1 : Int, w024.cell? (w_.add 0) = some (.int .u8 n1) ∧ ∃ n2 : Int, ((!((n1 != 0) || (n != ((IntKind.wrap .i64 bad).tmod 8)))) = true → w024.cell? (r.add 0) = some (.int .u8 n2)) ∧ ∃ n3 : Int, ((!(((n1 != 0) || (n != ((IntKind.wrap .i64 bad).tmod 8))) || (n2 != 2))) = true → w024.cell? ((r.add 1).add 0) = some (.int .u8 n3)) ∧ ∃ n4 : Int, ((!((((n1 != 0) || (n != ((IntKind.wrap .i64 bad).tmod 8))) || (n2 != 2)) || (n3 != 10))) = true → w024.cell? ((r.add 1).add 1) = some (.int .u16 n4)) ∧ ∃ n5 : Int, ((!(((((n1 != 0) || (n != ((IntKind.wrap .i64 bad).tmod 8))) || (n2 != 2)) || (n3 != 10)) || (n4 != code))) = true → w024.cell? ((r.add 1).add 2) = some (.int .u64 n5)) ∧ Br ((((((n1 != 0) || (n != ((IntKind.wrap .i64 bad).tmod 8))) || (n2 != 2)) || (n3 != 10)) || (n4 != code)) || ((IntKind.wrap .i64 n5) != ((IntKind.wrap .i64 bad).tmod 8))) (R false w024) ((0 ≤ (1 : Int) ∧ (1 : Int) < (xs.n : Int) ∧ xs.A.isSome = true) ∧ ∃ p4 : Option Addr, w024.cell? (((gA xs.A).add ((1 : Int).toNat * 3)).add 1) = some (.pointer p4) ∧ Csbc_Dev_Do p4 #[.int .u8 7, .bool false, .int .u64 0, .int .u64 8, .int .i64 0, .bool false, .int .u8 0, .bool false, .bool false, .int .u8 0, .int .u8 0, .bool false, .int .u8 0, .int .u8 0, .bool false] ⟨none, 0, 0⟩ w024 fun g4 w025 => New (.cells #[.int .u8 0, .int .u8 0, .int .u16 0, .int .u64 0, .bool false, .int .i64 0, .int .i64 0, .bool false, .bool false, .slice none 0 0] 57) w025 fun o w026 => RunU Tryd.prog (storeVar 57 o (.agg g4)) w026 fun w027 => ∃ xs6 : Sl, w027.cell? (o.add 9) = some (.slice xs6.A xs6.n xs6.c) ∧ Br ((xs6.n : Int) != 128) (R false w027) (∃ (I1 : Int → World → Prop) (μ1 : Int → World → Nat), I1 0 w027 ∧ ∀ (i1 : Int) (w028 : World), I1 i1 w028 → Br (decide (i1 < 128)) (letX (fun (w029 : World) => I1 (IntKind.wrap .i64 (i1 + 1)) w029 ∧ μ1 (IntKind.wrap .i64 (i1 + 1)) w029 < μ1 i1 w028) fun J_2 => letX (fun (want : Int) (w030 : World) => ∃ xs7 : Sl, w030.cell? (o.add 9) = some (.slice xs7.A xs7.n xs7.c) ∧ (0 ≤ i1 ∧ i1 < (xs7.n : Int) ∧ xs7.A.isSome = true) ∧ ∃ n6 : Int, w030.cell? ((gA xs7.A).add (i1.toNat * 1)) = some (.int .u8 n6) ∧ Br (n6 != want) (R false w030) (J_2 w030)) fun J_3 => Br (decide (i1 < (IntKind.wrap .i64 (16 * ((IntKind.wrap .i64 bad).tmod 8))))) ((0 ≤ i1 ∧ i1 < (p.n : Int) ∧ p.A.isSome = true) ∧ ∃ n7 : Int, w028.cell? ((gA p.A).add (i1.toNat * 1)) = some (.int .u8 n7) ∧ J_3 n7 w028) (J_3 0 w028)) (R true w028)))) fun J_4 => Br shut (J_4 3330 w023) (J_4 8448 w023))) ∧ New (.cells #[.int .u8 0, .int .u8 0, .int .u16 0, .int .u64 0, .bool false, .int .i64 0, .int .i64 0, .bool false, .bool false, .slice none 0 0] 57) w03 fun w_1 w031 => S w031 ∧ Csbc_Dev_Do p3 #[.int .u8 8, .bool false, .int .u64 0, .int .u64 8, .int .i64 0, .bool false, .int .u8 0, .bool false, .bool false, .int .u8 0, .int .u8 0, .bool false, .int .u8 0, .int .u8 0, .bool false] ⟨(cutA p.A p.c 0 1), (128 - 0), (p.c - 0)⟩ w031 fun g5 w032 => RunU Tryd.prog (storeVar 57 w_1 (.agg g5)) w032 fun w033 => RunK Tryd.prog .sl (Instr.buildSlice 24 3 #[(0, .string s_a), (1, .string s_b), (2, .string s_c)]) w033 fun xs8 w034 => New (.cells #[.slice none 0 0, .slice none 0 0] 27) w034 fun l1 w035 => RunU Tryd.prog (storeVar 27 l1 (.agg #[.slice xs8.A xs8.n xs8.c, .slice none 0 0])) w035 fun w036 => ((8 : Int) ≠ 0) ∧ ∃ (I2 : Int → World → Prop) (μ2 : Int → World → Nat), I2 0 w036 ∧ ∀ (i2 : Int) (w037 : World), I2 i2 w037 → Br (decide (i2 < 8)) (letX (fun (w038 : World) => I2 (IntKind.wrap .i64 (i2 + 1)) w038 ∧ μ2 (IntKind.wrap .i64 (i2 + 1)) w038 < μ2 i2 w037) fun J_5 => New (.cells #[.int .i64 0, .int .i64 0, .int .i64 0, .int .u64 0, .int .u64 0] 68) w037 fun x1 w039 => RunU Tryd.prog (storeVar 68 x1 (.agg #[.int .i64 0, .int .i64 1, .int .i64 1, .int .u64 (IntKind.wrap .u64 i2), .int .u64 (IntKind.wrap .u64 i2)])) w039 fun w040 => letX (fun (w041 : World) => ∃ xs9 : Sl, w041.cell? (l1.add 1) = some (.slice xs9.A xs9.n xs9.c) ∧ ∃ g6 : Array Value, (loadVar 68 x1).run Tryd.prog w041 = .ok (.agg g6) w041 ∧ RunK Tryd.prog .sl (Instr.buildSlice 25 1 #[(0, .agg g6)]) w041 fun xs10 w042 => RunK Tryd.prog .sl (Builtin.append_ #[25, 25] 25 #[.slice xs9.A xs9.n xs9.c, .slice xs10.A xs10.n xs10.c]) w042 fun xs11 w043 => Put (l1.add 1) (.slice xs11.A xs11.n xs11.c) w043 fun w044 => J_5 w044) fun J_6 => Br ((i2 == ((IntKind.wrap .i64 bad).tmod 8)) && shut) (Put (x1.add 1) (.int .i64 2) w040 fun w045 => J_6 w045) (Br (i2 == ((IntKind.wrap .i64 bad).tmod 8)) (Put (x1.add 4) (.int .u64 32) w040 fun w047 => J_6 w047) (J_6 w040))) (∃ g7 : Array Value, (loadVar 27 l1).run Tryd.prog w037 = .ok (.agg g7) w037 ∧ Cxcopy_Run g7 xs w037 fun n8 g8 w048 => New (.cells #[.int .u8 0, .int .u8 0, .int .u16 0, .int .u64 0, .bool false, .int .i64 0, .int .i64 0, .bool false, .bool false, .slice none 0 0] 57) w048 fun r1 w049 => RunU Tryd.prog (storeVar 57 r1 (.agg g8)) w049 fun w050 => letX (fun (code1 : Int) (w051 : World) => ∃ n9 : Int, w051.cell? (w_1.add 0) = some (.int .u8 n9) ∧ ∃ n10 : Int, ((!((n9 != 0) || (n8 != ((IntKind.wrap .i64 bad).tmod 8)))) = true → w051.cell? (r1.add 0) = some (.int .u8 n10)) ∧ ∃ n11 : Int, ((!(((n9 != 0) || (n8 != ((IntKind.wrap .i64 bad).tmod 8))) || (n10 != 2))) = true → w051.cell? ((r1.add 1).add 0) = some (.int .u8 n11)) ∧ ∃ n12 : Int, ((!((((n9 != 0) || (n8 != ((IntKind.wrap .i64 bad).tmod 8))) || (n10 != 2)) || (n11 != 10))) = true → w051.cell? ((r1.add 1).add 1) = some (.int .u16 n12)) ∧ ∃ n13 : Int, ((!(((((n9 != 0) || (n8 != ((IntKind.wrap .i64 bad).tmod 8))) || (n10 != 2)) || (n11 != 10)) || (n12 != code1))) = true → w051.cell? ((r1.add 1).add 2) = some (.int .u64 n13)) ∧ Br ((((((n9 != 0) || (n8 != ((IntKind.wrap .i64 bad).tmod 8))) || (n10 != 2)) || (n11 != 10)) || (n12 != code1)) || ((IntKind.wrap .i64 n13) != ((IntKind.wrap .i64 bad).tmod 8))) (R false w051) ((0 ≤ (1 : Int) ∧ (1 : Int) < (xs.n : Int) ∧ xs.A.isSome = true) ∧ ∃ p5 : Option Addr, w051.cell? (((gA xs.A).add ((1 : Int).toNat * 3)).add 1) = some (.pointer p5) ∧ Csbc_Dev_Do p5 #[.int .u8 7, .bool false, .int .u64 0, .int .u64 8, .int .i64 0, .bool false, .int .u8 0, .bool false, .bool false, .int .u8 0, .int .u8 0, .bool false, .int .u8 0, .int .u8 0, .bool false] ⟨none, 0, 0⟩ w051 fun g9 w052 => New (.cells #[.int .u8 0, .int .u8 0, .int .u16 0, .int .u64 0, .bool false, .int .i64 0, .int .i64 0, .bool false, .bool false, .slice none 0 0] 57) w052 fun o1 w053 => RunU Tryd.prog (storeVar 57 o1 (.agg g9)) w053 fun w054 => ∃ xs12 : Sl, w054.cell? (o1.add 9) = some (.slice xs12.A xs12.n xs12.c) ∧ Br ((xs12.n : Int) != 128) (R false w054) (∃ (I3 : Int → World → Prop) (μ3 : Int → World → Nat), I3 0 w054 ∧ ∀ (i3 : Int) (w055 : World), I3 i3 w055 → Br (decide (i3 < 128)) (letX (fun (w056 : World) => I3 (IntKind.wrap .i64 (i3 + 1)) w056 ∧ μ3 (IntKind.wrap .i64 (i3 + 1)) w056 < μ3 i3 w055) fun J_7 => letX (fun (want1 : Int) (w057 : World) => ∃ xs13 : Sl, w057.cell? (o1.add 9) = some (.slice xs13.A xs13.n xs13.c) ∧ (0 ≤ i3 ∧ i3 < (xs13.n : Int) ∧ xs13.A.isSome = true) ∧ ∃ n14 : Int, w057.cell? ((gA xs13.A).add (i3.toNat * 1)) = some (.int .u8 n14) ∧ Br (n14 != want1) (R false w057) (J_7 w057)) fun J_8 => Br (decide (i3 < (IntKind.wrap .i64 (16 * ((IntKind.wrap .i64 bad).tmod 8))))) ((0 ≤ i3 ∧ i3 < (p.n : Int) ∧ p.A.isSome = true) ∧ ∃ n15 : Int, w055.cell? ((gA p.A).add (i3.toNat * 1)) = some (.int .u8 n15) ∧ J_8 n15 w055) (J_8 0 w055)) (R true w055)))) fun J_9 => Br shut (J_9 3330 w050) (J_9 8448 w050)))
theorem Fpalletlaw15_XcopyStops.calls (p : Sl) (bad : Int) (shut : Bool) (w : World) (R : Bool → World → Prop) (h : Fpalletlaw15_XcopyStops p bad shut w R) : Cpalletlaw15_XcopyStops p bad shut w R :=
  calls_of_vc (anOp_ok callable) wide Tryd.func7 [(24, ⟨[(14, .i .i64)], [0, 2, 7, 11, 12, 13]⟩), (5, ⟨[], [0, 2, 7, 11, 12, 13, 14]⟩), (37, ⟨[], [0, 2, 7, 11, 12, 13, 14, 15]⟩), (78, ⟨[(20, .i .i64)], [0, 13, 19]⟩), (11, ⟨[], [0, 13, 19, 20]⟩), (91, ⟨[(21, .i .u8)], [0, 13, 19, 20]⟩), (58, ⟨[(18, .i .u16)], [0, 7, 11, 13, 16, 17]⟩), (24, ⟨[(14, .i .i64)], [0, 2, 7, 11, 12, 13]⟩), (5, ⟨[], [0, 2, 7, 11, 12, 13, 14]⟩), (37, ⟨[], [0, 2, 7, 11, 12, 13, 14, 15]⟩), (78, ⟨[(20, .i .i64)], [0, 13, 19]⟩), (11, ⟨[], [0, 13, 19, 20]⟩), (91, ⟨[(21, .i .u8)], [0, 13, 19, 20]⟩), (58, ⟨[(18, .i .u16)], [0, 7, 11, 13, 16, 17]⟩)] [.b] [.slice p.A p.n p.c, .int .u8 bad, .bool shut] w R (Eq.mp (show Fpalletlaw15_XcopyStops p bad shut w R = vcF Tryd.prog G Tryd.f7 [(24, ⟨[(14, .i .i64)], [0, 2, 7, 11, 12, 13]⟩), (5, ⟨[], [0, 2, 7, 11, 12, 13, 14]⟩), (37, ⟨[], [0, 2, 7, 11, 12, 13, 14, 15]⟩), (78, ⟨[(20, .i .i64)], [0, 13, 19]⟩), (11, ⟨[], [0, 13, 19, 20]⟩), (91, ⟨[(21, .i .u8)], [0, 13, 19, 20]⟩), (58, ⟨[(18, .i .u16)], [0, 7, 11, 13, 16, 17]⟩), (24, ⟨[(14, .i .i64)], [0, 2, 7, 11, 12, 13]⟩), (5, ⟨[], [0, 2, 7, 11, 12, 13, 14]⟩), (37, ⟨[], [0, 2, 7, 11, 12, 13, 14, 15]⟩), (78, ⟨[(20, .i .i64)], [0, 13, 19]⟩), (11, ⟨[], [0, 13, 19, 20]⟩), (91, ⟨[(21, .i .u8)], [0, 13, 19, 20]⟩), (58, ⟨[(18, .i .u16)], [0, 7, 11, 13, 16, 17]⟩)] [.b] [.slice p.A p.n p.c, .int .u8 bad, .bool shut] w R by kernel_rfl) h)
/-- pallet/palletlaw15.awake -/
def Fpalletlaw15_awake (w : World) (R : Bool → World → Prop) : Prop :=
  RunK Tryd.prog .sl (Instr.buildSlice 24 1 #[(0, .string s_S)]) w fun xs w0 => RunK Tryd.prog .sl (Instr.buildSlice 25 1 #[(0, .agg #[.int .i64 0, .int .i64 0, .int .i64 2, .int .u64 0, .int .u64 4])]) w0 fun xs1 w01 => Cxcopy_Bytes #[.slice xs.A xs.n xs.c, .slice xs1.A xs1.n xs1.c] w01 fun xs2 n w02 => Cxcopy_Parse xs2 w02 fun g g1 b w03 => New (.cells #[.slice none 0 0, .slice none 0 0] 27) w03 fun l w04 => New (.cells #[.int .u8 0, .int .u16 0, .int .u64 0, .bool false, .int .i64 0, .int .i64 0, .bool false, .bool false] 31) w04 fun blank w05 => RunU Tryd.prog (storeVar 27 l (.agg g)) w05 fun w06 => RunU Tryd.prog (storeVar 31 blank (.agg g1)) w06 fun w07 => ∃ xs3 : Sl, (((n == 0) && b) = true → w07.cell? (l.add 1) = some (.slice xs3.A xs3.n xs3.c)) ∧ ∃ xs4 : Sl, ((((n == 0) && b) && ((xs3.n : Int) == 1)) = true → w07.cell? (l.add 1) = some (.slice xs4.A xs4.n xs4.c)) ∧ ((((n == 0) && b) && ((xs3.n : Int) == 1)) = true → (0 ≤ (0 : Int) ∧ (0 : Int) < (xs4.n : Int) ∧ xs4.A.isSome = true)) ∧ ∃ n1 : Int, ((((n == 0) && b) && ((xs3.n : Int) == 1)) = true → w07.cell? (((gA xs4.A).add ((0 : Int).toNat * 5)).add 4) = some (.int .u64 n1)) ∧ R ((((n == 0) && b) && ((xs3.n : Int) == 1)) && (n1 == 4)) w07
theorem Fpalletlaw15_awake.calls (w : World) (R : Bool → World → Prop) (h : Fpalletlaw15_awake w R) : Cpalletlaw15_awake w R :=
  calls_of_vc (anOp_ok callable) wide Tryd.func8 [] [.b] [] w R (Eq.mp (show Fpalletlaw15_awake w R = vcF Tryd.prog G Tryd.f8 [] [.b] [] w R by kernel_rfl) h)
/-- pallet/xcopy.Parse -/
def Fxcopy_Parse (p : Sl) (w : World) (R : (Array Value) → (Array Value) → Bool → World → Prop) : Prop :=
  New (.cells #[.slice none 0 0, .slice none 0 0] 27) w fun a w0 => New (.cells #[.int .u8 0, .int .u16 0, .int .u64 0, .bool false, .int .i64 0, .int .i64 0, .bool false, .bool false] 31) w0 fun a1 w01 => Br ((p.n : Int) == 0) (RunU Tryd.prog (storeVar 27 a (.agg #[.slice none 0 0, .slice none 0 0])) w01 fun w02 => RunU Tryd.prog (storeVar 31 a1 (.agg #[.int .u8 0, .int .u16 0, .int .u64 0, .bool false, .int .i64 0, .int .i64 0, .bool false, .bool false])) w02 fun w03 => ∃ res : Array Value, (loadVar 27 a).run Tryd.prog w03 = .ok (.agg res) w03 ∧ ∃ res1 : Array Value, (loadVar 31 a1).run Tryd.prog w03 = .ok (.agg res1) w03 ∧ R res res1 true w03) (Br (decide ((p.n : Int) < 16)) (Cxcopy_bad 6656 (-1) w01 fun g w04 => RunU Tryd.prog (storeVar 27 a (.agg #[.slice none 0 0, .slice none 0 0])) w04 fun w05 => RunU Tryd.prog (storeVar 31 a1 (.agg g)) w05 fun w06 => ∃ res2 : Array Value, (loadVar 27 a).run Tryd.prog w06 = .ok (.agg res2) w06 ∧ ∃ res3 : Array Value, (loadVar 31 a1).run Tryd.prog w06 = .ok (.agg res3) w06 ∧ R res2 res3 false w06) (Cxcopy_number p 2 2 w01 fun n w07 => Cxcopy_number p 8 4 w07 fun n1 w08 => (0 ≤ (0 : Int) ∧ (0 : Int) < (p.n : Int) ∧ p.A.isSome = true) ∧ ∃ n2 : Int, w08.cell? ((gA p.A).add ((0 : Int).toNat * 1)) = some (.int .u8 n2) ∧ ((!(n2 != 0)) = true → (0 ≤ (1 : Int) ∧ (1 : Int) < (p.n : Int) ∧ p.A.isSome = true)) ∧ ∃ n3 : Int, ((!(n2 != 0)) = true → w08.cell? ((gA p.A).add ((1 : Int).toNat * 1)) = some (.int .u8 n3)) ∧ Br ((n2 != 0) || (n3 != 0)) (Cxcopy_bad 9728 0 w08 fun g1 w09 => RunU Tryd.prog (storeVar 27 a (.agg #[.slice none 0 0, .slice none 0 0])) w09 fun w010 => RunU Tryd.prog (storeVar 31 a1 (.agg g1)) w010 fun w011 => ∃ res4 : Array Value, (loadVar 27 a).run Tryd.prog w011 = .ok (.agg res4) w011 ∧ ∃ res5 : Array Value, (loadVar 31 a1).run Tryd.prog w011 = .ok (.agg res5) w011 ∧ R res4 res5 false w011) (Cxcopy_number p 4 4 w08 fun n4 w012 => Br (n4 != 0) (Cxcopy_bad 9728 4 w012 fun g2 w013 => RunU Tryd.prog (storeVar 27 a (.agg #[.slice none 0 0, .slice none 0 0])) w013 fun w014 => RunU Tryd.prog (storeVar 31 a1 (.agg g2)) w014 fun w015 => ∃ res6 : Array Value, (loadVar 27 a).run Tryd.prog w015 = .ok (.agg res6) w015 ∧ ∃ res7 : Array Value, (loadVar 31 a1).run Tryd.prog w015 = .ok (.agg res7) w015 ∧ R res6 res7 false w015) (Cxcopy_number p 12 4 w012 fun n5 w016 => Br (n5 != 0) (Cxcopy_bad 9728 12 w016 fun g3 w017 => RunU Tryd.prog (storeVar 27 a (.agg #[.slice none 0 0, .slice none 0 0])) w017 fun w018 => RunU Tryd.prog (storeVar 31 a1 (.agg g3)) w018 fun w019 => ∃ res8 : Array Value, (loadVar 27 a).run Tryd.prog w019 = .ok (.agg res8) w019 ∧ ∃ res9 : Array Value, (loadVar 31 a1).run Tryd.prog w019 = .ok (.agg res9) w019 ∧ R res8 res9 false w019) (((32 : Int) ≠ 0) ∧ Br ((n.tmod 32) != 0) (Cxcopy_bad 9728 2 w016 fun g4 w020 => RunU Tryd.prog (storeVar 27 a (.agg #[.slice none 0 0, .slice none 0 0])) w020 fun w021 => RunU Tryd.prog (storeVar 31 a1 (.agg g4)) w021 fun w022 => ∃ res10 : Array Value, (loadVar 27 a).run Tryd.prog w022 = .ok (.agg res10) w022 ∧ ∃ res11 : Array Value, (loadVar 31 a1).run Tryd.prog w022 = .ok (.agg res11) w022 ∧ R res10 res11 false w022) (((28 : Int) ≠ 0) ∧ Br ((n1.tmod 28) != 0) (Cxcopy_bad 9728 8 w016 fun g5 w023 => RunU Tryd.prog (storeVar 27 a (.agg #[.slice none 0 0, .slice none 0 0])) w023 fun w024 => RunU Tryd.prog (storeVar 31 a1 (.agg g5)) w024 fun w025 => ∃ res12 : Array Value, (loadVar 27 a).run Tryd.prog w025 = .ok (.agg res12) w025 ∧ ∃ res13 : Array Value, (loadVar 31 a1).run Tryd.prog w025 = .ok (.agg res13) w025 ∧ R res12 res13 false w025) (Br ((p.n : Int) != (IntKind.wrap .i64 ((IntKind.wrap .i64 (16 + n)) + n1))) (Cxcopy_bad 6656 (-1) w016 fun g6 w026 => RunU Tryd.prog (storeVar 27 a (.agg #[.slice none 0 0, .slice none 0 0])) w026 fun w027 => RunU Tryd.prog (storeVar 31 a1 (.agg g6)) w027 fun w028 => ∃ res14 : Array Value, (loadVar 27 a).run Tryd.prog w028 = .ok (.agg res14) w028 ∧ ∃ res15 : Array Value, (loadVar 31 a1).run Tryd.prog w028 = .ok (.agg res15) w028 ∧ R res14 res15 false w028) (((28 : Int) ≠ 0) ∧ ((!(decide ((IntKind.wrap .i64 (n1.tdiv 28)) > 8))) = true → ((32 : Int) ≠ 0)) ∧ Br ((decide ((IntKind.wrap .i64 (n1.tdiv 28)) > 8)) || (decide ((IntKind.wrap .i64 (n.tdiv 32)) > 8))) (Cxcopy_bad 9736 (-1) w016 fun g7 w029 => RunU Tryd.prog (storeVar 27 a (.agg #[.slice none 0 0, .slice none 0 0])) w029 fun w030 => RunU Tryd.prog (storeVar 31 a1 (.agg g7)) w030 fun w031 => ∃ res16 : Array Value, (loadVar 27 a).run Tryd.prog w031 = .ok (.agg res16) w031 ∧ ∃ res17 : Array Value, (loadVar 31 a1).run Tryd.prog w031 = .ok (.agg res17) w031 ∧ R res16 res17 false w031) (New (.cells #[.slice none 0 0, .slice none 0 0] 27) w016 fun l w032 => ∃ (I : Int → World → Prop) (μ : Int → World → Nat), I 16 w032 ∧ ∀ (at_ : Int) (w033 : World), I at_ w033 → Br (decide (at_ < (IntKind.wrap .i64 (16 + n)))) ((0 ≤ at_ ∧ at_ ≤ (IntKind.wrap .i64 (at_ + 32)) ∧ (IntKind.wrap .i64 (at_ + 32)) ≤ (p.c : Int) ∧ p.n ≤ p.c) ∧ Cxcopy_unit ⟨(cutA p.A p.c at_.toNat 1), ((IntKind.wrap .i64 (at_ + 32)).toNat - at_.toNat), (p.c - at_.toNat)⟩ w033 fun s n6 w034 => Br (decide (n6 ≥ 0)) (Cxcopy_bad 9728 (IntKind.wrap .i64 (at_ + n6)) w034 fun g8 w035 => RunU Tryd.prog (storeVar 27 a (.agg #[.slice none 0 0, .slice none 0 0])) w035 fun w036 => RunU Tryd.prog (storeVar 31 a1 (.agg g8)) w036 fun w037 => ∃ res18 : Array Value, (loadVar 27 a).run Tryd.prog w037 = .ok (.agg res18) w037 ∧ ∃ res19 : Array Value, (loadVar 31 a1).run Tryd.prog w037 = .ok (.agg res19) w037 ∧ R res18 res19 false w037) (∃ xs : Sl, w034.cell? (l.add 0) = some (.slice xs.A xs.n xs.c) ∧ RunK Tryd.prog .sl (Instr.buildSlice 24 1 #[(0, .string s)]) w034 fun xs1 w038 => RunK Tryd.prog .sl (Builtin.append_ #[24, 24] 24 #[.slice xs.A xs.n xs.c, .slice xs1.A xs1.n xs1.c]) w038 fun xs2 w039 => Put (l.add 0) (.slice xs2.A xs2.n xs2.c) w039 fun w040 => I (IntKind.wrap .i64 (at_ + 32)) w040 ∧ μ (IntKind.wrap .i64 (at_ + 32)) w040 < μ at_ w033)) (∃ (I1 : Int → World → Prop) (μ1 : Int → World → Nat), I1 (IntKind.wrap .i64 (16 + n)) w033 ∧ ∀ (at_1 : Int) (w041 : World), I1 at_1 w041 → Br (decide (at_1 < (p.n : Int))) ((0 ≤ at_1 ∧ at_1 ≤ (IntKind.wrap .i64 (at_1 + 28)) ∧ (IntKind.wrap .i64 (at_1 + 28)) ≤ (p.c : Int) ∧ p.n ≤ p.c) ∧ Cxcopy_number ⟨(cutA p.A p.c at_1.toNat 1), ((IntKind.wrap .i64 (at_1 + 28)).toNat - at_1.toNat), (p.c - at_1.toNat)⟩ 4 2 w041 fun n7 w042 => Cxcopy_number ⟨(cutA p.A p.c at_1.toNat 1), ((IntKind.wrap .i64 (at_1 + 28)).toNat - at_1.toNat), (p.c - at_1.toNat)⟩ 6 2 w042 fun n8 w043 => Cxcopy_number ⟨(cutA p.A p.c at_1.toNat 1), ((IntKind.wrap .i64 (at_1 + 28)).toNat - at_1.toNat), (p.c - at_1.toNat)⟩ 10 2 w043 fun n9 w044 => New (.cells #[.int .i64 0, .int .i64 0, .int .i64 0, .int .u64 0, .int .u64 0] 68) w044 fun x w045 => RunU Tryd.prog (storeVar 68 x (.agg #[.int .i64 n7, .int .i64 n8, .int .i64 n9, .int .u64 0, .int .u64 0])) w045 fun w046 => Cbe_Get ⟨(cutA p.A p.c at_1.toNat 1), ((IntKind.wrap .i64 (at_1 + 28)).toNat - at_1.toNat), (p.c - at_1.toNat)⟩ 12 8 w046 fun n10 n11 w047 => Put (x.add 3) (.int .u64 n10) w047 fun w048 => Cbe_Get ⟨(cutA p.A p.c at_1.toNat 1), ((IntKind.wrap .i64 (at_1 + 28)).toNat - at_1.toNat), (p.c - at_1.toNat)⟩ 20 8 w048 fun n12 n13 w049 => Put (x.add 4) (.int .u64 n12) w049 fun w050 => Cxcopy_number ⟨(cutA p.A p.c at_1.toNat 1), ((IntKind.wrap .i64 (at_1 + 28)).toNat - at_1.toNat), (p.c - at_1.toNat)⟩ 0 4 w050 fun n14 w051 => Br (n14 != 33554456) (Cxcopy_bad 9728 at_1 w051 fun g9 w052 => RunU Tryd.prog (storeVar 27 a (.agg #[.slice none 0 0, .slice none 0 0])) w052 fun w053 => RunU Tryd.prog (storeVar 31 a1 (.agg g9)) w053 fun w054 => ∃ res20 : Array Value, (loadVar 27 a).run Tryd.prog w054 = .ok (.agg res20) w054 ∧ ∃ res21 : Array Value, (loadVar 31 a1).run Tryd.prog w054 = .ok (.agg res21) w054 ∧ R res20 res21 false w054) (Cxcopy_number ⟨(cutA p.A p.c at_1.toNat 1), ((IntKind.wrap .i64 (at_1 + 28)).toNat - at_1.toNat), (p.c - at_1.toNat)⟩ 8 2 w051 fun n15 w055 => Br (n15 != 0) (Cxcopy_bad 9728 (IntKind.wrap .i64 (at_1 + 8)) w055 fun g10 w056 => RunU Tryd.prog (storeVar 27 a (.agg #[.slice none 0 0, .slice none 0 0])) w056 fun w057 => RunU Tryd.prog (storeVar 31 a1 (.agg g10)) w057 fun w058 => ∃ res22 : Array Value, (loadVar 27 a).run Tryd.prog w058 = .ok (.agg res22) w058 ∧ ∃ res23 : Array Value, (loadVar 31 a1).run Tryd.prog w058 = .ok (.agg res23) w058 ∧ R res22 res23 false w058) (∃ n16 : Int, w055.cell? (x.add 0) = some (.int .i64 n16) ∧ ∃ xs3 : Sl, w055.cell? (l.add 0) = some (.slice xs3.A xs3.n xs3.c) ∧ Br (decide (n16 ≥ (xs3.n : Int))) (Cxcopy_bad 9728 (IntKind.wrap .i64 (at_1 + 4)) w055 fun g11 w059 => RunU Tryd.prog (storeVar 27 a (.agg #[.slice none 0 0, .slice none 0 0])) w059 fun w060 => RunU Tryd.prog (storeVar 31 a1 (.agg g11)) w060 fun w061 => ∃ res24 : Array Value, (loadVar 27 a).run Tryd.prog w061 = .ok (.agg res24) w061 ∧ ∃ res25 : Array Value, (loadVar 31 a1).run Tryd.prog w061 = .ok (.agg res25) w061 ∧ R res24 res25 false w061) (∃ n17 : Int, w055.cell? (x.add 1) = some (.int .i64 n17) ∧ ∃ xs4 : Sl, w055.cell? (l.add 0) = some (.slice xs4.A xs4.n xs4.c) ∧ Br (decide (n17 ≥ (xs4.n : Int))) (Cxcopy_bad 9728 (IntKind.wrap .i64 (at_1 + 6)) w055 fun g12 w062 => RunU Tryd.prog (storeVar 27 a (.agg #[.slice none 0 0, .slice none 0 0])) w062 fun w063 => RunU Tryd.prog (storeVar 31 a1 (.agg g12)) w063 fun w064 => ∃ res26 : Array Value, (loadVar 27 a).run Tryd.prog w064 = .ok (.agg res26) w064 ∧ ∃ res27 : Array Value, (loadVar 31 a1).run Tryd.prog w064 = .ok (.agg res27) w064 ∧ R res26 res27 false w064) (∃ n18 : Int, w055.cell? (x.add 2) = some (.int .i64 n18) ∧ Br (decide (n18 > 256)) (Cxcopy_bad 9728 (IntKind.wrap .i64 (at_1 + 10)) w055 fun g13 w065 => RunU Tryd.prog (storeVar 27 a (.agg #[.slice none 0 0, .slice none 0 0])) w065 fun w066 => RunU Tryd.prog (storeVar 31 a1 (.agg g13)) w066 fun w067 => ∃ res28 : Array Value, (loadVar 27 a).run Tryd.prog w067 = .ok (.agg res28) w067 ∧ ∃ res29 : Array Value, (loadVar 31 a1).run Tryd.prog w067 = .ok (.agg res29) w067 ∧ R res28 res29 false w067) (∃ xs5 : Sl, w055.cell? (l.add 1) = some (.slice xs5.A xs5.n xs5.c) ∧ ∃ g14 : Array Value, (loadVar 68 x).run Tryd.prog w055 = .ok (.agg g14) w055 ∧ RunK Tryd.prog .sl (Instr.buildSlice 25 1 #[(0, .agg g14)]) w055 fun xs6 w068 => RunK Tryd.prog .sl (Builtin.append_ #[25, 25] 25 #[.slice xs5.A xs5.n xs5.c, .slice xs6.A xs6.n xs6.c]) w068 fun xs7 w069 => Put (l.add 1) (.slice xs7.A xs7.n xs7.c) w069 fun w070 => I1 (IntKind.wrap .i64 (at_1 + 28)) w070 ∧ μ1 (IntKind.wrap .i64 (at_1 + 28)) w070 < μ1 at_1 w041)))))) (∃ g15 : Array Value, (loadVar 27 l).run Tryd.prog w041 = .ok (.agg g15) w041 ∧ RunU Tryd.prog (storeVar 27 a (.agg g15)) w041 fun w071 => RunU Tryd.prog (storeVar 31 a1 (.agg #[.int .u8 0, .int .u16 0, .int .u64 0, .bool false, .int .i64 0, .int .i64 0, .bool false, .bool false])) w071 fun w072 => ∃ res30 : Array Value, (loadVar 27 a).run Tryd.prog w072 = .ok (.agg res30) w072 ∧ ∃ res31 : Array Value, (loadVar 31 a1).run Tryd.prog w072 = .ok (.agg res31) w072 ∧ R res30 res31 true w072)))))))))))
theorem Fxcopy_Parse.calls (p : Sl) (w : World) (R : (Array Value) → (Array Value) → Bool → World → Prop) (h : Fxcopy_Parse p w R) : Cxcopy_Parse p w R :=
  calls_of_vc (anOp_ok callable) wide Tryd.func9 [(66, ⟨[(8, .i .i64)], [0, 2, 3, 5, 7]⟩), (87, ⟨[(11, .i .i64)], [0, 2, 3, 7]⟩)] [.ag, .ag, .b] [.slice p.A p.n p.c] w R (Eq.mp (show Fxcopy_Parse p w R = vcF Tryd.prog G Tryd.f9 [(66, ⟨[(8, .i .i64)], [0, 2, 3, 5, 7]⟩), (87, ⟨[(11, .i .i64)], [0, 2, 3, 7]⟩)] [.ag, .ag, .b] [.slice p.A p.n p.c] w R by kernel_rfl) h)
/-- pallet/palletref15.Parse -/
def Fpalletref15_Parse (p : Sl) (w : World) (R : (Array Value) → (Array Value) → Bool → World → Prop) : Prop :=
  New (.cells #[.slice none 0 0, .slice none 0 0] 36) w fun a w0 => New (.cells #[.int .u8 0, .int .u16 0, .int .u64 0, .bool false, .int .i64 0, .int .i64 0, .bool false, .bool false] 31) w0 fun a1 w01 => New (.cells #[.slice none 0 0, .slice none 0 0] 36) w01 fun l w02 => RunU Tryd.prog (storeVar 36 l (.agg #[.slice none 0 0, .slice none 0 0])) w02 fun w03 => Br ((p.n : Int) == 0) (∃ g : Array Value, (loadVar 36 l).run Tryd.prog w03 = .ok (.agg g) w03 ∧ RunU Tryd.prog (storeVar 36 a (.agg g)) w03 fun w04 => RunU Tryd.prog (storeVar 31 a1 (.agg #[.int .u8 0, .int .u16 0, .int .u64 0, .bool false, .int .i64 0, .int .i64 0, .bool false, .bool false])) w04 fun w05 => ∃ res : Array Value, (loadVar 36 a).run Tryd.prog w05 = .ok (.agg res) w05 ∧ ∃ res1 : Array Value, (loadVar 31 a1).run Tryd.prog w05 = .ok (.agg res1) w05 ∧ R res res1 true w05) (Cpalletref15_head p w03 fun g1 b w06 => New (.cells #[.int .u8 0, .int .u16 0, .int .u64 0, .bool false, .int .i64 0, .int .i64 0, .bool false, .bool false] 31) w06 fun e w07 => RunU Tryd.prog (storeVar 31 e (.agg g1)) w07 fun w08 => Br (!b) (∀ w09, w09 = w08.drew → ∃ S : World → Prop, S w09 ∧ ∃ g2 : Array Value, (∀ u, S u → (loadVar 36 l).run Tryd.prog u = .ok (.agg g2) u) ∧ ∃ g3 : Array Value, (∀ u1, S u1 → (loadVar 31 e).run Tryd.prog u1 = .ok (.agg g3) u1) ∧ RunU Tryd.prog (storeVar 36 a (.agg g2)) w09 fun w010 => S w010 ∧ RunU Tryd.prog (storeVar 31 a1 (.agg g3)) w010 fun w011 => ∃ res2 : Array Value, (loadVar 36 a).run Tryd.prog w011 = .ok (.agg res2) w011 ∧ ∃ res3 : Array Value, (loadVar 31 a1).run Tryd.prog w011 = .ok (.agg res3) w011 ∧ R res2 res3 false w011) (Cpalletref01_Num p 2 2 w08 fun n w012 => RunK Tryd.prog .sl (Instr.buildSlice 22 8 #[(0, .int .u8 228), (1, .int .u8 0), (2, .int .u8 0), (3, .int .u8 0), (4, .int .u8 2), (5, .int .u8 1), (6, .int .u8 0), (7, .int .u8 20)]) w012 fun xs w013 => ∃ (I : Int → World → Prop) (μ : Int → World → Nat), I 16 w013 ∧ ∀ (at_ : Int) (w014 : World), I at_ w014 → Br (decide (at_ < (IntKind.wrap .i64 (16 + (IntKind.wrap .i64 n))))) (∃ (I1 : Int → World → Prop) (μ1 : Int → World → Nat), I1 0 w014 ∧ ∀ (i : Int) (w015 : World), I1 i w015 → Br (decide (i < 8)) (∀ w016, w016 = w015.drew → ∃ S1 : World → Prop, S1 w016 ∧ (0 ≤ (IntKind.wrap .i64 (at_ + i)) ∧ (IntKind.wrap .i64 (at_ + i)) < (p.n : Int) ∧ p.A.isSome = true) ∧ ∃ n1 : Int, (∀ u2, S1 u2 → u2.cell? ((gA p.A).add ((IntKind.wrap .i64 (at_ + i)).toNat * 1)) = some (.int .u8 n1)) ∧ (0 ≤ i ∧ i < (xs.n : Int) ∧ xs.A.isSome = true) ∧ ∃ n2 : Int, (∀ u3, S1 u3 → u3.cell? ((gA xs.A).add (i.toNat * 1)) = some (.int .u8 n2)) ∧ Br (n1 != n2) (Cpalletref15_fault (IntKind.wrap .i64 (at_ + i)) w016 fun g4 w017 => RunU Tryd.prog (storeVar 36 a (.agg #[.slice none 0 0, .slice none 0 0])) w017 fun w018 => RunU Tryd.prog (storeVar 31 a1 (.agg g4)) w018 fun w019 => ∃ res4 : Array Value, (loadVar 36 a).run Tryd.prog w019 = .ok (.agg res4) w019 ∧ ∃ res5 : Array Value, (loadVar 31 a1).run Tryd.prog w019 = .ok (.agg res5) w019 ∧ R res4 res5 false w019) (I1 (IntKind.wrap .i64 (i + 1)) w016 ∧ μ1 (IntKind.wrap .i64 (i + 1)) w016 < μ1 i w015)) ((0 ≤ (IntKind.wrap .i64 (at_ + 28)) ∧ (IntKind.wrap .i64 (at_ + 28)) < (p.n : Int) ∧ p.A.isSome = true) ∧ ∃ n3 : Int, w015.cell? ((gA p.A).add ((IntKind.wrap .i64 (at_ + 28)).toNat * 1)) = some (.int .u8 n3) ∧ Br (n3 != 0) (Cpalletref15_fault (IntKind.wrap .i64 (at_ + 28)) w015 fun g5 w020 => RunU Tryd.prog (storeVar 36 a (.agg #[.slice none 0 0, .slice none 0 0])) w020 fun w021 => RunU Tryd.prog (storeVar 31 a1 (.agg g5)) w021 fun w022 => ∃ res6 : Array Value, (loadVar 36 a).run Tryd.prog w022 = .ok (.agg res6) w022 ∧ ∃ res7 : Array Value, (loadVar 31 a1).run Tryd.prog w022 = .ok (.agg res7) w022 ∧ R res6 res7 false w022) (Cpalletref01_Num p (IntKind.wrap .i64 (at_ + 29)) 3 w015 fun n4 w023 => Br (n4 != 16) (Cpalletref15_fault (IntKind.wrap .i64 (at_ + 29)) w023 fun g6 w024 => RunU Tryd.prog (storeVar 36 a (.agg #[.slice none 0 0, .slice none 0 0])) w024 fun w025 => RunU Tryd.prog (storeVar 31 a1 (.agg g6)) w025 fun w026 => ∃ res8 : Array Value, (loadVar 36 a).run Tryd.prog w026 = .ok (.agg res8) w026 ∧ ∃ res9 : Array Value, (loadVar 31 a1).run Tryd.prog w026 = .ok (.agg res9) w026 ∧ R res8 res9 false w026) (∀ w027, w027 = w023.drew → ∃ S2 : World → Prop, S2 w027 ∧ ∃ xs1 : Sl, (∀ u4, S2 u4 → u4.cell? (l.add 0) = some (.slice xs1.A xs1.n xs1.c)) ∧ (0 ≤ (IntKind.wrap .i64 (at_ + 8)) ∧ (IntKind.wrap .i64 (at_ + 8)) ≤ (IntKind.wrap .i64 (at_ + 28)) ∧ (IntKind.wrap .i64 (at_ + 28)) ≤ (p.c : Int) ∧ p.n ≤ p.c) ∧ Cpalletref15_trim ⟨(cutA p.A p.c (IntKind.wrap .i64 (at_ + 8)).toNat 1), ((IntKind.wrap .i64 (at_ + 28)).toNat - (IntKind.wrap .i64 (at_ + 8)).toNat), (p.c - (IntKind.wrap .i64 (at_ + 8)).toNat)⟩ w027 fun s w028 => S2 w028 ∧ RunK Tryd.prog .sl (Instr.buildSlice 24 1 #[(0, .string s)]) w028 fun xs2 w029 => S2 w029 ∧ RunK Tryd.prog .sl (Builtin.append_ #[24, 24] 24 #[.slice xs1.A xs1.n xs1.c, .slice xs2.A xs2.n xs2.c]) w029 fun xs3 w030 => Put (l.add 0) (.slice xs3.A xs3.n xs3.c) w030 fun w031 => I (IntKind.wrap .i64 (at_ + 32)) w031 ∧ μ (IntKind.wrap .i64 (at_ + 32)) w031 < μ at_ w014)))) (∃ (I2 : Int → World → Prop) (μ2 : Int → World → Nat), I2 (IntKind.wrap .i64 (16 + (IntKind.wrap .i64 n))) w014 ∧ ∀ (at_1 : Int) (w032 : World), I2 at_1 w032 → Br (decide (at_1 < (p.n : Int))) (letX (fun (w033 : World) => I2 (IntKind.wrap .i64 (at_1 + 28)) w033 ∧ μ2 (IntKind.wrap .i64 (at_1 + 28)) w033 < μ2 at_1 w032) fun J_ => Cpalletref01_Num p (IntKind.wrap .i64 (at_1 + 4)) 2 w032 fun n5 w034 => Cpalletref01_Num p (IntKind.wrap .i64 (at_1 + 6)) 2 w034 fun n6 w035 => Cpalletref01_Num p (IntKind.wrap .i64 (at_1 + 10)) 2 w035 fun n7 w036 => Cpalletref01_Num p (IntKind.wrap .i64 (at_1 + 12)) 8 w036 fun n8 w037 => Cpalletref01_Num p (IntKind.wrap .i64 (at_1 + 20)) 8 w037 fun n9 w038 => New (.cells #[.int .i64 0, .int .i64 0, .int .i64 0, .int .u64 0, .int .u64 0] 82) w038 fun x w039 => RunU Tryd.prog (storeVar 82 x (.agg #[.int .i64 (IntKind.wrap .i64 n5), .int .i64 (IntKind.wrap .i64 n6), .int .i64 (IntKind.wrap .i64 n7), .int .u64 n8, .int .u64 n9])) w039 fun w040 => letX (fun (bad : Int) (w041 : World) => Br (decide (bad ≥ 0)) (Cpalletref15_fault (IntKind.wrap .i64 (at_1 + bad)) w041 fun g7 w042 => RunU Tryd.prog (storeVar 36 a (.agg #[.slice none 0 0, .slice none 0 0])) w042 fun w043 => RunU Tryd.prog (storeVar 31 a1 (.agg g7)) w043 fun w044 => ∃ res10 : Array Value, (loadVar 36 a).run Tryd.prog w044 = .ok (.agg res10) w044 ∧ ∃ res11 : Array Value, (loadVar 31 a1).run Tryd.prog w044 = .ok (.agg res11) w044 ∧ R res10 res11 false w044) (∃ xs4 : Sl, w041.cell? (l.add 1) = some (.slice xs4.A xs4.n xs4.c) ∧ ∃ g8 : Array Value, (loadVar 82 x).run Tryd.prog w041 = .ok (.agg g8) w041 ∧ RunK Tryd.prog .sl (Instr.buildSlice 34 1 #[(0, .agg g8)]) w041 fun xs5 w045 => RunK Tryd.prog .sl (Builtin.append_ #[34, 34] 34 #[.slice xs4.A xs4.n xs4.c, .slice xs5.A xs5.n xs5.c]) w045 fun xs6 w046 => Put (l.add 1) (.slice xs6.A xs6.n xs6.c) w046 fun w047 => J_ w047)) fun J_1 => Cpalletref01_Num p at_1 4 w040 fun n10 w048 => Br (n10 != 33554456) (J_1 0 w048) (Cpalletref01_Num p (IntKind.wrap .i64 (at_1 + 8)) 2 w048 fun n11 w050 => Br (n11 != 0) (J_1 8 w050) (∃ n12 : Int, w050.cell? (x.add 0) = some (.int .i64 n12) ∧ ∃ xs7 : Sl, w050.cell? (l.add 0) = some (.slice xs7.A xs7.n xs7.c) ∧ Br (decide (n12 ≥ (xs7.n : Int))) (J_1 4 w050) (∃ n13 : Int, w050.cell? (x.add 1) = some (.int .i64 n13) ∧ ∃ xs8 : Sl, w050.cell? (l.add 0) = some (.slice xs8.A xs8.n xs8.c) ∧ Br (decide (n13 ≥ (xs8.n : Int))) (J_1 6 w050) (∃ n14 : Int, w050.cell? (x.add 2) = some (.int .i64 n14) ∧ Br (decide (n14 > 256)) (J_1 10 w050) (J_1 (-1) w050)))))) (∃ g9 : Array Value, (loadVar 36 l).run Tryd.prog w032 = .ok (.agg g9) w032 ∧ RunU Tryd.prog (storeVar 36 a (.agg g9)) w032 fun w055 => RunU Tryd.prog (storeVar 31 a1 (.agg #[.int .u8 0, .int .u16 0, .int .u64 0, .bool false, .int .i64 0, .int .i64 0, .bool false, .bool false])) w055 fun w056 => ∃ res12 : Array Value, (loadVar 36 a).run Tryd.prog w056 = .ok (.agg res12) w056 ∧ ∃ res13 : Array Value, (loadVar 31 a1).run Tryd.prog w056 = .ok (.agg res13) w056 ∧ R res12 res13 true w056))))
theorem Fpalletref15_Parse.calls (p : Sl) (w : World) (R : (Array Value) → (Array Value) → Bool → World → Prop) (h : Fpalletref15_Parse p w R) : Cpalletref15_Parse p w R :=
  calls_of_vc (anOp_ok callable) wide Tryd.func10 [(30, ⟨[(10, .i .i64)], [0, 2, 3, 5, 8, 9]⟩), (39, ⟨[(11, .i .i64)], [0, 2, 3, 5, 8, 9, 10]⟩), (69, ⟨[(12, .i .i64)], [0, 2, 3, 5]⟩), (17, ⟨[], [0, 2, 3, 5, 12]⟩), (20, ⟨[(14, .i .i64)], [0, 2, 3, 5, 12, 13]⟩)] [.ag, .ag, .b] [.slice p.A p.n p.c] w R (Eq.mp (show Fpalletref15_Parse p w R = vcF Tryd.prog G Tryd.f10 [(30, ⟨[(10, .i .i64)], [0, 2, 3, 5, 8, 9]⟩), (39, ⟨[(11, .i .i64)], [0, 2, 3, 5, 8, 9, 10]⟩), (69, ⟨[(12, .i .i64)], [0, 2, 3, 5]⟩), (17, ⟨[], [0, 2, 3, 5, 12]⟩), (20, ⟨[(14, .i .i64)], [0, 2, 3, 5, 12, 13]⟩)] [.ag, .ag, .b] [.slice p.A p.n p.c] w R by kernel_rfl) h)
end Go.Proofs.YtaneeadpjelomaaDoor
