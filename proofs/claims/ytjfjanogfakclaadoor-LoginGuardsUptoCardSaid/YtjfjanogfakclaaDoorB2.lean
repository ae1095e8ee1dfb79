import Derived.Lib.SlBytesConst
import Derived.Lib.AppendStr
import Derived.WalkKit
import Derived.ProofKit
import Derived.OpenShut
import Derived.ShutString
import Derived.ChangeOld
import Derived.Below
import Derived.SizedLaws
import Derived.Test.YtjfjanogfakclaaDoorRows
import Derived.MapKept
import Derived.Laws.CopyRow
import Derived.Laws.IdiomCopy
import Derived.Test.YtjfjanogfakclaaDoorProg
import Derived.Test.YtjfjanogfakclaaDoorB1
/- More rules of memory: bytes of a constant, elements of slices. -/
namespace Go.Proofs.YtjfjanogfakclaaDoor.CF
open Go Go.RowKit

theorem bytes_const_rule {P : Program} {w : World} {t e : TypeId} {n : Nat} {parts : Array (Nat × Value)} {l : L8}
    (hr : (Instr.buildSlice t n parts).run P w = .ok (.slice (some ⟨w.heap.size, 0, none⟩) n n) (w.alloc (.cells (bv l).toArray e))) (hn : n = l.length) (hb : n ≤ 140737488355328)
    (ht : P.underlying t = some (.slice e)) (he : P.underlying e = some (.int .u8))
    {K : Sl → World → Prop} (h : ∀ s w', Grow w w' → Rd w' 1 s (bv l) → K s w') :
    RunK P .sl (Instr.buildSlice t n parts) w fun xs w0 => RunK P .sl (convert t t (.slice xs.A xs.n xs.c)) w0 K := by
  refine ⟨⟨some ⟨w.heap.size, 0, none⟩, n, n⟩, _, hr, ⟨some ⟨w.heap.size, 0, none⟩, n, n⟩, _, Go.Lib.run_convert_bytes_const w t e _ n n ht he, ?_⟩
  refine h _ _ (keep_alloc w _) ⟨by rw [bv_length, hn, Nat.mul_one], Nat.le_refl _, Nat.le_trans hb (by decide), fun _ => ⟨_, rfl, fun j v hj => ?_⟩⟩
  rw [add0, Nat.zero_add]
  unfold World.cell?
  simp only [World.alloc, Array.getElem?_push, if_true]
  simpa using hj
open Go.Lib in
theorem strCells_bv (l : L8) : strCells (str l) = bv l := rfl
open Go.Lib in
theorem append_str_at {P : Program} {w : World} (base : Nat) (t u ty e : TypeId) (i : TypeInfo) (ht : P.underlying t = some (.slice e)) (hu : P.underlying u = some .string) (hi : P.info? e = some i) (hz : i.zero = some (.int .u8 0))
    (hsize : i.size = 1) (hby : i.bytes = 1) (o : Sl) (xs : List Value) (hown : Own w base e 1 o xs) (s : ByteArray) (hbytes : o.n + s.size ≤ 140737488355328) (hbase : base ≤ w.heap.size) :
    ∃ (o' : Sl) (w' : World), (Builtin.append_ #[t, u] ty #[.slice o.A o.n o.c, .string s]).run P w = .ok (.slice o'.A o'.n o'.c) w' ∧ o'.n = o.n + s.size ∧ Own w' base e 1 o' (xs ++ strCells s) ∧ Keep (fun k => some k = o.blk) w w' ∧
      (o'.blk = o.blk ∨ o'.blk = some w.heap.size) := by
  have hxl : xs.length = o.n := by simpa using hown.1
  have hlen : (xs ++ strCells s).length = (o.n + s.size) * 1 := by rw [List.length_append, hxl, strCells_length, Nat.mul_one]
  have hmx : (140737488355328 : Nat) ≤ maxLen := by unfold maxLen; omega
  have grown : ∀ (old : Nat), old < o.n + s.size → ∀ (row : Option Nat),
      (w.drew.alloc (.cells (xs.toArray ++ (strCells s).toArray ++ Builtin.zeroCells (Value.int .u8 0).cells (grownCap w (o.n + s.size) old e - (o.n + s.size))) e)).ownsRow base e 1
        (.slice (some ⟨w.heap.size, 0, none⟩) (o.n + s.size) (grownCap w (o.n + s.size) old e)) (o.n + s.size) (xs ++ strCells s) ∧
      Keep (fun k => some k = row) w (w.drew.alloc (.cells (xs.toArray ++ (strCells s).toArray ++ Builtin.zeroCells (Value.int .u8 0).cells (grownCap w (o.n + s.size) old e - (o.n + s.size))) e)) := by
    intro old ho row
    have hge := grownCap_ge w (o.n + s.size) old e
    have hcm : grownCap w (o.n + s.size) old e ≤ maxLen := grownCap_le_maxLen w (o.n + s.size) old e (by omega)
    refine ⟨⟨hlen, .inr ⟨w.heap.size, _, _, rfl, hbase, heap_alloc_new w.drew _, hge, hcm, ?_, ?_⟩⟩, ⟨rfl, rfl, rfl, by simp, fun k hk _ => heap_alloc_lt w.drew _ k hk⟩⟩
    · have hz1 : (Value.int IntKind.u8 0).cells.size = 1 := rfl
      simp only [Array.size_append, List.size_toArray, size_zeroCells, hz1, hxl, strCells_length]
      omega
    · simp only [Array.toList_append, List.append_assoc]
      rw [← List.append_assoc, ← hlen]
      exact List.take_left
  rcases hown.2 with ⟨h0, hn0⟩ | ⟨g, cap, cur, hv, hbg, hg, hnc, hcm, hcs, htake⟩
  · injection h0 with hA hN hC
    obtain ⟨A, n, c⟩ := o
    simp only at hA hN hC hn0 hxl grown hbytes hlen
    subst hA; subst hN; subst hC
    have hx : xs = [] := List.eq_nil_of_length_eq_zero hxl
    subst hx
    by_cases hm : s.size = 0
    · have hn : strCells s = [] := List.eq_nil_of_length_eq_zero (by rw [strCells_length]; exact hm)
      refine ⟨⟨none, 0, 0⟩, w, ?_, by simp [hm], by rw [hn]; exact own_nil w base e 1, Keep.refl _ _, .inl rfl⟩
      have hf := run_firstCells_string (P := P) w 1 s
      rw [hm] at hf
      simp [Builtin.append_, run_underlying ht, run_underlying hu, sizeOf, typeInfo, hi, hsize, Builtin.lenOf, hm, hf]
    · have hr := run_append_nil_string (P := P) w t u ty e i (.int .u8 0) ht hu hi hz s (by omega) (by omega) (by rw [hby]; omega)
      have hgr := grown 0 (by omega) none
      simp only [Nat.zero_add, List.nil_append, Array.empty_append] at hgr
      have e1 : (s.data.map fun b => Value.int .u8 b.toNat) = (strCells s).toArray := by
        apply Array.ext'
        simp [strCells]
      rw [e1] at hr
      refine ⟨⟨some ⟨w.heap.size, 0, none⟩, s.size, _⟩, _, hr, by simp, hgr.1, hgr.2, .inr rfl⟩
  · injection hv with hA hN hC
    obtain ⟨A, n, c⟩ := o
    simp only at hA hN hC hnc hcm hcs htake hxl grown hbytes hlen
    subst hA; subst hC
    by_cases hroom : n + s.size ≤ c
    · have hcs' : cur.size = c := by simpa using hcs
      have hr := run_append_room_string (P := P) w t u ty e i ht hu hi hsize g n c cur hg s hroom (by omega)
      refine ⟨⟨some ⟨g, 0, none⟩, n + s.size, c⟩, _, hr, rfl, ⟨hlen, .inr ⟨g, c, _, rfl, hbg, setRow_heap w g cur _ e _ hg, hroom, hcm, ?_, ?_⟩⟩, ⟨rfl, rfl, rfl, by simp, fun k _ hk => setRow_other w g k _ (fun e => hk (by simp [Sl.blk, e]))⟩, .inl rfl⟩
      · simp only [List.size_toArray, List.length_append, List.length_take, List.length_drop, Array.length_toList, strCells_length]
        omega
      · have ht' : cur.toList.take n = xs := by simpa using htake
        rw [ht', ← hlen]
        exact List.take_left
    · have holds : ∀ j u, xs[j]? = some u → w.cell? ((⟨g, 0, none⟩ : Addr).add j) = some u := World.ownsRow.cells hown (g := g) rfl
      have hr := run_append_grow_string (P := P) w t u ty e i (.int .u8 0) ht hu hi hz ⟨g, 0, none⟩ n c xs (by rw [hsize]; simpa using hxl) holds s (by omega) (by omega) (by rw [hby]; exact growslice_fits (by omega) (by omega))
      have hgr := grown c (by omega) (some g)
      exact ⟨⟨some ⟨w.heap.size, 0, none⟩, n + s.size, _⟩, _, hr, rfl, hgr.1, hgr.2, .inr rfl⟩
/-- the bytes of a string, behind a row of one's own -/
theorem append_str_rule {P : Program} {w : World} {base : Nat} {t u ty e : TypeId} (ht : P.underlying t = some (.slice e)) (hu : P.underlying u = some .string)
    (hinfo : (P.info? e).map (fun i => (i.zero, i.size, i.bytes)) = some (some (.int .u8 0), 1, 1)) {o : Sl} {vs l : L8} (hs : Own w base e 1 o (bv vs)) (hbd : o.n + l.length ≤ 140737488355328) (hbase : base ≤ w.heap.size)
    {K : Sl → World → Prop} (h : ∀ o' w', o'.n = o.n + l.length → Own w' base e 1 o' (bv (vs ++ l)) → Keep (fun k => some k = o.blk) w w' → (o'.blk = o.blk ∨ o'.blk = some w.heap.size) → K o' w') :
    RunK P .sl (Builtin.append_ #[t, u] ty #[.slice o.A o.n o.c, .string (str l)]) w K := by
  obtain ⟨i, hi, hzz⟩ := Option.map_eq_some_iff.1 hinfo
  simp only [Prod.mk.injEq] at hzz
  obtain ⟨o', w', hr, hn, hown, hk, hat⟩ := append_str_at base t u ty e i ht hu hi hzz.1 hzz.2.1 hzz.2.2 o (bv vs) hs (str l) (by rw [size_str]; exact hbd) hbase
  refine ⟨o', w', hr, h o' w' (by rw [hn, size_str]) ?_ hk hat⟩
  rw [bv_append, ← strCells_bv l]
  exact hown
/-! ### a row that grows by strings and bytes, in any order of their making -/
structure Ctx (w : World) (e : TypeId) (pb : Nat) (pcs : Array Value) (pt : TypeId) (u : World) (o : Sl) (os : L8) (lits : List (Sl × UInt8)) : Prop where
  own : Own u w.heap.size e 1 o (bv os)
  grow : Grow w u
  blk : Blk u pb pcs pt
  ne : o.blk ≠ some pb
  lit : ∀ p ∈ lits, Rd u 1 p.1 (bv [p.2]) ∧ (∀ b, p.1.blk = some b → b < u.heap.size) ∧ ∀ b, p.1.blk = some b → o.blk ≠ some b
section
variable {P : Program} {w : World} {t e : TypeId} {pb : Nat} {pcs : Array Value} {pt : TypeId} {u : World} {o : Sl} {os : L8} {lits : List (Sl × UInt8)}
theorem Ctx.n (h : Ctx w e pb pcs pt u o os lits) : o.n = os.length := by have := h.own.len; rw [bv_length] at this; omega
/-- behind a growth of the row -/
theorem Ctx.step (h : Ctx w e pb pcs pt u o os lits) {o' : Sl} {u' : World} {os' : L8} (hown : Own u' w.heap.size e 1 o' (bv os')) (hk : Keep (fun k => some k = o.blk) u u')
    (hat : o'.blk = o.blk ∨ o'.blk = some u.heap.size) : Ctx w e pb pcs pt u' o' os' lits := by
  have hpb := lt_of_heap h.blk
  refine ⟨hown, h.grow.keep hk fun i hi q => ?_, hk.heap h.blk fun q => h.ne q.symm, fun q => ?_, fun p hp => ⟨(h.lit p hp).1.keep hk fun a ha _ q => ?_, fun b hb => ?_, fun b hb q => ?_⟩⟩
  · have := (h.own.ge i q.symm).1; omega
  · rcases hat with r | r
    · exact h.ne (by rw [← r]; exact q)
    · rw [r] at q; injection q with q; omega
  · exact (h.lit p hp).2.2 a.block (by simp [Sl.blk, ha]) q.symm
  · have := (h.lit p hp).2.1 b hb; have := hk.size; omega
  · rcases hat with r | r
    · exact (h.lit p hp).2.2 b hb (by rw [← r]; exact q)
    · rw [r] at q; injection q with q; have := (h.lit p hp).2.1 b hb; omega
theorem Ctx.add (h : Ctx w e pb pcs pt u o os lits) {c : UInt8} {z : Int} (hz : z = (c.toNat : Int)) (ht : P.underlying t = some (.slice e))
    (hr : (Instr.buildSlice t 1 #[(0, .int .u8 z)]).run P u = .ok (.slice (some ⟨u.heap.size, 0, none⟩) 1 1) (u.alloc (.cells #[.int .u8 z] e)))
    {K : Sl → World → Prop} (hK : ∀ s u', Ctx w e pb pcs pt u' o os ((s, c) :: lits) → K s u') : RunK P .sl (Instr.buildSlice t 1 #[(0, .int .u8 z)]) u K := by
  subst hz
  refine ⟨⟨some ⟨u.heap.size, 0, none⟩, 1, 1⟩, _, hr, ?_⟩
  have hg : Grow u (u.alloc (.cells #[.int .u8 (c.toNat : Int)] e)) := keep_alloc u _
  refine hK _ _ ⟨h.own.grow hg, h.grow.trans hg, hg.heap h.blk (fun q => q), h.ne, fun p hp => ?_⟩
  rcases List.mem_cons.1 hp with rfl | hp
  · refine ⟨⟨rfl, Nat.le_refl _, by show 1 ≤ _; decide, fun _ => ⟨_, rfl, fun j v hj => ?_⟩⟩, fun b hb => ?_, fun b hb q => ?_⟩
    · rw [add0, Nat.zero_add]
      unfold World.cell?
      simp only [World.alloc, Array.getElem?_push, if_true]
      simpa [bv] using hj
    · simp only [Sl.blk, Option.map_some, Option.some.injEq] at hb; subst hb; simp
    · simp only [Sl.blk, Option.map_some, Option.some.injEq] at hb; subst hb
      have := (h.own.ge _ q).2; omega
  · obtain ⟨h1, h2, h3⟩ := h.lit p hp
    exact ⟨h1.grow hg, fun b hb => by have := h2 b hb; have := hg.size; omega, h3⟩
theorem Ctx.str (h : Ctx w e pb pcs pt u o os lits) {l : L8} {tu ty : TypeId} (ht : P.underlying t = some (.slice e)) (hu : P.underlying tu = some .string)
    (hinfo : (P.info? e).map (fun i => (i.zero, i.size, i.bytes)) = some (some (.int .u8 0), 1, 1)) (hbd : os.length + l.length ≤ 140737488355328)
    {K : Sl → World → Prop} (hK : ∀ s u', Ctx w e pb pcs pt u' s (os ++ l) lits → K s u') : RunK P .sl (Builtin.append_ #[t, tu] ty #[.slice o.A o.n o.c, .string (CF.str l)]) u K :=
  append_str_rule ht hu hinfo h.own (by rw [h.n]; exact hbd) h.grow.size fun o' w' _ hown hk hat => hK _ _ (h.step hown hk hat)
theorem Ctx.app (h : Ctx w e pb pcs pt u o os lits) {s : Sl} {c : UInt8} {ty : TypeId} (hm : (s, c) ∈ lits) (ht : P.underlying t = some (.slice e))
    (hinfo : (P.info? e).map (fun i => (i.zero, i.size, i.bytes)) = some (some (.int .u8 0), 1, 1)) (hbd : os.length + 1 ≤ 140737488355328)
    {K : Sl → World → Prop} (hK : ∀ s' u', Ctx w e pb pcs pt u' s' (os ++ [c]) lits → K s' u') : RunK P .sl (Builtin.append_ #[t, t] ty #[.slice o.A o.n o.c, .slice s.A s.n s.c]) u K := by
  have hs := (h.lit _ hm).1
  have hn : s.n = 1 := by have := hs.len; simp [bv] at this; omega
  refine append_rule ht hinfo rfl (by decide) (by decide) h.own hs (by simp [bv, Value.oneCell']) (by rw [hn, h.n]; omega) h.grow.size fun o' w' _ hown hk hat => hK _ _ (h.step (by rw [bv_append]; exact hown) hk hat)
end
end Go.Proofs.YtjfjanogfakclaaDoor.CF

/- Arguments, opened: rows of things, plain structs. -/
namespace Go.Proofs.YtjfjanogfakclaaDoor.CF
open Go Go.RowKit

section
variable {H : Type} {enc : TypeId × Value → H} {P : Program} {w : World} {base : Nat} {spare : Nat → Bool} {held : Bool}
/-- its weights are within reach -/
def Light (P : Program) (t : TypeId) (d : DataW H) : Prop := ∀ m ∈ d.weights P t, m ≤ reachBytes
/-- what a reading of a type's cells tells -/
def Opens (enc : TypeId × Value → H) (P : Program) (w : World) (base : Nat) (spare : Nat → Bool) (held : Bool) (t : TypeId) (Φ : List Value → Prop) : Prop :=
  ∀ n cs x, DataW.trod enc P w base spare held n t cs = some x → Light P t x.1 → Φ cs
theorem mem_weightsAll {e : TypeId} : ∀ {ds : List (DataW H)} {d : DataW H}, d ∈ ds → ∀ m ∈ d.weights P e, m ∈ DataW.weightsAll P e ds
  | d0 :: ds, d, hd, m, hm => by
    simp only [DataW.weightsAll, List.mem_append]
    rcases List.mem_cons.1 hd with rfl | h
    · exact .inl hm
    · exact .inr (mem_weightsAll h m hm)
theorem cells_of {a : Addr} {n : Nat} {vs : List Value} (h : w.cells? base a n = some vs) : vs.length = n ∧ Cells w a vs := by
  unfold World.cells? at h
  split at h
  · have hl := mapM_some_length h
    simp at hl
    refine ⟨hl, fun j v hj => ?_⟩
    have hjn : j < n := by have := (List.getElem?_eq_some_iff.1 hj).1; omega
    have := mapM_some_get h j j (by simp [hjn])
    rw [this, hj]
  · cases h
theorem opens_bool {t : TypeId} (ht : P.underlying t = some .bool) : Opens enc P w base spare held t fun cs => ∃ b, cs = [.bool b] := fun _ _ _ h _ => by
  obtain ⟨b, hb, _⟩ := DataW.trod_bool ht h; exact ⟨b, hb⟩
theorem opens_int {t : TypeId} {k : IntKind} (ht : P.underlying t = some (.int k)) : Opens enc P w base spare held t fun cs => ∃ n, cs = [.int k n] ∧ (Lit.int k n).wf = true := fun _ _ _ h _ => by
  obtain ⟨n, hn, _, hw⟩ := DataW.trod_int ht h; exact ⟨n, hn, hw⟩
theorem opens_str {t : TypeId} (ht : P.underlying t = some .string) : Opens enc P w base spare held t fun cs => ∃ l : L8, cs = [.string (str l)] ∧ l.length ≤ 140737488351232 := fun _ _ x h hl => by
  obtain ⟨s, hs, hx, _⟩ := DataW.trod_string ht h
  refine ⟨ls s, by rw [hs, str_ls], ?_⟩
  have := hl (ls s).length (by rw [hx]; simp [DataW.weights, ls])
  exact this
theorem opens_u8 {t : TypeId} (ht : P.underlying t = some (.int .u8)) : Opens enc P w base spare held t fun cs => ∃ b : UInt8, cs = [.int .u8 (b.toNat : Int)] := fun n cs x h hl => by
  obtain ⟨z, hz, hw⟩ := opens_int ht n cs x h hl
  simp [Lit.wf, IntKind.min, IntKind.max, IntKind.signed, IntKind.bits] at hw
  refine ⟨UInt8.ofNat z.toNat, ?_⟩
  rw [hz]
  congr 2
  rw [UInt8.toNat_ofNat']
  omega
/-- fields, one by one -/
theorem opens_fields {t : TypeId} {fs : Array Field} (ht : P.underlying t = some (.struct fs)) {Φ : List (List Value → Prop)}
    (hl : fs.size = Φ.length) (hf : ∀ (i : Nat) (f : Field) (φ : List Value → Prop), fs[i]? = some f → Φ[i]? = some φ → Opens enc P w base spare held f.type φ) :
    Opens enc P w base spare held t fun cs => cs.length = P.cellsOf t ∧ ∀ (i : Nat) (f : Field) (φ : List Value → Prop), fs[i]? = some f → Φ[i]? = some φ → φ ((cs.drop f.offset).take (P.cellsOf f.type)) := fun n cs x h hw => by
  obtain ⟨xs, n', _, hx, hcl, hxl, heach⟩ := DataW.trod_struct ht h
  refine ⟨hcl, fun i f φ hfi hφ => ?_⟩
  have hi : i < xs.length := by rw [hxl]; exact (Array.getElem?_eq_some_iff.1 hfi).1
  have he := heach i f hfi
  rw [List.getElem?_eq_getElem hi] at he
  refine hf i f φ hfi hφ n' _ _ he fun m hm => hw m ?_
  rw [hx]
  show m ∈ DataW.weights P t (.agg (xs.map (·.1)))
  rw [DataW.weights, ht]
  refine DataW.weights_mem_each (j := i) (t := f.type) (d := xs[i].1) ?_ ?_ m hm
  · rw [List.getElem?_map, ← Array.getElem?_toList] at *; rw [hfi]; rfl
  · rw [List.getElem?_map, List.getElem?_eq_getElem hi]; rfl
theorem opens_array {t e : TypeId} {k : Nat} (ht : P.underlying t = some (.array k e)) {φ : List Value → Prop} (hf : Opens enc P w base spare held e φ) :
    Opens enc P w base spare held t fun cs => cs.length = P.cellsOf t ∧ ∀ i, i < k → φ ((cs.drop (i * P.cellsOf e)).take (P.cellsOf e)) := fun n cs x h hw => by
  obtain ⟨xs, n', _, hx, hcl, hxl, heach⟩ := DataW.trod_array ht h
  refine ⟨hcl, fun i hi => ?_⟩
  have hi' : i < xs.length := by omega
  have he := heach i hi
  rw [List.getElem?_eq_getElem hi'] at he
  refine hf n' _ _ he fun m hm => hw m ?_
  rw [hx]
  show m ∈ DataW.weights P t (.agg (xs.map (·.1)))
  rw [DataW.weights, ht]
  exact mem_weightsAll (List.mem_map.2 ⟨xs[i], List.getElem_mem hi', rfl⟩) m hm
theorem choose_list {α : Type} {Q : Nat → α → Prop} : ∀ (n : Nat), (∀ i, i < n → ∃ a, Q i a) → ∃ al : List α, al.length = n ∧ ∀ i (h : i < al.length), Q i al[i]
  | 0, _ => ⟨[], rfl, fun i h => absurd h (Nat.not_lt_zero i)⟩
  | n + 1, h => by
    obtain ⟨al, hl, ha⟩ := choose_list n fun i hi => h i (by omega)
    obtain ⟨a, hq⟩ := h n (by omega)
    refine ⟨al ++ [a], by simp [hl], fun i hi => ?_⟩
    rcases Nat.lt_or_ge i al.length with q | q
    · rw [List.getElem_append_left q]; exact ha i q
    · have : i = n := by simp at hi; omega
      subst this
      rw [List.getElem_append_right q]
      simpa [hl] using hq
/-- a slice of things that a list's elements tell -/
theorem opens_slice {α : Type} {t e : TypeId} {z bytes : Nat} {f : α → List Value} {Q : α → Prop} (ht : P.underlying t = some (.slice e)) (hz : P.cellsOf e = z) (hb : P.bytesOf e = bytes) (hb1 : 1 ≤ bytes)
    (hf : ∀ a, (f a).length = z) (hel : Opens enc P w base spare held e fun cs => ∃ a, cs = f a ∧ Q a) :
    Opens enc P w base spare held t fun cs => ∃ s : Sl, cs = [.slice s.A s.n s.c] ∧ ∃ al : List α, Rd w z s (al.flatMap f) ∧ al.length = s.n ∧ (∀ a ∈ al, Q a) ∧ s.n * bytes ≤ 140737488351232 := fun fuel cs x h hw => by
  rcases DataW.trod_slice ht h with ⟨hcs, _⟩ | ⟨a, len, cap, elems, rest, n, _, hcs, hx, _, hlc, hmc, hlen, heach, _, _⟩
  · exact ⟨⟨none, 0, 0⟩, hcs, [], by simpa using rd_nil w z, rfl, by simp, by simp⟩
  · have hwt : (elems.length + rest.length) * bytes ≤ 140737488351232 := by
      have := hw ((elems.length + rest.length) * bytes) (by rw [hx]; simp [DataW.weights, ht, hb])
      exact this
    have hsz : len * bytes ≤ 140737488351232 := by
      refine Nat.le_trans (Nat.mul_le_mul_right _ ?_) hwt
      omega
    have hln : len ≤ 140737488351232 := by
      have : len * 1 ≤ len * bytes := Nat.mul_le_mul_left _ hb1
      omega
    obtain ⟨al, hal, has⟩ := choose_list (α := α) (Q := fun i b => Q b ∧ Cells w (a.add (i * z)) (f b)) len fun i hi => by
      have hi' : i < elems.length := by omega
      have he := heach i hi
      rw [List.getElem?_eq_getElem hi', hz] at he
      obtain ⟨vs, hvs, hr⟩ := Option.bind_eq_some_iff.1 he
      obtain ⟨hvl, hvc⟩ := cells_of hvs
      obtain ⟨b, hb1, hb2⟩ := hel n vs _ hr fun m hm => hw m (by
        rw [hx]
        simp only [DataW.weights, ht, List.mem_cons, List.mem_append]
        exact .inr (.inl (mem_weightsAll (List.mem_map.2 ⟨elems[i], List.getElem_mem hi', rfl⟩) m hm)))
      exact ⟨b, hb2, hb1 ▸ hvc⟩
    refine ⟨⟨some a, len, cap⟩, hcs, al, ⟨by rw [flat_length hf, hal], hlc, by show len ≤ _; omega, fun _ => ⟨a, rfl, fun j v hj => ?_⟩⟩, hal, fun b hbm => ?_, hsz⟩
    · have hz0 : 0 < z := by
        rcases Nat.eq_zero_or_pos z with e0 | e0
        · exfalso
          have := (List.getElem?_eq_some_iff.1 hj).1
          rw [flat_length hf, e0] at this
          omega
        · exact e0
      have hjl : j < al.length * z := by rw [← flat_length hf]; exact (List.getElem?_eq_some_iff.1 hj).1
      have hq : j / z < al.length := Nat.div_lt_of_lt_mul (by rw [Nat.mul_comm]; exact hjl)
      have hfe := flat_elem hf hq
      have hjz : j / z * z + j % z = j := by rw [Nat.mul_comm]; exact Nat.div_add_mod j z
      have hcell := (has (j / z) hq).2 (j % z) v (by
        rw [← hfe, List.getElem?_take, if_pos (Nat.mod_lt _ hz0), List.getElem?_drop, hjz]; exact hj)
      rw [addr_add, hjz] at hcell
      exact hcell
    · obtain ⟨i, hi, rfl⟩ := List.getElem_of_mem hbm
      exact (has i hi).1
theorem Opens.mono {t : TypeId} {Φ Ψ : List Value → Prop} (h : Opens enc P w base spare held t Φ) (hi : ∀ cs, Φ cs → Ψ cs) : Opens enc P w base spare held t Ψ := fun n cs x ht hl => hi cs (h n cs x ht hl)
theorem flat_bv (l : L8) : l.flatMap (fun b => [Value.int .u8 (b.toNat : Int)]) = bv l := by
  unfold bv
  induction l with
  | nil => rfl
  | cons a r ih => simp only [List.flatMap_cons, ih, List.map_cons, List.singleton_append]
theorem opens_bytes {t e : TypeId} (ht : P.underlying t = some (.slice e)) (he : P.underlying e = some (.int .u8)) (hz : P.cellsOf e = 1) (hb : P.bytesOf e = 1) :
    Opens enc P w base spare held t fun cs => ∃ s : Sl, cs = [.slice s.A s.n s.c] ∧ ∃ l : L8, Rd w 1 s (bv l) ∧ l.length = s.n ∧ s.n ≤ 140737488351232 := by
  refine (opens_slice (f := fun b : UInt8 => [Value.int .u8 (b.toNat : Int)]) (Q := fun _ => True) ht hz hb (Nat.le_refl _) (fun _ => rfl) ((opens_u8 he).mono fun cs ⟨b, h⟩ => ⟨b, h, trivial⟩)).mono ?_
  rintro cs ⟨s, h1, al, h2, h3, _, h4⟩
  exact ⟨s, h1, al, by rw [← flat_bv]; exact h2, h3, by omega⟩
/-- a plain cell within reach -/
def okV : Value → Prop
  | .int k n => (Lit.int k n).wf = true
  | .string s => s.size ≤ 140737488351232
  | _ => True
theorem sizeT_cells (t : TypeId) : P.cellsOf t = sizeT P t := by
  unfold Program.cellsOf sizeT
  cases P.info? t <;> rfl
theorem FitL.join : ∀ {ks ls : List Kd} {a b : List Value}, FitL ks a → FitL ls b → FitL (ks ++ ls) (a ++ b)
  | [], _, [], _, _, h => h
  | _ :: _, _, _ :: _, _, h, h' => ⟨h.1, FitL.join h.2 h'⟩
  | [], _, _ :: _, _, h, _ => h.elim
  | _ :: _, _, [], _, h, _ => h.elim
theorem flatFs_opens {rec : TypeId → Option (List Kd)} {cs : List Value} : ∀ (l : List Field) (off : Nat) (ks : List Kd), flatFs rec P l off = some ks →
    (∀ f ∈ l, ∀ ls, rec f.type = some ls → P.cellsOf f.type = ls.length → FitL ls ((cs.drop f.offset).take ls.length) ∧ ∀ v ∈ (cs.drop f.offset).take ls.length, okV v) →
    FitL ks ((cs.drop off).take ks.length) ∧ ∀ v ∈ (cs.drop off).take ks.length, okV v
  | [], off, ks, h, _ => by
    simp only [flatFs, Option.some.injEq] at h
    subst h
    exact ⟨by simp [FitL], by simp⟩
  | f :: r, off, ks, h, hf => by
    simp only [flatFs] at h
    split at h
    · rename_i ks1 h1 h2 h3
      split at h
      · rename_i l h4 h5
        simp only [Option.some.injEq] at h
        subst h
        have ho : f.offset = off := Nat.eq_of_beq_eq_true h2
        have hz : sizeT P f.type = ks1.length := Nat.eq_of_beq_eq_true h4
        obtain ⟨a1, a2⟩ := hf f (by simp) ks1 h3 (by rw [sizeT_cells, hz])
        obtain ⟨b1, b2⟩ := flatFs_opens r (off + ks1.length) l h5 fun g hg => hf g (by simp [hg])
        rw [ho] at a1 a2
        have e : (cs.drop off).take (ks1 ++ l).length = (cs.drop off).take ks1.length ++ (cs.drop (off + ks1.length)).take l.length := by
          rw [List.length_append, List.take_add, List.drop_drop]
        rw [e]
        refine ⟨a1.join b1, fun v hv => ?_⟩
        rcases List.mem_append.1 hv with q | q
        · exact a2 v q
        · exact b2 v q
      · cases h
    · cases h
theorem repK_opens {ks : List Kd} : ∀ (n : Nat) (cs : List Value), cs.length = n * ks.length → (∀ i, i < n → FitL ks ((cs.drop (i * ks.length)).take ks.length)) → FitL (repK n ks) cs
  | 0, cs, hl, _ => by
    have : cs = [] := List.eq_nil_of_length_eq_zero (by simpa using hl)
    subst this; trivial
  | n + 1, cs, hl, h => by
    have h0 := h 0 (by omega)
    rw [Nat.zero_mul, List.drop_zero] at h0
    have hr := repK_opens (ks := ks) n (cs.drop ks.length) (by rw [List.length_drop, hl, Nat.succ_mul]; omega) fun i hi => by
      have := h (i + 1) (by omega)
      rwa [Nat.succ_mul, Nat.add_comm, ← List.drop_drop] at this
    have := h0.join hr
    rwa [List.take_append_drop] at this
theorem opens_flat : ∀ (d : Nat) (t : TypeId) (ks : List Kd), flatK P d t = some ks → P.cellsOf t = ks.length → Opens enc P w base spare held t fun cs => FitL ks cs ∧ ∀ v ∈ cs, okV v
  | 0, t, ks, h, _ => by cases h
  | d + 1, t, ks, h, hz => by
    unfold flatK at h
    split at h
    · rename_i hu
      cases h
      refine (opens_bool hu).mono ?_
      rintro cs ⟨b, rfl⟩
      exact ⟨⟨rfl, trivial⟩, by simp [okV]⟩
    · rename_i k hu
      cases h
      refine (opens_int hu).mono ?_
      rintro cs ⟨b, rfl, hw⟩
      exact ⟨⟨by simp only [Kd.fit]; cases k <;> rfl, trivial⟩, by simpa [okV] using hw⟩
    · rename_i hu
      cases h
      refine (opens_str hu).mono ?_
      rintro cs ⟨b, rfl, hw⟩
      exact ⟨⟨rfl, trivial⟩, by simpa [okV, size_str] using hw⟩
    · rename_i fs hu
      split at h
      · intro n cs x hx hw
        obtain ⟨xs, n', _, hxe, hcl, hxl, heach⟩ := DataW.trod_struct hu hx
        have := flatFs_opens (P := P) (cs := cs) fs.toList 0 ks h ?_
        · rw [List.drop_zero, ← hz, ← hcl, List.take_length] at this
          exact this
        · intro f hf ls hls hlz
          obtain ⟨i, hi, rfl⟩ := List.getElem_of_mem hf
          have hi' : i < fs.size := by simpa using hi
          have hfi : fs[i]? = some fs.toList[i] := by rw [Array.getElem?_eq_getElem hi']; rfl
          have hix : i < xs.length := by rw [hxl]; exact hi'
          have he := heach i _ hfi
          rw [List.getElem?_eq_getElem hix, hlz] at he
          refine opens_flat d _ ls hls hlz n' _ _ he fun m hm => hw m ?_
          rw [hxe]
          show m ∈ DataW.weights P t (.agg (xs.map (·.1)))
          rw [DataW.weights, hu]
          refine DataW.weights_mem_each (j := i) (t := fs.toList[i].type) (d := xs[i].1) ?_ ?_ m hm
          · rw [List.getElem?_map, List.getElem?_eq_getElem hi]; rfl
          · rw [List.getElem?_map, List.getElem?_eq_getElem hix]; rfl
      · cases h
    · rename_i k e hu
      split at h
      · rename_i ls hls
        split at h
        · rename_i hbe
          cases h
          have hze : P.cellsOf e = ls.length := by rw [sizeT_cells]; exact Nat.eq_of_beq_eq_true hbe
          refine (opens_array hu (opens_flat d e ls hls hze)).mono ?_
          rintro cs ⟨hcl, hall⟩
          rw [hz, repK_length] at hcl
          rw [hze] at hall
          refine ⟨repK_opens k cs hcl fun i hi => (hall i hi).1, fun v hv => ?_⟩
          obtain ⟨j, hj, rfl⟩ := List.getElem_of_mem hv
          have hl0 : 0 < ls.length := by
            rcases Nat.eq_zero_or_pos ls.length with q | q
            · rw [hcl, q] at hj; omega
            · exact q
          have hq : j / ls.length < k := Nat.div_lt_of_lt_mul (by rw [Nat.mul_comm, ← hcl]; exact hj)
          refine (hall _ hq).2 _ (List.mem_iff_getElem?.2 ⟨j % ls.length, ?_⟩)
          rw [List.getElem?_take, if_pos (Nat.mod_lt _ hl0), List.getElem?_drop, Nat.mul_comm, Nat.div_add_mod, List.getElem?_eq_getElem hj]
        · cases h
      · cases h
    · cases h
end
/-- the cells of a value at whole: one of its own is the value -/
theorem one_cell_val {v u : Value} (h : v.cells.toList = [u]) (hf : ∀ g, v ≠ .agg g) : v = u := by
  cases v <;> simp_all [Value.cells]
theorem below_of_call {P : Program} {f : FuncId} {args : Array Value} {w : World} (h : CallK P f args w [.b] fun b w' => b = true ∧ Grow w w') :
    Calls P f args w fun e w' => e = .returned (.bool true) ∧ Below w.heap.size w w' :=
  h.mono fun e w' hx => by
    obtain ⟨x, hx, hb, hg⟩ := hx
    have hb : x = true := hb
    subst hb
    exact ⟨hx, Keep.below hg⟩
end Go.Proofs.YtjfjanogfakclaaDoor.CF

/- Arguments, opened, where they are of small bulk (what Opn says, with a smaller number). -/
namespace Go.Proofs.YtjfjanogfakclaaDoor.CF.U
open Go Go.RowKit

section
variable {H : Type} {enc : TypeId × Value → H} {P : Program} {w : World} {base : Nat} {spare : Nat → Bool} {held : Bool}
/-- its weights are within reach -/
def Light (P : Program) (t : TypeId) (d : DataW H) : Prop := ∀ m ∈ d.weights P t, m ≤ 4294967296
/-- what a reading of a type's cells tells -/
def Opens (enc : TypeId × Value → H) (P : Program) (w : World) (base : Nat) (spare : Nat → Bool) (held : Bool) (t : TypeId) (Φ : List Value → Prop) : Prop :=
  ∀ n cs x, DataW.trod enc P w base spare held n t cs = some x → Light P t x.1 → Φ cs
theorem mem_weightsAll {e : TypeId} : ∀ {ds : List (DataW H)} {d : DataW H}, d ∈ ds → ∀ m ∈ d.weights P e, m ∈ DataW.weightsAll P e ds
  | d0 :: ds, d, hd, m, hm => by
    simp only [DataW.weightsAll, List.mem_append]
    rcases List.mem_cons.1 hd with rfl | h
    · exact .inl hm
    · exact .inr (mem_weightsAll h m hm)
theorem cells_of {a : Addr} {n : Nat} {vs : List Value} (h : w.cells? base a n = some vs) : vs.length = n ∧ Cells w a vs := by
  unfold World.cells? at h
  split at h
  · have hl := mapM_some_length h
    simp at hl
    refine ⟨hl, fun j v hj => ?_⟩
    have hjn : j < n := by have := (List.getElem?_eq_some_iff.1 hj).1; omega
    have := mapM_some_get h j j (by simp [hjn])
    rw [this, hj]
  · cases h
theorem opens_bool {t : TypeId} (ht : P.underlying t = some .bool) : Opens enc P w base spare held t fun cs => ∃ b, cs = [.bool b] := fun _ _ _ h _ => by
  obtain ⟨b, hb, _⟩ := DataW.trod_bool ht h; exact ⟨b, hb⟩
theorem opens_int {t : TypeId} {k : IntKind} (ht : P.underlying t = some (.int k)) : Opens enc P w base spare held t fun cs => ∃ n, cs = [.int k n] ∧ (Lit.int k n).wf = true := fun _ _ _ h _ => by
  obtain ⟨n, hn, _, hw⟩ := DataW.trod_int ht h; exact ⟨n, hn, hw⟩
theorem opens_str {t : TypeId} (ht : P.underlying t = some .string) : Opens enc P w base spare held t fun cs => ∃ l : L8, cs = [.string (str l)] ∧ l.length ≤ 4294967296 := fun _ _ x h hl => by
  obtain ⟨s, hs, hx, _⟩ := DataW.trod_string ht h
  refine ⟨ls s, by rw [hs, str_ls], ?_⟩
  have := hl (ls s).length (by rw [hx]; simp [DataW.weights, ls])
  exact this
theorem opens_u8 {t : TypeId} (ht : P.underlying t = some (.int .u8)) : Opens enc P w base spare held t fun cs => ∃ b : UInt8, cs = [.int .u8 (b.toNat : Int)] := fun n cs x h hl => by
  obtain ⟨z, hz, hw⟩ := opens_int ht n cs x h hl
  simp [Lit.wf, IntKind.min, IntKind.max, IntKind.signed, IntKind.bits] at hw
  refine ⟨UInt8.ofNat z.toNat, ?_⟩
  rw [hz]
  congr 2
  rw [UInt8.toNat_ofNat']
  omega
/-- fields, one by one -/
theorem opens_fields {t : TypeId} {fs : Array Field} (ht : P.underlying t = some (.struct fs)) {Φ : List (List Value → Prop)}
    (hl : fs.size = Φ.length) (hf : ∀ (i : Nat) (f : Field) (φ : List Value → Prop), fs[i]? = some f → Φ[i]? = some φ → Opens enc P w base spare held f.type φ) :
    Opens enc P w base spare held t fun cs => cs.length = P.cellsOf t ∧ ∀ (i : Nat) (f : Field) (φ : List Value → Prop), fs[i]? = some f → Φ[i]? = some φ → φ ((cs.drop f.offset).take (P.cellsOf f.type)) := fun n cs x h hw => by
  obtain ⟨xs, n', _, hx, hcl, hxl, heach⟩ := DataW.trod_struct ht h
  refine ⟨hcl, fun i f φ hfi hφ => ?_⟩
  have hi : i < xs.length := by rw [hxl]; exact (Array.getElem?_eq_some_iff.1 hfi).1
  have he := heach i f hfi
  rw [List.getElem?_eq_getElem hi] at he
  refine hf i f φ hfi hφ n' _ _ he fun m hm => hw m ?_
  rw [hx]
  show m ∈ DataW.weights P t (.agg (xs.map (·.1)))
  rw [DataW.weights, ht]
  refine DataW.weights_mem_each (j := i) (t := f.type) (d := xs[i].1) ?_ ?_ m hm
  · rw [List.getElem?_map, ← Array.getElem?_toList] at *; rw [hfi]; rfl
  · rw [List.getElem?_map, List.getElem?_eq_getElem hi]; rfl
theorem opens_array {t e : TypeId} {k : Nat} (ht : P.underlying t = some (.array k e)) {φ : List Value → Prop} (hf : Opens enc P w base spare held e φ) :
    Opens enc P w base spare held t fun cs => cs.length = P.cellsOf t ∧ ∀ i, i < k → φ ((cs.drop (i * P.cellsOf e)).take (P.cellsOf e)) := fun n cs x h hw => by
  obtain ⟨xs, n', _, hx, hcl, hxl, heach⟩ := DataW.trod_array ht h
  refine ⟨hcl, fun i hi => ?_⟩
  have hi' : i < xs.length := by omega
  have he := heach i hi
  rw [List.getElem?_eq_getElem hi'] at he
  refine hf n' _ _ he fun m hm => hw m ?_
  rw [hx]
  show m ∈ DataW.weights P t (.agg (xs.map (·.1)))
  rw [DataW.weights, ht]
  exact mem_weightsAll (List.mem_map.2 ⟨xs[i], List.getElem_mem hi', rfl⟩) m hm
theorem choose_list {α : Type} {Q : Nat → α → Prop} : ∀ (n : Nat), (∀ i, i < n → ∃ a, Q i a) → ∃ al : List α, al.length = n ∧ ∀ i (h : i < al.length), Q i al[i]
  | 0, _ => ⟨[], rfl, fun i h => absurd h (Nat.not_lt_zero i)⟩
  | n + 1, h => by
    obtain ⟨al, hl, ha⟩ := choose_list n fun i hi => h i (by omega)
    obtain ⟨a, hq⟩ := h n (by omega)
    refine ⟨al ++ [a], by simp [hl], fun i hi => ?_⟩
    rcases Nat.lt_or_ge i al.length with q | q
    · rw [List.getElem_append_left q]; exact ha i q
    · have : i = n := by simp at hi; omega
      subst this
      rw [List.getElem_append_right q]
      simpa [hl] using hq
/-- a slice of things that a list's elements tell -/
theorem opens_slice {α : Type} {t e : TypeId} {z bytes : Nat} {f : α → List Value} {Q : α → Prop} (ht : P.underlying t = some (.slice e)) (hz : P.cellsOf e = z) (hb : P.bytesOf e = bytes) (hb1 : 1 ≤ bytes)
    (hf : ∀ a, (f a).length = z) (hel : Opens enc P w base spare held e fun cs => ∃ a, cs = f a ∧ Q a) :
    Opens enc P w base spare held t fun cs => ∃ s : Sl, cs = [.slice s.A s.n s.c] ∧ ∃ al : List α, Rd w z s (al.flatMap f) ∧ al.length = s.n ∧ (∀ a ∈ al, Q a) ∧ s.n * bytes ≤ 4294967296 := fun fuel cs x h hw => by
  rcases DataW.trod_slice ht h with ⟨hcs, _⟩ | ⟨a, len, cap, elems, rest, n, _, hcs, hx, _, hlc, hmc, hlen, heach, _, _⟩
  · exact ⟨⟨none, 0, 0⟩, hcs, [], by simpa using rd_nil w z, rfl, by simp, by simp⟩
  · have hwt : (elems.length + rest.length) * bytes ≤ 4294967296 := by
      have := hw ((elems.length + rest.length) * bytes) (by rw [hx]; simp [DataW.weights, ht, hb])
      exact this
    have hsz : len * bytes ≤ 4294967296 := by
      refine Nat.le_trans (Nat.mul_le_mul_right _ ?_) hwt
      omega
    have hln : len ≤ 4294967296 := by
      have : len * 1 ≤ len * bytes := Nat.mul_le_mul_left _ hb1
      omega
    obtain ⟨al, hal, has⟩ := choose_list (α := α) (Q := fun i b => Q b ∧ Cells w (a.add (i * z)) (f b)) len fun i hi => by
      have hi' : i < elems.length := by omega
      have he := heach i hi
      rw [List.getElem?_eq_getElem hi', hz] at he
      obtain ⟨vs, hvs, hr⟩ := Option.bind_eq_some_iff.1 he
      obtain ⟨hvl, hvc⟩ := cells_of hvs
      obtain ⟨b, hb1, hb2⟩ := hel n vs _ hr fun m hm => hw m (by
        rw [hx]
        simp only [DataW.weights, ht, List.mem_cons, List.mem_append]
        exact .inr (.inl (mem_weightsAll (List.mem_map.2 ⟨elems[i], List.getElem_mem hi', rfl⟩) m hm)))
      exact ⟨b, hb2, hb1 ▸ hvc⟩
    refine ⟨⟨some a, len, cap⟩, hcs, al, ⟨by rw [flat_length hf, hal], hlc, by show len ≤ _; omega, fun _ => ⟨a, rfl, fun j v hj => ?_⟩⟩, hal, fun b hbm => ?_, hsz⟩
    · have hz0 : 0 < z := by
        rcases Nat.eq_zero_or_pos z with e0 | e0
        · exfalso
          have := (List.getElem?_eq_some_iff.1 hj).1
          rw [flat_length hf, e0] at this
          omega
        · exact e0
      have hjl : j < al.length * z := by rw [← flat_length hf]; exact (List.getElem?_eq_some_iff.1 hj).1
      have hq : j / z < al.length := Nat.div_lt_of_lt_mul (by rw [Nat.mul_comm]; exact hjl)
      have hfe := flat_elem hf hq
      have hjz : j / z * z + j % z = j := by rw [Nat.mul_comm]; exact Nat.div_add_mod j z
      have hcell := (has (j / z) hq).2 (j % z) v (by
        rw [← hfe, List.getElem?_take, if_pos (Nat.mod_lt _ hz0), List.getElem?_drop, hjz]; exact hj)
      rw [addr_add, hjz] at hcell
      exact hcell
    · obtain ⟨i, hi, rfl⟩ := List.getElem_of_mem hbm
      exact (has i hi).1
theorem Opens.mono {t : TypeId} {Φ Ψ : List Value → Prop} (h : Opens enc P w base spare held t Φ) (hi : ∀ cs, Φ cs → Ψ cs) : Opens enc P w base spare held t Ψ := fun n cs x ht hl => hi cs (h n cs x ht hl)
theorem flat_bv (l : L8) : l.flatMap (fun b => [Value.int .u8 (b.toNat : Int)]) = bv l := by
  unfold bv
  induction l with
  | nil => rfl
  | cons a r ih => simp only [List.flatMap_cons, ih, List.map_cons, List.singleton_append]
theorem opens_bytes {t e : TypeId} (ht : P.underlying t = some (.slice e)) (he : P.underlying e = some (.int .u8)) (hz : P.cellsOf e = 1) (hb : P.bytesOf e = 1) :
    Opens enc P w base spare held t fun cs => ∃ s : Sl, cs = [.slice s.A s.n s.c] ∧ ∃ l : L8, Rd w 1 s (bv l) ∧ l.length = s.n ∧ s.n ≤ 4294967296 := by
  refine (opens_slice (f := fun b : UInt8 => [Value.int .u8 (b.toNat : Int)]) (Q := fun _ => True) ht hz hb (Nat.le_refl _) (fun _ => rfl) ((opens_u8 he).mono fun cs ⟨b, h⟩ => ⟨b, h, trivial⟩)).mono ?_
  rintro cs ⟨s, h1, al, h2, h3, _, h4⟩
  exact ⟨s, h1, al, by rw [← flat_bv]; exact h2, h3, by omega⟩
/-- a plain cell within reach -/
def okV : Value → Prop
  | .int k n => (Lit.int k n).wf = true
  | .string s => s.size ≤ 4294967296
  | _ => True
theorem sizeT_cells (t : TypeId) : P.cellsOf t = sizeT P t := by
  unfold Program.cellsOf sizeT
  cases P.info? t <;> rfl
theorem FitL.join : ∀ {ks ls : List Kd} {a b : List Value}, FitL ks a → FitL ls b → FitL (ks ++ ls) (a ++ b)
  | [], _, [], _, _, h => h
  | _ :: _, _, _ :: _, _, h, h' => ⟨h.1, FitL.join h.2 h'⟩
  | [], _, _ :: _, _, h, _ => h.elim
  | _ :: _, _, [], _, h, _ => h.elim
theorem flatFs_opens {rec : TypeId → Option (List Kd)} {cs : List Value} : ∀ (l : List Field) (off : Nat) (ks : List Kd), flatFs rec P l off = some ks →
    (∀ f ∈ l, ∀ ls, rec f.type = some ls → P.cellsOf f.type = ls.length → FitL ls ((cs.drop f.offset).take ls.length) ∧ ∀ v ∈ (cs.drop f.offset).take ls.length, okV v) →
    FitL ks ((cs.drop off).take ks.length) ∧ ∀ v ∈ (cs.drop off).take ks.length, okV v
  | [], off, ks, h, _ => by
    simp only [flatFs, Option.some.injEq] at h
    subst h
    exact ⟨by simp [FitL], by simp⟩
  | f :: r, off, ks, h, hf => by
    simp only [flatFs] at h
    split at h
    · rename_i ks1 h1 h2 h3
      split at h
      · rename_i l h4 h5
        simp only [Option.some.injEq] at h
        subst h
        have ho : f.offset = off := Nat.eq_of_beq_eq_true h2
        have hz : sizeT P f.type = ks1.length := Nat.eq_of_beq_eq_true h4
        obtain ⟨a1, a2⟩ := hf f (by simp) ks1 h3 (by rw [sizeT_cells, hz])
        obtain ⟨b1, b2⟩ := flatFs_opens r (off + ks1.length) l h5 fun g hg => hf g (by simp [hg])
        rw [ho] at a1 a2
        have e : (cs.drop off).take (ks1 ++ l).length = (cs.drop off).take ks1.length ++ (cs.drop (off + ks1.length)).take l.length := by
          rw [List.length_append, List.take_add, List.drop_drop]
        rw [e]
        refine ⟨a1.join b1, fun v hv => ?_⟩
        rcases List.mem_append.1 hv with q | q
        · exact a2 v q
        · exact b2 v q
      · cases h
    · cases h
theorem repK_opens {ks : List Kd} : ∀ (n : Nat) (cs : List Value), cs.length = n * ks.length → (∀ i, i < n → FitL ks ((cs.drop (i * ks.length)).take ks.length)) → FitL (repK n ks) cs
  | 0, cs, hl, _ => by
    have : cs = [] := List.eq_nil_of_length_eq_zero (by simpa using hl)
    subst this; trivial
  | n + 1, cs, hl, h => by
    have h0 := h 0 (by omega)
    rw [Nat.zero_mul, List.drop_zero] at h0
    have hr := repK_opens (ks := ks) n (cs.drop ks.length) (by rw [List.length_drop, hl, Nat.succ_mul]; omega) fun i hi => by
      have := h (i + 1) (by omega)
      rwa [Nat.succ_mul, Nat.add_comm, ← List.drop_drop] at this
    have := h0.join hr
    rwa [List.take_append_drop] at this
theorem opens_flat : ∀ (d : Nat) (t : TypeId) (ks : List Kd), flatK P d t = some ks → P.cellsOf t = ks.length → Opens enc P w base spare held t fun cs => FitL ks cs ∧ ∀ v ∈ cs, okV v
  | 0, t, ks, h, _ => by cases h
  | d + 1, t, ks, h, hz => by
    unfold flatK at h
    split at h
    · rename_i hu
      cases h
      refine (opens_bool hu).mono ?_
      rintro cs ⟨b, rfl⟩
      exact ⟨⟨rfl, trivial⟩, by simp [okV]⟩
    · rename_i k hu
      cases h
      refine (opens_int hu).mono ?_
      rintro cs ⟨b, rfl, hw⟩
      exact ⟨⟨by simp only [Kd.fit]; cases k <;> rfl, trivial⟩, by simpa [okV] using hw⟩
    · rename_i hu
      cases h
      refine (opens_str hu).mono ?_
      rintro cs ⟨b, rfl, hw⟩
      exact ⟨⟨rfl, trivial⟩, by simpa [okV, size_str] using hw⟩
    · rename_i fs hu
      split at h
      · intro n cs x hx hw
        obtain ⟨xs, n', _, hxe, hcl, hxl, heach⟩ := DataW.trod_struct hu hx
        have := flatFs_opens (P := P) (cs := cs) fs.toList 0 ks h ?_
        · rw [List.drop_zero, ← hz, ← hcl, List.take_length] at this
          exact this
        · intro f hf ls hls hlz
          obtain ⟨i, hi, rfl⟩ := List.getElem_of_mem hf
          have hi' : i < fs.size := by simpa using hi
          have hfi : fs[i]? = some fs.toList[i] := by rw [Array.getElem?_eq_getElem hi']; rfl
          have hix : i < xs.length := by rw [hxl]; exact hi'
          have he := heach i _ hfi
          rw [List.getElem?_eq_getElem hix, hlz] at he
          refine opens_flat d _ ls hls hlz n' _ _ he fun m hm => hw m ?_
          rw [hxe]
          show m ∈ DataW.weights P t (.agg (xs.map (·.1)))
          rw [DataW.weights, hu]
          refine DataW.weights_mem_each (j := i) (t := fs.toList[i].type) (d := xs[i].1) ?_ ?_ m hm
          · rw [List.getElem?_map, List.getElem?_eq_getElem hi]; rfl
          · rw [List.getElem?_map, List.getElem?_eq_getElem hix]; rfl
      · cases h
    · rename_i k e hu
      split at h
      · rename_i ls hls
        split at h
        · rename_i hbe
          cases h
          have hze : P.cellsOf e = ls.length := by rw [sizeT_cells]; exact Nat.eq_of_beq_eq_true hbe
          refine (opens_array hu (opens_flat d e ls hls hze)).mono ?_
          rintro cs ⟨hcl, hall⟩
          rw [hz, repK_length] at hcl
          rw [hze] at hall
          refine ⟨repK_opens k cs hcl fun i hi => (hall i hi).1, fun v hv => ?_⟩
          obtain ⟨j, hj, rfl⟩ := List.getElem_of_mem hv
          have hl0 : 0 < ls.length := by
            rcases Nat.eq_zero_or_pos ls.length with q | q
            · rw [hcl, q] at hj; omega
            · exact q
          have hq : j / ls.length < k := Nat.div_lt_of_lt_mul (by rw [Nat.mul_comm, ← hcl]; exact hj)
          refine (hall _ hq).2 _ (List.mem_iff_getElem?.2 ⟨j % ls.length, ?_⟩)
          rw [List.getElem?_take, if_pos (Nat.mod_lt _ hl0), List.getElem?_drop, Nat.mul_comm, Nat.div_add_mod, List.getElem?_eq_getElem hj]
        · cases h
      · cases h
    · cases h
end
end Go.Proofs.YtjfjanogfakclaaDoor.CF.U

/- What is of small bulk weighs little. -/
namespace Go.Proofs.YtjfjanogfakclaaDoor
open Go CF

/-- the types that a type is made of -/
def subsT : TypeDesc → List TypeId
  | .pointer e | .slice e | .array _ e => [e]
  | .map k e => [k, e]
  | .struct fs => fs.toList.map (·.type)
  | .named _ u => [u]
  | _ => []
/-- no type of the table has a value of more bytes, and all are made of types of the table -/
structure Slim (P : Program) : Prop where
  small : ∀ t, t < P.types.size → P.bytesOf t ≤ 2048
  closed : ∀ t d, t < P.types.size → P.underlying t = some d → ∀ e ∈ subsT d, e < P.types.size
theorem info_of {P : Program} {t : TypeId} (h : t < P.types.size) : P.info? t = some P.types[t] := by
  unfold Tables.info?
  rw [if_pos h, Array.getElem?_eq_getElem h]
theorem slim_of {P : Program} (h : (P.types.all fun i => decide (i.bytes ≤ 2048) && (subsT i.desc).all fun e => decide (e < P.types.size)) = true) : Slim P := by
  have hall : ∀ t (ht : t < P.types.size), P.types[t].bytes ≤ 2048 ∧ ∀ e ∈ subsT P.types[t].desc, e < P.types.size := fun t ht => by
    have := Array.all_eq_true.1 h t ht
    simp only [Bool.and_eq_true, decide_eq_true_eq, List.all_eq_true] at this
    exact this
  refine ⟨fun t ht => ?_, fun t d ht hd e he => ?_⟩
  · unfold Program.bytesOf
    rw [info_of ht]
    exact (hall t ht).1
  · unfold Program.underlying at hd
    rw [info_of ht] at hd
    have h0 := (hall t ht).2
    split at hd
    · rename_i nm u _ _ _ _ _ _ _ _ _ heq
      have hq : P.types[t].desc = .named nm u := by rw [Option.some.inj heq]
      rw [hq] at h0
      have hu := h0 u (by simp [subsT])
      rw [info_of hu] at hd
      simp only [Option.map_some, Option.some.injEq] at hd
      subst hd
      exact (hall u hu).2 e he
    · rename_i i hn heq
      simp only [Option.some.injEq] at hd heq
      subst hd
      subst heq
      exact h0 e he
    · cases hd
theorem any_of {α : Type} {o : Option α} {p : α → Bool} (h : o.any p = true) : ∃ x, o = some x ∧ p x = true := by
  cases o with
  | none => cases h
  | some x => exact ⟨x, rfl, h⟩
mutual
theorem weights_bulk {H : Type} {P : Program} (hP : Slim P) : ∀ (d : DataW H) (t : TypeId), t < P.types.size → ∀ (m : Nat), m ∈ d.weights P t → m ≤ 4096 * Rows.uptoBulk d
  | .lit (.string bytes), t, ht, m, h => by
    simp only [DataW.weights, List.mem_singleton] at h
    subst h
    simp only [Rows.uptoBulk]; omega
  | .lit (.int _ _), t, ht, m, h => by simp [DataW.weights] at h
  | .lit (.bool _), t, ht, m, h => by simp [DataW.weights] at h
  | .lit (.float _ _), t, ht, m, h => by simp [DataW.weights] at h
  | .lit .nil, t, ht, m, h => by simp [DataW.weights] at h
  | .nil, t, ht, m, h => by simp [DataW.weights] at h
  | .ptr d, t, ht, m, h => by
    simp only [DataW.weights] at h
    split at h
    · rename_i e hu
      have := weights_bulk hP d e (hP.closed t _ ht hu e (by simp [subsT])) m h
      simp only [Rows.uptoBulk]; omega
    · cases h
  | .slice elems spare, t, ht, m, h => by
    simp only [DataW.weights] at h
    split at h
    · rename_i e hu
      have hte := hP.closed t _ ht hu e (by simp [subsT])
      simp only [List.mem_cons, List.mem_append] at h
      simp only [Rows.uptoBulk]
      rcases h with rfl | h | h
      · have h1 := bulk_all elems
        have h2 := bulk_all spare
        have h3 := hP.small e hte
        have : (elems.length + spare.length) * P.bytesOf e ≤ (Rows.uptoBulkAll elems + Rows.uptoBulkAll spare) * 2048 := Nat.mul_le_mul (by omega) h3
        omega
      · have := weights_bulkAll hP elems e hte m h; omega
      · have := weights_bulkAll hP spare e hte m h; omega
    · cases h
  | .agg parts, t, ht, m, h => by
    simp only [DataW.weights] at h
    simp only [Rows.uptoBulk]
    split at h
    · rename_i fs hu
      have := weights_bulkEach hP parts _ (fun e he => hP.closed t _ ht hu e he) m h; omega
    · rename_i e hu
      have := weights_bulkAll hP parts e (hP.closed t _ ht hu e (by simp [subsT])) m h; omega
    · cases h
  | .iface _ _, t, ht, m, h => by simp [DataW.weights] at h
  | .map entries, t, ht, m, h => by
    simp only [DataW.weights] at h
    simp only [Rows.uptoBulk]
    split at h
    · rename_i k e hu
      have hk := hP.closed t _ ht hu k (by simp [subsT])
      have he := hP.closed t _ ht hu e (by simp [subsT])
      rcases List.mem_cons.1 h with rfl | h
      · have h1 := bulk_entries entries
        have h2 := hP.small k hk
        have h3 := hP.small e he
        have : entries.length * (P.bytesOf k + P.bytesOf e) ≤ Rows.uptoBulkEntries entries * 4096 := Nat.mul_le_mul h1 (by omega)
        omega
      · have := weights_bulkEntries hP entries e he m h; omega
    · cases h
  | .held _, t, ht, m, h => by simp [DataW.weights] at h
theorem weights_bulkAll {H : Type} {P : Program} (hP : Slim P) : ∀ (ds : List (DataW H)) (e : TypeId), e < P.types.size → ∀ (m : Nat), m ∈ DataW.weightsAll P e ds → m ≤ 4096 * Rows.uptoBulkAll ds
  | [], e, he, m, h => by simp [DataW.weightsAll] at h
  | d :: r, e, he, m, h => by
    simp only [DataW.weightsAll, List.mem_append] at h
    simp only [Rows.uptoBulkAll]
    rcases h with h | h
    · have := weights_bulk hP d e he m h; omega
    · have := weights_bulkAll hP r e he m h; omega
theorem weights_bulkEach {H : Type} {P : Program} (hP : Slim P) : ∀ (ds : List (DataW H)) (ts : List TypeId), (∀ e ∈ ts, e < P.types.size) → ∀ (m : Nat), m ∈ DataW.weightsEach P ts ds → m ≤ 4096 * Rows.uptoBulkAll ds
  | [], ts, hts, m, h => by cases ts <;> simp [DataW.weightsEach] at h
  | d :: r, [], hts, m, h => by simp [DataW.weightsEach] at h
  | d :: r, t :: ts, hts, m, h => by
    simp only [DataW.weightsEach, List.mem_append] at h
    simp only [Rows.uptoBulkAll]
    rcases h with h | h
    · have := weights_bulk hP d t (hts t (by simp)) m h; omega
    · have := weights_bulkEach hP r ts (fun e he => hts e (List.mem_cons_of_mem _ he)) m h; omega
theorem weights_bulkEntries {H : Type} {P : Program} (hP : Slim P) : ∀ (es : List (Lit × DataW H)) (e : TypeId), e < P.types.size → ∀ (m : Nat), m ∈ DataW.weightsEntries P e es → m ≤ 4096 * Rows.uptoBulkEntries es
  | [], e, he, m, h => by simp [DataW.weightsEntries] at h
  | x :: r, e, he, m, h => by
    simp only [DataW.weightsEntries, List.mem_append] at h
    simp only [Rows.uptoBulkEntries]
    rcases h with h | h
    · have := weights_bulkEntry hP x e he m h; omega
    · have := weights_bulkEntries hP r e he m h; omega
theorem weights_bulkEntry {H : Type} {P : Program} (hP : Slim P) : ∀ (x : Lit × DataW H) (e : TypeId), e < P.types.size → ∀ (m : Nat), m ∈ DataW.weightsEntry P e x → m ≤ 4096 * Rows.uptoBulkEntry x
  | (.string bytes, d), e, he, m, h => by
    simp only [DataW.weightsEntry, List.mem_cons] at h
    simp only [Rows.uptoBulkEntry]
    rcases h with rfl | h
    · omega
    · have := weights_bulk hP d e he m h; omega
  | (.int _ _, d), e, he, m, h => by
    simp only [DataW.weightsEntry] at h
    simp only [Rows.uptoBulkEntry]
    have := weights_bulk hP d e he m h; omega
  | (.bool _, d), e, he, m, h => by
    simp only [DataW.weightsEntry] at h
    simp only [Rows.uptoBulkEntry]
    have := weights_bulk hP d e he m h; omega
  | (.float _ _, d), e, he, m, h => by
    simp only [DataW.weightsEntry] at h
    simp only [Rows.uptoBulkEntry]
    have := weights_bulk hP d e he m h; omega
  | (.nil, d), e, he, m, h => by
    simp only [DataW.weightsEntry] at h
    simp only [Rows.uptoBulkEntry]
    have := weights_bulk hP d e he m h; omega
theorem bulk_pos {H : Type} : ∀ (d : DataW H), 1 ≤ Rows.uptoBulk d
  | .lit (.string _) => by simp only [Rows.uptoBulk]; omega
  | .lit (.int _ _) => by simp only [Rows.uptoBulk]; omega
  | .lit (.bool _) => by simp only [Rows.uptoBulk]; omega
  | .lit (.float _ _) => by simp only [Rows.uptoBulk]; omega
  | .lit .nil => by simp only [Rows.uptoBulk]; omega
  | .nil => by simp only [Rows.uptoBulk]; omega
  | .ptr _ => by simp only [Rows.uptoBulk]; omega
  | .slice _ _ => by simp only [Rows.uptoBulk]; omega
  | .agg parts => by simp only [Rows.uptoBulk]; omega
  | .iface _ _ => by simp only [Rows.uptoBulk]; omega
  | .map _ => by simp only [Rows.uptoBulk]; omega
  | .held _ => by simp only [Rows.uptoBulk]; omega
theorem bulk_all {H : Type} : ∀ (ds : List (DataW H)), ds.length ≤ Rows.uptoBulkAll ds
  | [] => by simp [Rows.uptoBulkAll]
  | d :: r => by
    have h1 := bulk_all r
    have h2 := bulk_pos d
    simp only [Rows.uptoBulkAll, List.length_cons]; omega
theorem bulk_entries {H : Type} : ∀ (es : List (Lit × DataW H)), es.length ≤ Rows.uptoBulkEntries es
  | [] => by simp [Rows.uptoBulkEntries]
  | (.string _, d) :: r => by
    have h1 := bulk_entries r
    simp only [Rows.uptoBulkEntries, Rows.uptoBulkEntry, List.length_cons]; omega
  | (.int _ _, d) :: r => by
    have h1 := bulk_entries r
    simp only [Rows.uptoBulkEntries, Rows.uptoBulkEntry, List.length_cons]; omega
  | (.bool _, d) :: r => by
    have h1 := bulk_entries r
    simp only [Rows.uptoBulkEntries, Rows.uptoBulkEntry, List.length_cons]; omega
  | (.float _ _, d) :: r => by
    have h1 := bulk_entries r
    simp only [Rows.uptoBulkEntries, Rows.uptoBulkEntry, List.length_cons]; omega
  | (.nil, d) :: r => by
    have h1 := bulk_entries r
    simp only [Rows.uptoBulkEntries, Rows.uptoBulkEntry, List.length_cons]; omega
end
theorem bulk_mem {H : Type} : ∀ {ds : List (DataW H)} {d : DataW H}, d ∈ ds → Rows.uptoBulk d ≤ Rows.uptoBulkAll ds
  | x :: r, d, h => by
    simp only [Rows.uptoBulkAll]
    rcases List.mem_cons.1 h with rfl | h
    · omega
    · have := bulk_mem h; omega
theorem light_of {H : Type} {P : Program} (hP : Slim P) {ds : List (DataW H)} (hs : Rows.uptoSmall H ds = true) {d : DataW H} (hd : d ∈ ds) (t : TypeId) (ht : t < P.types.size) : U.Light P t d := fun m hm => by
  have h1 := weights_bulk hP d t ht m hm
  have h2 := bulk_mem hd
  have h3 : Rows.uptoBulkAll ds ≤ 1048576 := of_decide_eq_true hs
  omega
theorem light_str {H : Type} {ds : List (DataW H)} (hs : Rows.uptoSmall H ds = true) {s : ByteArray} (hd : DataW.lit (.string s.data.toList) ∈ ds) : s.size ≤ 4294967296 := by
  have h2 := bulk_mem hd
  have h3 : Rows.uptoBulkAll ds ≤ 1048576 := of_decide_eq_true hs
  simp only [Rows.uptoBulk, Array.length_toList] at h2
  have : s.size = s.data.size := rfl
  omega
end Go.Proofs.YtjfjanogfakclaaDoor

/- Rules of maps with strings for keys. -/
namespace Go.Proofs.YtjfjanogfakclaaDoor.CF
open Go Go.RowKit

/-- all keys are strings -/
def SKeys (es : List MapEntry) : Prop := ∀ e ∈ es, ∃ s, e.key = .string s
def sidx : List MapEntry → ByteArray → Nat → Option (Nat × Value)
  | [], _, _ => none
  | e :: r, s, i => match e.key with
    | .string t => if s = t then some (i, e.val) else sidx r s (i + 1)
    | _ => sidx r s (i + 1)
def sget (es : List MapEntry) (s : ByteArray) : Option Value := (sidx es s 0).map (·.2)
theorem findNow_str {s : ByteArray} : ∀ {es : List MapEntry} (i : Nat), SKeys es → Instr.findNow .string (.string s) es i = some (sidx es s i)
  | [], _, _ => rfl
  | e :: r, i, h => by
    obtain ⟨t, ht⟩ := h e (by simp)
    have ih := findNow_str (s := s) (i + 1) (fun x hx => h x (by simp [hx]) : SKeys r)
    unfold Instr.findNow sidx
    rw [ht]
    simp only [Instr.sameNow]
    by_cases e : s = t
    · have : (s == t) = true := (MapKept.bytes_beq s t).2 e
      rw [this]
      simp only [if_pos e]
    · have : (s == t) = false := Bool.eq_false_iff.2 fun q => e ((MapKept.bytes_beq s t).1 q)
      rw [this]
      simp only [if_neg e]
      exact ih
theorem sidx_shift {s : ByteArray} : ∀ (es : List MapEntry) (i j : Nat), sidx es s (i + j) = (sidx es s i).map fun p => (p.1 + j, p.2)
  | [], _, _ => rfl
  | e :: r, i, j => by
    unfold sidx
    have := sidx_shift (s := s) r (i + 1) j
    rw [show i + 1 + j = i + j + 1 by omega] at this
    cases e.key with
    | string t => by_cases q : s = t <;> simp [q, this]
    | _ => simpa using this
theorem sget_nil (s : ByteArray) : sget [] s = none := rfl
theorem sget_cons {e : MapEntry} {r : List MapEntry} {t : ByteArray} (h : e.key = .string t) (s : ByteArray) : sget (e :: r) s = if s = t then some e.val else sget r s := by
  unfold sget
  conv => lhs; unfold sidx
  rw [h]
  by_cases q : s = t
  · simp [q]
  · simp only [if_neg q]
    rw [sidx_shift r 0 1, Option.map_map]
    rfl
theorem sget_push {es : List MapEntry} {s : ByteArray} {e : MapEntry} (hk : SKeys es) (he : e.key = .string s) (hn : sget es s = none) (t : ByteArray) :
    sget (es ++ [e]) t = if t = s then some e.val else sget es t := by
  induction es with
  | nil => rw [List.nil_append, sget_cons he]
  | cons x r ih =>
    obtain ⟨u, hu⟩ := hk x (by simp)
    rw [sget_cons hu] at hn
    rw [List.cons_append, sget_cons hu, sget_cons hu]
    by_cases q : s = u
    · rw [if_pos q] at hn; cases hn
    · rw [if_neg q] at hn
      rw [ih (fun x hx => hk x (by simp [hx])) hn]
      by_cases q1 : t = u
      · by_cases q2 : t = s
        · exact absurd (q2.symm.trans q1) q
        · rw [if_pos q1, if_neg q2, if_pos q1]
      · simp only [if_neg q1]
theorem sget_modify {es : List MapEntry} {s : ByteArray} {i : Nat} {v v' : Value} (hk : SKeys es) (hn : sidx es s 0 = some (i, v)) (t : ByteArray) :
    sget (es.modify i fun e => { e with key := .string s, val := v' }) t = if t = s then some v' else sget es t := by
  induction es generalizing i with
  | nil => cases hn
  | cons x r ih =>
    obtain ⟨u, hu⟩ := hk x (by simp)
    unfold sidx at hn
    rw [hu] at hn
    by_cases q : s = u
    · simp only [if_pos q, Option.some.injEq, Prod.mk.injEq] at hn
      obtain ⟨rfl, _⟩ := hn
      rw [List.modify_zero_cons, sget_cons (t := s) rfl, sget_cons hu]
      by_cases q1 : t = s
      · simp [q1]
      · have q2 : t ≠ u := fun e => q1 (e.trans q.symm)
        simp [q1, q2]
    · simp only [if_neg q] at hn
      rw [sidx_shift r 0 1] at hn
      obtain ⟨p, hp, hpe⟩ := Option.map_eq_some_iff.1 hn
      simp only [Prod.mk.injEq] at hpe
      obtain ⟨rfl, hp2⟩ := hpe
      rw [List.modify_succ_cons, sget_cons hu, sget_cons hu, ih (i := p.1) (fun x hx => hk x (by simp [hx])) (by rw [hp, ← hp2])]
      by_cases q1 : t = u
      · have q2 : t ≠ s := fun e => q (e.symm.trans q1)
        simp [q1, q2]
        exact fun e => absurd e.symm q
      · simp [q1]
theorem skeys_modify {es : List MapEntry} {s : ByteArray} {i : Nat} {v' : Value} (hk : SKeys es) : SKeys (es.modify i fun e => { e with key := .string s, val := v' }) := by
  intro e he
  obtain ⟨j, hj, rfl⟩ := List.getElem_of_mem he
  rw [List.getElem_modify]
  split
  · exact ⟨s, rfl⟩
  · exact hk _ (List.getElem_mem _)
theorem sidx_at {es : Array MapEntry} {s : ByteArray} {i j : Nat} {v : Value} (hs : SKeys es.toList) (h : sidx es.toList s j = some (j + i, v)) : ∃ e0, es[i]? = some e0 ∧ e0.key = .string s := by
  rw [← Array.getElem?_toList]
  generalize es.toList = l at *
  induction l generalizing i j with
  | nil => cases h
  | cons x r ih =>
    obtain ⟨u, hu⟩ := hs x (by simp)
    unfold sidx at h
    rw [hu] at h
    by_cases q : s = u
    · simp only [if_pos q, Option.some.injEq, Prod.mk.injEq] at h
      have : i = 0 := by omega
      subst this
      exact ⟨x, rfl, by rw [hu, q]⟩
    · simp only [if_neg q] at h
      have hi : 0 < i := by
        rw [show j + 1 = 0 + (j + 1) by omega, sidx_shift] at h
        obtain ⟨p, _, hp⟩ := Option.map_eq_some_iff.1 h
        simp only [Prod.mk.injEq] at hp
        omega
      obtain ⟨i', rfl⟩ : ∃ i', i = i' + 1 := ⟨i - 1, by omega⟩
      rw [List.getElem?_cons_succ]
      exact ih (j := j + 1) (fun y hy => hs y (by simp [hy])) (by rw [h]; congr 2; omega)
/-- a map that holds these values -/
def SMap (w : World) (b : Nat) (m : ByteArray → Option Value) : Prop :=
  ∃ es clock, w.heap[b]? = some (.map es clock) ∧ SKeys es.toList ∧ ∀ s, sget es.toList s = m s
def upd (m : ByteArray → Option Value) (s : ByteArray) (v : Value) : ByteArray → Option Value := fun t => if t = s then some v else m t
theorem SMap.keep {S : Nat → Prop} {w w' : World} {b : Nat} {m : ByteArray → Option Value} (h : SMap w b m) (k : Keep S w w') (hn : ¬ S b) : SMap w' b m := by
  obtain ⟨es, c, h1, h2⟩ := h
  exact ⟨es, c, k.heap h1 hn, h2⟩
theorem smap_new (w : World) : SMap (w.alloc (.map #[] 0)) w.heap.size fun _ => none :=
  ⟨#[], 0, by show (w.heap.push _)[w.heap.size]? = _; simp, fun e he => by simp at he, fun s => rfl⟩
section
variable {P : Program} {w : World} {b : Nat} {m : ByteArray → Option Value} {t k e : TypeId}
theorem run_getMap {es : Array MapEntry} {clock : Nat} (h : w.heap[b]? = some (.map es clock)) : (getObj b).run P w = .ok (.map es clock) w := by
  simp [getObj, Sem.run, h]
theorem checkKey_str (ek : Bool) (n : Nat) (hk : P.underlying k = some .string) (s : ByteArray) : (Instr.checkKey ek (n + 1) k (.string s)).run P w = .ok () w := by
  unfold Instr.checkKey
  simp [run_underlying hk]
theorem findKey_str {es : List MapEntry} (hk : P.underlying k = some .string) (hs : SKeys es) (s : ByteArray) : (Instr.findKey k (.string s) es).run P w = .ok (sidx es s 0) w := by
  unfold Instr.findKey
  simp [run_underlying hk, findNow_str 0 hs]
theorem look_rule (ht : P.underlying t = some (.map k e)) (hk : P.underlying k = some .string) {zv : Value} (hz : (zeroValue e).run P w = .ok zv w) (h : SMap w b m) (s : ByteArray) :
    (Instr.lookup t (.map (some b)) (.string s) true).run P w = .ok (.tuple #[(m s).getD zv, .bool (m s).isSome]) w ∧
    (Instr.lookup t (.map (some b)) (.string s) false).run P w = .ok ((m s).getD zv) w := by
  obtain ⟨es, c, hb, hs, hm⟩ := h
  have := hm s
  unfold sget at this
  unfold Instr.lookup
  constructor
  · cases hi : sidx es.toList s 0 with
    | none =>
      rw [hi] at this
      simp only [Option.map_none] at this
      rw [← this]
      simp [run_underlying ht, run_getMap hb, checkKey_str _ _ hk, findKey_str hk hs, hi, hz]
    | some p =>
      rw [hi] at this
      simp only [Option.map_some] at this
      rw [← this]
      simp [run_underlying ht, run_getMap hb, checkKey_str _ _ hk, findKey_str hk hs, hi]
  · cases hi : sidx es.toList s 0 with
    | none =>
      rw [hi] at this
      simp only [Option.map_none] at this
      rw [← this]
      simp [run_underlying ht, run_getMap hb, checkKey_str _ _ hk, findKey_str hk hs, hi, hz]
    | some p =>
      rw [hi] at this
      simp only [Option.map_some] at this
      rw [← this]
      simp [run_underlying ht, run_getMap hb, checkKey_str _ _ hk, findKey_str hk hs, hi]
theorem run_setMap {o : Obj} {es : Array MapEntry} {c : Nat} (h : w.heap[b]? = some (.map es c)) : (setObj b o).run P w = .ok () { w with heap := w.heap.setIfInBounds b o } := by
  simp [setObj, Sem.run, h]
/-- a value under a key -/
theorem upd_rule (ht : P.underlying t = some (.map k e)) (hk : P.underlying k = some .string) (h : SMap w b m) (s : ByteArray) (v : Value)
    {K : World → Prop} (hK : ∀ w1, SMap w1 b (upd m s v) → Keep (fun k => k = b) w w1 → w1.heap.size = w.heap.size → K w1) : RunU P (Instr.mapUpdate t (.map (some b)) (.string s) v) w K := by
  obtain ⟨es, c, hb, hs, hm⟩ := h
  have hlt := lt_of_heap hb
  have hget : ∀ (o : Obj), ({ w with heap := w.heap.setIfInBounds b o } : World).heap[b]? = some o := fun o => by
    simp [hlt]
  have hkeep : ∀ (o : Obj), Keep (fun k => k = b) w { w with heap := w.heap.setIfInBounds b o } := fun o =>
    ⟨rfl, rfl, rfl, by simp, fun k _ hn => by simp [Array.getElem?_setIfInBounds, Ne.symm hn]⟩
  cases hi : sidx es.toList s 0 with
  | none =>
    have hn : sget es.toList s = none := by unfold sget; rw [hi]; rfl
    refine ⟨_, ?_, hK { w with heap := w.heap.setIfInBounds b (.map (es.push { key := .string s, val := v, born := c }) (c + 1)) } ⟨_, _, hget _, ?_, fun t => ?_⟩ (hkeep _) (by simp)⟩
    · unfold Instr.mapUpdate
      simp [run_underlying ht, run_getMap hb, checkKey_str _ _ hk, findKey_str hk hs, hi, run_setMap hb]
    · intro e he
      rw [Array.toList_push, List.mem_append, List.mem_singleton] at he
      rcases he with he | rfl
      · exact hs e he
      · exact ⟨s, rfl⟩
    · rw [Array.toList_push, sget_push hs rfl hn]
      unfold upd
      rw [hm]
  | some p =>
    obtain ⟨i, v0⟩ := p
    have hold : ∃ e0, es[i]? = some e0 ∧ e0.key = .string s := sidx_at (j := 0) hs (by rw [hi, Nat.zero_add])
    obtain ⟨e0, he0, hk0⟩ := hold
    refine ⟨_, ?_, hK { w with heap := w.heap.setIfInBounds b (.map (es.modify i fun e => { e with key := .string s, val := v }) c) } ⟨_, _, hget _, ?_, fun t => ?_⟩ (hkeep _) (by simp)⟩
    · unfold Instr.mapUpdate
      simp [run_underlying ht, run_getMap hb, checkKey_str _ _ hk, findKey_str hk hs, hi, run_setMap hb, he0, hk0, Instr.keyThatStays, Instr.sameBits, (MapKept.bytes_beq s s).2 rfl]
    · rw [Array.toList_modify]; exact skeys_modify hs
    · rw [Array.toList_modify, sget_modify hs hi]
      unfold upd
      rw [hm]
end
end Go.Proofs.YtjfjanogfakclaaDoor.CF

/- Rules: bytes copied into a row of one's own. -/
namespace Go.Proofs.YtjfjanogfakclaaDoor.CF
open Go Go.RowKit

theorem copy_rule {P : Program} {w : World} {base : Nat} {t ty e : TypeId} {zv : Option Value} {bytes : Nat} (ht : P.underlying t = some (.slice e)) (hinfo : (P.info? e).map (fun i => (i.zero, i.size, i.bytes)) = some (zv, 1, bytes))
    {f x : Sl} {F xs : List Value} {o : Nat} (hf : Own w base e 1 f F) (hx : Rd w 1 x xs) (h1 : ∀ u ∈ xs, u.oneCell' = true) (ho : o + x.n ≤ f.n)
    {K : Int → World → Prop} (h : ∀ w', Own w' base e 1 f (F.take o ++ xs ++ F.drop (o + x.n)) → Keep (fun k => some k = f.blk) w w' → w'.heap.size = w.heap.size → K (x.n : Int) w') :
    RunK P (.i .i64) (Builtin.copy_ #[t, t] ty #[.slice (cutA f.A f.c o 1) (f.n - o) (f.c - o), .slice x.A x.n x.c]) w K := by
  have hs : (P.info? e).map (·.size) = some 1 := by
    obtain ⟨i, hi, hzz⟩ := Option.map_eq_some_iff.1 hinfo
    simp only [Prod.mk.injEq] at hzz
    rw [hi, Option.map_some, hzz.2.1]
  have hFl : F.length = f.n := by have := hf.len; omega
  have hxl : xs.length = x.n := by have := hx.len; omega
  rcases Nat.eq_zero_or_pos x.n with h0 | hpos
  · have hx0 : xs = [] := List.eq_nil_of_length_eq_zero (by omega)
    refine ⟨(x.n : Int), w, ?_, h w ?_ (Keep.refl _ _) rfl⟩
    · rw [run_copy_none (P := P) w t t ty e _ _ _ _ _ _ ht hs (by rw [h0]; exact Nat.zero_min _), h0]; rfl
    · rw [hx0, h0, List.append_nil, Nat.add_zero, List.take_append_drop]; exact hf
  · obtain ⟨hlen, hown⟩ := hf
    rcases hown with ⟨h2, hn0⟩ | ⟨g, cap, cur, hv, hbg, hg, hnc, hcm, hcs, htake⟩
    · omega
    · injection hv with hA hN hC
      have hne : xs ≠ [] := fun e => by rw [e] at hxl; simp at hxl; omega
      obtain ⟨a, ha, hc⟩ := hx.at_ hne
      have hcA : cutA f.A f.c o 1 = some ⟨g, o, none⟩ := by
        unfold cutA
        rw [if_neg (by omega), hA]
        simp [Addr.add]
        omega
      have hcs' : cur.size = cap := by simpa using hcs
      have hmin : xs.length = Nat.min x.n (f.n - o) := by
        have : Nat.min x.n (f.n - o) = x.n := Nat.min_eq_left (by omega)
        omega
      have hr := run_copy_row (P := P) w t t ty e g o (f.n - o) (f.c - o) a x.n x.c cur e xs ht hs hg hmin hc (by omega) h1
      rw [hcA, ha]
      refine ⟨(x.n : Int), _, by rw [hr, hxl]; rfl, h _ ⟨?_, .inr ⟨g, cap, _, by rw [hA, hC], hbg, setRow_heap w g cur _ e _ hg, hnc, hcm, ?_, ?_⟩⟩ ⟨rfl, rfl, rfl, by simp, fun k _ hk => setRow_other w g k _ (fun e => hk (by simp [Sl.blk, hA, e]))⟩ (by simp)⟩
      · simp only [List.length_append, List.length_take, List.length_drop]
        omega
      · simp only [List.size_toArray, List.length_append, List.length_take, List.length_drop, Array.length_toList]
        omega
      · have hF : cur.toList.take (f.n * 1) = F := htake
        rw [Nat.mul_one] at hF ⊢
        rw [← hF]
        apply List.ext_getElem?
        intro j
        simp only [List.getElem?_take, List.getElem?_append, List.length_append, List.length_take, Array.length_toList, List.getElem?_drop, hxl]
        have e1 : min o cur.size = o := by omega
        have e2 : min o (min f.n cur.size) = o := by omega
        simp only [e1, e2]
        by_cases q1 : j < o
        · have q2 : j < o + x.n := by omega
          have q3 : j < f.n := by omega
          simp only [if_pos q1, if_pos q2, if_pos q3]
        · by_cases q2 : j < o + x.n
          · have q3 : j < f.n := by omega
            simp only [if_neg q1, if_pos q2, if_pos q3]
          · by_cases q3 : j < f.n
            · have q4 : o + x.n + (j - (o + x.n)) < f.n := by omega
              simp only [if_neg q2, if_pos q3, if_pos q4]
            · have q4 : ¬ o + x.n + (j - (o + x.n)) < f.n := by omega
              simp only [if_neg q2, if_neg q3, if_neg q4]
end Go.Proofs.YtjfjanogfakclaaDoor.CF

-- printed by wip/cf/cfprint.py
namespace Go.Proofs.YtjfjanogfakclaaDoor
open Go CF
def cs : List Nat := [3, 4, 5, 6, 7, 8, 9, 10, 11, 12, 13, 14, 15, 16, 17, 18, 19, 20, 21, 22, 23, 24, 25, 26, 27, 28, 29, 30, 31, 32, 33, 34, 35, 36, 37, 38, 39, 40, 41, 42, 43, 44, 45, 46, 47, 48, 49, 50, 51, 52, 53, 54, 55, 56, 57, 58, 59, 60, 61, 62, 63, 64, 65, 66, 67, 68, 69, 70, 71, 72, 73, 74, 75, 76, 77, 78, 79, 80, 81, 83, 84, 85, 86, 87, 88, 89, 90, 91, 92, 94, 95, 96]
def okCalls (P : Program) : List Nat → Bool
  | [] => true
  | f :: r => (match P.funcs[f]? with | some fn => !(fn.name == "runtime.NumGoroutine") && !fn.body.isNone | none => false) && okCalls P r
theorem okCalls_ok {P : Program} : ∀ {l : List Nat}, okCalls P l = true → Callable P l
  | [], _, f, h => by cases h
  | g :: r, hok, f, h => by
    simp only [okCalls, Bool.and_eq_true] at hok
    simp only [memN, Bool.or_eq_true] at h
    rcases h with h | h
    · have e : g = f := Nat.eq_of_beq_eq_true h
      subst e
      have h1 := hok.1
      split at h1
      · rename_i fn hf
        simp only [Bool.and_eq_true, Bool.not_eq_true'] at h1
        exact ⟨fn, hf, h1.1, h1.2⟩
      · cases h1
    · exact okCalls_ok hok.2 f h
theorem callable : Callable Tryd.prog cs := okCalls_ok (by kernel_rfl)
theorem wide : Tryd.prog.follows .mixedOrders = true := by kernel_rfl
noncomputable def G : Gen := gen Tryd.prog cs
def s_t : ByteArray := ⟨#[116]⟩
def s_CHAPx5fA : ByteArray := ⟨#[67, 72, 65, 80, 95, 65]⟩
def s_CHAPx5fR : ByteArray := ⟨#[67, 72, 65, 80, 95, 82]⟩
def s_AuthMethod : ByteArray := ⟨#[65, 117, 116, 104, 77, 101, 116, 104, 111, 100]⟩
def s_Nonex2cCHAP : ByteArray := ⟨#[78, 111, 110, 101, 44, 67, 72, 65, 80]⟩
def s_7x2c5 : ByteArray := ⟨#[55, 44, 53]⟩
def s_CHAPx5fI : ByteArray := ⟨#[67, 72, 65, 80, 95, 73]⟩
def s_CHAPx5fC : ByteArray := ⟨#[67, 72, 65, 80, 95, 67]⟩
def s_CHAPx5fN : ByteArray := ⟨#[67, 72, 65, 80, 95, 78]⟩
def s_HeaderDigest : ByteArray := ⟨#[72, 101, 97, 100, 101, 114, 68, 105, 103, 101, 115, 116]⟩
def s_DataDigest : ByteArray := ⟨#[68, 97, 116, 97, 68, 105, 103, 101, 115, 116]⟩
def s_None : ByteArray := ⟨#[78, 111, 110, 101]⟩
def s_CRC32C : ByteArray := ⟨#[67, 82, 67, 51, 50, 67]⟩
def s_u : ByteArray := ⟨#[117]⟩
def s_s : ByteArray := ⟨#[115]⟩
def s_x : ByteArray := ⟨#[120]⟩
def s_y : ByteArray := ⟨#[121]⟩
def s_CHAP : ByteArray := ⟨#[67, 72, 65, 80]⟩
def s_5 : ByteArray := ⟨#[53]⟩
def s_InitiatorName : ByteArray := ⟨#[73, 110, 105, 116, 105, 97, 116, 111, 114, 78, 97, 109, 101]⟩
def s_TargetName : ByteArray := ⟨#[84, 97, 114, 103, 101, 116, 78, 97, 109, 101]⟩
def s_Discovery : ByteArray := ⟨#[68, 105, 115, 99, 111, 118, 101, 114, 121]⟩
def s_Normal : ByteArray := ⟨#[78, 111, 114, 109, 97, 108]⟩
def s_SessionType : ByteArray := ⟨#[83, 101, 115, 115, 105, 111, 110, 84, 121, 112, 101]⟩
def s_0123456789abcdef : ByteArray := ⟨#[48, 49, 50, 51, 52, 53, 54, 55, 56, 57, 97, 98, 99, 100, 101, 102]⟩
def s_0x : ByteArray := ⟨#[48, 120]⟩
def s_i : ByteArray := ⟨#[105]⟩
def s_Reject : ByteArray := ⟨#[82, 101, 106, 101, 99, 116]⟩
def s_0123456789ABCDEF : ByteArray := ⟨#[48, 49, 50, 51, 52, 53, 54, 55, 56, 57, 65, 66, 67, 68, 69, 70]⟩
def s_InitiatorAlias : ByteArray := ⟨#[73, 110, 105, 116, 105, 97, 116, 111, 114, 65, 108, 105, 97, 115]⟩
def s_NotUnderstood : ByteArray := ⟨#[78, 111, 116, 85, 110, 100, 101, 114, 115, 116, 111, 111, 100]⟩
def s_MaxRecvDataSegmentLength : ByteArray := ⟨#[77, 97, 120, 82, 101, 99, 118, 68, 97, 116, 97, 83, 101, 103, 109, 101, 110, 116, 76, 101, 110, 103, 116, 104]⟩
def s_MaxBurstLength : ByteArray := ⟨#[77, 97, 120, 66, 117, 114, 115, 116, 76, 101, 110, 103, 116, 104]⟩
def s_FirstBurstLength : ByteArray := ⟨#[70, 105, 114, 115, 116, 66, 117, 114, 115, 116, 76, 101, 110, 103, 116, 104]⟩
def s_InitialR2T : ByteArray := ⟨#[73, 110, 105, 116, 105, 97, 108, 82, 50, 84]⟩
def s_Yes : ByteArray := ⟨#[89, 101, 115]⟩
def s_ImmediateData : ByteArray := ⟨#[73, 109, 109, 101, 100, 105, 97, 116, 101, 68, 97, 116, 97]⟩
def s_MaxOutstandingR2T : ByteArray := ⟨#[77, 97, 120, 79, 117, 116, 115, 116, 97, 110, 100, 105, 110, 103, 82, 50, 84]⟩
def s_ErrorRecoveryLevel : ByteArray := ⟨#[69, 114, 114, 111, 114, 82, 101, 99, 111, 118, 101, 114, 121, 76, 101, 118, 101, 108]⟩
def s_DataPDUInOrder : ByteArray := ⟨#[68, 97, 116, 97, 80, 68, 85, 73, 110, 79, 114, 100, 101, 114]⟩
def s_DataSequenceInOrder : ByteArray := ⟨#[68, 97, 116, 97, 83, 101, 113, 117, 101, 110, 99, 101, 73, 110, 79, 114, 100, 101, 114]⟩
def s_MaxConnections : ByteArray := ⟨#[77, 97, 120, 67, 111, 110, 110, 101, 99, 116, 105, 111, 110, 115]⟩
def s_0X : ByteArray := ⟨#[48, 88]⟩
def s_No : ByteArray := ⟨#[78, 111]⟩
def s_0123456789abcdefghijklmnopqrstuv : ByteArray := ⟨#[48, 49, 50, 51, 52, 53, 54, 55, 56, 57, 97, 98, 99, 100, 101, 102, 103, 104, 105, 106, 107, 108, 109, 110, 111, 112, 113, 114, 115, 116, 117, 118, 119, 120, 121, 122]⟩
def s_00010203040506070809101112131415 : ByteArray := ⟨#[48, 48, 48, 49, 48, 50, 48, 51, 48, 52, 48, 53, 48, 54, 48, 55, 48, 56, 48, 57, 49, 48, 49, 49, 49, 50, 49, 51, 49, 52, 49, 53, 49, 54, 49, 55, 49, 56, 49, 57, 50, 48, 50, 49, 50, 50, 50, 51, 50, 52, 50, 53, 50, 54, 50, 55, 50, 56, 50, 57, 51, 48, 51, 49, 51, 50, 51, 51, 51, 52, 51, 53, 51, 54, 51, 55, 51, 56, 51, 57, 52, 48, 52, 49, 52, 50, 52, 51, 52, 52, 52, 53, 52, 54, 52, 55, 52, 56, 52, 57, 53, 48, 53, 49, 53, 50, 53, 51, 53, 52, 53, 53, 53, 54, 53, 55, 53, 56, 53, 57, 54, 48, 54, 49, 54, 50, 54, 51, 54, 52, 54, 53, 54, 54, 54, 55, 54, 56, 54, 57, 55, 48, 55, 49, 55, 50, 55, 51, 55, 52, 55, 53, 55, 54, 55, 55, 55, 56, 55, 57, 56, 48, 56, 49, 56, 50, 56, 51, 56, 52, 56, 53, 56, 54, 56, 55, 56, 56, 56, 57, 57, 48, 57, 49, 57, 50, 57, 51, 57, 52, 57, 53, 57, 54, 57, 55, 57, 56, 57, 57]⟩
def s_strconvx3ax20illegalx20AppendInt : ByteArray := ⟨#[115, 116, 114, 99, 111, 110, 118, 58, 32, 105, 108, 108, 101, 103, 97, 108, 32, 65, 112, 112, 101, 110, 100, 73, 110, 116, 47, 70, 111, 114, 109, 97, 116, 73, 110, 116, 32, 98, 97, 115, 101]⟩
def s_ParseUint : ByteArray := ⟨#[80, 97, 114, 115, 101, 85, 105, 110, 116]⟩
def s_x00x01x02x02x03x03x03x03x04x04x0 : ByteArray := ⟨#[0, 1, 2, 2, 3, 3, 3, 3, 4, 4, 4, 4, 4, 4, 4, 4, 5, 5, 5, 5, 5, 5, 5, 5, 5, 5, 5, 5, 5, 5, 5, 5, 6, 6, 6, 6, 6, 6, 6, 6, 6, 6, 6, 6, 6, 6, 6, 6, 6, 6, 6, 6, 6, 6, 6, 6, 6, 6, 6, 6, 6, 6, 6, 6, 7, 7, 7, 7, 7, 7, 7, 7, 7, 7, 7, 7, 7, 7, 7, 7, 7, 7, 7, 7, 7, 7, 7, 7, 7, 7, 7, 7, 7, 7, 7, 7, 7, 7, 7, 7, 7, 7, 7, 7, 7, 7, 7, 7, 7, 7, 7, 7, 7, 7, 7, 7, 7, 7, 7, 7, 7, 7, 7, 7, 7, 7, 7, 7, 8, 8, 8, 8, 8, 8, 8, 8, 8, 8, 8, 8, 8, 8, 8, 8, 8, 8, 8, 8, 8, 8, 8, 8, 8, 8, 8, 8, 8, 8, 8, 8, 8, 8, 8, 8, 8, 8, 8, 8, 8, 8, 8, 8, 8, 8, 8, 8, 8, 8, 8, 8, 8, 8, 8, 8, 8, 8, 8, 8, 8, 8, 8, 8, 8, 8, 8, 8, 8, 8, 8, 8, 8, 8, 8, 8, 8, 8, 8, 8, 8, 8, 8, 8, 8, 8, 8, 8, 8, 8, 8, 8, 8, 8, 8, 8, 8, 8, 8, 8, 8, 8, 8, 8, 8, 8, 8, 8, 8, 8, 8, 8, 8, 8, 8, 8, 8, 8, 8, 8, 8, 8, 8, 8, 8, 8, 8, 8]⟩
def s_invalidx20basex20 : ByteArray := ⟨#[105, 110, 118, 97, 108, 105, 100, 32, 98, 97, 115, 101, 32]⟩
def s_invalidx20bitx20sizex20 : ByteArray := ⟨#[105, 110, 118, 97, 108, 105, 100, 32, 98, 105, 116, 32, 115, 105, 122, 101, 32]⟩
def Cpalletlaw20_LoginGuards (p0 : Sl) (p1 : Int) (p2 : Sl) (p3 : Sl) (w : World) (R : Bool → World → Prop) : Prop := CallK Tryd.prog 3 #[.slice p0.A p0.n p0.c, .int .u8 p1, .slice p2.A p2.n p2.c, .slice p3.A p3.n p3.c] w [.b] R
def Cpalletlaw20_LoginProves (p0 : ByteArray) (p1 : ByteArray) (p2 : ByteArray) (p3 : Int) (p4 : Sl) (p5 : Bool) (w : World) (R : Bool → World → Prop) : Prop := CallK Tryd.prog 4 #[.string p0, .string p1, .string p2, .int .u8 p3, .slice p4.A p4.n p4.c, .bool p5] w [.b] R
def Cpalletlaw20_LoginSums (p0 : ByteArray) (p1 : ByteArray) (p2 : Bool) (w : World) (R : Bool → World → Prop) : Prop := CallK Tryd.prog 5 #[.string p0, .string p1, .bool p2] w [.b] R
def Cpalletlaw20_LoginNil (p0 : Array Value) (p1 : Sl) (w : World) (R : Bool → World → Prop) : Prop := CallK Tryd.prog 6 #[.agg p0, .slice p1.A p1.n p1.c] w [.b] R
def Cpalletlaw20_LoginNames (p0 : ByteArray) (p1 : ByteArray) (p2 : ByteArray) (p3 : Bool) (p4 : Sl) (w : World) (R : Bool → World → Prop) : Prop := CallK Tryd.prog 7 #[.string p0, .string p1, .string p2, .bool p3, .slice p4.A p4.n p4.c] w [.b] R
def Cpalletlaw20_awake (w : World) (R : Bool → World → Prop) : Prop := CallK Tryd.prog 8 #[] w [.b] R
def Clogin_New (p0 : Array Value) (p1 : Int) (p2 : Sl) (w : World) (R : (Option Addr) → World → Prop) : Prop := CallK Tryd.prog 9 #[.agg p0, .int .u8 p1, .slice p2.A p2.n p2.c] w [.p] R
def Cpalletref19_Unhex (p0 : ByteArray) (w : World) (R : Sl → Int → World → Prop) : Prop := CallK Tryd.prog 10 #[.string p0] w [.sl, .i .i64] R
def Cpalletref19_Hex (p0 : Sl) (w : World) (R : ByteArray → World → Prop) : Prop := CallK Tryd.prog 11 #[.slice p0.A p0.n p0.c] w [.s] R
def Cpalletref19_Answer (p0 : Int) (p1 : ByteArray) (p2 : Sl) (w : World) (R : ByteArray → World → Prop) : Prop := CallK Tryd.prog 12 #[.int .u8 p0, .string p1, .slice p2.A p2.n p2.c] w [.s] R
def Clogin_Login_Step (p0 : Option Addr) (p1 : Array Value) (w : World) (R : (Array Value) → Int → World → Prop) : Prop := CallK Tryd.prog 13 #[.pointer p0, .agg p1] w [.ag, .i .i64] R
def Clogin_Login_Done (p0 : Option Addr) (w : World) (R : Bool → World → Prop) : Prop := CallK Tryd.prog 14 #[.pointer p0] w [.b] R
def Cpalletlaw20_hello (p0 : Sl) (w : World) (R : Sl → World → Prop) : Prop := CallK Tryd.prog 15 #[.slice p0.A p0.n p0.c] w [.sl] R
def Cpalletref18_Find (p0 : Sl) (p1 : ByteArray) (w : World) (R : ByteArray → Bool → World → Prop) : Prop := CallK Tryd.prog 16 #[.slice p0.A p0.n p0.c, .string p1] w [.s, .b] R
def Cpalletref18_Number (p0 : ByteArray) (w : World) (R : Int → Bool → World → Prop) : Prop := CallK Tryd.prog 17 #[.string p0] w [.i .u64, .b] R
def Clogin_Login_Over (p0 : Option Addr) (w : World) (R : Bool → World → Prop) : Prop := CallK Tryd.prog 18 #[.pointer p0] w [.b] R
def Cpalletref18_First (p0 : ByteArray) (p1 : Sl) (w : World) (R : ByteArray → World → Prop) : Prop := CallK Tryd.prog 19 #[.string p0, .slice p1.A p1.n p1.c] w [.s] R
def Clogin_Login_Params (p0 : Option Addr) (w : World) (R : (Array Value) → World → Prop) : Prop := CallK Tryd.prog 20 #[.pointer p0] w [.ag] R
def Cslices_Clone_string_string (p0 : Sl) (w : World) (R : Sl → World → Prop) : Prop := CallK Tryd.prog 21 #[.slice p0.A p0.n p0.c] w [.sl] R
def Cslices_Clone_login_User_login_User (p0 : Sl) (w : World) (R : Sl → World → Prop) : Prop := CallK Tryd.prog 22 #[.slice p0.A p0.n p0.c] w [.sl] R
def Cpalletref19_value (p0 : Int) (w : World) (R : Int → World → Prop) : Prop := CallK Tryd.prog 23 #[.int .u8 p0] w [.i .i64] R
def Cpalletref19_Sum (p0 : Sl) (w : World) (R : Sl → World → Prop) : Prop := CallK Tryd.prog 24 #[.slice p0.A p0.n p0.c] w [.sl] R
def Clogin_Login_fail (p0 : Option Addr) (p1 : Int) (w : World) (R : (Array Value) → Int → World → Prop) : Prop := CallK Tryd.prog 25 #[.pointer p0, .int .u8 p1] w [.ag, .i .i64] R
def Clogin_Login_first (p0 : Option Addr) (p1 : Sl) (w : World) (R : Int → World → Prop) : Prop := CallK Tryd.prog 26 #[.pointer p0, .slice p1.A p1.n p1.c] w [.i .u8] R
def Clogin_Login_key (p0 : Option Addr) (p1 : Array Value) (p2 : Sl) (w : World) (R : Sl → Bool → World → Prop) : Prop := CallK Tryd.prog 27 #[.pointer p0, .agg p1, .slice p2.A p2.n p2.c] w [.sl, .b] R
def Cpalletref19_constants (w : World) (R : Sl → World → Prop) : Prop := CallK Tryd.prog 28 #[] w [.sl] R
def Cpalletref19_left (p0 : Int) (p1 : Int) (w : World) (R : Int → World → Prop) : Prop := CallK Tryd.prog 29 #[.int .u32 p0, .int .i64 p1] w [.i .u32] R
def Ctext_Find (p0 : Sl) (p1 : ByteArray) (w : World) (R : ByteArray → Bool → World → Prop) : Prop := CallK Tryd.prog 30 #[.slice p0.A p0.n p0.c, .string p1] w [.s, .b] R
def Cslices_Contains_string_string (p0 : Sl) (p1 : ByteArray) (w : World) (R : Bool → World → Prop) : Prop := CallK Tryd.prog 31 #[.slice p0.A p0.n p0.c, .string p1] w [.b] R
def Ctext_First (p0 : ByteArray) (p1 : Sl) (w : World) (R : ByteArray → World → Prop) : Prop := CallK Tryd.prog 32 #[.string p0, .slice p1.A p1.n p1.c] w [.s] R
def Clogin_one (p0 : ByteArray) (p1 : ByteArray) (w : World) (R : Sl → World → Prop) : Prop := CallK Tryd.prog 33 #[.string p0, .string p1] w [.sl] R
def Cstrconv_Itoa (p0 : Int) (w : World) (R : ByteArray → World → Prop) : Prop := CallK Tryd.prog 34 #[.int .i64 p0] w [.s] R
def Cchap_Hex (p0 : Sl) (w : World) (R : ByteArray → World → Prop) : Prop := CallK Tryd.prog 35 #[.slice p0.A p0.n p0.c] w [.s] R
def Cchap_Right (p0 : Int) (p1 : ByteArray) (p2 : Sl) (p3 : ByteArray) (w : World) (R : Bool → World → Prop) : Prop := CallK Tryd.prog 36 #[.int .u8 p0, .string p1, .slice p2.A p2.n p2.c, .string p3] w [.b] R
def Clogin_Login_operational (p0 : Option Addr) (p1 : Array Value) (w : World) (R : ByteArray → World → Prop) : Prop := CallK Tryd.prog 37 #[.pointer p0, .agg p1] w [.s] R
def Clogin_Login_told (p0 : Option Addr) (p1 : Array Value) (w : World) (R : Int → World → Prop) : Prop := CallK Tryd.prog 38 #[.pointer p0, .agg p1] w [.i .i64] R
def Cslices_Index_string_string (p0 : Sl) (p1 : ByteArray) (w : World) (R : Int → World → Prop) : Prop := CallK Tryd.prog 39 #[.slice p0.A p0.n p0.c, .string p1] w [.i .i64] R
def Cstrings_SplitSeq (p0 : ByteArray) (p1 : ByteArray) (w : World) (R : Value → World → Prop) : Prop := CallK Tryd.prog 40 #[.string p0, .string p1] w [.v] R
def Cinternal_strconv_Itoa (p0 : Int) (w : World) (R : ByteArray → World → Prop) : Prop := CallK Tryd.prog 41 #[.int .i64 p0] w [.s] R
def Cchap_Unhex (p0 : ByteArray) (w : World) (R : Sl → Int → World → Prop) : Prop := CallK Tryd.prog 42 #[.string p0] w [.sl, .i .i64] R
def Cchap_Answer (p0 : Int) (p1 : ByteArray) (p2 : Sl) (w : World) (R : ByteArray → World → Prop) : Prop := CallK Tryd.prog 43 #[.int .u8 p0, .string p1, .slice p2.A p2.n p2.c] w [.s] R
def Ctext_Number (p0 : ByteArray) (w : World) (R : Int → Bool → World → Prop) : Prop := CallK Tryd.prog 44 #[.string p0] w [.i .u64, .b] R
def Ctext_Least (p0 : ByteArray) (p1 : Int) (p2 : Int) (p3 : Int) (w : World) (R : ByteArray → World → Prop) : Prop := CallK Tryd.prog 45 #[.string p0, .int .u64 p1, .int .u64 p2, .int .u64 p3] w [.s] R
def Clogin_size (p0 : ByteArray) (p1 : Int) (w : World) (R : Int → World → Prop) : Prop := CallK Tryd.prog 46 #[.string p0, .int .i64 p1] w [.i .i64] R
def Ctext_Either (p0 : ByteArray) (p1 : Bool) (w : World) (R : ByteArray → World → Prop) : Prop := CallK Tryd.prog 47 #[.string p0, .bool p1] w [.s] R
def Ctext_Both (p0 : ByteArray) (p1 : Bool) (w : World) (R : ByteArray → World → Prop) : Prop := CallK Tryd.prog 48 #[.string p0, .bool p1] w [.s] R
def Cstrings_splitSeq (p0 : ByteArray) (p1 : ByteArray) (p2 : Int) (w : World) (R : Value → World → Prop) : Prop := CallK Tryd.prog 49 #[.string p0, .string p1, .int .i64 p2] w [.v] R
def Cinternal_strconv_FormatInt (p0 : Int) (p1 : Int) (w : World) (R : ByteArray → World → Prop) : Prop := CallK Tryd.prog 50 #[.int .i64 p0, .int .i64 p1] w [.s] R
def Cchap_digit (p0 : Int) (w : World) (R : Int → World → Prop) : Prop := CallK Tryd.prog 51 #[.int .u8 p0] w [.i .i64] R
def Cchap_Sum (p0 : Sl) (w : World) (R : (Array Value) → World → Prop) : Prop := CallK Tryd.prog 52 #[.slice p0.A p0.n p0.c] w [.ag] R
def Cstrings_CutPrefix (p0 : ByteArray) (p1 : ByteArray) (w : World) (R : ByteArray → Bool → World → Prop) : Prop := CallK Tryd.prog 53 #[.string p0, .string p1] w [.s, .b] R
def Ctext_parsed (p0 : ByteArray) (p1 : Int) (w : World) (R : Int → Bool → World → Prop) : Prop := CallK Tryd.prog 54 #[.string p0, .int .i64 p1] w [.i .u64, .b] R
def Cstrconv_FormatUint (p0 : Int) (p1 : Int) (w : World) (R : ByteArray → World → Prop) : Prop := CallK Tryd.prog 55 #[.int .u64 p0, .int .i64 p1] w [.s] R
def Ctext_yes (p0 : ByteArray) (p1 : Bool) (w : World) (R : ByteArray → World → Prop) : Prop := CallK Tryd.prog 56 #[.string p0, .bool p1] w [.s] R
def Cstrings_splitSeq_1 (p0 : Value) (p1 : Addr) (p2 : Addr) (p3 : Addr) (w : World) (R : World → Prop) : Prop := CallK Tryd.prog 57 #[p0, .pointer (some p1), .pointer (some p2), .pointer (some p3)] w [] R
def Cunicode_utf8_DecodeRuneInString (p0 : ByteArray) (w : World) (R : Int → Int → World → Prop) : Prop := CallK Tryd.prog 58 #[.string p0] w [.i .i32, .i .i64] R
def Cstrings_Index (p0 : ByteArray) (p1 : ByteArray) (w : World) (R : Int → World → Prop) : Prop := CallK Tryd.prog 59 #[.string p0, .string p1] w [.i .i64] R
def Cinternal_strconv_small (p0 : Int) (w : World) (R : ByteArray → World → Prop) : Prop := CallK Tryd.prog 60 #[.int .i64 p0] w [.s] R
def Cinternal_strconv_numDigits (p0 : Int) (w : World) (R : Int → World → Prop) : Prop := CallK Tryd.prog 61 #[.int .u64 p0] w [.i .i64] R
def Cinternal_strconv_formatBase10 (p0 : Sl) (p1 : Int) (w : World) (R : World → Prop) : Prop := CallK Tryd.prog 62 #[.slice p0.A p0.n p0.c, .int .u64 p1] w [] R
def Cinternal_strconv_formatBits (p0 : Sl) (p1 : Int) (p2 : Int) (p3 : Bool) (p4 : Bool) (w : World) (R : Sl → ByteArray → World → Prop) : Prop := CallK Tryd.prog 63 #[.slice p0.A p0.n p0.c, .int .u64 p1, .int .i64 p2, .bool p3, .bool p4] w [.sl, .s] R
def Cchap_turn (p0 : Array Value) (p1 : Sl) (w : World) (R : (Array Value) → World → Prop) : Prop := CallK Tryd.prog 64 #[.agg p0, .slice p1.A p1.n p1.c] w [.ag] R
def Cinternal_stringslite_CutPrefix (p0 : ByteArray) (p1 : ByteArray) (w : World) (R : ByteArray → Bool → World → Prop) : Prop := CallK Tryd.prog 65 #[.string p0, .string p1] w [.s, .b] R
def Cstrconv_ParseUint (p0 : ByteArray) (p1 : Int) (p2 : Int) (w : World) (R : Int → Value → World → Prop) : Prop := CallK Tryd.prog 66 #[.string p0, .int .i64 p1, .int .i64 p2] w [.i .u64, .v] R
def Cinternal_strconv_FormatUint (p0 : Int) (p1 : Int) (w : World) (R : ByteArray → World → Prop) : Prop := CallK Tryd.prog 67 #[.int .u64 p0, .int .i64 p1] w [.s] R
def Cunicode_utf8_decodeRuneInStringSlow (p0 : ByteArray) (w : World) (R : Int → Int → World → Prop) : Prop := CallK Tryd.prog 68 #[.string p0] w [.i .i32, .i .i64] R
def Cinternal_stringslite_Index (p0 : ByteArray) (p1 : ByteArray) (w : World) (R : Int → World → Prop) : Prop := CallK Tryd.prog 69 #[.string p0, .string p1] w [.i .i64] R
def Cinternal_strconv_log10Pow2 (p0 : Int) (w : World) (R : Int → World → Prop) : Prop := CallK Tryd.prog 70 #[.int .i64 p0] w [.i .i64] R
def Cmath_bits_Len64 (p0 : Int) (w : World) (R : Int → World → Prop) : Prop := CallK Tryd.prog 71 #[.int .u64 p0] w [.i .i64] R
def Cinternal_strconv_bool2_int (p0 : Bool) (w : World) (R : Int → World → Prop) : Prop := CallK Tryd.prog 72 #[.bool p0] w [.i .i64] R
def Cinternal_strconv_isPowerOfTwo (p0 : Int) (w : World) (R : Bool → World → Prop) : Prop := CallK Tryd.prog 73 #[.int .i64 p0] w [.b] R
def Cmath_bits_TrailingZeros (p0 : Int) (w : World) (R : Int → World → Prop) : Prop := CallK Tryd.prog 74 #[.int .u64 p0] w [.i .i64] R
def Cmath_bits_RotateLeft32 (p0 : Int) (p1 : Int) (w : World) (R : Int → World → Prop) : Prop := CallK Tryd.prog 75 #[.int .u32 p0, .int .i64 p1] w [.i .u32] R
def Cchap_word (p0 : Int) (w : World) (R : Int → World → Prop) : Prop := CallK Tryd.prog 76 #[.int .i64 p0] w [.i .u32] R
def Cchap_shift (p0 : Int) (w : World) (R : Int → World → Prop) : Prop := CallK Tryd.prog 77 #[.int .i64 p0] w [.i .i64] R
def Cinternal_stringslite_HasPrefix (p0 : ByteArray) (p1 : ByteArray) (w : World) (R : Bool → World → Prop) : Prop := CallK Tryd.prog 78 #[.string p0, .string p1] w [.b] R
def Cinternal_strconv_ParseUint (p0 : ByteArray) (p1 : Int) (p2 : Int) (w : World) (R : Int → Value → World → Prop) : Prop := CallK Tryd.prog 79 #[.string p0, .int .i64 p1, .int .i64 p2] w [.i .u64, .v] R
def Cstrconv_toError (p0 : ByteArray) (p1 : ByteArray) (p2 : Int) (p3 : Int) (p4 : Value) (w : World) (R : Value → World → Prop) : Prop := CallK Tryd.prog 80 #[.string p0, .string p1, .int .i64 p2, .int .i64 p3, p4] w [.v] R
def Cinternal_stringslite_IndexByte (p0 : ByteArray) (p1 : Int) (w : World) (R : Int → World → Prop) : Prop := CallK Tryd.prog 81 #[.string p0, .int .u8 p1] w [.i .i64] R
def Cinternal_bytealg_Cutover (p0 : Int) (w : World) (R : Int → World → Prop) : Prop := CallK Tryd.prog 83 #[.int .i64 p0] w [.i .i64] R
def Cinternal_bytealg_IndexRabinKarp_string (p0 : ByteArray) (p1 : ByteArray) (w : World) (R : Int → World → Prop) : Prop := CallK Tryd.prog 84 #[.string p0, .string p1] w [.i .i64] R
def Cmath_bits_TrailingZeros32 (p0 : Int) (w : World) (R : Int → World → Prop) : Prop := CallK Tryd.prog 85 #[.int .u32 p0] w [.i .i64] R
def Cmath_bits_TrailingZeros64 (p0 : Int) (w : World) (R : Int → World → Prop) : Prop := CallK Tryd.prog 86 #[.int .u64 p0] w [.i .i64] R
def Cinternal_strconv_lower (p0 : Int) (w : World) (R : Int → World → Prop) : Prop := CallK Tryd.prog 87 #[.int .u8 p0] w [.i .u8] R
def Cinternal_strconv_underscoreOK (p0 : ByteArray) (w : World) (R : Bool → World → Prop) : Prop := CallK Tryd.prog 88 #[.string p0] w [.b] R
def Cstrconv_syntaxError (p0 : ByteArray) (p1 : ByteArray) (w : World) (R : (Option Addr) → World → Prop) : Prop := CallK Tryd.prog 89 #[.string p0, .string p1] w [.p] R
def Cstrconv_rangeError (p0 : ByteArray) (p1 : ByteArray) (w : World) (R : (Option Addr) → World → Prop) : Prop := CallK Tryd.prog 90 #[.string p0, .string p1] w [.p] R
def Cstrconv_baseError (p0 : ByteArray) (p1 : ByteArray) (p2 : Int) (w : World) (R : (Option Addr) → World → Prop) : Prop := CallK Tryd.prog 91 #[.string p0, .string p1, .int .i64 p2] w [.p] R
def Cstrconv_bitSizeError (p0 : ByteArray) (p1 : ByteArray) (p2 : Int) (w : World) (R : (Option Addr) → World → Prop) : Prop := CallK Tryd.prog 92 #[.string p0, .string p1, .int .i64 p2] w [.p] R
def Cinternal_bytealg_hashStr_string (p0 : ByteArray) (w : World) (R : Int → Int → World → Prop) : Prop := CallK Tryd.prog 94 #[.string p0] w [.i .u32, .i .u32] R
def Cinternal_stringslite_Clone (p0 : ByteArray) (w : World) (R : ByteArray → World → Prop) : Prop := CallK Tryd.prog 95 #[.string p0] w [.s] R
def Cerrors_New (p0 : ByteArray) (w : World) (R : Value → World → Prop) : Prop := CallK Tryd.prog 96 #[.string p0] w [.v] R
abbrev t_int64 : TypeId := 2
theorem u_int64 : Tryd.prog.underlying 2 = some (.int .i64) := by kernel_rfl
theorem i_int64 : (Tryd.prog.info? 2).map (fun i => (i.zero, i.size, i.bytes)) = some (some (.int .i64 0), 1, 8) := by kernel_rfl
abbrev t_int : TypeId := 3
theorem u_int : Tryd.prog.underlying 3 = some (.int .i64) := by kernel_rfl
theorem i_int : (Tryd.prog.info? 3).map (fun i => (i.zero, i.size, i.bytes)) = some (some (.int .i64 0), 1, 8) := by kernel_rfl
abbrev t_bool : TypeId := 4
theorem u_bool : Tryd.prog.underlying 4 = some .bool := by kernel_rfl
theorem i_bool : (Tryd.prog.info? 4).map (fun i => (i.zero, i.size, i.bytes)) = some (some (.bool false), 1, 1) := by kernel_rfl
abbrev t_uint8 : TypeId := 5
theorem u_uint8 : Tryd.prog.underlying 5 = some (.int .u8) := by kernel_rfl
theorem i_uint8 : (Tryd.prog.info? 5).map (fun i => (i.zero, i.size, i.bytes)) = some (some (.int .u8 0), 1, 1) := by kernel_rfl
abbrev t_string : TypeId := 9
theorem u_string : Tryd.prog.underlying 9 = some .string := by kernel_rfl
theorem i_string : (Tryd.prog.info? 9).map (fun i => (i.zero, i.size, i.bytes)) = some (some (.string ⟨#[]⟩), 1, 16) := by kernel_rfl
abbrev t_interface : TypeId := 20
abbrev t_int32 : TypeId := 21
theorem u_int32 : Tryd.prog.underlying 21 = some (.int .i32) := by kernel_rfl
theorem i_int32 : (Tryd.prog.info? 21).map (fun i => (i.zero, i.size, i.bytes)) = some (some (.int .i32 0), 1, 4) := by kernel_rfl
abbrev t_sl_login_User : TypeId := 22
theorem u_sl_login_User : Tryd.prog.underlying 22 = some (.slice 41) := by kernel_rfl
theorem i_sl_login_User : (Tryd.prog.info? 22).map (fun i => (i.zero, i.size, i.bytes)) = some (some (.slice none 0 0), 1, 24) := by kernel_rfl
abbrev t_sl_uint8 : TypeId := 23
theorem u_sl_uint8 : Tryd.prog.underlying 23 = some (.slice 5) := by kernel_rfl
theorem i_sl_uint8 : (Tryd.prog.info? 23).map (fun i => (i.zero, i.size, i.bytes)) = some (some (.slice none 0 0), 1, 24) := by kernel_rfl
abbrev t_sl_login_Request : TypeId := 24
theorem u_sl_login_Request : Tryd.prog.underlying 24 = some (.slice 33) := by kernel_rfl
theorem i_sl_login_Request : (Tryd.prog.info? 24).map (fun i => (i.zero, i.size, i.bytes)) = some (some (.slice none 0 0), 1, 24) := by kernel_rfl
abbrev t_p_login_Login : TypeId := 26
theorem i_p_login_Login : (Tryd.prog.info? 26).map (fun i => (i.zero, i.size, i.bytes)) = some (some (.pointer none), 1, 8) := by kernel_rfl
abbrev t_sl_string : TypeId := 28
theorem u_sl_string : Tryd.prog.underlying 28 = some (.slice 9) := by kernel_rfl
theorem i_sl_string : (Tryd.prog.info? 28).map (fun i => (i.zero, i.size, i.bytes)) = some (some (.slice none 0 0), 1, 24) := by kernel_rfl
abbrev t_login_Config : TypeId := 30
theorem i_login_Config : (Tryd.prog.info? 30).map (fun i => (i.zero, i.size, i.bytes)) = some (some (.agg #[.slice none 0 0, .slice none 0 0, .bool false]), 3, 56) := by kernel_rfl
theorem g_login_Config : (Tryd.prog.underlying 30).map kdOf = some .ag := by kernel_rfl
abbrev t_sl_api_Pair : TypeId := 31
theorem u_sl_api_Pair : Tryd.prog.underlying 31 = some (.slice 35) := by kernel_rfl
theorem i_sl_api_Pair : (Tryd.prog.info? 31).map (fun i => (i.zero, i.size, i.bytes)) = some (some (.slice none 0 0), 1, 24) := by kernel_rfl
abbrev t_login_Request : TypeId := 33
theorem i_login_Request : (Tryd.prog.info? 33).map (fun i => (i.zero, i.size, i.bytes)) = some (some (.agg #[.int .u8 0, .int .u8 0, .bool false, .slice none 0 0]), 4, 32) := by kernel_rfl
theorem g_login_Request : (Tryd.prog.underlying 33).map kdOf = some .ag := by kernel_rfl
abbrev t_api_Pair : TypeId := 35
theorem i_api_Pair : (Tryd.prog.info? 35).map (fun i => (i.zero, i.size, i.bytes)) = some (some (.agg #[.string ⟨#[]⟩, .string ⟨#[]⟩]), 2, 32) := by kernel_rfl
theorem g_api_Pair : (Tryd.prog.underlying 35).map kdOf = some .ag := by kernel_rfl
abbrev t_login_User : TypeId := 41
theorem i_login_User : (Tryd.prog.info? 41).map (fun i => (i.zero, i.size, i.bytes)) = some (some (.agg #[.string ⟨#[]⟩, .string ⟨#[]⟩]), 2, 32) := by kernel_rfl
theorem g_login_User : (Tryd.prog.underlying 41).map kdOf = some .ag := by kernel_rfl
abbrev t_login_Answer : TypeId := 43
theorem i_login_Answer : (Tryd.prog.info? 43).map (fun i => (i.zero, i.size, i.bytes)) = some (some (.agg #[.int .u8 0, .int .u8 0, .int .u8 0, .int .u8 0, .bool false, .slice none 0 0]), 6, 32) := by kernel_rfl
theorem g_login_Answer : (Tryd.prog.underlying 43).map kdOf = some .ag := by kernel_rfl
abbrev t_api_Errno : TypeId := 44
theorem u_api_Errno : Tryd.prog.underlying 44 = some (.int .i64) := by kernel_rfl
theorem i_api_Errno : (Tryd.prog.info? 44).map (fun i => (i.zero, i.size, i.bytes)) = some (some (.int .i64 0), 1, 8) := by kernel_rfl
abbrev t_uint64 : TypeId := 51
theorem u_uint64 : Tryd.prog.underlying 51 = some (.int .u64) := by kernel_rfl
theorem i_uint64 : (Tryd.prog.info? 51).map (fun i => (i.zero, i.size, i.bytes)) = some (some (.int .u64 0), 1, 8) := by kernel_rfl
abbrev t_login_Params : TypeId := 57
theorem i_login_Params : (Tryd.prog.info? 57).map (fun i => (i.zero, i.size, i.bytes)) = some (some (.agg #[.string ⟨#[]⟩, .string ⟨#[]⟩, .bool false, .bool false, .bool false, .int .i64 0, .int .i64 0, .int .i64 0, .bool false, .bool false]), 10, 72) := by kernel_rfl
theorem g_login_Params : (Tryd.prog.underlying 57).map kdOf = some .ag := by kernel_rfl
abbrev t_login_Login : TypeId := 65
theorem i_login_Login : (Tryd.prog.info? 65).map (fun i => (i.zero, i.size, i.bytes)) = some (some (.agg #[.slice none 0 0, .slice none 0 0, .bool false, .int .u8 0, .slice none 0 0, .bool false, .int .u8 0, .string ⟨#[]⟩, .bool false, .bool false, .bool false, .bool false, .string ⟨#[]⟩, .string ⟨#[]⟩, .bool false, .bool false, .bool false, .int .i64 0, .int .i64 0, .int .i64 0, .bool false, .bool false]), 22, 192) := by kernel_rfl
theorem g_login_Login : (Tryd.prog.underlying 65).map kdOf = some .ag := by kernel_rfl
abbrev t_uint32 : TypeId := 72
theorem u_uint32 : Tryd.prog.underlying 72 = some (.int .u32) := by kernel_rfl
theorem i_uint32 : (Tryd.prog.info? 72).map (fun i => (i.zero, i.size, i.bytes)) = some (some (.int .u32 0), 1, 4) := by kernel_rfl
abbrev t_sl_uint32 : TypeId := 73
theorem u_sl_uint32 : Tryd.prog.underlying 73 = some (.slice 72) := by kernel_rfl
theorem i_sl_uint32 : (Tryd.prog.info? 73).map (fun i => (i.zero, i.size, i.bytes)) = some (some (.slice none 0 0), 1, 24) := by kernel_rfl
abbrev t_sl_int : TypeId := 74
theorem u_sl_int : Tryd.prog.underlying 74 = some (.slice 3) := by kernel_rfl
theorem i_sl_int : (Tryd.prog.info? 74).map (fun i => (i.zero, i.size, i.bytes)) = some (some (.slice none 0 0), 1, 24) := by kernel_rfl
abbrev t_uint : TypeId := 87
theorem u_uint : Tryd.prog.underlying 87 = some (.int .u64) := by kernel_rfl
theorem i_uint : (Tryd.prog.info? 87).map (fun i => (i.zero, i.size, i.bytes)) = some (some (.int .u64 0), 1, 8) := by kernel_rfl
abbrev t_16_uint8 : TypeId := 95
theorem i_16_uint8 : (Tryd.prog.info? 95).map (fun i => (i.zero, i.size, i.bytes)) = some (some (.agg #[.int .u8 0, .int .u8 0, .int .u8 0, .int .u8 0, .int .u8 0, .int .u8 0, .int .u8 0, .int .u8 0, .int .u8 0, .int .u8 0, .int .u8 0, .int .u8 0, .int .u8 0, .int .u8 0, .int .u8 0, .int .u8 0]), 16, 16) := by kernel_rfl
theorem g_16_uint8 : (Tryd.prog.underlying 95).map kdOf = some .ag := by kernel_rfl
abbrev t_24_uint8 : TypeId := 104
theorem i_24_uint8 : (Tryd.prog.info? 104).map (fun i => (i.zero, i.size, i.bytes)) = some (some (.agg #[.int .u8 0, .int .u8 0, .int .u8 0, .int .u8 0, .int .u8 0, .int .u8 0, .int .u8 0, .int .u8 0, .int .u8 0, .int .u8 0, .int .u8 0, .int .u8 0, .int .u8 0, .int .u8 0, .int .u8 0, .int .u8 0, .int .u8 0, .int .u8 0, .int .u8 0, .int .u8 0, .int .u8 0, .int .u8 0, .int .u8 0, .int .u8 0]), 24, 24) := by kernel_rfl
theorem g_24_uint8 : (Tryd.prog.underlying 104).map kdOf = some .ag := by kernel_rfl
abbrev t_4_uint32 : TypeId := 109
theorem i_4_uint32 : (Tryd.prog.info? 109).map (fun i => (i.zero, i.size, i.bytes)) = some (some (.agg #[.int .u32 0, .int .u32 0, .int .u32 0, .int .u32 0]), 4, 16) := by kernel_rfl
theorem g_4_uint32 : (Tryd.prog.underlying 109).map kdOf = some .ag := by kernel_rfl
abbrev t_error : TypeId := 112
abbrev t_65_uint8 : TypeId := 118
theorem g_65_uint8 : (Tryd.prog.underlying 118).map kdOf = some .ag := by kernel_rfl
abbrev t_16_uint32 : TypeId := 121
theorem i_16_uint32 : (Tryd.prog.info? 121).map (fun i => (i.zero, i.size, i.bytes)) = some (some (.agg #[.int .u32 0, .int .u32 0, .int .u32 0, .int .u32 0, .int .u32 0, .int .u32 0, .int .u32 0, .int .u32 0, .int .u32 0, .int .u32 0, .int .u32 0, .int .u32 0, .int .u32 0, .int .u32 0, .int .u32 0, .int .u32 0]), 16, 64) := by kernel_rfl
theorem g_16_uint32 : (Tryd.prog.underlying 121).map kdOf = some .ag := by kernel_rfl
abbrev t_utf8_acceptRange : TypeId := 127
theorem i_utf8_acceptRange : (Tryd.prog.info? 127).map (fun i => (i.zero, i.size, i.bytes)) = some (some (.agg #[.int .u8 0, .int .u8 0]), 2, 2) := by kernel_rfl
theorem g_utf8_acceptRange : (Tryd.prog.underlying 127).map kdOf = some .ag := by kernel_rfl
abbrev t_64_uint32 : TypeId := 131
theorem i_64_uint32 : (Tryd.prog.info? 131).map (fun i => (i.zero, i.size, i.bytes)) = some (some (.agg #[.int .u32 0, .int .u32 0, .int .u32 0, .int .u32 0, .int .u32 0, .int .u32 0, .int .u32 0, .int .u32 0, .int .u32 0, .int .u32 0, .int .u32 0, .int .u32 0, .int .u32 0, .int .u32 0, .int .u32 0, .int .u32 0, .int .u32 0, .int .u32 0, .int .u32 0, .int .u32 0, .int .u32 0, .int .u32 0, .int .u32 0, .int .u32 0, .int .u32 0, .int .u32 0, .int .u32 0, .int .u32 0, .int .u32 0, .int .u32 0, .int .u32 0, .int .u32 0, .int .u32 0, .int .u32 0, .int .u32 0, .int .u32 0, .int .u32 0, .int .u32 0, .int .u32 0, .int .u32 0, .int .u32 0, .int .u32 0, .int .u32 0, .int .u32 0, .int .u32 0, .int .u32 0, .int .u32 0, .int .u32 0, .int .u32 0, .int .u32 0, .int .u32 0, .int .u32 0, .int .u32 0, .int .u32 0, .int .u32 0, .int .u32 0, .int .u32 0, .int .u32 0, .int .u32 0, .int .u32 0, .int .u32 0, .int .u32 0, .int .u32 0, .int .u32 0]), 64, 256) := by kernel_rfl
theorem g_64_uint32 : (Tryd.prog.underlying 131).map kdOf = some .ag := by kernel_rfl
abbrev t_4_int : TypeId := 132
theorem i_4_int : (Tryd.prog.info? 132).map (fun i => (i.zero, i.size, i.bytes)) = some (some (.agg #[.int .i64 0, .int .i64 0, .int .i64 0, .int .i64 0]), 4, 32) := by kernel_rfl
theorem g_4_int : (Tryd.prog.underlying 132).map kdOf = some .ag := by kernel_rfl
abbrev t_4_4_int : TypeId := 133
theorem i_4_4_int : (Tryd.prog.info? 133).map (fun i => (i.zero, i.size, i.bytes)) = some (some (.agg #[.int .i64 0, .int .i64 0, .int .i64 0, .int .i64 0, .int .i64 0, .int .i64 0, .int .i64 0, .int .i64 0, .int .i64 0, .int .i64 0, .int .i64 0, .int .i64 0, .int .i64 0, .int .i64 0, .int .i64 0, .int .i64 0]), 16, 128) := by kernel_rfl
theorem g_4_4_int : (Tryd.prog.underlying 133).map kdOf = some .ag := by kernel_rfl
abbrev t_strconv_Error : TypeId := 134
theorem u_strconv_Error : Tryd.prog.underlying 134 = some (.int .i64) := by kernel_rfl
theorem i_strconv_Error : (Tryd.prog.info? 134).map (fun i => (i.zero, i.size, i.bytes)) = some (some (.int .i64 0), 1, 8) := by kernel_rfl
abbrev t_p_strconv_NumError : TypeId := 136
theorem i_p_strconv_NumError : (Tryd.prog.info? 136).map (fun i => (i.zero, i.size, i.bytes)) = some (some (.pointer none), 1, 8) := by kernel_rfl
abbrev t_strconv_NumError : TypeId := 145
theorem i_strconv_NumError : (Tryd.prog.info? 145).map (fun i => (i.zero, i.size, i.bytes)) = some (some (.agg #[.string ⟨#[]⟩, .string ⟨#[]⟩, .nilIface]), 3, 48) := by kernel_rfl
theorem g_strconv_NumError : (Tryd.prog.underlying 145).map kdOf = some .ag := by kernel_rfl
abbrev t_p_errors_errorString : TypeId := 148
theorem i_p_errors_errorString : (Tryd.prog.info? 148).map (fun i => (i.zero, i.size, i.bytes)) = some (some (.pointer none), 1, 8) := by kernel_rfl
abbrev t_errors_errorString : TypeId := 150
theorem i_errors_errorString : (Tryd.prog.info? 150).map (fun i => (i.zero, i.size, i.bytes)) = some (some (.agg #[.string ⟨#[]⟩]), 1, 16) := by kernel_rfl
theorem g_errors_errorString : (Tryd.prog.underlying 150).map kdOf = some .ag := by kernel_rfl
abbrev gl_internal_strconv_uint64pow10 : Nat := 0
abbrev gt_internal_strconv_uint64pow10 : TypeId := 117
abbrev gl_unicode_utf8_first : Nat := 1
abbrev gt_unicode_utf8_first : TypeId := 125
abbrev gl_unicode_utf8_acceptRanges : Nat := 2
abbrev gt_unicode_utf8_acceptRanges : TypeId := 128
abbrev gl_internal_bytealg_MaxLen : Nat := 3
abbrev gt_internal_bytealg_MaxLen : TypeId := 3
abbrev gl_math_bits_deBruijn32tab : Nat := 4
abbrev gt_math_bits_deBruijn32tab : TypeId := 141
abbrev gl_math_bits_deBruijn64tab : Nat := 5
abbrev gt_math_bits_deBruijn64tab : TypeId := 142
abbrev gl_strconv_ErrSyntax : Nat := 6
abbrev gt_strconv_ErrSyntax : TypeId := 112
abbrev gl_strconv_ErrRange : Nat := 7
abbrev gt_strconv_ErrRange : TypeId := 112
end Go.Proofs.YtjfjanogfakclaaDoor

-- printed by wip/cf/cfprint.py
namespace Go.Proofs.YtjfjanogfakclaaDoor
open Go CF
set_option linter.unusedVariables false
set_option maxRecDepth 100000
/-- pallet/palletlaw20.LoginGuards -/
def Fpalletlaw20_LoginGuards (users : Sl) (id_ : Int) (challenge : Sl) (script : Sl) (w : World) (R : Bool → World → Prop) : Prop :=
  Cpalletlaw20_awake  w fun b w0 => Br (!b) (R false w0) (Br ((users.n : Int) == 0) (R true w0) (RunK Tryd.prog .sl (Instr.buildSlice 28 1 #[(0, .string s_t)]) w0 fun xs w01 => Clogin_New #[.slice xs.A xs.n xs.c, .slice users.A users.n users.c, .bool false] id_ challenge w01 fun p w02 => ∃ (I : Bool → Bool → Int → World → Prop) (μ : Bool → Bool → Int → World → Nat), I false false 0 w02 ∧ ∀ (right_ : Bool) (told : Bool) (i : Int) (w03 : World), I right_ told i w03 → Br ((decide (i < (script.n : Int))) && (decide (i < 30))) (∃ (I1 : Bool → Bool → Int → World → Prop) (μ1 : Bool → Bool → Int → World → Nat), I1 right_ told 0 w03 ∧ ∀ (right_1 : Bool) (told1 : Bool) (j : Int) (w04 : World), I1 right_1 told1 j w04 → (0 ≤ i ∧ i < (script.n : Int) ∧ script.A.isSome = true) ∧ ∃ xs1 : Sl, w04.cell? (((gA script.A).add (i.toNat * 4)).add 3) = some (.slice xs1.A xs1.n xs1.c) ∧ Br (decide (j < (xs1.n : Int))) (letX (fun (right_2 : Bool) (told2 : Bool) (w05 : World) => I1 right_2 told2 (IntKind.wrap .i64 (j + 1)) w05 ∧ μ1 right_2 told2 (IntKind.wrap .i64 (j + 1)) w05 < μ1 right_1 told1 j w04) fun J_ => (0 ≤ i ∧ i < (script.n : Int) ∧ script.A.isSome = true) ∧ ∃ xs2 : Sl, w04.cell? (((gA script.A).add (i.toNat * 4)).add 3) = some (.slice xs2.A xs2.n xs2.c) ∧ (0 ≤ j ∧ j < (xs2.n : Int) ∧ xs2.A.isSome = true) ∧ ∃ g : Array Value, (loadVar 35 ((gA xs2.A).add (j.toNat * 2))).run Tryd.prog w04 = .ok (.agg g) w04 ∧ New (.cells #[.string ⟨#[]⟩, .string ⟨#[]⟩] 35) w04 fun k w06 => RunU Tryd.prog (storeVar 35 k (.agg g)) w06 fun w07 => ∃ s : ByteArray, w07.cell? (k.add 0) = some (.string s) ∧ letX (fun (told3 : Bool) (w08 : World) => ∃ s1 : ByteArray, w08.cell? (k.add 0) = some (.string s1) ∧ Br (!(sEq s1 s_CHAPx5fR)) (J_ right_1 told3 w08) (∃ s2 : ByteArray, w08.cell? (k.add 1) = some (.string s2) ∧ Cpalletref19_Unhex s2 w08 fun xs3 n w09 => ∃ (I2 : Bool → Int → World → Prop) (μ2 : Bool → Int → World → Nat), I2 right_1 0 w09 ∧ ∀ (right_3 : Bool) (n1 : Int) (w010 : World), I2 right_3 n1 w010 → Br (decide (n1 < (users.n : Int))) (letX (fun (right_4 : Bool) (w011 : World) => I2 right_4 (IntKind.wrap .i64 (n1 + 1)) w011 ∧ μ2 right_4 (IntKind.wrap .i64 (n1 + 1)) w011 < μ2 right_3 n1 w010) fun J_1 => ∀ w012, w012 = w010.drew → ∃ S : World → Prop, S w012 ∧ ((n == 0) = true → (0 ≤ n1 ∧ n1 < (users.n : Int) ∧ users.A.isSome = true)) ∧ ∃ s3 : ByteArray, ((n == 0) = true → (∀ u, S u → u.cell? (((gA users.A).add (n1.toNat * 2)).add 1) = some (.string s3))) ∧ letJ (fun (s4 : ByteArray) (w013 : World) => S w013 ∧ letJ (fun (s5 : ByteArray) (w014 : World) => Br ((n == 0) && (sEq s4 s5)) (J_1 true w014) (J_1 right_3 w014)) fun J_2 => ((n == 0) = true → Cpalletref19_Answer id_ s3 challenge w013 J_2) ∧ ((n == 0) = false → J_2 (Kd.dflt .s) w013)) fun J_3 => ((n == 0) = true → Cpalletref19_Hex xs3 w012 J_3) ∧ ((n == 0) = false → J_3 (Kd.dflt .s) w012)) (J_ right_3 told3 w010))) fun J_4 => Br (sEq s s_CHAPx5fA) (J_4 true w07) (J_4 told1 w07)) ((0 ≤ i ∧ i < (script.n : Int) ∧ script.A.isSome = true) ∧ ∃ g1 : Array Value, (loadVar 33 ((gA script.A).add (i.toNat * 4))).run Tryd.prog w04 = .ok (.agg g1) w04 ∧ Clogin_Login_Step p g1 w04 fun g2 n2 w016 => Clogin_Login_Done p w016 fun b1 w017 => Br (b1 && ((!right_1) || (!told1))) (R false w017) (I right_1 told1 (IntKind.wrap .i64 (i + 1)) w017 ∧ μ right_1 told1 (IntKind.wrap .i64 (i + 1)) w017 < μ right_ told i w03))) (R true w03)))
theorem Fpalletlaw20_LoginGuards.calls (users : Sl) (id_ : Int) (challenge : Sl) (script : Sl) (w : World) (R : Bool → World → Prop) (h : Fpalletlaw20_LoginGuards users id_ challenge script w R) : Cpalletlaw20_LoginGuards users id_ challenge script w R :=
  calls_of_vc (anOp_ok callable) wide Tryd.func3 [(27, ⟨[(10, .b), (11, .b), (12, .i .i64)], [0, 1, 2, 3, 9]⟩), (36, ⟨[(10, .b), (11, .b), (13, .i .i64)], [0, 1, 2, 3, 9, 12]⟩), (11, ⟨[(10, .b), (11, .b)], [0, 1, 2, 3, 9, 12, 13]⟩), (60, ⟨[(10, .b), (17, .i .i64)], [0, 1, 2, 3, 9, 11, 12, 13, 15, 16]⟩), (17, ⟨[(10, .b)], [0, 1, 2, 3, 9, 11, 12, 13, 15, 16, 17]⟩), (49, ⟨[(11, .b)], [0, 1, 2, 3, 9, 10, 12, 13, 14]⟩)] [.b] [.slice users.A users.n users.c, .int .u8 id_, .slice challenge.A challenge.n challenge.c, .slice script.A script.n script.c] w R (Eq.mp (show Fpalletlaw20_LoginGuards users id_ challenge script w R = vcF Tryd.prog G Tryd.f3 [(27, ⟨[(10, .b), (11, .b), (12, .i .i64)], [0, 1, 2, 3, 9]⟩), (36, ⟨[(10, .b), (11, .b), (13, .i .i64)], [0, 1, 2, 3, 9, 12]⟩), (11, ⟨[(10, .b), (11, .b)], [0, 1, 2, 3, 9, 12, 13]⟩), (60, ⟨[(10, .b), (17, .i .i64)], [0, 1, 2, 3, 9, 11, 12, 13, 15, 16]⟩), (17, ⟨[(10, .b)], [0, 1, 2, 3, 9, 11, 12, 13, 15, 16, 17]⟩), (49, ⟨[(11, .b)], [0, 1, 2, 3, 9, 10, 12, 13, 14]⟩)] [.b] [.slice users.A users.n users.c, .int .u8 id_, .slice challenge.A challenge.n challenge.c, .slice script.A script.n script.c] w R by kernel_rfl) h)
/-- pallet/palletlaw20.LoginProves -/
def Fpalletlaw20_LoginProves (name : ByteArray) (secret : ByteArray) (wrong : ByteArray) (id_ : Int) (challenge : Sl) (ask : Bool) (w : World) (R : Bool → World → Prop) : Prop :=
  Cpalletlaw20_awake  w fun b w0 => Br (!b) (R false w0) (RunK Tryd.prog .sl (Instr.buildSlice 28 1 #[(0, .string s_t)]) w0 fun xs w01 => RunK Tryd.prog .sl (Instr.buildSlice 22 1 #[(0, .agg #[.string name, .string secret])]) w01 fun xs1 w02 => New (.cells #[.slice none 0 0, .slice none 0 0, .bool false] 30) w02 fun c w03 => RunU Tryd.prog (storeVar 30 c (.agg #[.slice xs.A xs.n xs.c, .slice xs1.A xs1.n xs1.c, .bool false])) w03 fun w04 => ∃ (I : Int → World → Prop) (μ : Int → World → Nat), I 0 w04 ∧ ∀ (k : Int) (w05 : World), I k w05 → Br (decide (k < 2)) (letX (fun (w06 : World) => I (IntKind.wrap .i64 (k + 1)) w06 ∧ μ (IntKind.wrap .i64 (k + 1)) w06 < μ k w05) fun J_ => letX (fun (s : ByteArray) (w07 : World) => ∃ g : Array Value, (loadVar 30 c).run Tryd.prog w07 = .ok (.agg g) w07 ∧ Clogin_New g id_ challenge w07 fun p w08 => RunK Tryd.prog .sl (Instr.buildSlice 31 1 #[(0, .agg #[.string s_AuthMethod, .string s_Nonex2cCHAP])]) w08 fun xs2 w09 => Cpalletlaw20_hello xs2 w09 fun xs3 w010 => Clogin_Login_Step p #[.int .u8 0, .int .u8 0, .bool false, .slice xs3.A xs3.n xs3.c] w010 fun g1 n w011 => New (.cells #[.int .u8 0, .int .u8 0, .int .u8 0, .int .u8 0, .bool false, .slice none 0 0] 43) w011 fun a w012 => RunU Tryd.prog (storeVar 43 a (.agg g1)) w012 fun w013 => RunK Tryd.prog .sl (Instr.buildSlice 31 1 #[(0, .agg #[.string s_CHAPx5fA, .string s_7x2c5])]) w013 fun xs4 w014 => Clogin_Login_Step p #[.int .u8 0, .int .u8 1, .bool ask, .slice xs4.A xs4.n xs4.c] w014 fun g2 n1 w015 => New (.cells #[.int .u8 0, .int .u8 0, .int .u8 0, .int .u8 0, .bool false, .slice none 0 0] 43) w015 fun b1 w016 => RunU Tryd.prog (storeVar 43 b1 (.agg g2)) w016 fun w017 => ∃ xs5 : Sl, w017.cell? (b1.add 5) = some (.slice xs5.A xs5.n xs5.c) ∧ Cpalletref18_Find xs5 s_CHAPx5fI w017 fun s1 b2 w018 => ∃ xs6 : Sl, w018.cell? (b1.add 5) = some (.slice xs6.A xs6.n xs6.c) ∧ Cpalletref18_Find xs6 s_CHAPx5fC w018 fun s2 b3 w019 => Cpalletref18_Number s1 w019 fun n2 b4 w020 => Cpalletref19_Unhex s2 w020 fun xs7 n3 w021 => ∃ n4 : Int, ((!((n != 0) || (n1 != 0))) = true → w021.cell? (a.add 0) = some (.int .u8 n4)) ∧ ∃ n5 : Int, ((!(((n != 0) || (n1 != 0)) || (n4 != 0))) = true → w021.cell? (b1.add 0) = some (.int .u8 n5)) ∧ ∃ b5 : Bool, ((!((((n != 0) || (n1 != 0)) || (n4 != 0)) || (n5 != 0))) = true → w021.cell? (b1.add 4) = some (.bool b5)) ∧ ∃ s3 : ByteArray, ((!((((((((n != 0) || (n1 != 0)) || (n4 != 0)) || (n5 != 0)) || b5) || (!b4)) || (n2 != (IntKind.wrap .u64 id_))) || (n3 != 0))) = true → (convert 23 9 (.slice xs7.A xs7.n xs7.c)).run Tryd.prog w021 = .ok (.string s3) w021) ∧ ∃ s4 : ByteArray, ((!((((((((n != 0) || (n1 != 0)) || (n4 != 0)) || (n5 != 0)) || b5) || (!b4)) || (n2 != (IntKind.wrap .u64 id_))) || (n3 != 0))) = true → (convert 23 9 (.slice challenge.A challenge.n challenge.c)).run Tryd.prog w021 = .ok (.string s4) w021) ∧ Br (((((((((n != 0) || (n1 != 0)) || (n4 != 0)) || (n5 != 0)) || b5) || (!b4)) || (n2 != (IntKind.wrap .u64 id_))) || (n3 != 0)) || (!(sEq s3 s4))) (R false w021) (Cpalletref19_Answer id_ s challenge w021 fun s5 w022 => RunK Tryd.prog .sl (Instr.buildSlice 31 2 #[(0, .agg #[.string s_CHAPx5fN, .string name]), (1, .agg #[.string s_CHAPx5fR, .string s5])]) w022 fun xs8 w023 => Clogin_Login_Step p #[.int .u8 0, .int .u8 3, .bool true, .slice xs8.A xs8.n xs8.c] w023 fun g3 n6 w024 => New (.cells #[.int .u8 0, .int .u8 0, .int .u8 0, .int .u8 0, .bool false, .slice none 0 0] 43) w024 fun d w025 => RunU Tryd.prog (storeVar 43 d (.agg g3)) w025 fun w026 => Cpalletref19_Answer id_ s challenge w026 fun s6 w027 => Cpalletref19_Answer id_ secret challenge w027 fun s7 w028 => letJ (fun (b6 : Bool) (w029 : World) => letJ (fun (b7 : Bool) (w030 : World) => ∃ n7 : Int, ((!(((n6 != 0) || (!(b6 == (sEq s6 s7)))) || (!b7))) = true → w030.cell? (d.add 0) = some (.int .u8 n7)) ∧ Br ((((n6 != 0) || (!(b6 == (sEq s6 s7)))) || (!b7)) || (!((n7 == 0) == (sEq s6 s7)))) (R false w030) (Clogin_Login_Step p #[.int .u8 0, .int .u8 0, .bool false, .slice none 0 0] w030 fun g4 n8 w031 => New (.cells #[.int .u8 0, .int .u8 0, .int .u8 0, .int .u8 0, .bool false, .slice none 0 0] 43) w031 fun blank w032 => RunU Tryd.prog (storeVar 43 blank (.agg g4)) w032 fun w033 => Br (n8 != 12) (R false w033) (J_ w033))) fun J_1 => ((!((n6 != 0) || (!(b6 == (sEq s6 s7))))) = true → Clogin_Login_Over p w029 J_1) ∧ ((!((n6 != 0) || (!(b6 == (sEq s6 s7))))) = false → J_1 (Kd.dflt .b) w029)) fun J_2 => ((!(n6 != 0)) = true → Clogin_Login_Done p w028 J_2) ∧ ((!(n6 != 0)) = false → J_2 (Kd.dflt .b) w028))) fun J_3 => Br (k == 1) (J_3 wrong w05) (J_3 secret w05)) (R true w05))
theorem Fpalletlaw20_LoginProves.calls (name : ByteArray) (secret : ByteArray) (wrong : ByteArray) (id_ : Int) (challenge : Sl) (ask : Bool) (w : World) (R : Bool → World → Prop) (h : Fpalletlaw20_LoginProves name secret wrong id_ challenge ask w R) : Cpalletlaw20_LoginProves name secret wrong id_ challenge ask w R :=
  calls_of_vc (anOp_ok callable) wide Tryd.func4 [(15, ⟨[(14, .i .i64)], [0, 1, 2, 3, 4, 5, 13]⟩), (5, ⟨[], [0, 1, 2, 3, 4, 5, 13, 14]⟩), (28, ⟨[(15, .s)], [0, 1, 2, 3, 4, 5, 13, 14]⟩)] [.b] [.string name, .string secret, .string wrong, .int .u8 id_, .slice challenge.A challenge.n challenge.c, .bool ask] w R (Eq.mp (show Fpalletlaw20_LoginProves name secret wrong id_ challenge ask w R = vcF Tryd.prog G Tryd.f4 [(15, ⟨[(14, .i .i64)], [0, 1, 2, 3, 4, 5, 13]⟩), (5, ⟨[], [0, 1, 2, 3, 4, 5, 13, 14]⟩), (28, ⟨[(15, .s)], [0, 1, 2, 3, 4, 5, 13, 14]⟩)] [.b] [.string name, .string secret, .string wrong, .int .u8 id_, .slice challenge.A challenge.n challenge.c, .bool ask] w R by kernel_rfl) h)
/-- pallet/palletlaw20.LoginSums -/
def Fpalletlaw20_LoginSums (offer : ByteArray) (other : ByteArray) (sums : Bool) (w : World) (R : Bool → World → Prop) : Prop :=
  Cpalletlaw20_awake  w fun b w0 => Br (!b) (R false w0) (RunK Tryd.prog .sl (Instr.buildSlice 28 1 #[(0, .string s_t)]) w0 fun xs w01 => Clogin_New #[.slice xs.A xs.n xs.c, .slice none 0 0, .bool sums] 1 ⟨none, 0, 0⟩ w01 fun p w02 => RunK Tryd.prog .sl (Instr.buildSlice 31 2 #[(0, .agg #[.string s_HeaderDigest, .string offer]), (1, .agg #[.string s_DataDigest, .string other])]) w02 fun xs1 w03 => Cpalletlaw20_hello xs1 w03 fun xs2 w04 => Clogin_Login_Step p #[.int .u8 1, .int .u8 0, .bool false, .slice xs2.A xs2.n xs2.c] w04 fun g n w05 => New (.cells #[.int .u8 0, .int .u8 0, .int .u8 0, .int .u8 0, .bool false, .slice none 0 0] 43) w05 fun a w06 => RunU Tryd.prog (storeVar 43 a (.agg g)) w06 fun w07 => RunK Tryd.prog .sl (Instr.buildSlice 28 1 #[(0, .string s_None)]) w07 fun xs3 w08 => letX (fun (own : Sl) (w09 : World) => Cpalletref18_First offer own w09 fun s w010 => Cpalletref18_First other own w010 fun s1 w011 => Clogin_Login_Params p w011 fun g1 w012 => New (.cells #[.string ⟨#[]⟩, .string ⟨#[]⟩, .bool false, .bool false, .bool false, .int .i64 0, .int .i64 0, .int .i64 0, .bool false, .bool false] 57) w012 fun p1 w013 => RunU Tryd.prog (storeVar 57 p1 (.agg g1)) w013 fun w014 => ∃ xs4 : Sl, ((n == 0) = true → w014.cell? (a.add 5) = some (.slice xs4.A xs4.n xs4.c)) ∧ ∃ xs5 : Sl, (((n == 0) && ((xs4.n : Int) == 2)) = true → w014.cell? (a.add 5) = some (.slice xs5.A xs5.n xs5.c)) ∧ (((n == 0) && ((xs4.n : Int) == 2)) = true → (0 ≤ (0 : Int) ∧ (0 : Int) < (xs5.n : Int) ∧ xs5.A.isSome = true)) ∧ ∃ s2 : ByteArray, (((n == 0) && ((xs4.n : Int) == 2)) = true → w014.cell? (((gA xs5.A).add ((0 : Int).toNat * 2)).add 1) = some (.string s2)) ∧ ∃ xs6 : Sl, ((((n == 0) && ((xs4.n : Int) == 2)) && (sEq s2 s)) = true → w014.cell? (a.add 5) = some (.slice xs6.A xs6.n xs6.c)) ∧ ((((n == 0) && ((xs4.n : Int) == 2)) && (sEq s2 s)) = true → (0 ≤ (1 : Int) ∧ (1 : Int) < (xs6.n : Int) ∧ xs6.A.isSome = true)) ∧ ∃ s3 : ByteArray, ((((n == 0) && ((xs4.n : Int) == 2)) && (sEq s2 s)) = true → w014.cell? (((gA xs6.A).add ((1 : Int).toNat * 2)).add 1) = some (.string s3)) ∧ ∃ b1 : Bool, (((((n == 0) && ((xs4.n : Int) == 2)) && (sEq s2 s)) && (sEq s3 s1)) = true → w014.cell? (p1.add 3) = some (.bool b1)) ∧ ∃ b2 : Bool, ((((((n == 0) && ((xs4.n : Int) == 2)) && (sEq s2 s)) && (sEq s3 s1)) && (b1 == (sEq s s_CRC32C))) = true → w014.cell? (p1.add 4) = some (.bool b2)) ∧ ∃ b3 : Bool, (((!sums) && ((((((n == 0) && ((xs4.n : Int) == 2)) && (sEq s2 s)) && (sEq s3 s1)) && (b1 == (sEq s s_CRC32C))) && (b2 == (sEq s1 s_CRC32C)))) = true → w014.cell? (p1.add 3) = some (.bool b3)) ∧ ∃ b4 : Bool, (((!b3) && ((!sums) && ((((((n == 0) && ((xs4.n : Int) == 2)) && (sEq s2 s)) && (sEq s3 s1)) && (b1 == (sEq s s_CRC32C))) && (b2 == (sEq s1 s_CRC32C))))) = true → w014.cell? (p1.add 4) = some (.bool b4)) ∧ R (((((((n == 0) && ((xs4.n : Int) == 2)) && (sEq s2 s)) && (sEq s3 s1)) && (b1 == (sEq s s_CRC32C))) && (b2 == (sEq s1 s_CRC32C))) && (sums || ((!b3) && (!b4)))) w014) fun J_ => Br sums (RunK Tryd.prog .sl (Instr.buildSlice 28 2 #[(0, .string s_CRC32C), (1, .string s_None)]) w08 fun xs7 w015 => J_ xs7 w015) (J_ xs3 w08))
theorem Fpalletlaw20_LoginSums.calls (offer : ByteArray) (other : ByteArray) (sums : Bool) (w : World) (R : Bool → World → Prop) (h : Fpalletlaw20_LoginSums offer other sums w R) : Cpalletlaw20_LoginSums offer other sums w R :=
  calls_of_vc (anOp_ok callable) wide Tryd.func5 [(22, ⟨[(10, .sl)], [0, 1, 2, 7, 8, 9]⟩)] [.b] [.string offer, .string other, .bool sums] w R (Eq.mp (show Fpalletlaw20_LoginSums offer other sums w R = vcF Tryd.prog G Tryd.f5 [(22, ⟨[(10, .sl)], [0, 1, 2, 7, 8, 9]⟩)] [.b] [.string offer, .string other, .bool sums] w R by kernel_rfl) h)
/-- pallet/palletlaw20.LoginNil -/
def Fpalletlaw20_LoginNil (r : Array Value) (challenge : Sl) (w : World) (R : Bool → World → Prop) : Prop :=
  New (.cells r 33) w fun r1 w0 => ∃ g : Array Value, (loadVar 33 r1).run Tryd.prog w0 = .ok (.agg g) w0 ∧ Clogin_Login_Step none g w0 fun g1 n w01 => New (.cells #[.int .u8 0, .int .u8 0, .int .u8 0, .int .u8 0, .bool false, .slice none 0 0] 43) w01 fun a w02 => RunU Tryd.prog (storeVar 43 a (.agg g1)) w02 fun w03 => Cpalletlaw20_awake  w03 fun b w04 => ∃ n1 : Int, ((!((!b) || (n != 8))) = true → w04.cell? (a.add 0) = some (.int .u8 n1)) ∧ ∃ xs : Sl, ((!(((!b) || (n != 8)) || (n1 != 0))) = true → w04.cell? (a.add 5) = some (.slice xs.A xs.n xs.c)) ∧ letJ (fun (b1 : Bool) (w05 : World) => letJ (fun (b2 : Bool) (w06 : World) => letJ (fun (g2 : Array Value) (w07 : World) => ∃ b3 : Bool, ((!((((((!b) || (n != 8)) || (n1 != 0)) || ((xs.n : Int) != 0)) || b1) || b2)) = true → (do eqGuard .neq 57 (.tmp 50) (.tmp 51) (.agg g2) (.agg #[.string ⟨#[]⟩, .string ⟨#[]⟩, .bool false, .bool false, .bool false, .int .i64 0, .int .i64 0, .int .i64 0, .bool false, .bool false]); binOp .neq 57 (.agg g2) (.agg #[.string ⟨#[]⟩, .string ⟨#[]⟩, .bool false, .bool false, .bool false, .int .i64 0, .int .i64 0, .int .i64 0, .bool false, .bool false]) : Sem Value).run Tryd.prog w07 = .ok (.bool b3) w07) ∧ Br (((((((!b) || (n != 8)) || (n1 != 0)) || ((xs.n : Int) != 0)) || b1) || b2) || b3) (R false w07) (RunK Tryd.prog .sl (Builtin.append_ #[23, 23] 23 #[.slice none 0 0, .slice challenge.A challenge.n challenge.c]) w07 fun xs1 w08 => RunK Tryd.prog .sl (Instr.buildSlice 28 1 #[(0, .string s_t)]) w08 fun xs2 w09 => RunK Tryd.prog .sl (Instr.buildSlice 22 1 #[(0, .agg #[.string s_u, .string s_s])]) w09 fun xs3 w010 => Clogin_New #[.slice xs2.A xs2.n xs2.c, .slice xs3.A xs3.n xs3.c, .bool false] 3 xs1 w010 fun p w011 => ∃ (I : Int → World → Prop) (μ : Int → World → Nat), I 0 w011 ∧ ∀ (i : Int) (w012 : World), I i w012 → Br (decide (i < (xs1.n : Int))) ((0 ≤ i ∧ i < (xs1.n : Int) ∧ xs1.A.isSome = true) ∧ ∃ n2 : Int, w012.cell? ((gA xs1.A).add (i.toNat * 1)) = some (.int .u8 n2) ∧ (0 ≤ i ∧ i < (xs1.n : Int) ∧ xs1.A.isSome = true) ∧ Put ((gA xs1.A).add (i.toNat * 1)) (.int .u8 (IntKind.wrap .u8 (n2 + 1))) w012 fun w013 => I (IntKind.wrap .i64 (i + 1)) w013 ∧ μ (IntKind.wrap .i64 (i + 1)) w013 < μ i w012) ((0 ≤ (0 : Int) ∧ (0 : Int) < (xs2.n : Int) ∧ xs2.A.isSome = true) ∧ Put ((gA xs2.A).add ((0 : Int).toNat * 1)) (.string s_x) w012 fun w014 => (0 ≤ (0 : Int) ∧ (0 : Int) < (xs3.n : Int) ∧ xs3.A.isSome = true) ∧ Put (((gA xs3.A).add ((0 : Int).toNat * 2)).add 1) (.string s_y) w014 fun w015 => RunK Tryd.prog .sl (Instr.buildSlice 31 2 #[(0, .agg #[.string s_AuthMethod, .string s_CHAP]), (1, .agg #[.string s_CHAPx5fA, .string s_5])]) w015 fun xs4 w016 => Cpalletlaw20_hello xs4 w016 fun xs5 w017 => Clogin_Login_Step p #[.int .u8 0, .int .u8 0, .bool false, .slice xs5.A xs5.n xs5.c] w017 fun g3 n3 w018 => New (.cells #[.int .u8 0, .int .u8 0, .int .u8 0, .int .u8 0, .bool false, .slice none 0 0] 43) w018 fun b4 w019 => RunU Tryd.prog (storeVar 43 b4 (.agg g3)) w019 fun w020 => ∃ xs6 : Sl, w020.cell? (b4.add 5) = some (.slice xs6.A xs6.n xs6.c) ∧ Cpalletref18_Find xs6 s_CHAPx5fC w020 fun s b5 w021 => ∃ n4 : Int, ((n3 == 0) = true → w021.cell? (b4.add 0) = some (.int .u8 n4)) ∧ letJ (fun (s1 : ByteArray) (w022 : World) => R (((n3 == 0) && (n4 == 0)) && (sEq s s1)) w022) fun J_ => (((n3 == 0) && (n4 == 0)) = true → Cpalletref19_Hex challenge w021 J_) ∧ (((n3 == 0) && (n4 == 0)) = false → J_ (Kd.dflt .s) w021)))) fun J_1 => ((!((((((!b) || (n != 8)) || (n1 != 0)) || ((xs.n : Int) != 0)) || b1) || b2)) = true → Clogin_Login_Params none w06 J_1) ∧ ((!((((((!b) || (n != 8)) || (n1 != 0)) || ((xs.n : Int) != 0)) || b1) || b2)) = false → J_1 (Kd.dflt .ag) w06)) fun J_2 => ((!(((((!b) || (n != 8)) || (n1 != 0)) || ((xs.n : Int) != 0)) || b1)) = true → Clogin_Login_Over none w05 J_2) ∧ ((!(((((!b) || (n != 8)) || (n1 != 0)) || ((xs.n : Int) != 0)) || b1)) = false → J_2 (Kd.dflt .b) w05)) fun J_3 => ((!((((!b) || (n != 8)) || (n1 != 0)) || ((xs.n : Int) != 0))) = true → Clogin_Login_Done none w04 J_3) ∧ ((!((((!b) || (n != 8)) || (n1 != 0)) || ((xs.n : Int) != 0))) = false → J_3 (Kd.dflt .b) w04)
theorem Fpalletlaw20_LoginNil.calls (r : Array Value) (challenge : Sl) (w : World) (R : Bool → World → Prop) (h : Fpalletlaw20_LoginNil r challenge w R) : Cpalletlaw20_LoginNil r challenge w R :=
  calls_of_vc (anOp_ok callable) wide Tryd.func6 [(33, ⟨[(12, .i .i64)], [1, 8, 9, 10, 11]⟩)] [.b] [.agg r, .slice challenge.A challenge.n challenge.c] w R (Eq.mp (show Fpalletlaw20_LoginNil r challenge w R = vcF Tryd.prog G Tryd.f6 [(33, ⟨[(12, .i .i64)], [1, 8, 9, 10, 11]⟩)] [.b] [.agg r, .slice challenge.A challenge.n challenge.c] w R by kernel_rfl) h)
/-- pallet/palletlaw20.LoginNames -/
def Fpalletlaw20_LoginNames (name : ByteArray) (target : ByteArray) (kind : ByteArray) (told : Bool) (targets : Sl) (w : World) (R : Bool → World → Prop) : Prop :=
  Cpalletlaw20_awake  w fun b w0 => Br (!b) (R false w0) (Clogin_New #[.slice targets.A targets.n targets.c, .slice none 0 0, .bool false] 1 ⟨none, 0, 0⟩ w0 fun p w01 => RunK Tryd.prog .sl (Instr.buildSlice 31 2 #[(0, .agg #[.string s_InitiatorName, .string name]), (1, .agg #[.string s_TargetName, .string target])]) w01 fun xs w02 => letX (fun (keys : Sl) (w03 : World) => ∃ (I : Bool → Int → World → Prop) (μ : Bool → Int → World → Nat), I false 0 w03 ∧ ∀ (has : Bool) (i : Int) (w04 : World), I has i w04 → Br (decide (i < (targets.n : Int))) (((!has) = true → (0 ≤ i ∧ i < (targets.n : Int) ∧ targets.A.isSome = true)) ∧ ∃ s : ByteArray, ((!has) = true → w04.cell? ((gA targets.A).add (i.toNat * 1)) = some (.string s)) ∧ I (has || (sEq s target)) (IntKind.wrap .i64 (i + 1)) w04 ∧ μ (has || (sEq s target)) (IntKind.wrap .i64 (i + 1)) w04 < μ has i w04) (letX (fun (want : Int) (w05 : World) => Clogin_Login_Step p #[.int .u8 1, .int .u8 3, .bool true, .slice keys.A keys.n keys.c] w05 fun g n w06 => New (.cells #[.int .u8 0, .int .u8 0, .int .u8 0, .int .u8 0, .bool false, .slice none 0 0] 43) w06 fun a w07 => RunU Tryd.prog (storeVar 43 a (.agg g)) w07 fun w08 => Br (n != 0) (R false w08) (Br (decide (want ≥ 0)) (∃ n1 : Int, w08.cell? (a.add 0) = some (.int .u8 n1) ∧ ∃ n2 : Int, ((n1 == 2) = true → w08.cell? (a.add 1) = some (.int .u8 n2)) ∧ letJ (fun (b1 : Bool) (w09 : World) => letJ (fun (b2 : Bool) (w010 : World) => R ((((n1 == 2) && ((IntKind.wrap .i64 n2) == want)) && b1) && (!b2)) w010) fun J_ => ((((n1 == 2) && ((IntKind.wrap .i64 n2) == want)) && b1) = true → Clogin_Login_Done p w09 J_) ∧ ((((n1 == 2) && ((IntKind.wrap .i64 n2) == want)) && b1) = false → J_ (Kd.dflt .b) w09)) fun J_1 => (((n1 == 2) && ((IntKind.wrap .i64 n2) == want)) = true → Clogin_Login_Over p w08 J_1) ∧ (((n1 == 2) && ((IntKind.wrap .i64 n2) == want)) = false → J_1 (Kd.dflt .b) w08)) (Clogin_Login_Params p w08 fun g1 w011 => New (.cells #[.string ⟨#[]⟩, .string ⟨#[]⟩, .bool false, .bool false, .bool false, .int .i64 0, .int .i64 0, .int .i64 0, .bool false, .bool false] 57) w011 fun p1 w012 => RunU Tryd.prog (storeVar 57 p1 (.agg g1)) w012 fun w013 => ∃ n3 : Int, w013.cell? (a.add 0) = some (.int .u8 n3) ∧ letJ (fun (b3 : Bool) (w014 : World) => ∃ s1 : ByteArray, (((n3 == 0) && b3) = true → w014.cell? (p1.add 0) = some (.string s1)) ∧ ∃ b4 : Bool, ((((n3 == 0) && b3) && (sEq s1 name)) = true → w014.cell? (p1.add 2) = some (.bool b4)) ∧ ∃ s2 : ByteArray, (((!(told && (sEq kind s_Discovery))) && ((((n3 == 0) && b3) && (sEq s1 name)) && (b4 == (told && (sEq kind s_Discovery))))) = true → w014.cell? (p1.add 1) = some (.string s2)) ∧ R (((((n3 == 0) && b3) && (sEq s1 name)) && (b4 == (told && (sEq kind s_Discovery)))) && ((told && (sEq kind s_Discovery)) || (sEq s2 target))) w014) fun J_2 => ((n3 == 0) = true → Clogin_Login_Done p w013 J_2) ∧ ((n3 == 0) = false → J_2 (Kd.dflt .b) w013)))) fun J_3 => Br (sEq name ⟨#[]⟩) (J_3 7 w04) (Br ((told && (!(sEq kind s_Normal))) && (!(sEq kind s_Discovery))) (J_3 9 w04) (Br (told && (sEq kind s_Discovery)) (J_3 (-1) w04) (Br (sEq target ⟨#[]⟩) (J_3 7 w04) (Br (!has) (J_3 3 w04) (J_3 (-1) w04))))))) fun J_4 => Br told (RunK Tryd.prog .sl (Instr.buildSlice 31 1 #[(0, .agg #[.string s_SessionType, .string kind])]) w02 fun xs1 w020 => RunK Tryd.prog .sl (Builtin.append_ #[31, 31] 31 #[.slice xs.A xs.n xs.c, .slice xs1.A xs1.n xs1.c]) w020 fun xs2 w021 => J_4 xs2 w021) (J_4 xs w02))
theorem Fpalletlaw20_LoginNames.calls (name : ByteArray) (target : ByteArray) (kind : ByteArray) (told : Bool) (targets : Sl) (w : World) (R : Bool → World → Prop) (h : Fpalletlaw20_LoginNames name target kind told targets w R) : Cpalletlaw20_LoginNames name target kind told targets w R :=
  calls_of_vc (anOp_ok callable) wide Tryd.func7 [(27, ⟨[(13, .b), (14, .i .i64)], [0, 1, 2, 3, 4, 11, 12]⟩), (8, ⟨[(15, .i .i64)], [0, 1, 11, 12, 16]⟩), (19, ⟨[(12, .sl)], [0, 1, 2, 3, 4, 11]⟩)] [.b] [.string name, .string target, .string kind, .bool told, .slice targets.A targets.n targets.c] w R (Eq.mp (show Fpalletlaw20_LoginNames name target kind told targets w R = vcF Tryd.prog G Tryd.f7 [(27, ⟨[(13, .b), (14, .i .i64)], [0, 1, 2, 3, 4, 11, 12]⟩), (8, ⟨[(15, .i .i64)], [0, 1, 11, 12, 16]⟩), (19, ⟨[(12, .sl)], [0, 1, 2, 3, 4, 11]⟩)] [.b] [.string name, .string target, .string kind, .bool told, .slice targets.A targets.n targets.c] w R by kernel_rfl) h)
/-- pallet/palletlaw20.awake -/
def Fpalletlaw20_awake (w : World) (R : Bool → World → Prop) : Prop :=
  RunK Tryd.prog .sl (Instr.buildSlice 28 1 #[(0, .string s_t)]) w fun xs w0 => Clogin_New #[.slice xs.A xs.n xs.c, .slice none 0 0, .bool false] 1 ⟨none, 0, 0⟩ w0 fun p w01 => Cpalletlaw20_hello ⟨none, 0, 0⟩ w01 fun xs1 w02 => Clogin_Login_Step p #[.int .u8 1, .int .u8 3, .bool true, .slice xs1.A xs1.n xs1.c] w02 fun g n w03 => New (.cells #[.int .u8 0, .int .u8 0, .int .u8 0, .int .u8 0, .bool false, .slice none 0 0] 43) w03 fun a w04 => RunU Tryd.prog (storeVar 43 a (.agg g)) w04 fun w05 => ∃ n1 : Int, ((n == 0) = true → w05.cell? (a.add 0) = some (.int .u8 n1)) ∧ ∃ b : Bool, (((n == 0) && (n1 == 0)) = true → w05.cell? (a.add 4) = some (.bool b)) ∧ ∃ n2 : Int, ((((n == 0) && (n1 == 0)) && b) = true → w05.cell? (a.add 3) = some (.int .u8 n2)) ∧ letJ (fun (b1 : Bool) (w06 : World) => R (((((n == 0) && (n1 == 0)) && b) && (n2 == 3)) && b1) w06) fun J_ => (((((n == 0) && (n1 == 0)) && b) && (n2 == 3)) = true → Clogin_Login_Done p w05 J_) ∧ (((((n == 0) && (n1 == 0)) && b) && (n2 == 3)) = false → J_ (Kd.dflt .b) w05)
theorem Fpalletlaw20_awake.calls (w : World) (R : Bool → World → Prop) (h : Fpalletlaw20_awake w R) : Cpalletlaw20_awake w R :=
  calls_of_vc (anOp_ok callable) wide Tryd.func8 [] [.b] [] w R (Eq.mp (show Fpalletlaw20_awake w R = vcF Tryd.prog G Tryd.f8 [] [.b] [] w R by kernel_rfl) h)
/-- pallet/login.New -/
def Flogin_New (c : Array Value) (id_ : Int) (challenge : Sl) (w : World) (R : (Option Addr) → World → Prop) : Prop :=
  New (.cells c 30) w fun c1 w0 => ∀ w01, w01 = w0.drew → ∃ S : World → Prop, S w01 ∧ ∃ xs : Sl, (∀ u, S u → u.cell? (c1.add 0) = some (.slice xs.A xs.n xs.c)) ∧ ∃ xs1 : Sl, (∀ u1, S u1 → u1.cell? (c1.add 1) = some (.slice xs1.A xs1.n xs1.c)) ∧ Cslices_Clone_string_string xs w01 fun xs2 w02 => S w02 ∧ Cslices_Clone_login_User_login_User xs1 w02 fun xs3 w03 => Put (c1.add 0) (.slice xs2.A xs2.n xs2.c) w03 fun w04 => Put (c1.add 1) (.slice xs3.A xs3.n xs3.c) w04 fun w05 => ∀ w06, w06 = w05.drew → ∃ S1 : World → Prop, S1 w06 ∧ ∃ g : Array Value, (∀ u2, S1 u2 → (loadVar 30 c1).run Tryd.prog u2 = .ok (.agg g) u2) ∧ ∃ xs4 : Sl, (∀ u3, S1 u3 → u3.cell? (c1.add 1) = some (.slice xs4.A xs4.n xs4.c)) ∧ RunK Tryd.prog .sl (Builtin.append_ #[23, 23] 23 #[.slice none 0 0, .slice challenge.A challenge.n challenge.c]) w06 fun xs5 w07 => S1 w07 ∧ ∃ S2 : World → Prop, S2 w07 ∧ (∀ u4, S2 u4 → S1 u4) ∧ ∃ g1 : Array Value, (∀ u5, S2 u5 → (Instr.build 65 #[(0, .agg g), (1, .int .u8 id_), (2, .slice xs5.A xs5.n xs5.c), (7, .bool ((xs4.n : Int) == 0)), (10, .agg #[.string ⟨#[]⟩, .string ⟨#[]⟩, .bool false, .bool false, .bool false, .int .i64 8192, .int .i64 65536, .int .i64 65536, .bool true, .bool true])]).run Tryd.prog u5 = .ok (.agg g1) u5) ∧ New (.cells g1 65) w07 fun a w08 => R (some a) w08
theorem Flogin_New.calls (c : Array Value) (id_ : Int) (challenge : Sl) (w : World) (R : (Option Addr) → World → Prop) (h : Flogin_New c id_ challenge w R) : Clogin_New c id_ challenge w R :=
  calls_of_vc (anOp_ok callable) wide Tryd.func9 [] [.p] [.agg c, .int .u8 id_, .slice challenge.A challenge.n challenge.c] w R (Eq.mp (show Flogin_New c id_ challenge w R = vcF Tryd.prog G Tryd.f9 [] [.p] [.agg c, .int .u8 id_, .slice challenge.A challenge.n challenge.c] w R by kernel_rfl) h)
/-- pallet/palletref19.Unhex -/
def Fpalletref19_Unhex (s : ByteArray) (w : World) (R : Sl → Int → World → Prop) : Prop :=
  ((!(decide ((s.size : Int) < 2))) = true → (0 ≤ (0 : Int) ∧ (0 : Int) < (s.size : Int))) ∧ ((!((decide ((s.size : Int) < 2)) || ((bt s 0) != 48))) = true → (0 ≤ (1 : Int) ∧ (1 : Int) < (s.size : Int))) ∧ ((((bt s 1) != 120) && (!((decide ((s.size : Int) < 2)) || ((bt s 0) != 48)))) = true → (0 ≤ (1 : Int) ∧ (1 : Int) < (s.size : Int))) ∧ ((!(((decide ((s.size : Int) < 2)) || ((bt s 0) != 48)) || (((bt s 1) != 120) && ((bt s 1) != 88)))) = true → ((2 : Int) ≠ 0)) ∧ Br ((((decide ((s.size : Int) < 2)) || ((bt s 0) != 48)) || (((bt s 1) != 120) && ((bt s 1) != 88))) || (((s.size : Int).tmod 2) == 1)) (R (⟨none, 0, 0⟩ : Sl) 13 w) (∃ (I : Sl → Int → World → Prop) (μ : Sl → Int → World → Nat), I (⟨none, 0, 0⟩ : Sl) 2 w ∧ ∀ (out : Sl) (i : Int) (w0 : World), I out i w0 → Br (decide (i < (s.size : Int))) ((0 ≤ i ∧ i < (s.size : Int)) ∧ Cpalletref19_value (bt s i) w0 fun n w01 => (0 ≤ (IntKind.wrap .i64 (i + 1)) ∧ (IntKind.wrap .i64 (i + 1)) < (s.size : Int)) ∧ Cpalletref19_value (bt s (IntKind.wrap .i64 (i + 1))) w01 fun n1 w02 => Br ((decide (n < 0)) || (decide (n1 < 0))) (R (⟨none, 0, 0⟩ : Sl) 13 w02) (RunK Tryd.prog .sl (Instr.buildSlice 23 1 #[(0, .int .u8 (IntKind.wrap .u8 (IntKind.wrap .i64 ((IntKind.wrap .i64 (16 * n)) + n1))))]) w02 fun xs w03 => RunK Tryd.prog .sl (Builtin.append_ #[23, 23] 23 #[.slice out.A out.n out.c, .slice xs.A xs.n xs.c]) w03 fun xs1 w04 => I xs1 (IntKind.wrap .i64 (i + 2)) w04 ∧ μ xs1 (IntKind.wrap .i64 (i + 2)) w04 < μ out i w0)) (R out 0 w0))
theorem Fpalletref19_Unhex.calls (s : ByteArray) (w : World) (R : Sl → Int → World → Prop) (h : Fpalletref19_Unhex s w R) : Cpalletref19_Unhex s w R :=
  calls_of_vc (anOp_ok callable) wide Tryd.func10 [(15, ⟨[(4, .sl), (5, .i .i64)], [0]⟩)] [.sl, .i .i64] [.string s] w R (Eq.mp (show Fpalletref19_Unhex s w R = vcF Tryd.prog G Tryd.f10 [(15, ⟨[(4, .sl), (5, .i .i64)], [0]⟩)] [.sl, .i .i64] [.string s] w R by kernel_rfl) h)
/-- pallet/palletref19.Hex -/
def Fpalletref19_Hex (p : Sl) (w : World) (R : ByteArray → World → Prop) : Prop :=
  ∃ (I : ByteArray → Int → World → Prop) (μ : ByteArray → Int → World → Nat), I s_0x 0 w ∧ ∀ (s : ByteArray) (i : Int) (w0 : World), I s i w0 → Br (decide (i < (p.n : Int))) (∀ w01, w01 = w0.drew → ∃ S : World → Prop, S w01 ∧ (0 ≤ i ∧ i < (p.n : Int) ∧ p.A.isSome = true) ∧ ∃ n : Int, (∀ u, S u → u.cell? ((gA p.A).add (i.toNat * 1)) = some (.int .u8 n)) ∧ ((16 : Int) ≠ 0) ∧ (0 ≤ i ∧ i < (p.n : Int) ∧ p.A.isSome = true) ∧ ∃ n1 : Int, (∀ u1, S u1 → u1.cell? ((gA p.A).add (i.toNat * 1)) = some (.int .u8 n1)) ∧ ((16 : Int) ≠ 0) ∧ (0 ≤ (IntKind.wrap .u8 (n.tdiv 16)) ∧ (IntKind.wrap .u8 (n.tdiv 16)) ≤ (IntKind.wrap .u8 ((IntKind.wrap .u8 (n1.tdiv 16)) + 1)) ∧ (IntKind.wrap .u8 ((IntKind.wrap .u8 (n1.tdiv 16)) + 1)) ≤ (s_0123456789abcdef.size : Int)) ∧ (0 ≤ i ∧ i < (p.n : Int) ∧ p.A.isSome = true) ∧ ∃ n2 : Int, (∀ u2, S u2 → u2.cell? ((gA p.A).add (i.toNat * 1)) = some (.int .u8 n2)) ∧ ((16 : Int) ≠ 0) ∧ (0 ≤ i ∧ i < (p.n : Int) ∧ p.A.isSome = true) ∧ ∃ n3 : Int, (∀ u3, S u3 → u3.cell? ((gA p.A).add (i.toNat * 1)) = some (.int .u8 n3)) ∧ ((16 : Int) ≠ 0) ∧ (0 ≤ (n2.tmod 16) ∧ (n2.tmod 16) ≤ (IntKind.wrap .u8 ((n3.tmod 16) + 1)) ∧ (IntKind.wrap .u8 ((n3.tmod 16) + 1)) ≤ (s_0123456789abcdef.size : Int)) ∧ ((s_0123456789abcdef.extract (IntKind.wrap .u8 (n.tdiv 16)).toNat (IntKind.wrap .u8 ((IntKind.wrap .u8 (n1.tdiv 16)) + 1)).toNat).size + (s_0123456789abcdef.extract (n2.tmod 16).toNat (IntKind.wrap .u8 ((n3.tmod 16) + 1)).toNat).size ≤ 9223372036854775807) ∧ (s.size + ((s_0123456789abcdef.extract (IntKind.wrap .u8 (n.tdiv 16)).toNat (IntKind.wrap .u8 ((IntKind.wrap .u8 (n1.tdiv 16)) + 1)).toNat) ++ (s_0123456789abcdef.extract (n2.tmod 16).toNat (IntKind.wrap .u8 ((n3.tmod 16) + 1)).toNat)).size ≤ 9223372036854775807) ∧ I (s ++ ((s_0123456789abcdef.extract (IntKind.wrap .u8 (n.tdiv 16)).toNat (IntKind.wrap .u8 ((IntKind.wrap .u8 (n1.tdiv 16)) + 1)).toNat) ++ (s_0123456789abcdef.extract (n2.tmod 16).toNat (IntKind.wrap .u8 ((n3.tmod 16) + 1)).toNat))) (IntKind.wrap .i64 (i + 1)) w01 ∧ μ (s ++ ((s_0123456789abcdef.extract (IntKind.wrap .u8 (n.tdiv 16)).toNat (IntKind.wrap .u8 ((IntKind.wrap .u8 (n1.tdiv 16)) + 1)).toNat) ++ (s_0123456789abcdef.extract (n2.tmod 16).toNat (IntKind.wrap .u8 ((n3.tmod 16) + 1)).toNat))) (IntKind.wrap .i64 (i + 1)) w01 < μ s i w0) (R s w0)
theorem Fpalletref19_Hex.calls (p : Sl) (w : World) (R : ByteArray → World → Prop) (h : Fpalletref19_Hex p w R) : Cpalletref19_Hex p w R :=
  calls_of_vc (anOp_ok callable) wide Tryd.func11 [(12, ⟨[(4, .s), (5, .i .i64)], [0, 3]⟩)] [.s] [.slice p.A p.n p.c] w R (Eq.mp (show Fpalletref19_Hex p w R = vcF Tryd.prog G Tryd.f11 [(12, ⟨[(4, .s), (5, .i .i64)], [0, 3]⟩)] [.s] [.slice p.A p.n p.c] w R by kernel_rfl) h)
/-- pallet/palletref19.Answer -/
def Fpalletref19_Answer (id_ : Int) (secret : ByteArray) (challenge : Sl) (w : World) (R : ByteArray → World → Prop) : Prop :=
  RunK Tryd.prog .sl (Instr.buildSlice 23 1 #[(0, .int .u8 id_)]) w fun xs w0 => RunK Tryd.prog .sl (Builtin.append_ #[23, 9] 23 #[.slice xs.A xs.n xs.c, .string secret]) w0 fun xs1 w01 => RunK Tryd.prog .sl (Builtin.append_ #[23, 23] 23 #[.slice xs1.A xs1.n xs1.c, .slice challenge.A challenge.n challenge.c]) w01 fun xs2 w02 => Cpalletref19_Sum xs2 w02 fun xs3 w03 => Cpalletref19_Hex xs3 w03 fun s w04 => R s w04
theorem Fpalletref19_Answer.calls (id_ : Int) (secret : ByteArray) (challenge : Sl) (w : World) (R : ByteArray → World → Prop) (h : Fpalletref19_Answer id_ secret challenge w R) : Cpalletref19_Answer id_ secret challenge w R :=
  calls_of_vc (anOp_ok callable) wide Tryd.func12 [] [.s] [.int .u8 id_, .string secret, .slice challenge.A challenge.n challenge.c] w R (Eq.mp (show Fpalletref19_Answer id_ secret challenge w R = vcF Tryd.prog G Tryd.f12 [] [.s] [.int .u8 id_, .string secret, .slice challenge.A challenge.n challenge.c] w R by kernel_rfl) h)
/-- (*pallet/login.Login).Step -/
def Flogin_Login_Step (l : Option Addr) (r : Array Value) (w : World) (R : (Array Value) → Int → World → Prop) : Prop :=
  New (.cells r 33) w fun r1 w0 => New (.cells #[.int .u8 0, .int .u8 0, .int .u8 0, .int .u8 0, .bool false, .slice none 0 0] 43) w0 fun a w01 => letX (fun (w02 : World) => ∀ w03, w03 = w02.drew → ∃ S : World → Prop, S w03 ∧ ∃ n : Int, (∀ u, S u → u.cell? (r1.add 0) = some (.int .u8 n)) ∧ l.isSome = true ∧ ∃ n1 : Int, (∀ u1, S u1 → u1.cell? ((gA l).add 6) = some (.int .u8 n1)) ∧ ∃ b : Bool, ((!(n != n1)) = true → (∀ u2, S u2 → u2.cell? (r1.add 2) = some (.bool b))) ∧ ∃ n2 : Int, ((b && (!(n != n1))) = true → (∀ u3, S u3 → u3.cell? (r1.add 1) = some (.int .u8 n2))) ∧ ∃ n3 : Int, ((b && (!(n != n1))) = true → (∀ u4, S u4 → u4.cell? (r1.add 0) = some (.int .u8 n3))) ∧ ∃ n4 : Int, (((!(decide (n2 ≤ n3))) && (b && (!(n != n1)))) = true → (∀ u5, S u5 → u5.cell? (r1.add 1) = some (.int .u8 n4))) ∧ ∃ n5 : Int, (((n4 != 1) && ((!(decide (n2 ≤ n3))) && (b && (!(n != n1))))) = true → (∀ u6, S u6 → u6.cell? (r1.add 1) = some (.int .u8 n5))) ∧ Br ((n != n1) || (b && ((decide (n2 ≤ n3)) || ((n4 != 1) && (n5 != 3))))) (Clogin_Login_fail l 0 w03 fun g n6 w04 => RunU Tryd.prog (storeVar 43 a (.agg g)) w04 fun w05 => ∃ res : Array Value, (loadVar 43 a).run Tryd.prog w05 = .ok (.agg res) w05 ∧ R res n6 w05) (∃ n7 : Int, w03.cell? (r1.add 0) = some (.int .u8 n7) ∧ ((n7 == 1) = true → l.isSome = true) ∧ ∃ b1 : Bool, ((n7 == 1) = true → w03.cell? ((gA l).add 9) = some (.bool b1)) ∧ Br ((n7 == 1) && (!b1)) (Clogin_Login_fail l 1 w03 fun g1 n8 w06 => RunU Tryd.prog (storeVar 43 a (.agg g1)) w06 fun w07 => ∃ res1 : Array Value, (loadVar 43 a).run Tryd.prog w07 = .ok (.agg res1) w07 ∧ R res1 n8 w07) (∃ n9 : Int, w03.cell? (r1.add 0) = some (.int .u8 n9) ∧ New (.cells #[.int .u8 0, .int .u8 0, .int .u8 0, .int .u8 0, .bool false, .slice none 0 0] 43) w03 fun a1 w08 => RunU Tryd.prog (storeVar 43 a1 (.agg #[.int .u8 0, .int .u8 0, .int .u8 n9, .int .u8 0, .bool false, .slice none 0 0])) w08 fun w09 => ∃ xs : Sl, w09.cell? (r1.add 3) = some (.slice xs.A xs.n xs.c) ∧ ∃ (I : Int → World → Prop) (μ : Int → World → Nat), I 0 w09 ∧ ∀ (x : Int) (w010 : World), I x w010 → Br (decide (x < (xs.n : Int))) ((0 ≤ x ∧ x < (xs.n : Int) ∧ xs.A.isSome = true) ∧ ∃ g2 : Array Value, (loadVar 35 ((gA xs.A).add (x.toNat * 2))).run Tryd.prog w010 = .ok (.agg g2) w010 ∧ New (.cells #[.string ⟨#[]⟩, .string ⟨#[]⟩] 35) w010 fun k w011 => RunU Tryd.prog (storeVar 35 k (.agg g2)) w011 fun w012 => ∃ g3 : Array Value, (loadVar 35 k).run Tryd.prog w012 = .ok (.agg g3) w012 ∧ ∃ xs1 : Sl, w012.cell? (r1.add 3) = some (.slice xs1.A xs1.n xs1.c) ∧ Clogin_Login_key l g3 xs1 w012 fun xs2 b2 w013 => Br (!b2) (Clogin_Login_fail l 1 w013 fun g4 n10 w014 => RunU Tryd.prog (storeVar 43 a (.agg g4)) w014 fun w015 => ∃ res2 : Array Value, (loadVar 43 a).run Tryd.prog w015 = .ok (.agg res2) w015 ∧ R res2 n10 w015) (∃ xs3 : Sl, w013.cell? (a1.add 5) = some (.slice xs3.A xs3.n xs3.c) ∧ RunK Tryd.prog .sl (Builtin.append_ #[31, 31] 31 #[.slice xs3.A xs3.n xs3.c, .slice xs2.A xs2.n xs2.c]) w013 fun xs4 w016 => Put (a1.add 5) (.slice xs4.A xs4.n xs4.c) w016 fun w017 => I (IntKind.wrap .i64 (x + 1)) w017 ∧ μ (IntKind.wrap .i64 (x + 1)) w017 < μ x w010)) (∃ b3 : Bool, w010.cell? (r1.add 2) = some (.bool b3) ∧ (b3 = true → l.isSome = true) ∧ ∃ b4 : Bool, (b3 = true → w010.cell? ((gA l).add 9) = some (.bool b4)) ∧ letX (fun (w018 : World) => ∃ g5 : Array Value, (loadVar 43 a1).run Tryd.prog w018 = .ok (.agg g5) w018 ∧ RunU Tryd.prog (storeVar 43 a (.agg g5)) w018 fun w019 => ∃ res3 : Array Value, (loadVar 43 a).run Tryd.prog w019 = .ok (.agg res3) w019 ∧ R res3 0 w019) fun J_ => Br (b3 && b4) (∀ w020, w020 = w010.drew → ∃ S1 : World → Prop, S1 w020 ∧ ∃ n11 : Int, (∀ u7, S1 u7 → u7.cell? (r1.add 1) = some (.int .u8 n11)) ∧ ∃ n12 : Int, (∀ u8, S1 u8 → u8.cell? (r1.add 1) = some (.int .u8 n12)) ∧ Put (a1.add 4) (.bool true) w020 fun w021 => S1 w021 ∧ Put (a1.add 3) (.int .u8 n11) w021 fun w022 => S1 w022 ∧ l.isSome = true ∧ Put ((gA l).add 6) (.int .u8 n12) w022 fun w023 => ∃ n13 : Int, w023.cell? (r1.add 1) = some (.int .u8 n13) ∧ l.isSome = true ∧ Put ((gA l).add 11) (.bool (n13 == 3)) w023 fun w024 => l.isSome = true ∧ ∃ b5 : Bool, w024.cell? ((gA l).add 11) = some (.bool b5) ∧ l.isSome = true ∧ Put ((gA l).add 10) (.bool b5) w024 fun w025 => J_ w025) (J_ w010))))) fun J_1 => Br ((l).isNone) (RunU Tryd.prog (storeVar 43 a (.agg #[.int .u8 0, .int .u8 0, .int .u8 0, .int .u8 0, .bool false, .slice none 0 0])) w01 fun w027 => ∃ res4 : Array Value, (loadVar 43 a).run Tryd.prog w027 = .ok (.agg res4) w027 ∧ R res4 8 w027) (l.isSome = true ∧ ∃ b6 : Bool, w01.cell? ((gA l).add 10) = some (.bool b6) ∧ Br b6 (RunU Tryd.prog (storeVar 43 a (.agg #[.int .u8 0, .int .u8 0, .int .u8 0, .int .u8 0, .bool false, .slice none 0 0])) w01 fun w029 => ∃ res5 : Array Value, (loadVar 43 a).run Tryd.prog w029 = .ok (.agg res5) w029 ∧ R res5 12 w029) (l.isSome = true ∧ ∃ b7 : Bool, w01.cell? ((gA l).add 5) = some (.bool b7) ∧ Br (!b7) (∀ w031, w031 = w01.drew → ∃ S2 : World → Prop, S2 w031 ∧ ∃ n14 : Int, (∀ u9, S2 u9 → u9.cell? (r1.add 0) = some (.int .u8 n14)) ∧ l.isSome = true ∧ Put ((gA l).add 5) (.bool true) w031 fun w032 => S2 w032 ∧ l.isSome = true ∧ Put ((gA l).add 6) (.int .u8 n14) w032 fun w033 => ∃ n15 : Int, w033.cell? (r1.add 0) = some (.int .u8 n15) ∧ Br (decide (n15 > 1)) (Clogin_Login_fail l 0 w033 fun g6 n16 w034 => RunU Tryd.prog (storeVar 43 a (.agg g6)) w034 fun w035 => ∃ res6 : Array Value, (loadVar 43 a).run Tryd.prog w035 = .ok (.agg res6) w035 ∧ R res6 n16 w035) (∃ xs5 : Sl, w033.cell? (r1.add 3) = some (.slice xs5.A xs5.n xs5.c) ∧ Clogin_Login_first l xs5 w033 fun n17 w036 => Br (n17 != 255) (Clogin_Login_fail l n17 w036 fun g7 n18 w037 => RunU Tryd.prog (storeVar 43 a (.agg g7)) w037 fun w038 => ∃ res7 : Array Value, (loadVar 43 a).run Tryd.prog w038 = .ok (.agg res7) w038 ∧ R res7 n18 w038) (J_1 w036))) (J_1 w01)))
theorem Flogin_Login_Step.calls (l : Option Addr) (r : Array Value) (w : World) (R : (Array Value) → Int → World → Prop) (h : Flogin_Login_Step l r w R) : Clogin_Login_Step l r w R :=
  calls_of_vc (anOp_ok callable) wide Tryd.func13 [(54, ⟨[(108, .i .i64)], [0, 3, 4, 7, 106, 107]⟩), (79, ⟨[], [4, 7]⟩), (2, ⟨[], [0, 3, 4]⟩)] [.ag, .i .i64] [.pointer l, .agg r] w R (Eq.mp (show Flogin_Login_Step l r w R = vcF Tryd.prog G Tryd.f13 [(54, ⟨[(108, .i .i64)], [0, 3, 4, 7, 106, 107]⟩), (79, ⟨[], [4, 7]⟩), (2, ⟨[], [0, 3, 4]⟩)] [.ag, .i .i64] [.pointer l, .agg r] w R by kernel_rfl) h)
/-- (*pallet/login.Login).Done -/
def Flogin_Login_Done (l : Option Addr) (w : World) (R : Bool → World → Prop) : Prop :=
  ((!(l).isNone) = true → l.isSome = true) ∧ ∃ b : Bool, ((!(l).isNone) = true → w.cell? ((gA l).add 11) = some (.bool b)) ∧ R ((!(l).isNone) && b) w
theorem Flogin_Login_Done.calls (l : Option Addr) (w : World) (R : Bool → World → Prop) (h : Flogin_Login_Done l w R) : Clogin_Login_Done l w R :=
  calls_of_vc (anOp_ok callable) wide Tryd.func14 [] [.b] [.pointer l] w R (Eq.mp (show Flogin_Login_Done l w R = vcF Tryd.prog G Tryd.f14 [] [.b] [.pointer l] w R by kernel_rfl) h)
/-- pallet/palletlaw20.hello -/
def Fpalletlaw20_hello (more : Sl) (w : World) (R : Sl → World → Prop) : Prop :=
  RunK Tryd.prog .sl (Instr.buildSlice 31 2 #[(0, .agg #[.string s_InitiatorName, .string s_i]), (1, .agg #[.string s_TargetName, .string s_t])]) w fun xs w0 => RunK Tryd.prog .sl (Builtin.append_ #[31, 31] 31 #[.slice xs.A xs.n xs.c, .slice more.A more.n more.c]) w0 fun xs1 w01 => R xs1 w01
theorem Fpalletlaw20_hello.calls (more : Sl) (w : World) (R : Sl → World → Prop) (h : Fpalletlaw20_hello more w R) : Cpalletlaw20_hello more w R :=
  calls_of_vc (anOp_ok callable) wide Tryd.func15 [] [.sl] [.slice more.A more.n more.c] w R (Eq.mp (show Fpalletlaw20_hello more w R = vcF Tryd.prog G Tryd.f15 [] [.sl] [.slice more.A more.n more.c] w R by kernel_rfl) h)
/-- pallet/palletref18.Find -/
def Fpalletref18_Find (l : Sl) (k : ByteArray) (w : World) (R : ByteArray → Bool → World → Prop) : Prop :=
  ∃ (I : Int → World → Prop) (μ : Int → World → Nat), I 0 w ∧ ∀ (i : Int) (w0 : World), I i w0 → Br (decide (i < (l.n : Int))) ((0 ≤ i ∧ i < (l.n : Int) ∧ l.A.isSome = true) ∧ ∃ s : ByteArray, w0.cell? (((gA l.A).add (i.toNat * 2)).add 0) = some (.string s) ∧ Br (sEq s k) ((0 ≤ i ∧ i < (l.n : Int) ∧ l.A.isSome = true) ∧ ∃ s1 : ByteArray, w0.cell? (((gA l.A).add (i.toNat * 2)).add 1) = some (.string s1) ∧ R s1 true w0) (I (IntKind.wrap .i64 (i + 1)) w0 ∧ μ (IntKind.wrap .i64 (i + 1)) w0 < μ i w0)) (R ⟨#[]⟩ false w0)
theorem Fpalletref18_Find.calls (l : Sl) (k : ByteArray) (w : World) (R : ByteArray → Bool → World → Prop) (h : Fpalletref18_Find l k w R) : Cpalletref18_Find l k w R :=
  calls_of_vc (anOp_ok callable) wide Tryd.func16 [(6, ⟨[(6, .i .i64)], [0, 1]⟩)] [.s, .b] [.slice l.A l.n l.c, .string k] w R (Eq.mp (show Fpalletref18_Find l k w R = vcF Tryd.prog G Tryd.f16 [(6, ⟨[(6, .i .i64)], [0, 1]⟩)] [.s, .b] [.slice l.A l.n l.c, .string k] w R by kernel_rfl) h)
/-- pallet/palletref18.Number -/
def Fpalletref18_Number (s : ByteArray) (w : World) (R : Int → Bool → World → Prop) : Prop :=
  (decide ((s.size : Int) > 1) = true → (0 ≤ (0 : Int) ∧ (0 : Int) < (s.size : Int))) ∧ letX (fun (s1 : ByteArray) (base : Int) (w0 : World) => Br ((s1.size : Int) == 0) (R 0 false w0) (∃ (I : Int → Int → World → Prop) (μ : Int → Int → World → Nat), I 0 0 w0 ∧ ∀ (n : Int) (i : Int) (w01 : World), I n i w01 → Br (decide (i < (s1.size : Int))) (letX (fun (n1 : Int) (w02 : World) => I n1 (IntKind.wrap .i64 (i + 1)) w02 ∧ μ n1 (IntKind.wrap .i64 (i + 1)) w02 < μ n i w01) fun J_ => (0 ≤ i ∧ i < (s1.size : Int)) ∧ letX (fun (d : Int) (w03 : World) => ((!(decide (d ≥ base))) = true → (base ≠ 0)) ∧ Br ((decide (d ≥ base)) || (decide (n > (IntKind.wrap .u64 ((IntKind.wrap .u64 (18446744073709551615 - d)).tdiv base))))) (R 0 false w03) (J_ (IntKind.wrap .u64 ((IntKind.wrap .u64 (n * base)) + d)) w03)) fun J_1 => Br ((decide ((bt s1 i) ≥ 48)) && (decide ((bt s1 i) ≤ 57))) (J_1 (IntKind.wrap .u64 (IntKind.wrap .u8 ((bt s1 i) - 48))) w01) (Br ((decide ((bt s1 i) ≥ 97)) && (decide ((bt s1 i) ≤ 102))) (J_1 (IntKind.wrap .u64 ((IntKind.wrap .u64 (IntKind.wrap .u8 ((bt s1 i) - 97))) + 10)) w01) (Br ((decide ((bt s1 i) ≥ 65)) && (decide ((bt s1 i) ≤ 70))) (J_1 (IntKind.wrap .u64 ((IntKind.wrap .u64 (IntKind.wrap .u8 ((bt s1 i) - 65))) + 10)) w01) (J_1 99 w01)))) (R n true w01))) fun J_2 => Br ((decide ((s.size : Int) > 1)) && ((bt s 0) == 48)) ((0 ≤ (1 : Int) ∧ (1 : Int) < (s.size : Int)) ∧ Br ((bt s 1) != 120) (R 0 false w) ((0 ≤ (2 : Int) ∧ (2 : Int) ≤ (s.size : Int) ∧ (s.size : Int) ≤ (s.size : Int)) ∧ J_2 (s.extract 2 ((s.size : Int)).toNat) 16 w)) (J_2 s 10 w)
theorem Fpalletref18_Number.calls (s : ByteArray) (w : World) (R : Int → Bool → World → Prop) (h : Fpalletref18_Number s w R) : Cpalletref18_Number s w R :=
  calls_of_vc (anOp_ok callable) wide Tryd.func17 [(33, ⟨[(5, .i .u64), (6, .i .i64)], [0, 4]⟩), (5, ⟨[(5, .i .u64)], [0, 4, 6]⟩), (8, ⟨[(7, .i .u64)], [0, 4, 5, 6]⟩), (10, ⟨[(0, .s), (4, .i .u64)], []⟩)] [.i .u64, .b] [.string s] w R (Eq.mp (show Fpalletref18_Number s w R = vcF Tryd.prog G Tryd.f17 [(33, ⟨[(5, .i .u64), (6, .i .i64)], [0, 4]⟩), (5, ⟨[(5, .i .u64)], [0, 4, 6]⟩), (8, ⟨[(7, .i .u64)], [0, 4, 5, 6]⟩), (10, ⟨[(0, .s), (4, .i .u64)], []⟩)] [.i .u64, .b] [.string s] w R by kernel_rfl) h)
/-- (*pallet/login.Login).Over -/
def Flogin_Login_Over (l : Option Addr) (w : World) (R : Bool → World → Prop) : Prop :=
  ((!(l).isNone) = true → l.isSome = true) ∧ ∃ b : Bool, ((!(l).isNone) = true → w.cell? ((gA l).add 10) = some (.bool b)) ∧ R ((!(l).isNone) && b) w
theorem Flogin_Login_Over.calls (l : Option Addr) (w : World) (R : Bool → World → Prop) (h : Flogin_Login_Over l w R) : Clogin_Login_Over l w R :=
  calls_of_vc (anOp_ok callable) wide Tryd.func18 [] [.b] [.pointer l] w R (Eq.mp (show Flogin_Login_Over l w R = vcF Tryd.prog G Tryd.f18 [] [.b] [.pointer l] w R by kernel_rfl) h)
/-- pallet/palletref18.First -/
def Fpalletref18_First (offer : ByteArray) (own : Sl) (w : World) (R : ByteArray → World → Prop) : Prop :=
  ∃ (I : Int → Int → World → Prop) (μ : Int → Int → World → Nat), I 0 0 w ∧ ∀ (from_ : Int) (i : Int) (w0 : World), I from_ i w0 → Br (decide (i ≤ (offer.size : Int))) (letX (fun (from_1 : Int) (w01 : World) => I from_1 (IntKind.wrap .i64 (i + 1)) w01 ∧ μ from_1 (IntKind.wrap .i64 (i + 1)) w01 < μ from_ i w0) fun J_ => (decide (i < (offer.size : Int)) = true → (0 ≤ i ∧ i < (offer.size : Int))) ∧ Br ((decide (i < (offer.size : Int))) && ((bt offer i) != 44)) (J_ from_ w0) (∃ (I1 : Int → World → Prop) (μ1 : Int → World → Nat), I1 0 w0 ∧ ∀ (j : Int) (w02 : World), I1 j w02 → Br (decide (j < (own.n : Int))) (∀ w03, w03 = w02.drew → ∃ S : World → Prop, S w03 ∧ (0 ≤ j ∧ j < (own.n : Int) ∧ own.A.isSome = true) ∧ ∃ s : ByteArray, (∀ u, S u → u.cell? ((gA own.A).add (j.toNat * 1)) = some (.string s)) ∧ (0 ≤ from_ ∧ from_ ≤ i ∧ i ≤ (offer.size : Int)) ∧ Br (sEq s (offer.extract from_.toNat i.toNat)) ((0 ≤ j ∧ j < (own.n : Int) ∧ own.A.isSome = true) ∧ ∃ s1 : ByteArray, w03.cell? ((gA own.A).add (j.toNat * 1)) = some (.string s1) ∧ R s1 w03) (I1 (IntKind.wrap .i64 (j + 1)) w03 ∧ μ1 (IntKind.wrap .i64 (j + 1)) w03 < μ1 j w02)) (J_ (IntKind.wrap .i64 (i + 1)) w02))) (R s_Reject w0)
theorem Fpalletref18_First.calls (offer : ByteArray) (own : Sl) (w : World) (R : ByteArray → World → Prop) (h : Fpalletref18_First offer own w R) : Cpalletref18_First offer own w R :=
  calls_of_vc (anOp_ok callable) wide Tryd.func19 [(9, ⟨[(5, .i .i64), (6, .i .i64)], [0, 1]⟩), (5, ⟨[(5, .i .i64)], [0, 1, 6]⟩), (21, ⟨[(7, .i .i64)], [0, 1, 5, 6]⟩)] [.s] [.string offer, .slice own.A own.n own.c] w R (Eq.mp (show Fpalletref18_First offer own w R = vcF Tryd.prog G Tryd.f19 [(9, ⟨[(5, .i .i64), (6, .i .i64)], [0, 1]⟩), (5, ⟨[(5, .i .i64)], [0, 1, 6]⟩), (21, ⟨[(7, .i .i64)], [0, 1, 5, 6]⟩)] [.s] [.string offer, .slice own.A own.n own.c] w R by kernel_rfl) h)
/-- (*pallet/login.Login).Params -/
def Flogin_Login_Params (l : Option Addr) (w : World) (R : (Array Value) → World → Prop) : Prop :=
  New (.cells #[.string ⟨#[]⟩, .string ⟨#[]⟩, .bool false, .bool false, .bool false, .int .i64 0, .int .i64 0, .int .i64 0, .bool false, .bool false] 57) w fun a w0 => Br ((l).isNone) (RunU Tryd.prog (storeVar 57 a (.agg #[.string ⟨#[]⟩, .string ⟨#[]⟩, .bool false, .bool false, .bool false, .int .i64 0, .int .i64 0, .int .i64 0, .bool false, .bool false])) w0 fun w01 => ∃ res : Array Value, (loadVar 57 a).run Tryd.prog w01 = .ok (.agg res) w01 ∧ R res w01) (l.isSome = true ∧ ∃ g : Array Value, (loadVar 57 ((gA l).add 12)).run Tryd.prog w0 = .ok (.agg g) w0 ∧ RunU Tryd.prog (storeVar 57 a (.agg g)) w0 fun w02 => ∃ res1 : Array Value, (loadVar 57 a).run Tryd.prog w02 = .ok (.agg res1) w02 ∧ R res1 w02)
theorem Flogin_Login_Params.calls (l : Option Addr) (w : World) (R : (Array Value) → World → Prop) (h : Flogin_Login_Params l w R) : Clogin_Login_Params l w R :=
  calls_of_vc (anOp_ok callable) wide Tryd.func20 [] [.ag] [.pointer l] w R (Eq.mp (show Flogin_Login_Params l w R = vcF Tryd.prog G Tryd.f20 [] [.ag] [.pointer l] w R by kernel_rfl) h)
/-- slices.Clone[[]string,string] -/
def Fslices_Clone_string_string (s : Sl) (w : World) (R : Sl → World → Prop) : Prop :=
  Br s.A.isNone (R (⟨none, 0, 0⟩ : Sl) w) (RunK Tryd.prog .sl (Instr.buildSlice 28 0 #[]) w fun xs w0 => RunK Tryd.prog .sl (Builtin.append_ #[28, 28] 28 #[.slice xs.A xs.n xs.c, .slice s.A s.n s.c]) w0 fun xs1 w01 => R xs1 w01)
theorem Fslices_Clone_string_string.calls (s : Sl) (w : World) (R : Sl → World → Prop) (h : Fslices_Clone_string_string s w R) : Cslices_Clone_string_string s w R :=
  calls_of_vc (anOp_ok callable) wide Tryd.func21 [] [.sl] [.slice s.A s.n s.c] w R (Eq.mp (show Fslices_Clone_string_string s w R = vcF Tryd.prog G Tryd.f21 [] [.sl] [.slice s.A s.n s.c] w R by kernel_rfl) h)
/-- slices.Clone[[]pallet/login.User,pallet/login.User] -/
def Fslices_Clone_login_User_login_User (s : Sl) (w : World) (R : Sl → World → Prop) : Prop :=
  Br s.A.isNone (R (⟨none, 0, 0⟩ : Sl) w) (RunK Tryd.prog .sl (Instr.buildSlice 22 0 #[]) w fun xs w0 => RunK Tryd.prog .sl (Builtin.append_ #[22, 22] 22 #[.slice xs.A xs.n xs.c, .slice s.A s.n s.c]) w0 fun xs1 w01 => R xs1 w01)
theorem Fslices_Clone_login_User_login_User.calls (s : Sl) (w : World) (R : Sl → World → Prop) (h : Fslices_Clone_login_User_login_User s w R) : Cslices_Clone_login_User_login_User s w R :=
  calls_of_vc (anOp_ok callable) wide Tryd.func22 [] [.sl] [.slice s.A s.n s.c] w R (Eq.mp (show Fslices_Clone_login_User_login_User s w R = vcF Tryd.prog G Tryd.f22 [] [.sl] [.slice s.A s.n s.c] w R by kernel_rfl) h)
/-- pallet/palletref19.value -/
def Fpalletref19_value (c : Int) (w : World) (R : Int → World → Prop) : Prop :=
  ∃ (I : Int → World → Prop) (μ : Int → World → Nat), I 0 w ∧ ∀ (i : Int) (w0 : World), I i w0 → Br (decide (i < 16)) ((0 ≤ i ∧ i < (s_0123456789abcdef.size : Int)) ∧ ((!((bt s_0123456789abcdef i) == c)) = true → (0 ≤ i ∧ i < (s_0123456789ABCDEF.size : Int))) ∧ Br (((bt s_0123456789abcdef i) == c) || ((bt s_0123456789ABCDEF i) == c)) (R i w0) (I (IntKind.wrap .i64 (i + 1)) w0 ∧ μ (IntKind.wrap .i64 (i + 1)) w0 < μ i w0)) (R (-1) w0)
theorem Fpalletref19_value.calls (c : Int) (w : World) (R : Int → World → Prop) (h : Fpalletref19_value c w R) : Cpalletref19_value c w R :=
  calls_of_vc (anOp_ok callable) wide Tryd.func23 [(12, ⟨[(5, .i .i64)], [0, 3, 4]⟩)] [.i .i64] [.int .u8 c] w R (Eq.mp (show Fpalletref19_value c w R = vcF Tryd.prog G Tryd.f23 [(12, ⟨[(5, .i .i64)], [0, 3, 4]⟩)] [.i .i64] [.int .u8 c] w R by kernel_rfl) h)
end Go.Proofs.YtjfjanogfakclaaDoor
