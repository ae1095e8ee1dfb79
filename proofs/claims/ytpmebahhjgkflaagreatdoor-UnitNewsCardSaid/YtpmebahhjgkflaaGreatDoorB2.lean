import Derived.Lib.SlBytesConst
import Derived.Lib.AppendStr
import Derived.WalkKit
import Derived.ProofKit
import Derived.OpenShut
import Derived.ShutString
import Derived.ChangeOld
import Derived.Below
import Derived.SizedLaws
import Derived.MapKept
import Derived.Laws.CopyRow
import Derived.Laws.IdiomCopy
import Derived.Test.YtpmebahhjgkflaaGreatDoorProg
import Derived.Test.YtpmebahhjgkflaaGreatDoorB1
/- More rules of memory: bytes of a constant, elements of slices. -/
namespace Go.Proofs.YtpmebahhjgkflaaGreatDoor.CF
open Go Go.RowKit
set_option maxRecDepth 100000

open Go.Lib in
theorem strCells_bv (l : L8) : strCells (str l) = bv l := rfl
open Go.Lib in
theorem append_str_at {P : Program} {w : World} (base : Nat) (t u ty e : TypeId) (i : TypeInfo) (ht : P.underlying t = some (.slice e)) (hu : P.underlying u = some .string) (hi : P.info? e = some i) (hz : i.zero = some (.int .u8 0))
    (hsize : i.size = 1) (hby : i.bytes = 1) (o : Sl) (xs : List Value) (hown : Own w base e 1 o xs) (s : ByteArray) (hbytes : o.n + s.size ≤ 140737488355328) (hbase : base ≤ w.heap.size) :
    ∃ (o' : Sl) (w' : World), (Builtin.append_ #[t, u] ty #[.slice o.A o.n o.c, .string s]).run P w = .ok (.slice o'.A o'.n o'.c) w' ∧ o'.n = o.n + s.size ∧ Own w' base e 1 o' (xs ++ strCells s) ∧ Keep (fun k => some k = o.blk) w w' ∧
      (o'.blk = o.blk ∨ o'.blk = some w.heap.size) := by
  have hxl : xs.length = o.n := by simpa using hown.1
  have hlen : (xs ++ strCells s).length = (o.n + s.size) * 1 := by rw [List.length_append, hxl, strCells_length, Nat.mul_one]
  have hmx : (140737488355328 : Nat) ≤ maxLen := by unfold maxLen; omega
  have grown : ∀ (old : Nat), old < o.n + s.size → ∀ (row : Option Nat),
      (w.drew.alloc (.cells (xs.toArray ++ (strCells s).toArray ++ Builtin.zeroCells (Value.int .u8 0).cells (grownCap w (o.n + s.size) old e - (o.n + s.size))) e)).ownsRow base e 1
        (.slice (some ⟨w.heap.size, 0, none⟩) (o.n + s.size) (grownCap w (o.n + s.size) old e)) (o.n + s.size) (xs ++ strCells s) ∧
      Keep (fun k => some k = row) w (w.drew.alloc (.cells (xs.toArray ++ (strCells s).toArray ++ Builtin.zeroCells (Value.int .u8 0).cells (grownCap w (o.n + s.size) old e - (o.n + s.size))) e)) := by
    intro old ho row
    have hge := grownCap_ge w (o.n + s.size) old e
    have hcm : grownCap w (o.n + s.size) old e ≤ maxLen := grownCap_le_maxLen w (o.n + s.size) old e (by omega)
    refine ⟨⟨hlen, .inr ⟨w.heap.size, _, _, rfl, hbase, heap_alloc_new w.drew _, hge, hcm, ?_, ?_⟩⟩, ⟨rfl, rfl, rfl, by simp, fun k hk _ => heap_alloc_lt w.drew _ k hk⟩⟩
    · have hz1 : (Value.int IntKind.u8 0).cells.size = 1 := rfl
      simp only [Array.size_append, List.size_toArray, size_zeroCells, hz1, hxl, strCells_length]
      omega
    · simp only [Array.toList_append, List.append_assoc]
      rw [← List.append_assoc, ← hlen]
      exact List.take_left
  rcases hown.2 with ⟨h0, hn0⟩ | ⟨g, cap, cur, hv, hbg, hg, hnc, hcm, hcs, htake⟩
  · injection h0 with hA hN hC
    obtain ⟨A, n, c⟩ := o
    simp only at hA hN hC hn0 hxl grown hbytes hlen
    subst hA; subst hN; subst hC
    have hx : xs = [] := List.eq_nil_of_length_eq_zero hxl
    subst hx
    by_cases hm : s.size = 0
    · have hn : strCells s = [] := List.eq_nil_of_length_eq_zero (by rw [strCells_length]; exact hm)
      refine ⟨⟨none, 0, 0⟩, w, ?_, by simp [hm], by rw [hn]; exact own_nil w base e 1, Keep.refl _ _, .inl rfl⟩
      have hf := run_firstCells_string (P := P) w 1 s
      rw [hm] at hf
      simp [Builtin.append_, run_underlying ht, run_underlying hu, sizeOf, typeInfo, hi, hsize, Builtin.lenOf, hm, hf]
    · have hr := run_append_nil_string (P := P) w t u ty e i (.int .u8 0) ht hu hi hz s (by omega) (by omega) (by rw [hby]; omega)
      have hgr := grown 0 (by omega) none
      simp only [Nat.zero_add, List.nil_append, Array.empty_append] at hgr
      have e1 : (s.data.map fun b => Value.int .u8 b.toNat) = (strCells s).toArray := by
        apply Array.ext'
        simp [strCells]
      rw [e1] at hr
      refine ⟨⟨some ⟨w.heap.size, 0, none⟩, s.size, _⟩, _, hr, by simp, hgr.1, hgr.2, .inr rfl⟩
  · injection hv with hA hN hC
    obtain ⟨A, n, c⟩ := o
    simp only at hA hN hC hnc hcm hcs htake hxl grown hbytes hlen
    subst hA; subst hC
    by_cases hroom : n + s.size ≤ c
    · have hcs' : cur.size = c := by simpa using hcs
      have hr := run_append_room_string (P := P) w t u ty e i ht hu hi hsize g n c cur hg s hroom (by omega)
      refine ⟨⟨some ⟨g, 0, none⟩, n + s.size, c⟩, _, hr, rfl, ⟨hlen, .inr ⟨g, c, _, rfl, hbg, setRow_heap w g cur _ e _ hg, hroom, hcm, ?_, ?_⟩⟩, ⟨rfl, rfl, rfl, by simp, fun k _ hk => setRow_other w g k _ (fun e => hk (by simp [Sl.blk, e]))⟩, .inl rfl⟩
      · simp only [List.size_toArray, List.length_append, List.length_take, List.length_drop, Array.length_toList, strCells_length]
        omega
      · have ht' : cur.toList.take n = xs := by simpa using htake
        rw [ht', ← hlen]
        exact List.take_left
    · have holds : ∀ j u, xs[j]? = some u → w.cell? ((⟨g, 0, none⟩ : Addr).add j) = some u := World.ownsRow.cells hown (g := g) rfl
      have hr := run_append_grow_string (P := P) w t u ty e i (.int .u8 0) ht hu hi hz ⟨g, 0, none⟩ n c xs (by rw [hsize]; simpa using hxl) holds s (by omega) (by omega) (by rw [hby]; exact growslice_fits (by omega) (by omega))
      have hgr := grown c (by omega) (some g)
      exact ⟨⟨some ⟨w.heap.size, 0, none⟩, n + s.size, _⟩, _, hr, rfl, hgr.1, hgr.2, .inr rfl⟩
/-- the bytes of a string, behind a row of one's own -/
theorem append_str_rule {P : Program} {w : World} {base : Nat} {t u ty e : TypeId} (ht : P.underlying t = some (.slice e)) (hu : P.underlying u = some .string)
    (hinfo : (P.info? e).map (fun i => (i.zero, i.size, i.bytes)) = some (some (.int .u8 0), 1, 1)) {o : Sl} {vs l : L8} (hs : Own w base e 1 o (bv vs)) (hbd : o.n + l.length ≤ 140737488355328) (hbase : base ≤ w.heap.size)
    {K : Sl → World → Prop} (h : ∀ o' w', o'.n = o.n + l.length → Own w' base e 1 o' (bv (vs ++ l)) → Keep (fun k => some k = o.blk) w w' → (o'.blk = o.blk ∨ o'.blk = some w.heap.size) → K o' w') :
    RunK P .sl (Builtin.append_ #[t, u] ty #[.slice o.A o.n o.c, .string (str l)]) w K := by
  obtain ⟨i, hi, hzz⟩ := Option.map_eq_some_iff.1 hinfo
  simp only [Prod.mk.injEq] at hzz
  obtain ⟨o', w', hr, hn, hown, hk, hat⟩ := append_str_at base t u ty e i ht hu hi hzz.1 hzz.2.1 hzz.2.2 o (bv vs) hs (str l) (by rw [size_str]; exact hbd) hbase
  refine ⟨o', w', hr, h o' w' (by rw [hn, size_str]) ?_ hk hat⟩
  rw [bv_append, ← strCells_bv l]
  exact hown
/-! ### a row that grows by strings and bytes, in any order of their making -/
section
variable {P : Program} {w : World} {t e : TypeId} {pb : Nat} {pcs : Array Value} {pt : TypeId} {u : World} {o : Sl} {os : L8} {lits : List (Sl × UInt8)}
end
end Go.Proofs.YtpmebahhjgkflaaGreatDoor.CF

/- Arguments, opened: rows of things, plain structs. -/
namespace Go.Proofs.YtpmebahhjgkflaaGreatDoor.CF
open Go Go.RowKit
set_option maxRecDepth 100000

section
variable {H : Type} {enc : TypeId × Value → H} {P : Program} {w : World} {base : Nat} {spare : Nat → Bool} {held : Bool}
/-- its weights are within reach -/
def Light (P : Program) (t : TypeId) (d : DataW H) : Prop := ∀ m ∈ d.weights P t, m ≤ reachBytes
/-- what a reading of a type's cells tells -/
def Opens (enc : TypeId × Value → H) (P : Program) (w : World) (base : Nat) (spare : Nat → Bool) (held : Bool) (t : TypeId) (Φ : List Value → Prop) : Prop :=
  ∀ n cs x, DataW.trod enc P w base spare held n t cs = some x → Light P t x.1 → Φ cs
theorem mem_weightsAll {e : TypeId} : ∀ {ds : List (DataW H)} {d : DataW H}, d ∈ ds → ∀ m ∈ d.weights P e, m ∈ DataW.weightsAll P e ds
  | d0 :: ds, d, hd, m, hm => by
    simp only [DataW.weightsAll, List.mem_append]
    rcases List.mem_cons.1 hd with rfl | h
    · exact .inl hm
    · exact .inr (mem_weightsAll h m hm)
theorem cells_of {a : Addr} {n : Nat} {vs : List Value} (h : w.cells? base a n = some vs) : vs.length = n ∧ Cells w a vs := by
  unfold World.cells? at h
  split at h
  · have hl := mapM_some_length h
    simp at hl
    refine ⟨hl, fun j v hj => ?_⟩
    have hjn : j < n := by have := (List.getElem?_eq_some_iff.1 hj).1; omega
    have := mapM_some_get h j j (by simp [hjn])
    rw [this, hj]
  · cases h
theorem opens_bool {t : TypeId} (ht : P.underlying t = some .bool) : Opens enc P w base spare held t fun cs => ∃ b, cs = [.bool b] := fun _ _ _ h _ => by
  obtain ⟨b, hb, _⟩ := DataW.trod_bool ht h; exact ⟨b, hb⟩
theorem opens_int {t : TypeId} {k : IntKind} (ht : P.underlying t = some (.int k)) : Opens enc P w base spare held t fun cs => ∃ n, cs = [.int k n] ∧ (Lit.int k n).wf = true := fun _ _ _ h _ => by
  obtain ⟨n, hn, _, hw⟩ := DataW.trod_int ht h; exact ⟨n, hn, hw⟩
theorem opens_str {t : TypeId} (ht : P.underlying t = some .string) : Opens enc P w base spare held t fun cs => ∃ l : L8, cs = [.string (str l)] ∧ l.length ≤ 140737488351232 := fun _ _ x h hl => by
  obtain ⟨s, hs, hx, _⟩ := DataW.trod_string ht h
  refine ⟨ls s, by rw [hs, str_ls], ?_⟩
  have := hl (ls s).length (by rw [hx]; simp [DataW.weights, ls])
  exact this
theorem opens_u8 {t : TypeId} (ht : P.underlying t = some (.int .u8)) : Opens enc P w base spare held t fun cs => ∃ b : UInt8, cs = [.int .u8 (b.toNat : Int)] := fun n cs x h hl => by
  obtain ⟨z, hz, hw⟩ := opens_int ht n cs x h hl
  simp [Lit.wf, IntKind.min, IntKind.max, IntKind.signed, IntKind.bits] at hw
  refine ⟨UInt8.ofNat z.toNat, ?_⟩
  rw [hz]
  congr 2
  rw [UInt8.toNat_ofNat']
  omega
theorem opens_array {t e : TypeId} {k : Nat} (ht : P.underlying t = some (.array k e)) {φ : List Value → Prop} (hf : Opens enc P w base spare held e φ) :
    Opens enc P w base spare held t fun cs => cs.length = P.cellsOf t ∧ ∀ i, i < k → φ ((cs.drop (i * P.cellsOf e)).take (P.cellsOf e)) := fun n cs x h hw => by
  obtain ⟨xs, n', _, hx, hcl, hxl, heach⟩ := DataW.trod_array ht h
  refine ⟨hcl, fun i hi => ?_⟩
  have hi' : i < xs.length := by omega
  have he := heach i hi
  rw [List.getElem?_eq_getElem hi'] at he
  refine hf n' _ _ he fun m hm => hw m ?_
  rw [hx]
  show m ∈ DataW.weights P t (.agg (xs.map (·.1)))
  rw [DataW.weights, ht]
  exact mem_weightsAll (List.mem_map.2 ⟨xs[i], List.getElem_mem hi', rfl⟩) m hm
theorem choose_list {α : Type} {Q : Nat → α → Prop} : ∀ (n : Nat), (∀ i, i < n → ∃ a, Q i a) → ∃ al : List α, al.length = n ∧ ∀ i (h : i < al.length), Q i al[i]
  | 0, _ => ⟨[], rfl, fun i h => absurd h (Nat.not_lt_zero i)⟩
  | n + 1, h => by
    obtain ⟨al, hl, ha⟩ := choose_list n fun i hi => h i (by omega)
    obtain ⟨a, hq⟩ := h n (by omega)
    refine ⟨al ++ [a], by simp [hl], fun i hi => ?_⟩
    rcases Nat.lt_or_ge i al.length with q | q
    · rw [List.getElem_append_left q]; exact ha i q
    · have : i = n := by simp at hi; omega
      subst this
      rw [List.getElem_append_right q]
      simpa [hl] using hq
/-- a slice of things that a list's elements tell -/
theorem opens_slice {α : Type} {t e : TypeId} {z bytes : Nat} {f : α → List Value} {Q : α → Prop} (ht : P.underlying t = some (.slice e)) (hz : P.cellsOf e = z) (hb : P.bytesOf e = bytes) (hb1 : 1 ≤ bytes)
    (hf : ∀ a, (f a).length = z) (hel : Opens enc P w base spare held e fun cs => ∃ a, cs = f a ∧ Q a) :
    Opens enc P w base spare held t fun cs => ∃ s : Sl, cs = [.slice s.A s.n s.c] ∧ ∃ al : List α, Rd w z s (al.flatMap f) ∧ al.length = s.n ∧ (∀ a ∈ al, Q a) ∧ s.n * bytes ≤ 140737488351232 := fun fuel cs x h hw => by
  rcases DataW.trod_slice ht h with ⟨hcs, _⟩ | ⟨a, len, cap, elems, rest, n, _, hcs, hx, _, hlc, hmc, hlen, heach, _, _⟩
  · exact ⟨⟨none, 0, 0⟩, hcs, [], by simpa using rd_nil w z, rfl, by simp, by simp⟩
  · have hwt : (elems.length + rest.length) * bytes ≤ 140737488351232 := by
      have := hw ((elems.length + rest.length) * bytes) (by rw [hx]; simp [DataW.weights, ht, hb])
      exact this
    have hsz : len * bytes ≤ 140737488351232 := by
      refine Nat.le_trans (Nat.mul_le_mul_right _ ?_) hwt
      omega
    have hln : len ≤ 140737488351232 := by
      have : len * 1 ≤ len * bytes := Nat.mul_le_mul_left _ hb1
      omega
    obtain ⟨al, hal, has⟩ := choose_list (α := α) (Q := fun i b => Q b ∧ Cells w (a.add (i * z)) (f b)) len fun i hi => by
      have hi' : i < elems.length := by omega
      have he := heach i hi
      rw [List.getElem?_eq_getElem hi', hz] at he
      obtain ⟨vs, hvs, hr⟩ := Option.bind_eq_some_iff.1 he
      obtain ⟨hvl, hvc⟩ := cells_of hvs
      obtain ⟨b, hb1, hb2⟩ := hel n vs _ hr fun m hm => hw m (by
        rw [hx]
        simp only [DataW.weights, ht, List.mem_cons, List.mem_append]
        exact .inr (.inl (mem_weightsAll (List.mem_map.2 ⟨elems[i], List.getElem_mem hi', rfl⟩) m hm)))
      exact ⟨b, hb2, hb1 ▸ hvc⟩
    refine ⟨⟨some a, len, cap⟩, hcs, al, ⟨by rw [flat_length hf, hal], hlc, by show len ≤ _; omega, fun _ => ⟨a, rfl, fun j v hj => ?_⟩⟩, hal, fun b hbm => ?_, hsz⟩
    · have hz0 : 0 < z := by
        rcases Nat.eq_zero_or_pos z with e0 | e0
        · exfalso
          have := (List.getElem?_eq_some_iff.1 hj).1
          rw [flat_length hf, e0] at this
          omega
        · exact e0
      have hjl : j < al.length * z := by rw [← flat_length hf]; exact (List.getElem?_eq_some_iff.1 hj).1
      have hq : j / z < al.length := Nat.div_lt_of_lt_mul (by rw [Nat.mul_comm]; exact hjl)
      have hfe := flat_elem hf hq
      have hjz : j / z * z + j % z = j := by rw [Nat.mul_comm]; exact Nat.div_add_mod j z
      have hcell := (has (j / z) hq).2 (j % z) v (by
        rw [← hfe, List.getElem?_take, if_pos (Nat.mod_lt _ hz0), List.getElem?_drop, hjz]; exact hj)
      rw [addr_add, hjz] at hcell
      exact hcell
    · obtain ⟨i, hi, rfl⟩ := List.getElem_of_mem hbm
      exact (has i hi).1
theorem Opens.mono {t : TypeId} {Φ Ψ : List Value → Prop} (h : Opens enc P w base spare held t Φ) (hi : ∀ cs, Φ cs → Ψ cs) : Opens enc P w base spare held t Ψ := fun n cs x ht hl => hi cs (h n cs x ht hl)
theorem flat_bv (l : L8) : l.flatMap (fun b => [Value.int .u8 (b.toNat : Int)]) = bv l := by
  unfold bv
  induction l with
  | nil => rfl
  | cons a r ih => simp only [List.flatMap_cons, ih, List.map_cons, List.singleton_append]
theorem opens_bytes {t e : TypeId} (ht : P.underlying t = some (.slice e)) (he : P.underlying e = some (.int .u8)) (hz : P.cellsOf e = 1) (hb : P.bytesOf e = 1) :
    Opens enc P w base spare held t fun cs => ∃ s : Sl, cs = [.slice s.A s.n s.c] ∧ ∃ l : L8, Rd w 1 s (bv l) ∧ l.length = s.n ∧ s.n ≤ 140737488351232 := by
  refine (opens_slice (f := fun b : UInt8 => [Value.int .u8 (b.toNat : Int)]) (Q := fun _ => True) ht hz hb (Nat.le_refl _) (fun _ => rfl) ((opens_u8 he).mono fun cs ⟨b, h⟩ => ⟨b, h, trivial⟩)).mono ?_
  rintro cs ⟨s, h1, al, h2, h3, _, h4⟩
  exact ⟨s, h1, al, by rw [← flat_bv]; exact h2, h3, by omega⟩
/-- a plain cell within reach -/
def okV : Value → Prop
  | .int k n => (Lit.int k n).wf = true
  | .string s => s.size ≤ 140737488351232
  | _ => True
theorem sizeT_cells (t : TypeId) : P.cellsOf t = sizeT P t := by
  unfold Program.cellsOf sizeT
  cases P.info? t <;> rfl
theorem FitL.join : ∀ {ks ls : List Kd} {a b : List Value}, FitL ks a → FitL ls b → FitL (ks ++ ls) (a ++ b)
  | [], _, [], _, _, h => h
  | _ :: _, _, _ :: _, _, h, h' => ⟨h.1, FitL.join h.2 h'⟩
  | [], _, _ :: _, _, h, _ => h.elim
  | _ :: _, _, [], _, h, _ => h.elim
theorem flatFs_opens {rec : TypeId → Option (List Kd)} {cs : List Value} : ∀ (l : List Field) (off : Nat) (ks : List Kd), flatFs rec P l off = some ks →
    (∀ f ∈ l, ∀ ls, rec f.type = some ls → P.cellsOf f.type = ls.length → FitL ls ((cs.drop f.offset).take ls.length) ∧ ∀ v ∈ (cs.drop f.offset).take ls.length, okV v) →
    FitL ks ((cs.drop off).take ks.length) ∧ ∀ v ∈ (cs.drop off).take ks.length, okV v
  | [], off, ks, h, _ => by
    simp only [flatFs, Option.some.injEq] at h
    subst h
    exact ⟨by simp [FitL], by simp⟩
  | f :: r, off, ks, h, hf => by
    simp only [flatFs] at h
    split at h
    · rename_i ks1 h1 h2 h3
      split at h
      · rename_i l h4 h5
        simp only [Option.some.injEq] at h
        subst h
        have ho : f.offset = off := Nat.eq_of_beq_eq_true h2
        have hz : sizeT P f.type = ks1.length := Nat.eq_of_beq_eq_true h4
        obtain ⟨a1, a2⟩ := hf f (by simp) ks1 h3 (by rw [sizeT_cells, hz])
        obtain ⟨b1, b2⟩ := flatFs_opens r (off + ks1.length) l h5 fun g hg => hf g (by simp [hg])
        rw [ho] at a1 a2
        have e : (cs.drop off).take (ks1 ++ l).length = (cs.drop off).take ks1.length ++ (cs.drop (off + ks1.length)).take l.length := by
          rw [List.length_append, List.take_add, List.drop_drop]
        rw [e]
        refine ⟨a1.join b1, fun v hv => ?_⟩
        rcases List.mem_append.1 hv with q | q
        · exact a2 v q
        · exact b2 v q
      · cases h
    · cases h
theorem repK_opens {ks : List Kd} : ∀ (n : Nat) (cs : List Value), cs.length = n * ks.length → (∀ i, i < n → FitL ks ((cs.drop (i * ks.length)).take ks.length)) → FitL (repK n ks) cs
  | 0, cs, hl, _ => by
    have : cs = [] := List.eq_nil_of_length_eq_zero (by simpa using hl)
    subst this; trivial
  | n + 1, cs, hl, h => by
    have h0 := h 0 (by omega)
    rw [Nat.zero_mul, List.drop_zero] at h0
    have hr := repK_opens (ks := ks) n (cs.drop ks.length) (by rw [List.length_drop, hl, Nat.succ_mul]; omega) fun i hi => by
      have := h (i + 1) (by omega)
      rwa [Nat.succ_mul, Nat.add_comm, ← List.drop_drop] at this
    have := h0.join hr
    rwa [List.take_append_drop] at this
theorem opens_flat : ∀ (d : Nat) (t : TypeId) (ks : List Kd), flatK P d t = some ks → P.cellsOf t = ks.length → Opens enc P w base spare held t fun cs => FitL ks cs ∧ ∀ v ∈ cs, okV v
  | 0, t, ks, h, _ => by cases h
  | d + 1, t, ks, h, hz => by
    unfold flatK at h
    split at h
    · rename_i hu
      cases h
      refine (opens_bool hu).mono ?_
      rintro cs ⟨b, rfl⟩
      exact ⟨⟨rfl, trivial⟩, by simp [okV]⟩
    · rename_i k hu
      cases h
      refine (opens_int hu).mono ?_
      rintro cs ⟨b, rfl, hw⟩
      exact ⟨⟨by simp only [Kd.fit]; cases k <;> rfl, trivial⟩, by simpa [okV] using hw⟩
    · rename_i hu
      cases h
      refine (opens_str hu).mono ?_
      rintro cs ⟨b, rfl, hw⟩
      exact ⟨⟨rfl, trivial⟩, by simpa [okV, size_str] using hw⟩
    · rename_i fs hu
      split at h
      · intro n cs x hx hw
        obtain ⟨xs, n', _, hxe, hcl, hxl, heach⟩ := DataW.trod_struct hu hx
        have := flatFs_opens (P := P) (cs := cs) fs.toList 0 ks h ?_
        · rw [List.drop_zero, ← hz, ← hcl, List.take_length] at this
          exact this
        · intro f hf ls hls hlz
          obtain ⟨i, hi, rfl⟩ := List.getElem_of_mem hf
          have hi' : i < fs.size := by simpa using hi
          have hfi : fs[i]? = some fs.toList[i] := by rw [Array.getElem?_eq_getElem hi']; rfl
          have hix : i < xs.length := by rw [hxl]; exact hi'
          have he := heach i _ hfi
          rw [List.getElem?_eq_getElem hix, hlz] at he
          refine opens_flat d _ ls hls hlz n' _ _ he fun m hm => hw m ?_
          rw [hxe]
          show m ∈ DataW.weights P t (.agg (xs.map (·.1)))
          rw [DataW.weights, hu]
          refine DataW.weights_mem_each (j := i) (t := fs.toList[i].type) (d := xs[i].1) ?_ ?_ m hm
          · rw [List.getElem?_map, List.getElem?_eq_getElem hi]; rfl
          · rw [List.getElem?_map, List.getElem?_eq_getElem hix]; rfl
      · cases h
    · rename_i k e hu
      split at h
      · rename_i ls hls
        split at h
        · rename_i hbe
          cases h
          have hze : P.cellsOf e = ls.length := by rw [sizeT_cells]; exact Nat.eq_of_beq_eq_true hbe
          refine (opens_array hu (opens_flat d e ls hls hze)).mono ?_
          rintro cs ⟨hcl, hall⟩
          rw [hz, repK_length] at hcl
          rw [hze] at hall
          refine ⟨repK_opens k cs hcl fun i hi => (hall i hi).1, fun v hv => ?_⟩
          obtain ⟨j, hj, rfl⟩ := List.getElem_of_mem hv
          have hl0 : 0 < ls.length := by
            rcases Nat.eq_zero_or_pos ls.length with q | q
            · rw [hcl, q] at hj; omega
            · exact q
          have hq : j / ls.length < k := Nat.div_lt_of_lt_mul (by rw [Nat.mul_comm, ← hcl]; exact hj)
          refine (hall _ hq).2 _ (List.mem_iff_getElem?.2 ⟨j % ls.length, ?_⟩)
          rw [List.getElem?_take, if_pos (Nat.mod_lt _ hl0), List.getElem?_drop, Nat.mul_comm, Nat.div_add_mod, List.getElem?_eq_getElem hj]
        · cases h
      · cases h
    · cases h
end
theorem below_of_call {P : Program} {f : FuncId} {args : Array Value} {w : World} (h : CallK P f args w [.b] fun b w' => b = true ∧ Grow w w') :
    Calls P f args w fun e w' => e = .returned (.bool true) ∧ Below w.heap.size w w' :=
  h.mono fun e w' hx => by
    obtain ⟨x, hx, hb, hg⟩ := hx
    have hb : x = true := hb
    subst hb
    exact ⟨hx, Keep.below hg⟩
end Go.Proofs.YtpmebahhjgkflaaGreatDoor.CF

/- Rules of maps with strings for keys. -/
namespace Go.Proofs.YtpmebahhjgkflaaGreatDoor.CF
open Go Go.RowKit
set_option maxRecDepth 100000

/-- all keys are strings -/
def SKeys (es : List MapEntry) : Prop := ∀ e ∈ es, ∃ s, e.key = .string s
def sidx : List MapEntry → ByteArray → Nat → Option (Nat × Value)
  | [], _, _ => none
  | e :: r, s, i => match e.key with
    | .string t => if s = t then some (i, e.val) else sidx r s (i + 1)
    | _ => sidx r s (i + 1)
def sget (es : List MapEntry) (s : ByteArray) : Option Value := (sidx es s 0).map (·.2)
theorem findNow_str {s : ByteArray} : ∀ {es : List MapEntry} (i : Nat), SKeys es → Instr.findNow .string (.string s) es i = some (sidx es s i)
  | [], _, _ => rfl
  | e :: r, i, h => by
    obtain ⟨t, ht⟩ := h e (by simp)
    have ih := findNow_str (s := s) (i + 1) (fun x hx => h x (by simp [hx]) : SKeys r)
    unfold Instr.findNow sidx
    rw [ht]
    simp only [Instr.sameNow]
    by_cases e : s = t
    · have : (s == t) = true := (MapKept.bytes_beq s t).2 e
      rw [this]
      simp only [if_pos e]
    · have : (s == t) = false := Bool.eq_false_iff.2 fun q => e ((MapKept.bytes_beq s t).1 q)
      rw [this]
      simp only [if_neg e]
      exact ih
/-- a map that holds these values -/
def SMap (w : World) (b : Nat) (m : ByteArray → Option Value) : Prop :=
  ∃ es clock, w.heap[b]? = some (.map es clock) ∧ SKeys es.toList ∧ ∀ s, sget es.toList s = m s
theorem SMap.keep {S : Nat → Prop} {w w' : World} {b : Nat} {m : ByteArray → Option Value} (h : SMap w b m) (k : Keep S w w') (hn : ¬ S b) : SMap w' b m := by
  obtain ⟨es, c, h1, h2⟩ := h
  exact ⟨es, c, k.heap h1 hn, h2⟩
theorem smap_new (w : World) : SMap (w.alloc (.map #[] 0)) w.heap.size fun _ => none :=
  ⟨#[], 0, by show (w.heap.push _)[w.heap.size]? = _; simp, fun e he => by simp at he, fun s => rfl⟩
section
variable {P : Program} {w : World} {b : Nat} {m : ByteArray → Option Value} {t k e : TypeId}
theorem run_getMap {es : Array MapEntry} {clock : Nat} (h : w.heap[b]? = some (.map es clock)) : (getObj b).run P w = .ok (.map es clock) w := by
  simp [getObj, Sem.run, h]
theorem checkKey_str (ek : Bool) (n : Nat) (hk : P.underlying k = some .string) (s : ByteArray) : (Instr.checkKey ek (n + 1) k (.string s)).run P w = .ok () w := by
  unfold Instr.checkKey
  simp [run_underlying hk]
theorem findKey_str {es : List MapEntry} (hk : P.underlying k = some .string) (hs : SKeys es) (s : ByteArray) : (Instr.findKey k (.string s) es).run P w = .ok (sidx es s 0) w := by
  unfold Instr.findKey
  simp [run_underlying hk, findNow_str 0 hs]
theorem look_rule (ht : P.underlying t = some (.map k e)) (hk : P.underlying k = some .string) {zv : Value} (hz : (zeroValue e).run P w = .ok zv w) (h : SMap w b m) (s : ByteArray) :
    (Instr.lookup t (.map (some b)) (.string s) true).run P w = .ok (.tuple #[(m s).getD zv, .bool (m s).isSome]) w ∧
    (Instr.lookup t (.map (some b)) (.string s) false).run P w = .ok ((m s).getD zv) w := by
  obtain ⟨es, c, hb, hs, hm⟩ := h
  have := hm s
  unfold sget at this
  unfold Instr.lookup
  constructor
  · cases hi : sidx es.toList s 0 with
    | none =>
      rw [hi] at this
      simp only [Option.map_none] at this
      rw [← this]
      simp [run_underlying ht, run_getMap hb, checkKey_str _ _ hk, findKey_str hk hs, hi, hz]
    | some p =>
      rw [hi] at this
      simp only [Option.map_some] at this
      rw [← this]
      simp [run_underlying ht, run_getMap hb, checkKey_str _ _ hk, findKey_str hk hs, hi]
  · cases hi : sidx es.toList s 0 with
    | none =>
      rw [hi] at this
      simp only [Option.map_none] at this
      rw [← this]
      simp [run_underlying ht, run_getMap hb, checkKey_str _ _ hk, findKey_str hk hs, hi, hz]
    | some p =>
      rw [hi] at this
      simp only [Option.map_some] at this
      rw [← this]
      simp [run_underlying ht, run_getMap hb, checkKey_str _ _ hk, findKey_str hk hs, hi]
end
end Go.Proofs.YtpmebahhjgkflaaGreatDoor.CF

/- Rules: bytes copied into a row of one's own. -/
namespace Go.Proofs.YtpmebahhjgkflaaGreatDoor.CF
open Go Go.RowKit
set_option maxRecDepth 100000

end Go.Proofs.YtpmebahhjgkflaaGreatDoor.CF

-- printed by wip/cf/cfprint.py
namespace Go.Proofs.YtpmebahhjgkflaaGreatDoor
open Go CF
def cs : List Nat := [3, 4, 5, 6, 7, 8, 9, 10, 11, 12, 13, 14, 15, 16, 17, 18, 19, 20, 21, 22, 23, 24, 25, 26, 27, 28, 29, 30, 31, 32, 33, 34, 35, 36, 37, 38, 39, 40, 41, 42, 43, 44, 45, 46, 47, 48, 49, 50, 51, 52, 53, 54, 55, 56, 57, 58, 59, 60, 61, 62, 63, 64, 65, 66, 67, 68, 69, 70, 71, 72, 73, 74, 75, 76, 77, 78, 79, 81, 82, 83, 84, 85, 86, 87, 88, 89, 90, 91, 92, 93, 94, 95, 96, 97, 98, 99, 100, 101, 102, 103, 104, 105, 106, 107, 108, 109, 110, 111, 112, 113, 114, 115, 116, 117, 118, 119, 121, 122, 123, 124, 125, 126, 127, 128, 130, 131, 132, 133, 134, 135, 136, 137, 138, 139, 140, 141, 142, 143, 144, 145, 146, 147, 148, 149, 150, 151, 152, 153, 154, 155, 156, 157, 158, 159, 160, 161, 162, 163, 164, 165, 166, 167, 168, 169, 170, 171, 172, 173, 174, 175, 176, 177, 178, 179, 180, 181, 182, 183, 184, 185, 186, 187, 188, 189, 190, 191, 192, 193, 194, 195, 196, 197, 198, 199, 200, 202, 203, 204, 205, 206, 207, 208, 209, 210, 211, 212, 213, 214, 215, 216, 217, 218, 219, 220, 221, 222, 223, 224, 225, 226, 227, 228, 229, 230, 231, 232, 233, 234, 235, 236, 237, 238, 239, 240, 241, 242, 243, 244, 245, 246, 247, 248, 249, 250, 251, 252, 253, 254, 255, 256, 257, 258, 259, 261, 262, 263, 264, 265, 266, 267, 268, 269, 270, 271, 272, 273, 274, 275, 276, 277, 278, 279, 280, 281, 282, 283, 284, 285, 286, 287, 292, 295, 296, 297, 298, 299, 300, 301, 302, 303, 304, 305, 306, 314, 315, 316, 317, 318, 319, 320, 321, 322, 323, 325]
def okCalls (P : Program) : List Nat → Bool
  | [] => true
  | f :: r => (match P.funcs[f]? with | some fn => !(fn.name == "runtime.NumGoroutine") && !fn.body.isNone | none => false) && okCalls P r
theorem okCalls_ok {P : Program} : ∀ {l : List Nat}, okCalls P l = true → Callable P l
  | [], _, f, h => by cases h
  | g :: r, hok, f, h => by
    simp only [okCalls, Bool.and_eq_true] at hok
    simp only [memN, Bool.or_eq_true] at h
    rcases h with h | h
    · have e : g = f := Nat.eq_of_beq_eq_true h
      subst e
      have h1 := hok.1
      split at h1
      · rename_i fn hf
        simp only [Bool.and_eq_true, Bool.not_eq_true'] at h1
        exact ⟨fn, hf, h1.1, h1.2⟩
      · cases h1
    · exact okCalls_ok hok.2 f h
theorem callable : Callable Tryz.prog cs := okCalls_ok (by kernel_rfl)
theorem wide : Tryz.prog.follows .mixedOrders = true := by kernel_rfl
noncomputable def G : Gen := gen Tryz.prog cs
def s_a : ByteArray := ⟨#[97]⟩
def s_b : ByteArray := ⟨#[98]⟩
def s_x2ed : ByteArray := ⟨#[46, 100]⟩
def s_x2ep : ByteArray := ⟨#[46, 112]⟩
def s_S0 : ByteArray := ⟨#[83, 48]⟩
def s_S1 : ByteArray := ⟨#[83, 49]⟩
def s_V : ByteArray := ⟨#[86]⟩
def s_P : ByteArray := ⟨#[80]⟩
def s_1 : ByteArray := ⟨#[49]⟩
def s_SLOT : ByteArray := ⟨#[83, 76, 79, 84]⟩
def s_x2e : ByteArray := ⟨#[46]⟩
def Cpalletlaw16_UnitNews (p0 : ByteArray) (p1 : Array Value) (p2 : Int) (p3 : Int) (p4 : Int) (p5 : Sl) (w : World) (R : Bool → World → Prop) : Prop := CallK Tryz.prog 7 #[.string p0, .agg p1, .int .i64 p2, .int .u8 p3, .int .i64 p4, .slice p5.A p5.n p5.c] w [.b] R
def Cpalletlaw16_awake (w : World) (R : Bool → World → Prop) : Prop := CallK Tryz.prog 10 #[] w [.b] R
def Cpalletlaw16_units (p0 : Option Addr) (p1 : Int) (w : World) (R : (Array Value) → World → Prop) : Prop := CallK Tryz.prog 11 #[.pointer p0, .int .u8 p1] w [.ag] R
def Cworld_New (w : World) (R : (Option Addr) → World → Prop) : Prop := CallK Tryz.prog 12 #[] w [.p] R
def Cpalletlaw16_ready (w : World) (R : Sl → World → Prop) : Prop := CallK Tryz.prog 14 #[] w [.sl] R
def Cunit_Unit_Do (p0 : Option Addr) (p1 : Int) (p2 : Sl) (p3 : Sl) (w : World) (R : (Array Value) → World → Prop) : Prop := CallK Tryz.prog 15 #[.pointer p0, .int .i64 p1, .slice p2.A p2.n p2.c, .slice p3.A p3.n p3.c] w [.ag] R
def Cpalletref14_Same (p0 : Array Value) (p1 : Array Value) (w : World) (R : Bool → World → Prop) : Prop := CallK Tryz.prog 16 #[.agg p0, .agg p1] w [.b] R
def Cpalletref14_Ends (p0 : Int) (p1 : Int) (w : World) (R : (Array Value) → World → Prop) : Prop := CallK Tryz.prog 17 #[.int .u8 p0, .int .u16 p1] w [.ag] R
def Cunit_Unit_Peers (p0 : Option Addr) (p1 : Sl) (w : World) (R : World → Prop) : Prop := CallK Tryz.prog 18 #[.pointer p0, .slice p1.A p1.n p1.c] w [] R
def Cunit_Unit_Table (p0 : Option Addr) (w : World) (R : Sl → Int → Int → World → Prop) : Prop := CallK Tryz.prog 24 #[.pointer p0] w [.sl, .i .u8, .i .i64] R
def Cunit_Unit_Count (p0 : Option Addr) (w : World) (R : Int → World → Prop) : Prop := CallK Tryz.prog 26 #[.pointer p0] w [.i .i64] R
def Cunit_Unit_Start (p0 : Option Addr) (w : World) (R : Int → World → Prop) : Prop := CallK Tryz.prog 27 #[.pointer p0] w [.i .i64] R
def Cunit_New (p0 : Option Addr) (p1 : ByteArray) (p2 : Array Value) (w : World) (R : (Option Addr) → Int → World → Prop) : Prop := CallK Tryz.prog 28 #[.pointer p0, .string p1, .agg p2] w [.p, .i .i64] R
def Cpalletref11_Form (p0 : Array Value) (w : World) (R : Bool → World → Prop) : Prop := CallK Tryz.prog 29 #[.agg p0] w [.b] R
def Cunit_Unit_Reset (p0 : Option Addr) (w : World) (R : World → Prop) : Prop := CallK Tryz.prog 30 #[.pointer p0] w [] R
def Cunit_Unit_Described (p0 : Option Addr) (w : World) (R : Bool → World → Prop) : Prop := CallK Tryz.prog 31 #[.pointer p0] w [.b] R
def Cunit_Class (p0 : Int) (w : World) (R : Int → World → Prop) : Prop := CallK Tryz.prog 32 #[.int .u8 p0] w [.i .u8] R
def Cpalletref16_Class (p0 : Int) (w : World) (R : Int → World → Prop) : Prop := CallK Tryz.prog 33 #[.int .i64 p0] w [.i .i64] R
def Cunit_Alters (p0 : Int) (w : World) (R : Bool → World → Prop) : Prop := CallK Tryz.prog 34 #[.int .u8 p0] w [.b] R
def Cpalletref16_Alters (p0 : Int) (w : World) (R : Bool → World → Prop) : Prop := CallK Tryz.prog 35 #[.int .i64 p0] w [.b] R
def Cpalletlaw16_info (p0 : Int) (p1 : Int) (w : World) (R : (Array Value) → World → Prop) : Prop := CallK Tryz.prog 40 #[.int .i64 p0, .int .u8 p1] w [.ag] R
def Cunit_check (p0 : Array Value) (w : World) (R : (Array Value) → World → Prop) : Prop := CallK Tryz.prog 41 #[.agg p0] w [.ag] R
def Csync_atomic_Int64_Add (p0 : Option Addr) (p1 : Int) (w : World) (R : Int → World → Prop) : Prop := CallK Tryz.prog 42 #[.pointer p0, .int .i64 p1] w [.i .i64] R
def Ccdb_Parse (p0 : Sl) (w : World) (R : (Array Value) → (Array Value) → Bool → World → Prop) : Prop := CallK Tryz.prog 43 #[.slice p0.A p0.n p0.c] w [.ag, .ag, .b] R
def Cattn_Queues_Peek (p0 : Option Addr) (p1 : Int) (w : World) (R : Int → Bool → World → Prop) : Prop := CallK Tryz.prog 44 #[.pointer p0, .int .i64 p1] w [.i .u16, .b] R
def Cattn_Queues_Next (p0 : Option Addr) (p1 : Int) (w : World) (R : Int → Bool → World → Prop) : Prop := CallK Tryz.prog 45 #[.pointer p0, .int .i64 p1] w [.i .u16, .b] R
def Cpr_Table_Conflict (p0 : Option Addr) (p1 : Int) (p2 : Int) (w : World) (R : Bool → World → Prop) : Prop := CallK Tryz.prog 46 #[.pointer p0, .int .i64 p1, .int .u8 p2] w [.b] R
def Cmode_Pages_Now (p0 : Option Addr) (w : World) (R : (Array Value) → World → Prop) : Prop := CallK Tryz.prog 47 #[.pointer p0] w [.ag] R
def Cunit_Unit_run (p0 : Option Addr) (p1 : Int) (p2 : Array Value) (p3 : Sl) (w : World) (R : (Array Value) → World → Prop) : Prop := CallK Tryz.prog 48 #[.pointer p0, .int .i64 p1, .agg p2, .slice p3.A p3.n p3.c] w [.ag] R
def Cpr_Table_Reserved (p0 : Option Addr) (w : World) (R : Int → Int → World → Prop) : Prop := CallK Tryz.prog 57 #[.pointer p0] w [.i .u8, .i .i64] R
def Cpr_Table_Regs (p0 : Option Addr) (w : World) (R : Sl → World → Prop) : Prop := CallK Tryz.prog 58 #[.pointer p0] w [.sl] R
def Csync_atomic_Int64_Load (p0 : Option Addr) (w : World) (R : Int → World → Prop) : Prop := CallK Tryz.prog 59 #[.pointer p0] w [.i .i64] R
def Csync_Once_Do (p0 : Option Addr) (p1 : Value) (w : World) (R : World → Prop) : Prop := CallK Tryz.prog 60 #[.pointer p0, p1] w [] R
def Cunit_Unit_Start_1 (p0 : Addr) (w : World) (R : World → Prop) : Prop := CallK Tryz.prog 61 #[.pointer (some p0)] w [] R
def Cunit_Unit_load (p0 : Option Addr) (w : World) (R : Int → World → Prop) : Prop := CallK Tryz.prog 62 #[.pointer p0] w [.i .i64] R
def Cinq_Form (p0 : Array Value) (w : World) (R : Bool → World → Prop) : Prop := CallK Tryz.prog 63 #[.agg p0] w [.b] R
def Cstore_Open (p0 : Option Addr) (p1 : ByteArray) (p2 : Int) (p3 : Bool) (w : World) (R : (Option Addr) → Int → World → Prop) : Prop := CallK Tryz.prog 64 #[.pointer p0, .string p1, .int .i64 p2, .bool p3] w [.p, .i .i64] R
def Cmode_Default (w : World) (R : (Array Value) → World → Prop) : Prop := CallK Tryz.prog 65 #[] w [.ag] R
def Cslots_Open (p0 : Option Addr) (p1 : ByteArray) (w : World) (R : (Option Addr) → Int → World → Prop) : Prop := CallK Tryz.prog 66 #[.pointer p0, .string p1] w [.p, .i .i64] R
def Cmode_New (p0 : Array Value) (w : World) (R : (Option Addr) → World → Prop) : Prop := CallK Tryz.prog 67 #[.agg p0] w [.p] R
def Cpr_New (w : World) (R : (Option Addr) → World → Prop) : Prop := CallK Tryz.prog 68 #[] w [.p] R
def Cattn_New (w : World) (R : (Option Addr) → World → Prop) : Prop := CallK Tryz.prog 69 #[] w [.p] R
def Cpalletref11_fits (p0 : ByteArray) (p1 : Int) (p2 : Int) (w : World) (R : Bool → World → Prop) : Prop := CallK Tryz.prog 70 #[.string p0, .int .i64 p1, .int .i64 p2] w [.b] R
def Cattn_Queues_AddAll (p0 : Option Addr) (p1 : Int) (p2 : Int) (w : World) (R : World → Prop) : Prop := CallK Tryz.prog 71 #[.pointer p0, .int .i64 p1, .int .u16 p2] w [] R
def Cbe_Get (p0 : Sl) (p1 : Int) (p2 : Int) (w : World) (R : Int → Int → World → Prop) : Prop := CallK Tryz.prog 76 #[.slice p0.A p0.n p0.c, .int .i64 p1, .int .i64 p2] w [.i .u64, .i .i64] R
def Csense_Fixed (p0 : Array Value) (w : World) (R : Sl → Int → World → Prop) : Prop := CallK Tryz.prog 78 #[.agg p0] w [.sl, .i .i64] R
def Csense_Described (p0 : Array Value) (w : World) (R : Sl → Int → World → Prop) : Prop := CallK Tryz.prog 79 #[.agg p0] w [.sl, .i .i64] R
def Ccdb_Fault (p0 : Int) (p1 : Int) (w : World) (R : (Array Value) → World → Prop) : Prop := CallK Tryz.prog 81 #[.int .i64 p0, .int .i64 p1] w [.ag] R
def Ccdb_Usage (p0 : Int) (p1 : Int) (w : World) (R : Sl → Bool → World → Prop) : Prop := CallK Tryz.prog 82 #[.int .u8 p0, .int .u8 p1] w [.sl, .b] R
def Cbe_Odd (p0 : Sl) (p1 : Sl) (w : World) (R : Int → Int → World → Prop) : Prop := CallK Tryz.prog 83 #[.slice p0.A p0.n p0.c, .slice p1.A p1.n p1.c] w [.i .i64, .i .i64] R
def Ccdb_kind (p0 : Int) (w : World) (R : Int → World → Prop) : Prop := CallK Tryz.prog 84 #[.int .u8 p0] w [.i .u8] R
def Ccdb_fill (p0 : Option Addr) (p1 : Sl) (p2 : Int) (w : World) (R : Int → Int → World → Prop) : Prop := CallK Tryz.prog 85 #[.pointer p0, .slice p1.A p1.n p1.c, .int .u8 p2] w [.i .i64, .i .i64] R
def Cattn_Queues_first (p0 : Option Addr) (p1 : Int) (w : World) (R : Int → World → Prop) : Prop := CallK Tryz.prog 86 #[.pointer p0, .int .i64 p1] w [.i .i64] R
def Cpr_Table_Holds (p0 : Option Addr) (p1 : Int) (w : World) (R : Bool → World → Prop) : Prop := CallK Tryz.prog 87 #[.pointer p0, .int .i64 p1] w [.b] R
def Cpr_Table_key (p0 : Option Addr) (p1 : Int) (w : World) (R : Int → Bool → World → Prop) : Prop := CallK Tryz.prog 88 #[.pointer p0, .int .i64 p1] w [.i .u64, .b] R
def Cinq_Cut (p0 : Sl) (p1 : Int) (w : World) (R : Sl → World → Prop) : Prop := CallK Tryz.prog 89 #[.slice p0.A p0.n p0.c, .int .i64 p1] w [.sl] R
def Cinq_Standard (p0 : Array Value) (w : World) (R : Sl → World → Prop) : Prop := CallK Tryz.prog 90 #[.agg p0] w [.sl] R
def Cinq_Page (p0 : Array Value) (p1 : Int) (w : World) (R : Sl → Bool → World → Prop) : Prop := CallK Tryz.prog 91 #[.agg p0, .int .u8 p1] w [.sl, .b] R
def Cinq_Luns (p0 : Sl) (w : World) (R : Sl → World → Prop) : Prop := CallK Tryz.prog 92 #[.slice p0.A p0.n p0.c] w [.sl] R
def Cmode_Pages_Sense (p0 : Option Addr) (p1 : Array Value) (w : World) (R : Sl → (Array Value) → Bool → World → Prop) : Prop := CallK Tryz.prog 93 #[.pointer p0, .agg p1] w [.sl, .ag, .b] R
def Cunit_Unit_sel (p0 : Option Addr) (p1 : Int) (p2 : Array Value) (p3 : Sl) (w : World) (R : (Array Value) → World → Prop) : Prop := CallK Tryz.prog 94 #[.pointer p0, .int .i64 p1, .agg p2, .slice p3.A p3.n p3.c] w [.ag] R
def Cunit_Unit_in (p0 : Option Addr) (p1 : Int) (w : World) (R : Sl → World → Prop) : Prop := CallK Tryz.prog 95 #[.pointer p0, .int .u8 p1] w [.sl] R
def Cunit_Unit_out (p0 : Option Addr) (p1 : Int) (p2 : Array Value) (p3 : Sl) (w : World) (R : (Array Value) → World → Prop) : Prop := CallK Tryz.prog 96 #[.pointer p0, .int .i64 p1, .agg p2, .slice p3.A p3.n p3.c] w [.ag] R
def Cunit_Unit_copy (p0 : Option Addr) (p1 : Int) (p2 : Array Value) (p3 : Sl) (w : World) (R : (Array Value) → World → Prop) : Prop := CallK Tryz.prog 97 #[.pointer p0, .int .i64 p1, .agg p2, .slice p3.A p3.n p3.c] w [.ag] R
def Csbc_Dev_Do (p0 : Option Addr) (p1 : Array Value) (p2 : Sl) (w : World) (R : (Array Value) → World → Prop) : Prop := CallK Tryz.prog 98 #[.pointer p0, .agg p1, .slice p2.A p2.n p2.c] w [.ag] R
def Cpr_All (p0 : Int) (w : World) (R : Bool → World → Prop) : Prop := CallK Tryz.prog 119 #[.int .u8 p0] w [.b] R
def Csync_atomic_Bool_Load (p0 : Option Addr) (w : World) (R : Bool → World → Prop) : Prop := CallK Tryz.prog 121 #[.pointer p0] w [.b] R
def Csync_Once_doSlow (p0 : Option Addr) (p1 : Value) (w : World) (R : World → Prop) : Prop := CallK Tryz.prog 122 #[.pointer p0, p1] w [] R
def Cattn_Queues_Add (p0 : Option Addr) (p1 : Int) (p2 : Int) (w : World) (R : World → Prop) : Prop := CallK Tryz.prog 123 #[.pointer p0, .int .i64 p1, .int .u16 p2] w [] R
def Cslots_Slots_Load (p0 : Option Addr) (w : World) (R : Sl → Int → Int → World → Prop) : Prop := CallK Tryz.prog 124 #[.pointer p0] w [.sl, .i .u64, .i .i64] R
def Cpr_Load (p0 : Sl) (w : World) (R : (Option Addr) → Int → World → Prop) : Prop := CallK Tryz.prog 125 #[.slice p0.A p0.n p0.c] w [.p, .i .i64] R
def Cunit_values (p0 : Int) (w : World) (R : (Array Value) → World → Prop) : Prop := CallK Tryz.prog 126 #[.int .u8 p0] w [.ag] R
def Cstore_Store_SetCache (p0 : Option Addr) (p1 : Bool) (w : World) (R : World → Prop) : Prop := CallK Tryz.prog 127 #[.pointer p0, .bool p1] w [] R
def Cinq_text (p0 : ByteArray) (p1 : Int) (p2 : Int) (w : World) (R : Bool → World → Prop) : Prop := CallK Tryz.prog 128 #[.string p0, .int .i64 p1, .int .i64 p2] w [.b] R
def Cbe_field (p0 : Sl) (p1 : Int) (p2 : Int) (w : World) (R : Int → World → Prop) : Prop := CallK Tryz.prog 130 #[.slice p0.A p0.n p0.c, .int .i64 p1, .int .i64 p2] w [.i .i64] R
def Ccdb_number (p0 : Sl) (p1 : Int) (p2 : Int) (w : World) (R : Int → World → Prop) : Prop := CallK Tryz.prog 134 #[.slice p0.A p0.n p0.c, .int .i64 p1, .int .i64 p2] w [.i .u64] R
def Ccdb_blocks (p0 : Option Addr) (p1 : Sl) (w : World) (R : Int → Int → World → Prop) : Prop := CallK Tryz.prog 135 #[.pointer p0, .slice p1.A p1.n p1.c] w [.i .i64, .i .i64] R
def Cattn_Queues_in (p0 : Option Addr) (p1 : Int) (w : World) (R : Bool → World → Prop) : Prop := CallK Tryz.prog 136 #[.pointer p0, .int .i64 p1] w [.b] R
def Cattn_rank (p0 : Int) (w : World) (R : Int → World → Prop) : Prop := CallK Tryz.prog 137 #[.int .u16 p0] w [.i .i64] R
def Cworld_World_Read (p0 : Option Addr) (p1 : ByteArray) (p2 : Int) (p3 : Int) (w : World) (R : Sl → Int → World → Prop) : Prop := CallK Tryz.prog 205 #[.pointer p0, .string p1, .int .i64 p2, .int .i64 p3] w [.sl, .i .i64] R
def Cslots_Slots_name (p0 : Option Addr) (p1 : Int) (w : World) (R : ByteArray → World → Prop) : Prop := CallK Tryz.prog 206 #[.pointer p0, .int .i64 p1] w [.s] R
def Cslots_Decode (p0 : Sl) (w : World) (R : Int → Sl → Int → World → Prop) : Prop := CallK Tryz.prog 207 #[.slice p0.A p0.n p0.c] w [.i .u64, .sl, .i .i64] R
def Ccdb_span (p0 : Option Addr) (p1 : Sl) (w : World) (R : Int → World → Prop) : Prop := CallK Tryz.prog 209 #[.pointer p0, .slice p1.A p1.n p1.c] w [.i .i64] R
def Cworld_name (p0 : ByteArray) (w : World) (R : Bool → World → Prop) : Prop := CallK Tryz.prog 262 #[.string p0] w [.b] R
def Cworld_World_call (p0 : Option Addr) (w : World) (R : Int → World → Prop) : Prop := CallK Tryz.prog 263 #[.pointer p0] w [.i .i64] R
def Ccrc_C32 (p0 : Sl) (w : World) (R : Int → World → Prop) : Prop := CallK Tryz.prog 264 #[.slice p0.A p0.n p0.c] w [.i .u32] R
def Ccrc_Add32 (p0 : Int) (p1 : Sl) (w : World) (R : Int → World → Prop) : Prop := CallK Tryz.prog 296 #[.int .u32 p0, .slice p1.A p1.n p1.c] w [.i .u32] R
theorem u_int : Tryz.prog.underlying 3 = some (.int .i64) := by kernel_rfl
theorem i_bool : (Tryz.prog.info? 4).map (fun i => (i.zero, i.size, i.bytes)) = some (some (.bool false), 1, 1) := by kernel_rfl
abbrev t_uint8 : TypeId := 5
theorem u_uint8 : Tryz.prog.underlying 5 = some (.int .u8) := by kernel_rfl
theorem i_uint8 : (Tryz.prog.info? 5).map (fun i => (i.zero, i.size, i.bytes)) = some (some (.int .u8 0), 1, 1) := by kernel_rfl
abbrev t_string : TypeId := 9
theorem u_string : Tryz.prog.underlying 9 = some .string := by kernel_rfl
abbrev t_p_unit_Unit : TypeId := 23
theorem i_p_unit_Unit : (Tryz.prog.info? 23).map (fun i => (i.zero, i.size, i.bytes)) = some (some (.pointer none), 1, 8) := by kernel_rfl
abbrev t_2_p_unit_Unit : TypeId := 24
theorem i_2_p_unit_Unit : (Tryz.prog.info? 24).map (fun i => (i.zero, i.size, i.bytes)) = some (some (.agg #[.pointer none, .pointer none]), 2, 16) := by kernel_rfl
theorem g_2_p_unit_Unit : (Tryz.prog.underlying 24).map kdOf = some .ag := by kernel_rfl
abbrev t_uint16 : TypeId := 29
theorem i_uint16 : (Tryz.prog.info? 29).map (fun i => (i.zero, i.size, i.bytes)) = some (some (.int .u16 0), 1, 2) := by kernel_rfl
abbrev t_api_Sense : TypeId := 32
theorem i_api_Sense : (Tryz.prog.info? 32).map (fun i => (i.zero, i.size, i.bytes)) = some (some (.agg #[.int .u8 0, .int .u16 0, .int .u64 0, .bool false, .int .i64 0, .int .i64 0, .bool false, .bool false]), 8, 48) := by kernel_rfl
theorem g_api_Sense : (Tryz.prog.underlying 32).map kdOf = some .ag := by kernel_rfl
abbrev t_sl_uint8 : TypeId := 33
theorem u_sl_uint8 : Tryz.prog.underlying 33 = some (.slice 5) := by kernel_rfl
theorem i_sl_uint8 : (Tryz.prog.info? 33).map (fun i => (i.zero, i.size, i.bytes)) = some (some (.slice none 0 0), 1, 24) := by kernel_rfl
abbrev t_api_Result : TypeId := 35
theorem i_api_Result : (Tryz.prog.info? 35).map (fun i => (i.zero, i.size, i.bytes)) = some (some (.agg #[.int .u8 0, .int .u8 0, .int .u16 0, .int .u64 0, .bool false, .int .i64 0, .int .i64 0, .bool false, .bool false, .slice none 0 0]), 10, 80) := by kernel_rfl
theorem g_api_Result : (Tryz.prog.underlying 35).map kdOf = some .ag := by kernel_rfl
abbrev t_sl_p_unit_Unit : TypeId := 43
theorem u_sl_p_unit_Unit : Tryz.prog.underlying 43 = some (.slice 23) := by kernel_rfl
abbrev t_palletref11_Info : TypeId := 57
theorem i_palletref11_Info : (Tryz.prog.info? 57).map (fun i => (i.zero, i.size, i.bytes)) = some (some (.agg #[.string ⟨#[]⟩, .string ⟨#[]⟩, .string ⟨#[]⟩, .string ⟨#[]⟩, .int .i64 0]), 5, 72) := by kernel_rfl
theorem g_palletref11_Info : (Tryz.prog.underlying 57).map kdOf = some .ag := by kernel_rfl
abbrev t_inq_Info : TypeId := 81
theorem i_inq_Info : (Tryz.prog.info? 81).map (fun i => (i.zero, i.size, i.bytes)) = some (some (.agg #[.string ⟨#[]⟩, .string ⟨#[]⟩, .string ⟨#[]⟩, .string ⟨#[]⟩, .int .u8 0]), 5, 72) := by kernel_rfl
theorem g_inq_Info : (Tryz.prog.underlying 81).map kdOf = some .ag := by kernel_rfl
abbrev t_unit_Config : TypeId := 85
abbrev t_api_Reg : TypeId := 97
theorem i_api_Reg : (Tryz.prog.info? 97).map (fun i => (i.zero, i.size, i.bytes)) = some (some (.agg #[.int .i64 0, .int .u64 0]), 2, 16) := by kernel_rfl
theorem g_api_Reg : (Tryz.prog.underlying 97).map kdOf = some .ag := by kernel_rfl
abbrev t_sl_string : TypeId := 104
abbrev t_map_string_sl_uint8 : TypeId := 106
theorem u_map_string_sl_uint8 : Tryz.prog.underlying 106 = some (.map 9 33) := by kernel_rfl
abbrev t_map_int_bool : TypeId := 108
theorem u_map_int_bool : Tryz.prog.underlying 108 = some (.map 3 4) := by kernel_rfl
abbrev t_world_World : TypeId := 110
abbrev t_unit_Unit : TypeId := 131
theorem i_unit_Unit : (Tryz.prog.info? 131).map (fun i => (i.zero, i.size, i.bytes)) = some (some (.agg #[.string ⟨#[]⟩, .string ⟨#[]⟩, .string ⟨#[]⟩, .string ⟨#[]⟩, .int .u8 0, .pointer none, .pointer none, .pointer none, .pointer none, .pointer none, .slice none 0 0, .int .u32 0, .int .i32 0, .int .u32 0, .int .i64 0, .int .i64 0]), 16, 168) := by kernel_rfl
abbrev t_api_Cmd : TypeId := 135
theorem i_api_Cmd : (Tryz.prog.info? 135).map (fun i => (i.zero, i.size, i.bytes)) = some (some (.agg #[.int .u8 0, .bool false, .int .u64 0, .int .u64 0, .int .i64 0, .bool false, .int .u8 0, .bool false, .bool false, .int .u8 0, .int .u8 0, .bool false, .int .u8 0, .int .u8 0, .bool false]), 15, 48) := by kernel_rfl
theorem g_api_Cmd : (Tryz.prog.underlying 135).map kdOf = some .ag := by kernel_rfl
abbrev t_mode_Values : TypeId := 142
theorem i_mode_Values : (Tryz.prog.info? 142).map (fun i => (i.zero, i.size, i.bytes)) = some (some (.agg #[.bool false, .bool false, .bool false]), 3, 3) := by kernel_rfl
theorem g_mode_Values : (Tryz.prog.underlying 142).map kdOf = some .ag := by kernel_rfl
abbrev t_sbc_Dev : TypeId := 166
abbrev t_world_change : TypeId := 173
abbrev t_sl_uint16 : TypeId := 196
theorem u_sl_uint16 : Tryz.prog.underlying 196 = some (.slice 29) := by kernel_rfl
abbrev t_attn_Queues : TypeId := 199
abbrev t_pr_Table : TypeId := 201
abbrev t_mode_Pages : TypeId := 205
abbrev t_store_Store : TypeId := 245
abbrev t_slots_Slots : TypeId := 247
end Go.Proofs.YtpmebahhjgkflaaGreatDoor
