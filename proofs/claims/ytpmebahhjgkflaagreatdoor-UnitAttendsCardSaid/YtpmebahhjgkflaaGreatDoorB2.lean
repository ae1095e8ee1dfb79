import Derived.Lib.SlBytesConst
import Derived.Lib.AppendStr
import Derived.MapKept
import Derived.Laws.CopyRow
import Derived.Laws.IdiomCopy
import Derived.Test.YtpmebahhjgkflaaGreatDoorProg
import Derived.Test.YtpmebahhjgkflaaGreatDoorB1
/- More rules of memory: bytes of a constant, elements of slices. -/
namespace Go.Proofs.YtpmebahhjgkflaaGreatDoor.CF
open Go Go.RowKit
set_option maxRecDepth 100000

open Go.Lib in
theorem strCells_bv (l : L8) : strCells (str l) = bv l := rfl
open Go.Lib in
theorem append_str_at {P : Program} {w : World} (base : Nat) (t u ty e : TypeId) (i : TypeInfo) (ht : P.underlying t = some (.slice e)) (hu : P.underlying u = some .string) (hi : P.info? e = some i) (hz : i.zero = some (.int .u8 0))
    (hsize : i.size = 1) (hby : i.bytes = 1) (o : Sl) (xs : List Value) (hown : Own w base e 1 o xs) (s : ByteArray) (hbytes : o.n + s.size ≤ 140737488355328) (hbase : base ≤ w.heap.size) :
    ∃ (o' : Sl) (w' : World), (Builtin.append_ #[t, u] ty #[.slice o.A o.n o.c, .string s]).run P w = .ok (.slice o'.A o'.n o'.c) w' ∧ o'.n = o.n + s.size ∧ Own w' base e 1 o' (xs ++ strCells s) ∧ Keep (fun k => some k = o.blk) w w' ∧
      (o'.blk = o.blk ∨ o'.blk = some w.heap.size) := by
  have hxl : xs.length = o.n := by simpa using hown.1
  have hlen : (xs ++ strCells s).length = (o.n + s.size) * 1 := by rw [List.length_append, hxl, strCells_length, Nat.mul_one]
  have hmx : (140737488355328 : Nat) ≤ maxLen := by unfold maxLen; omega
  have grown : ∀ (old : Nat), old < o.n + s.size → ∀ (row : Option Nat),
      (w.drew.alloc (.cells (xs.toArray ++ (strCells s).toArray ++ Builtin.zeroCells (Value.int .u8 0).cells (grownCap w (o.n + s.size) old e - (o.n + s.size))) e)).ownsRow base e 1
        (.slice (some ⟨w.heap.size, 0, none⟩) (o.n + s.size) (grownCap w (o.n + s.size) old e)) (o.n + s.size) (xs ++ strCells s) ∧
      Keep (fun k => some k = row) w (w.drew.alloc (.cells (xs.toArray ++ (strCells s).toArray ++ Builtin.zeroCells (Value.int .u8 0).cells (grownCap w (o.n + s.size) old e - (o.n + s.size))) e)) := by
    intro old ho row
    have hge := grownCap_ge w (o.n + s.size) old e
    have hcm : grownCap w (o.n + s.size) old e ≤ maxLen := grownCap_le_maxLen w (o.n + s.size) old e (by omega)
    refine ⟨⟨hlen, .inr ⟨w.heap.size, _, _, rfl, hbase, heap_alloc_new w.drew _, hge, hcm, ?_, ?_⟩⟩, ⟨rfl, rfl, rfl, by simp, fun k hk _ => heap_alloc_lt w.drew _ k hk⟩⟩
    · have hz1 : (Value.int IntKind.u8 0).cells.size = 1 := rfl
      simp only [Array.size_append, List.size_toArray, size_zeroCells, hz1, hxl, strCells_length]
      omega
    · simp only [Array.toList_append, List.append_assoc]
      rw [← List.append_assoc, ← hlen]
      exact List.take_left
  rcases hown.2 with ⟨h0, hn0⟩ | ⟨g, cap, cur, hv, hbg, hg, hnc, hcm, hcs, htake⟩
  · injection h0 with hA hN hC
    obtain ⟨A, n, c⟩ := o
    simp only at hA hN hC hn0 hxl grown hbytes hlen
    subst hA; subst hN; subst hC
    have hx : xs = [] := List.eq_nil_of_length_eq_zero hxl
    subst hx
    by_cases hm : s.size = 0
    · have hn : strCells s = [] := List.eq_nil_of_length_eq_zero (by rw [strCells_length]; exact hm)
      refine ⟨⟨none, 0, 0⟩, w, ?_, by simp [hm], by rw [hn]; exact own_nil w base e 1, Keep.refl _ _, .inl rfl⟩
      have hf := run_firstCells_string (P := P) w 1 s
      rw [hm] at hf
      simp [Builtin.append_, run_underlying ht, run_underlying hu, sizeOf, typeInfo, hi, hsize, Builtin.lenOf, hm, hf]
    · have hr := run_append_nil_string (P := P) w t u ty e i (.int .u8 0) ht hu hi hz s (by omega) (by omega) (by rw [hby]; omega)
      have hgr := grown 0 (by omega) none
      simp only [Nat.zero_add, List.nil_append, Array.empty_append] at hgr
      have e1 : (s.data.map fun b => Value.int .u8 b.toNat) = (strCells s).toArray := by
        apply Array.ext'
        simp [strCells]
      rw [e1] at hr
      refine ⟨⟨some ⟨w.heap.size, 0, none⟩, s.size, _⟩, _, hr, by simp, hgr.1, hgr.2, .inr rfl⟩
  · injection hv with hA hN hC
    obtain ⟨A, n, c⟩ := o
    simp only at hA hN hC hnc hcm hcs htake hxl grown hbytes hlen
    subst hA; subst hC
    by_cases hroom : n + s.size ≤ c
    · have hcs' : cur.size = c := by simpa using hcs
      have hr := run_append_room_string (P := P) w t u ty e i ht hu hi hsize g n c cur hg s hroom (by omega)
      refine ⟨⟨some ⟨g, 0, none⟩, n + s.size, c⟩, _, hr, rfl, ⟨hlen, .inr ⟨g, c, _, rfl, hbg, setRow_heap w g cur _ e _ hg, hroom, hcm, ?_, ?_⟩⟩, ⟨rfl, rfl, rfl, by simp, fun k _ hk => setRow_other w g k _ (fun e => hk (by simp [Sl.blk, e]))⟩, .inl rfl⟩
      · simp only [List.size_toArray, List.length_append, List.length_take, List.length_drop, Array.length_toList, strCells_length]
        omega
      · have ht' : cur.toList.take n = xs := by simpa using htake
        rw [ht', ← hlen]
        exact List.take_left
    · have holds : ∀ j u, xs[j]? = some u → w.cell? ((⟨g, 0, none⟩ : Addr).add j) = some u := World.ownsRow.cells hown (g := g) rfl
      have hr := run_append_grow_string (P := P) w t u ty e i (.int .u8 0) ht hu hi hz ⟨g, 0, none⟩ n c xs (by rw [hsize]; simpa using hxl) holds s (by omega) (by omega) (by rw [hby]; exact growslice_fits (by omega) (by omega))
      have hgr := grown c (by omega) (some g)
      exact ⟨⟨some ⟨w.heap.size, 0, none⟩, n + s.size, _⟩, _, hr, rfl, hgr.1, hgr.2, .inr rfl⟩
/-- the bytes of a string, behind a row of one's own -/
theorem append_str_rule {P : Program} {w : World} {base : Nat} {t u ty e : TypeId} (ht : P.underlying t = some (.slice e)) (hu : P.underlying u = some .string)
    (hinfo : (P.info? e).map (fun i => (i.zero, i.size, i.bytes)) = some (some (.int .u8 0), 1, 1)) {o : Sl} {vs l : L8} (hs : Own w base e 1 o (bv vs)) (hbd : o.n + l.length ≤ 140737488355328) (hbase : base ≤ w.heap.size)
    {K : Sl → World → Prop} (h : ∀ o' w', o'.n = o.n + l.length → Own w' base e 1 o' (bv (vs ++ l)) → Keep (fun k => some k = o.blk) w w' → (o'.blk = o.blk ∨ o'.blk = some w.heap.size) → K o' w') :
    RunK P .sl (Builtin.append_ #[t, u] ty #[.slice o.A o.n o.c, .string (str l)]) w K := by
  obtain ⟨i, hi, hzz⟩ := Option.map_eq_some_iff.1 hinfo
  simp only [Prod.mk.injEq] at hzz
  obtain ⟨o', w', hr, hn, hown, hk, hat⟩ := append_str_at base t u ty e i ht hu hi hzz.1 hzz.2.1 hzz.2.2 o (bv vs) hs (str l) (by rw [size_str]; exact hbd) hbase
  refine ⟨o', w', hr, h o' w' (by rw [hn, size_str]) ?_ hk hat⟩
  rw [bv_append, ← strCells_bv l]
  exact hown
/-! ### a row that grows by strings and bytes, in any order of their making -/
section
variable {P : Program} {w : World} {t e : TypeId} {pb : Nat} {pcs : Array Value} {pt : TypeId} {u : World} {o : Sl} {os : L8} {lits : List (Sl × UInt8)}
end
end Go.Proofs.YtpmebahhjgkflaaGreatDoor.CF

/- Rules of maps with strings for keys. -/
namespace Go.Proofs.YtpmebahhjgkflaaGreatDoor.CF
open Go Go.RowKit
set_option maxRecDepth 100000

/-- all keys are strings -/
def SKeys (es : List MapEntry) : Prop := ∀ e ∈ es, ∃ s, e.key = .string s
def sidx : List MapEntry → ByteArray → Nat → Option (Nat × Value)
  | [], _, _ => none
  | e :: r, s, i => match e.key with
    | .string t => if s = t then some (i, e.val) else sidx r s (i + 1)
    | _ => sidx r s (i + 1)
def sget (es : List MapEntry) (s : ByteArray) : Option Value := (sidx es s 0).map (·.2)
theorem findNow_str {s : ByteArray} : ∀ {es : List MapEntry} (i : Nat), SKeys es → Instr.findNow .string (.string s) es i = some (sidx es s i)
  | [], _, _ => rfl
  | e :: r, i, h => by
    obtain ⟨t, ht⟩ := h e (by simp)
    have ih := findNow_str (s := s) (i + 1) (fun x hx => h x (by simp [hx]) : SKeys r)
    unfold Instr.findNow sidx
    rw [ht]
    simp only [Instr.sameNow]
    by_cases e : s = t
    · have : (s == t) = true := (MapKept.bytes_beq s t).2 e
      rw [this]
      simp only [if_pos e]
    · have : (s == t) = false := Bool.eq_false_iff.2 fun q => e ((MapKept.bytes_beq s t).1 q)
      rw [this]
      simp only [if_neg e]
      exact ih
theorem sidx_shift {s : ByteArray} : ∀ (es : List MapEntry) (i j : Nat), sidx es s (i + j) = (sidx es s i).map fun p => (p.1 + j, p.2)
  | [], _, _ => rfl
  | e :: r, i, j => by
    unfold sidx
    have := sidx_shift (s := s) r (i + 1) j
    rw [show i + 1 + j = i + j + 1 by omega] at this
    cases e.key with
    | string t => by_cases q : s = t <;> simp [q, this]
    | _ => simpa using this
theorem sget_cons {e : MapEntry} {r : List MapEntry} {t : ByteArray} (h : e.key = .string t) (s : ByteArray) : sget (e :: r) s = if s = t then some e.val else sget r s := by
  unfold sget
  conv => lhs; unfold sidx
  rw [h]
  by_cases q : s = t
  · simp [q]
  · simp only [if_neg q]
    rw [sidx_shift r 0 1, Option.map_map]
    rfl
theorem sget_push {es : List MapEntry} {s : ByteArray} {e : MapEntry} (hk : SKeys es) (he : e.key = .string s) (hn : sget es s = none) (t : ByteArray) :
    sget (es ++ [e]) t = if t = s then some e.val else sget es t := by
  induction es with
  | nil => rw [List.nil_append, sget_cons he]
  | cons x r ih =>
    obtain ⟨u, hu⟩ := hk x (by simp)
    rw [sget_cons hu] at hn
    rw [List.cons_append, sget_cons hu, sget_cons hu]
    by_cases q : s = u
    · rw [if_pos q] at hn; cases hn
    · rw [if_neg q] at hn
      rw [ih (fun x hx => hk x (by simp [hx])) hn]
      by_cases q1 : t = u
      · by_cases q2 : t = s
        · exact absurd (q2.symm.trans q1) q
        · rw [if_pos q1, if_neg q2, if_pos q1]
      · simp only [if_neg q1]
theorem sget_modify {es : List MapEntry} {s : ByteArray} {i : Nat} {v v' : Value} (hk : SKeys es) (hn : sidx es s 0 = some (i, v)) (t : ByteArray) :
    sget (es.modify i fun e => { e with key := .string s, val := v' }) t = if t = s then some v' else sget es t := by
  induction es generalizing i with
  | nil => cases hn
  | cons x r ih =>
    obtain ⟨u, hu⟩ := hk x (by simp)
    unfold sidx at hn
    rw [hu] at hn
    by_cases q : s = u
    · simp only [if_pos q, Option.some.injEq, Prod.mk.injEq] at hn
      obtain ⟨rfl, _⟩ := hn
      rw [List.modify_zero_cons, sget_cons (t := s) rfl, sget_cons hu]
      by_cases q1 : t = s
      · simp [q1]
      · have q2 : t ≠ u := fun e => q1 (e.trans q.symm)
        simp [q1, q2]
    · simp only [if_neg q] at hn
      rw [sidx_shift r 0 1] at hn
      obtain ⟨p, hp, hpe⟩ := Option.map_eq_some_iff.1 hn
      simp only [Prod.mk.injEq] at hpe
      obtain ⟨rfl, hp2⟩ := hpe
      rw [List.modify_succ_cons, sget_cons hu, sget_cons hu, ih (i := p.1) (fun x hx => hk x (by simp [hx])) (by rw [hp, ← hp2])]
      by_cases q1 : t = u
      · have q2 : t ≠ s := fun e => q (e.symm.trans q1)
        simp [q1, q2]
        exact fun e => absurd e.symm q
      · simp [q1]
theorem skeys_modify {es : List MapEntry} {s : ByteArray} {i : Nat} {v' : Value} (hk : SKeys es) : SKeys (es.modify i fun e => { e with key := .string s, val := v' }) := by
  intro e he
  obtain ⟨j, hj, rfl⟩ := List.getElem_of_mem he
  rw [List.getElem_modify]
  split
  · exact ⟨s, rfl⟩
  · exact hk _ (List.getElem_mem _)
theorem sidx_at {es : Array MapEntry} {s : ByteArray} {i j : Nat} {v : Value} (hs : SKeys es.toList) (h : sidx es.toList s j = some (j + i, v)) : ∃ e0, es[i]? = some e0 ∧ e0.key = .string s := by
  rw [← Array.getElem?_toList]
  generalize es.toList = l at *
  induction l generalizing i j with
  | nil => cases h
  | cons x r ih =>
    obtain ⟨u, hu⟩ := hs x (by simp)
    unfold sidx at h
    rw [hu] at h
    by_cases q : s = u
    · simp only [if_pos q, Option.some.injEq, Prod.mk.injEq] at h
      have : i = 0 := by omega
      subst this
      exact ⟨x, rfl, by rw [hu, q]⟩
    · simp only [if_neg q] at h
      have hi : 0 < i := by
        rw [show j + 1 = 0 + (j + 1) by omega, sidx_shift] at h
        obtain ⟨p, _, hp⟩ := Option.map_eq_some_iff.1 h
        simp only [Prod.mk.injEq] at hp
        omega
      obtain ⟨i', rfl⟩ : ∃ i', i = i' + 1 := ⟨i - 1, by omega⟩
      rw [List.getElem?_cons_succ]
      exact ih (j := j + 1) (fun y hy => hs y (by simp [hy])) (by rw [h]; congr 2; omega)
/-- a map that holds these values -/
def SMap (w : World) (b : Nat) (m : ByteArray → Option Value) : Prop :=
  ∃ es clock, w.heap[b]? = some (.map es clock) ∧ SKeys es.toList ∧ ∀ s, sget es.toList s = m s
def upd (m : ByteArray → Option Value) (s : ByteArray) (v : Value) : ByteArray → Option Value := fun t => if t = s then some v else m t
theorem SMap.keep {S : Nat → Prop} {w w' : World} {b : Nat} {m : ByteArray → Option Value} (h : SMap w b m) (k : Keep S w w') (hn : ¬ S b) : SMap w' b m := by
  obtain ⟨es, c, h1, h2⟩ := h
  exact ⟨es, c, k.heap h1 hn, h2⟩
theorem smap_new (w : World) : SMap (w.alloc (.map #[] 0)) w.heap.size fun _ => none :=
  ⟨#[], 0, by show (w.heap.push _)[w.heap.size]? = _; simp, fun e he => by simp at he, fun s => rfl⟩
section
variable {P : Program} {w : World} {b : Nat} {m : ByteArray → Option Value} {t k e : TypeId}
theorem run_getMap {es : Array MapEntry} {clock : Nat} (h : w.heap[b]? = some (.map es clock)) : (getObj b).run P w = .ok (.map es clock) w := by
  simp [getObj, Sem.run, h]
theorem checkKey_str (ek : Bool) (n : Nat) (hk : P.underlying k = some .string) (s : ByteArray) : (Instr.checkKey ek (n + 1) k (.string s)).run P w = .ok () w := by
  unfold Instr.checkKey
  simp [run_underlying hk]
theorem findKey_str {es : List MapEntry} (hk : P.underlying k = some .string) (hs : SKeys es) (s : ByteArray) : (Instr.findKey k (.string s) es).run P w = .ok (sidx es s 0) w := by
  unfold Instr.findKey
  simp [run_underlying hk, findNow_str 0 hs]
theorem look_rule (ht : P.underlying t = some (.map k e)) (hk : P.underlying k = some .string) {zv : Value} (hz : (zeroValue e).run P w = .ok zv w) (h : SMap w b m) (s : ByteArray) :
    (Instr.lookup t (.map (some b)) (.string s) true).run P w = .ok (.tuple #[(m s).getD zv, .bool (m s).isSome]) w ∧
    (Instr.lookup t (.map (some b)) (.string s) false).run P w = .ok ((m s).getD zv) w := by
  obtain ⟨es, c, hb, hs, hm⟩ := h
  have := hm s
  unfold sget at this
  unfold Instr.lookup
  constructor
  · cases hi : sidx es.toList s 0 with
    | none =>
      rw [hi] at this
      simp only [Option.map_none] at this
      rw [← this]
      simp [run_underlying ht, run_getMap hb, checkKey_str _ _ hk, findKey_str hk hs, hi, hz]
    | some p =>
      rw [hi] at this
      simp only [Option.map_some] at this
      rw [← this]
      simp [run_underlying ht, run_getMap hb, checkKey_str _ _ hk, findKey_str hk hs, hi]
  · cases hi : sidx es.toList s 0 with
    | none =>
      rw [hi] at this
      simp only [Option.map_none] at this
      rw [← this]
      simp [run_underlying ht, run_getMap hb, checkKey_str _ _ hk, findKey_str hk hs, hi, hz]
    | some p =>
      rw [hi] at this
      simp only [Option.map_some] at this
      rw [← this]
      simp [run_underlying ht, run_getMap hb, checkKey_str _ _ hk, findKey_str hk hs, hi]
theorem run_setMap {o : Obj} {es : Array MapEntry} {c : Nat} (h : w.heap[b]? = some (.map es c)) : (setObj b o).run P w = .ok () { w with heap := w.heap.setIfInBounds b o } := by
  simp [setObj, Sem.run, h]
/-- a value under a key -/
theorem upd_rule (ht : P.underlying t = some (.map k e)) (hk : P.underlying k = some .string) (h : SMap w b m) (s : ByteArray) (v : Value)
    {K : World → Prop} (hK : ∀ w1, SMap w1 b (upd m s v) → Keep (fun k => k = b) w w1 → w1.heap.size = w.heap.size → K w1) : RunU P (Instr.mapUpdate t (.map (some b)) (.string s) v) w K := by
  obtain ⟨es, c, hb, hs, hm⟩ := h
  have hlt := lt_of_heap hb
  have hget : ∀ (o : Obj), ({ w with heap := w.heap.setIfInBounds b o } : World).heap[b]? = some o := fun o => by
    simp [hlt]
  have hkeep : ∀ (o : Obj), Keep (fun k => k = b) w { w with heap := w.heap.setIfInBounds b o } := fun o =>
    ⟨rfl, rfl, rfl, by simp, fun k _ hn => by simp [Array.getElem?_setIfInBounds, Ne.symm hn]⟩
  cases hi : sidx es.toList s 0 with
  | none =>
    have hn : sget es.toList s = none := by unfold sget; rw [hi]; rfl
    refine ⟨_, ?_, hK { w with heap := w.heap.setIfInBounds b (.map (es.push { key := .string s, val := v, born := c }) (c + 1)) } ⟨_, _, hget _, ?_, fun t => ?_⟩ (hkeep _) (by simp)⟩
    · unfold Instr.mapUpdate
      simp [run_underlying ht, run_getMap hb, checkKey_str _ _ hk, findKey_str hk hs, hi, run_setMap hb]
    · intro e he
      rw [Array.toList_push, List.mem_append, List.mem_singleton] at he
      rcases he with he | rfl
      · exact hs e he
      · exact ⟨s, rfl⟩
    · rw [Array.toList_push, sget_push hs rfl hn]
      unfold upd
      rw [hm]
  | some p =>
    obtain ⟨i, v0⟩ := p
    have hold : ∃ e0, es[i]? = some e0 ∧ e0.key = .string s := sidx_at (j := 0) hs (by rw [hi, Nat.zero_add])
    obtain ⟨e0, he0, hk0⟩ := hold
    refine ⟨_, ?_, hK { w with heap := w.heap.setIfInBounds b (.map (es.modify i fun e => { e with key := .string s, val := v }) c) } ⟨_, _, hget _, ?_, fun t => ?_⟩ (hkeep _) (by simp)⟩
    · unfold Instr.mapUpdate
      simp [run_underlying ht, run_getMap hb, checkKey_str _ _ hk, findKey_str hk hs, hi, run_setMap hb, he0, hk0, Instr.keyThatStays, Instr.sameBits, (MapKept.bytes_beq s s).2 rfl]
    · rw [Array.toList_modify]; exact skeys_modify hs
    · rw [Array.toList_modify, sget_modify hs hi]
      unfold upd
      rw [hm]
end
end Go.Proofs.YtpmebahhjgkflaaGreatDoor.CF

/- Rules: bytes copied into a row of one's own. -/
namespace Go.Proofs.YtpmebahhjgkflaaGreatDoor.CF
open Go Go.RowKit
set_option maxRecDepth 100000

theorem copy_rule {P : Program} {w : World} {base : Nat} {t ty e : TypeId} {zv : Option Value} {bytes : Nat} (ht : P.underlying t = some (.slice e)) (hinfo : (P.info? e).map (fun i => (i.zero, i.size, i.bytes)) = some (zv, 1, bytes))
    {f x : Sl} {F xs : List Value} {o : Nat} (hf : Own w base e 1 f F) (hx : Rd w 1 x xs) (h1 : ∀ u ∈ xs, u.oneCell' = true) (ho : o + x.n ≤ f.n)
    {K : Int → World → Prop} (h : ∀ w', Own w' base e 1 f (F.take o ++ xs ++ F.drop (o + x.n)) → Keep (fun k => some k = f.blk) w w' → w'.heap.size = w.heap.size → K (x.n : Int) w') :
    RunK P (.i .i64) (Builtin.copy_ #[t, t] ty #[.slice (cutA f.A f.c o 1) (f.n - o) (f.c - o), .slice x.A x.n x.c]) w K := by
  have hs : (P.info? e).map (·.size) = some 1 := by
    obtain ⟨i, hi, hzz⟩ := Option.map_eq_some_iff.1 hinfo
    simp only [Prod.mk.injEq] at hzz
    rw [hi, Option.map_some, hzz.2.1]
  have hFl : F.length = f.n := by have := hf.len; omega
  have hxl : xs.length = x.n := by have := hx.len; omega
  rcases Nat.eq_zero_or_pos x.n with h0 | hpos
  · have hx0 : xs = [] := List.eq_nil_of_length_eq_zero (by omega)
    refine ⟨(x.n : Int), w, ?_, h w ?_ (Keep.refl _ _) rfl⟩
    · rw [run_copy_none (P := P) w t t ty e _ _ _ _ _ _ ht hs (by rw [h0]; exact Nat.zero_min _), h0]; rfl
    · rw [hx0, h0, List.append_nil, Nat.add_zero, List.take_append_drop]; exact hf
  · obtain ⟨hlen, hown⟩ := hf
    rcases hown with ⟨h2, hn0⟩ | ⟨g, cap, cur, hv, hbg, hg, hnc, hcm, hcs, htake⟩
    · omega
    · injection hv with hA hN hC
      have hne : xs ≠ [] := fun e => by rw [e] at hxl; simp at hxl; omega
      obtain ⟨a, ha, hc⟩ := hx.at_ hne
      have hcA : cutA f.A f.c o 1 = some ⟨g, o, none⟩ := by
        unfold cutA
        rw [if_neg (by omega), hA]
        simp [Addr.add]
        omega
      have hcs' : cur.size = cap := by simpa using hcs
      have hmin : xs.length = Nat.min x.n (f.n - o) := by
        have : Nat.min x.n (f.n - o) = x.n := Nat.min_eq_left (by omega)
        omega
      have hr := run_copy_row (P := P) w t t ty e g o (f.n - o) (f.c - o) a x.n x.c cur e xs ht hs hg hmin hc (by omega) h1
      rw [hcA, ha]
      refine ⟨(x.n : Int), _, by rw [hr, hxl]; rfl, h _ ⟨?_, .inr ⟨g, cap, _, by rw [hA, hC], hbg, setRow_heap w g cur _ e _ hg, hnc, hcm, ?_, ?_⟩⟩ ⟨rfl, rfl, rfl, by simp, fun k _ hk => setRow_other w g k _ (fun e => hk (by simp [Sl.blk, hA, e]))⟩ (by simp)⟩
      · simp only [List.length_append, List.length_take, List.length_drop]
        omega
      · simp only [List.size_toArray, List.length_append, List.length_take, List.length_drop, Array.length_toList]
        omega
      · have hF : cur.toList.take (f.n * 1) = F := htake
        rw [Nat.mul_one] at hF ⊢
        rw [← hF]
        apply List.ext_getElem?
        intro j
        simp only [List.getElem?_take, List.getElem?_append, List.length_append, List.length_take, Array.length_toList, List.getElem?_drop, hxl]
        have e1 : min o cur.size = o := by omega
        have e2 : min o (min f.n cur.size) = o := by omega
        simp only [e1, e2]
        by_cases q1 : j < o
        · have q2 : j < o + x.n := by omega
          have q3 : j < f.n := by omega
          simp only [if_pos q1, if_pos q2, if_pos q3]
        · by_cases q2 : j < o + x.n
          · have q3 : j < f.n := by omega
            simp only [if_neg q1, if_pos q2, if_pos q3]
          · by_cases q3 : j < f.n
            · have q4 : o + x.n + (j - (o + x.n)) < f.n := by omega
              simp only [if_neg q2, if_pos q3, if_pos q4]
            · have q4 : ¬ o + x.n + (j - (o + x.n)) < f.n := by omega
              simp only [if_neg q2, if_neg q3, if_neg q4]
end Go.Proofs.YtpmebahhjgkflaaGreatDoor.CF

-- printed by wip/cf/cfprint.py
namespace Go.Proofs.YtpmebahhjgkflaaGreatDoor
open Go CF
def cs : List Nat := [3, 4, 5, 6, 7, 8, 9, 10, 11, 12, 13, 14, 15, 16, 17, 18, 19, 20, 21, 22, 23, 24, 25, 26, 27, 28, 29, 30, 31, 32, 33, 34, 35, 36, 37, 38, 39, 40, 41, 42, 43, 44, 45, 46, 47, 48, 49, 50, 51, 52, 53, 54, 55, 56, 57, 58, 59, 60, 61, 62, 63, 64, 65, 66, 67, 68, 69, 70, 71, 72, 73, 74, 75, 76, 77, 78, 79, 81, 82, 83, 84, 85, 86, 87, 88, 89, 90, 91, 92, 93, 94, 95, 96, 97, 98, 99, 100, 101, 102, 103, 104, 105, 106, 107, 108, 109, 110, 111, 112, 113, 114, 115, 116, 117, 118, 119, 121, 122, 123, 124, 125, 126, 127, 128, 130, 131, 132, 133, 134, 135, 136, 137, 138, 139, 140, 141, 142, 143, 144, 145, 146, 147, 148, 149, 150, 151, 152, 153, 154, 155, 156, 157, 158, 159, 160, 161, 162, 163, 164, 165, 166, 167, 168, 169, 170, 171, 172, 173, 174, 175, 176, 177, 178, 179, 180, 181, 182, 183, 184, 185, 186, 187, 188, 189, 190, 191, 192, 193, 194, 195, 196, 197, 198, 199, 200, 202, 203, 204, 205, 206, 207, 208, 209, 210, 211, 212, 213, 214, 215, 216, 217, 218, 219, 220, 221, 222, 223, 224, 225, 226, 227, 228, 229, 230, 231, 232, 233, 234, 235, 236, 237, 238, 239, 240, 241, 242, 243, 244, 245, 246, 247, 248, 249, 250, 251, 252, 253, 254, 255, 256, 257, 258, 259, 261, 262, 263, 264, 265, 266, 267, 268, 269, 270, 271, 272, 273, 274, 275, 276, 277, 278, 279, 280, 281, 282, 283, 284, 285, 286, 287, 292, 295, 296, 297, 298, 299, 300, 301, 302, 303, 304, 305, 306, 314, 315, 316, 317, 318, 319, 320, 321, 322, 323, 325]
def okCalls (P : Program) : List Nat → Bool
  | [] => true
  | f :: r => (match P.funcs[f]? with | some fn => !(fn.name == "runtime.NumGoroutine") && !fn.body.isNone | none => false) && okCalls P r
theorem okCalls_ok {P : Program} : ∀ {l : List Nat}, okCalls P l = true → Callable P l
  | [], _, f, h => by cases h
  | g :: r, hok, f, h => by
    simp only [okCalls, Bool.and_eq_true] at hok
    simp only [memN, Bool.or_eq_true] at h
    rcases h with h | h
    · have e : g = f := Nat.eq_of_beq_eq_true h
      subst e
      have h1 := hok.1
      split at h1
      · rename_i fn hf
        simp only [Bool.and_eq_true, Bool.not_eq_true'] at h1
        exact ⟨fn, hf, h1.1, h1.2⟩
      · cases h1
    · exact okCalls_ok hok.2 f h
theorem callable : Callable Tryz.prog cs := okCalls_ok (by kernel_rfl)
theorem wide : Tryz.prog.follows .mixedOrders = true := by kernel_rfl
noncomputable def G : Gen := gen Tryz.prog cs
def s_a : ByteArray := ⟨#[97]⟩
def s_b : ByteArray := ⟨#[98]⟩
def s_x2ed : ByteArray := ⟨#[46, 100]⟩
def s_x2ep : ByteArray := ⟨#[46, 112]⟩
def s_S0 : ByteArray := ⟨#[83, 48]⟩
def s_S1 : ByteArray := ⟨#[83, 49]⟩
def s_V : ByteArray := ⟨#[86]⟩
def s_P : ByteArray := ⟨#[80]⟩
def s_1 : ByteArray := ⟨#[49]⟩
def s_SLOT : ByteArray := ⟨#[83, 76, 79, 84]⟩
def s_x2e : ByteArray := ⟨#[46]⟩
def Cpalletlaw16_UnitAttends (p0 : Int) (p1 : Int) (p2 : Int) (p3 : Bool) (w : World) (R : Bool → World → Prop) : Prop := CallK Tryz.prog 3 #[.int .u8 p0, .int .u8 p1, .int .u8 p2, .bool p3] w [.b] R
def Cpalletlaw16_awake (w : World) (R : Bool → World → Prop) : Prop := CallK Tryz.prog 10 #[] w [.b] R
def Cpalletlaw16_units (p0 : Option Addr) (p1 : Int) (w : World) (R : (Array Value) → World → Prop) : Prop := CallK Tryz.prog 11 #[.pointer p0, .int .u8 p1] w [.ag] R
def Cworld_New (w : World) (R : (Option Addr) → World → Prop) : Prop := CallK Tryz.prog 12 #[] w [.p] R
def Cpalletlaw16_does (p0 : Option Addr) (p1 : Int) (p2 : Sl) (p3 : Sl) (w : World) (R : (Array Value) → World → Prop) : Prop := CallK Tryz.prog 13 #[.pointer p0, .int .i64 p1, .slice p2.A p2.n p2.c, .slice p3.A p3.n p3.c] w [.ag] R
def Cpalletlaw16_ready (w : World) (R : Sl → World → Prop) : Prop := CallK Tryz.prog 14 #[] w [.sl] R
def Cunit_Unit_Do (p0 : Option Addr) (p1 : Int) (p2 : Sl) (p3 : Sl) (w : World) (R : (Array Value) → World → Prop) : Prop := CallK Tryz.prog 15 #[.pointer p0, .int .i64 p1, .slice p2.A p2.n p2.c, .slice p3.A p3.n p3.c] w [.ag] R
def Cpalletref14_Same (p0 : Array Value) (p1 : Array Value) (w : World) (R : Bool → World → Prop) : Prop := CallK Tryz.prog 16 #[.agg p0, .agg p1] w [.b] R
def Cpalletref14_Ends (p0 : Int) (p1 : Int) (w : World) (R : (Array Value) → World → Prop) : Prop := CallK Tryz.prog 17 #[.int .u8 p0, .int .u16 p1] w [.ag] R
def Cunit_Unit_Peers (p0 : Option Addr) (p1 : Sl) (w : World) (R : World → Prop) : Prop := CallK Tryz.prog 18 #[.pointer p0, .slice p1.A p1.n p1.c] w [] R
def Cunit_Unit_Start (p0 : Option Addr) (w : World) (R : Int → World → Prop) : Prop := CallK Tryz.prog 27 #[.pointer p0] w [.i .i64] R
def Cunit_New (p0 : Option Addr) (p1 : ByteArray) (p2 : Array Value) (w : World) (R : (Option Addr) → Int → World → Prop) : Prop := CallK Tryz.prog 28 #[.pointer p0, .string p1, .agg p2] w [.p, .i .i64] R
def Cunit_Class (p0 : Int) (w : World) (R : Int → World → Prop) : Prop := CallK Tryz.prog 32 #[.int .u8 p0] w [.i .u8] R
def Cunit_Alters (p0 : Int) (w : World) (R : Bool → World → Prop) : Prop := CallK Tryz.prog 34 #[.int .u8 p0] w [.b] R
def Cpalletlaw16_info (p0 : Int) (p1 : Int) (w : World) (R : (Array Value) → World → Prop) : Prop := CallK Tryz.prog 40 #[.int .i64 p0, .int .u8 p1] w [.ag] R
def Cunit_check (p0 : Array Value) (w : World) (R : (Array Value) → World → Prop) : Prop := CallK Tryz.prog 41 #[.agg p0] w [.ag] R
def Csync_atomic_Int64_Add (p0 : Option Addr) (p1 : Int) (w : World) (R : Int → World → Prop) : Prop := CallK Tryz.prog 42 #[.pointer p0, .int .i64 p1] w [.i .i64] R
def Ccdb_Parse (p0 : Sl) (w : World) (R : (Array Value) → (Array Value) → Bool → World → Prop) : Prop := CallK Tryz.prog 43 #[.slice p0.A p0.n p0.c] w [.ag, .ag, .b] R
def Cattn_Queues_Peek (p0 : Option Addr) (p1 : Int) (w : World) (R : Int → Bool → World → Prop) : Prop := CallK Tryz.prog 44 #[.pointer p0, .int .i64 p1] w [.i .u16, .b] R
def Cattn_Queues_Next (p0 : Option Addr) (p1 : Int) (w : World) (R : Int → Bool → World → Prop) : Prop := CallK Tryz.prog 45 #[.pointer p0, .int .i64 p1] w [.i .u16, .b] R
def Cpr_Table_Conflict (p0 : Option Addr) (p1 : Int) (p2 : Int) (w : World) (R : Bool → World → Prop) : Prop := CallK Tryz.prog 46 #[.pointer p0, .int .i64 p1, .int .u8 p2] w [.b] R
def Cmode_Pages_Now (p0 : Option Addr) (w : World) (R : (Array Value) → World → Prop) : Prop := CallK Tryz.prog 47 #[.pointer p0] w [.ag] R
def Cunit_Unit_run (p0 : Option Addr) (p1 : Int) (p2 : Array Value) (p3 : Sl) (w : World) (R : (Array Value) → World → Prop) : Prop := CallK Tryz.prog 48 #[.pointer p0, .int .i64 p1, .agg p2, .slice p3.A p3.n p3.c] w [.ag] R
def Cpr_Table_Reserved (p0 : Option Addr) (w : World) (R : Int → Int → World → Prop) : Prop := CallK Tryz.prog 57 #[.pointer p0] w [.i .u8, .i .i64] R
def Csync_Once_Do (p0 : Option Addr) (p1 : Value) (w : World) (R : World → Prop) : Prop := CallK Tryz.prog 60 #[.pointer p0, p1] w [] R
def Cunit_Unit_Start_1 (p0 : Addr) (w : World) (R : World → Prop) : Prop := CallK Tryz.prog 61 #[.pointer (some p0)] w [] R
def Cunit_Unit_load (p0 : Option Addr) (w : World) (R : Int → World → Prop) : Prop := CallK Tryz.prog 62 #[.pointer p0] w [.i .i64] R
def Cinq_Form (p0 : Array Value) (w : World) (R : Bool → World → Prop) : Prop := CallK Tryz.prog 63 #[.agg p0] w [.b] R
def Cstore_Open (p0 : Option Addr) (p1 : ByteArray) (p2 : Int) (p3 : Bool) (w : World) (R : (Option Addr) → Int → World → Prop) : Prop := CallK Tryz.prog 64 #[.pointer p0, .string p1, .int .i64 p2, .bool p3] w [.p, .i .i64] R
def Cmode_Default (w : World) (R : (Array Value) → World → Prop) : Prop := CallK Tryz.prog 65 #[] w [.ag] R
def Cslots_Open (p0 : Option Addr) (p1 : ByteArray) (w : World) (R : (Option Addr) → Int → World → Prop) : Prop := CallK Tryz.prog 66 #[.pointer p0, .string p1] w [.p, .i .i64] R
def Cmode_New (p0 : Array Value) (w : World) (R : (Option Addr) → World → Prop) : Prop := CallK Tryz.prog 67 #[.agg p0] w [.p] R
def Cpr_New (w : World) (R : (Option Addr) → World → Prop) : Prop := CallK Tryz.prog 68 #[] w [.p] R
def Cattn_New (w : World) (R : (Option Addr) → World → Prop) : Prop := CallK Tryz.prog 69 #[] w [.p] R
def Cattn_Queues_AddAll (p0 : Option Addr) (p1 : Int) (p2 : Int) (w : World) (R : World → Prop) : Prop := CallK Tryz.prog 71 #[.pointer p0, .int .i64 p1, .int .u16 p2] w [] R
def Cworld_apply (p0 : Option Nat) (p1 : Array Value) (p2 : Int) (w : World) (R : World → Prop) : Prop := CallK Tryz.prog 72 #[.map p0, .agg p1, .int .i64 p2] w [] R
def Cbe_Get (p0 : Sl) (p1 : Int) (p2 : Int) (w : World) (R : Int → Int → World → Prop) : Prop := CallK Tryz.prog 76 #[.slice p0.A p0.n p0.c, .int .i64 p1, .int .i64 p2] w [.i .u64, .i .i64] R
def Csense_Fixed (p0 : Array Value) (w : World) (R : Sl → Int → World → Prop) : Prop := CallK Tryz.prog 78 #[.agg p0] w [.sl, .i .i64] R
def Csense_Described (p0 : Array Value) (w : World) (R : Sl → Int → World → Prop) : Prop := CallK Tryz.prog 79 #[.agg p0] w [.sl, .i .i64] R
def Ccdb_Fault (p0 : Int) (p1 : Int) (w : World) (R : (Array Value) → World → Prop) : Prop := CallK Tryz.prog 81 #[.int .i64 p0, .int .i64 p1] w [.ag] R
def Ccdb_Usage (p0 : Int) (p1 : Int) (w : World) (R : Sl → Bool → World → Prop) : Prop := CallK Tryz.prog 82 #[.int .u8 p0, .int .u8 p1] w [.sl, .b] R
def Cbe_Odd (p0 : Sl) (p1 : Sl) (w : World) (R : Int → Int → World → Prop) : Prop := CallK Tryz.prog 83 #[.slice p0.A p0.n p0.c, .slice p1.A p1.n p1.c] w [.i .i64, .i .i64] R
def Ccdb_kind (p0 : Int) (w : World) (R : Int → World → Prop) : Prop := CallK Tryz.prog 84 #[.int .u8 p0] w [.i .u8] R
def Ccdb_fill (p0 : Option Addr) (p1 : Sl) (p2 : Int) (w : World) (R : Int → Int → World → Prop) : Prop := CallK Tryz.prog 85 #[.pointer p0, .slice p1.A p1.n p1.c, .int .u8 p2] w [.i .i64, .i .i64] R
def Cattn_Queues_first (p0 : Option Addr) (p1 : Int) (w : World) (R : Int → World → Prop) : Prop := CallK Tryz.prog 86 #[.pointer p0, .int .i64 p1] w [.i .i64] R
def Cpr_Table_Holds (p0 : Option Addr) (p1 : Int) (w : World) (R : Bool → World → Prop) : Prop := CallK Tryz.prog 87 #[.pointer p0, .int .i64 p1] w [.b] R
def Cpr_Table_key (p0 : Option Addr) (p1 : Int) (w : World) (R : Int → Bool → World → Prop) : Prop := CallK Tryz.prog 88 #[.pointer p0, .int .i64 p1] w [.i .u64, .b] R
def Cinq_Cut (p0 : Sl) (p1 : Int) (w : World) (R : Sl → World → Prop) : Prop := CallK Tryz.prog 89 #[.slice p0.A p0.n p0.c, .int .i64 p1] w [.sl] R
def Cinq_Standard (p0 : Array Value) (w : World) (R : Sl → World → Prop) : Prop := CallK Tryz.prog 90 #[.agg p0] w [.sl] R
def Cinq_Page (p0 : Array Value) (p1 : Int) (w : World) (R : Sl → Bool → World → Prop) : Prop := CallK Tryz.prog 91 #[.agg p0, .int .u8 p1] w [.sl, .b] R
def Cinq_Luns (p0 : Sl) (w : World) (R : Sl → World → Prop) : Prop := CallK Tryz.prog 92 #[.slice p0.A p0.n p0.c] w [.sl] R
def Cmode_Pages_Sense (p0 : Option Addr) (p1 : Array Value) (w : World) (R : Sl → (Array Value) → Bool → World → Prop) : Prop := CallK Tryz.prog 93 #[.pointer p0, .agg p1] w [.sl, .ag, .b] R
def Cunit_Unit_sel (p0 : Option Addr) (p1 : Int) (p2 : Array Value) (p3 : Sl) (w : World) (R : (Array Value) → World → Prop) : Prop := CallK Tryz.prog 94 #[.pointer p0, .int .i64 p1, .agg p2, .slice p3.A p3.n p3.c] w [.ag] R
def Cunit_Unit_in (p0 : Option Addr) (p1 : Int) (w : World) (R : Sl → World → Prop) : Prop := CallK Tryz.prog 95 #[.pointer p0, .int .u8 p1] w [.sl] R
def Cunit_Unit_out (p0 : Option Addr) (p1 : Int) (p2 : Array Value) (p3 : Sl) (w : World) (R : (Array Value) → World → Prop) : Prop := CallK Tryz.prog 96 #[.pointer p0, .int .i64 p1, .agg p2, .slice p3.A p3.n p3.c] w [.ag] R
def Cunit_Unit_copy (p0 : Option Addr) (p1 : Int) (p2 : Array Value) (p3 : Sl) (w : World) (R : (Array Value) → World → Prop) : Prop := CallK Tryz.prog 97 #[.pointer p0, .int .i64 p1, .agg p2, .slice p3.A p3.n p3.c] w [.ag] R
def Csbc_Dev_Do (p0 : Option Addr) (p1 : Array Value) (p2 : Sl) (w : World) (R : (Array Value) → World → Prop) : Prop := CallK Tryz.prog 98 #[.pointer p0, .agg p1, .slice p2.A p2.n p2.c] w [.ag] R
def Cpr_All (p0 : Int) (w : World) (R : Bool → World → Prop) : Prop := CallK Tryz.prog 119 #[.int .u8 p0] w [.b] R
def Csync_atomic_Bool_Load (p0 : Option Addr) (w : World) (R : Bool → World → Prop) : Prop := CallK Tryz.prog 121 #[.pointer p0] w [.b] R
def Csync_Once_doSlow (p0 : Option Addr) (p1 : Value) (w : World) (R : World → Prop) : Prop := CallK Tryz.prog 122 #[.pointer p0, p1] w [] R
def Cattn_Queues_Add (p0 : Option Addr) (p1 : Int) (p2 : Int) (w : World) (R : World → Prop) : Prop := CallK Tryz.prog 123 #[.pointer p0, .int .i64 p1, .int .u16 p2] w [] R
def Cslots_Slots_Load (p0 : Option Addr) (w : World) (R : Sl → Int → Int → World → Prop) : Prop := CallK Tryz.prog 124 #[.pointer p0] w [.sl, .i .u64, .i .i64] R
def Cpr_Load (p0 : Sl) (w : World) (R : (Option Addr) → Int → World → Prop) : Prop := CallK Tryz.prog 125 #[.slice p0.A p0.n p0.c] w [.p, .i .i64] R
def Cunit_values (p0 : Int) (w : World) (R : (Array Value) → World → Prop) : Prop := CallK Tryz.prog 126 #[.int .u8 p0] w [.ag] R
def Cstore_Store_SetCache (p0 : Option Addr) (p1 : Bool) (w : World) (R : World → Prop) : Prop := CallK Tryz.prog 127 #[.pointer p0, .bool p1] w [] R
def Cinq_text (p0 : ByteArray) (p1 : Int) (p2 : Int) (w : World) (R : Bool → World → Prop) : Prop := CallK Tryz.prog 128 #[.string p0, .int .i64 p1, .int .i64 p2] w [.b] R
def Cbe_field (p0 : Sl) (p1 : Int) (p2 : Int) (w : World) (R : Int → World → Prop) : Prop := CallK Tryz.prog 130 #[.slice p0.A p0.n p0.c, .int .i64 p1, .int .i64 p2] w [.i .i64] R
def Csense_Form (p0 : Array Value) (w : World) (R : Bool → World → Prop) : Prop := CallK Tryz.prog 131 #[.agg p0] w [.b] R
def Cbe_Put (p0 : Sl) (p1 : Int) (p2 : Int) (p3 : Int) (w : World) (R : Sl → Int → World → Prop) : Prop := CallK Tryz.prog 132 #[.slice p0.A p0.n p0.c, .int .i64 p1, .int .i64 p2, .int .u64 p3] w [.sl, .i .i64] R
def Csense_key (p0 : Array Value) (w : World) (R : Sl → World → Prop) : Prop := CallK Tryz.prog 133 #[.agg p0] w [.sl] R
def Ccdb_number (p0 : Sl) (p1 : Int) (p2 : Int) (w : World) (R : Int → World → Prop) : Prop := CallK Tryz.prog 134 #[.slice p0.A p0.n p0.c, .int .i64 p1, .int .i64 p2] w [.i .u64] R
def Ccdb_blocks (p0 : Option Addr) (p1 : Sl) (w : World) (R : Int → Int → World → Prop) : Prop := CallK Tryz.prog 135 #[.pointer p0, .slice p1.A p1.n p1.c] w [.i .i64, .i .i64] R
def Cattn_Queues_in (p0 : Option Addr) (p1 : Int) (w : World) (R : Bool → World → Prop) : Prop := CallK Tryz.prog 136 #[.pointer p0, .int .i64 p1] w [.b] R
def Cattn_rank (p0 : Int) (w : World) (R : Int → World → Prop) : Prop := CallK Tryz.prog 137 #[.int .u16 p0] w [.i .i64] R
def Cinq_wide (p0 : ByteArray) (p1 : Int) (w : World) (R : Sl → World → Prop) : Prop := CallK Tryz.prog 138 #[.string p0, .int .i64 p1] w [.sl] R
def Cmode_Pages_Saved (p0 : Option Addr) (w : World) (R : (Array Value) → World → Prop) : Prop := CallK Tryz.prog 139 #[.pointer p0] w [.ag] R
def Cmode_caching (p0 : Array Value) (w : World) (R : Sl → World → Prop) : Prop := CallK Tryz.prog 140 #[.agg p0] w [.sl] R
def Cmode_control (p0 : Array Value) (w : World) (R : Sl → World → Prop) : Prop := CallK Tryz.prog 141 #[.agg p0] w [.sl] R
def Cmode_bad (p0 : Int) (p1 : Int) (p2 : Bool) (w : World) (R : (Array Value) → World → Prop) : Prop := CallK Tryz.prog 142 #[.int .i64 p0, .int .i64 p1, .bool p2] w [.ag] R
def Cmode_Pages_Select (p0 : Option Addr) (p1 : Array Value) (p2 : Sl) (w : World) (R : Bool → (Array Value) → Bool → World → Prop) : Prop := CallK Tryz.prog 143 #[.pointer p0, .agg p1, .slice p2.A p2.n p2.c] w [.b, .ag, .b] R
def Cunit_Unit_save (p0 : Option Addr) (w : World) (R : Bool → World → Prop) : Prop := CallK Tryz.prog 144 #[.pointer p0] w [.b] R
def Csbc_fails (p0 : Array Value) (w : World) (R : (Array Value) → World → Prop) : Prop := CallK Tryz.prog 150 #[.agg p0] w [.ag] R
def Cpi_Known (p0 : Int) (p1 : Int) (w : World) (R : Bool → World → Prop) : Prop := CallK Tryz.prog 151 #[.int .u8 p0, .int .u8 p1] w [.b] R
def Cbe_Within (p0 : Int) (p1 : Int) (p2 : Int) (w : World) (R : Bool → World → Prop) : Prop := CallK Tryz.prog 152 #[.int .u64 p0, .int .u64 p1, .int .u64 p2] w [.b] R
def Csbc_Dev_blocks (p0 : Option Addr) (w : World) (R : Int → World → Prop) : Prop := CallK Tryz.prog 153 #[.pointer p0] w [.i .u64] R
def Csbc_at (p0 : Int) (p1 : Int) (p2 : Int) (w : World) (R : (Array Value) → World → Prop) : Prop := CallK Tryz.prog 154 #[.int .u8 p0, .int .u16 p1, .int .u64 p2] w [.ag] R
def Csbc_Dev_read (p0 : Option Addr) (p1 : Array Value) (w : World) (R : Sl → (Array Value) → Bool → World → Prop) : Prop := CallK Tryz.prog 155 #[.pointer p0, .agg p1] w [.sl, .ag, .b] R
def Csbc_good (p0 : Sl) (w : World) (R : (Array Value) → World → Prop) : Prop := CallK Tryz.prog 156 #[.slice p0.A p0.n p0.c] w [.ag] R
def Cpi_Pack (p0 : Sl) (p1 : Bool) (w : World) (R : Sl → World → Prop) : Prop := CallK Tryz.prog 157 #[.slice p0.A p0.n p0.c, .bool p1] w [.sl] R
def Csbc_Dev_come (p0 : Option Addr) (p1 : Array Value) (p2 : Sl) (p3 : Int) (w : World) (R : Sl → (Array Value) → Bool → World → Prop) : Prop := CallK Tryz.prog 158 #[.pointer p0, .agg p1, .slice p2.A p2.n p2.c, .int .u64 p3] w [.sl, .ag, .b] R
def Csbc_Dev_write (p0 : Option Addr) (p1 : Int) (p2 : Sl) (p3 : Bool) (w : World) (R : (Array Value) → World → Prop) : Prop := CallK Tryz.prog 159 #[.pointer p0, .int .u64 p1, .slice p2.A p2.n p2.c, .bool p3] w [.ag] R
def Csbc_Dev_verify (p0 : Option Addr) (p1 : Array Value) (p2 : Sl) (w : World) (R : (Array Value) → World → Prop) : Prop := CallK Tryz.prog 160 #[.pointer p0, .agg p1, .slice p2.A p2.n p2.c] w [.ag] R
def Cstore_Store_Sync (p0 : Option Addr) (w : World) (R : Int → World → Prop) : Prop := CallK Tryz.prog 161 #[.pointer p0] w [.i .i64] R
def Csbc_Dev_same (p0 : Option Addr) (p1 : Array Value) (p2 : Sl) (w : World) (R : (Array Value) → World → Prop) : Prop := CallK Tryz.prog 162 #[.pointer p0, .agg p1, .slice p2.A p2.n p2.c] w [.ag] R
def Csbc_Dev_unmap (p0 : Option Addr) (p1 : Sl) (w : World) (R : (Array Value) → World → Prop) : Prop := CallK Tryz.prog 163 #[.pointer p0, .slice p1.A p1.n p1.c] w [.ag] R
def Csbc_Dev_compare (p0 : Option Addr) (p1 : Array Value) (p2 : Sl) (w : World) (R : (Array Value) → World → Prop) : Prop := CallK Tryz.prog 164 #[.pointer p0, .agg p1, .slice p2.A p2.n p2.c] w [.ag] R
def Csbc_Dev_capacity (p0 : Option Addr) (p1 : Array Value) (w : World) (R : (Array Value) → World → Prop) : Prop := CallK Tryz.prog 165 #[.pointer p0, .agg p1] w [.ag] R
def Cworld_World_Read (p0 : Option Addr) (p1 : ByteArray) (p2 : Int) (p3 : Int) (w : World) (R : Sl → Int → World → Prop) : Prop := CallK Tryz.prog 205 #[.pointer p0, .string p1, .int .i64 p2, .int .i64 p3] w [.sl, .i .i64] R
def Cslots_Slots_name (p0 : Option Addr) (p1 : Int) (w : World) (R : ByteArray → World → Prop) : Prop := CallK Tryz.prog 206 #[.pointer p0, .int .i64 p1] w [.s] R
def Cslots_Decode (p0 : Sl) (w : World) (R : Int → Sl → Int → World → Prop) : Prop := CallK Tryz.prog 207 #[.slice p0.A p0.n p0.c] w [.i .u64, .sl, .i .i64] R
def Ccdb_span (p0 : Option Addr) (p1 : Sl) (w : World) (R : Int → World → Prop) : Prop := CallK Tryz.prog 209 #[.pointer p0, .slice p1.A p1.n p1.c] w [.i .i64] R
def Cmode_page (p0 : Sl) (p1 : Int) (p2 : Array Value) (w : World) (R : (Array Value) → Int → (Array Value) → Bool → World → Prop) : Prop := CallK Tryz.prog 210 #[.slice p0.A p0.n p0.c, .int .i64 p1, .agg p2] w [.ag, .i .i64, .ag, .b] R
def Cslots_Slots_Save (p0 : Option Addr) (p1 : Sl) (w : World) (R : Int → Int → World → Prop) : Prop := CallK Tryz.prog 211 #[.pointer p0, .slice p1.A p1.n p1.c] w [.i .u64, .i .i64] R
def Cunit_bytes (p0 : Array Value) (w : World) (R : Int → World → Prop) : Prop := CallK Tryz.prog 212 #[.agg p0] w [.i .u8] R
def Cpr_Table_Save (p0 : Option Addr) (w : World) (R : Sl → World → Prop) : Prop := CallK Tryz.prog 213 #[.pointer p0] w [.sl] R
def Cpi_Unpack (p0 : Sl) (p1 : Bool) (w : World) (R : Sl → Bool → World → Prop) : Prop := CallK Tryz.prog 223 #[.slice p0.A p0.n p0.c, .bool p1] w [.sl, .b] R
def Cstore_Store_Blocks (p0 : Option Addr) (w : World) (R : Int → World → Prop) : Prop := CallK Tryz.prog 224 #[.pointer p0] w [.i .i64] R
def Cstore_Store_Read (p0 : Option Addr) (p1 : Int) (p2 : Int) (w : World) (R : Sl → Int → Int → World → Prop) : Prop := CallK Tryz.prog 225 #[.pointer p0, .int .i64 p1, .int .i64 p2] w [.sl, .i .i64, .i .i64] R
def Cpi_Check (p0 : Int) (p1 : Int) (p2 : Int) (p3 : Array Value) (w : World) (R : Int → World → Prop) : Prop := CallK Tryz.prog 226 #[.int .u8 p0, .int .u8 p1, .int .u64 p2, .agg p3] w [.i .u16] R
def Csbc_length (w : World) (R : (Array Value) → World → Prop) : Prop := CallK Tryz.prog 227 #[] w [.ag] R
def Cpi_Make (p0 : Int) (p1 : Int) (p2 : Array Value) (p3 : Int) (w : World) (R : (Array Value) → World → Prop) : Prop := CallK Tryz.prog 228 #[.int .u8 p0, .int .u64 p1, .agg p2, .int .u16 p3] w [.ag] R
def Cstore_Store_Write (p0 : Option Addr) (p1 : Int) (p2 : Sl) (p3 : Bool) (w : World) (R : Int → Int → World → Prop) : Prop := CallK Tryz.prog 229 #[.pointer p0, .int .i64 p1, .slice p2.A p2.n p2.c, .bool p3] w [.i .i64, .i .i64] R
def Cworld_World_Sync (p0 : Option Addr) (w : World) (R : Int → World → Prop) : Prop := CallK Tryz.prog 231 #[.pointer p0] w [.i .i64] R
def Cstore_Store_Unmap (p0 : Option Addr) (p1 : Int) (p2 : Int) (w : World) (R : Int → Int → World → Prop) : Prop := CallK Tryz.prog 232 #[.pointer p0, .int .i64 p1, .int .i64 p2] w [.i .i64, .i .i64] R
def Cpi_Size (p0 : Bool) (w : World) (R : Int → World → Prop) : Prop := CallK Tryz.prog 233 #[.bool p0] w [.i .i64] R
def Cworld_name (p0 : ByteArray) (w : World) (R : Bool → World → Prop) : Prop := CallK Tryz.prog 262 #[.string p0] w [.b] R
def Cworld_World_call (p0 : Option Addr) (w : World) (R : Int → World → Prop) : Prop := CallK Tryz.prog 263 #[.pointer p0] w [.i .i64] R
def Ccrc_C32 (p0 : Sl) (w : World) (R : Int → World → Prop) : Prop := CallK Tryz.prog 264 #[.slice p0.A p0.n p0.c] w [.i .u32] R
def Cslots_Record (p0 : Int) (p1 : Sl) (w : World) (R : Sl → Int → World → Prop) : Prop := CallK Tryz.prog 265 #[.int .u64 p0, .slice p1.A p1.n p1.c] w [.sl, .i .i64] R
def Cworld_World_Write (p0 : Option Addr) (p1 : ByteArray) (p2 : Int) (p3 : Sl) (w : World) (R : Int → World → Prop) : Prop := CallK Tryz.prog 266 #[.pointer p0, .string p1, .int .i64 p2, .slice p3.A p3.n p3.c] w [.i .i64] R
def Cpr_Table_free (p0 : Option Addr) (p1 : Int) (w : World) (R : Sl → World → Prop) : Prop := CallK Tryz.prog 268 #[.pointer p0, .int .i64 p1] w [.sl] R
def Cstore_Store_check (p0 : Option Addr) (p1 : Int) (p2 : Int) (w : World) (R : Int → World → Prop) : Prop := CallK Tryz.prog 270 #[.pointer p0, .int .i64 p1, .int .i64 p2] w [.i .i64] R
def Cstore_block (p0 : Sl) (w : World) (R : (Array Value) → World → Prop) : Prop := CallK Tryz.prog 271 #[.slice p0.A p0.n p0.c] w [.ag] R
def Cpi_escapes (p0 : Int) (p1 : Array Value) (w : World) (R : Bool → World → Prop) : Prop := CallK Tryz.prog 272 #[.int .u8 p0, .agg p1] w [.b] R
def Ccrc_C16 (p0 : Sl) (w : World) (R : Int → World → Prop) : Prop := CallK Tryz.prog 273 #[.slice p0.A p0.n p0.c] w [.i .u16] R
def Cstore_Store_lay (p0 : Option Addr) (p1 : Int) (p2 : Int) (p3 : Value) (p4 : Bool) (w : World) (R : Int → Int → World → Prop) : Prop := CallK Tryz.prog 274 #[.pointer p0, .int .i64 p1, .int .i64 p2, p3, .bool p4] w [.i .i64, .i .i64] R
def Cstore_Store_Write_1 (p0 : Int) (p1 : Addr) (w : World) (R : Sl → World → Prop) : Prop := CallK Tryz.prog 275 #[.int .i64 p0, .pointer (some p1)] w [.sl] R
def Cstore_record (p0 : Array Value) (w : World) (R : Sl → World → Prop) : Prop := CallK Tryz.prog 276 #[.agg p0] w [.sl] R
def Cstore_Store_Unmap_1 (p0 : Int) (w : World) (R : Sl → World → Prop) : Prop := CallK Tryz.prog 277 #[.int .i64 p0] w [.sl] R
def Ccrc_Add32 (p0 : Int) (p1 : Sl) (w : World) (R : Int → World → Prop) : Prop := CallK Tryz.prog 296 #[.int .u32 p0, .slice p1.A p1.n p1.c] w [.i .u32] R
def Cworld_World_do (p0 : Option Addr) (p1 : Array Value) (w : World) (R : Int → World → Prop) : Prop := CallK Tryz.prog 297 #[.pointer p0, .agg p1] w [.i .i64] R
def Cstore_empty (w : World) (R : (Array Value) → World → Prop) : Prop := CallK Tryz.prog 302 #[] w [.ag] R
def Ccrc_Add16 (p0 : Int) (p1 : Sl) (w : World) (R : Int → World → Prop) : Prop := CallK Tryz.prog 303 #[.int .u16 p0, .slice p1.A p1.n p1.c] w [.i .u16] R
abbrev t_int : TypeId := 3
theorem u_int : Tryz.prog.underlying 3 = some (.int .i64) := by kernel_rfl
abbrev t_bool : TypeId := 4
theorem i_bool : (Tryz.prog.info? 4).map (fun i => (i.zero, i.size, i.bytes)) = some (some (.bool false), 1, 1) := by kernel_rfl
abbrev t_uint8 : TypeId := 5
theorem u_uint8 : Tryz.prog.underlying 5 = some (.int .u8) := by kernel_rfl
theorem i_uint8 : (Tryz.prog.info? 5).map (fun i => (i.zero, i.size, i.bytes)) = some (some (.int .u8 0), 1, 1) := by kernel_rfl
abbrev t_string : TypeId := 9
theorem u_string : Tryz.prog.underlying 9 = some .string := by kernel_rfl
abbrev t_p_unit_Unit : TypeId := 23
theorem i_p_unit_Unit : (Tryz.prog.info? 23).map (fun i => (i.zero, i.size, i.bytes)) = some (some (.pointer none), 1, 8) := by kernel_rfl
abbrev t_2_p_unit_Unit : TypeId := 24
theorem i_2_p_unit_Unit : (Tryz.prog.info? 24).map (fun i => (i.zero, i.size, i.bytes)) = some (some (.agg #[.pointer none, .pointer none]), 2, 16) := by kernel_rfl
theorem g_2_p_unit_Unit : (Tryz.prog.underlying 24).map kdOf = some .ag := by kernel_rfl
abbrev t_uint16 : TypeId := 29
theorem i_uint16 : (Tryz.prog.info? 29).map (fun i => (i.zero, i.size, i.bytes)) = some (some (.int .u16 0), 1, 2) := by kernel_rfl
abbrev t_api_Sense : TypeId := 32
theorem i_api_Sense : (Tryz.prog.info? 32).map (fun i => (i.zero, i.size, i.bytes)) = some (some (.agg #[.int .u8 0, .int .u16 0, .int .u64 0, .bool false, .int .i64 0, .int .i64 0, .bool false, .bool false]), 8, 48) := by kernel_rfl
theorem g_api_Sense : (Tryz.prog.underlying 32).map kdOf = some .ag := by kernel_rfl
abbrev t_sl_uint8 : TypeId := 33
theorem u_sl_uint8 : Tryz.prog.underlying 33 = some (.slice 5) := by kernel_rfl
theorem i_sl_uint8 : (Tryz.prog.info? 33).map (fun i => (i.zero, i.size, i.bytes)) = some (some (.slice none 0 0), 1, 24) := by kernel_rfl
abbrev t_api_Result : TypeId := 35
theorem i_api_Result : (Tryz.prog.info? 35).map (fun i => (i.zero, i.size, i.bytes)) = some (some (.agg #[.int .u8 0, .int .u8 0, .int .u16 0, .int .u64 0, .bool false, .int .i64 0, .int .i64 0, .bool false, .bool false, .slice none 0 0]), 10, 80) := by kernel_rfl
theorem g_api_Result : (Tryz.prog.underlying 35).map kdOf = some .ag := by kernel_rfl
abbrev t_sl_p_unit_Unit : TypeId := 43
theorem u_sl_p_unit_Unit : Tryz.prog.underlying 43 = some (.slice 23) := by kernel_rfl
abbrev t_inq_Info : TypeId := 81
theorem i_inq_Info : (Tryz.prog.info? 81).map (fun i => (i.zero, i.size, i.bytes)) = some (some (.agg #[.string ⟨#[]⟩, .string ⟨#[]⟩, .string ⟨#[]⟩, .string ⟨#[]⟩, .int .u8 0]), 5, 72) := by kernel_rfl
theorem g_inq_Info : (Tryz.prog.underlying 81).map kdOf = some .ag := by kernel_rfl
abbrev t_unit_Config : TypeId := 85
abbrev t_api_Reg : TypeId := 97
theorem i_api_Reg : (Tryz.prog.info? 97).map (fun i => (i.zero, i.size, i.bytes)) = some (some (.agg #[.int .i64 0, .int .u64 0]), 2, 16) := by kernel_rfl
theorem g_api_Reg : (Tryz.prog.underlying 97).map kdOf = some .ag := by kernel_rfl
abbrev t_sl_string : TypeId := 104
abbrev t_map_string_sl_uint8 : TypeId := 106
theorem u_map_string_sl_uint8 : Tryz.prog.underlying 106 = some (.map 9 33) := by kernel_rfl
theorem u_sl_world_change : Tryz.prog.underlying 107 = some (.slice 173) := by kernel_rfl
abbrev t_map_int_bool : TypeId := 108
theorem u_map_int_bool : Tryz.prog.underlying 108 = some (.map 3 4) := by kernel_rfl
abbrev t_world_World : TypeId := 110
abbrev t_unit_Unit : TypeId := 131
theorem i_unit_Unit : (Tryz.prog.info? 131).map (fun i => (i.zero, i.size, i.bytes)) = some (some (.agg #[.string ⟨#[]⟩, .string ⟨#[]⟩, .string ⟨#[]⟩, .string ⟨#[]⟩, .int .u8 0, .pointer none, .pointer none, .pointer none, .pointer none, .pointer none, .slice none 0 0, .int .u32 0, .int .i32 0, .int .u32 0, .int .i64 0, .int .i64 0]), 16, 168) := by kernel_rfl
abbrev t_api_Cmd : TypeId := 135
theorem i_api_Cmd : (Tryz.prog.info? 135).map (fun i => (i.zero, i.size, i.bytes)) = some (some (.agg #[.int .u8 0, .bool false, .int .u64 0, .int .u64 0, .int .i64 0, .bool false, .int .u8 0, .bool false, .bool false, .int .u8 0, .int .u8 0, .bool false, .int .u8 0, .int .u8 0, .bool false]), 15, 48) := by kernel_rfl
theorem g_api_Cmd : (Tryz.prog.underlying 135).map kdOf = some .ag := by kernel_rfl
abbrev t_mode_Values : TypeId := 142
theorem i_mode_Values : (Tryz.prog.info? 142).map (fun i => (i.zero, i.size, i.bytes)) = some (some (.agg #[.bool false, .bool false, .bool false]), 3, 3) := by kernel_rfl
theorem g_mode_Values : (Tryz.prog.underlying 142).map kdOf = some .ag := by kernel_rfl
abbrev t_sbc_Dev : TypeId := 166
abbrev t_world_change : TypeId := 173
theorem i_world_change : (Tryz.prog.info? 173).map (fun i => (i.zero, i.size, i.bytes)) = some (some (.agg #[.int .u8 0, .string ⟨#[]⟩, .string ⟨#[]⟩, .int .i64 0, .slice none 0 0]), 5, 72) := by kernel_rfl
theorem g_world_change : (Tryz.prog.underlying 173).map kdOf = some .ag := by kernel_rfl
abbrev t_sl_uint16 : TypeId := 196
theorem u_sl_uint16 : Tryz.prog.underlying 196 = some (.slice 29) := by kernel_rfl
abbrev t_attn_Queues : TypeId := 199
abbrev t_pr_Table : TypeId := 201
abbrev t_mode_Pages : TypeId := 205
abbrev t_store_Store : TypeId := 245
abbrev t_slots_Slots : TypeId := 247
abbrev t_sl_pr_Event : TypeId := 261
theorem u_sl_pr_Event : Tryz.prog.underlying 261 = some (.slice 265) := by kernel_rfl
abbrev t_pr_Event : TypeId := 265
theorem i_pr_Event : (Tryz.prog.info? 265).map (fun i => (i.zero, i.size, i.bytes)) = some (some (.agg #[.int .i64 0, .int .u16 0]), 2, 16) := by kernel_rfl
abbrev t_sl_api_Block : TypeId := 280
theorem u_sl_api_Block : Tryz.prog.underlying 280 = some (.slice 348) := by kernel_rfl
abbrev t_16_uint8 : TypeId := 344
theorem i_16_uint8 : (Tryz.prog.info? 344).map (fun i => (i.zero, i.size, i.bytes)) = some (some (.agg #[.int .u8 0, .int .u8 0, .int .u8 0, .int .u8 0, .int .u8 0, .int .u8 0, .int .u8 0, .int .u8 0, .int .u8 0, .int .u8 0, .int .u8 0, .int .u8 0, .int .u8 0, .int .u8 0, .int .u8 0, .int .u8 0]), 16, 16) := by kernel_rfl
theorem g_16_uint8 : (Tryz.prog.underlying 344).map kdOf = some .ag := by kernel_rfl
abbrev t_api_Tuple : TypeId := 346
theorem i_api_Tuple : (Tryz.prog.info? 346).map (fun i => (i.zero, i.size, i.bytes)) = some (some (.agg #[.int .u16 0, .int .u16 0, .int .u32 0]), 3, 8) := by kernel_rfl
theorem g_api_Tuple : (Tryz.prog.underlying 346).map kdOf = some .ag := by kernel_rfl
abbrev t_api_Block : TypeId := 348
theorem i_api_Block : (Tryz.prog.info? 348).map (fun i => (i.zero, i.size, i.bytes)) = some (some (.agg #[.int .u8 0, .int .u8 0, .int .u8 0, .int .u8 0, .int .u8 0, .int .u8 0, .int .u8 0, .int .u8 0, .int .u8 0, .int .u8 0, .int .u8 0, .int .u8 0, .int .u8 0, .int .u8 0, .int .u8 0, .int .u8 0, .int .u16 0, .int .u16 0, .int .u32 0]), 19, 24) := by kernel_rfl
theorem g_api_Block : (Tryz.prog.underlying 348).map kdOf = some .ag := by kernel_rfl
end Go.Proofs.YtpmebahhjgkflaaGreatDoor

-- printed by wip/cf/cfprint.py
namespace Go.Proofs.YtpmebahhjgkflaaGreatDoor
open Go CF
set_option linter.unusedVariables false
set_option maxRecDepth 100000
/-- pallet/palletlaw16.UnitAttends -/
def Fpalletlaw16_UnitAttends (nexus : Int) (other : Int) (bits : Int) (sense : Bool) (w : World) (R : Bool → World → Prop) : Prop :=
  Cpalletlaw16_awake  w fun b w0 => Br (!b) (R false w0) (Cworld_New  w0 fun p w01 => Cpalletlaw16_units p 0 w01 fun g w02 => ∃ p1 : Option Addr, ((0 ≤ (0 : Int) ∧ (0 : Int) < (2 : Int)) ∧ g[(0 : Int).toNat * 1]? = some (.pointer p1)) ∧ ((8 : Int) ≠ 0) ∧ ((8 : Int) ≠ 0) ∧ ∃ (I : Int → World → Prop) (μ : Int → World → Nat), I 0 w02 ∧ ∀ (n : Int) (w03 : World), I n w03 → Br (decide (n < 8)) (Cpalletlaw16_ready  w03 fun xs w04 => Cpalletlaw16_does p1 n xs ⟨none, 0, 0⟩ w04 fun g1 w05 => I (IntKind.wrap .i64 (n + 1)) w05 ∧ μ (IntKind.wrap .i64 (n + 1)) w05 < μ n w03) (((2 : Int) ≠ 0) ∧ RunK Tryz.prog .sl (Instr.buildSlice 33 16 #[(0, .int .u8 0), (1, .int .u8 0), (2, .int .u8 0), (3, .int .u8 0), (4, .int .u8 10), (5, .int .u8 10), (6, .int .u8 4), (7, .int .u8 0), (8, .int .u8 (IntKind.wrap .u8 ((bits.tmod 2) * 8))), (9, .int .u8 0), (10, .int .u8 0), (11, .int .u8 0), (12, .int .u8 0), (13, .int .u8 0), (14, .int .u8 0), (15, .int .u8 0)]) w03 fun xs1 w06 => RunK Tryz.prog .sl (Instr.buildSlice 33 6 #[(0, .int .u8 21), (1, .int .u8 16), (2, .int .u8 0), (3, .int .u8 0), (4, .int .u8 16), (5, .int .u8 0)]) w06 fun xs2 w07 => Cunit_Unit_Do p1 ((IntKind.wrap .i64 nexus).tmod 8) xs2 xs1 w07 fun g2 w08 => New (.cells #[.int .u8 0, .int .u8 0, .int .u16 0, .int .u64 0, .bool false, .int .i64 0, .int .i64 0, .bool false, .bool false, .slice none 0 0] 35) w08 fun r w09 => RunU Tryz.prog (storeVar 35 r (.agg g2)) w09 fun w010 => ∃ n1 : Int, w010.cell? (r.add 0) = some (.int .u8 n1) ∧ Br (n1 != 0) (R false w010) (RunK Tryz.prog .sl (Instr.buildSlice 33 6 #[(0, .int .u8 18), (1, .int .u8 0), (2, .int .u8 0), (3, .int .u8 0), (4, .int .u8 255), (5, .int .u8 0)]) w010 fun xs3 w011 => Cunit_Unit_Do p1 ((IntKind.wrap .i64 other).tmod 8) xs3 ⟨none, 0, 0⟩ w011 fun g3 w012 => New (.cells #[.int .u8 0, .int .u8 0, .int .u16 0, .int .u64 0, .bool false, .int .i64 0, .int .i64 0, .bool false, .bool false, .slice none 0 0] 35) w012 fun i w013 => RunU Tryz.prog (storeVar 35 i (.agg g3)) w013 fun w014 => ∃ n2 : Int, w014.cell? (i.add 0) = some (.int .u8 n2) ∧ ∃ xs4 : Sl, ((!(n2 != 0)) = true → w014.cell? (i.add 9) = some (.slice xs4.A xs4.n xs4.c)) ∧ Br ((n2 != 0) || ((xs4.n : Int) != 36)) (R false w014) (Br sense (RunK Tryz.prog .sl (Instr.buildSlice 33 6 #[(0, .int .u8 3), (1, .int .u8 0), (2, .int .u8 0), (3, .int .u8 0), (4, .int .u8 255), (5, .int .u8 0)]) w014 fun xs5 w015 => Cunit_Unit_Do p1 ((IntKind.wrap .i64 other).tmod 8) xs5 ⟨none, 0, 0⟩ w015 fun g4 w016 => New (.cells #[.int .u8 0, .int .u8 0, .int .u16 0, .int .u64 0, .bool false, .int .i64 0, .int .i64 0, .bool false, .bool false, .slice none 0 0] 35) w016 fun r1 w017 => RunU Tryz.prog (storeVar 35 r1 (.agg g4)) w017 fun w018 => ∃ n3 : Int, w018.cell? (r1.add 0) = some (.int .u8 n3) ∧ ∃ xs6 : Sl, ((!(n3 != 0)) = true → w018.cell? (r1.add 9) = some (.slice xs6.A xs6.n xs6.c)) ∧ ∃ xs7 : Sl, ((!((n3 != 0) || ((xs6.n : Int) != 18))) = true → w018.cell? (r1.add 9) = some (.slice xs7.A xs7.n xs7.c)) ∧ ((!((n3 != 0) || ((xs6.n : Int) != 18))) = true → (0 ≤ (2 : Int) ∧ (2 : Int) < (xs7.n : Int) ∧ xs7.A.isSome = true)) ∧ ∃ n4 : Int, ((!((n3 != 0) || ((xs6.n : Int) != 18))) = true → w018.cell? ((gA xs7.A).add ((2 : Int).toNat * 1)) = some (.int .u8 n4)) ∧ ∃ xs8 : Sl, (((n4 == 6) && (!((n3 != 0) || ((xs6.n : Int) != 18)))) = true → w018.cell? (r1.add 9) = some (.slice xs8.A xs8.n xs8.c)) ∧ (((n4 == 6) && (!((n3 != 0) || ((xs6.n : Int) != 18)))) = true → (0 ≤ (12 : Int) ∧ (12 : Int) < (xs8.n : Int) ∧ xs8.A.isSome = true)) ∧ ∃ n5 : Int, (((n4 == 6) && (!((n3 != 0) || ((xs6.n : Int) != 18)))) = true → w018.cell? ((gA xs8.A).add ((12 : Int).toNat * 1)) = some (.int .u8 n5)) ∧ ∃ xs9 : Sl, ((((n4 == 6) && (n5 == 42)) && (!((n3 != 0) || ((xs6.n : Int) != 18)))) = true → w018.cell? (r1.add 9) = some (.slice xs9.A xs9.n xs9.c)) ∧ ((((n4 == 6) && (n5 == 42)) && (!((n3 != 0) || ((xs6.n : Int) != 18)))) = true → (0 ≤ (13 : Int) ∧ (13 : Int) < (xs9.n : Int) ∧ xs9.A.isSome = true)) ∧ ∃ n6 : Int, ((((n4 == 6) && (n5 == 42)) && (!((n3 != 0) || ((xs6.n : Int) != 18)))) = true → w018.cell? ((gA xs9.A).add ((13 : Int).toNat * 1)) = some (.int .u8 n6)) ∧ Br (((n3 != 0) || ((xs6.n : Int) != 18)) || (!((((n4 == 6) && (n5 == 42)) && (n6 == 1)) == (((IntKind.wrap .i64 nexus).tmod 8) != ((IntKind.wrap .i64 other).tmod 8))))) (R false w018) (Cpalletlaw16_ready  w018 fun xs10 w019 => Cunit_Unit_Do p1 ((IntKind.wrap .i64 other).tmod 8) xs10 ⟨none, 0, 0⟩ w019 fun g5 w020 => ∃ n7 : Int, g5[0]? = some (.int .u8 n7) ∧ R (n7 == 0) w020)) (Cpalletlaw16_ready  w014 fun xs11 w021 => Cunit_Unit_Do p1 ((IntKind.wrap .i64 other).tmod 8) xs11 ⟨none, 0, 0⟩ w021 fun g6 w022 => New (.cells #[.int .u8 0, .int .u8 0, .int .u16 0, .int .u64 0, .bool false, .int .i64 0, .int .i64 0, .bool false, .bool false, .slice none 0 0] 35) w022 fun r2 w023 => RunU Tryz.prog (storeVar 35 r2 (.agg g6)) w023 fun w024 => Br (((IntKind.wrap .i64 nexus).tmod 8) == ((IntKind.wrap .i64 other).tmod 8)) (∃ n8 : Int, w024.cell? (r2.add 0) = some (.int .u8 n8) ∧ R (n8 == 0) w024) (∀ w025, w025 = w024.drew → ∃ S : World → Prop, S w025 ∧ ∃ g7 : Array Value, (∀ u, S u → (loadVar 35 r2).run Tryz.prog u = .ok (.agg g7) u) ∧ Cpalletref14_Ends 6 10753 w025 fun g8 w026 => S w026 ∧ Cpalletref14_Same g7 g8 w026 fun b1 w027 => S w027 ∧ letJ (fun (xs12 : Sl) (w028 : World) => S w028 ∧ letJ (fun (g9 : Array Value) (w029 : World) => S w029 ∧ ∃ S1 : World → Prop, S1 w029 ∧ (∀ u1, S1 u1 → S u1) ∧ ∃ n9 : Int, (b1 = true → (∀ u2, S1 u2 → g9[0]? = some (.int .u8 n9))) ∧ R (b1 && (n9 == 0)) w029) fun J_ => (b1 = true → Cunit_Unit_Do p1 ((IntKind.wrap .i64 other).tmod 8) xs12 ⟨none, 0, 0⟩ w028 J_) ∧ (b1 = false → J_ (Kd.dflt .ag) w028)) fun J_1 => (b1 = true → Cpalletlaw16_ready  w027 J_1) ∧ (b1 = false → J_1 (Kd.dflt .sl) w027)))))))
theorem Fpalletlaw16_UnitAttends.calls (nexus : Int) (other : Int) (bits : Int) (sense : Bool) (w : World) (R : Bool → World → Prop) (h : Fpalletlaw16_UnitAttends nexus other bits sense w R) : Cpalletlaw16_UnitAttends nexus other bits sense w R :=
  calls_of_vc (anOp_ok callable) wide Tryz.func3 [(21, ⟨[(12, .i .i64)], [2, 3, 9, 10, 11]⟩)] [.b] [.int .u8 nexus, .int .u8 other, .int .u8 bits, .bool sense] w R (Eq.mp (show Fpalletlaw16_UnitAttends nexus other bits sense w R = vcF Tryz.prog G Tryz.f3 [(21, ⟨[(12, .i .i64)], [2, 3, 9, 10, 11]⟩)] [.b] [.int .u8 nexus, .int .u8 other, .int .u8 bits, .bool sense] w R by kernel_rfl) h)
end Go.Proofs.YtpmebahhjgkflaaGreatDoor
