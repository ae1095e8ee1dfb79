import Derived.Test.YtaneeadpjelomaaCfN
import Derived.MapKept
import Derived.Laws.CopyRow
import Derived.Laws.IdiomCopy
import Derived.Laws.MakeOwn
import Derived.Lib.AppendZerosOnto
import Derived.Deep.DeepAppendWide
/- Rules of maps with strings for keys. -/
namespace Go.Proofs.Ytaneeadpjelomaa.CF
open Go Go.RowKit

/-- all keys are strings -/
def SKeys (es : List MapEntry) : Prop := ∀ e ∈ es, ∃ s, e.key = .string s
def sidx : List MapEntry → ByteArray → Nat → Option (Nat × Value)
  | [], _, _ => none
  | e :: r, s, i => match e.key with
    | .string t => if s = t then some (i, e.val) else sidx r s (i + 1)
    | _ => sidx r s (i + 1)
def sget (es : List MapEntry) (s : ByteArray) : Option Value := (sidx es s 0).map (·.2)
theorem findNow_str {s : ByteArray} : ∀ {es : List MapEntry} (i : Nat), SKeys es → Instr.findNow .string (.string s) es i = some (sidx es s i)
  | [], _, _ => rfl
  | e :: r, i, h => by
    obtain ⟨t, ht⟩ := h e (by simp)
    have ih := findNow_str (s := s) (i + 1) (fun x hx => h x (by simp [hx]) : SKeys r)
    unfold Instr.findNow sidx
    rw [ht]
    simp only [Instr.sameNow]
    by_cases e : s = t
    · have : (s == t) = true := (MapKept.bytes_beq s t).2 e
      rw [this]
      simp only [if_pos e]
    · have : (s == t) = false := Bool.eq_false_iff.2 fun q => e ((MapKept.bytes_beq s t).1 q)
      rw [this]
      simp only [if_neg e]
      exact ih
theorem sidx_shift {s : ByteArray} : ∀ (es : List MapEntry) (i j : Nat), sidx es s (i + j) = (sidx es s i).map fun p => (p.1 + j, p.2)
  | [], _, _ => rfl
  | e :: r, i, j => by
    unfold sidx
    have := sidx_shift (s := s) r (i + 1) j
    rw [show i + 1 + j = i + j + 1 by omega] at this
    cases e.key with
    | string t => by_cases q : s = t <;> simp [q, this]
    | _ => simpa using this
theorem sget_nil (s : ByteArray) : sget [] s = none := rfl
theorem sget_cons {e : MapEntry} {r : List MapEntry} {t : ByteArray} (h : e.key = .string t) (s : ByteArray) : sget (e :: r) s = if s = t then some e.val else sget r s := by
  unfold sget
  conv => lhs; unfold sidx
  rw [h]
  by_cases q : s = t
  · simp [q]
  · simp only [if_neg q]
    rw [sidx_shift r 0 1, Option.map_map]
    rfl
theorem sget_push {es : List MapEntry} {s : ByteArray} {e : MapEntry} (hk : SKeys es) (he : e.key = .string s) (hn : sget es s = none) (t : ByteArray) :
    sget (es ++ [e]) t = if t = s then some e.val else sget es t := by
  induction es with
  | nil => rw [List.nil_append, sget_cons he]
  | cons x r ih =>
    obtain ⟨u, hu⟩ := hk x (by simp)
    rw [sget_cons hu] at hn
    rw [List.cons_append, sget_cons hu, sget_cons hu]
    by_cases q : s = u
    · rw [if_pos q] at hn; cases hn
    · rw [if_neg q] at hn
      rw [ih (fun x hx => hk x (by simp [hx])) hn]
      by_cases q1 : t = u
      · by_cases q2 : t = s
        · exact absurd (q2.symm.trans q1) q
        · rw [if_pos q1, if_neg q2, if_pos q1]
      · simp only [if_neg q1]
theorem sget_modify {es : List MapEntry} {s : ByteArray} {i : Nat} {v v' : Value} (hk : SKeys es) (hn : sidx es s 0 = some (i, v)) (t : ByteArray) :
    sget (es.modify i fun e => { e with key := .string s, val := v' }) t = if t = s then some v' else sget es t := by
  induction es generalizing i with
  | nil => cases hn
  | cons x r ih =>
    obtain ⟨u, hu⟩ := hk x (by simp)
    unfold sidx at hn
    rw [hu] at hn
    by_cases q : s = u
    · simp only [if_pos q, Option.some.injEq, Prod.mk.injEq] at hn
      obtain ⟨rfl, _⟩ := hn
      rw [List.modify_zero_cons, sget_cons (t := s) rfl, sget_cons hu]
      by_cases q1 : t = s
      · simp [q1]
      · have q2 : t ≠ u := fun e => q1 (e.trans q.symm)
        simp [q1, q2]
    · simp only [if_neg q] at hn
      rw [sidx_shift r 0 1] at hn
      obtain ⟨p, hp, hpe⟩ := Option.map_eq_some_iff.1 hn
      simp only [Prod.mk.injEq] at hpe
      obtain ⟨rfl, hp2⟩ := hpe
      rw [List.modify_succ_cons, sget_cons hu, sget_cons hu, ih (i := p.1) (fun x hx => hk x (by simp [hx])) (by rw [hp, ← hp2])]
      by_cases q1 : t = u
      · have q2 : t ≠ s := fun e => q (e.symm.trans q1)
        simp [q1, q2]
        exact fun e => absurd e.symm q
      · simp [q1]
theorem skeys_modify {es : List MapEntry} {s : ByteArray} {i : Nat} {v' : Value} (hk : SKeys es) : SKeys (es.modify i fun e => { e with key := .string s, val := v' }) := by
  intro e he
  obtain ⟨j, hj, rfl⟩ := List.getElem_of_mem he
  rw [List.getElem_modify]
  split
  · exact ⟨s, rfl⟩
  · exact hk _ (List.getElem_mem _)
theorem sidx_at {es : Array MapEntry} {s : ByteArray} {i j : Nat} {v : Value} (hs : SKeys es.toList) (h : sidx es.toList s j = some (j + i, v)) : ∃ e0, es[i]? = some e0 ∧ e0.key = .string s := by
  rw [← Array.getElem?_toList]
  generalize es.toList = l at *
  induction l generalizing i j with
  | nil => cases h
  | cons x r ih =>
    obtain ⟨u, hu⟩ := hs x (by simp)
    unfold sidx at h
    rw [hu] at h
    by_cases q : s = u
    · simp only [if_pos q, Option.some.injEq, Prod.mk.injEq] at h
      have : i = 0 := by omega
      subst this
      exact ⟨x, rfl, by rw [hu, q]⟩
    · simp only [if_neg q] at h
      have hi : 0 < i := by
        rw [show j + 1 = 0 + (j + 1) by omega, sidx_shift] at h
        obtain ⟨p, _, hp⟩ := Option.map_eq_some_iff.1 h
        simp only [Prod.mk.injEq] at hp
        omega
      obtain ⟨i', rfl⟩ : ∃ i', i = i' + 1 := ⟨i - 1, by omega⟩
      rw [List.getElem?_cons_succ]
      exact ih (j := j + 1) (fun y hy => hs y (by simp [hy])) (by rw [h]; congr 2; omega)
/-- a map that holds these values -/
def SMap (w : World) (b : Nat) (m : ByteArray → Option Value) : Prop :=
  ∃ es clock, w.heap[b]? = some (.map es clock) ∧ SKeys es.toList ∧ ∀ s, sget es.toList s = m s
def upd (m : ByteArray → Option Value) (s : ByteArray) (v : Value) : ByteArray → Option Value := fun t => if t = s then some v else m t
theorem SMap.keep {S : Nat → Prop} {w w' : World} {b : Nat} {m : ByteArray → Option Value} (h : SMap w b m) (k : Keep S w w') (hn : ¬ S b) : SMap w' b m := by
  obtain ⟨es, c, h1, h2⟩ := h
  exact ⟨es, c, k.heap h1 hn, h2⟩
theorem smap_new (w : World) : SMap (w.alloc (.map #[] 0)) w.heap.size fun _ => none :=
  ⟨#[], 0, by show (w.heap.push _)[w.heap.size]? = _; simp, fun e he => by simp at he, fun s => rfl⟩
section
variable {P : Program} {w : World} {b : Nat} {m : ByteArray → Option Value} {t k e : TypeId}
theorem run_getMap {es : Array MapEntry} {clock : Nat} (h : w.heap[b]? = some (.map es clock)) : (getObj b).run P w = .ok (.map es clock) w := by
  simp [getObj, Sem.run, h]
theorem checkKey_str (ek : Bool) (n : Nat) (hk : P.underlying k = some .string) (s : ByteArray) : (Instr.checkKey ek (n + 1) k (.string s)).run P w = .ok () w := by
  unfold Instr.checkKey
  simp [run_underlying hk]
theorem findKey_str {es : List MapEntry} (hk : P.underlying k = some .string) (hs : SKeys es) (s : ByteArray) : (Instr.findKey k (.string s) es).run P w = .ok (sidx es s 0) w := by
  unfold Instr.findKey
  simp [run_underlying hk, findNow_str 0 hs]
theorem look_rule (ht : P.underlying t = some (.map k e)) (hk : P.underlying k = some .string) {zv : Value} (hz : (zeroValue e).run P w = .ok zv w) (h : SMap w b m) (s : ByteArray) :
    (Instr.lookup t (.map (some b)) (.string s) true).run P w = .ok (.tuple #[(m s).getD zv, .bool (m s).isSome]) w ∧
    (Instr.lookup t (.map (some b)) (.string s) false).run P w = .ok ((m s).getD zv) w := by
  obtain ⟨es, c, hb, hs, hm⟩ := h
  have := hm s
  unfold sget at this
  unfold Instr.lookup
  constructor
  · cases hi : sidx es.toList s 0 with
    | none =>
      rw [hi] at this
      simp only [Option.map_none] at this
      rw [← this]
      simp [run_underlying ht, run_getMap hb, checkKey_str _ _ hk, findKey_str hk hs, hi, hz]
    | some p =>
      rw [hi] at this
      simp only [Option.map_some] at this
      rw [← this]
      simp [run_underlying ht, run_getMap hb, checkKey_str _ _ hk, findKey_str hk hs, hi]
  · cases hi : sidx es.toList s 0 with
    | none =>
      rw [hi] at this
      simp only [Option.map_none] at this
      rw [← this]
      simp [run_underlying ht, run_getMap hb, checkKey_str _ _ hk, findKey_str hk hs, hi, hz]
    | some p =>
      rw [hi] at this
      simp only [Option.map_some] at this
      rw [← this]
      simp [run_underlying ht, run_getMap hb, checkKey_str _ _ hk, findKey_str hk hs, hi]
theorem run_setMap {o : Obj} {es : Array MapEntry} {c : Nat} (h : w.heap[b]? = some (.map es c)) : (setObj b o).run P w = .ok () { w with heap := w.heap.setIfInBounds b o } := by
  simp [setObj, Sem.run, h]
/-- a value under a key -/
theorem upd_rule (ht : P.underlying t = some (.map k e)) (hk : P.underlying k = some .string) (h : SMap w b m) (s : ByteArray) (v : Value)
    {K : World → Prop} (hK : ∀ w1, SMap w1 b (upd m s v) → Keep (fun k => k = b) w w1 → w1.heap.size = w.heap.size → K w1) : RunU P (Instr.mapUpdate t (.map (some b)) (.string s) v) w K := by
  obtain ⟨es, c, hb, hs, hm⟩ := h
  have hlt := lt_of_heap hb
  have hget : ∀ (o : Obj), ({ w with heap := w.heap.setIfInBounds b o } : World).heap[b]? = some o := fun o => by
    simp [hlt]
  have hkeep : ∀ (o : Obj), Keep (fun k => k = b) w { w with heap := w.heap.setIfInBounds b o } := fun o =>
    ⟨rfl, rfl, rfl, by simp, fun k _ hn => by simp [Array.getElem?_setIfInBounds, Ne.symm hn]⟩
  cases hi : sidx es.toList s 0 with
  | none =>
    have hn : sget es.toList s = none := by unfold sget; rw [hi]; rfl
    refine ⟨_, ?_, hK { w with heap := w.heap.setIfInBounds b (.map (es.push { key := .string s, val := v, born := c }) (c + 1)) } ⟨_, _, hget _, ?_, fun t => ?_⟩ (hkeep _) (by simp)⟩
    · unfold Instr.mapUpdate
      simp [run_underlying ht, run_getMap hb, checkKey_str _ _ hk, findKey_str hk hs, hi, run_setMap hb]
    · intro e he
      rw [Array.toList_push, List.mem_append, List.mem_singleton] at he
      rcases he with he | rfl
      · exact hs e he
      · exact ⟨s, rfl⟩
    · rw [Array.toList_push, sget_push hs rfl hn]
      unfold upd
      rw [hm]
  | some p =>
    obtain ⟨i, v0⟩ := p
    have hold : ∃ e0, es[i]? = some e0 ∧ e0.key = .string s := sidx_at (j := 0) hs (by rw [hi, Nat.zero_add])
    obtain ⟨e0, he0, hk0⟩ := hold
    refine ⟨_, ?_, hK { w with heap := w.heap.setIfInBounds b (.map (es.modify i fun e => { e with key := .string s, val := v }) c) } ⟨_, _, hget _, ?_, fun t => ?_⟩ (hkeep _) (by simp)⟩
    · unfold Instr.mapUpdate
      simp [run_underlying ht, run_getMap hb, checkKey_str _ _ hk, findKey_str hk hs, hi, run_setMap hb, he0, hk0, Instr.keyThatStays, Instr.sameBits, (MapKept.bytes_beq s s).2 rfl]
    · rw [Array.toList_modify]; exact skeys_modify hs
    · rw [Array.toList_modify, sget_modify hs hi]
      unfold upd
      rw [hm]
end
end Go.Proofs.Ytaneeadpjelomaa.CF

/- Rules: bytes copied into a row of one's own. -/
namespace Go.Proofs.Ytaneeadpjelomaa.CF
open Go Go.RowKit

theorem copy_rule {P : Program} {w : World} {base : Nat} {t ty e : TypeId} {zv : Option Value} {bytes : Nat} (ht : P.underlying t = some (.slice e)) (hinfo : (P.info? e).map (fun i => (i.zero, i.size, i.bytes)) = some (zv, 1, bytes))
    {f x : Sl} {F xs : List Value} {o : Nat} (hf : Own w base e 1 f F) (hx : Rd w 1 x xs) (h1 : ∀ u ∈ xs, u.oneCell' = true) (ho : o + x.n ≤ f.n)
    {K : Int → World → Prop} (h : ∀ w', Own w' base e 1 f (F.take o ++ xs ++ F.drop (o + x.n)) → Keep (fun k => some k = f.blk) w w' → w'.heap.size = w.heap.size → K (x.n : Int) w') :
    RunK P (.i .i64) (Builtin.copy_ #[t, t] ty #[.slice (cutA f.A f.c o 1) (f.n - o) (f.c - o), .slice x.A x.n x.c]) w K := by
  have hs : (P.info? e).map (·.size) = some 1 := by
    obtain ⟨i, hi, hzz⟩ := Option.map_eq_some_iff.1 hinfo
    simp only [Prod.mk.injEq] at hzz
    rw [hi, Option.map_some, hzz.2.1]
  have hFl : F.length = f.n := by have := hf.len; omega
  have hxl : xs.length = x.n := by have := hx.len; omega
  rcases Nat.eq_zero_or_pos x.n with h0 | hpos
  · have hx0 : xs = [] := List.eq_nil_of_length_eq_zero (by omega)
    refine ⟨(x.n : Int), w, ?_, h w ?_ (Keep.refl _ _) rfl⟩
    · rw [run_copy_none (P := P) w t t ty e _ _ _ _ _ _ ht hs (by rw [h0]; exact Nat.zero_min _), h0]; rfl
    · rw [hx0, h0, List.append_nil, Nat.add_zero, List.take_append_drop]; exact hf
  · obtain ⟨hlen, hown⟩ := hf
    rcases hown with ⟨h2, hn0⟩ | ⟨g, cap, cur, hv, hbg, hg, hnc, hcm, hcs, htake⟩
    · omega
    · injection hv with hA hN hC
      have hne : xs ≠ [] := fun e => by rw [e] at hxl; simp at hxl; omega
      obtain ⟨a, ha, hc⟩ := hx.at_ hne
      have hcA : cutA f.A f.c o 1 = some ⟨g, o, none⟩ := by
        unfold cutA
        rw [if_neg (by omega), hA]
        simp [Addr.add]
        omega
      have hcs' : cur.size = cap := by simpa using hcs
      have hmin : xs.length = Nat.min x.n (f.n - o) := by
        have : Nat.min x.n (f.n - o) = x.n := Nat.min_eq_left (by omega)
        omega
      have hr := run_copy_row (P := P) w t t ty e g o (f.n - o) (f.c - o) a x.n x.c cur e xs ht hs hg hmin hc (by omega) h1
      rw [hcA, ha]
      refine ⟨(x.n : Int), _, by rw [hr, hxl]; rfl, h _ ⟨?_, .inr ⟨g, cap, _, by rw [hA, hC], hbg, setRow_heap w g cur _ e _ hg, hnc, hcm, ?_, ?_⟩⟩ ⟨rfl, rfl, rfl, by simp, fun k _ hk => setRow_other w g k _ (fun e => hk (by simp [Sl.blk, hA, e]))⟩ (by simp)⟩
      · simp only [List.length_append, List.length_take, List.length_drop]
        omega
      · simp only [List.size_toArray, List.length_append, List.length_take, List.length_drop, Array.length_toList]
        omega
      · have hF : cur.toList.take (f.n * 1) = F := htake
        rw [Nat.mul_one] at hF ⊢
        rw [← hF]
        apply List.ext_getElem?
        intro j
        simp only [List.getElem?_take, List.getElem?_append, List.length_append, List.length_take, Array.length_toList, List.getElem?_drop, hxl]
        have e1 : min o cur.size = o := by omega
        have e2 : min o (min f.n cur.size) = o := by omega
        simp only [e1, e2]
        by_cases q1 : j < o
        · have q2 : j < o + x.n := by omega
          have q3 : j < f.n := by omega
          simp only [if_pos q1, if_pos q2, if_pos q3]
        · by_cases q2 : j < o + x.n
          · have q3 : j < f.n := by omega
            simp only [if_neg q1, if_pos q2, if_pos q3]
          · by_cases q3 : j < f.n
            · have q4 : o + x.n + (j - (o + x.n)) < f.n := by omega
              simp only [if_neg q2, if_pos q3, if_pos q4]
            · have q4 : ¬ o + x.n + (j - (o + x.n)) < f.n := by omega
              simp only [if_neg q2, if_neg q3, if_neg q4]
end Go.Proofs.Ytaneeadpjelomaa.CF

/- Rules: a byte put into a row of one's own, rows that are made, noughts behind a row. -/
namespace Go.Proofs.Ytaneeadpjelomaa.CF
open Go Go.RowKit

theorem own_put {w : World} {base : Nat} {e : TypeId} {s : Sl} {vs : List Value} (hs : Own w base e 1 s vs) {i : Nat} (hi : i < s.n) {v : Value} (hv : v.oneCell' = true)
    {K : World → Prop} (h : ∀ w1, Own w1 base e 1 s (vs.set i v) → Keep (fun k => some k = s.blk) w w1 → w1.heap.size = w.heap.size → K w1) : Put ((gA s.A).add (i * 1)) v w K := by
  obtain ⟨hlen, hown⟩ := hs
  rcases hown with ⟨_, hn0⟩ | ⟨g, cap, cur, hv', hbg, hg, hnc, hcm, hcs, htake⟩
  · omega
  · injection hv' with hA hN hC
    have hcs' : cur.size = cap := by simpa using hcs
    rw [Nat.mul_one, hA, gA, add0, Nat.zero_add]
    refine put_rule hg (by omega) hv fun w1 hb1 hk1 hsz1 => ?_
    refine h w1 ⟨by rw [List.length_set]; exact hlen, .inr ⟨g, cap, _, by rw [hA, hC], hbg, hb1, hnc, hcm, by simpa using hcs, ?_⟩⟩ (hk1.mono fun k _ q => by simp [Sl.blk, hA, q]) hsz1
    have hF : cur.toList.take (s.n * 1) = vs := htake
    rw [← hF, Array.toList_setIfInBounds, List.take_set]
theorem make_rule {P : Program} {w : World} {t e : TypeId} {zv : Value} {bytes n base : Nat} (ht : P.underlying t = some (.slice e)) (hinfo : (P.info? e).map (fun i => (i.zero, i.size, i.bytes)) = some (some zv, 1, bytes)) (hzc : zv.cells = #[zv])
    (hb : bytes * n ≤ 281474976710656) (hn : n ≤ 140737488355328) (hbase : base ≤ w.heap.size)
    {K : Sl → World → Prop} (h : ∀ w1, Own w1 base e 1 ⟨some ⟨w.heap.size, 0, none⟩, n, n⟩ (List.replicate n zv) → Grow w w1 → w1.heap.size = w.heap.size + 1 → K ⟨some ⟨w.heap.size, 0, none⟩, n, n⟩ w1) :
    RunK P .sl (Instr.makeSlice t (.int .i64 (n : Int)) (.int .i64 (n : Int))) w K := by
  obtain ⟨i, hi, hzz⟩ := Option.map_eq_some_iff.1 hinfo
  simp only [Prod.mk.injEq] at hzz
  obtain ⟨hz, hsz, hby⟩ := hzz
  have hb' : (i.bytes : Int) * (n : Int) ≤ 281474976710656 := by
    rw [hby, ← Int.natCast_mul]; omega
  have hr := run_make (P := P) w t e i zv ht hi hz .i64 .i64 (n : Int) (n : Int) (by omega) (Int.le_refl _) hb' (by omega)
  simp only [Int.toNat_natCast] at hr
  refine ⟨⟨some ⟨w.heap.size, 0, none⟩, n, n⟩, _, hr, h _ ?_ (keep_alloc w _) (by simp)⟩
  have hm : madeCells zv.cells (n * i.size) = (List.replicate n zv).toArray := by
    rw [hzc, hsz, Nat.mul_one]
    apply Array.ext
    · simp [madeCells]
    · intro k h1 h2
      simp [madeCells, Nat.mod_one]
  rw [hm]
  have := World.ownsRow_lit (e := e) (size := 1) (base := base) w (List.replicate n zv).toArray n hbase (by unfold maxLen; omega) (by simp)
  exact this
theorem append_zeros_rule {P : Program} {w : World} {t tn ty e : TypeId} {zv : Value} {base k : Nat} (ht : P.underlying t = some (.slice e)) (htn : P.underlying tn = some (.int .i64)) (hinfo : (P.info? e).map (fun i => (i.zero, i.size, i.bytes)) = some (some zv, 1, 1)) (hzc : zv.cells = #[zv])
    {s : Sl} {vs : List Value} (hs : Rd w 1 s vs) (hc : s.c < s.n + k) (hk : 0 < k) (hbd : s.n + k ≤ 1000000000) (hbase : base ≤ w.heap.size)
    {K : Sl → World → Prop} (h : ∀ s' w', s'.n = s.n + k → Own w' base e 1 s' (vs ++ List.replicate k zv) → Grow w w' → s'.blk = some w.heap.size → K s' w') :
    RunK P .sl (Builtin.append_ #[t, tn] ty #[.slice s.A s.n s.c, .int .i64 (k : Int)]) w K := by
  obtain ⟨i, hi, hzz⟩ := Option.map_eq_some_iff.1 hinfo
  simp only [Prod.mk.injEq] at hzz
  obtain ⟨hz, hsz, hby⟩ := hzz
  have hvl : vs.length = s.n := by have := hs.len; omega
  have hold : (Builtin.firstCells i.size s.n (.slice s.A s.n s.c)).run P w.drew = .ok vs.toArray w.drew := by
    rw [hsz]
    by_cases hne : vs = []
    · subst hne
      simp only [List.length_nil] at hvl
      rw [← hvl]
      cases hA : s.A with
      | none => exact run_firstCells_none (P := P) (w := w.drew) 1 0 0 _
      | some a => exact run_firstCells_some (P := P) (w := w.drew) 1 0 a 0 s.c [] rfl (fun j v hj => by simp at hj)
    · obtain ⟨a, ha, hc⟩ := (hs.grow (keep_drew w)).at_ hne
      rw [ha]
      exact run_firstCells_some (P := P) (w := w.drew) 1 s.n a s.n s.c vs (by omega) hc
  have hr := Go.Lib.run_append_grow_zeros (P := P) w t tn ty e i zv .i64 .i64 ht htn hi hz s.A s.n s.c vs hold k hk (by omega) hc (by omega) (by rw [hby]; omega) (by rw [hby]; exact growslice_fits (by omega) (by omega))
  refine ⟨⟨some ⟨w.heap.size, 0, none⟩, s.n + k, grownCap w (s.n + k) s.c e⟩, _, hr, h _ _ rfl ?_ ⟨rfl, rfl, rfl, by simp, fun k hk _ => heap_alloc_lt w.drew _ k hk⟩ rfl⟩
  have hge := grownCap_ge w (s.n + k) s.c e
  have hcm : grownCap w (s.n + k) s.c e ≤ maxLen := grownCap_le_maxLen w (s.n + k) s.c e (by unfold maxLen; omega)
  have hzk : ∀ m, (Builtin.zeroCells zv.cells m).size = m := fun m => by rw [size_zeroCells, hzc]; simp
  have hzr : (Builtin.zeroCells zv.cells k).toList = List.replicate k zv := by
    rw [hzc]
    apply List.ext_getElem
    · rw [Array.length_toList, ← hzc, hzk]; simp
    · intro j h1 h2
      simp [Builtin.zeroCells, Nat.mod_one]
  refine ⟨by simp; omega, .inr ⟨w.heap.size, grownCap w (s.n + k) s.c e, _, rfl, hbase, heap_alloc_new w.drew _, hge, hcm, ?_, ?_⟩⟩
  · simp only [Array.size_append, List.size_toArray, hzk, hvl]
    omega
  · simp only [Array.toList_append, hzr]
    have : (vs ++ List.replicate k zv).length = (s.n + k) * 1 := by simp; omega
    rw [← this]
    exact List.take_left
/-- append(s, x...) where both together are greater than half of what a row may be -/
theorem append_wide_rule {P : Program} {w : World} {base : Nat} {t ty e : TypeId} {zv : Value} {z bytes : Nat} (ht : P.underlying t = some (.slice e)) (hinfo : (P.info? e).map (fun i => (i.zero, i.size, i.bytes)) = some (some zv, z, bytes))
    (hzc : zv.cells.size = z) (hz0 : 0 < z) (hb0 : 0 < bytes) {s x : Sl} {vs xs : List Value} (hs : Own w base e z s vs) (hx : Rd w z x xs) (h1 : ∀ u ∈ xs, u.oneCell' = true)
    (hm : s.n + x.n ≤ 140737489403904) (hbd : ((s.n + x.n) + (s.n + x.n) / 4 + 192) * bytes ≤ 281474976710656) (hbase : base ≤ w.heap.size) {K : Sl → World → Prop}
    (h : ∀ s' w', s'.n = s.n + x.n → Own w' base e z s' (vs ++ xs) → Keep (fun k => some k = s.blk) w w' → K s' w') :
    RunK P .sl (Builtin.append_ #[t, t] ty #[.slice s.A s.n s.c, .slice x.A x.n x.c]) w K := by
  obtain ⟨i, hi, hzz⟩ := Option.map_eq_some_iff.1 hinfo
  simp only [Prod.mk.injEq] at hzz
  obtain ⟨hz, hsz, hby⟩ := hzz
  have blk : (Value.slice s.A s.n s.c).ownBlock = s.blk := by unfold Sl.blk; cases s.A <;> rfl
  have hxl : xs.length = x.n * z := hx.len
  by_cases hne : xs = []
  · have hn0 : x.n = 0 := by
      rw [hne, List.length_nil] at hxl
      rcases Nat.mul_eq_zero.1 hxl.symm with q | q <;> omega
    have hsl := hs.len
    have hc : s.n + x.n ≤ s.c := by
      rcases hs.2 with ⟨h2, q⟩ | ⟨g, cap, cur, hv, _, _, h4, _⟩
      · injection h2 with _ e1 e2; omega
      · injection hv with _ _ e2; omega
    have hfc : (Builtin.firstCells i.size x.n (.slice x.A x.n x.c)).run P w = .ok #[] w := by
      rw [hn0]
      cases hA : x.A with
      | none => exact run_firstCells_none (P := P) (w := w) i.size 0 0 _
      | some a => exact run_firstCells_some (P := P) (w := w) i.size 0 a 0 x.c [] (by simp) (fun j v hj => by simp at hj)
    refine ⟨s, w, ?_, h s w (by omega) (by rw [hne, List.append_nil]; exact hs) (Keep.refl _ _)⟩
    show _ = Result.ok (Value.slice s.A s.n s.c) w
    rw [hn0] at hc hfc ⊢
    obtain ⟨A, n, c⟩ := s
    simp only [Nat.add_zero] at hc ⊢
    cases A <;> simp [Builtin.append_, run_underlying ht, sizeOf, typeInfo, hi, Builtin.lenOf, hfc, hc, storeCells]
  · obtain ⟨a, ha, hcells⟩ := hx.at_ hne
    obtain ⟨v', w', hr, hown, hg, _⟩ := run_append_own_wide (P := P) w base t ty e i zv z bytes ht hi hz hsz hby hzc hz0 _ s.n vs hs a x.n x.c xs hx.len hcells h1 (by unfold maxLen; omega) hbd hbase
    have hv' : ∃ s' : Sl, v' = .slice s'.A s'.n s'.c ∧ s'.n = s.n + x.n := by
      rcases hown.2 with ⟨rfl, hn⟩ | ⟨g, cap, cur, rfl, _⟩
      · exact ⟨⟨none, 0, 0⟩, rfl, hn.symm⟩
      · exact ⟨⟨some ⟨g, 0, none⟩, _, cap⟩, rfl, rfl⟩
    obtain ⟨s', rfl, hn'⟩ := hv'
    rw [ha]
    exact ⟨s', w', hr, h s' w' hn' (by have q := hown; rw [← hn'] at q; exact q) (blk ▸ keep_grownBy hg)⟩
/-! ### where ways meet: what holds there, told once -/
theorem letX0 {j : World → Prop} {body : (World → Prop) → Prop} (I : World → Prop) (h1 : ∀ u, I u → j u) (h2 : (∀ u, I u → j u) → body j) : letX j body := h2 h1
theorem letX1 {α : Type} {j : α → World → Prop} {body : (α → World → Prop) → Prop} (I : α → World → Prop) (h1 : ∀ x u, I x u → j x u) (h2 : (∀ x u, I x u → j x u) → body j) : letX j body := h2 h1
theorem letX2 {α β : Type} {j : α → β → World → Prop} {body : (α → β → World → Prop) → Prop} (I : α → β → World → Prop) (h1 : ∀ x y u, I x y u → j x y u) (h2 : (∀ x y u, I x y u → j x y u) → body j) : letX j body := h2 h1
theorem letX3 {α β γ : Type} {j : α → β → γ → World → Prop} {body : (α → β → γ → World → Prop) → Prop} (I : α → β → γ → World → Prop) (h1 : ∀ x y z u, I x y z u → j x y z u) (h2 : (∀ x y z u, I x y z u → j x y z u) → body j) : letX j body := h2 h1
theorem letJ1 {α : Type} {j : α → World → Prop} {body : (α → World → Prop) → Prop} (I : α → World → Prop) (h1 : ∀ x u, I x u → j x u) (h2 : (∀ x u, I x u → j x u) → body j) : letJ j body := h2 h1
/-- the bytes of a constant, and where they lie -/
theorem bytes_at_rule {P : Program} {w : World} {t e : TypeId} {n : Nat} {parts : Array (Nat × Value)} {l : L8}
    (hr : (Instr.buildSlice t n parts).run P w = .ok (.slice (some ⟨w.heap.size, 0, none⟩) n n) (w.alloc (.cells (bv l).toArray e))) (hn : n = l.length) (hb : n ≤ 140737488355328)
    (ht : P.underlying t = some (.slice e)) (he : P.underlying e = some (.int .u8))
    {K : Sl → World → Prop} (h : ∀ w', Grow w w' → w'.heap.size = w.heap.size + 1 → Rd w' 1 ⟨some ⟨w.heap.size, 0, none⟩, n, n⟩ (bv l) → K ⟨some ⟨w.heap.size, 0, none⟩, n, n⟩ w') :
    RunK P .sl (Instr.buildSlice t n parts) w fun xs w0 => RunK P .sl (convert t t (.slice xs.A xs.n xs.c)) w0 K := by
  refine ⟨⟨some ⟨w.heap.size, 0, none⟩, n, n⟩, _, hr, ⟨some ⟨w.heap.size, 0, none⟩, n, n⟩, _, Go.Lib.run_convert_bytes_const w t e _ n n ht he, ?_⟩
  refine h _ (keep_alloc w _) (by simp) ⟨by rw [bv_length, hn, Nat.mul_one], Nat.le_refl _, by show n ≤ _; omega, fun _ => ⟨_, rfl, fun j v hj => ?_⟩⟩
  rw [add0, Nat.zero_add]
  unfold World.cell?
  simp only [World.alloc, Array.getElem?_push, if_true]
  simpa using hj
end Go.Proofs.Ytaneeadpjelomaa.CF
