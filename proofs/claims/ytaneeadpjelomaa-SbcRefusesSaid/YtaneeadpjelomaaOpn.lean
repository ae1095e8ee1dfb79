import Derived.Test.YtaneeadpjelomaaCfN
import Derived.WalkKit
import Derived.ProofKit
import Derived.OpenShut
import Derived.ShutString
import Derived.ChangeOld
import Derived.Below
import Derived.SizedLaws
/- Arguments, opened: rows of things, plain structs. -/
namespace Go.Proofs.Ytaneeadpjelomaa.CF
open Go Go.RowKit

section
variable {H : Type} {enc : TypeId × Value → H} {P : Program} {w : World} {base : Nat} {spare : Nat → Bool} {held : Bool}
/-- its weights are within reach -/
def Light (P : Program) (t : TypeId) (d : DataW H) : Prop := ∀ m ∈ d.weights P t, m ≤ reachBytes
/-- what a reading of a type's cells tells -/
def Opens (enc : TypeId × Value → H) (P : Program) (w : World) (base : Nat) (spare : Nat → Bool) (held : Bool) (t : TypeId) (Φ : List Value → Prop) : Prop :=
  ∀ n cs x, DataW.trod enc P w base spare held n t cs = some x → Light P t x.1 → Φ cs
theorem mem_weightsAll {e : TypeId} : ∀ {ds : List (DataW H)} {d : DataW H}, d ∈ ds → ∀ m ∈ d.weights P e, m ∈ DataW.weightsAll P e ds
  | d0 :: ds, d, hd, m, hm => by
    simp only [DataW.weightsAll, List.mem_append]
    rcases List.mem_cons.1 hd with rfl | h
    · exact .inl hm
    · exact .inr (mem_weightsAll h m hm)
theorem cells_of {a : Addr} {n : Nat} {vs : List Value} (h : w.cells? base a n = some vs) : vs.length = n ∧ Cells w a vs := by
  unfold World.cells? at h
  split at h
  · have hl := mapM_some_length h
    simp at hl
    refine ⟨hl, fun j v hj => ?_⟩
    have hjn : j < n := by have := (List.getElem?_eq_some_iff.1 hj).1; omega
    have := mapM_some_get h j j (by simp [hjn])
    rw [this, hj]
  · cases h
theorem opens_bool {t : TypeId} (ht : P.underlying t = some .bool) : Opens enc P w base spare held t fun cs => ∃ b, cs = [.bool b] := fun _ _ _ h _ => by
  obtain ⟨b, hb, _⟩ := DataW.trod_bool ht h; exact ⟨b, hb⟩
theorem opens_int {t : TypeId} {k : IntKind} (ht : P.underlying t = some (.int k)) : Opens enc P w base spare held t fun cs => ∃ n, cs = [.int k n] ∧ (Lit.int k n).wf = true := fun _ _ _ h _ => by
  obtain ⟨n, hn, _, hw⟩ := DataW.trod_int ht h; exact ⟨n, hn, hw⟩
theorem opens_str {t : TypeId} (ht : P.underlying t = some .string) : Opens enc P w base spare held t fun cs => ∃ l : L8, cs = [.string (str l)] ∧ l.length ≤ 140737488351232 := fun _ _ x h hl => by
  obtain ⟨s, hs, hx, _⟩ := DataW.trod_string ht h
  refine ⟨ls s, by rw [hs, str_ls], ?_⟩
  have := hl (ls s).length (by rw [hx]; simp [DataW.weights, ls])
  exact this
theorem opens_u8 {t : TypeId} (ht : P.underlying t = some (.int .u8)) : Opens enc P w base spare held t fun cs => ∃ b : UInt8, cs = [.int .u8 (b.toNat : Int)] := fun n cs x h hl => by
  obtain ⟨z, hz, hw⟩ := opens_int ht n cs x h hl
  simp [Lit.wf, IntKind.min, IntKind.max, IntKind.signed, IntKind.bits] at hw
  refine ⟨UInt8.ofNat z.toNat, ?_⟩
  rw [hz]
  congr 2
  rw [UInt8.toNat_ofNat']
  omega
/-- fields, one by one -/
theorem opens_fields {t : TypeId} {fs : Array Field} (ht : P.underlying t = some (.struct fs)) {Φ : List (List Value → Prop)}
    (hl : fs.size = Φ.length) (hf : ∀ (i : Nat) (f : Field) (φ : List Value → Prop), fs[i]? = some f → Φ[i]? = some φ → Opens enc P w base spare held f.type φ) :
    Opens enc P w base spare held t fun cs => cs.length = P.cellsOf t ∧ ∀ (i : Nat) (f : Field) (φ : List Value → Prop), fs[i]? = some f → Φ[i]? = some φ → φ ((cs.drop f.offset).take (P.cellsOf f.type)) := fun n cs x h hw => by
  obtain ⟨xs, n', _, hx, hcl, hxl, heach⟩ := DataW.trod_struct ht h
  refine ⟨hcl, fun i f φ hfi hφ => ?_⟩
  have hi : i < xs.length := by rw [hxl]; exact (Array.getElem?_eq_some_iff.1 hfi).1
  have he := heach i f hfi
  rw [List.getElem?_eq_getElem hi] at he
  refine hf i f φ hfi hφ n' _ _ he fun m hm => hw m ?_
  rw [hx]
  show m ∈ DataW.weights P t (.agg (xs.map (·.1)))
  rw [DataW.weights, ht]
  refine DataW.weights_mem_each (j := i) (t := f.type) (d := xs[i].1) ?_ ?_ m hm
  · rw [List.getElem?_map, ← Array.getElem?_toList] at *; rw [hfi]; rfl
  · rw [List.getElem?_map, List.getElem?_eq_getElem hi]; rfl
theorem opens_array {t e : TypeId} {k : Nat} (ht : P.underlying t = some (.array k e)) {φ : List Value → Prop} (hf : Opens enc P w base spare held e φ) :
    Opens enc P w base spare held t fun cs => cs.length = P.cellsOf t ∧ ∀ i, i < k → φ ((cs.drop (i * P.cellsOf e)).take (P.cellsOf e)) := fun n cs x h hw => by
  obtain ⟨xs, n', _, hx, hcl, hxl, heach⟩ := DataW.trod_array ht h
  refine ⟨hcl, fun i hi => ?_⟩
  have hi' : i < xs.length := by omega
  have he := heach i hi
  rw [List.getElem?_eq_getElem hi'] at he
  refine hf n' _ _ he fun m hm => hw m ?_
  rw [hx]
  show m ∈ DataW.weights P t (.agg (xs.map (·.1)))
  rw [DataW.weights, ht]
  exact mem_weightsAll (List.mem_map.2 ⟨xs[i], List.getElem_mem hi', rfl⟩) m hm
theorem choose_list {α : Type} {Q : Nat → α → Prop} : ∀ (n : Nat), (∀ i, i < n → ∃ a, Q i a) → ∃ as : List α, as.length = n ∧ ∀ i (h : i < as.length), Q i as[i]
  | 0, _ => ⟨[], rfl, fun i h => absurd h (Nat.not_lt_zero i)⟩
  | n + 1, h => by
    obtain ⟨as, hl, ha⟩ := choose_list n fun i hi => h i (by omega)
    obtain ⟨a, hq⟩ := h n (by omega)
    refine ⟨as ++ [a], by simp [hl], fun i hi => ?_⟩
    rcases Nat.lt_or_ge i as.length with q | q
    · rw [List.getElem_append_left q]; exact ha i q
    · have : i = n := by simp at hi; omega
      subst this
      rw [List.getElem_append_right q]
      simpa [hl] using hq
/-- a slice of things that a list's elements tell -/
theorem opens_slice {α : Type} {t e : TypeId} {z bytes : Nat} {f : α → List Value} {Q : α → Prop} (ht : P.underlying t = some (.slice e)) (hz : P.cellsOf e = z) (hb : P.bytesOf e = bytes) (hb1 : 1 ≤ bytes)
    (hf : ∀ a, (f a).length = z) (hel : Opens enc P w base spare held e fun cs => ∃ a, cs = f a ∧ Q a) :
    Opens enc P w base spare held t fun cs => ∃ s : Sl, cs = [.slice s.A s.n s.c] ∧ ∃ as : List α, Rd w z s (as.flatMap f) ∧ as.length = s.n ∧ (∀ a ∈ as, Q a) ∧ s.n * bytes ≤ 140737488351232 := fun fuel cs x h hw => by
  rcases DataW.trod_slice ht h with ⟨hcs, _⟩ | ⟨a, len, cap, elems, rest, n, _, hcs, hx, _, hlc, hmc, hlen, heach, _, _⟩
  · exact ⟨⟨none, 0, 0⟩, hcs, [], by simpa using rd_nil w z, rfl, by simp, by simp⟩
  · have hwt : (elems.length + rest.length) * bytes ≤ 140737488351232 := by
      have := hw ((elems.length + rest.length) * bytes) (by rw [hx]; simp [DataW.weights, ht, hb])
      exact this
    have hsz : len * bytes ≤ 140737488351232 := by
      refine Nat.le_trans (Nat.mul_le_mul_right _ ?_) hwt
      omega
    have hln : len ≤ 140737488351232 := by
      have : len * 1 ≤ len * bytes := Nat.mul_le_mul_left _ hb1
      omega
    obtain ⟨as, hal, has⟩ := choose_list (α := α) (Q := fun i b => Q b ∧ Cells w (a.add (i * z)) (f b)) len fun i hi => by
      have hi' : i < elems.length := by omega
      have he := heach i hi
      rw [List.getElem?_eq_getElem hi', hz] at he
      obtain ⟨vs, hvs, hr⟩ := Option.bind_eq_some_iff.1 he
      obtain ⟨hvl, hvc⟩ := cells_of hvs
      obtain ⟨b, hb1, hb2⟩ := hel n vs _ hr fun m hm => hw m (by
        rw [hx]
        simp only [DataW.weights, ht, List.mem_cons, List.mem_append]
        exact .inr (.inl (mem_weightsAll (List.mem_map.2 ⟨elems[i], List.getElem_mem hi', rfl⟩) m hm)))
      exact ⟨b, hb2, hb1 ▸ hvc⟩
    refine ⟨⟨some a, len, cap⟩, hcs, as, ⟨by rw [flat_length hf, hal], hlc, by show len ≤ _; omega, fun _ => ⟨a, rfl, fun j v hj => ?_⟩⟩, hal, fun b hbm => ?_, hsz⟩
    · have hz0 : 0 < z := by
        rcases Nat.eq_zero_or_pos z with e0 | e0
        · exfalso
          have := (List.getElem?_eq_some_iff.1 hj).1
          rw [flat_length hf, e0] at this
          omega
        · exact e0
      have hjl : j < as.length * z := by rw [← flat_length hf]; exact (List.getElem?_eq_some_iff.1 hj).1
      have hq : j / z < as.length := Nat.div_lt_of_lt_mul (by rw [Nat.mul_comm]; exact hjl)
      have hfe := flat_elem hf hq
      have hjz : j / z * z + j % z = j := by rw [Nat.mul_comm]; exact Nat.div_add_mod j z
      have hcell := (has (j / z) hq).2 (j % z) v (by
        rw [← hfe, List.getElem?_take, if_pos (Nat.mod_lt _ hz0), List.getElem?_drop, hjz]; exact hj)
      rw [addr_add, hjz] at hcell
      exact hcell
    · obtain ⟨i, hi, rfl⟩ := List.getElem_of_mem hbm
      exact (has i hi).1
theorem Opens.mono {t : TypeId} {Φ Ψ : List Value → Prop} (h : Opens enc P w base spare held t Φ) (hi : ∀ cs, Φ cs → Ψ cs) : Opens enc P w base spare held t Ψ := fun n cs x ht hl => hi cs (h n cs x ht hl)
theorem flat_bv (l : L8) : l.flatMap (fun b => [Value.int .u8 (b.toNat : Int)]) = bv l := by
  unfold bv
  induction l with
  | nil => rfl
  | cons a r ih => simp only [List.flatMap_cons, ih, List.map_cons, List.singleton_append]
theorem opens_bytes {t e : TypeId} (ht : P.underlying t = some (.slice e)) (he : P.underlying e = some (.int .u8)) (hz : P.cellsOf e = 1) (hb : P.bytesOf e = 1) :
    Opens enc P w base spare held t fun cs => ∃ s : Sl, cs = [.slice s.A s.n s.c] ∧ ∃ l : L8, Rd w 1 s (bv l) ∧ l.length = s.n ∧ s.n ≤ 140737488351232 := by
  refine (opens_slice (f := fun b : UInt8 => [Value.int .u8 (b.toNat : Int)]) (Q := fun _ => True) ht hz hb (Nat.le_refl _) (fun _ => rfl) ((opens_u8 he).mono fun cs ⟨b, h⟩ => ⟨b, h, trivial⟩)).mono ?_
  rintro cs ⟨s, h1, as, h2, h3, _, h4⟩
  exact ⟨s, h1, as, by rw [← flat_bv]; exact h2, h3, by omega⟩
/-- a plain cell within reach -/
def okV : Value → Prop
  | .int k n => (Lit.int k n).wf = true
  | .string s => s.size ≤ 140737488351232
  | _ => True
theorem sizeT_cells (t : TypeId) : P.cellsOf t = sizeT P t := by
  unfold Program.cellsOf sizeT
  cases P.info? t <;> rfl
theorem FitL.join : ∀ {ks ls : List Kd} {a b : List Value}, FitL ks a → FitL ls b → FitL (ks ++ ls) (a ++ b)
  | [], _, [], _, _, h => h
  | _ :: _, _, _ :: _, _, h, h' => ⟨h.1, FitL.join h.2 h'⟩
  | [], _, _ :: _, _, h, _ => h.elim
  | _ :: _, _, [], _, h, _ => h.elim
theorem flatFs_opens {rec : TypeId → Option (List Kd)} {cs : List Value} : ∀ (l : List Field) (off : Nat) (ks : List Kd), flatFs rec P l off = some ks →
    (∀ f ∈ l, ∀ ls, rec f.type = some ls → P.cellsOf f.type = ls.length → FitL ls ((cs.drop f.offset).take ls.length) ∧ ∀ v ∈ (cs.drop f.offset).take ls.length, okV v) →
    FitL ks ((cs.drop off).take ks.length) ∧ ∀ v ∈ (cs.drop off).take ks.length, okV v
  | [], off, ks, h, _ => by
    simp only [flatFs, Option.some.injEq] at h
    subst h
    exact ⟨by simp [FitL], by simp⟩
  | f :: r, off, ks, h, hf => by
    simp only [flatFs] at h
    split at h
    · rename_i ks1 h1 h2 h3
      split at h
      · rename_i l h4 h5
        simp only [Option.some.injEq] at h
        subst h
        have ho : f.offset = off := Nat.eq_of_beq_eq_true h2
        have hz : sizeT P f.type = ks1.length := Nat.eq_of_beq_eq_true h4
        obtain ⟨a1, a2⟩ := hf f (by simp) ks1 h3 (by rw [sizeT_cells, hz])
        obtain ⟨b1, b2⟩ := flatFs_opens r (off + ks1.length) l h5 fun g hg => hf g (by simp [hg])
        rw [ho] at a1 a2
        have e : (cs.drop off).take (ks1 ++ l).length = (cs.drop off).take ks1.length ++ (cs.drop (off + ks1.length)).take l.length := by
          rw [List.length_append, List.take_add, List.drop_drop]
        rw [e]
        refine ⟨a1.join b1, fun v hv => ?_⟩
        rcases List.mem_append.1 hv with q | q
        · exact a2 v q
        · exact b2 v q
      · cases h
    · cases h
theorem repK_opens {ks : List Kd} : ∀ (n : Nat) (cs : List Value), cs.length = n * ks.length → (∀ i, i < n → FitL ks ((cs.drop (i * ks.length)).take ks.length)) → FitL (repK n ks) cs
  | 0, cs, hl, _ => by
    have : cs = [] := List.eq_nil_of_length_eq_zero (by simpa using hl)
    subst this; trivial
  | n + 1, cs, hl, h => by
    have h0 := h 0 (by omega)
    rw [Nat.zero_mul, List.drop_zero] at h0
    have hr := repK_opens (ks := ks) n (cs.drop ks.length) (by rw [List.length_drop, hl, Nat.succ_mul]; omega) fun i hi => by
      have := h (i + 1) (by omega)
      rwa [Nat.succ_mul, Nat.add_comm, ← List.drop_drop] at this
    have := h0.join hr
    rwa [List.take_append_drop] at this
theorem opens_flat : ∀ (d : Nat) (t : TypeId) (ks : List Kd), flatK P d t = some ks → P.cellsOf t = ks.length → Opens enc P w base spare held t fun cs => FitL ks cs ∧ ∀ v ∈ cs, okV v
  | 0, t, ks, h, _ => by cases h
  | d + 1, t, ks, h, hz => by
    unfold flatK at h
    split at h
    · rename_i hu
      cases h
      refine (opens_bool hu).mono ?_
      rintro cs ⟨b, rfl⟩
      exact ⟨⟨rfl, trivial⟩, by simp [okV]⟩
    · rename_i k hu
      cases h
      refine (opens_int hu).mono ?_
      rintro cs ⟨b, rfl, hw⟩
      exact ⟨⟨by simp only [Kd.fit]; cases k <;> rfl, trivial⟩, by simpa [okV] using hw⟩
    · rename_i hu
      cases h
      refine (opens_str hu).mono ?_
      rintro cs ⟨b, rfl, hw⟩
      exact ⟨⟨rfl, trivial⟩, by simpa [okV, size_str] using hw⟩
    · rename_i fs hu
      split at h
      · intro n cs x hx hw
        obtain ⟨xs, n', _, hxe, hcl, hxl, heach⟩ := DataW.trod_struct hu hx
        have := flatFs_opens (P := P) (cs := cs) fs.toList 0 ks h ?_
        · rw [List.drop_zero, ← hz, ← hcl, List.take_length] at this
          exact this
        · intro f hf ls hls hlz
          obtain ⟨i, hi, rfl⟩ := List.getElem_of_mem hf
          have hi' : i < fs.size := by simpa using hi
          have hfi : fs[i]? = some fs.toList[i] := by rw [Array.getElem?_eq_getElem hi']; rfl
          have hix : i < xs.length := by rw [hxl]; exact hi'
          have he := heach i _ hfi
          rw [List.getElem?_eq_getElem hix, hlz] at he
          refine opens_flat d _ ls hls hlz n' _ _ he fun m hm => hw m ?_
          rw [hxe]
          show m ∈ DataW.weights P t (.agg (xs.map (·.1)))
          rw [DataW.weights, hu]
          refine DataW.weights_mem_each (j := i) (t := fs.toList[i].type) (d := xs[i].1) ?_ ?_ m hm
          · rw [List.getElem?_map, List.getElem?_eq_getElem hi]; rfl
          · rw [List.getElem?_map, List.getElem?_eq_getElem hix]; rfl
      · cases h
    · rename_i k e hu
      split at h
      · rename_i ls hls
        split at h
        · rename_i hbe
          cases h
          have hze : P.cellsOf e = ls.length := by rw [sizeT_cells]; exact Nat.eq_of_beq_eq_true hbe
          refine (opens_array hu (opens_flat d e ls hls hze)).mono ?_
          rintro cs ⟨hcl, hall⟩
          rw [hz, repK_length] at hcl
          rw [hze] at hall
          refine ⟨repK_opens k cs hcl fun i hi => (hall i hi).1, fun v hv => ?_⟩
          obtain ⟨j, hj, rfl⟩ := List.getElem_of_mem hv
          have hl0 : 0 < ls.length := by
            rcases Nat.eq_zero_or_pos ls.length with q | q
            · rw [hcl, q] at hj; omega
            · exact q
          have hq : j / ls.length < k := Nat.div_lt_of_lt_mul (by rw [Nat.mul_comm, ← hcl]; exact hj)
          refine (hall _ hq).2 _ (List.mem_iff_getElem?.2 ⟨j % ls.length, ?_⟩)
          rw [List.getElem?_take, if_pos (Nat.mod_lt _ hl0), List.getElem?_drop, Nat.mul_comm, Nat.div_add_mod, List.getElem?_eq_getElem hj]
        · cases h
      · cases h
    · cases h
end
/-- the cells of a value at whole: one of its own is the value -/
theorem one_cell_val {v u : Value} (h : v.cells.toList = [u]) (hf : ∀ g, v ≠ .agg g) : v = u := by
  cases v <;> simp_all [Value.cells]
theorem below_of_call {P : Program} {f : FuncId} {args : Array Value} {w : World} (h : CallK P f args w [.b] fun b w' => b = true ∧ Grow w w') :
    Calls P f args w fun e w' => e = .returned (.bool true) ∧ Below w.heap.size w w' :=
  h.mono fun e w' hx => by
    obtain ⟨x, hx, hb, hg⟩ := hx
    have hb : x = true := hb
    subst hb
    exact ⟨hx, Keep.below hg⟩
end Go.Proofs.Ytaneeadpjelomaa.CF
