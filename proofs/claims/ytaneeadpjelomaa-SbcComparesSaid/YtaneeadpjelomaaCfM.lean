/- Memory: what is kept, slices that are read, rows of one's own; the rules for the words of the conditions. -/
import Derived.Test.YtaneeadpjelomaaCf8
import Derived.Below
import Derived.Maps.AppendAt
import Derived.Laws.OwnMore
namespace Go.Proofs.Ytaneeadpjelomaa.CF
open Go Go.RowKit

/-! ### numbers, bytes, strings -/
abbrev L8 := List UInt8
def bv (l : L8) : List Value := l.map fun b => .int .u8 (b.toNat : Int)
def str (l : L8) : ByteArray := ⟨l.toArray⟩
def ls (s : ByteArray) : L8 := s.data.toList
theorem ls_str (l : L8) : ls (str l) = l := rfl
theorem str_ls (s : ByteArray) : str (ls s) = s := rfl
theorem size_str (l : L8) : (str l).size = l.length := by show l.toArray.size = _; simp
theorem length_ls (s : ByteArray) : (ls s).length = s.size := by show s.data.toList.length = s.data.size; simp
theorem str_inj {a b : L8} (h : str a = str b) : a = b := by rw [← ls_str a, h, ls_str]
theorem ls_inj {a b : ByteArray} (h : ls a = ls b) : a = b := by rw [← str_ls a, h, str_ls]
theorem sEq_iff {s t : ByteArray} : sEq s t = true ↔ s = t := by
  unfold sEq
  rw [beq_iff_eq, ByteArray.toList_eq, ByteArray.toList_eq]
  exact ⟨fun h => ls_inj h, fun h => by rw [h]⟩
theorem sEq_str {a b : L8} : sEq (str a) (str b) = decide (a = b) := by
  rw [Bool.eq_iff_iff, sEq_iff, decide_eq_true_iff]
  exact ⟨str_inj, fun h => by rw [h]⟩
theorem sEq_dec {s t : ByteArray} : sEq s t = decide (s = t) := by
  rw [Bool.eq_iff_iff, sEq_iff, decide_eq_true_iff]
theorem str_nil : (⟨#[]⟩ : ByteArray) = str [] := rfl
theorem bv_length (l : L8) : (bv l).length = l.length := by simp [bv]
theorem bv_append (a b : L8) : bv (a ++ b) = bv a ++ bv b := by simp [bv]
theorem bv_take (l : L8) (k : Nat) : (bv l).take k = bv (l.take k) := by simp [bv, List.map_take]
theorem bv_drop (l : L8) (k : Nat) : (bv l).drop k = bv (l.drop k) := by simp [bv, List.map_drop]
theorem bv_get (l : L8) (j : Nat) (h : j < l.length) : (bv l)[j]? = some (.int .u8 (l[j].toNat : Int)) := by simp [bv, h]
theorem bt_get (s : ByteArray) (i : Nat) (h : i < (ls s).length) : bt s (i : Int) = ((ls s)[i].toNat : Int) := by
  have h' : i < s.size := by rw [← length_ls]; exact h
  unfold bt
  rw [Int.toNat_natCast]
  simp only [getElem?_pos, h']
  rfl
theorem w64 {n : Int} (h0 : -9223372036854775808 ≤ n) (h1 : n ≤ 9223372036854775807) : IntKind.wrap .i64 n = n := by
  have e : IntKind.wrap .i64 n = if n % 18446744073709551616 ≥ 9223372036854775808 then n % 18446744073709551616 - 18446744073709551616 else n % 18446744073709551616 := by
    simp [IntKind.wrap, IntKind.signed, IntKind.bits]
  rw [e]
  split <;> omega
theorem wu8 {n : Int} (h0 : 0 ≤ n) (h1 : n < 256) : IntKind.wrap .u8 n = n := by
  have e : IntKind.wrap .u8 n = n % 256 := by simp [IntKind.wrap, IntKind.signed, IntKind.bits]
  rw [e]; omega
theorem wu16 {n : Int} (h0 : 0 ≤ n) (h1 : n < 65536) : IntKind.wrap .u16 n = n := by
  have e : IntKind.wrap .u16 n = n % 65536 := by simp [IntKind.wrap, IntKind.signed, IntKind.bits]
  rw [e]; omega
theorem wu32 {n : Int} (h0 : 0 ≤ n) (h1 : n < 4294967296) : IntKind.wrap .u32 n = n := by
  have e : IntKind.wrap .u32 n = n % 4294967296 := by simp [IntKind.wrap, IntKind.signed, IntKind.bits]
  rw [e]; omega
theorem wu64 {n : Int} (h0 : 0 ≤ n) (h1 : n < 18446744073709551616) : IntKind.wrap .u64 n = n := by
  have e : IntKind.wrap .u64 n = n % 18446744073709551616 := by simp [IntKind.wrap, IntKind.signed, IntKind.bits]
  rw [e]; omega

/-! ### branches -/
theorem br_t {b : Bool} {A B : Prop} (hb : b = true) (h : A) : Br b A B := ⟨fun _ => h, fun q => by rw [hb] at q; cases q⟩
theorem br_f {b : Bool} {A B : Prop} (hb : b = false) (h : B) : Br b A B := ⟨fun q => (by rw [hb] at q; cases q), fun _ => h⟩
theorem br_dec {p : Prop} [Decidable p] {A B : Prop} (ht : p → A) (hf : ¬ p → B) : Br (decide p) A B :=
  ⟨fun h => ht (of_decide_eq_true h), fun h => hf (of_decide_eq_false h)⟩
theorem br_eq {x y : Int} {A B : Prop} (ht : x = y → A) (hf : x ≠ y → B) : Br (x == y) A B :=
  ⟨fun h => ht (eq_of_beq h), fun h => hf (fun e => by rw [e, beq_self_eq_true] at h; cases h)⟩
theorem br_ne {x y : Int} {A B : Prop} (ht : x ≠ y → A) (hf : x = y → B) : Br (x != y) A B :=
  ⟨fun h => ht (fun e => by simp [e] at h), fun h => hf (by simpa using h)⟩
theorem br_not {b : Bool} {A B : Prop} (h : Br b B A) : Br (!b) A B :=
  ⟨fun q => h.2 (by simpa using q), fun q => h.1 (by simpa using q)⟩
theorem br_nat {x y : Nat} {A B : Prop} (ht : x < y → A) (hf : ¬ x < y → B) : Br (decide ((x : Int) < (y : Int))) A B :=
  br_dec (fun h => ht (by omega)) (fun h => hf (by omega))

/-! ### contracts of the library's functions -/
theorem callK0 {P : Program} {f : FuncId} {args : Array Value} {w : World} {Q : World → Prop} {R : World → Prop}
    (h : Calls P f args w fun e w' => e = .returned (.tuple #[]) ∧ Q w') (hR : ∀ w', Q w' → R w') : CallK P f args w [] R :=
  h.mono fun _ w' he => ⟨he.1, hR w' he.2⟩
theorem callK1 {P : Program} {f : FuncId} {args : Array Value} {w : World} {k : Kd} {x : k.T} {Q : World → Prop} {R : k.T → World → Prop}
    (h : Calls P f args w fun e w' => e = .returned (k.mk x) ∧ Q w') (hR : ∀ w', Q w' → R x w') : CallK P f args w [k] R :=
  h.mono fun _ w' he => ⟨x, he.1, by show R (k.un (k.mk x)) w'; rw [un_mk]; exact hR w' he.2⟩
theorem callK2 {P : Program} {f : FuncId} {args : Array Value} {w : World} {k q : Kd} {x : k.T} {y : q.T} {Q : World → Prop} {R : k.T → q.T → World → Prop}
    (h : Calls P f args w fun e w' => e = .returned (.tuple #[k.mk x, q.mk y]) ∧ Q w') (hR : ∀ w', Q w' → R x y w') : CallK P f args w [k, q] R :=
  h.mono fun _ w' he => ⟨x, y, he.1, by show R (k.un (k.mk x)) (q.un (q.mk y)) w'; rw [un_mk, un_mk]; exact hR w' he.2⟩
theorem callK3 {P : Program} {f : FuncId} {args : Array Value} {w : World} {k q r : Kd} {x : k.T} {y : q.T} {z : r.T} {Q : World → Prop} {R : k.T → q.T → r.T → World → Prop}
    (h : Calls P f args w fun e w' => e = .returned (.tuple #[k.mk x, q.mk y, r.mk z]) ∧ Q w') (hR : ∀ w', Q w' → R x y z w') : CallK P f args w [k, q, r] R :=
  h.mono fun _ w' he => ⟨x, y, z, he.1, by show R (k.un (k.mk x)) (q.un (q.mk y)) (r.un (r.mk z)) w'; rw [un_mk, un_mk, un_mk]; exact hR w' he.2⟩

/-! ### what is kept -/
structure Keep (S : Nat → Prop) (w w' : World) : Prop where
  os : w'.os = w.os
  tape : w'.tape = w.tape
  output : w'.output = w.output
  size : w.heap.size ≤ w'.heap.size
  block : ∀ k, k < w.heap.size → ¬ S k → w'.heap[k]? = w.heap[k]?
abbrev Grow (w w' : World) : Prop := Keep (fun _ => False) w w'
theorem Keep.refl (S : Nat → Prop) (w : World) : Keep S w w := ⟨rfl, rfl, rfl, Nat.le_refl _, fun _ _ _ => rfl⟩
theorem Keep.trans {S S' : Nat → Prop} {a b c : World} (h : Keep S a b) (k : Keep S' b c) (hs : ∀ i, i < a.heap.size → S' i → S i) : Keep S a c :=
  ⟨k.os.trans h.os, k.tape.trans h.tape, k.output.trans h.output, Nat.le_trans h.size k.size,
   fun i hi hn => (k.block i (Nat.lt_of_lt_of_le hi h.size) (fun q => hn (hs i hi q))).trans (h.block i hi hn)⟩
theorem Keep.mono {S S' : Nat → Prop} {a b : World} (h : Keep S a b) (hs : ∀ i, i < a.heap.size → S i → S' i) : Keep S' a b :=
  ⟨h.os, h.tape, h.output, h.size, fun i hi hn => h.block i hi (fun q => hn (hs i hi q))⟩
theorem Grow.trans {a b c : World} (h : Grow a b) (k : Grow b c) : Grow a c := Keep.trans h k (fun _ _ q => q)
theorem Keep.grow {S : Nat → Prop} {a b c : World} (h : Keep S a b) (k : Grow b c) : Keep S a c := Keep.trans h k (fun _ _ q => q.elim)
theorem Grow.keep {S : Nat → Prop} {a b c : World} (h : Grow a b) (k : Keep S b c) (hs : ∀ i, i < a.heap.size → ¬ S i) : Grow a c := Keep.trans h k (fun i hi q => hs i hi q)
theorem keep_of_below {w w' : World} (h : Below w.heap.size w w') : Grow w w' := ⟨h.os, h.tape, h.output, h.size, fun k hk _ => h.block k hk⟩
theorem Keep.below {w w' : World} (h : Grow w w') : Below w.heap.size w w' := ⟨h.os, h.tape, h.output, h.size, fun k hk => h.block k hk (fun q => q)⟩
theorem keep_grownBy {w w' : World} {row : Option Nat} (h : w.grownBy w' row) : Keep (fun k => some k = row) w w' := ⟨h.os, h.tape, h.output, h.size, fun k hk hn => h.block k hk hn⟩
theorem Keep.grownBy {w w' : World} {row : Option Nat} (h : Keep (fun k => some k = row) w w') : w.grownBy w' row := ⟨h.os, h.tape, h.output, h.size, fun k hk hn => h.block k hk hn⟩
theorem keep_drew (w : World) : Grow w w.drew := ⟨rfl, rfl, rfl, Nat.le_refl _, fun _ _ _ => rfl⟩
theorem keep_drew' {w w1 : World} (h : w1 = w.drew) : Grow w w1 := h ▸ keep_drew w
theorem heap_alloc_lt (w : World) (o : Obj) (k : Nat) (h : k < w.heap.size) : (w.alloc o).heap[k]? = w.heap[k]? := by
  show (w.heap.push o)[k]? = _
  rw [Array.getElem?_push, if_neg (by omega)]
theorem keep_alloc (w : World) (o : Obj) : Grow w (w.alloc o) := ⟨rfl, rfl, rfl, by simp, fun k hk _ => heap_alloc_lt w o k hk⟩
theorem heap_setCell_ne (w : World) (a : Addr) (u : Value) (k : Nat) (h : k ≠ a.block) : (w.setCell a u).heap[k]? = w.heap[k]? := by
  simp only [World.setCell, Array.getElem?_modify]
  rw [if_neg (by omega)]
theorem keep_setCell (w : World) (a : Addr) (u : Value) : Keep (fun k => k = a.block) w (w.setCell a u) :=
  ⟨rfl, rfl, rfl, by simp [World.setCell], fun k _ hn => heap_setCell_ne w a u k hn⟩
theorem cell_lt {w : World} {a : Addr} {v : Value} (h : w.cell? a = some v) : a.block < w.heap.size := World.block_lt_of_cell? w a h
theorem Keep.cell {S : Nat → Prop} {w w' : World} (h : Keep S w w') {a : Addr} {v : Value} (hc : w.cell? a = some v) (hn : ¬ S a.block) : w'.cell? a = some v := by
  have hb := h.block a.block (cell_lt hc) hn
  simp only [World.cell?, hb]
  exact hc
theorem Keep.heap {S : Nat → Prop} {w w' : World} (h : Keep S w w') {b : Nat} {o : Obj} (hb : w.heap[b]? = some o) (hn : ¬ S b) : w'.heap[b]? = some o := by
  rw [h.block b (Array.getElem?_eq_some_iff.1 hb).1 hn]; exact hb
theorem lt_of_heap {w : World} {b : Nat} {o : Obj} (hb : w.heap[b]? = some o) : b < w.heap.size := (Array.getElem?_eq_some_iff.1 hb).1

/-! ### a block known whole -/
abbrev Blk (w : World) (b : Nat) (cs : Array Value) (t : TypeId) : Prop := w.heap[b]? = some (.cells cs t (0, 0))
theorem add0 (b o k : Nat) : (⟨b, o, none⟩ : Addr).add k = ⟨b, o + k, none⟩ := by
  unfold Addr.add; split <;> simp_all
theorem addr_add (a : Addr) (i j : Nat) : (a.add i).add j = a.add (i + j) := by
  unfold Addr.add
  by_cases h1 : i = 0 <;> by_cases h2 : j = 0 <;> simp [h1, h2, Nat.add_assoc]
theorem addr_zero (a : Addr) : a.add 0 = a := by simp [Addr.add]
theorem add_block (a : Addr) (k : Nat) : (a.add k).block = a.block := by unfold Addr.add; split <;> rfl
theorem Blk.cell {w : World} {b : Nat} {cs : Array Value} {t : TypeId} (h : Blk w b cs t) (o : Nat) : w.cell? ⟨b, o, none⟩ = cs[o]? := by
  simp [World.cell?, h]
theorem Blk.free {w : World} {b : Nat} {cs : Array Value} {t : TypeId} (h : Blk w b cs t) (o : Nat) : w.frozen? ⟨b, o, none⟩ = false := by
  simp [World.frozen?, h]
theorem blk_new (w : World) (cs : Array Value) (t : TypeId) : Blk (w.alloc (.cells cs t)) w.heap.size cs t := by
  show (w.heap.push _)[w.heap.size]? = _
  simp
theorem Blk.set {w : World} {b : Nat} {cs : Array Value} {t : TypeId} (h : Blk w b cs t) (o : Nat) (v : Value) : Blk (w.setCell ⟨b, o, none⟩ v) b (cs.setIfInBounds o v) t := by
  have hlt := lt_of_heap h
  simp only [Blk, World.setCell, Array.getElem?_modify, if_true, h, Option.map_some]
  rfl
/-- a new block -/
theorem new_rule {o : Obj} {w : World} {K : Addr → World → Prop} (h : ∀ b w1, b = w.heap.size → w1.heap[b]? = some o → Grow w w1 → w1.heap.size = w.heap.size + 1 → K ⟨b, 0, none⟩ w1) : New o w K := by
  intro b w1 hb hw
  subst hb; subst hw
  refine h _ _ rfl ?_ (keep_alloc w o) (by simp)
  show (w.heap.push o)[w.heap.size]? = _
  simp
/-- a store into a block that is known -/
theorem put_rule {b o : Nat} {v : Value} {w : World} {cs : Array Value} {t : TypeId} {K : World → Prop} (hb : Blk w b cs t) (ho : o < cs.size) (hv : v.oneCell' = true)
    (h : ∀ w1, Blk w1 b (cs.setIfInBounds o v) t → Keep (fun k => k = b) w w1 → w1.heap.size = w.heap.size → K w1) : Put ⟨b, o, none⟩ v w K := by
  refine ⟨⟨cs[o], by rw [hb.cell]; simp [ho]⟩, hb.free o, hv, fun w1 hw => ?_⟩
  subst hw
  exact h _ (hb.set o v) (keep_setCell w ⟨b, o, none⟩ v) (by simp)

/-! ### lists of elements as cells -/
theorem flat_length {α : Type} {f : α → List Value} {z : Nat} (hf : ∀ a, (f a).length = z) : ∀ (l : List α), (l.flatMap f).length = l.length * z
  | [] => by simp
  | a :: r => by rw [List.flatMap_cons, List.length_append, hf, flat_length hf r, List.length_cons, Nat.succ_mul, Nat.add_comm]
theorem flat_elem {α : Type} {f : α → List Value} {z : Nat} (hf : ∀ a, (f a).length = z) : ∀ {l : List α} {i : Nat} (h : i < l.length), ((l.flatMap f).drop (i * z)).take z = f l[i]
  | a :: r, 0, _ => by
    rw [List.flatMap_cons, Nat.zero_mul, List.drop_zero, List.take_append_of_le_length (by rw [hf]; exact Nat.le_refl _), List.take_of_length_le (by rw [hf]; exact Nat.le_refl _)]; rfl
  | a :: r, i + 1, h => by
    have e : (i + 1) * z = (f a).length + i * z := by rw [hf, Nat.succ_mul, Nat.add_comm]
    rw [List.flatMap_cons, e, List.drop_append, List.drop_of_length_le (by omega), List.nil_append, Nat.add_sub_cancel_left]
    exact flat_elem hf (l := r) (i := i) (by simpa using h)

/-! ### a slice that is read: z cells an element -/
def Cells (w : World) (a : Addr) (vs : List Value) : Prop := ∀ j v, vs[j]? = some v → w.cell? (a.add j) = some v
structure Rd (w : World) (z : Nat) (s : Sl) (vs : List Value) : Prop where
  len : vs.length = s.n * z
  cap : s.n ≤ s.c
  nb : s.n ≤ 140737489403904
  at_ : vs ≠ [] → ∃ a, s.A = some a ∧ Cells w a vs
theorem rd_nil (w : World) (z : Nat) : Rd w z ⟨none, 0, 0⟩ [] := ⟨by simp, Nat.le_refl _, by decide, fun h => absurd rfl h⟩
theorem Cells.keep {S : Nat → Prop} {w w' : World} {a : Addr} {vs : List Value} (h : Cells w a vs) (k : Keep S w w') (hn : ¬ S a.block) : Cells w' a vs :=
  fun j v hj => k.cell (h j v hj) (by rw [add_block]; exact hn)
theorem Rd.keep {S : Nat → Prop} {w w' : World} {z : Nat} {s : Sl} {vs : List Value} (h : Rd w z s vs) (k : Keep S w w') (hn : ∀ a, s.A = some a → a.block < w.heap.size → ¬ S a.block) : Rd w' z s vs := by
  refine ⟨h.len, h.cap, h.nb, fun hne => ?_⟩
  obtain ⟨a, ha, hc⟩ := h.at_ hne
  refine ⟨a, ha, hc.keep k (hn a ha ?_)⟩
  cases vs with
  | nil => exact absurd rfl hne
  | cons v r => have := cell_lt (hc 0 v rfl); rwa [add_block] at this
theorem Rd.grow {w w' : World} {z : Nat} {s : Sl} {vs : List Value} (h : Rd w z s vs) (k : Grow w w') : Rd w' z s vs := h.keep k (fun _ _ _ q => q)
/-- the cells of an element -/
theorem Rd.elem {w : World} {z : Nat} {s : Sl} {vs : List Value} (h : Rd w z s vs) {i : Nat} (hi : i < s.n) (hz : 0 < z) :
    ∃ a, s.A = some a ∧ Cells w (a.add (i * z)) ((vs.drop (i * z)).take z) := by
  have hle : i * z + z ≤ vs.length := by rw [h.len, ← Nat.succ_mul]; exact Nat.mul_le_mul_right _ hi
  have hne : vs ≠ [] := fun e => by rw [e] at hle; simp at hle; omega
  obtain ⟨a, ha, hc⟩ := h.at_ hne
  refine ⟨a, ha, fun j v hj => ?_⟩
  rw [addr_add]
  refine hc (i * z + j) v ?_
  rw [List.getElem?_take] at hj
  split at hj
  · rwa [List.getElem?_drop] at hj
  · cases hj
theorem Rd.byte {w : World} {s : Sl} {l : L8} (h : Rd w 1 s (bv l)) {i : Nat} (hi : i < s.n) : ∃ a, s.A = some a ∧ w.cell? (a.add (i * 1)) = some (.int .u8 ((l[i]'(by have := h.len; rw [bv_length] at this; omega)).toNat : Int)) := by
  have hl : i < l.length := by have := h.len; rw [bv_length] at this; omega
  have hne : bv l ≠ [] := fun e => by have := congrArg List.length e; rw [bv_length] at this; simp at this; rw [this] at hl; simp at hl
  obtain ⟨a, ha, hc⟩ := h.at_ hne
  refine ⟨a, ha, ?_⟩
  rw [Nat.mul_one]
  exact hc i _ (bv_get l i hl)
/-- a cut of a slice that is read -/
theorem Rd.cut {w : World} {z : Nat} {s : Sl} {vs : List Value} (h : Rd w z s vs) {l k : Nat} (hl : l ≤ k) (hk : k ≤ s.n) :
    Rd w z ⟨cutA s.A s.c l z, k - l, s.c - l⟩ ((vs.drop (l * z)).take ((k - l) * z)) := by
  have hlen := h.len
  have h1 : k * z ≤ vs.length := by rw [hlen]; exact Nat.mul_le_mul_right _ hk
  have h2 : l * z + (k - l) * z = k * z := by rw [← Nat.add_mul]; congr 1; omega
  refine ⟨?_, by have := h.cap; show k - l ≤ s.c - l; omega, by have := h.nb; show k - l ≤ _; omega, fun hne => ?_⟩
  · rw [List.length_take, List.length_drop]
    show min ((k - l) * z) _ = (k - l) * z
    omega
  · have hne' : vs ≠ [] := fun e => hne (by simp [e])
    obtain ⟨a, ha, hc⟩ := h.at_ hne'
    have hpos : 0 < (k - l) * z := by
      rcases Nat.eq_zero_or_pos ((k - l) * z) with e | e
      · exfalso; apply hne; rw [e]; simp
      · exact e
    have hkl : 0 < k - l := Nat.pos_of_mul_pos_right hpos
    have hcl : s.c ≠ l := by have := h.cap; omega
    refine ⟨a.add (l * z), ?_, fun j v hj => ?_⟩
    · show cutA s.A s.c l z = _
      unfold cutA
      rw [if_neg hcl, ha]; rfl
    · rw [addr_add]
      refine hc (l * z + j) v ?_
      rw [List.getElem?_take] at hj
      split at hj
      · rwa [List.getElem?_drop] at hj
      · cases hj
theorem Rd.cutB {w : World} {s : Sl} {b : L8} (h : Rd w 1 s (bv b)) {l k : Nat} (hl : l ≤ k) (hk : k ≤ s.n) :
    Rd w 1 ⟨cutA s.A s.c l 1, k - l, s.c - l⟩ (bv ((b.drop l).take (k - l))) := by
  have := h.cut hl hk
  rwa [Nat.mul_one, Nat.mul_one, bv_drop, bv_take] at this

/-! ### rows of one's own -/
def Own (w : World) (base : Nat) (e : TypeId) (z : Nat) (s : Sl) (vs : List Value) : Prop :=
  w.ownsRow base e z (.slice s.A s.n s.c) s.n vs
theorem own_nil (w : World) (base : Nat) (e : TypeId) (z : Nat) : Own w base e z ⟨none, 0, 0⟩ [] := World.ownsRow_nil w base e z
def Sl.blk (s : Sl) : Option Nat := s.A.map (·.block)
theorem Own.keep {S : Nat → Prop} {w w' : World} {base : Nat} {e : TypeId} {z : Nat} {s : Sl} {vs : List Value} (h : Own w base e z s vs) (k : Keep S w w') (hn : ∀ b, s.blk = some b → ¬ S b) : Own w' base e z s vs := by
  obtain ⟨h1, h2⟩ := h
  refine ⟨h1, ?_⟩
  rcases h2 with h2 | ⟨g, cap, cur, hv, hb, hg, r⟩
  · exact .inl h2
  · refine .inr ⟨g, cap, cur, hv, hb, ?_, r⟩
    injection hv with hA
    exact k.heap hg (hn g (by simp [Sl.blk, hA]))
theorem Own.grow {w w' : World} {base : Nat} {e : TypeId} {z : Nat} {s : Sl} {vs : List Value} (h : Own w base e z s vs) (k : Grow w w') : Own w' base e z s vs := h.keep k (fun _ _ q => q)
theorem Own.mono {w : World} {base base' : Nat} {e : TypeId} {z : Nat} {s : Sl} {vs : List Value} (h : Own w base e z s vs) (hb : base' ≤ base) : Own w base' e z s vs := by
  obtain ⟨h1, h2⟩ := h
  refine ⟨h1, ?_⟩
  rcases h2 with h2 | ⟨g, cap, cur, hv, hg, r⟩
  · exact .inl h2
  · exact .inr ⟨g, cap, cur, hv, Nat.le_trans hb hg, r⟩
theorem Own.len {w : World} {base : Nat} {e : TypeId} {z : Nat} {s : Sl} {vs : List Value} (h : Own w base e z s vs) : vs.length = s.n * z := h.1
theorem Own.ge {w : World} {base : Nat} {e : TypeId} {z : Nat} {s : Sl} {vs : List Value} (h : Own w base e z s vs) : ∀ b, s.blk = some b → base ≤ b ∧ b < w.heap.size := by
  intro b hb
  rcases h.2 with ⟨h2, _⟩ | ⟨g, cap, cur, hv, hg, hh, r⟩
  · injection h2 with hA; simp [Sl.blk, hA] at hb
  · injection hv with hA
    simp [Sl.blk, hA] at hb
    subst hb
    exact ⟨hg, lt_of_heap hh⟩
theorem Own.rd {w : World} {base : Nat} {e : TypeId} {z : Nat} {s : Sl} {vs : List Value} (h : Own w base e z s vs) (hn : s.n ≤ 140737489403904) : Rd w z s vs := by
  refine ⟨h.1, ?_, hn, fun hne => ?_⟩
  · rcases h.2 with ⟨h2, h3⟩ | ⟨g, cap, cur, hv, hg, hh, h4, _⟩
    · injection h2 with _ e1 e2; omega
    · injection hv with _ _ e2; omega
  · rcases h.2 with ⟨h2, h3⟩ | ⟨g, cap, cur, hv, hg, hh, h4, _⟩
    · exfalso; apply hne; have := h.1; rw [h3] at this; simpa using this
    · injection hv with hA
      exact ⟨_, hA, fun j u hj => World.ownsRow.cells h (g := g) (by show (Value.slice s.A s.n s.c).ownBlock = _; rw [hA]; rfl) j u hj⟩
/-- append(s, x...): s a row of one's own, x a slice that is read -/
theorem append_rule {P : Program} {w : World} {base : Nat} {t ty e : TypeId} {zv : Value} {z bytes : Nat} (ht : P.underlying t = some (.slice e)) (hinfo : (P.info? e).map (fun i => (i.zero, i.size, i.bytes)) = some (some zv, z, bytes))
    (hzc : zv.cells.size = z) (hz0 : 0 < z) (hb0 : 0 < bytes)
    {s x : Sl} {vs xs : List Value} (hs : Own w base e z s vs) (hx : Rd w z x xs) (h1 : ∀ u ∈ xs, u.oneCell' = true)
    (hbd : (s.n + x.n) * bytes ≤ 140737488355328) (hbase : base ≤ w.heap.size) {K : Sl → World → Prop}
    (h : ∀ s' w', s'.n = s.n + x.n → Own w' base e z s' (vs ++ xs) → Keep (fun k => some k = s.blk) w w' → (s'.blk = s.blk ∨ s'.blk = some w.heap.size) → K s' w') :
    RunK P .sl (Builtin.append_ #[t, t] ty #[.slice s.A s.n s.c, .slice x.A x.n x.c]) w K := by
  obtain ⟨i, hi, hzz⟩ := Option.map_eq_some_iff.1 hinfo
  simp only [Prod.mk.injEq] at hzz
  obtain ⟨hz, hsz, hby⟩ := hzz
  have hm : s.n + x.n ≤ 140737488355328 := Nat.le_trans (Nat.le_mul_of_pos_right _ hb0) hbd
  have blk : (Value.slice s.A s.n s.c).ownBlock = s.blk := by unfold Sl.blk; cases s.A <;> rfl
  cases hA : x.A with
  | none =>
    have hxs : xs = [] := by
      by_cases e : xs = []
      · exact e
      · obtain ⟨a, ha, _⟩ := hx.at_ e; rw [hA] at ha; cases ha
    subst hxs
    have hn0 : x.n = 0 := by
      have := hx.len
      rw [List.length_nil] at this
      rcases Nat.mul_eq_zero.1 this.symm with h | h <;> omega
    refine ⟨s, w, ?_, h s w (by omega) (by simpa using hs) (Keep.refl _ _) (.inl rfl)⟩
    have hc := (hs.rd (by omega)).cap
    rw [hn0]
    show _ = Result.ok (Value.slice s.A s.n s.c) w
    obtain ⟨A, n, c⟩ := s
    simp only at hc ⊢
    cases A <;> simp [Builtin.append_, run_underlying ht, sizeOf, typeInfo, hi, Builtin.lenOf, Builtin.firstCells, hc, storeCells]
  | some a =>
    have hcells : ∀ j u, xs[j]? = some u → w.cell? (a.add j) = some u := by
      intro j u hj
      have hne : xs ≠ [] := fun e => by simp [e] at hj
      obtain ⟨a', ha', hc⟩ := hx.at_ hne
      rw [hA] at ha'
      obtain rfl := Option.some.inj ha'
      exact hc j u hj
    obtain ⟨v', w', hr, hown, hg, _, hat⟩ := run_append_own_at (P := P) w base t ty e i zv z bytes ht hi hz hsz hby hzc hz0 _ s.n vs hs a x.n x.c xs hx.len hcells h1 (by unfold maxLen; omega) hbd hbase
    have hv' : ∃ s' : Sl, v' = .slice s'.A s'.n s'.c ∧ s'.n = s.n + x.n := by
      rcases hown.2 with ⟨rfl, hn⟩ | ⟨g, cap, cur, rfl, _⟩
      · exact ⟨⟨none, 0, 0⟩, rfl, hn.symm⟩
      · exact ⟨⟨some ⟨g, 0, none⟩, _, cap⟩, rfl, rfl⟩
    obtain ⟨s', rfl, hn'⟩ := hv'
    refine ⟨s', w', hr, h s' w' hn' (by have q := hown; rw [← hn'] at q; exact q) (blk ▸ keep_grownBy hg) ?_⟩
    have blk' : (Value.slice s'.A s'.n s'.c).ownBlock = s'.blk := by unfold Sl.blk; cases s'.A <;> rfl
    rw [blk, blk'] at hat
    exact hat
/-- the slice of a literal: a row of one's own -/
theorem lit_rule {P : Program} {w : World} {t e : TypeId} {n : Nat} {parts : Array (Nat × Value)} {cells : Array Value} {z : Nat} {base : Nat}
    (hr : (Instr.buildSlice t n parts).run P w = .ok (.slice (some ⟨w.heap.size, 0, none⟩) n n) (w.alloc (.cells cells e))) (hs : cells.size = n * z) (hn : n ≤ 140737488355328) (hbase : base ≤ w.heap.size)
    {K : Sl → World → Prop} (h : ∀ w1, Own w1 base e z ⟨some ⟨w.heap.size, 0, none⟩, n, n⟩ cells.toList → Grow w w1 → w1.heap.size = w.heap.size + 1 → K ⟨some ⟨w.heap.size, 0, none⟩, n, n⟩ w1) :
    RunK P .sl (Instr.buildSlice t n parts) w K :=
  ⟨⟨some ⟨w.heap.size, 0, none⟩, n, n⟩, _, hr, h _ (World.ownsRow_lit w cells n hbase (by unfold maxLen; omega) hs) (keep_alloc w _) (by simp)⟩

/-! ### structs by value -/
theorem loadVar_rule {P : Program} {w : World} {t : TypeId} {zv : Option Value} {z bytes : Nat} {a : Addr} {cs : List Value} (hg : (P.underlying t).map kdOf = some .ag)
    (hinfo : (P.info? t).map (fun i => (i.zero, i.size, i.bytes)) = some (zv, z, bytes)) (hn : z = cs.length) (hc : Cells w a cs) :
    (loadVar t a).run P w = .ok (.agg cs.toArray) w := by
  obtain ⟨i, hi, hzz⟩ := Option.map_eq_some_iff.1 hinfo
  simp only [Prod.mk.injEq] at hzz
  have hn : i.size = cs.length := by rw [hzz.2.1, hn]
  obtain ⟨d, hd, hk⟩ := Option.map_eq_some_iff.1 hg
  unfold loadVar
  rw [Sem.run_bind, isAgg_run hd, hk]
  simp only [Result.andThen_ok, if_true, Sem.run_bind]
  have hs : (sizeOf t).run P w = .ok cs.length w := by simp [sizeOf, typeInfo, hi, hn]
  rw [hs]
  simp only [Result.andThen_ok]
  rw [run_loadCells_list (P := P) (w := w) a cs hc]
  rfl
theorem storeVar_rule {P : Program} {w : World} {b : Nat} {t ty : TypeId} {zv : Option Value} {z bytes : Nat} {old cells : Array Value} (hb : Blk w b old t) (hinfo : (P.info? ty).map (fun i => (i.zero, i.size, i.bytes)) = some (zv, z, bytes)) (hz : z = cells.size) (ho : old.size = cells.size)
    (h1 : cells.all (·.oneCell') = true) {K : World → Prop} (h : ∀ w1, Blk w1 b cells t → Keep (fun k => k = b) w w1 → w1.heap.size = w.heap.size → K w1) : RunU P (storeVar ty ⟨b, 0, none⟩ (.agg cells)) w K := by
  have hi : (P.info? ty).map (·.size) = some cells.size := by
    obtain ⟨i, hi, hzz⟩ := Option.map_eq_some_iff.1 hinfo
    simp only [Prod.mk.injEq] at hzz
    rw [hi, Option.map_some, hzz.2.1, hz]
  refine ⟨_, run_storeVar_row w b t ty old cells hb hi ho h1, h _ (setRow_heap w b old cells t (0, 0) hb) ⟨rfl, rfl, rfl, by simp, fun k _ hn => setRow_other w b k _ hn⟩ (by simp)⟩
theorem convStr_rule {P : Program} {w : World} {src dst e : TypeId} {s : Sl} {l : L8} (hs : P.underlying src = some (.slice e)) (he : P.underlying e = some (.int .u8)) (hd : P.underlying dst = some .string)
    (h : Rd w 1 s (bv l)) : (convert src dst (.slice s.A s.n s.c)).run P w = .ok (.string (str l)) w := by
  rw [run_convert_bytes_string w src dst e s.A s.n s.c hs he hd]
  have hl : l.length = s.n := by have := h.len; rw [bv_length] at this; omega
  cases hA : s.A with
  | none =>
    have : bv l = [] := by
      by_cases e : bv l = []
      · exact e
      · obtain ⟨a, ha, _⟩ := h.at_ e; rw [hA] at ha; cases ha
    have : l = [] := by simpa [bv] using this
    subst this
    rfl
  | some a =>
    have hc : ∀ j v, (bv l)[j]? = some v → w.cell? (a.add j) = some v := by
      intro j v hj
      have hne : bv l ≠ [] := fun e => by simp [e] at hj
      obtain ⟨a', ha', hc⟩ := h.at_ hne
      rw [hA] at ha'
      obtain rfl := Option.some.inj ha'
      exact hc j v hj
    have hr := run_loadCells_list (P := P) (w := w) a (bv l) hc
    rw [bv_length, hl] at hr
    have e : bv l = (l.map fun b => (b.toNat : Int)).map (Value.int .u8) := by simp [bv]
    rw [e] at hr
    rw [run_bytesToString w a s.n s.c _ hr]
    congr 2
    have fold : ∀ (l : L8) (acc : ByteArray), (l.map fun b => (b.toNat : Int)).foldl (fun r n => r.push (UInt8.ofNat n.toNat)) acc = ⟨(acc.data.toList ++ l).toArray⟩ := by
      intro l
      induction l with
      | nil => intro acc; simp
      | cons b r ih =>
        intro acc
        rw [List.map_cons, List.foldl_cons, ih]
        simp [ByteArray.push]
    rw [fold]
    simp [str]
end Go.Proofs.Ytaneeadpjelomaa.CF
