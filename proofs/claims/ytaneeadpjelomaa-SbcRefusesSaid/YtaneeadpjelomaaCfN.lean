import Derived.Test.YtaneeadpjelomaaCf8
import Derived.Below
import Derived.Maps.AppendAt
import Derived.Laws.OwnMore
import Derived.Lib.SlBytesConst
import Derived.Lib.AppendStr
/- Memory: what is kept, slices that are read, rows of one's own; the rules for the words of the conditions. -/
namespace Go.Proofs.Ytaneeadpjelomaa.CF
open Go Go.RowKit

/-! ### numbers, bytes, strings -/
abbrev L8 := List UInt8
def bv (l : L8) : List Value := l.map fun b => .int .u8 (b.toNat : Int)
def str (l : L8) : ByteArray := ⟨l.toArray⟩
def ls (s : ByteArray) : L8 := s.data.toList
theorem ls_str (l : L8) : ls (str l) = l := rfl
theorem str_ls (s : ByteArray) : str (ls s) = s := rfl
theorem size_str (l : L8) : (str l).size = l.length := by show l.toArray.size = _; simp
theorem length_ls (s : ByteArray) : (ls s).length = s.size := by show s.data.toList.length = s.data.size; simp
theorem str_inj {a b : L8} (h : str a = str b) : a = b := by rw [← ls_str a, h, ls_str]
theorem ls_inj {a b : ByteArray} (h : ls a = ls b) : a = b := by rw [← str_ls a, h, str_ls]
theorem sEq_iff {s t : ByteArray} : sEq s t = true ↔ s = t := by
  unfold sEq
  rw [beq_iff_eq, ByteArray.toList_eq, ByteArray.toList_eq]
  exact ⟨fun h => ls_inj h, fun h => by rw [h]⟩
theorem sEq_str {a b : L8} : sEq (str a) (str b) = decide (a = b) := by
  rw [Bool.eq_iff_iff, sEq_iff, decide_eq_true_iff]
  exact ⟨str_inj, fun h => by rw [h]⟩
theorem sEq_dec {s t : ByteArray} : sEq s t = decide (s = t) := by
  rw [Bool.eq_iff_iff, sEq_iff, decide_eq_true_iff]
theorem str_nil : (⟨#[]⟩ : ByteArray) = str [] := rfl
theorem bv_length (l : L8) : (bv l).length = l.length := by simp [bv]
theorem bv_append (a b : L8) : bv (a ++ b) = bv a ++ bv b := by simp [bv]
theorem bv_take (l : L8) (k : Nat) : (bv l).take k = bv (l.take k) := by simp [bv, List.map_take]
theorem bv_drop (l : L8) (k : Nat) : (bv l).drop k = bv (l.drop k) := by simp [bv, List.map_drop]
theorem bv_get (l : L8) (j : Nat) (h : j < l.length) : (bv l)[j]? = some (.int .u8 (l[j].toNat : Int)) := by simp [bv, h]
theorem bt_get (s : ByteArray) (i : Nat) (h : i < (ls s).length) : bt s (i : Int) = ((ls s)[i].toNat : Int) := by
  have h' : i < s.size := by rw [← length_ls]; exact h
  unfold bt
  rw [Int.toNat_natCast]
  simp only [getElem?_pos, h']
  rfl
theorem w64 {n : Int} (h0 : -9223372036854775808 ≤ n) (h1 : n ≤ 9223372036854775807) : IntKind.wrap .i64 n = n := by
  have e : IntKind.wrap .i64 n = if n % 18446744073709551616 ≥ 9223372036854775808 then n % 18446744073709551616 - 18446744073709551616 else n % 18446744073709551616 := by
    simp [IntKind.wrap, IntKind.signed, IntKind.bits]
  rw [e]
  split <;> omega
theorem wu8 {n : Int} (h0 : 0 ≤ n) (h1 : n < 256) : IntKind.wrap .u8 n = n := by
  have e : IntKind.wrap .u8 n = n % 256 := by simp [IntKind.wrap, IntKind.signed, IntKind.bits]
  rw [e]; omega
theorem wu16 {n : Int} (h0 : 0 ≤ n) (h1 : n < 65536) : IntKind.wrap .u16 n = n := by
  have e : IntKind.wrap .u16 n = n % 65536 := by simp [IntKind.wrap, IntKind.signed, IntKind.bits]
  rw [e]; omega
theorem wu32 {n : Int} (h0 : 0 ≤ n) (h1 : n < 4294967296) : IntKind.wrap .u32 n = n := by
  have e : IntKind.wrap .u32 n = n % 4294967296 := by simp [IntKind.wrap, IntKind.signed, IntKind.bits]
  rw [e]; omega
theorem wu64 {n : Int} (h0 : 0 ≤ n) (h1 : n < 18446744073709551616) : IntKind.wrap .u64 n = n := by
  have e : IntKind.wrap .u64 n = n % 18446744073709551616 := by simp [IntKind.wrap, IntKind.signed, IntKind.bits]
  rw [e]; omega

/-! ### branches -/
theorem br_t {b : Bool} {A B : Prop} (hb : b = true) (h : A) : Br b A B := ⟨fun _ => h, fun q => by rw [hb] at q; cases q⟩
theorem br_f {b : Bool} {A B : Prop} (hb : b = false) (h : B) : Br b A B := ⟨fun q => (by rw [hb] at q; cases q), fun _ => h⟩
theorem br_dec {p : Prop} [Decidable p] {A B : Prop} (ht : p → A) (hf : ¬ p → B) : Br (decide p) A B :=
  ⟨fun h => ht (of_decide_eq_true h), fun h => hf (of_decide_eq_false h)⟩
theorem br_eq {x y : Int} {A B : Prop} (ht : x = y → A) (hf : x ≠ y → B) : Br (x == y) A B :=
  ⟨fun h => ht (eq_of_beq h), fun h => hf (fun e => by rw [e, beq_self_eq_true] at h; cases h)⟩
theorem br_ne {x y : Int} {A B : Prop} (ht : x ≠ y → A) (hf : x = y → B) : Br (x != y) A B :=
  ⟨fun h => ht (fun e => by simp [e] at h), fun h => hf (by simpa using h)⟩
theorem br_not {b : Bool} {A B : Prop} (h : Br b B A) : Br (!b) A B :=
  ⟨fun q => h.2 (by simpa using q), fun q => h.1 (by simpa using q)⟩
theorem br_nat {x y : Nat} {A B : Prop} (ht : x < y → A) (hf : ¬ x < y → B) : Br (decide ((x : Int) < (y : Int))) A B :=
  br_dec (fun h => ht (by omega)) (fun h => hf (by omega))

/-! ### contracts of the library's functions -/
theorem callK0 {P : Program} {f : FuncId} {args : Array Value} {w : World} {Q : World → Prop} {R : World → Prop}
    (h : Calls P f args w fun e w' => e = .returned (.tuple #[]) ∧ Q w') (hR : ∀ w', Q w' → R w') : CallK P f args w [] R :=
  h.mono fun _ w' he => ⟨he.1, hR w' he.2⟩
theorem callK1 {P : Program} {f : FuncId} {args : Array Value} {w : World} {k : Kd} {x : k.T} {Q : World → Prop} {R : k.T → World → Prop}
    (h : Calls P f args w fun e w' => e = .returned (k.mk x) ∧ Q w') (hR : ∀ w', Q w' → R x w') : CallK P f args w [k] R :=
  h.mono fun _ w' he => ⟨x, he.1, by show R (k.un (k.mk x)) w'; rw [un_mk]; exact hR w' he.2⟩
theorem callK2 {P : Program} {f : FuncId} {args : Array Value} {w : World} {k q : Kd} {x : k.T} {y : q.T} {Q : World → Prop} {R : k.T → q.T → World → Prop}
    (h : Calls P f args w fun e w' => e = .returned (.tuple #[k.mk x, q.mk y]) ∧ Q w') (hR : ∀ w', Q w' → R x y w') : CallK P f args w [k, q] R :=
  h.mono fun _ w' he => ⟨x, y, he.1, by show R (k.un (k.mk x)) (q.un (q.mk y)) w'; rw [un_mk, un_mk]; exact hR w' he.2⟩
theorem callK3 {P : Program} {f : FuncId} {args : Array Value} {w : World} {k q r : Kd} {x : k.T} {y : q.T} {z : r.T} {Q : World → Prop} {R : k.T → q.T → r.T → World → Prop}
    (h : Calls P f args w fun e w' => e = .returned (.tuple #[k.mk x, q.mk y, r.mk z]) ∧ Q w') (hR : ∀ w', Q w' → R x y z w') : CallK P f args w [k, q, r] R :=
  h.mono fun _ w' he => ⟨x, y, z, he.1, by show R (k.un (k.mk x)) (q.un (q.mk y)) (r.un (r.mk z)) w'; rw [un_mk, un_mk, un_mk]; exact hR w' he.2⟩

/-! ### what is kept -/
structure Keep (S : Nat → Prop) (w w' : World) : Prop where
  os : w'.os = w.os
  tape : w'.tape = w.tape
  output : w'.output = w.output
  size : w.heap.size ≤ w'.heap.size
  block : ∀ k, k < w.heap.size → ¬ S k → w'.heap[k]? = w.heap[k]?
abbrev Grow (w w' : World) : Prop := Keep (fun _ => False) w w'
theorem Keep.refl (S : Nat → Prop) (w : World) : Keep S w w := ⟨rfl, rfl, rfl, Nat.le_refl _, fun _ _ _ => rfl⟩
theorem Keep.trans {S S' : Nat → Prop} {a b c : World} (h : Keep S a b) (k : Keep S' b c) (hs : ∀ i, i < a.heap.size → S' i → S i) : Keep S a c :=
  ⟨k.os.trans h.os, k.tape.trans h.tape, k.output.trans h.output, Nat.le_trans h.size k.size,
   fun i hi hn => (k.block i (Nat.lt_of_lt_of_le hi h.size) (fun q => hn (hs i hi q))).trans (h.block i hi hn)⟩
theorem Keep.mono {S S' : Nat → Prop} {a b : World} (h : Keep S a b) (hs : ∀ i, i < a.heap.size → S i → S' i) : Keep S' a b :=
  ⟨h.os, h.tape, h.output, h.size, fun i hi hn => h.block i hi (fun q => hn (hs i hi q))⟩
theorem Grow.trans {a b c : World} (h : Grow a b) (k : Grow b c) : Grow a c := Keep.trans h k (fun _ _ q => q)
theorem Keep.grow {S : Nat → Prop} {a b c : World} (h : Keep S a b) (k : Grow b c) : Keep S a c := Keep.trans h k (fun _ _ q => q.elim)
theorem Grow.keep {S : Nat → Prop} {a b c : World} (h : Grow a b) (k : Keep S b c) (hs : ∀ i, i < a.heap.size → ¬ S i) : Grow a c := Keep.trans h k (fun i hi q => hs i hi q)
theorem keep_of_below {w w' : World} (h : Below w.heap.size w w') : Grow w w' := ⟨h.os, h.tape, h.output, h.size, fun k hk _ => h.block k hk⟩
theorem Keep.below {w w' : World} (h : Grow w w') : Below w.heap.size w w' := ⟨h.os, h.tape, h.output, h.size, fun k hk => h.block k hk (fun q => q)⟩
theorem keep_grownBy {w w' : World} {row : Option Nat} (h : w.grownBy w' row) : Keep (fun k => some k = row) w w' := ⟨h.os, h.tape, h.output, h.size, fun k hk hn => h.block k hk hn⟩
theorem Keep.grownBy {w w' : World} {row : Option Nat} (h : Keep (fun k => some k = row) w w') : w.grownBy w' row := ⟨h.os, h.tape, h.output, h.size, fun k hk hn => h.block k hk hn⟩
theorem keep_drew (w : World) : Grow w w.drew := ⟨rfl, rfl, rfl, Nat.le_refl _, fun _ _ _ => rfl⟩
theorem keep_drew' {w w1 : World} (h : w1 = w.drew) : Grow w w1 := h ▸ keep_drew w
theorem heap_alloc_lt (w : World) (o : Obj) (k : Nat) (h : k < w.heap.size) : (w.alloc o).heap[k]? = w.heap[k]? := by
  show (w.heap.push o)[k]? = _
  rw [Array.getElem?_push, if_neg (by omega)]
theorem keep_alloc (w : World) (o : Obj) : Grow w (w.alloc o) := ⟨rfl, rfl, rfl, by simp, fun k hk _ => heap_alloc_lt w o k hk⟩
theorem heap_setCell_ne (w : World) (a : Addr) (u : Value) (k : Nat) (h : k ≠ a.block) : (w.setCell a u).heap[k]? = w.heap[k]? := by
  simp only [World.setCell, Array.getElem?_modify]
  rw [if_neg (by omega)]
theorem keep_setCell (w : World) (a : Addr) (u : Value) : Keep (fun k => k = a.block) w (w.setCell a u) :=
  ⟨rfl, rfl, rfl, by simp [World.setCell], fun k _ hn => heap_setCell_ne w a u k hn⟩
theorem cell_lt {w : World} {a : Addr} {v : Value} (h : w.cell? a = some v) : a.block < w.heap.size := World.block_lt_of_cell? w a h
theorem Keep.cell {S : Nat → Prop} {w w' : World} (h : Keep S w w') {a : Addr} {v : Value} (hc : w.cell? a = some v) (hn : ¬ S a.block) : w'.cell? a = some v := by
  have hb := h.block a.block (cell_lt hc) hn
  simp only [World.cell?, hb]
  exact hc
theorem Keep.heap {S : Nat → Prop} {w w' : World} (h : Keep S w w') {b : Nat} {o : Obj} (hb : w.heap[b]? = some o) (hn : ¬ S b) : w'.heap[b]? = some o := by
  rw [h.block b (Array.getElem?_eq_some_iff.1 hb).1 hn]; exact hb
theorem lt_of_heap {w : World} {b : Nat} {o : Obj} (hb : w.heap[b]? = some o) : b < w.heap.size := (Array.getElem?_eq_some_iff.1 hb).1

/-! ### a block known whole -/
abbrev Blk (w : World) (b : Nat) (cs : Array Value) (t : TypeId) : Prop := w.heap[b]? = some (.cells cs t (0, 0))
theorem add0 (b o k : Nat) : (⟨b, o, none⟩ : Addr).add k = ⟨b, o + k, none⟩ := by
  unfold Addr.add; split <;> simp_all
theorem addr_add (a : Addr) (i j : Nat) : (a.add i).add j = a.add (i + j) := by
  unfold Addr.add
  by_cases h1 : i = 0 <;> by_cases h2 : j = 0 <;> simp [h1, h2, Nat.add_assoc]
theorem addr_zero (a : Addr) : a.add 0 = a := by simp [Addr.add]
theorem add_block (a : Addr) (k : Nat) : (a.add k).block = a.block := by unfold Addr.add; split <;> rfl
theorem Blk.cell {w : World} {b : Nat} {cs : Array Value} {t : TypeId} (h : Blk w b cs t) (o : Nat) : w.cell? ⟨b, o, none⟩ = cs[o]? := by
  simp [World.cell?, h]
theorem Blk.free {w : World} {b : Nat} {cs : Array Value} {t : TypeId} (h : Blk w b cs t) (o : Nat) : w.frozen? ⟨b, o, none⟩ = false := by
  simp [World.frozen?, h]
theorem blk_new (w : World) (cs : Array Value) (t : TypeId) : Blk (w.alloc (.cells cs t)) w.heap.size cs t := by
  show (w.heap.push _)[w.heap.size]? = _
  simp
theorem Blk.set {w : World} {b : Nat} {cs : Array Value} {t : TypeId} (h : Blk w b cs t) (o : Nat) (v : Value) : Blk (w.setCell ⟨b, o, none⟩ v) b (cs.setIfInBounds o v) t := by
  have hlt := lt_of_heap h
  simp only [Blk, World.setCell, Array.getElem?_modify, if_true, h, Option.map_some]
  rfl
/-- a new block -/
theorem new_rule {o : Obj} {w : World} {K : Addr → World → Prop} (h : ∀ b w1, b = w.heap.size → w1.heap[b]? = some o → Grow w w1 → w1.heap.size = w.heap.size + 1 → K ⟨b, 0, none⟩ w1) : New o w K := by
  intro b w1 hb hw
  subst hb; subst hw
  refine h _ _ rfl ?_ (keep_alloc w o) (by simp)
  show (w.heap.push o)[w.heap.size]? = _
  simp
/-- a store into a block that is known -/
theorem put_rule {b o : Nat} {v : Value} {w : World} {cs : Array Value} {t : TypeId} {K : World → Prop} (hb : Blk w b cs t) (ho : o < cs.size) (hv : v.oneCell' = true)
    (h : ∀ w1, Blk w1 b (cs.setIfInBounds o v) t → Keep (fun k => k = b) w w1 → w1.heap.size = w.heap.size → K w1) : Put ⟨b, o, none⟩ v w K := by
  refine ⟨⟨cs[o], by rw [hb.cell]; simp [ho]⟩, hb.free o, hv, fun w1 hw => ?_⟩
  subst hw
  exact h _ (hb.set o v) (keep_setCell w ⟨b, o, none⟩ v) (by simp)

/-! ### lists of elements as cells -/
theorem flat_length {α : Type} {f : α → List Value} {z : Nat} (hf : ∀ a, (f a).length = z) : ∀ (l : List α), (l.flatMap f).length = l.length * z
  | [] => by simp
  | a :: r => by rw [List.flatMap_cons, List.length_append, hf, flat_length hf r, List.length_cons, Nat.succ_mul, Nat.add_comm]
theorem flat_elem {α : Type} {f : α → List Value} {z : Nat} (hf : ∀ a, (f a).length = z) : ∀ {l : List α} {i : Nat} (h : i < l.length), ((l.flatMap f).drop (i * z)).take z = f l[i]
  | a :: r, 0, _ => by
    rw [List.flatMap_cons, Nat.zero_mul, List.drop_zero, List.take_append_of_le_length (by rw [hf]; exact Nat.le_refl _), List.take_of_length_le (by rw [hf]; exact Nat.le_refl _)]; rfl
  | a :: r, i + 1, h => by
    have e : (i + 1) * z = (f a).length + i * z := by rw [hf, Nat.succ_mul, Nat.add_comm]
    rw [List.flatMap_cons, e, List.drop_append, List.drop_of_length_le (by omega), List.nil_append, Nat.add_sub_cancel_left]
    exact flat_elem hf (l := r) (i := i) (by simpa using h)

/-! ### a slice that is read: z cells an element -/
def Cells (w : World) (a : Addr) (vs : List Value) : Prop := ∀ j v, vs[j]? = some v → w.cell? (a.add j) = some v
structure Rd (w : World) (z : Nat) (s : Sl) (vs : List Value) : Prop where
  len : vs.length = s.n * z
  cap : s.n ≤ s.c
  nb : s.n ≤ 140737489403904
  at_ : vs ≠ [] → ∃ a, s.A = some a ∧ Cells w a vs
theorem rd_nil (w : World) (z : Nat) : Rd w z ⟨none, 0, 0⟩ [] := ⟨by simp, Nat.le_refl _, by decide, fun h => absurd rfl h⟩
theorem Cells.keep {S : Nat → Prop} {w w' : World} {a : Addr} {vs : List Value} (h : Cells w a vs) (k : Keep S w w') (hn : ¬ S a.block) : Cells w' a vs :=
  fun j v hj => k.cell (h j v hj) (by rw [add_block]; exact hn)
theorem Rd.keep {S : Nat → Prop} {w w' : World} {z : Nat} {s : Sl} {vs : List Value} (h : Rd w z s vs) (k : Keep S w w') (hn : ∀ a, s.A = some a → a.block < w.heap.size → ¬ S a.block) : Rd w' z s vs := by
  refine ⟨h.len, h.cap, h.nb, fun hne => ?_⟩
  obtain ⟨a, ha, hc⟩ := h.at_ hne
  refine ⟨a, ha, hc.keep k (hn a ha ?_)⟩
  cases vs with
  | nil => exact absurd rfl hne
  | cons v r => have := cell_lt (hc 0 v rfl); rwa [add_block] at this
theorem Rd.grow {w w' : World} {z : Nat} {s : Sl} {vs : List Value} (h : Rd w z s vs) (k : Grow w w') : Rd w' z s vs := h.keep k (fun _ _ _ q => q)
/-- the cells of an element -/
theorem Rd.elem {w : World} {z : Nat} {s : Sl} {vs : List Value} (h : Rd w z s vs) {i : Nat} (hi : i < s.n) (hz : 0 < z) :
    ∃ a, s.A = some a ∧ Cells w (a.add (i * z)) ((vs.drop (i * z)).take z) := by
  have hle : i * z + z ≤ vs.length := by rw [h.len, ← Nat.succ_mul]; exact Nat.mul_le_mul_right _ hi
  have hne : vs ≠ [] := fun e => by rw [e] at hle; simp at hle; omega
  obtain ⟨a, ha, hc⟩ := h.at_ hne
  refine ⟨a, ha, fun j v hj => ?_⟩
  rw [addr_add]
  refine hc (i * z + j) v ?_
  rw [List.getElem?_take] at hj
  split at hj
  · rwa [List.getElem?_drop] at hj
  · cases hj
theorem Rd.byte {w : World} {s : Sl} {l : L8} (h : Rd w 1 s (bv l)) {i : Nat} (hi : i < s.n) : ∃ a, s.A = some a ∧ w.cell? (a.add (i * 1)) = some (.int .u8 ((l[i]'(by have := h.len; rw [bv_length] at this; omega)).toNat : Int)) := by
  have hl : i < l.length := by have := h.len; rw [bv_length] at this; omega
  have hne : bv l ≠ [] := fun e => by have := congrArg List.length e; rw [bv_length] at this; simp at this; rw [this] at hl; simp at hl
  obtain ⟨a, ha, hc⟩ := h.at_ hne
  refine ⟨a, ha, ?_⟩
  rw [Nat.mul_one]
  exact hc i _ (bv_get l i hl)
/-- a cut of a slice that is read -/
theorem Rd.cut {w : World} {z : Nat} {s : Sl} {vs : List Value} (h : Rd w z s vs) {l k : Nat} (hl : l ≤ k) (hk : k ≤ s.n) :
    Rd w z ⟨cutA s.A s.c l z, k - l, s.c - l⟩ ((vs.drop (l * z)).take ((k - l) * z)) := by
  have hlen := h.len
  have h1 : k * z ≤ vs.length := by rw [hlen]; exact Nat.mul_le_mul_right _ hk
  have h2 : l * z + (k - l) * z = k * z := by rw [← Nat.add_mul]; congr 1; omega
  refine ⟨?_, by have := h.cap; show k - l ≤ s.c - l; omega, by have := h.nb; show k - l ≤ _; omega, fun hne => ?_⟩
  · rw [List.length_take, List.length_drop]
    show min ((k - l) * z) _ = (k - l) * z
    omega
  · have hne' : vs ≠ [] := fun e => hne (by simp [e])
    obtain ⟨a, ha, hc⟩ := h.at_ hne'
    have hpos : 0 < (k - l) * z := by
      rcases Nat.eq_zero_or_pos ((k - l) * z) with e | e
      · exfalso; apply hne; rw [e]; simp
      · exact e
    have hkl : 0 < k - l := Nat.pos_of_mul_pos_right hpos
    have hcl : s.c ≠ l := by have := h.cap; omega
    refine ⟨a.add (l * z), ?_, fun j v hj => ?_⟩
    · show cutA s.A s.c l z = _
      unfold cutA
      rw [if_neg hcl, ha]; rfl
    · rw [addr_add]
      refine hc (l * z + j) v ?_
      rw [List.getElem?_take] at hj
      split at hj
      · rwa [List.getElem?_drop] at hj
      · cases hj
theorem Rd.cutB {w : World} {s : Sl} {b : L8} (h : Rd w 1 s (bv b)) {l k : Nat} (hl : l ≤ k) (hk : k ≤ s.n) :
    Rd w 1 ⟨cutA s.A s.c l 1, k - l, s.c - l⟩ (bv ((b.drop l).take (k - l))) := by
  have := h.cut hl hk
  rwa [Nat.mul_one, Nat.mul_one, bv_drop, bv_take] at this

/-! ### rows of one's own -/
def Own (w : World) (base : Nat) (e : TypeId) (z : Nat) (s : Sl) (vs : List Value) : Prop :=
  w.ownsRow base e z (.slice s.A s.n s.c) s.n vs
theorem own_nil (w : World) (base : Nat) (e : TypeId) (z : Nat) : Own w base e z ⟨none, 0, 0⟩ [] := World.ownsRow_nil w base e z
def Sl.blk (s : Sl) : Option Nat := s.A.map (·.block)
theorem Own.keep {S : Nat → Prop} {w w' : World} {base : Nat} {e : TypeId} {z : Nat} {s : Sl} {vs : List Value} (h : Own w base e z s vs) (k : Keep S w w') (hn : ∀ b, s.blk = some b → ¬ S b) : Own w' base e z s vs := by
  obtain ⟨h1, h2⟩ := h
  refine ⟨h1, ?_⟩
  rcases h2 with h2 | ⟨g, cap, cur, hv, hb, hg, r⟩
  · exact .inl h2
  · refine .inr ⟨g, cap, cur, hv, hb, ?_, r⟩
    injection hv with hA
    exact k.heap hg (hn g (by simp [Sl.blk, hA]))
theorem Own.grow {w w' : World} {base : Nat} {e : TypeId} {z : Nat} {s : Sl} {vs : List Value} (h : Own w base e z s vs) (k : Grow w w') : Own w' base e z s vs := h.keep k (fun _ _ q => q)
theorem Own.mono {w : World} {base base' : Nat} {e : TypeId} {z : Nat} {s : Sl} {vs : List Value} (h : Own w base e z s vs) (hb : base' ≤ base) : Own w base' e z s vs := by
  obtain ⟨h1, h2⟩ := h
  refine ⟨h1, ?_⟩
  rcases h2 with h2 | ⟨g, cap, cur, hv, hg, r⟩
  · exact .inl h2
  · exact .inr ⟨g, cap, cur, hv, Nat.le_trans hb hg, r⟩
theorem Own.len {w : World} {base : Nat} {e : TypeId} {z : Nat} {s : Sl} {vs : List Value} (h : Own w base e z s vs) : vs.length = s.n * z := h.1
theorem Own.ge {w : World} {base : Nat} {e : TypeId} {z : Nat} {s : Sl} {vs : List Value} (h : Own w base e z s vs) : ∀ b, s.blk = some b → base ≤ b ∧ b < w.heap.size := by
  intro b hb
  rcases h.2 with ⟨h2, _⟩ | ⟨g, cap, cur, hv, hg, hh, r⟩
  · injection h2 with hA; simp [Sl.blk, hA] at hb
  · injection hv with hA
    simp [Sl.blk, hA] at hb
    subst hb
    exact ⟨hg, lt_of_heap hh⟩
theorem Own.rd {w : World} {base : Nat} {e : TypeId} {z : Nat} {s : Sl} {vs : List Value} (h : Own w base e z s vs) (hn : s.n ≤ 140737489403904) : Rd w z s vs := by
  refine ⟨h.1, ?_, hn, fun hne => ?_⟩
  · rcases h.2 with ⟨h2, h3⟩ | ⟨g, cap, cur, hv, hg, hh, h4, _⟩
    · injection h2 with _ e1 e2; omega
    · injection hv with _ _ e2; omega
  · rcases h.2 with ⟨h2, h3⟩ | ⟨g, cap, cur, hv, hg, hh, h4, _⟩
    · exfalso; apply hne; have := h.1; rw [h3] at this; simpa using this
    · injection hv with hA
      exact ⟨_, hA, fun j u hj => World.ownsRow.cells h (g := g) (by show (Value.slice s.A s.n s.c).ownBlock = _; rw [hA]; rfl) j u hj⟩
/-- append(s, x...): s a row of one's own, x a slice that is read -/
theorem append_rule {P : Program} {w : World} {base : Nat} {t ty e : TypeId} {zv : Value} {z bytes : Nat} (ht : P.underlying t = some (.slice e)) (hinfo : (P.info? e).map (fun i => (i.zero, i.size, i.bytes)) = some (some zv, z, bytes))
    (hzc : zv.cells.size = z) (hz0 : 0 < z) (hb0 : 0 < bytes)
    {s x : Sl} {vs xs : List Value} (hs : Own w base e z s vs) (hx : Rd w z x xs) (h1 : ∀ u ∈ xs, u.oneCell' = true)
    (hbd : (s.n + x.n) * bytes ≤ 140737488355328) (hbase : base ≤ w.heap.size) {K : Sl → World → Prop}
    (h : ∀ s' w', s'.n = s.n + x.n → Own w' base e z s' (vs ++ xs) → Keep (fun k => some k = s.blk) w w' → (s'.blk = s.blk ∨ s'.blk = some w.heap.size) → K s' w') :
    RunK P .sl (Builtin.append_ #[t, t] ty #[.slice s.A s.n s.c, .slice x.A x.n x.c]) w K := by
  obtain ⟨i, hi, hzz⟩ := Option.map_eq_some_iff.1 hinfo
  simp only [Prod.mk.injEq] at hzz
  obtain ⟨hz, hsz, hby⟩ := hzz
  have hm : s.n + x.n ≤ 140737488355328 := Nat.le_trans (Nat.le_mul_of_pos_right _ hb0) hbd
  have blk : (Value.slice s.A s.n s.c).ownBlock = s.blk := by unfold Sl.blk; cases s.A <;> rfl
  cases hA : x.A with
  | none =>
    have hxs : xs = [] := by
      by_cases e : xs = []
      · exact e
      · obtain ⟨a, ha, _⟩ := hx.at_ e; rw [hA] at ha; cases ha
    subst hxs
    have hn0 : x.n = 0 := by
      have := hx.len
      rw [List.length_nil] at this
      rcases Nat.mul_eq_zero.1 this.symm with h | h <;> omega
    refine ⟨s, w, ?_, h s w (by omega) (by simpa using hs) (Keep.refl _ _) (.inl rfl)⟩
    have hc := (hs.rd (by omega)).cap
    rw [hn0]
    show _ = Result.ok (Value.slice s.A s.n s.c) w
    obtain ⟨A, n, c⟩ := s
    simp only at hc ⊢
    cases A <;> simp [Builtin.append_, run_underlying ht, sizeOf, typeInfo, hi, Builtin.lenOf, Builtin.firstCells, hc, storeCells]
  | some a =>
    have hcells : ∀ j u, xs[j]? = some u → w.cell? (a.add j) = some u := by
      intro j u hj
      have hne : xs ≠ [] := fun e => by simp [e] at hj
      obtain ⟨a', ha', hc⟩ := hx.at_ hne
      rw [hA] at ha'
      obtain rfl := Option.some.inj ha'
      exact hc j u hj
    obtain ⟨v', w', hr, hown, hg, _, hat⟩ := run_append_own_at (P := P) w base t ty e i zv z bytes ht hi hz hsz hby hzc hz0 _ s.n vs hs a x.n x.c xs hx.len hcells h1 (by unfold maxLen; omega) hbd hbase
    have hv' : ∃ s' : Sl, v' = .slice s'.A s'.n s'.c ∧ s'.n = s.n + x.n := by
      rcases hown.2 with ⟨rfl, hn⟩ | ⟨g, cap, cur, rfl, _⟩
      · exact ⟨⟨none, 0, 0⟩, rfl, hn.symm⟩
      · exact ⟨⟨some ⟨g, 0, none⟩, _, cap⟩, rfl, rfl⟩
    obtain ⟨s', rfl, hn'⟩ := hv'
    refine ⟨s', w', hr, h s' w' hn' (by have q := hown; rw [← hn'] at q; exact q) (blk ▸ keep_grownBy hg) ?_⟩
    have blk' : (Value.slice s'.A s'.n s'.c).ownBlock = s'.blk := by unfold Sl.blk; cases s'.A <;> rfl
    rw [blk, blk'] at hat
    exact hat
/-- the slice of a literal: a row of one's own -/
theorem lit_rule {P : Program} {w : World} {t e : TypeId} {n : Nat} {parts : Array (Nat × Value)} {cells : Array Value} {z : Nat} {base : Nat}
    (hr : (Instr.buildSlice t n parts).run P w = .ok (.slice (some ⟨w.heap.size, 0, none⟩) n n) (w.alloc (.cells cells e))) (hs : cells.size = n * z) (hn : n ≤ 140737488355328) (hbase : base ≤ w.heap.size)
    {K : Sl → World → Prop} (h : ∀ w1, Own w1 base e z ⟨some ⟨w.heap.size, 0, none⟩, n, n⟩ cells.toList → Grow w w1 → w1.heap.size = w.heap.size + 1 → K ⟨some ⟨w.heap.size, 0, none⟩, n, n⟩ w1) :
    RunK P .sl (Instr.buildSlice t n parts) w K :=
  ⟨⟨some ⟨w.heap.size, 0, none⟩, n, n⟩, _, hr, h _ (World.ownsRow_lit w cells n hbase (by unfold maxLen; omega) hs) (keep_alloc w _) (by simp)⟩

/-! ### structs by value -/
theorem loadVar_rule {P : Program} {w : World} {t : TypeId} {zv : Option Value} {z bytes : Nat} {a : Addr} {cs : List Value} (hg : (P.underlying t).map kdOf = some .ag)
    (hinfo : (P.info? t).map (fun i => (i.zero, i.size, i.bytes)) = some (zv, z, bytes)) (hn : z = cs.length) (hc : Cells w a cs) :
    (loadVar t a).run P w = .ok (.agg cs.toArray) w := by
  obtain ⟨i, hi, hzz⟩ := Option.map_eq_some_iff.1 hinfo
  simp only [Prod.mk.injEq] at hzz
  have hn : i.size = cs.length := by rw [hzz.2.1, hn]
  obtain ⟨d, hd, hk⟩ := Option.map_eq_some_iff.1 hg
  unfold loadVar
  rw [Sem.run_bind, isAgg_run hd, hk]
  simp only [Result.andThen_ok, if_true, Sem.run_bind]
  have hs : (sizeOf t).run P w = .ok cs.length w := by simp [sizeOf, typeInfo, hi, hn]
  rw [hs]
  simp only [Result.andThen_ok]
  rw [run_loadCells_list (P := P) (w := w) a cs hc]
  rfl
theorem storeVar_rule {P : Program} {w : World} {b : Nat} {t ty : TypeId} {zv : Option Value} {z bytes : Nat} {old cells : Array Value} (hb : Blk w b old t) (hinfo : (P.info? ty).map (fun i => (i.zero, i.size, i.bytes)) = some (zv, z, bytes)) (hz : z = cells.size) (ho : old.size = cells.size)
    (h1 : cells.all (·.oneCell') = true) {K : World → Prop} (h : ∀ w1, Blk w1 b cells t → Keep (fun k => k = b) w w1 → w1.heap.size = w.heap.size → K w1) : RunU P (storeVar ty ⟨b, 0, none⟩ (.agg cells)) w K := by
  have hi : (P.info? ty).map (·.size) = some cells.size := by
    obtain ⟨i, hi, hzz⟩ := Option.map_eq_some_iff.1 hinfo
    simp only [Prod.mk.injEq] at hzz
    rw [hi, Option.map_some, hzz.2.1, hz]
  refine ⟨_, run_storeVar_row w b t ty old cells hb hi ho h1, h _ (setRow_heap w b old cells t (0, 0) hb) ⟨rfl, rfl, rfl, by simp, fun k _ hn => setRow_other w b k _ hn⟩ (by simp)⟩
theorem convStr_rule {P : Program} {w : World} {src dst e : TypeId} {s : Sl} {l : L8} (hs : P.underlying src = some (.slice e)) (he : P.underlying e = some (.int .u8)) (hd : P.underlying dst = some .string)
    (h : Rd w 1 s (bv l)) : (convert src dst (.slice s.A s.n s.c)).run P w = .ok (.string (str l)) w := by
  rw [run_convert_bytes_string w src dst e s.A s.n s.c hs he hd]
  have hl : l.length = s.n := by have := h.len; rw [bv_length] at this; omega
  cases hA : s.A with
  | none =>
    have : bv l = [] := by
      by_cases e : bv l = []
      · exact e
      · obtain ⟨a, ha, _⟩ := h.at_ e; rw [hA] at ha; cases ha
    have : l = [] := by simpa [bv] using this
    subst this
    rfl
  | some a =>
    have hc : ∀ j v, (bv l)[j]? = some v → w.cell? (a.add j) = some v := by
      intro j v hj
      have hne : bv l ≠ [] := fun e => by simp [e] at hj
      obtain ⟨a', ha', hc⟩ := h.at_ hne
      rw [hA] at ha'
      obtain rfl := Option.some.inj ha'
      exact hc j v hj
    have hr := run_loadCells_list (P := P) (w := w) a (bv l) hc
    rw [bv_length, hl] at hr
    have e : bv l = (l.map fun b => (b.toNat : Int)).map (Value.int .u8) := by simp [bv]
    rw [e] at hr
    rw [run_bytesToString w a s.n s.c _ hr]
    congr 2
    have fold : ∀ (l : L8) (acc : ByteArray), (l.map fun b => (b.toNat : Int)).foldl (fun r n => r.push (UInt8.ofNat n.toNat)) acc = ⟨(acc.data.toList ++ l).toArray⟩ := by
      intro l
      induction l with
      | nil => intro acc; simp
      | cons b r ih =>
        intro acc
        rw [List.map_cons, List.foldl_cons, ih]
        simp [ByteArray.push]
    rw [fold]
    simp [str]
end Go.Proofs.Ytaneeadpjelomaa.CF

/- == between structs and arrays of plain cells. -/
namespace Go.Proofs.Ytaneeadpjelomaa.CF
open Go

def plainK : Kd → Bool
  | .i _ | .b | .s => true
  | _ => false
/-- the cells of a type, if they are all plain -/
def flatFs (rec : TypeId → Option (List Kd)) (P : Program) : List Field → Nat → Option (List Kd)
  | [], _ => some []
  | f :: r, off => match f.name == "_", Nat.beq f.offset off, rec f.type with
    | false, true, some ks => match Nat.beq (sizeT P f.type) ks.length, flatFs rec P r (off + ks.length) with
      | true, some l => some (ks ++ l)
      | _, _ => none
    | _, _, _ => none
def repK : Nat → List Kd → List Kd
  | 0, _ => []
  | n + 1, ks => ks ++ repK n ks
def flatK (P : Program) : Nat → TypeId → Option (List Kd)
  | 0, _ => none
  | d + 1, t => match P.underlying t with
    | some .bool => some [.b]
    | some (.int k) => some [.i k]
    | some .string => some [.s]
    | some (.struct fs) => match P.stoodInHeld t with
      | false => flatFs (flatK P d) P fs.toList 0
      | true => none
    | some (.array n e) => match flatK P d e with
      | some ks => match Nat.beq (sizeT P e) ks.length with
        | true => some (repK n ks)
        | false => none
      | none => none
    | _ => none
def valOf (P : Program) (t : TypeId) (xs : List Value) : Value := match kd P t with | .ag => .agg xs.toArray | _ => xs.headD (.tuple #[])
theorem FitL.length : ∀ {ks : List Kd} {vs : List Value}, FitL ks vs → ks.length = vs.length
  | [], [], _ => rfl
  | _ :: _, _ :: _, h => by simp [FitL.length h.2]
  | [], _ :: _, h => h.elim
  | _ :: _, [], h => h.elim
theorem FitL.append : ∀ {ks ls : List Kd} {vs : List Value}, FitL (ks ++ ls) vs → FitL ks (vs.take ks.length) ∧ FitL ls (vs.drop ks.length)
  | [], _, _, h => ⟨trivial, h⟩
  | _ :: ks, ls, v :: vs, h => by
    have := FitL.append (ks := ks) h.2
    exact ⟨⟨h.1, this.1⟩, this.2⟩
  | _ :: _, _, [], h => h.elim
attribute [local instance] Classical.propDecidable
section
variable {P : Program}
theorem eqFields_run (w : World) (D : Nat) (rec : TypeId → Option (List Kd)) (X Y : List Value)
    (hrec : ∀ t ks, rec t = some ks → ∀ a b, FitL ks a → FitL ks b → (Op.equalIn D t (valOf P t a) (valOf P t b)).run P w = .ok (decide (a = b)) w)
    (hpart : ∀ t ks, rec t = some ks → sizeT P t = ks.length → ∀ (Z : List Value) off, FitL ks ((Z.drop off).take ks.length) → (part t Z.toArray off).run P w = .ok (valOf P t ((Z.drop off).take ks.length)) w) :
    ∀ (fs : List Field) (off : Nat) (l : List Kd), flatFs rec P fs off = some l → FitL l (X.drop off) → FitL l (Y.drop off) →
      (Op.eqFields D X.toArray Y.toArray fs).run P w = .ok (decide (X.drop off = Y.drop off)) w
  | [], off, l, h, hx, hy => by
    obtain rfl := Option.some.inj h
    have e1 : X.drop off = [] := by cases hX : X.drop off with | nil => rfl | cons a b => rw [hX] at hx; exact hx.elim
    have e2 : Y.drop off = [] := by cases hY : Y.drop off with | nil => rfl | cons a b => rw [hY] at hy; exact hy.elim
    rw [e1, e2]; rfl
  | f :: r, off, l, h, hx, hy => by
    simp only [flatFs] at h
    split at h
    · rename_i ks hn ho hr
      split at h
      · rename_i l' hsz hl'
        obtain rfl := Option.some.inj h
        have ho' : f.offset = off := Nat.eq_of_beq_eq_true ho
        have hsz' : sizeT P f.type = ks.length := Nat.eq_of_beq_eq_true hsz
        have hx2 := FitL.append hx
        have hy2 := FitL.append hy
        have hne : f.name ≠ "_" := by simpa using hn
        simp only [Op.eqFields]
        rw [if_pos hne]
        simp only [Sem.run_bind]
        rw [ho', hpart _ _ hr hsz' X off hx2.1]
        simp only [Result.andThen_ok]
        rw [hpart _ _ hr hsz' Y off hy2.1]
        simp only [Result.andThen_ok]
        rw [hrec _ _ hr _ _ hx2.1 hy2.1]
        simp only [Result.andThen_ok]
        have ex : X.drop off = (X.drop off).take ks.length ++ X.drop (off + ks.length) := by rw [← List.drop_drop, List.take_append_drop]
        have ey : Y.drop off = (Y.drop off).take ks.length ++ Y.drop (off + ks.length) := by rw [← List.drop_drop, List.take_append_drop]
        have lx : ((X.drop off).take ks.length).length = ks.length := (FitL.length hx2.1).symm
        have ly : ((Y.drop off).take ks.length).length = ks.length := (FitL.length hy2.1).symm
        by_cases hd : (X.drop off).take ks.length = (Y.drop off).take ks.length
        · rw [decide_eq_true hd]
          simp only [Bool.not_true, Bool.false_eq_true, if_false]
          rw [eqFields_run w D rec X Y hrec hpart r _ _ hl' (by rw [← List.drop_drop]; exact hx2.2) (by rw [← List.drop_drop]; exact hy2.2)]
          congr 1
          rw [decide_eq_decide]
          constructor
          · intro q; rw [ex, ey, hd, q]
          · intro q; rw [← List.drop_drop, ← List.drop_drop, q]
        · rw [decide_eq_false hd]
          simp only [Bool.not_false, if_true, Sem.run_pure]
          congr 1
          symm
          rw [decide_eq_false_iff_not]
          intro q; exact hd (by rw [q])
      · cases h
    · cases h
theorem FitL.rep : ∀ {n : Nat} {ks : List Kd} {vs : List Value}, FitL (repK n ks) vs → ∀ i, i < n → FitL ks ((vs.drop (i * ks.length)).take ks.length)
  | n + 1, ks, vs, h, 0, _ => by simpa using (FitL.append h).1
  | n + 1, ks, vs, h, i + 1, hi => by
    have := FitL.rep (FitL.append h).2 i (by omega)
    rw [List.drop_drop] at this
    rw [show (i + 1) * ks.length = ks.length + i * ks.length by rw [Nat.succ_mul, Nat.add_comm]]
    exact this
theorem repK_length : ∀ (n : Nat) (ks : List Kd), (repK n ks).length = n * ks.length
  | 0, ks => by simp [repK]
  | n + 1, ks => by simp only [repK, List.length_append, repK_length n ks, Nat.succ_mul]; omega
theorem kd_struct {t : TypeId} {fs : Array Field} (h : P.underlying t = some (.struct fs)) : kd P t = .ag := by simp [kd, h, kdOf]
theorem kd_array {t e : TypeId} {n : Nat} (h : P.underlying t = some (.array n e)) : kd P t = .ag := by simp [kd, h, kdOf]
theorem part_val {d : Nat} {t : TypeId} {ks : List Kd} (h : flatK P d t = some ks) (hsz : sizeT P t = ks.length) (Z : List Value) (off : Nat) (w : World) (hf : FitL ks ((Z.drop off).take ks.length)) :
    (part t Z.toArray off).run P w = .ok (valOf P t ((Z.drop off).take ks.length)) w := by
  have hlen := FitL.length hf
  cases d with
  | zero => cases h
  | succ d =>
    simp only [flatK] at h
    have scal : ∀ (de : TypeDesc) (k : Kd), P.underlying t = some de → kdOf de = k → k ≠ .ag → ks = [k] → (part t Z.toArray off).run P w = .ok (valOf P t ((Z.drop off).take ks.length)) w := by
      intro de k hu hk hne hks
      subst hks
      rw [part_run hu, hk]
      have hkd : kd P t = k := by simp [kd, hu, hk]
      have hlt : off < Z.length := by
        rw [List.length_take, List.length_drop] at hlen
        simp at hlen; omega
      have e : (Z.drop off).take 1 = [Z[off]] := by
        rw [List.drop_eq_getElem_cons hlt]; rfl
      simp only [List.length_singleton, e, valOf, hkd]
      cases k <;> first | (exact absurd rfl hne) | simp [hlt]
    split at h
    · rename_i hu; exact scal _ _ hu rfl (by simp [kdOf]) (Option.some.inj h).symm
    · rename_i k hu; exact scal _ _ hu rfl (by simp [kdOf]) (Option.some.inj h).symm
    · rename_i hu; exact scal _ _ hu rfl (by simp [kdOf]) (Option.some.inj h).symm
    · rename_i fs hu
      rw [part_run hu]
      simp only [kdOf, valOf, kd_struct hu, hsz]
      congr 2
      rw [← Array.toList_inj]
      simp [List.extract_eq_take_drop]
    · rename_i n e hu
      rw [part_run hu]
      simp only [kdOf, valOf, kd_array hu, hsz]
      congr 2
      rw [← Array.toList_inj]
      simp [List.extract_eq_take_drop]
    · cases h
theorem eqIn_run (w : World) : ∀ (d : Nat) (t : TypeId) (ks : List Kd), flatK P d t = some ks → ∀ (D : Nat), d ≤ D → ∀ a b, FitL ks a → FitL ks b →
    (Op.equalIn D t (valOf P t a) (valOf P t b)).run P w = .ok (decide (a = b)) w
  | d + 1, t, ks, h, D, hD, a, b, ha, hb => by
    obtain ⟨D, rfl⟩ : ∃ m, D = m + 1 := ⟨D - 1, by omega⟩
    simp only [flatK] at h
    split at h
    · rename_i hu
      obtain rfl := Option.some.inj h
      match a, b, ha, hb with
      | [x], [y], ha, hb =>
        cases x <;> first | (cases ha.1; done) | skip
        cases y <;> first | (cases hb.1; done) | skip
        rename_i p q
        have hk : kd P t = .b := by simp [kd, hu, kdOf]
        simp only [valOf, hk, List.headD_cons]
        rw [run_equalIn_bool' w D t p q hu]
        congr 1
        cases p <;> cases q <;> simp <;> (first | rfl | (intro q; cases q))
    · rename_i k hu
      obtain rfl := Option.some.inj h
      match a, b, ha, hb with
      | [x], [y], ha, hb =>
        cases x <;> first | (cases ha.1; done) | skip
        cases y <;> first | (cases hb.1; done) | skip
        rename_i k1 p k2 q
        have e1 := eqK_eq ha.1
        have e2 := eqK_eq hb.1
        subst e1; subst e2
        have hk : kd P t = .i k := by simp [kd, hu, kdOf]
        simp only [valOf, hk, List.headD_cons]
        rw [run_equalIn_int w D t k k p q hu]
        congr 1
        by_cases h : p = q <;> simp [h]
    · rename_i hu
      obtain rfl := Option.some.inj h
      match a, b, ha, hb with
      | [x], [y], ha, hb =>
        cases x <;> first | (cases ha.1; done) | skip
        cases y <;> first | (cases hb.1; done) | skip
        rename_i p q
        have hk : kd P t = .s := by simp [kd, hu, kdOf]
        simp only [valOf, hk, List.headD_cons]
        rw [run_equalIn_string w D t p q hu]
        congr 1
        have := sEq_dec (s := p) (t := q)
        unfold sEq at this
        rw [this]
        by_cases h : p = q <;> simp [h]
    · rename_i fs hu
      split at h
      · rename_i hst
        have hfo : P.fieldsOf t = fs := by simp [Program.fieldsOf, hu]
        simp only [valOf, kd_struct hu]
        rw [run_equalIn_struct w D t _ _ (by rw [hfo]; exact hu) hst, hfo]
        have := eqFields_run (P := P) w D (flatK P d) a b (fun t ks hr a b h1 h2 => eqIn_run w d t ks hr D (by omega) a b h1 h2)
          (fun t ks hr hsz Z off hf => part_val hr hsz Z off w hf) fs.toList 0 ks h (by simpa using ha) (by simpa using hb)
        simpa using this
      · cases h
    · rename_i n e hu
      split at h
      · rename_i ks' hr
        split at h
        · rename_i hsz
          obtain rfl := Option.some.inj h
          have hsz' : sizeT P e = ks'.length := Nat.eq_of_beq_eq_true hsz
          simp only [valOf, kd_array hu]
          have hla : a.length = n * ks'.length := by rw [← FitL.length ha, repK_length]
          have hlb : b.length = n * ks'.length := by rw [← FitL.length hb, repK_length]
          have hs : ∀ w, (sizeOf e).run P w = .ok ks'.length w := by
            intro w
            cases hi : P.info? e with
            | some i => rw [size_run hi, hsz']
            | none =>
              exfalso
              cases d with
              | zero => cases hr
              | succ d =>
                have : P.underlying e = none := by simp [Program.underlying, hi]
                simp only [flatK, this] at hr
                cases hr
          simp only [Op.equalIn, Sem.run_bind, run_underlying hu, Result.andThen_ok]
          rw [hs]
          simp only [Result.andThen_ok]
          rw [Std.Legacy.Range.forIn_eq_forIn_range']
          have hrec := fun x y h1 h2 => eqIn_run w d e ks' hr D (by omega) x y h1 h2
          have loop : ∀ m k, k + m = n → ((forIn (List.range' k m 1) ((none, ()) : Option Bool × Unit) fun i __s => do
              let __do_lift ← part e a.toArray (i * ks'.length)
              let __do_lift_1 ← part e b.toArray (i * ks'.length)
              let __do_lift ← Op.equalIn D e __do_lift __do_lift_1
              if (!__do_lift) = true then pure (ForInStep.done (some false, ())) else pure (ForInStep.yield (none, ())) : Sem (Option Bool × Unit)).run P w) =
              .ok (if a.drop (k * ks'.length) = b.drop (k * ks'.length) then (none, ()) else (some false, ())) w := by
            intro m
            induction m with
            | zero =>
              intro k hk
              have e1 : a.drop (k * ks'.length) = [] := List.drop_of_length_le (by rw [hla]; exact Nat.mul_le_mul_right _ (by omega))
              have e2 : b.drop (k * ks'.length) = [] := List.drop_of_length_le (by rw [hlb]; exact Nat.mul_le_mul_right _ (by omega))
              rw [e1, e2, if_pos rfl]
              rfl
            | succ m ih =>
              intro k hk
              have fa := FitL.rep ha k (by omega)
              have fb := FitL.rep hb k (by omega)
              simp only [List.range'_succ, List.forIn_cons, Sem.run_bind]
              rw [part_val hr hsz' a _ w fa]
              simp only [Result.andThen_ok]
              rw [part_val hr hsz' b _ w fb]
              simp only [Result.andThen_ok]
              rw [hrec _ _ fa fb]
              simp only [Result.andThen_ok]
              have sp : ∀ z : List Value, z.drop (k * ks'.length) = (z.drop (k * ks'.length)).take ks'.length ++ z.drop ((k + 1) * ks'.length) := fun z => by
                rw [Nat.succ_mul, ← List.drop_drop, List.take_append_drop]
              by_cases hd : (a.drop (k * ks'.length)).take ks'.length = (b.drop (k * ks'.length)).take ks'.length
              · rw [decide_eq_true hd]
                simp only [Bool.not_true, Bool.false_eq_true, if_false, Sem.run_pure, Result.andThen_ok]
                rw [ih (k + 1) (by omega)]
                congr 1
                by_cases h2 : a.drop ((k + 1) * ks'.length) = b.drop ((k + 1) * ks'.length)
                · rw [if_pos h2, if_pos (by rw [sp a, sp b, hd, h2])]
                · rw [if_neg h2, if_neg (fun q => h2 (by rw [Nat.succ_mul, ← List.drop_drop, ← List.drop_drop, q]))]
              · rw [decide_eq_false hd]
                simp only [Bool.not_false, if_true, Sem.run_pure, Result.andThen_ok]
                rw [if_neg (fun q => hd (by rw [q]))]
          have l0 := loop n 0 (by omega)
          have hsize : [:n].size = n := by simp [Std.Legacy.Range.size]
          rw [hsize]
          show ((Sem.run P (forIn (List.range' 0 n 1) _ _) w).andThen _) = _
          rw [l0]
          simp only [Nat.zero_mul, List.drop_zero, Result.andThen_ok]
          by_cases hab : a = b
          · rw [if_pos hab, decide_eq_true hab]; rfl
          · rw [if_neg hab, decide_eq_false hab]; rfl
        · cases h
      · cases h
    · cases h
/-- == and != between two of them -/
theorem eq_agg {t : TypeId} {ks : List Kd} {op : BinOp} {x y : Operand} {w : World} {a b : List Value} (h : flatK P 8 t = some ks) (hk : kd P t = .ag) (hm : P.eqGuardType P.depth t = false) (ha : FitL ks a) (hb : FitL ks b) :
    (op = .eql → (do eqGuard op t x y (.agg a.toArray) (.agg b.toArray); binOp op t (.agg a.toArray) (.agg b.toArray) : Sem Value).run P w = .ok (.bool (decide (a = b))) w) ∧
    (op = .neq → (do eqGuard op t x y (.agg a.toArray) (.agg b.toArray); binOp op t (.agg a.toArray) (.agg b.toArray) : Sem Value).run P w = .ok (.bool (!decide (a = b))) w) := by
  have e := eqIn_run (P := P) w 8 t ks h 10000 (by omega) a b ha hb
  simp only [valOf, hk] at e
  constructor
  · rintro rfl
    rw [Sem.run_bind, run_eqGuard_agg w _ _ _ _ _ _ hm]
    simp only [Result.andThen_ok]
    rw [run_eql_struct, e]; rfl
  · rintro rfl
    rw [Sem.run_bind, run_eqGuard_agg w _ _ _ _ _ _ hm]
    simp only [Result.andThen_ok]
    rw [run_neq_struct, e]; rfl
end
theorem eql_rule {P : Program} {t : TypeId} {ks : List Kd} {x y : Operand} {a b : List Value} (h : flatK P 8 t = some ks) (hk : kd P t = .ag) (hm : P.eqGuardType P.depth t = false) (ha : FitL ks a) (hb : FitL ks b) :
    ∃ r : Bool, (r = true ↔ a = b) ∧ ∀ w, (do eqGuard .eql t x y (.agg a.toArray) (.agg b.toArray); binOp .eql t (.agg a.toArray) (.agg b.toArray) : Sem Value).run P w = .ok (.bool r) w :=
  ⟨decide (a = b), by simp, fun _ => (eq_agg (op := .eql) h hk hm ha hb).1 rfl⟩
theorem neq_rule {P : Program} {t : TypeId} {ks : List Kd} {x y : Operand} {a b : List Value} (h : flatK P 8 t = some ks) (hk : kd P t = .ag) (hm : P.eqGuardType P.depth t = false) (ha : FitL ks a) (hb : FitL ks b) :
    ∃ r : Bool, (r = true ↔ a ≠ b) ∧ ∀ w, (do eqGuard .neq t x y (.agg a.toArray) (.agg b.toArray); binOp .neq t (.agg a.toArray) (.agg b.toArray) : Sem Value).run P w = .ok (.bool r) w :=
  ⟨!decide (a = b), by simp, fun _ => (eq_agg (op := .neq) h hk hm ha hb).2 rfl⟩
end Go.Proofs.Ytaneeadpjelomaa.CF

/- More rules of memory: bytes of a constant, elements of slices. -/
namespace Go.Proofs.Ytaneeadpjelomaa.CF
open Go Go.RowKit

theorem bytes_const_rule {P : Program} {w : World} {t e : TypeId} {n : Nat} {parts : Array (Nat × Value)} {l : L8}
    (hr : (Instr.buildSlice t n parts).run P w = .ok (.slice (some ⟨w.heap.size, 0, none⟩) n n) (w.alloc (.cells (bv l).toArray e))) (hn : n = l.length) (hb : n ≤ 140737488355328)
    (ht : P.underlying t = some (.slice e)) (he : P.underlying e = some (.int .u8))
    {K : Sl → World → Prop} (h : ∀ s w', Grow w w' → Rd w' 1 s (bv l) → K s w') :
    RunK P .sl (Instr.buildSlice t n parts) w fun xs w0 => RunK P .sl (convert t t (.slice xs.A xs.n xs.c)) w0 K := by
  refine ⟨⟨some ⟨w.heap.size, 0, none⟩, n, n⟩, _, hr, ⟨some ⟨w.heap.size, 0, none⟩, n, n⟩, _, Go.Lib.run_convert_bytes_const w t e _ n n ht he, ?_⟩
  refine h _ _ (keep_alloc w _) ⟨by rw [bv_length, hn, Nat.mul_one], Nat.le_refl _, Nat.le_trans hb (by decide), fun _ => ⟨_, rfl, fun j v hj => ?_⟩⟩
  rw [add0, Nat.zero_add]
  unfold World.cell?
  simp only [World.alloc, Array.getElem?_push, if_true]
  simpa using hj
open Go.Lib in
theorem strCells_bv (l : L8) : strCells (str l) = bv l := rfl
open Go.Lib in
theorem append_str_at {P : Program} {w : World} (base : Nat) (t u ty e : TypeId) (i : TypeInfo) (ht : P.underlying t = some (.slice e)) (hu : P.underlying u = some .string) (hi : P.info? e = some i) (hz : i.zero = some (.int .u8 0))
    (hsize : i.size = 1) (hby : i.bytes = 1) (o : Sl) (xs : List Value) (hown : Own w base e 1 o xs) (s : ByteArray) (hbytes : o.n + s.size ≤ 140737488355328) (hbase : base ≤ w.heap.size) :
    ∃ (o' : Sl) (w' : World), (Builtin.append_ #[t, u] ty #[.slice o.A o.n o.c, .string s]).run P w = .ok (.slice o'.A o'.n o'.c) w' ∧ o'.n = o.n + s.size ∧ Own w' base e 1 o' (xs ++ strCells s) ∧ Keep (fun k => some k = o.blk) w w' ∧
      (o'.blk = o.blk ∨ o'.blk = some w.heap.size) := by
  have hxl : xs.length = o.n := by simpa using hown.1
  have hlen : (xs ++ strCells s).length = (o.n + s.size) * 1 := by rw [List.length_append, hxl, strCells_length, Nat.mul_one]
  have hmx : (140737488355328 : Nat) ≤ maxLen := by unfold maxLen; omega
  have grown : ∀ (old : Nat), old < o.n + s.size → ∀ (row : Option Nat),
      (w.drew.alloc (.cells (xs.toArray ++ (strCells s).toArray ++ Builtin.zeroCells (Value.int .u8 0).cells (grownCap w (o.n + s.size) old e - (o.n + s.size))) e)).ownsRow base e 1
        (.slice (some ⟨w.heap.size, 0, none⟩) (o.n + s.size) (grownCap w (o.n + s.size) old e)) (o.n + s.size) (xs ++ strCells s) ∧
      Keep (fun k => some k = row) w (w.drew.alloc (.cells (xs.toArray ++ (strCells s).toArray ++ Builtin.zeroCells (Value.int .u8 0).cells (grownCap w (o.n + s.size) old e - (o.n + s.size))) e)) := by
    intro old ho row
    have hge := grownCap_ge w (o.n + s.size) old e
    have hcm : grownCap w (o.n + s.size) old e ≤ maxLen := grownCap_le_maxLen w (o.n + s.size) old e (by omega)
    refine ⟨⟨hlen, .inr ⟨w.heap.size, _, _, rfl, hbase, heap_alloc_new w.drew _, hge, hcm, ?_, ?_⟩⟩, ⟨rfl, rfl, rfl, by simp, fun k hk _ => heap_alloc_lt w.drew _ k hk⟩⟩
    · have hz1 : (Value.int IntKind.u8 0).cells.size = 1 := rfl
      simp only [Array.size_append, List.size_toArray, size_zeroCells, hz1, hxl, strCells_length]
      omega
    · simp only [Array.toList_append, List.append_assoc]
      rw [← List.append_assoc, ← hlen]
      exact List.take_left
  rcases hown.2 with ⟨h0, hn0⟩ | ⟨g, cap, cur, hv, hbg, hg, hnc, hcm, hcs, htake⟩
  · injection h0 with hA hN hC
    obtain ⟨A, n, c⟩ := o
    simp only at hA hN hC hn0 hxl grown hbytes hlen
    subst hA; subst hN; subst hC
    have hx : xs = [] := List.eq_nil_of_length_eq_zero hxl
    subst hx
    by_cases hm : s.size = 0
    · have hn : strCells s = [] := List.eq_nil_of_length_eq_zero (by rw [strCells_length]; exact hm)
      refine ⟨⟨none, 0, 0⟩, w, ?_, by simp [hm], by rw [hn]; exact own_nil w base e 1, Keep.refl _ _, .inl rfl⟩
      have hf := run_firstCells_string (P := P) w 1 s
      rw [hm] at hf
      simp [Builtin.append_, run_underlying ht, run_underlying hu, sizeOf, typeInfo, hi, hsize, Builtin.lenOf, hm, hf]
    · have hr := run_append_nil_string (P := P) w t u ty e i (.int .u8 0) ht hu hi hz s (by omega) (by omega) (by rw [hby]; omega)
      have hgr := grown 0 (by omega) none
      simp only [Nat.zero_add, List.nil_append, Array.empty_append] at hgr
      have e1 : (s.data.map fun b => Value.int .u8 b.toNat) = (strCells s).toArray := by
        apply Array.ext'
        simp [strCells]
      rw [e1] at hr
      refine ⟨⟨some ⟨w.heap.size, 0, none⟩, s.size, _⟩, _, hr, by simp, hgr.1, hgr.2, .inr rfl⟩
  · injection hv with hA hN hC
    obtain ⟨A, n, c⟩ := o
    simp only at hA hN hC hnc hcm hcs htake hxl grown hbytes hlen
    subst hA; subst hC
    by_cases hroom : n + s.size ≤ c
    · have hcs' : cur.size = c := by simpa using hcs
      have hr := run_append_room_string (P := P) w t u ty e i ht hu hi hsize g n c cur hg s hroom (by omega)
      refine ⟨⟨some ⟨g, 0, none⟩, n + s.size, c⟩, _, hr, rfl, ⟨hlen, .inr ⟨g, c, _, rfl, hbg, setRow_heap w g cur _ e _ hg, hroom, hcm, ?_, ?_⟩⟩, ⟨rfl, rfl, rfl, by simp, fun k _ hk => setRow_other w g k _ (fun e => hk (by simp [Sl.blk, e]))⟩, .inl rfl⟩
      · simp only [List.size_toArray, List.length_append, List.length_take, List.length_drop, Array.length_toList, strCells_length]
        omega
      · have ht' : cur.toList.take n = xs := by simpa using htake
        rw [ht', ← hlen]
        exact List.take_left
    · have holds : ∀ j u, xs[j]? = some u → w.cell? ((⟨g, 0, none⟩ : Addr).add j) = some u := World.ownsRow.cells hown (g := g) rfl
      have hr := run_append_grow_string (P := P) w t u ty e i (.int .u8 0) ht hu hi hz ⟨g, 0, none⟩ n c xs (by rw [hsize]; simpa using hxl) holds s (by omega) (by omega) (by rw [hby]; exact growslice_fits (by omega) (by omega))
      have hgr := grown c (by omega) (some g)
      exact ⟨⟨some ⟨w.heap.size, 0, none⟩, n + s.size, _⟩, _, hr, rfl, hgr.1, hgr.2, .inr rfl⟩
/-- the bytes of a string, behind a row of one's own -/
theorem append_str_rule {P : Program} {w : World} {base : Nat} {t u ty e : TypeId} (ht : P.underlying t = some (.slice e)) (hu : P.underlying u = some .string)
    (hinfo : (P.info? e).map (fun i => (i.zero, i.size, i.bytes)) = some (some (.int .u8 0), 1, 1)) {o : Sl} {vs l : L8} (hs : Own w base e 1 o (bv vs)) (hbd : o.n + l.length ≤ 140737488355328) (hbase : base ≤ w.heap.size)
    {K : Sl → World → Prop} (h : ∀ o' w', o'.n = o.n + l.length → Own w' base e 1 o' (bv (vs ++ l)) → Keep (fun k => some k = o.blk) w w' → (o'.blk = o.blk ∨ o'.blk = some w.heap.size) → K o' w') :
    RunK P .sl (Builtin.append_ #[t, u] ty #[.slice o.A o.n o.c, .string (str l)]) w K := by
  obtain ⟨i, hi, hzz⟩ := Option.map_eq_some_iff.1 hinfo
  simp only [Prod.mk.injEq] at hzz
  obtain ⟨o', w', hr, hn, hown, hk, hat⟩ := append_str_at base t u ty e i ht hu hi hzz.1 hzz.2.1 hzz.2.2 o (bv vs) hs (str l) (by rw [size_str]; exact hbd) hbase
  refine ⟨o', w', hr, h o' w' (by rw [hn, size_str]) ?_ hk hat⟩
  rw [bv_append, ← strCells_bv l]
  exact hown
/-! ### a row that grows by strings and bytes, in any order of their making -/
structure Ctx (w : World) (e : TypeId) (pb : Nat) (pcs : Array Value) (pt : TypeId) (u : World) (o : Sl) (os : L8) (lits : List (Sl × UInt8)) : Prop where
  own : Own u w.heap.size e 1 o (bv os)
  grow : Grow w u
  blk : Blk u pb pcs pt
  ne : o.blk ≠ some pb
  lit : ∀ p ∈ lits, Rd u 1 p.1 (bv [p.2]) ∧ (∀ b, p.1.blk = some b → b < u.heap.size) ∧ ∀ b, p.1.blk = some b → o.blk ≠ some b
section
variable {P : Program} {w : World} {t e : TypeId} {pb : Nat} {pcs : Array Value} {pt : TypeId} {u : World} {o : Sl} {os : L8} {lits : List (Sl × UInt8)}
theorem Ctx.n (h : Ctx w e pb pcs pt u o os lits) : o.n = os.length := by have := h.own.len; rw [bv_length] at this; omega
/-- behind a growth of the row -/
theorem Ctx.step (h : Ctx w e pb pcs pt u o os lits) {o' : Sl} {u' : World} {os' : L8} (hown : Own u' w.heap.size e 1 o' (bv os')) (hk : Keep (fun k => some k = o.blk) u u')
    (hat : o'.blk = o.blk ∨ o'.blk = some u.heap.size) : Ctx w e pb pcs pt u' o' os' lits := by
  have hpb := lt_of_heap h.blk
  refine ⟨hown, h.grow.keep hk fun i hi q => ?_, hk.heap h.blk fun q => h.ne q.symm, fun q => ?_, fun p hp => ⟨(h.lit p hp).1.keep hk fun a ha _ q => ?_, fun b hb => ?_, fun b hb q => ?_⟩⟩
  · have := (h.own.ge i q.symm).1; omega
  · rcases hat with r | r
    · exact h.ne (by rw [← r]; exact q)
    · rw [r] at q; injection q with q; omega
  · exact (h.lit p hp).2.2 a.block (by simp [Sl.blk, ha]) q.symm
  · have := (h.lit p hp).2.1 b hb; have := hk.size; omega
  · rcases hat with r | r
    · exact (h.lit p hp).2.2 b hb (by rw [← r]; exact q)
    · rw [r] at q; injection q with q; have := (h.lit p hp).2.1 b hb; omega
theorem Ctx.add (h : Ctx w e pb pcs pt u o os lits) {c : UInt8} {z : Int} (hz : z = (c.toNat : Int)) (ht : P.underlying t = some (.slice e))
    (hr : (Instr.buildSlice t 1 #[(0, .int .u8 z)]).run P u = .ok (.slice (some ⟨u.heap.size, 0, none⟩) 1 1) (u.alloc (.cells #[.int .u8 z] e)))
    {K : Sl → World → Prop} (hK : ∀ s u', Ctx w e pb pcs pt u' o os ((s, c) :: lits) → K s u') : RunK P .sl (Instr.buildSlice t 1 #[(0, .int .u8 z)]) u K := by
  subst hz
  refine ⟨⟨some ⟨u.heap.size, 0, none⟩, 1, 1⟩, _, hr, ?_⟩
  have hg : Grow u (u.alloc (.cells #[.int .u8 (c.toNat : Int)] e)) := keep_alloc u _
  refine hK _ _ ⟨h.own.grow hg, h.grow.trans hg, hg.heap h.blk (fun q => q), h.ne, fun p hp => ?_⟩
  rcases List.mem_cons.1 hp with rfl | hp
  · refine ⟨⟨rfl, Nat.le_refl _, by show 1 ≤ _; decide, fun _ => ⟨_, rfl, fun j v hj => ?_⟩⟩, fun b hb => ?_, fun b hb q => ?_⟩
    · rw [add0, Nat.zero_add]
      unfold World.cell?
      simp only [World.alloc, Array.getElem?_push, if_true]
      simpa [bv] using hj
    · simp only [Sl.blk, Option.map_some, Option.some.injEq] at hb; subst hb; simp
    · simp only [Sl.blk, Option.map_some, Option.some.injEq] at hb; subst hb
      have := (h.own.ge _ q).2; omega
  · obtain ⟨h1, h2, h3⟩ := h.lit p hp
    exact ⟨h1.grow hg, fun b hb => by have := h2 b hb; have := hg.size; omega, h3⟩
theorem Ctx.str (h : Ctx w e pb pcs pt u o os lits) {l : L8} {tu ty : TypeId} (ht : P.underlying t = some (.slice e)) (hu : P.underlying tu = some .string)
    (hinfo : (P.info? e).map (fun i => (i.zero, i.size, i.bytes)) = some (some (.int .u8 0), 1, 1)) (hbd : os.length + l.length ≤ 140737488355328)
    {K : Sl → World → Prop} (hK : ∀ s u', Ctx w e pb pcs pt u' s (os ++ l) lits → K s u') : RunK P .sl (Builtin.append_ #[t, tu] ty #[.slice o.A o.n o.c, .string (CF.str l)]) u K :=
  append_str_rule ht hu hinfo h.own (by rw [h.n]; exact hbd) h.grow.size fun o' w' _ hown hk hat => hK _ _ (h.step hown hk hat)
theorem Ctx.app (h : Ctx w e pb pcs pt u o os lits) {s : Sl} {c : UInt8} {ty : TypeId} (hm : (s, c) ∈ lits) (ht : P.underlying t = some (.slice e))
    (hinfo : (P.info? e).map (fun i => (i.zero, i.size, i.bytes)) = some (some (.int .u8 0), 1, 1)) (hbd : os.length + 1 ≤ 140737488355328)
    {K : Sl → World → Prop} (hK : ∀ s' u', Ctx w e pb pcs pt u' s' (os ++ [c]) lits → K s' u') : RunK P .sl (Builtin.append_ #[t, t] ty #[.slice o.A o.n o.c, .slice s.A s.n s.c]) u K := by
  have hs := (h.lit _ hm).1
  have hn : s.n = 1 := by have := hs.len; simp [bv] at this; omega
  refine append_rule ht hinfo rfl (by decide) (by decide) h.own hs (by simp [bv, Value.oneCell']) (by rw [hn, h.n]; omega) h.grow.size fun o' w' _ hown hk hat => hK _ _ (h.step (by rw [bv_append]; exact hown) hk hat)
end
end Go.Proofs.Ytaneeadpjelomaa.CF
