import Derived.Lib.ConvBytes
import Derived.Test.YtpmebahhjgkflaaGreatDoorB8
/- Layers 2 and 13: the walks of the guard, of tuples and of blocks over the wire. -/
namespace Go.Proofs.YtpmebahhjgkflaaGreatDoor
open Go CF
set_option maxRecDepth 100000

/-! ### blocks in memory -/
end Go.Proofs.YtpmebahhjgkflaaGreatDoor

/- What a command brings: a sense, a result. -/
namespace Go.Proofs.YtpmebahhjgkflaaGreatDoor
open Go CF
set_option maxRecDepth 100000

/-- a sense -/
structure Sn where
  key : Nat
  code : Nat
  info : Nat
  hi : Bool
  field : Int
  bit : Int
  hf : Bool
  ic : Bool
def sn0 : Sn := ⟨0, 0, 0, false, 0, 0, false, false⟩
def snv (s : Sn) : List Value := [.int .u8 (s.key : Int), .int .u16 (s.code : Int), .int .u64 (s.info : Int), .bool s.hi, .int .i64 s.field, .int .i64 s.bit, .bool s.hf, .bool s.ic]
/-- a result: status, sense, data -/
def rsv (st : Nat) (s : Sn) (d : Sl) : List Value := [.int .u8 (st : Int)] ++ snv s ++ [.slice d.A d.n d.c]
abbrev nilS : Sl := ⟨none, 0, 0⟩
theorem rsv_ones (st : Nat) (s : Sn) (d : Sl) : (rsv st s d).toArray.all (·.oneCell') = true := by simp [rsv, snv, Value.oneCell']
theorem rLoad {w : World} {a : Addr} {st : Nat} {s : Sn} {d : Sl} (h : Cells w a (rsv st s d)) : (loadVar t_api_Result a).run Tryz.prog w = .ok (.agg (rsv st s d).toArray) w := loadVar_rule g_api_Result i_api_Result rfl h
theorem sLoad {w : World} {a : Addr} {s : Sn} (h : Cells w a (snv s)) : (loadVar t_api_Sense a).run Tryz.prog w = .ok (.agg (snv s).toArray) w := loadVar_rule g_api_Sense i_api_Sense rfl h
/-- a result that is laid and handed back -/
theorem ret_rule {w : World} {a : Nat} {old : Array Value} {st : Nat} {s : Sn} {d : Sl} {K : Array Value → World → Prop} (hb : Blk w a old t_api_Result) (ho : old.size = 10)
    (h : ∀ w', Keep (fun k => k = a) w w' → K (rsv st s d).toArray w') :
    RunU Tryz.prog (storeVar t_api_Result ⟨a, 0, none⟩ (.agg (rsv st s d).toArray)) w fun w' => ∃ res : Array Value, (loadVar t_api_Result ⟨a, 0, none⟩).run Tryz.prog w' = .ok (.agg res) w' ∧ K res w' :=
  storeVar_rule (cells := (rsv st s d).toArray) hb i_api_Result rfl ho (rsv_ones _ _ _) fun w1 hb1 hk1 _ => ⟨_, rLoad (blk_cells hb1), h w1 hk1⟩
/-- a result that is laid into a variable -/
theorem lay_rule {w : World} {a : Nat} {old : Array Value} {st : Nat} {s : Sn} {d : Sl} {K : World → Prop} (hb : Blk w a old t_api_Result) (ho : old.size = 10)
    (h : ∀ w', Blk w' a (rsv st s d).toArray t_api_Result → Keep (fun k => k = a) w w' → w'.heap.size = w.heap.size → K w') : RunU Tryz.prog (storeVar t_api_Result ⟨a, 0, none⟩ (.agg (rsv st s d).toArray)) w K :=
  storeVar_rule (cells := (rsv st s d).toArray) hb i_api_Result rfl ho (rsv_ones _ _ _) h
theorem grow_new {w u v : World} {a : Nat} (hg : Grow w u) (ha : w.heap.size ≤ a) (hk : Keep (fun k => k = a) u v) : Grow w v := hg.keep hk fun i hi q => by omega
end Go.Proofs.YtpmebahhjgkflaaGreatDoor

/- Layer 13: blocks packed and unpacked. -/
namespace Go.Proofs.YtpmebahhjgkflaaGreatDoor
open Go CF
set_option maxRecDepth 100000

theorem own_n' {w : World} {base : Nat} {e : TypeId} {s : Sl} {l : L8} (h : Own w base e 1 s (bv l)) : s.n = l.length := by have := h.len; rw [bv_length] at this; omega
theorem rd_n' {w : World} {s : Sl} {l : L8} (h : Rd w 1 s (bv l)) : l.length = s.n := by have := h.len; rw [bv_length] at this; omega
theorem own_grow' {w u u' : World} {base : Nat} {e : TypeId} {z : Nat} {s : Sl} {vs : List Value} (hg : Grow w u) (ho : Own u base e z s vs) (hb : w.heap.size ≤ base) (hk : Keep (fun k => some k = s.blk) u u') : Grow w u' :=
  hg.keep hk fun i hi q => by have := (ho.ge i q.symm).1; omega
/-! ### unpacked -/
end Go.Proofs.YtpmebahhjgkflaaGreatDoor

/- Rows of bytes of one's own that grow; the bytes of a string. -/
namespace Go.Proofs.YtpmebahhjgkflaaGreatDoor
open Go CF
set_option maxRecDepth 100000

/-- a row of bytes that began behind w0 -/
structure Row (w0 u : World) (p : Sl) (l : L8) : Prop where
  own : Own u w0.heap.size t_uint8 1 p (bv l)
  grow : Grow w0 u
section
variable {w0 u u' : World} {p : Sl} {os : L8}
theorem Row.n (h : Row w0 u p os) : p.n = os.length := own_n' h.own
theorem Row.nil (h : Grow w0 u) : Row w0 u nilS [] := ⟨own_nil _ _ _ _, h⟩
theorem Row.step {p' : Sl} {os' : L8} (h : Row w0 u p os) (hown : Own u' w0.heap.size t_uint8 1 p' (bv os')) (hk : Keep (fun k => some k = p.blk) u u') : Row w0 u' p' os' := ⟨hown, own_grow' h.grow h.own (Nat.le_refl _) hk⟩
theorem Row.go (h : Row w0 u p os) (g : Grow u u') : Row w0 u' p os := ⟨h.own.grow g, h.grow.trans g⟩
theorem Row.keep {S : Nat → Prop} (h : Row w0 u p os) (k : Keep S u u') (hs : ∀ b, p.blk = some b → ¬ S b) (hg : ∀ i, i < w0.heap.size → ¬ S i) : Row w0 u' p os := ⟨h.own.keep k hs, h.grow.keep k hg⟩
/-- a block of another type is none of the row's -/
theorem Row.ne (h : Row w0 u p os) {b : Nat} {cs : Array Value} {t : TypeId} (hb : Blk u b cs t) (ht : t ≠ t_uint8) : some b ≠ p.blk := fun q => by
  obtain ⟨cur, hc⟩ := own_heap h.own q.symm
  exact ht (blk_type hb hc)
theorem Row.blk (h : Row w0 u p os) (hk : Keep (fun k => some k = p.blk) u u') {b : Nat} {cs : Array Value} {t : TypeId} (hb : Blk u b cs t) (ht : t ≠ t_uint8) : Blk u' b cs t := hk.heap hb (h.ne hb ht)
theorem Row.rd (h : Row w0 u p os) (hl : os.length ≤ 140737488355328) : Rd u 1 p (bv os) := h.own.rd (by have := h.n; omega)
theorem Row.app (h : Row w0 u p os) {x : Sl} {l : L8} (hx : Rd u 1 x (bv l)) (hb : os.length + l.length ≤ 140737488355328) {ty : TypeId} {K : Sl → World → Prop} (hK : ∀ p' u', Row w0 u' p' (os ++ l) → Keep (fun k => some k = p.blk) u u' → K p' u') :
    RunK Tryz.prog .sl (Builtin.append_ #[t_sl_uint8, t_sl_uint8] ty #[.slice p.A p.n p.c, .slice x.A x.n x.c]) u K := by
  have hxn := rd_n' hx
  have hpn := h.n
  refine append_rule u_sl_uint8 i_uint8 rfl (by decide) (by decide) h.own hx (bv_one' _) (by omega) h.grow.size fun s' w' hn hown hk _ => hK s' w' (h.step ?_ hk) hk
  rw [bv_append]; exact hown
theorem Row.str (h : Row w0 u p os) {l : L8} (hb : os.length + l.length ≤ 140737488355328) {ty : TypeId} {K : Sl → World → Prop} (hK : ∀ p' u', Row w0 u' p' (os ++ l) → Keep (fun k => some k = p.blk) u u' → K p' u') :
    RunK Tryz.prog .sl (Builtin.append_ #[t_sl_uint8, t_string] ty #[.slice p.A p.n p.c, .string (CF.str l)]) u K := by
  have hpn := h.n
  exact append_str_rule u_sl_uint8 u_string i_uint8 h.own (by omega) h.grow.size fun o' w' _ hown hk _ => hK o' w' (h.step hown hk) hk
theorem Row.lit (h : Row w0 u p os) {n : Nat} {parts : Array (Nat × Value)} {l : L8} {t ty : TypeId} (hr : (Instr.buildSlice t n parts).run Tryz.prog u = .ok (.slice (some ⟨u.heap.size, 0, none⟩) n n) (u.alloc (.cells (bv l).toArray t_uint8))) (hn : n = l.length)
    (hb : os.length + l.length ≤ 140737488355328) {K : Sl → World → Prop} (hK : ∀ p' u', Row w0 u' p' (os ++ l) → Keep (fun k => some k = p.blk) u u' → K p' u') :
    RunK Tryz.prog .sl (Instr.buildSlice t n parts) u fun xs u1 => RunK Tryz.prog .sl (Builtin.append_ #[t_sl_uint8, t_sl_uint8] ty #[.slice p.A p.n p.c, .slice xs.A xs.n xs.c]) u1 K := by
  refine lit_rule (cells := (bv l).toArray) (e := t_uint8) (z := 1) (base := 0) hr (by simp [bv, hn]) (by omega) (Nat.zero_le _) fun u1 hown1 hg1 _ => ?_
  have hx : Rd u1 1 ⟨some ⟨u.heap.size, 0, none⟩, n, n⟩ (bv l) := hown1.rd (by show n ≤ _; omega)
  refine (h.go hg1).app hx hb fun p' u' hr' hk => hK p' u' hr' ⟨hk.os.trans hg1.os, hk.tape.trans hg1.tape, hk.output.trans hg1.output, Nat.le_trans hg1.size hk.size, fun k hlt hne => (hk.block k (by have := hg1.size; omega) hne).trans (hg1.block k hlt (fun q => q))⟩
theorem Row.start {n : Nat} {parts : Array (Nat × Value)} {l : L8} {t : TypeId} (hr : (Instr.buildSlice t n parts).run Tryz.prog u = .ok (.slice (some ⟨u.heap.size, 0, none⟩) n n) (u.alloc (.cells (bv l).toArray t_uint8))) (hn : n = l.length) (hb : l.length ≤ 140737488355328)
    {K : Sl → World → Prop} (hK : ∀ p' u', Row u u' p' l → K p' u') : RunK Tryz.prog .sl (Instr.buildSlice t n parts) u K :=
  lit_rule (cells := (bv l).toArray) (e := t_uint8) (z := 1) (base := u.heap.size) hr (by simp [bv, hn]) (by omega) (Nat.le_refl _) fun u1 hown1 hg1 _ => hK _ u1 ⟨hown1, hg1⟩
theorem keep_grow_first {S : Nat → Prop} {a b c : World} (g : Grow a b) (k : Keep S b c) : Keep S a c := Keep.trans (g.mono fun _ _ q => q.elim) k fun _ _ q => q
/-- elements of slices of one cell each -/
theorem rd_val {w : World} {s : Sl} {vs : List Value} (h : Rd w 1 s vs) {i : Nat} (hi : i < vs.length) : s.A.isSome = true ∧ w.cell? ((gA s.A).add (i * 1)) = some vs[i] := by
  have hne : vs ≠ [] := fun q => by rw [q] at hi; simp at hi
  obtain ⟨a, ha, hc⟩ := h.at_ hne
  rw [ha]
  exact ⟨rfl, by rw [Nat.mul_one]; exact hc i _ (List.getElem?_eq_getElem hi)⟩
end
end Go.Proofs.YtpmebahhjgkflaaGreatDoor

/- Layer 7: what each nexus has still to be told. -/
namespace Go.Proofs.YtpmebahhjgkflaaGreatDoor
open Go CF
set_option maxRecDepth 100000

/-! ### as it is meant -/
def rankX (n : Nat) : Nat := if n / 256 = 41 then 0 else if n = 12032 then 1 else if n / 256 = 42 ∧ n ≠ 10753 then 2 else 3
def baseA (l : List Nat) (c : Nat) : List Nat := if c = 10496 then [] else l
def addA (l : List Nat) (c : Nat) : List Nat := if c ∈ baseA l c then l else if (baseA l c).length < 8 then baseA l c ++ [c] else l
def bestN (l : List Nat) : Nat → Option Nat
  | 0 => none
  | k + 1 => match bestN l k with
    | none => some k
    | some b => if rankX (l.getD k 0) < rankX (l.getD b 0) then some k else some b
def peekX (l : List Nat) : Option Nat := (bestN l l.length).map fun i => l.getD i 0
def nextX (l : List Nat) : List Nat := match bestN l l.length with
  | none => l
  | some i => l.take i ++ l.drop (i + 1)
theorem bestN_lt (l : List Nat) : ∀ k b, bestN l k = some b → b < k
  | 0, b, h => by cases h
  | k + 1, b, h => by
    unfold bestN at h
    split at h
    · injection h with h; omega
    · rename_i b' hb
      have := bestN_lt l k b' hb
      split at h <;> (injection h with h; omega)
theorem addA_ok {l : List Nat} {c : Nat} (hl : l.length ≤ 8) (hc : c < 65536) (h : ∀ x ∈ l, x < 65536) : (addA l c).length ≤ 8 ∧ ∀ x ∈ addA l c, x < 65536 := by
  unfold addA
  split
  · exact ⟨hl, h⟩
  split
  · rename_i hb
    refine ⟨by rw [List.length_append]; simp only [List.length_singleton]; omega, fun x hx => ?_⟩
    rcases List.mem_append.1 hx with q | q
    · unfold baseA at q
      split at q
      · cases q
      · exact h x q
    · rw [List.mem_singleton.1 q]; exact hc
  · exact ⟨hl, h⟩
theorem nextX_ok {l : List Nat} (hl : l.length ≤ 8) (h : ∀ x ∈ l, x < 65536) : (nextX l).length ≤ 8 ∧ ∀ x ∈ nextX l, x < 65536 := by
  unfold nextX
  split
  · exact ⟨hl, h⟩
  · refine ⟨by rw [List.length_append, List.length_take, List.length_drop]; omega, fun x hx => ?_⟩
    rcases List.mem_append.1 hx with q | q
    · exact h x (List.mem_of_mem_take q)
    · exact h x (List.mem_of_mem_drop q)
/-! ### in memory -/
def u16v (l : List Nat) : List Value := l.map fun n : Nat => .int .u16 (n : Int)
theorem u16v_len (l : List Nat) : (u16v l).length = l.length := List.length_map ..
theorem u16v_one (l : List Nat) : ∀ v ∈ u16v l, v.oneCell' = true := fun v hv => by
  obtain ⟨n, _, rfl⟩ := List.mem_map.1 hv; rfl
theorem u16v_append (a b : List Nat) : u16v (a ++ b) = u16v a ++ u16v b := List.map_append ..
def slv (s : Sl) : Value := .slice s.A s.n s.c
/-- the types whose rows units keep -/
def rowT (t : TypeId) : Prop := t = t_uint16 ∨ t = t_api_Reg ∨ t = t_p_unit_Unit
/-- what is written over is N's, or holds no row that a unit keeps -/
def Safe (w : World) (N S : Nat → Prop) : Prop := ∀ b, b < w.heap.size → S b → N b ∨ ∃ cs t, Blk w b cs t ∧ ¬ rowT t
theorem Safe.sub {w : World} {N S : Nat → Prop} (h : ∀ b, b < w.heap.size → S b → N b) : Safe w N S := fun b hb q => .inl (h b hb q)
theorem Safe.none (w : World) (N : Nat → Prop) : Safe w N fun _ => False := fun _ _ q => q.elim
/-- a row that a unit keeps, outside a set -/
structure RdN (w : World) (N : Nat → Prop) (e : TypeId) (z : Nat) (s : Sl) (vs : List Value) : Prop where
  own : CF.Own w 0 e z s vs
  small : s.n ≤ 140737488355328
  out : ∀ b, s.blk = some b → ¬ N b
theorem RdN.rd {w : World} {N : Nat → Prop} {e : TypeId} {z : Nat} {s : Sl} {vs : List Value} (h : RdN w N e z s vs) : Rd w z s vs := h.own.rd (by have := h.small; omega)
theorem RdN.nil (w : World) (N : Nat → Prop) (e : TypeId) (z : Nat) : RdN w N e z nilS [] := ⟨own_nil _ _ _ _, by decide, fun b h => by simp [Sl.blk] at h⟩
theorem RdN.step {S N N' : Nat → Prop} {w u : World} {e : TypeId} {z : Nat} {s : Sl} {vs : List Value} (h : RdN w N e z s vs) (he : rowT e) (k : Keep S w u) (hS : Safe w N S) (hN : ∀ b, N' b → N b ∨ w.heap.size ≤ b) : RdN u N' e z s vs := by
  have hlt : ∀ b, s.blk = some b → b < w.heap.size := fun b hb => by obtain ⟨cur, hc⟩ := own_heap h.own hb; exact lt_of_heap hc
  refine ⟨h.own.keep k fun b hb q => ?_, h.small, fun b hb q => ?_⟩
  · rcases hS b (hlt b hb) q with r | ⟨cs, t, hb2, ht⟩
    · exact h.out b hb r
    · obtain ⟨cur, hc⟩ := own_heap h.own hb
      exact ht (by rw [blk_type hb2 hc]; exact he)
  · rcases hN _ q with r | r
    · exact h.out b hb r
    · have := hlt b hb; omega
theorem RdN.grow {N : Nat → Prop} {w u : World} {e : TypeId} {z : Nat} {s : Sl} {vs : List Value} (h : RdN w N e z s vs) (k : Grow w u) : RdN u N e z s vs := ⟨h.own.grow k, h.small, h.out⟩
theorem CF.Own.rdN {w v : World} {N : Nat → Prop} {e : TypeId} {z : Nat} {s : Sl} {vs : List Value} (h : CF.Own v w.heap.size e z s vs) (hn : s.n ≤ 140737488355328) (hN : ∀ b, N b → b < w.heap.size) : RdN v N e z s vs :=
  ⟨h.mono (Nat.zero_le _), hn, fun b hb q => by
    have := h.ge b hb
    have := hN _ q; omega⟩
structure IsQ (w : World) (N : Nat → Prop) (qb : Nat) (q : Nat → List Nat) : Prop where
  rep : ∃ ss : List Sl, ss.length = 8 ∧ Blk w qb (ss.map slv).toArray t_attn_Queues ∧ ∀ i (h : i < ss.length), RdN w N t_uint16 1 ss[i] (u16v (q i))
  few : ∀ i, i < 8 → (q i).length ≤ 8 ∧ ∀ c ∈ q i, c < 65536
section
variable {w u : World} {N N' S : Nat → Prop} {qb i : Nat} {q : Nat → List Nat}
theorem IsQ.step (h : IsQ w N qb q) (k : Keep S w u) (hS : Safe w N S) (hq : ¬ S qb) (hN : ∀ b, N' b → N b ∨ w.heap.size ≤ b) : IsQ u N' qb q := by
  obtain ⟨⟨ss, h1, h2, h3⟩, h4⟩ := h
  exact ⟨⟨ss, h1, k.heap h2 hq, fun i hi => (h3 i hi).step (.inl rfl) k hS hN⟩, h4⟩
theorem IsQ.grow (h : IsQ w N qb q) (k : Grow w u) : IsQ u N qb q := h.step k (Safe.none _ _) (fun q => q) fun _ q => .inl q
theorem IsQ.lt (h : IsQ w N qb q) : qb < w.heap.size := by
  obtain ⟨⟨ss, h1, h2, h3⟩, h4⟩ := h
  exact lt_of_heap h2
theorem shr8 {n : Nat} : bShr .u16 (n : Int) 8 = ((n / 256 : Nat) : Int) := shr .u16 n 8 (by decide)
theorem rank_spec {n : Nat} {R : Int → World → Prop} (h : R (rankX n : Int) w) : Cattn_rank (n : Int) w R := by
  refine Fattn_rank.calls _ _ _ ?_
  unfold Fattn_rank
  rw [shr8]
  unfold rankX at h
  refine br_eq (fun e => ?_) (fun e => br_eq (fun e1 => ?_) (fun e1 => ?_))
  · rw [if_pos (by omega)] at h; exact h
  · rw [if_neg (by omega), if_pos (by omega)] at h; exact h
  · rw [if_neg (by omega), if_neg (by omega)] at h
    by_cases q : n / 256 = 42 ∧ n ≠ 10753
    · rw [if_pos q] at h
      refine br_t ?_ h
      simp only [Bool.and_eq_true, beq_iff_eq, bne_iff_ne, ne_eq]
      omega
    · rw [if_neg q] at h
      refine br_f ?_ h
      rw [Bool.eq_false_iff]
      simp only [ne_eq, Bool.and_eq_true, beq_iff_eq, bne_iff_ne]
      omega
theorem qin_spec {R : Bool → World → Prop} (hi : i < 8) (h : R true w) : Cattn_Queues_in (some ⟨qb, 0, none⟩) (i : Int) w R := by
  refine Fattn_Queues_in.calls _ _ _ _ ?_
  unfold Fattn_Queues_in
  have e : (((!(some (⟨qb, 0, none⟩ : Addr)).isNone) && (decide ((i : Int) ≥ 0))) && (decide ((i : Int) < 8))) = true := by simp; omega
  rw [e]; exact h
theorem q_cell (ss : List Sl) (hb : Blk w qb (ss.map slv).toArray t_attn_Queues) (hi : i < ss.length) : w.cell? (((gA (some (⟨qb, 0, none⟩ : Addr))).add 0).add ((i : Int).toNat * 1)) = some (.slice ss[i].A ss[i].n ss[i].c) := by
  rw [gA, add0, add0, hb.cell, Int.toNat_natCast]
  simp [hi, slv]
theorem best_first {R : Int → World → Prop} (h : IsQ w N qb q) (hi : i < 8) (hR : ∀ w', Grow w w' → R (match bestN (q i) (q i).length with | none => -1 | some b => (b : Int)) w') : Cattn_Queues_first (some ⟨qb, 0, none⟩) (i : Int) w R := by
  refine Fattn_Queues_first.calls _ _ _ _ (qin_spec hi (br_f rfl ?_))
  obtain ⟨⟨ss, h1, h2, h3⟩, h4⟩ := h
  have hi' : i < ss.length := by omega
  have hr := h3 i hi'
  have hlen : (q i).length = ss[i].n := by have := hr.rd.len; rw [u16v_len] at this; omega
  have hsm := (h4 i hi).1
  refine ⟨rfl, ⟨by omega, by omega⟩, ss[i], q_cell ss h2 hi', ?_⟩
  refine ⟨fun b x v => ∃ j : Nat, x = j ∧ j ≤ (q i).length ∧ Grow w v ∧ b = (match bestN (q i) j with | none => -1 | some b => (b : Int)), fun _ x _ => ss[i].n - x.toNat, ⟨0, rfl, Nat.zero_le _, Keep.refl _ _, rfl⟩, ?_⟩
  rintro b x v ⟨j, rfl, hj, hg, rfl⟩
  refine br_nat (fun hlt => ?_) (fun hge => ?_)
  · have hjl : j < (q i).length := by omega
    have hrv := hr.rd.grow hg
    obtain ⟨ha, hc⟩ := rd_val hrv (i := j) (by rw [u16v_len]; exact hjl)
    have hev : ∀ {t : Nat} (ht : t < (q i).length), (u16v (q i))[t]'(by rw [u16v_len]; exact ht) = .int .u16 (((q i).getD t 0 : Nat) : Int) := fun ht => by
      unfold u16v; rw [List.getElem_map, List.getD_eq_getElem?_getD, List.getElem?_eq_getElem ht]; rfl
    rw [hev hjl] at hc
    have step : ∀ {b1 : Int} {v' : World}, Grow v v' → b1 = (match bestN (q i) (j + 1) with | none => -1 | some b => (b : Int)) →
        (fun (b : Int) (x : Int) (v : World) => ∃ j : Nat, x = j ∧ j ≤ (q i).length ∧ Grow w v ∧ b = (match bestN (q i) j with | none => -1 | some b => (b : Int))) b1 (IntKind.wrap .i64 ((j : Int) + 1)) v' ∧ ss[i].n - (IntKind.wrap .i64 ((j : Int) + 1)).toNat < ss[i].n - (j : Int).toNat := fun g e => by
      rw [w64 (by omega) (by omega)]
      exact ⟨⟨j + 1, by omega, by omega, hg.trans g, e⟩, by omega⟩
    refine letX1 (fun b1 v' => Grow v v' ∧ b1 = (match bestN (q i) (j + 1) with | none => -1 | some b => (b : Int))) (fun b1 v' hb => step hb.1 hb.2) (fun J => ?_)
    refine ⟨⟨by omega, by omega, ha⟩, _, by rw [Int.toNat_natCast]; exact hc, ?_⟩
    rintro v1 rfl
    have hgd := keep_drew v
    have hg1 := hg.trans hgd
    have hb2 : Blk v.drew qb (ss.map slv).toArray t_attn_Queues := hg1.heap h2 (fun q => q)
    have hrd := hr.rd.grow hg1
    generalize v.drew = v1 at *
    cases hb : bestN (q i) j with
    | none =>
      dsimp only
      have e : bestN (q i) (j + 1) = some j := by unfold bestN; rw [hb]
      have nb : ∀ {P : Prop}, (!(decide ((-1 : Int) < 0))) = true → P := fun q => by simp at q
      refine ⟨fun o => o = v1, rfl, nb, nb, nilS, nb, nb, 0, nb, ?_⟩
      refine letJ1 (fun _ o => o = v1) ?_ (fun J2 => ⟨nb, fun _ => J2 _ _ rfl⟩)
      rintro _ o rfl
      refine ⟨rfl, ?_⟩
      refine letJ1 (fun _ o' => o' = o) ?_ (fun J2 => ⟨nb, fun _ => J2 _ _ rfl⟩)
      rintro _ o' rfl
      exact br_t rfl (J _ _ ⟨hgd, by rw [e]⟩)
    | some b =>
      dsimp only
      have hbj := bestN_lt _ _ _ hb
      obtain ⟨_, hcb⟩ := rd_val hrd (i := b) (by rw [u16v_len]; omega)
      rw [hev (by omega)] at hcb
      have nb : (!(decide (((b : Nat) : Int) < 0))) = true := by rw [Bool.not_eq_true', decide_eq_false_iff_not]; omega
      have nb' : ∀ {P : Prop}, (!(decide (((b : Nat) : Int) < 0))) = false → P := fun q => by rw [nb] at q; cases q
      refine ⟨fun o => o = v1, rfl, fun _ => rfl, fun _ => ⟨by omega, by omega⟩, ss[i], fun _ o e => by rw [e]; exact q_cell ss hb2 hi', fun _ => ⟨by omega, by omega, ha⟩, _, fun _ o e => by rw [e, Int.toNat_natCast]; exact hcb, ?_⟩
      refine letJ1 (fun n o => o = v1 ∧ n = (rankX ((q i).getD j 0) : Int)) ?_ (fun J2 => ⟨fun _ => rank_spec (J2 _ _ ⟨rfl, rfl⟩), nb'⟩)
      rintro n2 o ⟨rfl, rfl⟩
      refine ⟨rfl, ?_⟩
      refine letJ1 (fun n o' => o' = o ∧ n = (rankX ((q i).getD b 0) : Int)) ?_ (fun J2 => ⟨fun _ => rank_spec (J2 _ _ ⟨rfl, rfl⟩), nb'⟩)
      rintro n3 o' ⟨rfl, rfl⟩
      by_cases hlt2 : rankX ((q i).getD j 0) < rankX ((q i).getD b 0)
      · refine br_t (by rw [Bool.or_eq_true]; right; rw [decide_eq_true_eq]; omega) (J _ _ ⟨hgd, ?_⟩)
        have e : bestN (q i) (j + 1) = some j := by unfold bestN; rw [hb]; exact if_pos hlt2
        rw [e]
      · refine br_f (by rw [Bool.or_eq_false_iff]; exact ⟨by rw [decide_eq_false_iff_not]; omega, by rw [decide_eq_false_iff_not]; omega⟩) (J _ _ ⟨hgd, ?_⟩)
        have e : bestN (q i) (j + 1) = some b := by unfold bestN; rw [hb]; exact if_neg hlt2
        rw [e]
  · have : j = (q i).length := by omega
    subst this
    exact hR v hg
theorem q_at {l : List Nat} {s : Sl} (h : Rd w 1 s (u16v l)) {b : Nat} (hb : b < l.length) : s.A.isSome = true ∧ w.cell? ((gA s.A).add (b * 1)) = some (.int .u16 ((l.getD b 0 : Nat) : Int)) := by
  obtain ⟨h1, h2⟩ := rd_val h (i := b) (by rw [u16v_len]; exact hb)
  refine ⟨h1, h2.trans ?_⟩
  unfold u16v; rw [List.getElem_map, List.getD_eq_getElem?_getD, List.getElem?_eq_getElem hb]; rfl
theorem peek_spec {R : Int → Bool → World → Prop} (h : IsQ w N qb q) (hi : i < 8) (hR : ∀ w', Grow w w' → match peekX (q i) with | none => R 0 false w' | some c => R (c : Int) true w') : Cattn_Queues_Peek (some ⟨qb, 0, none⟩) (i : Int) w R := by
  refine Fattn_Queues_Peek.calls _ _ _ _ (best_first h hi fun w' g => ?_)
  have hR := hR w' g
  unfold peekX at hR
  have h := h.grow g
  cases hb : bestN (q i) (q i).length with
  | none => rw [hb] at hR; exact br_t rfl hR
  | some b =>
    rw [hb] at hR
    have hbl := bestN_lt _ _ _ hb
    refine br_f (by simp) ?_
    dsimp only
    obtain ⟨⟨ss, h1, h2, h3⟩, h4⟩ := h
    have hi' : i < ss.length := by omega
    have hr := h3 i hi'
    have hlen : (q i).length = ss[i].n := by have := hr.rd.len; rw [u16v_len] at this; omega
    obtain ⟨ha, hc⟩ := q_at hr.rd hbl
    exact ⟨rfl, ⟨by omega, by omega⟩, ss[i], q_cell ss h2 hi', ⟨by omega, by omega, ha⟩, _, by rw [Int.toNat_natCast]; exact hc, hR⟩
theorem IsQ.put (h : IsQ w N qb q) (hi : i < 8) (hN : N qb) {s : Sl} {l : List Nat} (hs : RdN w N t_uint16 1 s (u16v l)) (hl : l.length ≤ 8 ∧ ∀ c ∈ l, c < 65536) {K : World → Prop}
    (hK : ∀ w', Keep (fun k => k = qb) w w' → w'.heap.size = w.heap.size → IsQ w' N qb (fun j => if j = i then l else q j) → K w') : Put (((gA (some (⟨qb, 0, none⟩ : Addr))).add 0).add ((i : Int).toNat * 1)) (.slice s.A s.n s.c) w K := by
  obtain ⟨⟨ss, h1, h2, h3⟩, h4⟩ := h
  rw [gA, add0, add0, Int.toNat_natCast]
  refine put_rule h2 (by simp; omega) rfl fun w1 hb1 hk1 hs1 => hK w1 hk1 hs1 ⟨⟨ss.set i s, by rw [List.length_set]; exact h1, ?_, fun j hj => ?_⟩, fun j hj => ?_⟩
  · rw [List.map_set]
    have : (ss.map slv).toArray.setIfInBounds (0 + 0 + i * 1) (.slice s.A s.n s.c) = ((ss.map slv).set i (slv s)).toArray := by rw [List.setIfInBounds_toArray]; simp [slv]
    rw [← this]; exact hb1
  · have st : ∀ {s : Sl} {vs : List Value}, RdN w N t_uint16 1 s vs → RdN w1 N t_uint16 1 s vs := fun r => r.step (.inl rfl) hk1 (Safe.sub fun b _ q => by rw [q]; exact hN) fun _ q => .inl q
    by_cases e : j = i
    · subst e
      rw [List.getElem_set_self, if_pos rfl]
      exact st hs
    · rw [List.getElem_set_ne (fun q => e q.symm), if_neg e]
      exact st (h3 j _)
  · by_cases e : j = i
    · subst e; rw [if_pos rfl]; exact hl
    · rw [if_neg e]; exact h4 j hj
theorem lit_u16 (w : World) (n : Int) : (Instr.buildSlice t_sl_uint16 1 #[(0, .int .u16 n)]).run Tryz.prog w = .ok (.slice (some ⟨w.heap.size, 0, none⟩) 1 1) (w.alloc (.cells #[.int .u16 n] t_uint16)) := by kernel_rfl
theorem add_spec {c : Nat} {R : World → Prop} (h : IsQ w N qb q) (hi : i < 8) (hc : c < 65536) (hN : N qb) (hNl : ∀ b, N b → b < w.heap.size)
    (hR : ∀ w', Keep (fun k => k = qb) w w' → IsQ w' N qb (fun j => if j = i then addA (q i) c else q j) → R w') : Cattn_Queues_Add (some ⟨qb, 0, none⟩) (i : Int) (c : Int) w R := by
  refine Fattn_Queues_Add.calls _ _ _ _ _ (qin_spec hi (br_f rfl ?_))
  have hq := h
  have hok := addA_ok (l := q i) (c := c) (h.few i hi).1 hc (h.few i hi).2
  obtain ⟨⟨ss, h1, h2, h3⟩, h4⟩ := h
  have hi' : i < ss.length := by omega
  have hr := h3 i hi'
  have hlen : (q i).length = ss[i].n := by have := hr.rd.len; rw [u16v_len] at this; omega
  have hsm := (h4 i hi).1
  refine ⟨rfl, ⟨by omega, by omega⟩, ss[i], q_cell ss h2 hi', ?_⟩
  have same : addA (q i) c = q i → R w := fun e => hR w (Keep.refl _ _) (by
    have : (fun j => if j = i then addA (q i) c else q j) = q := by
      funext j
      by_cases e' : j = i
      · subst e'; rw [if_pos rfl, e]
      · rw [if_neg e']
    rw [this]; exact hq)
  refine letX1 (fun (l : Sl) v => v = w ∧ RdN w N t_uint16 1 l (u16v (baseA (q i) c))) ?_ (fun J => ?_)
  · rintro l v ⟨rfl, hl⟩
    generalize hB : baseA (q i) c = B at *
    have hBn : B.length = l.n := by have := hl.rd.len; rw [u16v_len] at this; omega
    have hB8 : B.length ≤ 8 := by rw [← hB]; unfold baseA; split; exact Nat.zero_le _; exact hsm
    have hA : addA (q i) c = if c ∈ B then q i else if B.length < 8 then B ++ [c] else q i := by unfold addA; rw [hB]
    refine ⟨fun x u => ∃ j : Nat, x = j ∧ j ≤ B.length ∧ u = v ∧ ∀ t, t < j → B.getD t 0 ≠ c, fun x _ => l.n - x.toNat, ⟨0, rfl, Nat.zero_le _, rfl, fun t ht => by omega⟩, ?_⟩
    rintro x u ⟨j, rfl, hj, rfl, hno⟩
    refine br_nat (fun hlt => ?_) (fun hge => ?_)
    · have hjl : j < B.length := by omega
      obtain ⟨ha, hcl⟩ := q_at hl.rd hjl
      refine ⟨⟨by omega, by omega, ha⟩, _, by rw [Int.toNat_natCast]; exact hcl, ?_⟩
      refine br_eq (fun e => ?_) (fun e => ?_)
      · refine same ?_
        rw [hA, if_pos]
        have : B.getD j 0 = c := by omega
        rw [← this, List.getD_eq_getElem?_getD, List.getElem?_eq_getElem hjl]
        exact List.getElem_mem hjl
      · rw [w64 (by omega) (by omega)]
        refine ⟨⟨j + 1, by omega, by omega, rfl, fun t ht => ?_⟩, by dsimp only; omega⟩
        by_cases q : t = j
        · subst q; omega
        · exact hno t (by omega)
    · have hnm : ¬ c ∈ B := fun hm => by
        obtain ⟨t, ht, e⟩ := List.getElem_of_mem hm
        refine hno t (by omega) ?_
        rw [List.getD_eq_getElem?_getD, List.getElem?_eq_getElem ht]; exact e
      rw [if_neg hnm] at hA
      have d8 : (decide ((l.n : Int) < 8)) = decide (B.length < 8) := by rw [hBn, decide_eq_decide]; omega
      rw [d8]
      refine br_dec (fun h8 => ?_) (fun h8 => same (by rw [hA, if_neg h8]))
      rw [if_pos h8] at hA
      rintro u1 rfl
      have hgd := keep_drew u
      have hNd : ∀ b, N b → b < u.drew.heap.size := fun b hb => by have := hNl b hb; have := hgd.size; omega
      have hqd := hq.grow hgd
      have hld : RdN u.drew N t_uint16 1 l (u16v B) := hl.grow hgd
      generalize u.drew = u1 at *
      rw [hA] at hR hok
      have fin : ∀ {u3 : World} {x3 : Sl}, Grow u1 u3 → CF.Own u3 u1.heap.size t_uint16 1 x3 (u16v (B ++ [c])) → (0 ≤ (i : Int) ∧ (i : Int) < (8 : Int)) ∧ Put (((gA (some (⟨qb, 0, none⟩ : Addr))).add 0).add ((i : Int).toNat * 1)) (.slice x3.A x3.n x3.c) u3 fun w08 => R w08 := fun {u3 x3} g o => by
        have hx : x3.n = (B ++ [c]).length := by have := o.len; rw [u16v_len] at this; omega
        refine ⟨⟨by omega, by omega⟩, (hqd.grow g).put hi hN (o.rdN (by rw [hx]; simp; omega) hNd) hok fun w' hk hs hq' => hR w' (keep_grow_first (hgd.trans g) hk) hq'⟩
      refine ⟨rfl, ?_, ?_⟩
      · refine append_rule (base := u1.heap.size) u_sl_uint16 i_uint16 rfl (by decide) (by decide) (own_nil _ _ _ _) hld.rd (u16v_one _) (by show (0 + l.n) * 2 ≤ _; omega) (Nat.le_refl _) fun x1 v1 hn1 ho1 hk1 _ => ?_
        have g1 : Grow u1 v1 := hk1.mono fun i hi q => by simp [Sl.blk] at q
        refine lit_rule (cells := #[.int .u16 (c : Int)]) (e := t_uint16) (z := 1) (base := v1.heap.size) (lit_u16 _ _) rfl (by decide) (Nat.le_refl _) fun v2 ho2 hg2 _ => ?_
        refine append_rule u_sl_uint16 i_uint16 rfl (by decide) (by decide) (ho1.grow hg2) (ho2.rd (by show 1 ≤ _; decide)) (by simp [Value.oneCell']) (by rw [hn1]; show (0 + l.n + 1) * 2 ≤ _; omega) (by have := g1.size; have := hg2.size; omega) fun x3 v3 hn3 ho3 hk3 _ => ?_
        exact fin (own_grow' (g1.trans hg2) (ho1.grow hg2) (Nat.le_refl _) hk3) (by rw [u16v_append]; exact ho3)
      · refine lit_rule (cells := #[.int .u16 (c : Int)]) (e := t_uint16) (z := 1) (base := u1.heap.size) (lit_u16 _ _) rfl (by decide) (Nat.le_refl _) fun v1 ho1 hg1 _ => ?_
        have hl1 : Rd v1 1 l (u16v B) := hld.rd.grow hg1
        refine append_rule (base := u1.heap.size) u_sl_uint16 i_uint16 rfl (by decide) (by decide) (own_nil _ _ _ _) hl1 (u16v_one _) (by show (0 + l.n) * 2 ≤ _; omega) hg1.size fun x2 v2 hn2 ho2 hk2 _ => ?_
        have g2 : Grow v1 v2 := hk2.mono fun i hi q => by simp [Sl.blk] at q
        refine append_rule u_sl_uint16 i_uint16 rfl (by decide) (by decide) ho2 ((ho1.grow g2).rd (by show 1 ≤ _; decide)) (by simp [Value.oneCell']) (by rw [hn2]; show (0 + l.n + 1) * 2 ≤ _; omega) (by have := g2.size; have := hg1.size; omega) fun x3 v3 hn3 ho3 hk3 _ => ?_
        exact fin (own_grow' (hg1.trans g2) ho2 (Nat.le_refl _) hk3) (by rw [u16v_append]; exact ho3)
  · have ec : ((c : Int) == 10496) = decide (c = 10496) := by rw [Bool.eq_iff_iff, beq_iff_eq, decide_eq_true_eq]; omega
    rw [ec]
    refine br_dec (fun e => J _ _ ⟨rfl, by unfold baseA; rw [if_pos e]; exact RdN.nil _ _ _ _⟩) (fun e => J _ _ ⟨rfl, by unfold baseA; rw [if_neg e]; exact hr⟩)
end
end Go.Proofs.YtpmebahhjgkflaaGreatDoor

/- Layer 7: what is told waits no more; all are told. -/
namespace Go.Proofs.YtpmebahhjgkflaaGreatDoor
open Go CF
set_option maxRecDepth 100000
section
variable {w u : World} {N N' S : Nat → Prop} {qb i : Nat} {q : Nat → List Nat}
theorem upd_self {α : Type} (q : Nat → α) (i : Nat) {v : α} (e : v = q i) : (fun j => if j = i then v else q j) = q := by
  funext j
  by_cases e' : j = i
  · subst e'; rw [if_pos rfl, e]
  · rw [if_neg e']
theorem u16v_take (l : List Nat) (k : Nat) : (u16v l).take k = u16v (l.take k) := List.map_take.symm
theorem u16v_drop (l : List Nat) (k : Nat) : (u16v l).drop k = u16v (l.drop k) := List.map_drop.symm
theorem next_spec {R : Int → Bool → World → Prop} (h : IsQ w N qb q) (hi : i < 8) (hN : N qb) (hNl : ∀ b, N b → b < w.heap.size)
    (hR : ∀ w', Keep (fun k => k = qb) w w' → IsQ w' N qb (fun j => if j = i then nextX (q i) else q j) → match peekX (q i) with | none => R 0 false w' | some c => R (c : Int) true w') : Cattn_Queues_Next (some ⟨qb, 0, none⟩) (i : Int) w R := by
  refine Fattn_Queues_Next.calls _ _ _ _ (best_first h hi fun w' g => ?_)
  have hq := h.grow g
  have hokn := nextX_ok (h.few i hi).1 (h.few i hi).2
  unfold peekX at hR
  cases hb : bestN (q i) (q i).length with
  | none =>
    rw [hb] at hR
    have e : nextX (q i) = q i := by unfold nextX; rw [hb]
    refine br_t rfl (hR w' (g.mono fun _ _ q => q.elim) ?_)
    rw [upd_self q i e]; exact hq
  | some b =>
    rw [hb] at hR
    have e : nextX (q i) = (q i).take b ++ (q i).drop (b + 1) := by unfold nextX; rw [hb]
    rw [e] at hR hokn
    have hbl := bestN_lt _ _ _ hb
    refine br_f (by simp) ?_
    dsimp only
    have hsm := (h.few i hi).1
    obtain ⟨⟨ss, h1, h2, h3⟩, h4⟩ := hq
    have hi' : i < ss.length := by omega
    have hr := h3 i hi'
    have hlen : (q i).length = ss[i].n := by have := hr.rd.len; rw [u16v_len] at this; omega
    have hcap := hr.rd.cap
    obtain ⟨ha, hc⟩ := q_at hr.rd hbl
    refine ⟨rfl, ⟨by omega, by omega⟩, ss[i], q_cell ss h2 hi', ⟨by omega, by omega, ha⟩, _, by rw [Int.toNat_natCast]; exact hc, ?_⟩
    rintro u1 rfl
    have hgd := keep_drew w'
    have hNd : ∀ b, N b → b < w'.drew.heap.size := fun b hb => by have := hNl b hb; have := hgd.size; have := g.size; omega
    have hqd := (h.grow g).grow hgd
    have hld : Rd w'.drew 1 ss[i] (u16v (q i)) := hr.rd.grow hgd
    generalize w'.drew = u1 at *
    have ew : IntKind.wrap .i64 ((b : Int) + 1) = ((b + 1 : Nat) : Int) := by rw [w64 (by omega) (by omega)]; omega
    rw [ew, Int.toNat_natCast, Int.toNat_natCast, Int.toNat_natCast]
    have c1 : Rd u1 1 ⟨cutA ss[i].A ss[i].c 0 1, b - 0, ss[i].c - 0⟩ (u16v ((q i).take b)) := by
      have := hld.cut (l := 0) (k := b) (Nat.zero_le _) (by omega)
      simpa [u16v_take] using this
    have c2 : Rd u1 1 ⟨cutA ss[i].A ss[i].c (b + 1) 1, ss[i].n - (b + 1), ss[i].c - (b + 1)⟩ (u16v ((q i).drop (b + 1))) := by
      have := hld.cut (l := b + 1) (k := ss[i].n) (by omega) (Nat.le_refl _)
      rw [Nat.mul_one, Nat.mul_one, u16v_drop, u16v_take] at this
      rwa [List.take_of_length_le (by rw [List.length_drop]; omega)] at this
    refine ⟨⟨by omega, by omega, by omega, hcap⟩, ⟨by omega, by omega, by omega, hcap⟩, rfl, ?_⟩
    refine append_rule (base := u1.heap.size) u_sl_uint16 i_uint16 rfl (by decide) (by decide) (own_nil _ _ _ _) c1 (u16v_one _) (by show (0 + (b - 0)) * 2 ≤ _; omega) (Nat.le_refl _) fun x1 v1 hn1 ho1 hk1 _ => ?_
    have g1 : Grow u1 v1 := hk1.mono fun i hi q => by simp [Sl.blk] at q
    refine append_rule u_sl_uint16 i_uint16 rfl (by decide) (by decide) ho1 (c2.grow g1) (u16v_one _) (by rw [hn1]; show (0 + (b - 0) + (ss[i].n - (b + 1))) * 2 ≤ _; omega) g1.size fun x3 v3 hn3 ho3 hk3 _ => ?_
    have g3 := own_grow' g1 ho1 (Nat.le_refl _) hk3
    have ho3 : CF.Own v3 u1.heap.size t_uint16 1 x3 (u16v ((q i).take b ++ (q i).drop (b + 1))) := by rw [u16v_append]; exact ho3
    have hx : x3.n ≤ 8 := by have := ho3.len; rw [u16v_len] at this; omega
    refine ⟨⟨by omega, by omega⟩, (hqd.grow g3).put hi hN (ho3.rdN (by omega) hNd) hokn fun w'' hk hs hq' => hR w'' (keep_grow_first ((g.trans hgd).trans g3) hk) hq'⟩
end
end Go.Proofs.YtpmebahhjgkflaaGreatDoor

/- Layer 13: unpacking. -/
namespace Go.Proofs.YtpmebahhjgkflaaGreatDoor
open Go CF
set_option maxRecDepth 100000

end Go.Proofs.YtpmebahhjgkflaaGreatDoor

/- Layer 14: a device; its reading and writing. -/
namespace Go.Proofs.YtpmebahhjgkflaaGreatDoor
open Go CF
set_option maxRecDepth 100000

/-- a command, taken apart -/
structure Cm where
  kind : Nat
  long : Bool
  lba : Nat
  blocks : Nat
  alloc : Int
  fua : Bool
  prot : Nat
  unmap : Bool
  evpd : Bool
  page : Nat
  control : Nat
  save : Bool
  service : Nat
  type : Nat
  bytes : Bool
def cmv (c : Cm) : List Value := [.int .u8 (c.kind : Int), .bool c.long, .int .u64 (c.lba : Int), .int .u64 (c.blocks : Int), .int .i64 c.alloc, .bool c.fua, .int .u8 (c.prot : Int), .bool c.unmap, .bool c.evpd, .int .u8 (c.page : Int), .int .u8 (c.control : Int),
  .bool c.save, .int .u8 (c.service : Int), .int .u8 (c.type : Int), .bool c.bytes]
theorem cLoad {w : World} {a : Addr} {c : Cm} (h : Cells w a (cmv c)) : (loadVar t_api_Cmd a).run Tryz.prog w = .ok (.agg (cmv c).toArray) w := loadVar_rule g_api_Cmd i_api_Cmd rfl h
def dvcells (ps kind : Nat) : Array Value := #[.pointer (some ⟨ps, 0, none⟩), .int .u8 (kind : Int)]
section
variable {w u : World} {dv ps pw : Nat} {file : ByteArray} {kind n : Nat} {cache : Bool} {D D' : Nat → Prop} {st st' : Wst} {bs bs' : List Bk} {m m' : Nat} {F : Int → Bool}
end
end Go.Proofs.YtpmebahhjgkflaaGreatDoor

/- Layer 14: blocks are written; blocks that came. -/
namespace Go.Proofs.YtpmebahhjgkflaaGreatDoor
open Go CF
set_option maxRecDepth 100000

section
variable {w u : World} {dv ps pw : Nat} {file : ByteArray} {kind n : Nat} {cache : Bool} {D D' : Nat → Prop} {st st' : Wst} {bs bs' : List Bk} {m m' : Nat}
end
/-! ### a row of blocks changed in place -/
end Go.Proofs.YtpmebahhjgkflaaGreatDoor

/- Layer 14: blocks that came with a command. -/
namespace Go.Proofs.YtpmebahhjgkflaaGreatDoor
open Go CF
set_option maxRecDepth 100000

end Go.Proofs.YtpmebahhjgkflaaGreatDoor

/- Layer 14: a command is done. -/
namespace Go.Proofs.YtpmebahhjgkflaaGreatDoor
open Go CF
set_option maxRecDepth 100000

def z10 : Array Value := #[.int .u8 0, .int .u8 0, .int .u16 0, .int .u64 0, .bool false, .int .i64 0, .int .i64 0, .bool false, .bool false, .slice none 0 0]
section
variable {w u : World} {dv ps pw : Nat} {file : ByteArray} {kind n : Nat} {cache : Bool} {D D' : Nat → Prop} {st st' : Wst} {bs bs' : List Bk} {m m' : Nat}
end
end Go.Proofs.YtpmebahhjgkflaaGreatDoor

/- Layer 14: blocks compared. -/
namespace Go.Proofs.YtpmebahhjgkflaaGreatDoor
open Go CF
set_option maxRecDepth 100000

theorem rd_at {w : World} {s : Sl} {l : L8} (h : Rd w 1 s (bv l)) {i : Nat} (hi : i < l.length) : s.A.isSome = true ∧ w.cell? ((gA s.A).add (i * 1)) = some (.int .u8 ((l.getD i 0).toNat : Int)) := by
  obtain ⟨a, ha, hc⟩ := h.byte (i := i) (by rw [← rd_n' h]; exact hi)
  rw [ha]
  refine ⟨rfl, ?_⟩
  rw [List.getD_eq_getElem?_getD, List.getElem?_eq_getElem hi]
  exact hc
section
variable {w u : World} {dv ps pw : Nat} {file : ByteArray} {kind n : Nat} {cache : Bool} {D D' : Nat → Prop} {st st' : Wst} {bs bs' : List Bk} {m m' : Nat}
end
end Go.Proofs.YtpmebahhjgkflaaGreatDoor

/- Layers 10 and 12: registrations and pages; what stands of them. -/
namespace Go.Proofs.YtpmebahhjgkflaaGreatDoor
open Go CF
set_option maxRecDepth 100000

/-! ### the table -/
structure TabS where
  regs : List (Nat × Nat)
  gen : Nat
  kind : Nat
  holder : Int
  lasts : Bool
def rgc (r : Nat × Nat) : List Value := [.int .i64 (r.1 : Int), .int .u64 (r.2 : Int)]
theorem rgc_len (r : Nat × Nat) : (rgc r).length = 2 := rfl
def rgv (l : List (Nat × Nat)) : List Value := l.flatMap rgc
def tcells (s : Sl) (t : TabS) : Array Value := #[.slice s.A s.n s.c, .int .u32 (t.gen : Int), .int .u8 (t.kind : Int), .int .i64 t.holder, .bool t.lasts]
structure TabOk (t : TabS) : Prop where
  few : t.regs.length ≤ 8
  regs : ∀ r ∈ t.regs, r.1 < 8 ∧ 0 < r.2 ∧ r.2 < 18446744073709551616
  gen : t.gen < 4294967296
  kind : t.kind < 256
  holder : -1 ≤ t.holder ∧ t.holder < 8
structure IsT (w : World) (N : Nat → Prop) (tb : Nat) (t : TabS) : Prop where
  rep : ∃ s : Sl, Blk w tb (tcells s t) t_pr_Table ∧ RdN w N t_api_Reg 2 s (rgv t.regs)
  ok : TabOk t
def t0 : TabS := ⟨[], 0, 0, -1, false⟩
def allK (k : Nat) : Bool := k == 7 || k == 8
def keyT (t : TabS) (n : Nat) : Option Nat := (t.regs.find? fun r => r.1 == n).map (·.2)
def holdsT (t : TabS) (n : Nat) : Bool := if t.kind = 0 then false else if allK t.kind then (keyT t n).isSome else decide (t.holder = n)
def conflictT (t : TabS) (n c : Nat) : Bool :=
  if t.kind = 0 ∨ c = 0 ∨ holdsT t n = true then false
  else if t.kind = 1 then decide (c ≠ 1) else if t.kind = 3 then true else if t.kind = 5 ∨ t.kind = 7 then decide (c ≠ 1) && !(keyT t n).isSome else !(keyT t n).isSome
/-! ### the pages -/
structure Vals where
  wce : Bool
  ds : Bool
  swp : Bool
def vlv (v : Vals) : List Value := [.bool v.wce, .bool v.ds, .bool v.swp]
abbrev IsP (w : World) (pb : Nat) (now saved : Vals) : Prop := Blk w pb (vlv now ++ vlv saved).toArray t_mode_Pages
def v0 : Vals := ⟨true, false, false⟩
def classX (k : Nat) : Nat := if k = 1 ∨ k = 7 ∨ k = 10 ∨ k = 5 then 1 else if k = 8 ∨ k = 9 ∨ k = 12 ∨ k = 13 ∨ k = 14 ∨ k = 4 ∨ k = 11 ∨ k = 18 then 2 else 0
def altersX (k : Nat) : Bool := decide (k = 8 ∨ k = 9 ∨ k = 12 ∨ k = 13 ∨ k = 14)
section
variable {w u : World} {N N' S : Nat → Prop} {tb n : Nat} {t : TabS}
theorem IsT.step (h : IsT w N tb t) (k : Keep S w u) (hS : Safe w N S) (hq : ¬ S tb) (hN : ∀ b, N' b → N b ∨ w.heap.size ≤ b) : IsT u N' tb t := by
  obtain ⟨⟨s, h1, h2⟩, h3⟩ := h
  exact ⟨⟨s, k.heap h1 hq, h2.step (.inr (.inl rfl)) k hS hN⟩, h3⟩
theorem IsT.grow (h : IsT w N tb t) (k : Grow w u) : IsT u N tb t := h.step k (Safe.none _ _) (fun q => q) fun _ q => .inl q
theorem IsT.lt (h : IsT w N tb t) : tb < w.heap.size := by obtain ⟨⟨s, h1, h2⟩, h3⟩ := h; exact lt_of_heap h1
theorem tabOk0 : TabOk t0 := ⟨by decide, fun r hr => (by cases hr), by decide, by decide, by decide⟩
theorem t_cell {s : Sl} (h : Blk w tb (tcells s t) t_pr_Table) {o : Nat} {v : Value} (e : (tcells s t)[o]? = some v) : w.cell? ((gA (some (⟨tb, 0, none⟩ : Addr))).add o) = some v := by
  rw [gA, add0, h.cell, Nat.zero_add]; exact e
theorem rgv_len (l : List (Nat × Nat)) : (rgv l).length = l.length * 2 := flat_length rgc_len l
theorem rd_reg {s : Sl} {l : List (Nat × Nat)} (h : Rd w 2 s (rgv l)) {i : Nat} (hi : i < l.length) : ∃ a, s.A = some a ∧ Cells w (a.add (i * 2)) (rgc l[i]) := by
  have hn : i < s.n := by have := h.len; rw [rgv_len] at this; omega
  obtain ⟨a, ha, hc⟩ := h.elem hn (by decide)
  refine ⟨a, ha, ?_⟩
  have := flat_elem rgc_len (l := l) hi
  unfold rgv at hc
  rw [this] at hc; exact hc
theorem key_spec10 {R : Int → Bool → World → Prop} (h : IsT w N tb t) (hR : ∀ w', Grow w w' → match keyT t n with | some k => R (k : Int) true w' | none => R 0 false w') : Cpr_Table_key (some ⟨tb, 0, none⟩) (n : Int) w R := by
  refine Fpr_Table_key.calls _ _ _ _ ?_
  obtain ⟨⟨s, h1, h2⟩, h3⟩ := h
  have hsn : t.regs.length = s.n := by have := h2.rd.len; rw [rgv_len] at this; omega
  have hfew := h3.few
  refine ⟨rfl, s, t_cell h1 rfl, ?_⟩
  refine ⟨fun x v => ∃ j : Nat, x = j ∧ j ≤ t.regs.length ∧ Grow w v ∧ (t.regs.find? fun r => r.1 == n) = ((t.regs.drop j).find? fun r => r.1 == n), fun x _ => s.n - x.toNat, ⟨0, rfl, Nat.zero_le _, Keep.refl _ _, rfl⟩, ?_⟩
  rintro x v ⟨j, rfl, hj, hg, he⟩
  refine br_nat (fun hlt => ?_) (fun hge => ?_)
  · have hjl : j < t.regs.length := by omega
    rw [List.drop_eq_getElem_cons hjl] at he
    obtain ⟨a, ha, hc⟩ := rd_reg (h2.rd.grow hg) hjl
    refine ⟨⟨by omega, by omega, by rw [ha]; rfl⟩, (rgc t.regs[j]).toArray, by rw [ha, Int.toNat_natCast]; exact loadVar_rule g_api_Reg i_api_Reg rfl hc, ?_⟩
    refine new_rule fun rb v1 hrb hb1 hg1 hs1 => storeVar_rule (cells := (rgc t.regs[j]).toArray) hb1 i_api_Reg rfl rfl (by simp [rgc, Value.oneCell']) fun v2 hb2 hk2 hs2 => ?_
    have hg2 : Grow v v2 := hg1.keep hk2 fun i hi q => by omega
    refine ⟨(t.regs[j].1 : Int), by rw [add0, hb2.cell]; rfl, ?_⟩
    refine br_eq (fun e => ?_) (fun e => ?_)
    · refine ⟨(t.regs[j].2 : Int), by rw [add0, hb2.cell]; rfl, ?_⟩
      have hR := hR v2 (hg.trans hg2)
      have e2 : (t.regs[j].1 == n) = true := by rw [beq_iff_eq]; omega
      have : keyT t n = some t.regs[j].2 := by unfold keyT; rw [he, List.find?_cons, e2]; rfl
      rw [this] at hR; exact hR
    · have e2 : (t.regs[j].1 == n) = false := by rw [beq_eq_false_iff_ne]; omega
      rw [List.find?_cons, e2] at he
      rw [w64 (by omega) (by omega)]
      exact ⟨⟨j + 1, by omega, by omega, hg.trans hg2, he⟩, by dsimp only; omega⟩
  · have : j = t.regs.length := by omega
    subst this
    rw [List.drop_length] at he
    have hR := hR v hg
    have : keyT t n = none := by unfold keyT; rw [he]; rfl
    rw [this] at hR; exact hR
theorem all_spec10 {k : Nat} {R : Bool → World → Prop} (h : R (allK k) w) : Cpr_All (k : Int) w R := by
  refine Fpr_All.calls _ _ _ ?_
  unfold Fpr_All
  have e : (((k : Int) == 7) || ((k : Int) == 8)) = allK k := by unfold allK; rw [Bool.eq_iff_iff]; simp only [Bool.or_eq_true, beq_iff_eq]; omega
  rw [e]; exact h
theorem holds_spec10 {R : Bool → World → Prop} (h : IsT w N tb t) (hR : ∀ w', Grow w w' → R (holdsT t n) w') : Cpr_Table_Holds (some ⟨tb, 0, none⟩) (n : Int) w R := by
  refine Fpr_Table_Holds.calls _ _ _ _ ?_
  have hT := h
  obtain ⟨⟨s, h1, h2⟩, h3⟩ := h
  refine ⟨fun _ => rfl, (t.kind : Int), fun _ => t_cell h1 rfl, ?_⟩
  unfold holdsT at hR
  have e0 : ((some (⟨tb, 0, none⟩ : Addr)).isNone || ((t.kind : Int) == 0)) = decide (t.kind = 0) := by rw [Bool.eq_iff_iff]; simp
  rw [e0]
  refine br_dec (fun q => ?_) (fun q => ?_)
  · have := hR w (Keep.refl _ _); rw [if_pos q] at this; exact this
  refine ⟨rfl, (t.kind : Int), t_cell h1 rfl, all_spec10 ?_⟩
  cases ha : allK t.kind with
  | true =>
    refine br_t rfl (key_spec10 hT fun w' g => ?_)
    have := hR w' g
    rw [if_neg q, ha, if_pos rfl] at this
    cases hk : keyT t n with
    | some k => rw [hk] at this; exact this
    | none => rw [hk] at this; exact this
  | false =>
    refine br_f rfl ⟨rfl, t.holder, t_cell h1 rfl, ?_⟩
    have := hR w (Keep.refl _ _)
    rw [if_neg q, ha, if_neg (by decide)] at this
    have e : (t.holder == (n : Int)) = decide (t.holder = n) := rfl
    rw [e]; exact this
theorem conflict_spec {c : Nat} {R : Bool → World → Prop} (h : IsT w N tb t) (hR : ∀ w', Grow w w' → R (conflictT t n c) w') : Cpr_Table_Conflict (some ⟨tb, 0, none⟩) (n : Int) (c : Int) w R := by
  refine Fpr_Table_Conflict.calls _ _ _ _ _ ?_
  have hT := h
  obtain ⟨⟨s, h1, h2⟩, h3⟩ := h
  refine ⟨fun _ => rfl, (t.kind : Int), fun _ => t_cell h1 rfl, ?_⟩
  have e0 : ((((some (⟨tb, 0, none⟩ : Addr)).isNone) || ((t.kind : Int) == 0)) || ((c : Int) == 0)) = decide (t.kind = 0 ∨ c = 0) := by rw [Bool.eq_iff_iff]; simp
  rw [e0]
  refine letJ1 (fun b v => Grow w v ∧ (t.kind = 0 ∨ c = 0 ∨ b = holdsT t n)) ?_ (fun J => ⟨fun q => ?_, fun q => ?_⟩)
  · rintro b v ⟨hg, hb⟩
    have hR' := hR
    unfold conflictT at hR'
    by_cases q : t.kind = 0 ∨ c = 0 ∨ holdsT t n = true
    · have := hR' v hg
      rw [if_pos q] at this
      refine br_t ?_ this
      rw [Bool.or_eq_true, decide_eq_true_eq]
      rcases q with q | q | q
      · exact .inl (.inl q)
      · exact .inl (.inr q)
      · rcases hb with hb | hb | hb
        · exact .inl (.inl hb)
        · exact .inl (.inr hb)
        · exact .inr (hb.trans q)
    · have hk0 : t.kind ≠ 0 := fun r => q (.inl r)
      have hc0 : c ≠ 0 := fun r => q (.inr (.inl r))
      have hb' : b = holdsT t n := by rcases hb with hb | hb | hb; exact absurd hb hk0; exact absurd hb hc0; exact hb
      have hbf : b = false := by rw [hb']; cases hh : holdsT t n with | true => exact absurd (.inr (.inr hh)) q | false => rfl
      refine br_f (by rw [hbf, Bool.or_false, decide_eq_false_iff_not]; omega) ?_
      refine key_spec10 (hT.grow hg) fun v' g => ?_
      have hf := hR' v' (hg.trans g)
      rw [if_neg q] at hf
      have h1' : Blk v' tb (tcells s t) t_pr_Table := (hg.trans g).heap h1 (fun q => q)
      have ec : ((c : Int) != 1) = decide (c ≠ 1) := by rw [Bool.eq_iff_iff, bne_iff_ne, decide_eq_true_eq]; omega
      have fin : ∀ {m : Int} {b1 : Bool}, b1 = (keyT t n).isSome → (some (⟨tb, 0, none⟩ : Addr)).isSome = true ∧ ∃ n2 : Int, v'.cell? ((gA (some (⟨tb, 0, none⟩ : Addr))).add 2) = some (.int .u8 n2) ∧ Br (n2 == 1) (R ((c : Int) != 1) v') (Br (n2 == 3) (R true v') (Br (n2 == 5) (Br (n2 == 5) (R (((c : Int) != 1) && (!b1)) v') (R (!b1) v')) (Br (n2 == 7) (R (((c : Int) != 1) && (!b1)) v') (R (!b1) v')))) := fun {m b1} e => by
        refine ⟨rfl, (t.kind : Int), t_cell h1' rfl, ?_⟩
        rw [e, ec]
        refine br_eq (fun k => ?_) (fun k1 => br_eq (fun k => ?_) (fun k3 => br_eq (fun k => br_t (by rw [beq_iff_eq]; exact k) ?_) (fun k5 => br_eq (fun k => ?_) (fun k7 => ?_))))
        · rw [if_pos (by omega)] at hf; exact hf
        · rw [if_neg (by omega), if_pos (by omega)] at hf; exact hf
        · rw [if_neg (by omega), if_neg (by omega), if_pos (by omega)] at hf; exact hf
        · rw [if_neg (by omega), if_neg (by omega), if_pos (by omega)] at hf; exact hf
        · rw [if_neg (by omega), if_neg (by omega), if_neg (by omega)] at hf; exact hf
      cases hk : keyT t n with
      | some k => exact fin (m := 0) (by rw [hk]; rfl)
      | none => exact fin (m := 0) (by rw [hk]; rfl)
  · have q' : ¬ (t.kind = 0 ∨ c = 0) := by simpa using q
    exact holds_spec10 hT fun v g => J _ _ ⟨g, .inr (.inr rfl)⟩
  · have q' : t.kind = 0 ∨ c = 0 := by
      rw [Bool.not_eq_false', decide_eq_true_eq] at q; exact q
    exact J _ _ ⟨Keep.refl _ _, by rcases q' with q' | q'; exact .inl q'; exact .inr (.inl q')⟩
theorem default_spec {R : Array Value → World → Prop} (hR : ∀ w', Grow w w' → R (vlv v0).toArray w') : Cmode_Default w R := by
  refine Fmode_Default.calls _ _ (new_rule fun ab w1 hab hb1 hg1 hs1 => ?_)
  exact storeVar_rule (cells := (vlv v0).toArray) hb1 i_mode_Values rfl rfl (by simp [vlv, Value.oneCell']) fun w2 hb2 hk2 hs2 => ⟨_, loadVar_rule g_mode_Values i_mode_Values rfl (blk_cells hb2), hR w2 (hg1.keep hk2 fun i hi q => by omega)⟩
theorem pages_build (u : World) (a b c : Bool) : (Instr.build t_mode_Pages #[(0, .agg (vlv ⟨a, b, c⟩).toArray), (1, .agg (vlv ⟨a, b, c⟩).toArray)]).run Tryz.prog u = .ok (.agg (vlv ⟨a, b, c⟩ ++ vlv ⟨a, b, c⟩).toArray) u := by kernel_rfl
theorem mode_new_spec {v : Vals} {R : Option Addr → World → Prop} (hR : ∀ pb w', Grow w w' → w.heap.size ≤ pb → IsP w' pb v v → R (some ⟨pb, 0, none⟩) w') : Cmode_New (vlv v).toArray w R := by
  refine Fmode_New.calls _ _ _ (new_rule fun ab w1 hab hb1 hg1 hs1 => ?_)
  have hl : (loadVar t_mode_Values ⟨ab, 0, none⟩).run Tryz.prog w1 = .ok (.agg (vlv v).toArray) w1 := loadVar_rule (cs := vlv v) g_mode_Values i_mode_Values rfl (blk_cells hb1)
  refine ⟨_, hl, _, hl, _, pages_build _ v.wce v.ds v.swp, new_rule fun pb w2 hpb hb2 hg2 hs2 => ?_⟩
  exact hR pb w2 (hg1.trans hg2) (by omega) hb2
theorem now_spec {pb : Nat} {now saved : Vals} {R : Array Value → World → Prop} (h : IsP w pb now saved) (hR : ∀ w', Grow w w' → R (vlv now).toArray w') : Cmode_Pages_Now (some ⟨pb, 0, none⟩) w R := by
  refine Fmode_Pages_Now.calls _ _ _ (new_rule fun ab w1 hab hb1 hg1 hs1 => br_f rfl ?_)
  have hp1 : Blk w1 pb (vlv now ++ vlv saved).toArray t_mode_Pages := hg1.heap h (fun q => q)
  refine ⟨rfl, (vlv now).toArray, loadVar_rule g_mode_Values i_mode_Values rfl (fun j v hj => ?_), ?_⟩
  · rw [gA, add0, add0, hp1.cell, Nat.zero_add, List.getElem?_toArray]
    exact (List.getElem?_append_left (List.getElem?_eq_some_iff.1 hj).1).trans hj
  · exact storeVar_rule (cells := (vlv now).toArray) hb1 i_mode_Values rfl rfl (by simp [vlv, Value.oneCell']) fun w2 hb2 hk2 hs2 => ⟨_, loadVar_rule g_mode_Values i_mode_Values rfl (blk_cells hb2), hR w2 (hg1.keep hk2 fun i hi q => by omega)⟩
end
end Go.Proofs.YtpmebahhjgkflaaGreatDoor
