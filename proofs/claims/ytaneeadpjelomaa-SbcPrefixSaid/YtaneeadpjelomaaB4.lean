import Derived.Laws.MakeOwn
import Derived.Lib.AppendZerosOnto
import Derived.Deep.DeepAppendWide
import Derived.Test.YtaneeadpjelomaaB3
/- Rules: a byte put into a row of one's own, rows that are made, noughts behind a row. -/
namespace Go.Proofs.Ytaneeadpjelomaa.CF
open Go Go.RowKit

theorem own_put {w : World} {base : Nat} {e : TypeId} {s : Sl} {vs : List Value} (hs : Own w base e 1 s vs) {i : Nat} (hi : i < s.n) {v : Value} (hv : v.oneCell' = true)
    {K : World → Prop} (h : ∀ w1, Own w1 base e 1 s (vs.set i v) → Keep (fun k => some k = s.blk) w w1 → w1.heap.size = w.heap.size → K w1) : Put ((gA s.A).add (i * 1)) v w K := by
  obtain ⟨hlen, hown⟩ := hs
  rcases hown with ⟨_, hn0⟩ | ⟨g, cap, cur, hv', hbg, hg, hnc, hcm, hcs, htake⟩
  · omega
  · injection hv' with hA hN hC
    have hcs' : cur.size = cap := by simpa using hcs
    rw [Nat.mul_one, hA, gA, add0, Nat.zero_add]
    refine put_rule hg (by omega) hv fun w1 hb1 hk1 hsz1 => ?_
    refine h w1 ⟨by rw [List.length_set]; exact hlen, .inr ⟨g, cap, _, by rw [hA, hC], hbg, hb1, hnc, hcm, by simpa using hcs, ?_⟩⟩ (hk1.mono fun k _ q => by simp [Sl.blk, hA, q]) hsz1
    have hF : cur.toList.take (s.n * 1) = vs := htake
    rw [← hF, Array.toList_setIfInBounds, List.take_set]
theorem make_rule {P : Program} {w : World} {t e : TypeId} {zv : Value} {bytes n base : Nat} (ht : P.underlying t = some (.slice e)) (hinfo : (P.info? e).map (fun i => (i.zero, i.size, i.bytes)) = some (some zv, 1, bytes)) (hzc : zv.cells = #[zv])
    (hb : bytes * n ≤ 281474976710656) (hn : n ≤ 140737488355328) (hbase : base ≤ w.heap.size)
    {K : Sl → World → Prop} (h : ∀ w1, Own w1 base e 1 ⟨some ⟨w.heap.size, 0, none⟩, n, n⟩ (List.replicate n zv) → Grow w w1 → w1.heap.size = w.heap.size + 1 → K ⟨some ⟨w.heap.size, 0, none⟩, n, n⟩ w1) :
    RunK P .sl (Instr.makeSlice t (.int .i64 (n : Int)) (.int .i64 (n : Int))) w K := by
  obtain ⟨i, hi, hzz⟩ := Option.map_eq_some_iff.1 hinfo
  simp only [Prod.mk.injEq] at hzz
  obtain ⟨hz, hsz, hby⟩ := hzz
  have hb' : (i.bytes : Int) * (n : Int) ≤ 281474976710656 := by
    rw [hby, ← Int.natCast_mul]; omega
  have hr := run_make (P := P) w t e i zv ht hi hz .i64 .i64 (n : Int) (n : Int) (by omega) (Int.le_refl _) hb' (by omega)
  simp only [Int.toNat_natCast] at hr
  refine ⟨⟨some ⟨w.heap.size, 0, none⟩, n, n⟩, _, hr, h _ ?_ (keep_alloc w _) (by simp)⟩
  have hm : madeCells zv.cells (n * i.size) = (List.replicate n zv).toArray := by
    rw [hzc, hsz, Nat.mul_one]
    apply Array.ext
    · simp [madeCells]
    · intro k h1 h2
      simp [madeCells, Nat.mod_one]
  rw [hm]
  have := World.ownsRow_lit (e := e) (size := 1) (base := base) w (List.replicate n zv).toArray n hbase (by unfold maxLen; omega) (by simp)
  exact this
theorem append_zeros_rule {P : Program} {w : World} {t tn ty e : TypeId} {zv : Value} {base k : Nat} (ht : P.underlying t = some (.slice e)) (htn : P.underlying tn = some (.int .i64)) (hinfo : (P.info? e).map (fun i => (i.zero, i.size, i.bytes)) = some (some zv, 1, 1)) (hzc : zv.cells = #[zv])
    {s : Sl} {vs : List Value} (hs : Rd w 1 s vs) (hc : s.c < s.n + k) (hk : 0 < k) (hbd : s.n + k ≤ 1000000000) (hbase : base ≤ w.heap.size)
    {K : Sl → World → Prop} (h : ∀ s' w', s'.n = s.n + k → Own w' base e 1 s' (vs ++ List.replicate k zv) → Grow w w' → s'.blk = some w.heap.size → K s' w') :
    RunK P .sl (Builtin.append_ #[t, tn] ty #[.slice s.A s.n s.c, .int .i64 (k : Int)]) w K := by
  obtain ⟨i, hi, hzz⟩ := Option.map_eq_some_iff.1 hinfo
  simp only [Prod.mk.injEq] at hzz
  obtain ⟨hz, hsz, hby⟩ := hzz
  have hvl : vs.length = s.n := by have := hs.len; omega
  have hold : (Builtin.firstCells i.size s.n (.slice s.A s.n s.c)).run P w.drew = .ok vs.toArray w.drew := by
    rw [hsz]
    by_cases hne : vs = []
    · subst hne
      simp only [List.length_nil] at hvl
      rw [← hvl]
      cases hA : s.A with
      | none => exact run_firstCells_none (P := P) (w := w.drew) 1 0 0 _
      | some a => exact run_firstCells_some (P := P) (w := w.drew) 1 0 a 0 s.c [] rfl (fun j v hj => by simp at hj)
    · obtain ⟨a, ha, hc⟩ := (hs.grow (keep_drew w)).at_ hne
      rw [ha]
      exact run_firstCells_some (P := P) (w := w.drew) 1 s.n a s.n s.c vs (by omega) hc
  have hr := Go.Lib.run_append_grow_zeros (P := P) w t tn ty e i zv .i64 .i64 ht htn hi hz s.A s.n s.c vs hold k hk (by omega) hc (by omega) (by rw [hby]; omega) (by rw [hby]; exact growslice_fits (by omega) (by omega))
  refine ⟨⟨some ⟨w.heap.size, 0, none⟩, s.n + k, grownCap w (s.n + k) s.c e⟩, _, hr, h _ _ rfl ?_ ⟨rfl, rfl, rfl, by simp, fun k hk _ => heap_alloc_lt w.drew _ k hk⟩ rfl⟩
  have hge := grownCap_ge w (s.n + k) s.c e
  have hcm : grownCap w (s.n + k) s.c e ≤ maxLen := grownCap_le_maxLen w (s.n + k) s.c e (by unfold maxLen; omega)
  have hzk : ∀ m, (Builtin.zeroCells zv.cells m).size = m := fun m => by rw [size_zeroCells, hzc]; simp
  have hzr : (Builtin.zeroCells zv.cells k).toList = List.replicate k zv := by
    rw [hzc]
    apply List.ext_getElem
    · rw [Array.length_toList, ← hzc, hzk]; simp
    · intro j h1 h2
      simp [Builtin.zeroCells, Nat.mod_one]
  refine ⟨by simp; omega, .inr ⟨w.heap.size, grownCap w (s.n + k) s.c e, _, rfl, hbase, heap_alloc_new w.drew _, hge, hcm, ?_, ?_⟩⟩
  · simp only [Array.size_append, List.size_toArray, hzk, hvl]
    omega
  · simp only [Array.toList_append, hzr]
    have : (vs ++ List.replicate k zv).length = (s.n + k) * 1 := by simp; omega
    rw [← this]
    exact List.take_left
/-- append(s, x...) where both together are greater than half of what a row may be -/
theorem append_wide_rule {P : Program} {w : World} {base : Nat} {t ty e : TypeId} {zv : Value} {z bytes : Nat} (ht : P.underlying t = some (.slice e)) (hinfo : (P.info? e).map (fun i => (i.zero, i.size, i.bytes)) = some (some zv, z, bytes))
    (hzc : zv.cells.size = z) (hz0 : 0 < z) (hb0 : 0 < bytes) {s x : Sl} {vs xs : List Value} (hs : Own w base e z s vs) (hx : Rd w z x xs) (h1 : ∀ u ∈ xs, u.oneCell' = true)
    (hm : s.n + x.n ≤ 140737489403904) (hbd : ((s.n + x.n) + (s.n + x.n) / 4 + 192) * bytes ≤ 281474976710656) (hbase : base ≤ w.heap.size) {K : Sl → World → Prop}
    (h : ∀ s' w', s'.n = s.n + x.n → Own w' base e z s' (vs ++ xs) → Keep (fun k => some k = s.blk) w w' → K s' w') :
    RunK P .sl (Builtin.append_ #[t, t] ty #[.slice s.A s.n s.c, .slice x.A x.n x.c]) w K := by
  obtain ⟨i, hi, hzz⟩ := Option.map_eq_some_iff.1 hinfo
  simp only [Prod.mk.injEq] at hzz
  obtain ⟨hz, hsz, hby⟩ := hzz
  have blk : (Value.slice s.A s.n s.c).ownBlock = s.blk := by unfold Sl.blk; cases s.A <;> rfl
  have hxl : xs.length = x.n * z := hx.len
  by_cases hne : xs = []
  · have hn0 : x.n = 0 := by
      rw [hne, List.length_nil] at hxl
      rcases Nat.mul_eq_zero.1 hxl.symm with q | q <;> omega
    have hsl := hs.len
    have hc : s.n + x.n ≤ s.c := by
      rcases hs.2 with ⟨h2, q⟩ | ⟨g, cap, cur, hv, _, _, h4, _⟩
      · injection h2 with _ e1 e2; omega
      · injection hv with _ _ e2; omega
    have hfc : (Builtin.firstCells i.size x.n (.slice x.A x.n x.c)).run P w = .ok #[] w := by
      rw [hn0]
      cases hA : x.A with
      | none => exact run_firstCells_none (P := P) (w := w) i.size 0 0 _
      | some a => exact run_firstCells_some (P := P) (w := w) i.size 0 a 0 x.c [] (by simp) (fun j v hj => by simp at hj)
    refine ⟨s, w, ?_, h s w (by omega) (by rw [hne, List.append_nil]; exact hs) (Keep.refl _ _)⟩
    show _ = Result.ok (Value.slice s.A s.n s.c) w
    rw [hn0] at hc hfc ⊢
    obtain ⟨A, n, c⟩ := s
    simp only [Nat.add_zero] at hc ⊢
    cases A <;> simp [Builtin.append_, run_underlying ht, sizeOf, typeInfo, hi, Builtin.lenOf, hfc, hc, storeCells]
  · obtain ⟨a, ha, hcells⟩ := hx.at_ hne
    obtain ⟨v', w', hr, hown, hg, _⟩ := run_append_own_wide (P := P) w base t ty e i zv z bytes ht hi hz hsz hby hzc hz0 _ s.n vs hs a x.n x.c xs hx.len hcells h1 (by unfold maxLen; omega) hbd hbase
    have hv' : ∃ s' : Sl, v' = .slice s'.A s'.n s'.c ∧ s'.n = s.n + x.n := by
      rcases hown.2 with ⟨rfl, hn⟩ | ⟨g, cap, cur, rfl, _⟩
      · exact ⟨⟨none, 0, 0⟩, rfl, hn.symm⟩
      · exact ⟨⟨some ⟨g, 0, none⟩, _, cap⟩, rfl, rfl⟩
    obtain ⟨s', rfl, hn'⟩ := hv'
    rw [ha]
    exact ⟨s', w', hr, h s' w' hn' (by have q := hown; rw [← hn'] at q; exact q) (blk ▸ keep_grownBy hg)⟩
/-! ### where ways meet: what holds there, told once -/
theorem letX0 {j : World → Prop} {body : (World → Prop) → Prop} (I : World → Prop) (h1 : ∀ u, I u → j u) (h2 : (∀ u, I u → j u) → body j) : letX j body := h2 h1
theorem letX1 {α : Type} {j : α → World → Prop} {body : (α → World → Prop) → Prop} (I : α → World → Prop) (h1 : ∀ x u, I x u → j x u) (h2 : (∀ x u, I x u → j x u) → body j) : letX j body := h2 h1
theorem letX2 {α β : Type} {j : α → β → World → Prop} {body : (α → β → World → Prop) → Prop} (I : α → β → World → Prop) (h1 : ∀ x y u, I x y u → j x y u) (h2 : (∀ x y u, I x y u → j x y u) → body j) : letX j body := h2 h1
theorem letX3 {α β γ : Type} {j : α → β → γ → World → Prop} {body : (α → β → γ → World → Prop) → Prop} (I : α → β → γ → World → Prop) (h1 : ∀ x y z u, I x y z u → j x y z u) (h2 : (∀ x y z u, I x y z u → j x y z u) → body j) : letX j body := h2 h1
theorem letJ1 {α : Type} {j : α → World → Prop} {body : (α → World → Prop) → Prop} (I : α → World → Prop) (h1 : ∀ x u, I x u → j x u) (h2 : (∀ x u, I x u → j x u) → body j) : letJ j body := h2 h1
/-- the bytes of a constant, and where they lie -/
theorem bytes_at_rule {P : Program} {w : World} {t e : TypeId} {n : Nat} {parts : Array (Nat × Value)} {l : L8}
    (hr : (Instr.buildSlice t n parts).run P w = .ok (.slice (some ⟨w.heap.size, 0, none⟩) n n) (w.alloc (.cells (bv l).toArray e))) (hn : n = l.length) (hb : n ≤ 140737488355328)
    (ht : P.underlying t = some (.slice e)) (he : P.underlying e = some (.int .u8))
    {K : Sl → World → Prop} (h : ∀ w', Grow w w' → w'.heap.size = w.heap.size + 1 → Rd w' 1 ⟨some ⟨w.heap.size, 0, none⟩, n, n⟩ (bv l) → K ⟨some ⟨w.heap.size, 0, none⟩, n, n⟩ w') :
    RunK P .sl (Instr.buildSlice t n parts) w fun xs w0 => RunK P .sl (convert t t (.slice xs.A xs.n xs.c)) w0 K := by
  refine ⟨⟨some ⟨w.heap.size, 0, none⟩, n, n⟩, _, hr, ⟨some ⟨w.heap.size, 0, none⟩, n, n⟩, _, Go.Lib.run_convert_bytes_const w t e _ n n ht he, ?_⟩
  refine h _ (keep_alloc w _) (by simp) ⟨by rw [bv_length, hn, Nat.mul_one], Nat.le_refl _, by show n ≤ _; omega, fun _ => ⟨_, rfl, fun j v hj => ?_⟩⟩
  rw [add0, Nat.zero_add]
  unfold World.cell?
  simp only [World.alloc, Array.getElem?_push, if_true]
  simpa using hj
end Go.Proofs.Ytaneeadpjelomaa.CF

/- Layer 1: numbers laid in bytes. -/
namespace Go.Proofs.Ytaneeadpjelomaa
open Go CF

def beN : Nat → Nat → L8
  | 0, _ => []
  | j + 1, v => UInt8.ofNat (v / 256 ^ j) :: beN j v
theorem beN_len : ∀ (n v : Nat), (beN n v).length = n
  | 0, _ => rfl
  | n + 1, v => by simp [beN, beN_len n v]
theorem num_foldl (l : L8) : ∀ v : Nat, l.foldl (fun v b => v * 256 + b.toNat) v = v * 256 ^ l.length + num l := by
  induction l with
  | nil => intro v; simp [num]
  | cons b r ih =>
    intro v
    unfold num
    simp only [List.foldl_cons, List.length_cons]
    rw [ih, ih (0 * 256 + b.toNat), Nat.pow_succ]
    simp only [Nat.zero_mul, Nat.zero_add]
    rw [Nat.add_mul, Nat.mul_assoc, Nat.mul_comm (256 ^ r.length) 256]
    omega
theorem num_cons (b : UInt8) (l : L8) : num (b :: l) = b.toNat * 256 ^ l.length + num l := by
  show List.foldl _ (0 * 256 + b.toNat) l = _
  rw [num_foldl]; simp
theorem num_append (a b : L8) : num (a ++ b) = num a * 256 ^ b.length + num b := by
  show List.foldl _ 0 (a ++ b) = _
  rw [List.foldl_append, num_foldl]; rfl
theorem num_beN : ∀ (n v : Nat), num (beN n v) = v % 256 ^ n
  | 0, v => by simp [beN, num, Nat.mod_one]
  | n + 1, v => by
    simp only [beN]
    have e : (256 : Nat) ^ (n + 1) = 256 ^ n * 256 := Nat.pow_succ ..
    rw [num_cons, beN_len, num_beN n v, UInt8.toNat_ofNat', e, Nat.mod_mul, Nat.mul_comm, Nat.add_comm]
theorem num_beN_lt {n v : Nat} (h : v < 256 ^ n) : num (beN n v) = v := by rw [num_beN, Nat.mod_eq_of_lt h]
theorem bv_set (l : L8) (i : Nat) (b : UInt8) : (bv l).set i (.int .u8 (b.toNat : Int)) = bv (l.set i b) := by
  simp [bv, List.map_set]
/-- l with a number laid in, as it is while j bytes of n are laid -/
def layN (l : L8) (at_ n j v : Nat) : L8 := l.take (at_ + (n - j)) ++ beN j v ++ l.drop (at_ + n)
theorem layN_zero (l : L8) (at_ n v : Nat) : layN l at_ n 0 v = l := by simp [layN, beN]
theorem layN_len {l : L8} {at_ n j : Nat} (v : Nat) (h : at_ + n ≤ l.length) (hj : j ≤ n) : (layN l at_ n j v).length = l.length := by
  simp [layN, beN_len]; omega
theorem layN_step {l : L8} {at_ n j : Nat} (v : Nat) (h : at_ + n ≤ l.length) (hj : j < n) :
    (layN l at_ n j v).set (at_ + (n - 1 - j)) (UInt8.ofNat (v / 256 ^ j)) = layN l at_ n (j + 1) v := by
  unfold layN
  have e1 : at_ + (n - j) = at_ + (n - (j + 1)) + 1 := by omega
  have e2 : at_ + (n - 1 - j) = at_ + (n - (j + 1)) := by omega
  have hl : at_ + (n - (j + 1)) < l.length := by omega
  rw [e1, e2, List.take_succ_eq_append_getElem hl]
  generalize hm : at_ + (n - (j + 1)) = m at *
  have ht : (l.take m).length = m := by rw [List.length_take]; omega
  simp only [List.append_assoc]
  rw [List.set_append_right _ _ (by omega), ht, Nat.sub_self]
  rfl
def lay (l : L8) (at_ n v : Nat) : L8 := l.take at_ ++ beN n v ++ l.drop (at_ + n)
theorem layN_all (l : L8) (at_ n v : Nat) : layN l at_ n n v = lay l at_ n v := by simp [layN, lay]
theorem div_step (v j : Nat) : v / 256 ^ j / 256 = v / 256 ^ (j + 1) := by rw [Nat.pow_succ, Nat.div_div_eq_div_mul]
theorem field_spec {p : Sl} {at_ n : Nat} {w : World} {R : Int → World → Prop} (hb : p.n ≤ 140737489403904) (hn : 1 ≤ n) (hn8 : n ≤ 8) (hat : at_ + n ≤ p.n) (h : R 0 w) : Cbe_field p (at_ : Int) (n : Int) w R := by
  refine Fbe_field.calls _ _ _ _ _ ?_
  have e1 : IntKind.wrap .i64 ((p.n : Int) - (n : Int)) = (p.n : Int) - (n : Int) := w64 (by omega) (by omega)
  exact br_f (by rw [Bool.or_eq_false_iff, decide_eq_false_iff_not, decide_eq_false_iff_not]; omega) (br_f (by rw [Bool.or_eq_false_iff, decide_eq_false_iff_not, decide_eq_false_iff_not, e1]; omega) h)
theorem put_spec {p : Sl} {l : L8} {at_ n v : Nat} {w : World} {R : Sl → Int → World → Prop} (hp : Rd w 1 p (bv l)) (hb : p.n ≤ 1000000000) (hn : 1 ≤ n) (hn8 : n ≤ 8) (hat : at_ + n ≤ l.length) (hv : v < 256 ^ n)
    (h : ∀ s w', Own w' w.heap.size t_uint8 1 s (bv (lay l at_ n v)) → Grow w w' → R s 0 w') : Cbe_Put p (at_ : Int) (n : Int) (v : Int) w R := by
  refine Fbe_Put.calls _ _ _ _ _ _ ?_
  have hln : l.length = p.n := by have := hp.len; rw [bv_length] at this; omega
  refine field_spec (by omega) hn hn8 (by omega) ?_
  have e8 : IntKind.wrap .i64 (8 * (n : Int)) = ((8 * n : Nat) : Int) := by rw [w64 (by omega) (by omega)]; omega
  rw [e8, Int.toNat_natCast, shr .u64 v (8 * n) (by show 8 * n ≤ 64; omega)]
  have hz : v / 2 ^ (8 * n) = 0 := by
    refine Nat.div_eq_of_lt ?_
    rw [Nat.pow_mul]
    exact hv
  rw [hz]
  refine ⟨fun _ => by omega, br_f (by simp) (br_f rfl ?_)⟩
  refine append_rule (s := ⟨none, 0, 0⟩) (vs := []) (base := w.heap.size) u_sl_uint8 i_uint8 rfl (by decide) (by decide) (own_nil _ _ _ _) hp (bv_one' _) (by show (0 + p.n) * 1 ≤ _; omega) (Nat.le_refl _) fun s1 w1 hn1 hown1 hk1 _ => ?_
  have hg1 : Grow w w1 := hk1.mono fun i hi q => by cases q
  rw [List.nil_append] at hown1
  have hn1 : s1.n = p.n := by rw [hn1]; exact Nat.zero_add _
  refine ⟨fun x i u => ∃ j : Nat, j ≤ n ∧ i = ((n : Int) - 1 - (j : Int)) ∧ x = ((v / 256 ^ j : Nat) : Int) ∧ Grow w u ∧ Own u w.heap.size t_uint8 1 s1 (bv (layN l at_ n j v)), fun _ i _ => (i + 1).toNat,
    ⟨0, Nat.zero_le _, by rw [w64 (by omega) (by omega)]; omega, by simp, hg1, by rw [layN_zero]; exact hown1⟩, ?_⟩
  rintro x i w2 ⟨j, hj, rfl, rfl, hg2, hown2⟩
  refine br_dec (fun hlt => ?_) (fun hge => ?_)
  · have e1 : IntKind.wrap .i64 ((at_ : Int) + ((n : Int) - 1 - (j : Int))) = ((at_ + (n - 1 - j) : Nat) : Int) := by rw [w64 (by omega) (by omega)]; omega
    rw [e1, Int.toNat_natCast, wrap_u8]
    have hs1A : s1.A.isSome = true := by
      have hne : bv (layN l at_ n j v) ≠ [] := fun q => by have := congrArg List.length q; rw [bv_length, layN_len v hat (by omega), List.length_nil] at this; omega
      obtain ⟨a, ha, _⟩ := (hown2.rd (by omega)).at_ hne
      rw [ha]; rfl
    refine ⟨⟨by omega, by omega, hs1A⟩, ?_⟩
    refine own_put (i := at_ + (n - 1 - j)) hown2 (by omega) rfl fun w3 hown3 hk3 _ => ?_
    rw [bv_set, layN_step v hat (by omega)] at hown3
    rw [shr .u64 _ 8 (by decide), w64 (by omega) (by omega)]
    refine ⟨⟨j + 1, by omega, by omega, ?_, hg2.keep hk3 fun i hi q => by have := (hown2.ge i q.symm).1; omega, hown3⟩, by dsimp only; omega⟩
    rw [← div_step]
  · have : j = n := by omega
    subst this
    rw [layN_all] at hown2
    exact h s1 w2 hown2 hg2
theorem ref_field_spec {all at_ n : Nat} {w : World} {R : Int → World → Prop} (hb : all ≤ 140737489403904) (hn : 1 ≤ n) (hn8 : n ≤ 8) (hat : at_ + n ≤ all) (h : R 0 w) : Cpalletref01_field (all : Int) (at_ : Int) (n : Int) w R := by
  refine Fpalletref01_field.calls _ _ _ _ _ ?_
  have e1 : IntKind.wrap .i64 ((all : Int) - (at_ : Int)) = (all : Int) - (at_ : Int) := w64 (by omega) (by omega)
  refine br_f (by rw [Bool.or_eq_false_iff, decide_eq_false_iff_not, decide_eq_false_iff_not]; omega) (br_f ?_ h)
  rw [Bool.or_eq_false_iff, Bool.or_eq_false_iff, decide_eq_false_iff_not, decide_eq_false_iff_not, decide_eq_false_iff_not, e1]
  omega
theorem num_small {l : L8} {j : Nat} (h : l.length = j) (hj : j ≤ 7) : num l < 72057594037927936 := by
  refine Nat.lt_of_lt_of_le (num_lt l) ?_
  rw [h]
  calc 256 ^ j ≤ 256 ^ 7 := Nat.pow_le_pow_right (by decide) hj
    _ = 72057594037927936 := by decide
theorem ref_num_spec {p : Sl} {l : L8} {at_ n : Nat} {w : World} {R : Int → World → Prop} (hp : Rd w 1 p (bv l)) (hn : 1 ≤ n) (hn8 : n ≤ 8) (hat : at_ + n ≤ l.length)
    (h : R ((num ((l.drop at_).take n) : Nat) : Int) w) : Cpalletref01_Num p (at_ : Int) (n : Int) w R := by
  refine Fpalletref01_Num.calls _ _ _ _ _ ?_
  refine Fpalletref01_Get.calls _ _ _ _ _ ?_
  have hnb := hp.nb
  have hln : l.length = p.n := by have := hp.len; rw [bv_length] at this; omega
  refine ref_field_spec (all := p.n) (by omega) hn hn8 (by omega) (br_f rfl ?_)
  generalize hseg : (l.drop at_).take n = seg at *
  have hsl : seg.length = n := by rw [← hseg, List.length_take, List.length_drop]; omega
  refine ⟨fun v x w' => w' = w ∧ ∃ j : Nat, x = j ∧ j ≤ n ∧ v = ((num (seg.take j) : Nat) : Int), fun _ x _ => n - x.toNat, ⟨rfl, 0, rfl, Nat.zero_le _, rfl⟩, ?_⟩
  rintro v x w0 ⟨rfl, j, rfl, hj, rfl⟩
  refine br_nat (fun hlt => ?_) (fun hge => ?_)
  · obtain ⟨a, ha, hc⟩ := hp.byte (i := at_ + j) (by omega)
    have hjs : j < seg.length := by omega
    have hseg' : seg[j] = l[at_ + j]'(by omega) := by subst hseg; simp
    have e1 : IntKind.wrap .i64 ((at_ : Int) + (j : Int)) = ((at_ + j : Nat) : Int) := by rw [w64 (by omega) (by omega)]; omega
    rw [e1, Int.toNat_natCast]
    refine ⟨⟨by omega, by omega, by rw [ha]; rfl⟩, (seg[j].toNat : Int), by rw [ha, hseg']; exact hc, ?_⟩
    have hb8 := seg[j].toNat_lt
    have hsm : num (seg.take j) < 72057594037927936 := num_small (j := j) (by rw [List.length_take]; omega) (by omega)
    rw [wu64 (n := ((num (seg.take j) : Nat) : Int) * 256) (by omega) (by omega), wu64 (n := (seg[j].toNat : Int)) (by omega) (by omega), wu64 (by omega) (by omega), w64 (by omega) (by omega)]
    refine ⟨⟨rfl, j + 1, by omega, by omega, ?_⟩, by dsimp only; omega⟩
    rw [List.take_succ_eq_append_getElem hjs, num_snoc]; omega
  · have : j = n := by omega
    subst this
    rw [List.take_of_length_le (by omega)]
    exact h
end Go.Proofs.Ytaneeadpjelomaa

/- Layer 4: what was written is read; lists of blocks that are alike. -/
namespace Go.Proofs.Ytaneeadpjelomaa
open Go CF

def cont (st : Wst) (file : ByteArray) : L8 := (st.seen file).getD []
theorem cont_step (st : Wst) (file : ByteArray) (o : Nat) (r : L8) : cont (stepW st file o r) file = wr (cont st file) o r := by
  simp [cont, stepW, applyWr, setF]
theorem layW_file {st : Wst} {file : ByteArray} {lba : Nat} {bs : List Bk} (hg : Good (cont st file)) : ∀ k, k ≤ bs.length → Good (cont (layW st file lba (rsOf bs) k) file) ∧
    ∀ j, blkAt (cont (layW st file lba (rsOf bs) k) file) j = if lba ≤ j ∧ j < lba + k then (bs[j - lba]?).getD emptyB else blkAt (cont st file) j
  | 0, _ => ⟨hg, fun j => by rw [if_neg (by omega)]; rfl⟩
  | k + 1, hk => by
    obtain ⟨h1, h2⟩ := layW_file (lba := lba) (bs := bs) hg k (by omega)
    have hr : rsOf bs k = recB (bs[k]'(by omega)) := by unfold rsOf; rw [List.getElem?_eq_getElem (by omega)]
    refine ⟨?_, fun j => ?_⟩
    · show Good (cont (stepW _ file _ _) file)
      rw [cont_step, hr]; exact good_rec h1 _ _
    · show blkAt (cont (stepW _ file _ _) file) j = _
      rw [cont_step, hr, blkAt_rec h1, h2]
      by_cases e : j = lba + k
      · subst e
        rw [if_pos rfl, if_pos (by omega), Nat.add_sub_cancel_left, List.getElem?_eq_getElem (by omega)]
        rfl
      · rw [if_neg e]
        by_cases q : lba ≤ j ∧ j < lba + k
        · rw [if_pos q, if_pos (by omega)]
        · rw [if_neg q, if_neg (by omega)]
theorem blkAt_nil (j : Nat) : blkAt [] j = emptyB := blkOf_not (by simp)
theorem flat_cut (bs : List Bk) (i m : Nat) : ((bs.flatMap bc).drop (i * 19)).take (m * 19) = ((bs.drop i).take m).flatMap bc := by
  have hd : ∀ (i : Nat) (l : List Bk), (l.flatMap bc).drop (i * 19) = (l.drop i).flatMap bc := by
    intro i
    induction i with
    | zero => intro l; simp
    | succ i ih =>
      intro l
      cases l with
      | nil => simp
      | cons b r =>
        rw [List.flatMap_cons, List.drop_succ_cons, ← ih r, List.drop_append, List.drop_of_length_le (by rw [bc_len]; omega), bc_len, List.nil_append]
        congr 1; omega
  have ht : ∀ (i : Nat) (l : List Bk), (l.flatMap bc).take (i * 19) = (l.take i).flatMap bc := by
    intro i
    induction i with
    | zero => intro l; simp
    | succ i ih =>
      intro l
      cases l with
      | nil => simp
      | cons b r =>
        rw [List.flatMap_cons, List.take_succ_cons, List.flatMap_cons, ← ih r, List.take_append, List.take_of_length_le (by rw [bc_len]; omega), bc_len]
        congr 2; omega
  rw [hd, ht]
theorem rd_bk_cut {w : World} {s : Sl} {bs : List Bk} (h : Rd w 19 s (bs.flatMap bc)) {l k : Nat} (hl : l ≤ k) (hk : k ≤ s.n) : Rd w 19 ⟨cutA s.A s.c l 19, k - l, s.c - l⟩ (((bs.drop l).take (k - l)).flatMap bc) := by
  have := h.cut hl hk
  rwa [flat_cut] at this
theorem IsWq.nobytes {w : World} {pw : Nat} {D : Nat → Prop} {st : Wst} {F : Int → Bool} (h : IsWq w pw D st F) : NoBytes w D := by
  obtain ⟨_, _, mb, md, ws, cs, h⟩ := h
  exact h.nb
theorem size_s_f : (1 : Nat) ≤ s_f.size ∧ s_f.size ≤ 32 := by decide
def bk7 : Bk := ⟨[0, 0, 0, 0, 0, 0, 0, 0, 0, 0, 0, 0, 0, 0, 0, 0], 0, 7, 0, rfl, by decide, by decide, by decide⟩
end Go.Proofs.Ytaneeadpjelomaa

/- Layer 4: blocks as arguments; the law of two pieces. -/
namespace Go.Proofs.Ytaneeadpjelomaa
open Go CF

section
variable {H : Type} {enc : TypeId × Value → H} {w : World} {base : Nat} {spare : Nat → Bool} {held : Bool}
theorem int_u8 {n : Int} (h : (Lit.int .u8 n).wf = true) : ∃ a : Nat, n = a ∧ a < 256 := by
  simp [Lit.wf, IntKind.min, IntKind.max, IntKind.signed, IntKind.bits] at h
  exact ⟨n.toNat, by omega, by omega⟩
theorem int_u16 {n : Int} (h : (Lit.int .u16 n).wf = true) : ∃ a : Nat, n = a ∧ a < 65536 := by
  simp [Lit.wf, IntKind.min, IntKind.max, IntKind.signed, IntKind.bits] at h
  exact ⟨n.toNat, by omega, by omega⟩
theorem int_u32 {n : Int} (h : (Lit.int .u32 n).wf = true) : ∃ a : Nat, n = a ∧ a < 4294967296 := by
  simp [Lit.wf, IntKind.min, IntKind.max, IntKind.signed, IntKind.bits] at h
  exact ⟨n.toNat, by omega, by omega⟩
theorem bytes_of : ∀ (n : Nat) (cs : List Value), FitL (List.replicate n (.i .u8)) cs → (∀ v ∈ cs, okV v) → ∃ l : L8, l.length = n ∧ cs = bv l
  | 0, [], _, _ => ⟨[], rfl, rfl⟩
  | n + 1, v :: cs, h, hv => by
    obtain ⟨h1, h2⟩ := h
    obtain ⟨l, hl, hc⟩ := bytes_of n cs h2 (fun u hu => hv u (by simp [hu]))
    have hv0 := hv v (by simp)
    obtain ⟨n0, rfl⟩ : ∃ n0 : Int, v = .int .u8 n0 := ⟨_, (Kd.mk_un h1).symm⟩
    obtain ⟨a, rfl, ha⟩ := int_u8 hv0
    refine ⟨UInt8.ofNat a :: l, by simp [hl], ?_⟩
    rw [hc]
    simp only [bv, List.map_cons, UInt8.toNat_ofNat']
    congr 2
    omega
  | n + 1, [], h, _ => h.elim
  | 0, _ :: _, h, _ => h.elim
theorem opens_block : Opens enc Try.prog w base spare held t_api_Block fun cs => ∃ b : Bk, cs = bc b ∧ True :=
  (opens_flat 8 t_api_Block kBk flat_api_Block (by kernel_rfl)).mono fun cs ⟨h, hv⟩ => by
    have h : FitL (List.replicate 16 (.i .u8) ++ [.i .u16, .i .u16, .i .u32]) cs := h
    obtain ⟨h1, h2⟩ := h.append
    simp only [List.length_replicate] at h1 h2
    obtain ⟨l, hl, hc⟩ := bytes_of 16 _ h1 fun v hv' => hv v (List.mem_of_mem_take hv')
    have hv2 : ∀ v ∈ cs.drop 16, okV v := fun v hv' => hv v (List.mem_of_mem_drop hv')
    have e := (List.take_append_drop 16 cs).symm
    generalize cs.drop 16 = r at h2 hv2 e
    match r, h2 with
    | [x, y, z], ⟨hx, hy, hz, _⟩ =>
      have ox := hv2 x (by simp)
      have oy := hv2 y (by simp)
      have oz := hv2 z (by simp)
      obtain ⟨x, rfl⟩ : ∃ n0 : Int, x = .int .u16 n0 := ⟨_, (Kd.mk_un hx).symm⟩
      obtain ⟨y, rfl⟩ : ∃ n0 : Int, y = .int .u16 n0 := ⟨_, (Kd.mk_un hy).symm⟩
      obtain ⟨z, rfl⟩ : ∃ n0 : Int, z = .int .u32 n0 := ⟨_, (Kd.mk_un hz).symm⟩
      obtain ⟨g, rfl, hg⟩ := int_u16 ox
      obtain ⟨a, rfl, ha⟩ := int_u16 oy
      obtain ⟨q, rfl, hr⟩ := int_u32 oz
      exact ⟨⟨l, g, a, q, hl, hg, ha, hr⟩, by rw [e, hc]; rfl, trivial⟩
theorem opens_blocks : Opens enc Try.prog w base spare held t_sl_api_Block fun cs => ∃ s : Sl, cs = [.slice s.A s.n s.c] ∧ ∃ bs : List Bk, Rd w 19 s (bs.flatMap bc) :=
  (opens_slice (f := bc) (Q := fun _ => True) (z := 19) (bytes := 24) u_sl_api_Block (by kernel_rfl) (by kernel_rfl) (by decide) bc_len opens_block).mono fun _ ⟨s, h1, bs, h2, _⟩ => ⟨s, h1, bs, h2⟩
end
theorem rdBl_of {st st' : Wst} {file : ByteArray} {a b n : Nat} (h : ∀ i, i < n → blkAt (cont st file) (a + i) = blkAt (cont st' file) (b + i)) : rdBl st file a n = rdBl st' file b n := by
  unfold rdBl
  apply List.map_congr_left
  intro i hi
  exact h i (List.mem_range.1 hi)
theorem rdBl_list {st : Wst} {file : ByteArray} {a n : Nat} {l : List Bk} (hn : l.length = n) (h : ∀ i (hi : i < l.length), blkAt (cont st file) (a + i) = l[i]) : rdBl st file a n = l := by
  unfold rdBl
  apply List.ext_getElem
  · simp [hn]
  · intro i h1 h2
    rw [List.getElem_map, List.getElem_range]
    exact h i h2
abbrev st0 : Wst := ⟨fun _ => none, fun _ => none, [], 0⟩
end Go.Proofs.Ytaneeadpjelomaa

/- Layer 3: what waits is done; how much waits. -/
namespace Go.Proofs.Ytaneeadpjelomaa
open Go CF

def apC (F : Files) (c : Cg) : Files := applyWr F c.name c.off c.p
def apAll (F : Files) (l : List Cg) : Files := l.foldl apC F
theorem apAll_snoc (F : Files) (l : List Cg) (c : Cg) : apAll F (l ++ [c]) = apC (apAll F l) c := by simp [apAll]
/-- all that waits is written within bounds -/
def Wok (st : Wst) : Prop := ∀ c ∈ st.waits, c.kind = 119 ∧ c.off + c.p.length ≤ 1048576
theorem sync_any {w : World} {pw : Nat} {D : Nat → Prop} {st : Wst} {F : Int → Bool} {R : Int → World → Prop} (hw : IsWq w pw D st F) (hk : Wok st) (ho : st.ops < 1000000000000) (hn : st.waits.length < 1000000000)
    (h : F (st.ops : Int) = false → ∀ w' D', Keep D w w' → IsWq w' pw D' ⟨st.seen, apAll st.dur st.waits, [], st.ops + 1⟩ F → (∀ k, D' k → D k ∨ w.heap.size ≤ k) → R 0 w')
    (hbad : F (st.ops : Int) = true → ∀ w', Keep D w w' → IsWq w' pw D { st with ops := st.ops + 1 } F → R 6 w') : Cworld_World_Sync (some ⟨pw, 0, none⟩) w R := by
  obtain ⟨pl, hF, mb, md, ws, cs, hw⟩ := hw
  subst hF
  refine Fworld_World_Sync.calls _ _ _ ?_
  refine br_f rfl ?_
  refine call_any hw ho fun w1 hk1 hw1 => ?_
  have hk1D : Keep D w w1 := hk1.mono fun _ _ q => by subst q; exact hw.dw
  cases hfl : pl.F (st.ops : Int) with
  | true => exact br_t rfl (hbad hfl w1 hk1D ⟨pl, rfl, mb, md, ws, cs, hw1⟩)
  | false =>
  have h := h hfl
  refine br_f rfl ⟨rfl, ws, by rw [gA, add0, hw1.blk.cell]; rfl, ?_⟩
  have hlen : cs.length = st.waits.length := by rw [← hw.waits, List.length_map]
  have hwn : ws.n = cs.length := by have := hw.own.len; rw [cgv_flat] at this; omega
  refine ⟨fun x u => ∃ j : Nat, x = j ∧ j ≤ cs.length ∧ Keep D w u ∧ IsWd u pw D ⟨st.seen, apAll st.dur (st.waits.take j), st.waits, st.ops + 1⟩ pl mb md ws cs, fun x _ => cs.length - x.toNat,
    ⟨0, rfl, Nat.zero_le _, hk1D, hw1⟩, ?_⟩
  rintro x w2 ⟨j, rfl, hj, hk2, hw2⟩
  refine br_nat (fun hlt => ?_) (fun hge => ?_)
  · have hjc : j < cs.length := by omega
    have hjw : j < st.waits.length := by omega
    have hcj : cs[j].1 = st.waits[j] := by
      have := hw.waits
      simp only [← this, List.getElem_map]
    obtain ⟨hkind, hbnd⟩ := hk _ (List.getElem_mem hjw)
    obtain ⟨a, ha, hc⟩ := (hw2.own.rd (by omega)).elem (i := j) (by omega) (by decide)
    rw [flat_elem cgv_len hjc] at hc
    have lv : ∀ {u : World} {b : Addr}, Cells u b (cgv cs[j]) → (loadVar t_world_change b).run Try.prog u = .ok (.agg (cgv cs[j]).toArray) u := fun q => loadVar_rule g_world_change i_world_change rfl q
    refine ⟨⟨by omega, by omega, by rw [ha]; rfl⟩, (cgv cs[j]).toArray, by rw [ha]; exact lv hc, ?_⟩
    refine new_rule fun cb w3 hcb hb3 hg3 hsz3 => ?_
    have hw3 := hw2.keep hg3 (fun _ _ q => q) (nobytes_none w2)
    refine storeVar_rule (cells := (cgv cs[j]).toArray) hb3 i_world_change rfl rfl (by simp [cgv, Value.oneCell']) fun w4 hb4 hk4 hsz4 => ?_
    have hg4 : Grow w2 w4 := hg3.keep hk4 fun i hi q => by omega
    have hw4 := hw2.keep hg4 (fun _ _ q => q) (nobytes_none w2)
    rintro w5 rfl
    have hg5 : Grow w4 w4.drew := keep_drew w4
    have hw5 := hw4.keep hg5 (fun _ _ q => q) (nobytes_none w4)
    have hb5 : Blk w4.drew cb (cgv cs[j]).toArray t_world_change := hg5.heap hb4 (fun q => q)
    refine ⟨fun u => Blk u pw (wcells pl.mf mb md ws (st.ops + 1)) t_world_World ∧ Blk u cb (cgv cs[j]).toArray t_world_change, ⟨hw5.blk, hb5⟩, rfl, some md, fun u hu => by rw [gA, add0, hu.1.cell]; rfl, (cgv cs[j]).toArray, fun u hu => lv (blk_cells hu.2), cs[j].2, fun u hu => by rw [add0, hu.2.cell]; rfl, ?_⟩
    have hrow := hw5.rows _ (List.getElem_mem hjc)
    have hpl : cs[j].1.p.length = cs[j].2.n := by have := hrow.len; rw [bv_length] at this; omega
    have e : (cgv cs[j]).toArray = #[.int .u8 119, .string cs[j].1.name, .string cs[j].1.to, .int .i64 (cs[j].1.off : Int), .slice cs[j].2.A cs[j].2.n cs[j].2.c] := by
      unfold cgv; rw [hcj, hkind]
    rw [e]
    refine apply_w_spec hw5.dur (hrow.rd (by rw [hcj] at hpl; omega)) (by rw [hcj]; exact hbnd) fun w6 hk6 hF6 => ?_
    have hw6 := hw5.setDur hk6 hF6
    rw [show (cs[j].1.p).take cs[j].2.n = cs[j].1.p from List.take_of_length_le (by omega)] at hw6
    have hk6D : Keep D w w6 := (((hk2.grow hg4).grow hg5)).trans hk6 fun _ _ q => by subst q; exact hw.dd
    rw [w64 (by omega) (by omega)]
    refine ⟨⟨j + 1, by omega, by omega, hk6D, ?_⟩, by dsimp only; omega⟩
    rw [List.take_succ_eq_append_getElem hjw, apAll_snoc, ← hcj]
    exact hw6
  · have hjn : j = st.waits.length := by omega
    rw [hjn, List.take_length] at hw2
    refine ⟨rfl, ?_⟩
    rw [gA, add0]
    refine put_rule hw2.blk (by show 2 < 7; decide) rfl fun w3 hb3 hk3 hsz3 => ?_
    have hfin := hw2.setWaits (w1 := w2) (w2 := w3) (ws' := ⟨none, 0, 0⟩) (cs' := []) (Keep.mono (Keep.refl (fun _ => False) w2) fun _ _ q => q.elim) (own_nil _ _ _ _) (.inr (.inr rfl)) (fun c hc => by cases hc) hb3 hk3
    have s2 := hk2.size
    refine h w3 (fun k => ((k = pw ∨ k = mb ∨ k = md) ∨ some k = (⟨none, 0, 0⟩ : Sl).blk) ∨ pl.mf = some k) (hk2.trans hfin.2.1 fun _ _ q => q) ⟨pl, rfl, mb, md, ⟨none, 0, 0⟩, [], hfin.1⟩ fun k hk => ?_
    rcases hfin.2.2 k hk with q | q
    · exact .inl q
    · exact .inr (by omega)
theorem sync_spec {w : World} {pw : Nat} {D : Nat → Prop} {st : Wst} {R : Int → World → Prop} (hw : IsW w pw D st) (hk : Wok st) (ho : st.ops < 1000000000000) (hn : st.waits.length < 1000000000)
    (h : ∀ w' D', Keep D w w' → IsW w' pw D' ⟨st.seen, apAll st.dur st.waits, [], st.ops + 1⟩ → (∀ k, D' k → D k ∨ w.heap.size ≤ k) → R 0 w') : Cworld_World_Sync (some ⟨pw, 0, none⟩) w R :=
  sync_any hw.q hk ho hn (fun _ w' D' k hw' hd => h w' D' k hw'.isW hd) (fun q => by cases q)
theorem waits_spec {w : World} {pw : Nat} {D : Nat → Prop} {st : Wst} {R : Int → World → Prop} (hw : IsW w pw D st) (h : R (st.waits.length : Int) w) : Cworld_World_Waits (some ⟨pw, 0, none⟩) w R := by
  obtain ⟨_, _, mb, md, ws, cs, hw⟩ := hw
  refine Fworld_World_Waits.calls _ _ _ (br_f rfl ⟨rfl, ws, by rw [gA, add0, hw.blk.cell]; rfl, ?_⟩)
  have hlen : cs.length = st.waits.length := by rw [← hw.waits, List.length_map]
  have hwn : ws.n = cs.length := by have := hw.own.len; rw [cgv_flat] at this; omega
  rw [hwn, hlen]
  exact h
end Go.Proofs.Ytaneeadpjelomaa

/- Layer 4: writing with what is made durable; the law of caches. -/
namespace Go.Proofs.Ytaneeadpjelomaa
open Go CF

def synced (s : Wst) : Wst := ⟨s.seen, apAll s.dur s.waits, [], s.ops + 1⟩
def syncIf (y : Bool) (s : Wst) : Wst := if y then synced s else s
theorem syncIf_seen (y : Bool) (s : Wst) : (syncIf y s).seen = s.seen := by cases y <;> rfl
theorem syncIf_ops (y : Bool) (s : Wst) : (syncIf y s).ops ≤ s.ops + 1 := by
  cases y
  · exact Nat.le_succ _
  · exact Nat.le_refl _
theorem syncIf_waits (y : Bool) (s : Wst) : (syncIf y s).waits = if y then [] else s.waits := by cases y <;> rfl
theorem syncIf_ok {y : Bool} {s : Wst} (h : Wok s) : Wok (syncIf y s) := by
  cases y
  · exact h
  · exact fun c hc => by cases hc
theorem layW_ok {st : Wst} {file : ByteArray} {lba : Nat} {rs : Nat → L8} (h : Wok st) (hlen : ∀ i, (rs i).length ≤ 25) : ∀ k, lba + k ≤ 4096 → Wok (layW st file lba rs k)
  | 0, _ => h
  | k + 1, hb => by
    intro c hc
    have ih := layW_ok (lba := lba) (file := file) h hlen k (by omega)
    rcases List.mem_append.1 hc with q | q
    · exact ih c q
    · rw [List.mem_singleton.1 q]
      refine ⟨rfl, ?_⟩
      have := hlen k
      show 25 * (lba + k) + (rs k).length ≤ _
      omega
/-- does a write end with a sync? -/
def syncs (n : Nat) (fua cache : Bool) : Bool := decide (0 < n) && (fua || !cache)
theorem store_write2_any {w : World} {ps pw : Nat} {D : Nat → Prop} {st : Wst} {F : Int → Bool} {file : ByteArray} {blocks : Nat} {cache fua : Bool} {lba : Nat} {L : Sl} {bs : List Bk} {R : Int → Int → World → Prop}
    (hS : IsS w ps pw file blocks cache) (hps : ¬ D ps) (hw : IsWq w pw D st F) (hok : Wok st) (hs : 1 ≤ file.size ∧ file.size ≤ 32) (hbk : blocks ≤ 4096) (hl : lba + bs.length ≤ blocks) (hL : ∀ u, Keep D w u → Rd u 19 L (bs.flatMap bc))
    (ho : st.ops < 10000000000) (hn : st.waits.length < 10000000)
    (h : (∀ i : Nat, i < bs.length + (if syncs bs.length fua cache then 1 else 0) → F ((st.ops + i : Nat) : Int) = false) → ∀ u D', Keep D w u → IsWq u pw D' (syncIf (syncs bs.length fua cache) (layW st file lba (rsOf bs) bs.length)) F → (∀ k, D' k → D k ∨ w.heap.size ≤ k) → IsS u ps pw file blocks cache → R (bs.length : Int) 0 u)
    (hbad : ∀ k : Nat, k < bs.length + (if syncs bs.length fua cache then 1 else 0) → (∀ i : Nat, i < k → F ((st.ops + i : Nat) : Int) = false) → F ((st.ops + k : Nat) : Int) = true → ∀ u D', Keep D w u → IsWq u pw D' { layW st file lba (rsOf bs) k with ops := st.ops + k + 1 } F → (∀ k, D' k → D k ∨ w.heap.size ≤ k) → IsS u ps pw file blocks cache → R (k : Int) 6 u) :
    Cstore_Store_Write (some ⟨ps, 0, none⟩) (lba : Int) L fua w R := by
  refine store_write_any hS hps hw hs hbk (by omega) hL (by omega) (by omega) (fun q => absurd q (by omega)) (fun _ hfl u D' hk hw' hD' hS' => ?_) (fun _ k hk0 hfl hf u D' hk hw' hD' hS' => hbad k (by omega) hfl hf u D' hk hw' hD' hS')
  obtain ⟨lo, lw⟩ := layW_ops st file lba (rsOf bs) bs.length
  by_cases q : 0 < bs.length ∧ (fua = true ∨ cache = false)
  · rw [if_pos q]
    have hy : syncs bs.length fua cache = true := by
      unfold syncs
      rw [Bool.and_eq_true, decide_eq_true_eq, Bool.or_eq_true, Bool.not_eq_true']
      exact q
    have s1 := hk.size
    have lt := lt_of_heap hS
    have hS2 : ∀ {u2 : World}, Keep D' u u2 → IsS u2 ps pw file blocks cache := fun hk2 => hk2.heap hS' fun e => by
      rcases hD' _ e with r | r
      · exact hps r
      · omega
    have hkk : ∀ {u2 : World}, Keep D' u u2 → Keep D w u2 := fun hk2 => hk.trans hk2 fun i hi e => by
      rcases hD' i e with r | r
      · exact r
      · omega
    refine sync_any hw' (layW_ok hok (rsOf_len bs) _ (by omega)) (by omega) (by omega) (fun hf u2 D2 hk2 hw2 hD2 => ?_) (fun hf u2 hk2 hw2 => hbad bs.length (by rw [hy]; simp) hfl (by rw [← lo]; exact hf) u2 D' (hkk hk2) (by rw [← lo]; exact hw2) hD' (hS2 hk2))
    refine h (fun i hi => ?_) u2 D2 (hk.trans hk2 fun i hi e => ?_) (by rw [hy]; exact hw2) (fun k hk' => ?_) (hk2.heap hS' fun e => ?_)
    · rw [hy] at hi
      by_cases e : i = bs.length
      · subst e; rw [← lo]; exact hf
      · exact hfl i (by simp at hi; omega)
    · rcases hD' i e with r | r
      · exact r
      · omega
    · rcases hD2 k hk' with r | r
      · exact hD' k r
      · exact .inr (by omega)
    · rcases hD' _ e with r | r
      · exact hps r
      · omega
  · rw [if_neg q]
    have hy : syncs bs.length fua cache = false := by
      unfold syncs
      by_cases q1 : 0 < bs.length
      · rw [decide_eq_true q1, Bool.true_and]
        cases fua <;> cases cache <;> simp_all
      · rw [decide_eq_false q1, Bool.false_and]
    exact h (fun i hi => hfl i (by rw [hy] at hi; simpa using hi)) u D' hk (by rw [hy]; exact hw') hD' hS'
theorem store_write2_spec {w : World} {ps pw : Nat} {D : Nat → Prop} {st : Wst} {file : ByteArray} {blocks : Nat} {cache fua : Bool} {lba : Nat} {L : Sl} {bs : List Bk} {R : Int → Int → World → Prop}
    (hS : IsS w ps pw file blocks cache) (hps : ¬ D ps) (hw : IsW w pw D st) (hok : Wok st) (hs : 1 ≤ file.size ∧ file.size ≤ 32) (hbk : blocks ≤ 4096) (hl : lba + bs.length ≤ blocks) (hL : ∀ u, Keep D w u → Rd u 19 L (bs.flatMap bc))
    (ho : st.ops < 10000000000) (hn : st.waits.length < 10000000)
    (h : ∀ u D', Keep D w u → IsW u pw D' (syncIf (syncs bs.length fua cache) (layW st file lba (rsOf bs) bs.length)) → (∀ k, D' k → D k ∨ w.heap.size ≤ k) → IsS u ps pw file blocks cache → R (bs.length : Int) 0 u) :
    Cstore_Store_Write (some ⟨ps, 0, none⟩) (lba : Int) L fua w R :=
  store_write2_any hS hps hw hok hs hbk hl hL ho hn (fun _ => h) (fun k _ _ q => by cases q)
theorem store_sync_any {w : World} {ps pw : Nat} {D : Nat → Prop} {st : Wst} {F : Int → Bool} {file : ByteArray} {blocks : Nat} {cache : Bool} {R : Int → World → Prop} (hS : IsS w ps pw file blocks cache) (hps : ¬ D ps) (hw : IsWq w pw D st F) (hok : Wok st)
    (ho : st.ops < 10000000000) (hn : st.waits.length < 10000000)
    (h : F (st.ops : Int) = false → ∀ u D', Keep D w u → IsWq u pw D' (synced st) F → (∀ k, D' k → D k ∨ w.heap.size ≤ k) → IsS u ps pw file blocks cache → R 0 u)
    (hbad : F (st.ops : Int) = true → ∀ u, Keep D w u → IsWq u pw D { st with ops := st.ops + 1 } F → IsS u ps pw file blocks cache → R 6 u) : Cstore_Store_Sync (some ⟨ps, 0, none⟩) w R := by
  refine Fstore_Store_Sync.calls _ _ _ (br_f rfl ⟨rfl, some ⟨pw, 0, none⟩, by rw [gA, add0, Blk.cell hS]; rfl, ?_⟩)
  exact sync_any hw hok (by omega) (by omega) (fun hf u D' hk hw' hD' => h hf u D' hk hw' hD' (hk.heap hS hps)) (fun hf u hk hw' => hbad hf u hk hw' (hk.heap hS hps))
theorem store_sync_spec {w : World} {ps pw : Nat} {D : Nat → Prop} {st : Wst} {file : ByteArray} {blocks : Nat} {cache : Bool} {R : Int → World → Prop} (hS : IsS w ps pw file blocks cache) (hps : ¬ D ps) (hw : IsW w pw D st) (hok : Wok st)
    (ho : st.ops < 10000000000) (hn : st.waits.length < 10000000)
    (h : ∀ u D', Keep D w u → IsW u pw D' (synced st) → (∀ k, D' k → D k ∨ w.heap.size ≤ k) → IsS u ps pw file blocks cache → R 0 u) : Cstore_Store_Sync (some ⟨ps, 0, none⟩) w R :=
  store_sync_any hS hps hw hok ho hn (fun _ => h) (fun q => by cases q)
theorem wok0 : Wok st0 := fun c hc => by cases hc
end Go.Proofs.Ytaneeadpjelomaa

/- Layer 4: unmapping; an array of blocks as a variable. -/
namespace Go.Proofs.Ytaneeadpjelomaa
open Go CF

theorem layW_zero {st : Wst} {file : ByteArray} {lba : Nat} (hg : Good (cont st file)) : ∀ k, Good (cont (layW st file lba (fun _ => [0]) k) file) ∧
    ∀ j, blkAt (cont (layW st file lba (fun _ => [0]) k) file) j = if lba ≤ j ∧ j < lba + k then emptyB else blkAt (cont st file) j
  | 0 => ⟨hg, fun j => by rw [if_neg (by omega)]; rfl⟩
  | k + 1 => by
    obtain ⟨h1, h2⟩ := layW_zero (lba := lba) hg k
    refine ⟨?_, fun j => ?_⟩
    · show Good (cont (stepW _ file _ _) file)
      rw [cont_step]; exact good_zero h1 _
    · show blkAt (cont (stepW _ file _ _) file) j = _
      rw [cont_step, blkAt_zero h1, h2]
      by_cases e : j = lba + k
      · subst e
        rw [if_pos rfl, if_pos (by omega)]
      · rw [if_neg e]
        by_cases q : lba ≤ j ∧ j < lba + k
        · rw [if_pos q, if_pos (by omega)]
        · rw [if_neg q, if_neg (by omega)]
theorem store_unmap_spec {w : World} {ps pw : Nat} {D : Nat → Prop} {st : Wst} {file : ByteArray} {blocks : Nat} {cache : Bool} {lba n : Nat} {R : Int → Int → World → Prop}
    (hS : IsS w ps pw file blocks cache) (hps : ¬ D ps) (hw : IsW w pw D st) (hok : Wok st) (hs : 1 ≤ file.size ∧ file.size ≤ 32) (hbk : blocks ≤ 4096) (hl : lba + n ≤ blocks)
    (ho : st.ops < 10000000000) (hn : st.waits.length < 10000000)
    (h : ∀ u D', Keep D w u → IsW u pw D' (syncIf (syncs n false cache) (layW st file lba (fun _ => [0]) n)) → (∀ k, D' k → D k ∨ w.heap.size ≤ k) → IsS u ps pw file blocks cache → R (n : Int) 0 u) :
    Cstore_Store_Unmap (some ⟨ps, 0, none⟩) (lba : Int) (n : Int) w R := by
  refine Fstore_Store_Unmap.calls _ _ _ _ _ ?_
  refine check_spec hS hbk (by omega) ?_
  rw [if_pos hl]
  refine br_f rfl ?_
  refine lay_spec (n := n) (rs := fun _ => [0]) hS hps hw hs (by omega) (fun _ => by decide) (by omega) (by omega) (fun x u K hx hk hK => ?_) fun u D' hk hw' hD' hS' => ?_
  · refine ⟨rfl, ?_⟩
    show Cstore_Store_Unmap_1 (x : Int) u K
    refine Fstore_Store_Unmap_1.calls _ _ _ ?_
    refine lit_rule (cells := #[.int .u8 0]) (e := t_uint8) (z := 1) (base := 0) (by kernel_rfl) rfl (by decide) (Nat.zero_le _) fun w3 hlit3 hg3 _ => hK _ w3 hg3 hlit3
  · obtain ⟨lo, lw⟩ := layW_ops st file lba (fun _ => [0]) n
    by_cases q : 0 < n ∧ (false = true ∨ cache = false)
    · rw [if_pos q]
      have hy : syncs n false cache = true := by
        unfold syncs
        rw [Bool.and_eq_true, decide_eq_true_eq, Bool.or_eq_true, Bool.not_eq_true']
        exact q
      refine sync_spec hw' (layW_ok hok (fun _ => by decide) _ (by omega)) (by omega) (by omega) fun u2 D2 hk2 hw2 hD2 => ?_
      have s1 := hk.size
      have lt := lt_of_heap hS
      refine h u2 D2 (hk.trans hk2 fun i hi e => ?_) (by rw [hy]; exact hw2) (fun k hk' => ?_) (hk2.heap hS' fun e => ?_)
      · rcases hD' i e with r | r
        · exact r
        · omega
      · rcases hD2 k hk' with r | r
        · exact hD' k r
        · exact .inr (by omega)
      · rcases hD' _ e with r | r
        · exact hps r
        · omega
    · rw [if_neg q]
      have hy : syncs n false cache = false := by
        unfold syncs
        by_cases q1 : 0 < n
        · rw [decide_eq_true q1, Bool.true_and]
          cases cache <;> simp_all
        · rw [decide_eq_false q1, Bool.false_and]
      exact h u D' hk (by rw [hy]; exact hw') hD' hS'
/-- blocks side by side in a variable -/
theorem want_set {b : Nat} {w : World} {bs : List Bk} {t : TypeId} {j : Nat} {x : Bk} (hb : Blk w b (bs.flatMap bc).toArray t) (hj : j < bs.length) {K : World → Prop}
    (h : ∀ w', Blk w' b ((bs.set j x).flatMap bc).toArray t → Keep (fun k => k = b) w w' → w'.heap.size = w.heap.size → K w') : RunU Try.prog (storeVar t_api_Block ((⟨b, 0, none⟩ : Addr).add (j * 19)) (.agg (bc x).toArray)) w K := by
  rw [add0, Nat.zero_add]
  have hsz : (bs.flatMap bc).length = bs.length * 19 := flat_length bc_len bs
  have hj1 : (j + 1) * 19 ≤ bs.length * 19 := Nat.mul_le_mul_right _ hj
  refine storeAt_rule (o := j * 19) hb i_api_Block (by simp [bc_len]) (by simp only [List.size_toArray, bc_len, hsz]; omega) (fun v hv => bc_ones x v (by simpa using hv)) fun w1 hb1 hk1 hs1 => h w1 ?_ hk1 hs1
  have e : (bs.set j x).flatMap bc = (bs.flatMap bc).take (j * 19) ++ bc x ++ (bs.flatMap bc).drop ((j + 1) * 19) := by
    have h1 := flat_cut bs 0 j
    rw [Nat.zero_mul, List.drop_zero, List.drop_zero] at h1
    have h2 := flat_cut bs (j + 1) (bs.length)
    rw [List.take_of_length_le (by rw [List.length_drop, hsz]; omega), List.take_of_length_le (by rw [List.length_drop]; omega)] at h2
    rw [h1, h2, List.set_eq_take_append_cons_drop, if_pos hj, List.flatMap_append, List.flatMap_cons, List.append_assoc]
  rw [e]
  have hb1 : Blk w1 b ((bs.flatMap bc).toArray.toList.take (j * 19) ++ (bc x).toArray.toList ++ (bs.flatMap bc).toArray.toList.drop (j * 19 + (bc x).toArray.size)).toArray t := hb1
  simp only [List.size_toArray, bc_len] at hb1
  rw [show (j + 1) * 19 = j * 19 + 19 by omega]
  exact hb1
end Go.Proofs.Ytaneeadpjelomaa

/- Layer 4: a script of writes and unmappings. -/
namespace Go.Proofs.Ytaneeadpjelomaa
open Go CF

/-- an entry of a script -/
structure Act4 where
  kind : Nat
  a : Int
  n : Int
  l : Sl
  bs : List Bk
  on : Bool
def ac (x : Act4) : List Value := [.int .u8 (x.kind : Int), .int .i64 x.a, .int .i64 x.n, .slice x.l.A x.l.n x.l.c, .bool x.on]
theorem ac_len (x : Act4) : (ac x).length = 5 := rfl
theorem eqAt (bs : List Bk) (F : Nat) (xs : List Bk) (j : Nat) : (xs.length + F ≤ bs.length) → True := fun _ => trivial
/-- the array behind a write of a list from a place on -/
def setAll (bs : List Bk) (F : Nat) (xs : List Bk) : Nat → List Bk
  | 0 => bs
  | k + 1 => (setAll bs F xs k).set (F + k) ((xs[k]?).getD emptyB)
theorem setAll_len (bs : List Bk) (F : Nat) (xs : List Bk) : ∀ k, (setAll bs F xs k).length = bs.length
  | 0 => rfl
  | k + 1 => by simp [setAll, setAll_len bs F xs k]
theorem setAll_get (bs : List Bk) (F : Nat) (xs : List Bk) : ∀ k, F + k ≤ bs.length → ∀ j, j < bs.length → (setAll bs F xs k)[j]? = if F ≤ j ∧ j < F + k then some ((xs[j - F]?).getD emptyB) else bs[j]?
  | 0, _, j, _ => by rw [if_neg (by omega)]; rfl
  | k + 1, hk, j, hj => by
    have ih := setAll_get bs F xs k (by omega) j hj
    simp only [setAll]
    rw [List.getElem?_set, setAll_len]
    by_cases e : F + k = j
    · subst e
      rw [if_pos rfl, if_pos (by omega), if_pos (by omega), Nat.add_sub_cancel_left]
    · rw [if_neg e, ih]
      by_cases q : F ≤ j ∧ j < F + k
      · rw [if_pos q, if_pos (by omega)]
      · rw [if_neg q, if_neg (by omega)]
/-- a file tells these blocks -/
def Tells (st : Wst) (file : ByteArray) (bs : List Bk) : Prop := Good (cont st file) ∧ ∀ j, j < bs.length → some (blkAt (cont st file) j) = bs[j]?
theorem cont_syncIf (y : Bool) (s : Wst) (file : ByteArray) : cont (syncIf y s) file = cont s file := by
  unfold cont; rw [syncIf_seen]
theorem tells_write {st : Wst} {file : ByteArray} {bs xs : List Bk} {F : Nat} {y : Bool} (h : Tells st file bs) (hF : F + xs.length ≤ bs.length) :
    Tells (syncIf y (layW st file F (rsOf xs) xs.length)) file (setAll bs F xs xs.length) := by
  obtain ⟨h1, h2⟩ := layW_file (lba := F) (bs := xs) h.1 xs.length (Nat.le_refl _)
  refine ⟨by rw [cont_syncIf]; exact h1, fun j hj => ?_⟩
  rw [setAll_len] at hj
  rw [cont_syncIf, h2, setAll_get _ _ _ _ hF _ hj]
  split
  · rfl
  · exact h.2 j hj
theorem tells_write_k {st : Wst} {file : ByteArray} {bs xs : List Bk} {F k o : Nat} (h : Tells st file bs) (hF : F + xs.length ≤ bs.length) (hk : k ≤ xs.length) :
    Tells { layW st file F (rsOf xs) k with ops := o } file (setAll bs F xs k) := by
  obtain ⟨h1, h2⟩ := layW_file (lba := F) (bs := xs) h.1 k hk
  refine ⟨h1, fun j hj => ?_⟩
  rw [setAll_len] at hj
  show some (blkAt (cont (layW st file F (rsOf xs) k) file) j) = _
  rw [h2, setAll_get _ _ _ _ (by omega) _ hj]
  split
  · rfl
  · exact h.2 j hj
theorem tells_unmap {st : Wst} {file : ByteArray} {bs : List Bk} {F n : Nat} {y : Bool} (h : Tells st file bs) (hF : F + n ≤ bs.length) :
    Tells (syncIf y (layW st file F (fun _ => [0]) n)) file (setAll bs F [] n) := by
  obtain ⟨h1, h2⟩ := layW_zero (lba := F) h.1 n
  refine ⟨by rw [cont_syncIf]; exact h1, fun j hj => ?_⟩
  rw [setAll_len] at hj
  rw [cont_syncIf, h2, setAll_get _ _ _ _ hF _ hj]
  split
  · simp
  · exact h.2 j hj
theorem tells_empty (n : Nat) (file : ByteArray) : Tells st0 file (List.replicate n emptyB) := by
  refine ⟨good_nil, fun j hj => ?_⟩
  rw [List.length_replicate] at hj
  rw [List.getElem?_replicate, if_pos hj]
  show some (blkAt [] j) = _
  rw [blkAt_nil]
theorem tells_read {st : Wst} {file : ByteArray} {bs : List Bk} (h : Tells st file bs) : rdBl st file 0 bs.length = bs :=
  rdBl_list rfl fun i hi => by
    have := h.2 i hi
    rw [List.getElem?_eq_getElem hi] at this
    rw [Nat.zero_add]
    exact Option.some.inj this
end Go.Proofs.Ytaneeadpjelomaa

/- Layers 2 and 13: the guard of bytes, blocks as they go over the wire. -/
namespace Go.Proofs.Ytaneeadpjelomaa
open Go CF

def gG (s : Nat) : Nat := if s / 32768 = 1 then (2 * s % 65536) ^^^ 0x8bb7 else 2 * s % 65536
def gGs : Nat → Nat → Nat
  | 0, s => s
  | k + 1, s => gG (gGs k s)
def gB (s : Nat) (b : UInt8) : Nat := gGs 8 (s ^^^ b.toNat * 256)
def c16 (l : L8) : Nat := l.foldl gB 0
theorem xor_lt16 {a b : Nat} (ha : a < 65536) (hb : b < 65536) : a ^^^ b < 65536 := Nat.xor_lt_two_pow (n := 16) ha hb
theorem gG_lt {s : Nat} (h : s < 65536) : gG s < 65536 := by
  unfold gG
  split
  · exact xor_lt16 (Nat.mod_lt _ (by decide)) (by decide)
  · exact Nat.mod_lt _ (by decide)
theorem gGs_lt {s : Nat} (h : s < 65536) : ∀ k, gGs k s < 65536
  | 0 => h
  | k + 1 => gG_lt (gGs_lt h k)
theorem gB_lt {s : Nat} (h : s < 65536) (b : UInt8) : gB s b < 65536 := gGs_lt (xor_lt16 h (by have := b.toNat_lt; omega)) 8
theorem c16f_lt {l : L8} : ∀ {s : Nat}, s < 65536 → l.foldl gB s < 65536 := by
  induction l with
  | nil => intro s h; exact h
  | cons b r ih => intro s h; exact ih (gB_lt h b)
theorem c16_lt (l : L8) : c16 l < 65536 := c16f_lt (by decide)
theorem xor_odd {a : Nat} (h : a % 2 = 0) : (a ^^^ 0x8bb7) % 2 = 1 := by rw [xor_mod2, h]; decide
theorem gG_inj {a b : Nat} (ha : a < 65536) (hb : b < 65536) (h : gG a = gG b) : a = b := by
  unfold gG at h
  split at h <;> split at h
  · have : 2 * a % 65536 = 2 * b % 65536 := by
      have := congrArg (· ^^^ 0x8bb7) h
      simpa [Nat.xor_assoc] using this
    omega
  · have := xor_odd (a := 2 * a % 65536) (by omega)
    rw [h] at this
    omega
  · have := xor_odd (a := 2 * b % 65536) (by omega)
    rw [← h] at this
    omega
  · omega
theorem gGs_inj {a b : Nat} (ha : a < 65536) (hb : b < 65536) : ∀ k, gGs k a = gGs k b → a = b
  | 0, h => h
  | k + 1, h => gGs_inj ha hb k (gG_inj (gGs_lt ha k) (gGs_lt hb k) h)
theorem gB_inj {a b : Nat} {x : UInt8} (ha : a < 65536) (hb : b < 65536) (h : gB a x = gB b x) : a = b := by
  have hx := x.toNat_lt
  have := gGs_inj (xor_lt16 ha (by omega)) (xor_lt16 hb (by omega)) 8 h
  have := congrArg (· ^^^ x.toNat * 256) this
  simpa [Nat.xor_assoc] using this
theorem gB_ne {a : Nat} {x y : UInt8} (ha : a < 65536) (h : x ≠ y) : gB a x ≠ gB a y := by
  intro q
  have hx := x.toNat_lt
  have hy := y.toNat_lt
  have := gGs_inj (xor_lt16 ha (by omega)) (xor_lt16 ha (by omega)) 8 q
  have := congrArg (a ^^^ ·) this
  simp only [← Nat.xor_assoc, Nat.xor_self, Nat.zero_xor] at this
  exact h (UInt8.toNat_inj.1 (by omega))
theorem c16f_inj {l : L8} : ∀ {a b : Nat}, a < 65536 → b < 65536 → l.foldl gB a = l.foldl gB b → a = b := by
  induction l with
  | nil => intro a b _ _ h; exact h
  | cons x r ih => intro a b ha hb h; exact gB_inj ha hb (ih (gB_lt ha x) (gB_lt hb x) h)
/-- one byte turned turns the guard -/
theorem c16_turn {p q : L8} {x y : UInt8} (h : x ≠ y) : c16 (p ++ x :: q) ≠ c16 (p ++ y :: q) := by
  intro e
  unfold c16 at e
  rw [List.foldl_append, List.foldl_append] at e
  have hs : p.foldl gB 0 < 65536 := c16f_lt (by decide)
  exact gB_ne hs h (c16f_inj (gB_lt hs x) (gB_lt hs y) e)
theorem c16_snoc (l : L8) (b : UInt8) : c16 (l ++ [b]) = gB (c16 l) b := by simp [c16, List.foldl_append]
/-! ### the model's words -/
theorem wu16' (n : Nat) : IntKind.wrap .u16 (n : Int) = ((n % 65536 : Nat) : Int) := by
  have e : IntKind.wrap .u16 (n : Int) = (n : Int) % 65536 := by simp [IntKind.wrap, IntKind.signed, IntKind.bits]
  rw [e]; omega
theorem xor16 {a b : Nat} (ha : a < 65536) (hb : b < 65536) : bXor .u16 (a : Int) (b : Int) = ((a ^^^ b : Nat) : Int) := by
  unfold bXor
  show IntKind.wrap .u16 (((BitVec.ofInt 16 (a : Int) ^^^ BitVec.ofInt 16 (b : Int)).toNat : Nat) : Int) = _
  rw [BitVec.ofInt_natCast, BitVec.ofInt_natCast, BitVec.toNat_xor, BitVec.toNat_ofNat, BitVec.toNat_ofNat, Nat.mod_eq_of_lt (by omega), Nat.mod_eq_of_lt (by omega)]
  have := xor_lt16 ha hb
  exact wu16 (by omega) (by omega)
theorem shl16_8 {b : Nat} (h : b < 256) : bShl .u16 (b : Int) 8 = ((b * 256 : Nat) : Int) := by
  unfold bShl
  have e : (min 8 (IntKind.bits .u16)) = 8 := by decide
  rw [e, show (b : Int) * 2 ^ 8 = ((b * 256 : Nat) : Int) by omega]
  exact wu16 (by omega) (by omega)
theorem shl16_1 {s : Nat} : bShl .u16 (s : Int) 1 = ((2 * s % 65536 : Nat) : Int) := by
  unfold bShl
  have e : (min 1 (IntKind.bits .u16)) = 1 := by decide
  rw [e, show (s : Int) * 2 ^ 1 = ((2 * s : Nat) : Int) by omega, wu16']
/-! ### tuples, looks -/
def mkR (kind lba : Nat) : Nat := if kind = 1 ∨ kind = 2 then lba % 4294967296 else 0
theorem mkR_lt (kind lba : Nat) : mkR kind lba < 4294967296 := by unfold mkR; split <;> omega
/-- a block of data, protected -/
def mkB (kind lba : Nat) (d : L8) (h : d.length = 16) : Bk := ⟨d, c16 d, 0, mkR kind lba, h, c16_lt d, by decide, mkR_lt kind lba⟩
def escB (kind : Nat) (b : Bk) : Bool := decide (b.a = 65535) && (decide (kind ≠ 3) || decide (b.r = 4294967295))
def chkB (kind prot lba : Nat) (b : Bk) : Nat :=
  if kind = 0 ∨ 3 < kind ∨ prot = 3 ∨ 4 < prot ∨ escB kind b = true then 0
  else if prot ≠ 2 ∧ b.g ≠ c16 b.d then 0x1001
  else if prot ≠ 4 ∧ kind ≠ 3 ∧ b.r ≠ lba % 4294967296 then 0x1003 else 0
def knownB (kind prot : Nat) : Bool := decide (kind ≤ 3) && (decide (prot = 0) || (decide (0 < kind) && decide (prot ≤ 4)))
/-! ### over the wire -/
def tupB (b : Bk) : L8 := be2 b.g ++ be2 b.a ++ be4 b.r
def wireB (wt : Bool) (b : Bk) : L8 := b.d ++ if wt then tupB b else []
def packB (wt : Bool) (l : List Bk) : L8 := l.flatMap (wireB wt)
def szB (wt : Bool) : Nat := if wt then 24 else 16
theorem wireB_len (wt : Bool) (b : Bk) : (wireB wt b).length = szB wt := by
  cases wt
  · simp [wireB, szB, b.hd]
  · simp [wireB, szB, tupB, be2, be4, b.hd]
theorem packB_len (wt : Bool) (l : List Bk) : (packB wt l).length = l.length * szB wt := by
  unfold packB
  induction l with
  | nil => simp
  | cons a r ih => rw [List.flatMap_cons, List.length_append, ih, wireB_len, List.length_cons, Nat.succ_mul, Nat.add_comm]
def pad16 (l : L8) : L8 := (l ++ List.replicate 16 0).take 16
theorem pad16_len (l : L8) : (pad16 l).length = 16 := by simp [pad16]
theorem pad16_eq {l : L8} (h : l.length = 16) : pad16 l = l := by
  unfold pad16; rw [List.take_append_of_le_length (by omega), List.take_of_length_le (by omega)]
theorem num_take (l : L8) (k : Nat) : num (l.take k) < 256 ^ k :=
  Nat.lt_of_lt_of_le (num_lt _) (Nat.pow_le_pow_right (by decide) (by rw [List.length_take]; omega))
/-- the block that some bytes are -/
def unB (wt : Bool) (l : L8) : Bk :=
  if wt then ⟨pad16 l, num ((l.drop 16).take 2), num ((l.drop 18).take 2), num ((l.drop 20).take 4), pad16_len l, num_take _ 2, num_take _ 2, num_take _ 4⟩
  else ⟨pad16 l, 0, 0, 0, pad16_len l, by decide, by decide, by decide⟩
def unpB (wt : Bool) (l : L8) : List Bk := (List.range (l.length / szB wt)).map fun i => unB wt ((l.drop (i * szB wt)).take (szB wt))
theorem unpB_len (wt : Bool) (l : L8) : (unpB wt l).length = l.length / szB wt := by simp [unpB]
theorem unpB_at {wt : Bool} {l : L8} {i : Nat} (h : i < (unpB wt l).length) : (unpB wt l)[i] = unB wt ((l.drop (i * szB wt)).take (szB wt)) := by simp [unpB]
theorem num_two {a b : UInt8} : num [a, b] = a.toNat * 256 + b.toNat := by simp [num]
theorem unB_wire (b : Bk) : unB true (wireB true b) = b := by
  have hd := b.hd
  have e : wireB true b = b.d ++ (be2 b.g ++ (be2 b.a ++ be4 b.r)) := by simp [wireB, tupB]
  have d16 : (wireB true b).drop 16 = be2 b.g ++ (be2 b.a ++ be4 b.r) := by rw [e, ← hd, List.drop_left]
  have d18 : (wireB true b).drop 18 = be2 b.a ++ be4 b.r := by
    have : (wireB true b).drop 18 = ((wireB true b).drop 16).drop 2 := by rw [List.drop_drop]
    rw [this, d16]; rfl
  have d20 : (wireB true b).drop 20 = be4 b.r := by
    have : (wireB true b).drop 20 = ((wireB true b).drop 18).drop 2 := by rw [List.drop_drop]
    rw [this, d18]; rfl
  unfold unB
  rw [if_pos rfl]
  apply bk_ext
  · show pad16 (wireB true b) = b.d
    unfold pad16
    rw [e, List.append_assoc, List.take_append_of_le_length (by omega), List.take_of_length_le (by omega)]
  · show num (((wireB true b).drop 16).take 2) = b.g
    rw [d16]; exact num_be2 b.hg
  · show num (((wireB true b).drop 18).take 2) = b.a
    rw [d18]; exact num_be2 b.ha
  · show num (((wireB true b).drop 20).take 4) = b.r
    rw [d20]; exact num_be4 b.hr
theorem unB_wire0 (b : Bk) : (unB false (wireB false b)).d = b.d := by
  unfold unB wireB
  show pad16 (b.d ++ []) = b.d
  rw [List.append_nil, pad16_eq b.hd]
end Go.Proofs.Ytaneeadpjelomaa

/- Layers 2 and 13: the walks of the guard, of tuples and of blocks over the wire. -/
namespace Go.Proofs.Ytaneeadpjelomaa
open Go CF

theorem c16_br {s : Nat} (hs : s < 65536) {X Y : Prop} (h1 : s / 32768 = 1 → X) (h0 : ¬ s / 32768 = 1 → Y) : Br ((bShr .u16 (s : Int) 15) == 1) X Y := by
  rw [shr .u16 s 15 (by decide)]
  exact br_eq (fun q => h1 (by have : (2 : Nat) ^ 15 = 32768 := rfl; omega)) (fun q => h0 (by have : (2 : Nat) ^ 15 = 32768 := rfl; omega))
theorem c16_spec {p : Sl} {l : L8} {w : World} {R : Int → World → Prop} (hp : Rd w 1 p (bv l)) (h : R ((c16 l : Nat) : Int) w) : Ccrc_C16 p w R := by
  refine Fcrc_C16.calls _ _ _ ?_
  refine Fcrc_Add16.calls _ _ _ _ ?_
  have hln : l.length = p.n := by have := hp.len; rw [bv_length] at this; omega
  have hnb := hp.nb
  refine ⟨fun v x w' => w' = w ∧ ∃ j : Nat, x = j ∧ j ≤ p.n ∧ v = ((c16 (l.take j) : Nat) : Int), fun _ x _ => p.n - x.toNat, ⟨rfl, 0, rfl, Nat.zero_le _, rfl⟩, ?_⟩
  rintro v x w0 ⟨rfl, j, rfl, hj, rfl⟩
  have hcs := c16_lt (l.take j)
  refine br_nat (fun hlt => ?_) (fun hge => ?_)
  · obtain ⟨a, ha, hc⟩ := hp.byte (i := j) hlt
    have hjs : j < l.length := by omega
    have hb8 := l[j].toNat_lt
    refine ⟨⟨by omega, by omega, by rw [ha]; rfl⟩, (l[j].toNat : Int), by rw [ha]; exact hc, ?_⟩
    rw [wu16 (n := (l[j].toNat : Int)) (by omega) (by omega), shl16_8 hb8, xor16 hcs (by omega)]
    generalize hT : c16 (l.take j) ^^^ l[j].toNat * 256 = T
    have hTl : T < 65536 := by rw [← hT]; exact xor_lt16 hcs (by omega)
    refine ⟨fun v x w' => w' = w0 ∧ ∃ k : Nat, x = k ∧ k ≤ 8 ∧ v = ((gGs k T : Nat) : Int), fun _ x _ => 8 - x.toNat, ⟨rfl, 0, rfl, by decide, rfl⟩, ?_⟩
    rintro v x w1 ⟨rfl, k, rfl, hk, rfl⟩
    have hgl := gGs_lt hTl k
    refine br_dec (fun hlt8 => ?_) (fun hge8 => ?_)
    · refine c16_br hgl (fun q => ?_) (fun q => ?_)
      · rw [shl16_1, show bXor .u16 ((2 * gGs k T % 65536 : Nat) : Int) 35767 = ((2 * gGs k T % 65536 ^^^ 35767 : Nat) : Int) from xor16 (by omega) (by decide), w64 (by omega) (by omega)]
        refine ⟨⟨rfl, k + 1, by omega, by omega, ?_⟩, by dsimp only; omega⟩
        simp only [gGs]; unfold gG; rw [if_pos q]
      · rw [shl16_1, w64 (by omega) (by omega)]
        refine ⟨⟨rfl, k + 1, by omega, by omega, ?_⟩, by dsimp only; omega⟩
        simp only [gGs]; unfold gG; rw [if_neg q]
    · have : k = 8 := by omega
      subst this
      rw [w64 (by omega) (by omega)]
      refine ⟨⟨rfl, j + 1, by omega, by omega, ?_⟩, by dsimp only; omega⟩
      rw [List.take_succ_eq_append_getElem hjs, c16_snoc]
      unfold gB
      rw [hT]
  · have : j = p.n := by omega
    subst this
    rw [List.take_of_length_le (by omega)]
    exact h
/-! ### blocks in memory -/
def tc (g a r : Nat) : List Value := [.int .u16 (g : Int), .int .u16 (a : Int), .int .u32 (r : Int)]
theorem dRd {w : World} {pb : Nat} {b : Bk} (h : Blk w pb (bc b).toArray t_api_Block) : Rd w 1 ⟨some ⟨pb, 0, none⟩, 16, 16⟩ (bv b.d) :=
  ⟨by rw [bv_length, b.hd]; rfl, Nat.le_refl _, by show 16 ≤ _; decide, fun _ => ⟨_, rfl, fun j v hj => blk_cells h j v (by rw [bc, List.getElem?_append_left (List.getElem?_eq_some_iff.1 hj).1]; exact hj)⟩⟩
theorem bc_tail (b : Bk) : (bc b).drop 16 = tc b.g b.a b.r := by
  unfold bc
  rw [List.drop_append, List.drop_of_length_le (by rw [bv_length, b.hd]; omega), bv_length, b.hd]; rfl
theorem bc_head (b : Bk) : (bc b).take 16 = bv b.d := by
  unfold bc
  rw [List.take_append_of_le_length (by rw [bv_length, b.hd]; omega), List.take_of_length_le (by rw [bv_length, b.hd]; omega)]
theorem cells_tail {w : World} {a : Addr} {b : Bk} (h : Cells w a (bc b)) : Cells w (a.add 16) (tc b.g b.a b.r) := fun j v hj => by
  rw [addr_add]
  refine h (16 + j) v ?_
  rw [← bc_tail, List.getElem?_drop] at hj
  exact hj
theorem cells_head {w : World} {a : Addr} {b : Bk} (h : Cells w a (bc b)) : Cells w (a.add 0) (bv b.d) := fun j v hj => by
  rw [addr_zero]
  refine h j v ?_
  rw [← bc_head, List.getElem?_take] at hj
  split at hj
  · exact hj
  · cases hj
theorem tLoad {w : World} {a : Addr} {g n r : Nat} (h : Cells w a (tc g n r)) : (loadVar t_api_Tuple a).run Try.prog w = .ok (.agg (tc g n r).toArray) w :=
  loadVar_rule g_api_Tuple i_api_Tuple rfl h
theorem dLoad {w : World} {a : Addr} {d : L8} (hd : d.length = 16) (h : Cells w a (bv d)) : (loadVar t_16_uint8 a).run Try.prog w = .ok (.agg (bv d).toArray) w :=
  loadVar_rule g_16_uint8 i_16_uint8 (by rw [bv_length, hd]) h
theorem bLoad {w : World} {a : Addr} {b : Bk} (h : Cells w a (bc b)) : (loadVar t_api_Block a).run Try.prog w = .ok (.agg (bc b).toArray) w :=
  loadVar_rule g_api_Block i_api_Block (by rw [bc_len]) h
theorem make_spec {kind lba app : Nat} {d : L8} {w : World} {R : Array Value → World → Prop} (hd : d.length = 16) (h : ∀ w', Grow w w' → R (tc (c16 d) app (mkR kind lba)).toArray w') : Cpi_Make (kind : Int) (lba : Int) (bv d).toArray (app : Int) w R := by
  refine Fpi_Make.calls _ _ _ _ _ _ ?_
  refine new_rule fun db w0 hdb hb0 hg0 hsz0 => ?_
  have hb0 : Blk w0 db (bv d).toArray t_16_uint8 := hb0
  refine new_rule fun ab w1 hab hb1 hg1 hsz1 => ⟨by decide, ?_⟩
  have hb0' := hg1.heap hb0 (fun q => q)
  have hrd : Rd w1 1 ⟨some ⟨db, 0, none⟩, 16, 16⟩ (bv d) := ⟨by rw [bv_length, hd]; rfl, Nat.le_refl _, by show 16 ≤ _; decide, fun _ => ⟨_, rfl, fun j v hj => blk_cells hb0' j v hj⟩⟩
  refine c16_spec (p := ⟨some ⟨db, 0, none⟩, 16, 16⟩) hrd ?_
  refine new_rule fun tb w2 htb hb2 hg2 hsz2 => ?_
  refine storeVar_rule (cells := (tc (c16 d) app 0).toArray) hb2 i_api_Tuple rfl rfl (by simp [tc, Value.oneCell']) fun w3 hb3 hk3 hsz3 => ?_
  have hb1' : Blk w2 ab _ t_api_Tuple := hg2.heap hb1 (fun q => q)
  have hb13 : Blk w3 ab _ t_api_Tuple := hk3.heap hb1' (by omega)
  have hg03 : Grow w w3 := ((hg0.trans hg1).trans hg2).keep hk3 fun i hi q => by omega
  refine letX0 (fun u => Grow w u ∧ Blk u tb (tc (c16 d) app (mkR kind lba)).toArray t_api_Tuple ∧ Blk u ab #[.int .u16 0, .int .u16 0, .int .u32 0] t_api_Tuple) ?_ (fun J => ?_)
  · rintro u ⟨hgu, hbt, hba⟩
    refine ⟨_, tLoad (blk_cells hbt), ?_⟩
    refine storeVar_rule (cells := (tc (c16 d) app (mkR kind lba)).toArray) hba i_api_Tuple rfl rfl (by simp [tc, Value.oneCell']) fun u2 hb2' hk2' _ => ?_
    exact ⟨_, tLoad (blk_cells hb2'), h u2 (hgu.keep hk2' fun i hi q => by have := hg0.size; omega)⟩
  · by_cases q : kind = 1 ∨ kind = 2
    · refine br_t (by rw [Bool.or_eq_true, beq_iff_eq, beq_iff_eq]; omega) ?_
      rw [add0]
      refine put_rule hb3 (by show 2 < 3; decide) rfl fun w4 hb4 hk4 _ => J w4 ⟨hg03.keep hk4 fun i hi q => by have := hg0.size; omega, ?_, hk4.heap hb13 (by omega)⟩
      have e : IntKind.wrap .u32 (lba : Int) = ((mkR kind lba : Nat) : Int) := by
        unfold mkR; rw [if_pos q]
        have e : IntKind.wrap .u32 (lba : Int) = (lba : Int) % 4294967296 := by simp [IntKind.wrap, IntKind.signed, IntKind.bits]
        rw [e]; omega
      rw [e] at hb4
      exact hb4
    · refine br_f (by rw [Bool.or_eq_false_iff, beq_eq_false_iff_ne, beq_eq_false_iff_ne]; omega) (J w3 ⟨hg03, ?_, hb13⟩)
      unfold mkR; rw [if_neg q]; exact hb3
theorem escapes_spec {kind : Nat} {b : Bk} {w : World} {R : Bool → World → Prop} (h : ∀ w', Grow w w' → R (escB kind b) w') : Cpi_escapes (kind : Int) (tc b.g b.a b.r).toArray w R := by
  refine Fpi_escapes.calls _ _ _ _ ?_
  refine new_rule fun tb w0 htb hb0 hg0 hsz0 => ?_
  have hb0 : Blk w0 tb (tc b.g b.a b.r).toArray t_api_Tuple := hb0
  refine ⟨(b.a : Int), by rw [add0, hb0.cell]; rfl, ?_⟩
  have := h w0 hg0
  unfold escB at this
  refine br_ne (fun q => ?_) (fun q => ⟨(b.r : Int), fun _ => by rw [add0, hb0.cell]; rfl, ?_⟩)
  · rw [decide_eq_false (by omega)] at this; exact this
  · have e : ((kind : Int) != 3 || (b.r : Int) == 4294967295) = (decide (b.a = 65535) && (decide (kind ≠ 3) || decide (b.r = 4294967295))) := by
      rw [decide_eq_true (by omega : b.a = 65535), Bool.true_and, Bool.eq_iff_iff, Bool.or_eq_true, Bool.or_eq_true, bne_iff_ne, beq_iff_eq, decide_eq_true_eq, decide_eq_true_eq]
      omega
    rw [e]; exact this
theorem check_b_spec {kind prot lba : Nat} {b : Bk} {w : World} {R : Int → World → Prop} (h : ∀ w', Grow w w' → R ((chkB kind prot lba b : Nat) : Int) w') : Cpi_Check (kind : Int) (prot : Int) (lba : Int) (bc b).toArray w R := by
  refine Fpi_Check.calls _ _ _ _ _ _ ?_
  refine new_rule fun bb w0 hbb hb0 hg0 hsz0 => ?_
  have hb0 : Blk w0 bb (bc b).toArray t_api_Block := hb0
  have ht0 : Cells w0 (⟨bb, 0, none⟩ : Addr) (bc b) := blk_cells hb0
  refine ⟨_, fun _ => tLoad (cells_tail ht0), ?_⟩
  generalize hG : (((((kind : Int) == 0) || decide ((kind : Int) > 3)) || ((prot : Int) == 3)) || decide ((prot : Int) > 4)) = G
  have hGiff : G = true ↔ (kind = 0 ∨ 3 < kind ∨ prot = 3 ∨ 4 < prot) := by
    rw [← hG, Bool.or_eq_true, Bool.or_eq_true, Bool.or_eq_true, beq_iff_eq, beq_iff_eq, decide_eq_true_eq, decide_eq_true_eq]
    omega
  refine letJ1 (fun x u => Grow w0 u ∧ (G = false → x = escB kind b)) ?_ (fun J => ⟨fun q => escapes_spec fun u hu => J _ _ ⟨hu, fun _ => rfl⟩, fun q => J _ _ ⟨Keep.refl _ _, fun e => by rw [e] at q; cases q⟩⟩)
  rintro x u ⟨hgu, hx⟩
  by_cases hz : G = true ∨ escB kind b = true
  · have hc : chkB kind prot lba b = 0 := by
      unfold chkB
      refine if_pos ?_
      rcases hz with q | q
      · have := hGiff.1 q; omega
      · simp [q]
    have := h u (hg0.trans hgu)
    rw [hc] at this
    refine br_t ?_ this
    rw [Bool.or_eq_true]
    cases hg : G with
    | true => exact .inl rfl
    | false => right; rw [hx hg]; exact hz.resolve_left (by rw [hg]; decide)
  have hGf : G = false := by cases hg : G with | false => rfl | true => exact absurd (.inl hg) hz
  have hE : escB kind b = false := by cases hg : escB kind b with | false => rfl | true => exact absurd (.inr hg) hz
  have hn : ¬ (kind = 0 ∨ 3 < kind ∨ prot = 3 ∨ 4 < prot ∨ escB kind b = true) := by
    have hx : ¬ (kind = 0 ∨ 3 < kind ∨ prot = 3 ∨ 4 < prot) := fun q => hz (.inl (hGiff.2 q))
    rintro (q | q | q | q | q)
    · exact hx (.inl q)
    · exact hx (.inr (.inl q))
    · exact hx (.inr (.inr (.inl q)))
    · exact hx (.inr (.inr (.inr q)))
    · rw [hE] at q; cases q
  refine br_f (by rw [hGf, hx hGf, hE]; rfl) ?_
  rintro w2 rfl
  have hg2 : Grow w0 u.drew := hgu.trans (keep_drew u)
  have hbu : ∀ {v : World}, Grow w0 v → Blk v bb (bc b).toArray t_api_Block := fun g => g.heap hb0 (fun q => q)
  obtain ⟨e16, e17, e18⟩ := bc_at b
  refine ⟨fun v => Grow w0 v, hg2, (b.g : Int), fun _ v hv => by rw [add0, add0, (hbu hv).cell]; exact e16, fun _ => by decide, ?_⟩
  have hd : ∀ {v : World}, Grow w0 v → Rd v 1 ⟨some ⟨bb, 0, none⟩, 16, 16⟩ (bv b.d) := fun g => dRd (hbu g)
  refine letJ1 (fun x v => Grow w0 v ∧ ((prot : Int) ≠ 2 → x = ((c16 b.d : Nat) : Int))) ?_ (fun J => ⟨fun q => c16_spec (p := ⟨some ⟨bb, 0, none⟩, 16, 16⟩) (hd hg2) (J _ _ ⟨hg2, fun _ => rfl⟩), fun q => J _ _ ⟨hg2, fun e => absurd (by simpa using q) e⟩⟩)
  rintro x v ⟨hgv, hxv⟩
  refine ⟨hgv, ?_⟩
  have hfin := h v (hg0.trans hgv)
  by_cases q1 : prot ≠ 2 ∧ b.g ≠ c16 b.d
  · have hc : chkB kind prot lba b = 4097 := by unfold chkB; rw [if_neg hn, if_pos q1]
    rw [hc] at hfin
    refine br_t ?_ hfin
    rw [hxv (by omega), Bool.and_eq_true, bne_iff_ne, bne_iff_ne]
    omega
  refine br_f ?_ ⟨(b.r : Int), fun _ => by rw [add0, add0, (hbu hgv).cell]; exact e18, ?_⟩
  · rw [Bool.and_eq_false_iff, bne_eq_false_iff_eq, bne_eq_false_iff_eq]
    by_cases e : prot = 2
    · left; omega
    · right; rw [hxv (by omega)]; omega
  have e32 : IntKind.wrap .u32 (lba : Int) = ((lba % 4294967296 : Nat) : Int) := by
    have e : IntKind.wrap .u32 (lba : Int) = (lba : Int) % 4294967296 := by simp [IntKind.wrap, IntKind.signed, IntKind.bits]
    rw [e]; omega
  rw [e32]
  by_cases q2 : prot ≠ 4 ∧ kind ≠ 3 ∧ b.r ≠ lba % 4294967296
  · have hc : chkB kind prot lba b = 4099 := by unfold chkB; rw [if_neg hn, if_neg q1, if_pos q2]
    rw [hc] at hfin
    refine br_t ?_ hfin
    rw [Bool.and_eq_true, Bool.and_eq_true, bne_iff_ne, bne_iff_ne, bne_iff_ne]
    omega
  · have hc : chkB kind prot lba b = 0 := by unfold chkB; rw [if_neg hn, if_neg q1, if_neg q2]
    rw [hc] at hfin
    refine br_f ?_ hfin
    rw [Bool.and_eq_false_iff, Bool.and_eq_false_iff, bne_eq_false_iff_eq, bne_eq_false_iff_eq, bne_eq_false_iff_eq]
    omega
theorem size_spec {wt : Bool} {w : World} {R : Int → World → Prop} (h : R ((szB wt : Nat) : Int) w) : Cpi_Size wt w R := by
  refine Fpi_Size.calls _ _ _ ?_
  cases wt
  · exact br_f rfl h
  · exact br_t rfl h
end Go.Proofs.Ytaneeadpjelomaa

/- What a command brings: a sense, a result. -/
namespace Go.Proofs.Ytaneeadpjelomaa
open Go CF

/-- a sense -/
structure Sn where
  key : Nat
  code : Nat
  info : Nat
  hi : Bool
  field : Int
  bit : Int
  hf : Bool
  ic : Bool
def sn0 : Sn := ⟨0, 0, 0, false, 0, 0, false, false⟩
def snv (s : Sn) : List Value := [.int .u8 (s.key : Int), .int .u16 (s.code : Int), .int .u64 (s.info : Int), .bool s.hi, .int .i64 s.field, .int .i64 s.bit, .bool s.hf, .bool s.ic]
def badS (code : Nat) : Sn := ⟨5, code, 0, false, 0, 0, false, false⟩
def badF (field : Nat) : Sn := ⟨5, 0x2600, 0, false, (field : Int), -1, true, false⟩
def atS (key code info : Nat) : Sn := ⟨key, code, info, true, 0, 0, false, false⟩
/-- a result: status, sense, data -/
def rsv (st : Nat) (s : Sn) (d : Sl) : List Value := [.int .u8 (st : Int)] ++ snv s ++ [.slice d.A d.n d.c]
abbrev nilS : Sl := ⟨none, 0, 0⟩
theorem rsv_len (st : Nat) (s : Sn) (d : Sl) : (rsv st s d).length = 10 := rfl
theorem rsv_ones (st : Nat) (s : Sn) (d : Sl) : (rsv st s d).toArray.all (·.oneCell') = true := by simp [rsv, snv, Value.oneCell']
theorem rLoad {w : World} {a : Addr} {st : Nat} {s : Sn} {d : Sl} (h : Cells w a (rsv st s d)) : (loadVar t_api_Result a).run Try.prog w = .ok (.agg (rsv st s d).toArray) w := loadVar_rule g_api_Result i_api_Result rfl h
theorem sLoad {w : World} {a : Addr} {s : Sn} (h : Cells w a (snv s)) : (loadVar t_api_Sense a).run Try.prog w = .ok (.agg (snv s).toArray) w := loadVar_rule g_api_Sense i_api_Sense rfl h
/-- a result that is laid and handed back -/
theorem ret_rule {w : World} {a : Nat} {old : Array Value} {st : Nat} {s : Sn} {d : Sl} {K : Array Value → World → Prop} (hb : Blk w a old t_api_Result) (ho : old.size = 10)
    (h : ∀ w', Keep (fun k => k = a) w w' → K (rsv st s d).toArray w') :
    RunU Try.prog (storeVar t_api_Result ⟨a, 0, none⟩ (.agg (rsv st s d).toArray)) w fun w' => ∃ res : Array Value, (loadVar t_api_Result ⟨a, 0, none⟩).run Try.prog w' = .ok (.agg res) w' ∧ K res w' :=
  storeVar_rule (cells := (rsv st s d).toArray) hb i_api_Result rfl ho (rsv_ones _ _ _) fun w1 hb1 hk1 _ => ⟨_, rLoad (blk_cells hb1), h w1 hk1⟩
/-- a result that is laid into a variable -/
theorem lay_rule {w : World} {a : Nat} {old : Array Value} {st : Nat} {s : Sn} {d : Sl} {K : World → Prop} (hb : Blk w a old t_api_Result) (ho : old.size = 10)
    (h : ∀ w', Blk w' a (rsv st s d).toArray t_api_Result → Keep (fun k => k = a) w w' → w'.heap.size = w.heap.size → K w') : RunU Try.prog (storeVar t_api_Result ⟨a, 0, none⟩ (.agg (rsv st s d).toArray)) w K :=
  storeVar_rule (cells := (rsv st s d).toArray) hb i_api_Result rfl ho (rsv_ones _ _ _) h
theorem grow_new {w u v : World} {a : Nat} (hg : Grow w u) (ha : w.heap.size ≤ a) (hk : Keep (fun k => k = a) u v) : Grow w v := hg.keep hk fun i hi q => by omega
theorem fails_spec {s : Sn} {w : World} {R : Array Value → World → Prop} (h : ∀ w', Grow w w' → R (rsv 2 s nilS).toArray w') : Csbc_fails (snv s).toArray w R := by
  refine Fsbc_fails.calls _ _ _ ?_
  refine new_rule fun sb w0 hsb hb0 hg0 hsz0 => ?_
  have hb0 : Blk w0 sb (snv s).toArray t_api_Sense := hb0
  refine new_rule fun ab w1 hab hb1 hg1 hsz1 => ⟨_, sLoad (blk_cells (hg1.heap hb0 (fun q => q))), (rsv 2 s nilS).toArray, by kernel_rfl, ?_⟩
  exact ret_rule hb1 rfl fun w2 hk2 => h w2 (grow_new (hg0.trans hg1) (by have := hg0.size; omega) hk2)
theorem at_spec {key code info : Nat} {w : World} {R : Array Value → World → Prop} (h : ∀ w', Grow w w' → R (rsv 2 (atS key code info) nilS).toArray w') : Csbc_at (key : Int) (code : Int) (info : Int) w R := by
  refine Fsbc_at.calls _ _ _ _ _ ?_
  refine new_rule fun ab w0 hab hb0 hg0 hsz0 => ?_
  refine fails_spec (s := atS key code info) fun w1 hg1 => ?_
  exact ret_rule (hg1.heap hb0 (fun q => q)) rfl fun w2 hk2 => h w2 (grow_new (hg0.trans hg1) (by omega) hk2)
theorem good_spec {d : Sl} {w : World} {R : Array Value → World → Prop} (h : ∀ w', Grow w w' → R (rsv 0 sn0 d).toArray w') : Csbc_good d w R := by
  refine Fsbc_good.calls _ _ _ ?_
  refine new_rule fun ab w0 hab hb0 hg0 hsz0 => ?_
  exact ret_rule (st := 0) (s := sn0) (d := d) hb0 rfl fun w2 hk2 => h w2 (grow_new hg0 (by omega) hk2)
theorem length_spec {w : World} {R : Array Value → World → Prop} (h : ∀ w', Grow w w' → R (rsv 2 (badS 0x1a00) nilS).toArray w') : Csbc_length w R := by
  refine Fsbc_length.calls _ _ ?_
  refine new_rule fun ab w0 hab hb0 hg0 hsz0 => ?_
  refine fails_spec (s := badS 0x1a00) fun w1 hg1 => ?_
  exact ret_rule (hg1.heap hb0 (fun q => q)) rfl fun w2 hk2 => h w2 (grow_new (hg0.trans hg1) (by omega) hk2)
theorem within_spec {a b c : Nat} {w : World} {R : Bool → World → Prop} (ha : a < 18446744073709551616) (hb : b < 18446744073709551616) (hc : c < 18446744073709551616) (h : R (decide (a + b ≤ c)) w) : Cbe_Within (a : Int) (b : Int) (c : Int) w R := by
  refine Fbe_Within.calls _ _ _ _ _ ?_
  unfold Fbe_Within
  have e : (decide ((a : Int) ≤ (c : Int)) && decide ((b : Int) ≤ IntKind.wrap .u64 ((c : Int) - (a : Int)))) = decide (a + b ≤ c) := by
    rw [Bool.eq_iff_iff, Bool.and_eq_true, decide_eq_true_eq, decide_eq_true_eq, decide_eq_true_eq]
    by_cases q : a ≤ c
    · rw [wu64 (by omega) (by omega)]; omega
    · omega
  first
    | (rw [e]; exact h)
    | exact e ▸ h
end Go.Proofs.Ytaneeadpjelomaa

/- Layer 13: blocks packed and unpacked. -/
namespace Go.Proofs.Ytaneeadpjelomaa
open Go CF

def zeroBk : Bk := ⟨[0, 0, 0, 0, 0, 0, 0, 0, 0, 0, 0, 0, 0, 0, 0, 0], 0, 0, 0, rfl, by decide, by decide, by decide⟩
theorem own_n' {w : World} {base : Nat} {e : TypeId} {s : Sl} {l : L8} (h : Own w base e 1 s (bv l)) : s.n = l.length := by have := h.len; rw [bv_length] at this; omega
theorem rd_n' {w : World} {s : Sl} {l : L8} (h : Rd w 1 s (bv l)) : l.length = s.n := by have := h.len; rw [bv_length] at this; omega
theorem own_grow' {w u u' : World} {base : Nat} {e : TypeId} {z : Nat} {s : Sl} {vs : List Value} (hg : Grow w u) (ho : Own u base e z s vs) (hb : w.heap.size ≤ base) (hk : Keep (fun k => some k = s.blk) u u') : Grow w u' :=
  hg.keep hk fun i hi q => by have := (ho.ge i q.symm).1; omega
theorem copy16_rule {w : World} {pb : Nat} {p : Sl} {l : L8} (hb : Blk w pb (bc zeroBk).toArray t_api_Block) (hp : Rd w 1 p (bv l)) (h16 : 16 ≤ l.length) {K : Int → World → Prop}
    (h : ∀ w', Blk w' pb (bv (l.take 16) ++ tc 0 0 0).toArray t_api_Block → Keep (fun k => k = pb) w w' → w'.heap.size = w.heap.size → K 16 w') :
    RunK Try.prog (.i .i64) (Builtin.copy_ #[t_sl_uint8, t_sl_uint8] t_int #[.slice (some ⟨pb, 0, none⟩) 16 16, .slice p.A p.n p.c]) w K := by
  have hln := rd_n' hp
  have hdl : (l.take 16).length = 16 := by rw [List.length_take]; omega
  have hne : bv l ≠ [] := fun e => by have := congrArg List.length e; rw [bv_length, List.length_nil] at this; omega
  obtain ⟨a2, ha2, hc2⟩ := hp.at_ hne
  have hsrc : ∀ j v, (bv (l.take 16))[j]? = some v → w.cell? (a2.add j) = some v := fun j v hj => hc2 j v (by
    rw [← bv_take, List.getElem?_take] at hj
    split at hj
    · exact hj
    · cases hj)
  have hcp := run_copy_row (P := Try.prog) w t_sl_uint8 t_sl_uint8 t_int t_uint8 pb 0 16 16 a2 p.n p.c _ t_api_Block (bv (l.take 16)) u_sl_uint8 (by kernel_rfl) hb (by rw [bv_length, hdl]; exact (Nat.min_eq_right (by omega)).symm) hsrc (by rw [bv_length, hdl]; decide) (bv_one' _)
  have hset := setRow_heap w pb _ ((bc zeroBk).toArray.toList.take 0 ++ bv (l.take 16) ++ (bc zeroBk).toArray.toList.drop (0 + 16)).toArray t_api_Block (0, 0) hb
  have hoth := fun k (hn : ¬ k = pb) => setRow_other w pb k ((bc zeroBk).toArray.toList.take 0 ++ bv (l.take 16) ++ (bc zeroBk).toArray.toList.drop (0 + 16)).toArray hn
  have hos : ∀ x, (w.setRow pb x).os = w.os ∧ (w.setRow pb x).tape = w.tape ∧ (w.setRow pb x).output = w.output ∧ (w.setRow pb x).heap.size = w.heap.size := fun x => ⟨rfl, rfl, rfl, by simp⟩
  have hos := hos ((bc zeroBk).toArray.toList.take 0 ++ bv (l.take 16) ++ (bc zeroBk).toArray.toList.drop (0 + 16)).toArray
  rw [ha2]
  refine ⟨16, _, hcp.trans (by rw [bv_length, hdl]; rfl), ?_⟩
  generalize w.setRow pb ((bc zeroBk).toArray.toList.take 0 ++ bv (l.take 16) ++ (bc zeroBk).toArray.toList.drop (0 + 16)).toArray = w5 at *
  refine h w5 ?_ ⟨hos.1, hos.2.1, hos.2.2.1, by omega, fun k _ hn => hoth k hn⟩ hos.2.2.2
  exact hset
theorem wire_cells (b : Bk) : bv (wireB false b) = bv b.d := by simp [wireB]
theorem packB_succ (wt : Bool) {bs : List Bk} {j : Nat} (h : j < bs.length) : packB wt (bs.take (j + 1)) = packB wt (bs.take j) ++ wireB wt bs[j] := by
  unfold packB
  rw [List.take_succ_eq_append_getElem h, List.flatMap_append]
  simp
theorem pack_spec {ls : Sl} {wt : Bool} {bs : List Bk} {w : World} {R : Sl → World → Prop} (hl : Rd w 19 ls (bs.flatMap bc)) (hn : bs.length ≤ 4096)
    (h : ∀ s w', Own w' w.heap.size t_uint8 1 s (bv (packB wt bs)) → Grow w w' → R s w') : Cpi_Pack ls wt w R := by
  refine Fpi_Pack.calls _ _ _ _ ?_
  have hbn := rd_bk hl
  refine ⟨fun p x u => ∃ j : Nat, x = j ∧ j ≤ bs.length ∧ Grow w u ∧ Own u w.heap.size t_uint8 1 p (bv (packB wt (bs.take j))), fun _ x _ => bs.length - x.toNat, ⟨0, rfl, Nat.zero_le _, Keep.refl _ _, own_nil _ _ _ _⟩, ?_⟩
  rintro p x u ⟨j, rfl, hj, hgu, hown⟩
  refine br_nat (fun hlt => ?_) (fun hge => ?_)
  · have hjb : j < bs.length := by omega
    have hpn := own_n' hown
    rw [packB_len, List.length_take, Nat.min_eq_left hj] at hpn
    have hsz : szB wt ≤ 24 := by unfold szB; split <;> decide
    have hjs : j * szB wt ≤ 4096 * 24 := Nat.mul_le_mul (by omega) hsz
    refine letX1 (fun q v => Grow w v ∧ Own v w.heap.size t_uint8 1 q (bv (packB wt (bs.take (j + 1))))) (fun q v ⟨h1, h2⟩ => by
      rw [w64 (by omega) (by omega)]
      exact ⟨⟨j + 1, by omega, by omega, h1, h2⟩, by dsimp only; omega⟩) (fun J => ?_)
    obtain ⟨a0, ha0, hc0⟩ := rd_bk_at (hl.grow hgu) hjb
    refine ⟨⟨by omega, by omega, by rw [ha0]; rfl⟩, (bc bs[j]).toArray, by rw [ha0, Int.toNat_natCast]; exact bLoad hc0, ?_⟩
    rw [packB_succ wt hjb] at J
    generalize bs[j] = b at *
    refine new_rule fun pb w1 hpb hb1 hg1 hsz1 => ?_
    refine storeVar_rule (cells := (bc b).toArray) hb1 i_api_Block (by simp [bc_len]) (by simp [bc_len]) (bc_all _) fun w2 hb2 hk2 hsz2 => ⟨by decide, ?_⟩
    have hg2 : Grow u w2 := hg1.keep hk2 fun i hi q => by omega
    have hgw2 := hgu.trans hg2
    refine append_rule (x := ⟨some ⟨pb, 0, none⟩, 16, 16⟩) u_sl_uint8 i_uint8 rfl (by decide) (by decide) (hown.grow hg2) (dRd hb2) (bv_one' _) (by show (p.n + 16) * 1 ≤ _; omega) hgw2.size fun q w3 hn3 hown3 hk3 hat3 => ?_
    rw [← bv_append] at hown3
    have hgw3 := own_grow' hgw2 (hown.grow hg2) (Nat.le_refl _) hk3
    have hpq : pb ≠ q.n ∨ True := .inr trivial
    have hb3 : Blk w3 pb (bc b).toArray t_api_Block := hk3.heap hb2 fun e => by have := (hown.ge pb e.symm).2; omega
    cases wt with
    | false =>
      refine br_f rfl (J q w3 ⟨hgw3, ?_⟩)
      rw [bv_append, wire_cells, ← bv_append]
      exact hown3
    | true =>
      refine br_t rfl ⟨_, tLoad (cells_tail (blk_cells hb3)), ?_⟩
      refine new_rule fun tb w4 htb hb4 hg4 hsz4 => ?_
      refine storeVar_rule (cells := (tc b.g b.a b.r).toArray) hb4 i_api_Tuple rfl rfl (by simp [tc, Value.oneCell']) fun w5 hb5 hk5 hsz5 => ?_
      have hg35 : Grow w3 w5 := hg4.keep hk5 fun i hi q => by omega
      have cg : w5.cell? ((⟨tb, 0, none⟩ : Addr).add 0) = some (.int .u16 (b.g : Int)) := by rw [add0, hb5.cell]; rfl
      have ca : w5.cell? ((⟨tb, 0, none⟩ : Addr).add 1) = some (.int .u16 (b.a : Int)) := by rw [add0, hb5.cell]; rfl
      have cr : w5.cell? ((⟨tb, 0, none⟩ : Addr).add 2) = some (.int .u32 (b.r : Int)) := by rw [add0, hb5.cell]; rfl
      refine ⟨_, cg, _, cg, _, ca, _, ca, _, cr, _, cr, _, cr, _, cr, ?_⟩
      rw [shr .u16 b.g 8 (by decide), shr .u16 b.a 8 (by decide), shr .u32 b.r 24 (by decide), shr .u32 b.r 16 (by decide), shr .u32 b.r 8 (by decide), wrap_u8, wrap_u8, wrap_u8, wrap_u8, wrap_u8, wrap_u8, wrap_u8, wrap_u8]
      refine lit_rule (cells := (bv (tupB b)).toArray) (e := t_uint8) (z := 1) (base := w.heap.size) (by kernel_rfl) rfl (by decide) (hgw3.trans hg35).size fun w6 hlit6 hg6 _ => ?_
      have hn3 : q.n = p.n + 16 := hn3
      refine append_rule u_sl_uint8 i_uint8 rfl (by decide) (by decide) ((hown3.grow hg35).grow hg6) (hlit6.rd (by show 8 ≤ _; decide)) (bv_one' _) (by rw [hn3]; show (p.n + 16 + 8) * 1 ≤ _; omega) ((hgw3.trans hg35).trans hg6).size fun q2 w7 hn7 hown7 hk7 _ => ?_
      refine J q2 w7 ⟨own_grow' ((hgw3.trans hg35).trans hg6) ((hown3.grow hg35).grow hg6) (Nat.le_refl _) hk7, ?_⟩
      have e : bv (packB true (bs.take j) ++ wireB true b) = bv (packB true (bs.take j) ++ b.d) ++ bv (tupB b) := by
        rw [← bv_append]; simp [wireB]
      rw [e]
      exact hown7
  · have : j = bs.length := by omega
    subst this
    rw [List.take_length] at hown
    exact h p u hown hgu
/-! ### unpacked -/
theorem or16 {a b : Nat} (ha : a < 256) (hb : b < 256) : bOr .u16 (bShl .u16 (IntKind.wrap .u16 (a : Int)) 8) (IntKind.wrap .u16 (b : Int)) = ((a * 256 + b : Nat) : Int) := by
  rw [wu16 (n := (a : Int)) (by omega) (by omega), wu16 (n := (b : Int)) (by omega) (by omega), shl16_8 ha]
  unfold bOr
  show IntKind.wrap .u16 (((BitVec.ofInt 16 ((a * 256 : Nat) : Int) ||| BitVec.ofInt 16 (b : Int)).toNat : Nat) : Int) = _
  rw [BitVec.ofInt_natCast, BitVec.ofInt_natCast, BitVec.toNat_or, BitVec.toNat_ofNat, BitVec.toNat_ofNat, Nat.mod_eq_of_lt (by omega), Nat.mod_eq_of_lt (by omega)]
  have e : a * 256 ||| b = a * 256 + b := by
    have := Nat.shiftLeft_add_eq_or_of_lt (i := 8) (b := b) (by omega) a
    rw [Nat.shiftLeft_eq] at this
    exact this.symm
  rw [e]
  exact wu16 (by omega) (by omega)
theorem or32 {x y m : Nat} (hm : ∃ k, m = 2 ^ k) (hx : ∃ a, x = a * m) (hy : y < m) (hs : x + y < 4294967296) : bOr .u32 (x : Int) (y : Int) = ((x + y : Nat) : Int) := by
  obtain ⟨k, rfl⟩ := hm
  obtain ⟨a, rfl⟩ := hx
  unfold bOr
  show IntKind.wrap .u32 (((BitVec.ofInt 32 ((a * 2 ^ k : Nat) : Int) ||| BitVec.ofInt 32 (y : Int)).toNat : Nat) : Int) = _
  rw [BitVec.ofInt_natCast, BitVec.ofInt_natCast, BitVec.toNat_or, BitVec.toNat_ofNat, BitVec.toNat_ofNat, Nat.mod_eq_of_lt (by omega), Nat.mod_eq_of_lt (by omega)]
  have e : a * 2 ^ k ||| y = a * 2 ^ k + y := by
    have := Nat.shiftLeft_add_eq_or_of_lt (i := k) (b := y) hy a
    rw [Nat.shiftLeft_eq] at this
    exact this.symm
  rw [e]
  exact wu32 (by omega) (by omega)
theorem shl32 {a k m : Nat} (hm : m = 2 ^ k) (hk : k ≤ 32) (h : a * m < 4294967296) : bShl .u32 (a : Int) k = ((a * m : Nat) : Int) := by
  subst hm
  unfold bShl
  have e : (min k (IntKind.bits .u32)) = k := Nat.min_eq_left hk
  have e2 : (a : Int) * 2 ^ k = ((a * 2 ^ k : Nat) : Int) := by norm_cast
  rw [e, e2]
  exact wu32 (by omega) (by omega)
theorem be32 {a b c d : Nat} (ha : a < 256) (hb : b < 256) (hc : c < 256) (hd : d < 256) :
    bOr .u32 (bOr .u32 (bOr .u32 (bShl .u32 (IntKind.wrap .u32 (a : Int)) 24) (bShl .u32 (IntKind.wrap .u32 (b : Int)) 16)) (bShl .u32 (IntKind.wrap .u32 (c : Int)) 8)) (IntKind.wrap .u32 (d : Int)) = ((a * 16777216 + b * 65536 + c * 256 + d : Nat) : Int) := by
  rw [wu32 (n := (a : Int)) (by omega) (by omega), wu32 (n := (b : Int)) (by omega) (by omega), wu32 (n := (c : Int)) (by omega) (by omega), wu32 (n := (d : Int)) (by omega) (by omega)]
  rw [shl32 (a := a) (k := 24) (m := 16777216) rfl (by decide) (by omega), shl32 (a := b) (k := 16) (m := 65536) rfl (by decide) (by omega), shl32 (a := c) (k := 8) (m := 256) rfl (by decide) (by omega)]
  rw [or32 (m := 16777216) ⟨24, rfl⟩ ⟨a, rfl⟩ (by omega) (by omega), or32 (m := 65536) ⟨16, rfl⟩ ⟨a * 256 + b, by omega⟩ (by omega) (by omega), or32 (m := 256) ⟨8, rfl⟩ ⟨a * 65536 + b * 256 + c, by omega⟩ (by omega) (by omega)]
theorem num_4 {a b c d : UInt8} : num [a, b, c, d] = a.toNat * 16777216 + b.toNat * 65536 + c.toNat * 256 + d.toNat := by simp [num]; omega
theorem unB_false (l : L8) (h : 16 ≤ l.length) : bc (unB false l) = bv (l.take 16) ++ tc 0 0 0 := by
  have e : pad16 l = l.take 16 := by unfold pad16; rw [List.take_append_of_le_length h]
  show bv (pad16 l) ++ tc 0 0 0 = _
  rw [e]
theorem unB_true (l : L8) (h : 16 ≤ l.length) : bc (unB true l) = bv (l.take 16) ++ tc (num ((l.drop 16).take 2)) (num ((l.drop 18).take 2)) (num ((l.drop 20).take 4)) := by
  have e : pad16 l = l.take 16 := by unfold pad16; rw [List.take_append_of_le_length h]
  show bv (pad16 l) ++ tc (num ((l.drop 16).take 2)) (num ((l.drop 18).take 2)) (num ((l.drop 20).take 4)) = _
  rw [e]
theorem unB_take {wt : Bool} {l : L8} : unB wt (l.take (szB wt)) = unB wt l := by
  cases wt with
  | false =>
    unfold unB szB
    have e : pad16 (l.take 16) = pad16 l := by
      unfold pad16
      rcases Nat.le_total 16 l.length with q | q
      · rw [List.take_append_of_le_length (by rw [List.length_take]; omega), List.take_take, List.take_append_of_le_length q]; rfl
      · rw [List.take_of_length_le q]
    simp only [Bool.false_eq_true, if_false, e]
  | true =>
    unfold unB szB
    have e : pad16 (l.take 24) = pad16 l := by
      unfold pad16
      rcases Nat.le_total 24 l.length with q | q
      · rw [List.take_append_of_le_length (by rw [List.length_take]; omega), List.take_take, List.take_append_of_le_length (by omega)]; rfl
      · rw [List.take_of_length_le q]
    have f : ∀ d n, d + n ≤ 24 → ((l.take 24).drop d).take n = (l.drop d).take n := fun d n h => by
      rw [List.drop_take, List.take_take, Nat.min_eq_left (by omega)]
    simp only [if_true, e, f 16 2 (by decide), f 18 2 (by decide), f 20 4 (by decide)]
theorem unpB_nil (wt : Bool) {l : L8} (h : l.length = 0) : unpB wt l = [] := by unfold unpB; rw [h]; simp
end Go.Proofs.Ytaneeadpjelomaa

/- Layer 13: unpacking. -/
namespace Go.Proofs.Ytaneeadpjelomaa
open Go CF

theorem take2 {X : L8} {d : Nat} (h : d + 2 ≤ X.length) : (X.drop d).take 2 = [X[d], X[d + 1]] := by
  rw [List.drop_eq_getElem_cons (show d < X.length by omega), List.take_succ_cons, List.drop_eq_getElem_cons (show d + 1 < X.length by omega), List.take_succ_cons, List.take_zero]
theorem take4 {X : L8} {d : Nat} (h : d + 4 ≤ X.length) : (X.drop d).take 4 = [X[d], X[d + 1], X[d + 2], X[d + 3]] := by
  rw [List.drop_eq_getElem_cons (show d < X.length by omega), List.take_succ_cons, List.drop_eq_getElem_cons (show d + 1 < X.length by omega), List.take_succ_cons, List.drop_eq_getElem_cons (show d + 2 < X.length by omega), List.take_succ_cons,
    List.drop_eq_getElem_cons (show d + 3 < X.length by omega), List.take_succ_cons, List.take_zero]
theorem unpack_spec {p : Sl} {l : L8} {wt : Bool} {w : World} {R : Sl → Bool → World → Prop} (hp : Rd w 1 p (bv l)) (hb : p.n ≤ 140737488351232)
    (h1 : l.length % szB wt ≠ 0 → R nilS false w) (h2 : l.length % szB wt = 0 → ∀ out u, Grow w u → Own u w.heap.size t_api_Block 19 out ((unpB wt l).flatMap bc) → R out true u) : Cpi_Unpack p wt w R := by
  refine Fpi_Unpack.calls _ _ _ _ ?_
  have hln := rd_n' hp
  have hs16 : 16 ≤ szB wt ∧ szB wt ≤ 24 := by unfold szB; split <;> decide
  refine size_spec ⟨by omega, ?_⟩
  have em : ((p.n : Int).tmod ((szB wt : Nat) : Int)) = ((l.length % szB wt : Nat) : Int) := by rw [hln]; rfl
  rw [em]
  refine br_ne (fun q => h1 (by omega)) (fun q => ?_)
  have hm : l.length % szB wt = 0 := by omega
  have hN : l.length = l.length / szB wt * szB wt := by have := Nat.div_add_mod l.length (szB wt); rw [hm, Nat.mul_comm] at this; omega
  have h2 := h2 hm
  generalize hNN : l.length / szB wt = N at *
  have hN16 : N * 16 ≤ l.length := by rw [hN]; exact Nat.mul_le_mul_left _ hs16.1
  have hul : (unpB wt l).length = N := by rw [unpB_len, hNN]
  refine ⟨fun p1 out u => ∃ j : Nat, j ≤ N ∧ Grow w u ∧ (∀ v, Grow w v → Rd v 1 p1 (bv (l.drop (j * szB wt)))) ∧ Own u w.heap.size t_api_Block 19 out (((unpB wt l).take j).flatMap bc), fun p1 _ _ => p1.n,
    ⟨0, Nat.zero_le _, Keep.refl _ _, fun v hv => by rw [Nat.zero_mul, List.drop_zero]; exact hp.grow hv, own_nil _ _ _ _⟩, ?_⟩
  rintro p1 out u ⟨j, hj, hgu, hp1, hown⟩
  have hpu := hp1 u hgu
  have hpn := rd_n' hpu
  rw [List.length_drop] at hpn
  have hjs : j * szB wt ≤ N * szB wt := Nat.mul_le_mul_right _ hj
  by_cases hjN : j = N
  · subst hjN
    refine br_f (by rw [decide_eq_false_iff_not]; omega) ?_
    rw [List.take_of_length_le (by omega)] at hown
    exact h2 out u hgu hown
  have hjs1 : j * szB wt + szB wt ≤ N * szB wt := by rw [← Nat.succ_mul]; exact Nat.mul_le_mul_right _ (by omega)
  have hcap := hpu.cap
  refine br_t (by rw [decide_eq_true_eq]; omega) ?_
  have hXl : (l.drop (j * szB wt)).length = p1.n := by rw [List.length_drop]; exact hpn
  have hun : (unpB wt l)[j]'(by omega) = unB wt (l.drop (j * szB wt)) := by rw [unpB_at, unB_take]
  have hou := rd_bk (hown.rd (by
    have := hown.len
    rw [flat_length bc_len, List.length_take] at this
    omega))
  rw [List.length_take, hul, Nat.min_eq_left hj] at hou
  refine letX1 (fun out1 v => Grow w v ∧ Own v w.heap.size t_api_Block 19 out1 (((unpB wt l).take (j + 1)).flatMap bc)) ?_ (fun J => ?_)
  · rintro out1 v ⟨h3, h5⟩
    refine ⟨⟨by omega, by omega, by omega, hcap⟩, ⟨j + 1, by omega, h3, fun x hx => ?_, h5⟩, ?_⟩
    · have := (hp1 x hx).cutB (l := szB wt) (k := p1.n) (by omega) (Nat.le_refl _)
      rw [List.take_of_length_le (by rw [List.length_drop]; omega), List.drop_drop] at this
      rw [Nat.succ_mul]
      exact this
    · show ((p1.n : Int)).toNat - ((szB wt : Nat) : Int).toNat < p1.n
      rw [Int.toNat_natCast, Int.toNat_natCast]; omega
  have hflat : ((unpB wt l).take (j + 1)).flatMap bc = ((unpB wt l).take j).flatMap bc ++ bc (unB wt (l.drop (j * szB wt))) := by
    rw [List.take_succ_eq_append_getElem (by omega), List.flatMap_append, hun]; simp
  rw [hflat] at J
  generalize hX : l.drop (j * szB wt) = X at *
  refine new_rule fun pb w1 hpb hb1 hg1 hsz1 => ⟨by decide, ?_⟩
  have hb1 : Blk w1 pb (bc zeroBk).toArray t_api_Block := hb1
  refine copy16_rule hb1 (hp1 w1 (hgu.trans hg1)) (by omega) fun w2 hb2 hk2 hsz2 => ?_
  have hg2 : Grow u w2 := hg1.keep hk2 fun i hi q => by omega
  refine letX0 (fun v => Grow u v ∧ Blk v pb (bc (unB wt X)).toArray t_api_Block) ?_ (fun J1 => ?_)
  · rintro v ⟨hgv, hbv⟩
    refine ⟨_, bLoad (blk_cells hbv), ?_⟩
    refine lit_rule (cells := (bc (unB wt X)).toArray) (e := t_api_Block) (z := 19) (base := 0) (lit_block _ _) (by simp [bc_len]) (by decide) (Nat.zero_le _) fun w3 hlit3 hg3 _ => ?_
    refine append_wide_rule u_sl_api_Block i_api_Block rfl (by decide) (by decide) ((hown.grow hgv).grow hg3) (hlit3.rd (by show 1 ≤ _; decide)) (fun x hx => bc_ones _ x (by simpa using hx)) (by show out.n + 1 ≤ _; omega) (by show (out.n + 1 + (out.n + 1) / 4 + 192) * 24 ≤ _; omega) ((hgu.trans hgv).trans hg3).size fun s' w4 hn4 hown4 hk4 => ?_
    exact J s' w4 ⟨own_grow' ((hgu.trans hgv).trans hg3) ((hown.grow hgv).grow hg3) (Nat.le_refl _) hk4, by simpa using hown4⟩
  · have hgw2 := hgu.trans hg2
    cases wt with
    | false =>
      refine br_f rfl (J1 w2 ⟨hg2, ?_⟩)
      rw [unB_false X (by omega)]
      exact hb2
    | true =>
      have h24 : 24 ≤ X.length := by have : szB true = 24 := rfl; omega
      refine br_t rfl ⟨⟨by decide, by omega, by omega, hcap⟩, ?_⟩
      rintro w3 rfl
      have hg3 : Grow w2 w2.drew := keep_drew w2
      have hcut : ∀ v, Grow w v → Rd v 1 ⟨cutA p1.A p1.c 16 1, p1.n - 16, p1.c - 16⟩ (bv (X.drop 16)) := fun v hv => by
        have := (hp1 v hv).cutB (l := 16) (k := p1.n) (by omega) (Nat.le_refl _)
        rwa [List.take_of_length_le (by rw [List.length_drop]; omega)] at this
      have rd : ∀ i (hi : 16 + i < X.length) v, Grow w v → v.cell? ((gA (cutA p1.A p1.c 16 1)).add (i * 1)) = some (.int .u8 (X[16 + i].toNat : Int)) := fun i hi v hv => by
        obtain ⟨a, ha, hc⟩ := (hcut v hv).byte (i := i) (by show i < p1.n - 16; omega)
        have ha : cutA p1.A p1.c 16 1 = some a := ha
        rw [ha, gA]
        simpa using hc
      have hA : (cutA p1.A p1.c 16 1).isSome = true := by
        obtain ⟨a, ha, _⟩ := (hcut w2 hgw2).byte (i := 0) (by show 0 < p1.n - 16; omega)
        have ha : cutA p1.A p1.c 16 1 = some a := ha
        rw [ha]; rfl
      have bd : ∀ i : Nat, i < 8 → (0 : Int) ≤ (i : Int) ∧ (i : Int) < (((((p1.n : Int)).toNat - 16) : Nat) : Int) ∧ (cutA p1.A p1.c 16 1).isSome = true := fun i hi => ⟨by omega, by rw [Int.toNat_natCast]; omega, hA⟩
      refine ⟨fun v => Grow w v, hgw2.trans hg3, bd 0 (by decide), _, rd 0 (by omega), bd 1 (by decide), _, rd 1 (by omega), bd 2 (by decide), _, rd 2 (by omega), bd 3 (by decide), _, rd 3 (by omega),
        bd 4 (by decide), _, rd 4 (by omega), bd 5 (by decide), _, rd 5 (by omega), bd 6 (by decide), _, rd 6 (by omega), bd 7 (by decide), _, rd 7 (by omega), ?_⟩
      rw [or16 (UInt8.toNat_lt _) (UInt8.toNat_lt _), or16 (UInt8.toNat_lt _) (UInt8.toNat_lt _), be32 (UInt8.toNat_lt _) (UInt8.toNat_lt _) (UInt8.toNat_lt _) (UInt8.toNat_lt _)]
      have hb3 : Blk w2.drew pb _ t_api_Block := hg3.heap hb2 (fun q => q)
      rw [add0]
      refine storeAt_rule (o := 0 + 16) (cells := (tc (X[16 + 0].toNat * 256 + X[16 + 1].toNat) (X[16 + 2].toNat * 256 + X[16 + 3].toNat) (X[16 + 4].toNat * 16777216 + X[16 + 5].toNat * 65536 + X[16 + 6].toNat * 256 + X[16 + 7].toNat)).toArray) hb3 i_api_Tuple rfl
        (by have : (bv (X.take 16)).length = 16 := by rw [bv_length, List.length_take]; omega
            simp [this, tc]) (by intro v hv; simp [tc] at hv; rcases hv with rfl | rfl | rfl <;> rfl) fun w4 hb4 hk4 hsz4 => ?_
      refine J1 w4 ⟨(hg2.trans hg3).keep hk4 fun i hi q => by omega, ?_⟩
      have e : (unB true X) = unB true X := rfl
      rw [unB_true X (by omega), take2 (by omega), take2 (by omega), take4 (by omega), num_two, num_two, num_4]
      have hl16 : (bv (X.take 16)).length = 16 := by rw [bv_length, List.length_take]; omega
      have e2 : ((bv (X.take 16) ++ tc 0 0 0).take (0 + 16)) = bv (X.take 16) := by rw [List.take_append_of_le_length (by omega), List.take_of_length_le (by omega)]
      have e3 : ((bv (X.take 16) ++ tc 0 0 0).drop (0 + 16 + 3)) = [] := List.drop_of_length_le (by rw [List.length_append, hl16]; decide)
      have hb4 : Blk w4 pb ((bv (X.take 16) ++ tc 0 0 0).take (0 + 16) ++ tc (X[16 + 0].toNat * 256 + X[16 + 1].toNat) (X[16 + 2].toNat * 256 + X[16 + 3].toNat) (X[16 + 4].toNat * 16777216 + X[16 + 5].toNat * 65536 + X[16 + 6].toNat * 256 + X[16 + 7].toNat) ++ (bv (X.take 16) ++ tc 0 0 0).drop (0 + 16 + 3)).toArray t_api_Block := hb4
      rw [e2, e3, List.append_nil] at hb4
      exact hb4
end Go.Proofs.Ytaneeadpjelomaa

/- Layer 14: a device; its reading and writing. -/
namespace Go.Proofs.Ytaneeadpjelomaa
open Go CF

/-- a command, taken apart -/
structure Cm where
  kind : Nat
  long : Bool
  lba : Nat
  blocks : Nat
  alloc : Int
  fua : Bool
  prot : Nat
  unmap : Bool
  evpd : Bool
  page : Nat
  control : Nat
  save : Bool
  service : Nat
  type : Nat
  bytes : Bool
def cmv (c : Cm) : List Value := [.int .u8 (c.kind : Int), .bool c.long, .int .u64 (c.lba : Int), .int .u64 (c.blocks : Int), .int .i64 c.alloc, .bool c.fua, .int .u8 (c.prot : Int), .bool c.unmap, .bool c.evpd, .int .u8 (c.page : Int), .int .u8 (c.control : Int),
  .bool c.save, .int .u8 (c.service : Int), .int .u8 (c.type : Int), .bool c.bytes]
theorem cLoad {w : World} {a : Addr} {c : Cm} (h : Cells w a (cmv c)) : (loadVar t_api_Cmd a).run Try.prog w = .ok (.agg (cmv c).toArray) w := loadVar_rule g_api_Cmd i_api_Cmd rfl h
def dvcells (ps kind : Nat) : Array Value := #[.pointer (some ⟨ps, 0, none⟩), .int .u8 (kind : Int)]
/-- a device, what it keeps, and what it may write over -/
structure Dvq (w : World) (dv ps pw : Nat) (file : ByteArray) (kind n : Nat) (cache : Bool) (D : Nat → Prop) (st : Wst) (bs : List Bk) (m : Nat) (F : Int → Bool) : Prop where
  dev : Blk w dv (dvcells ps kind) t_sbc_Dev
  isS : IsS w ps pw file n cache
  isW : IsWq w pw D st F
  nps : ¬ D ps
  ndv : ¬ D dv
  ok : Wok st
  tells : Tells st file bs
  len : bs.length = n
  size : 1 ≤ n ∧ n ≤ 4096
  nm : 1 ≤ file.size ∧ file.size ≤ 32
  kd : kind ≤ 3
  few : st.ops ≤ m ∧ st.waits.length ≤ m
/-- the device where no call fails -/
abbrev Dv (w : World) (dv ps pw : Nat) (file : ByteArray) (kind n : Nat) (cache : Bool) (D : Nat → Prop) (st : Wst) (bs : List Bk) (m : Nat) : Prop := Dvq w dv ps pw file kind n cache D st bs m quiet
section
variable {w u : World} {dv ps pw : Nat} {file : ByteArray} {kind n : Nat} {cache : Bool} {D D' : Nat → Prop} {st st' : Wst} {bs bs' : List Bk} {m m' : Nat} {F : Int → Bool}
theorem Dvq.step (h : Dvq w dv ps pw file kind n cache D st bs m F) (k : Keep D w u) (hw : IsWq u pw D' st' F) (hD : ∀ k, D' k → D k ∨ w.heap.size ≤ k) (hok : Wok st') (ht : Tells st' file bs') (hl : bs'.length = n) (hf : st'.ops ≤ m' ∧ st'.waits.length ≤ m') :
    Dvq u dv ps pw file kind n cache D' st' bs' m' F := by
  have l1 := lt_of_heap h.dev
  have l2 := lt_of_heap h.isS
  refine ⟨k.heap h.dev h.ndv, k.heap h.isS h.nps, hw, fun q => ?_, fun q => ?_, hok, ht, hl, h.size, h.nm, h.kd, hf⟩
  · rcases hD _ q with r | r
    · exact h.nps r
    · omega
  · rcases hD _ q with r | r
    · exact h.ndv r
    · omega
theorem Dvq.grow (h : Dvq w dv ps pw file kind n cache D st bs m F) (g : Grow w u) : Dvq u dv ps pw file kind n cache D st bs m F :=
  ⟨g.heap h.dev (fun q => q), g.heap h.isS (fun q => q), h.isW.grow g, h.nps, h.ndv, h.ok, h.tells, h.len, h.size, h.nm, h.kd, h.few⟩
theorem Dvq.mono (h : Dvq w dv ps pw file kind n cache D st bs m F) (hm : m ≤ m') : Dvq w dv ps pw file kind n cache D st bs m' F :=
  ⟨h.dev, h.isS, h.isW, h.nps, h.ndv, h.ok, h.tells, h.len, h.size, h.nm, h.kd, by have := h.few; omega⟩
theorem Dvq.cell0 (h : Dvq w dv ps pw file kind n cache D st bs m F) : w.cell? ((gA (some ⟨dv, 0, none⟩)).add 0) = some (.pointer (some ⟨ps, 0, none⟩)) := by rw [gA, add0, h.dev.cell]; rfl
theorem dev0 (h : Blk w dv (dvcells ps kind) t_sbc_Dev) : w.cell? ((gA (some ⟨dv, 0, none⟩)).add 0) = some (.pointer (some ⟨ps, 0, none⟩)) := by rw [gA, add0, h.cell]; rfl
theorem dev1 (h : Blk w dv (dvcells ps kind) t_sbc_Dev) : w.cell? ((gA (some ⟨dv, 0, none⟩)).add 1) = some (.int .u8 (kind : Int)) := by rw [gA, add0, h.cell]; rfl
theorem rdBl_tells (ht : Tells st file bs) {lba k : Nat} (h : lba + k ≤ bs.length) : rdBl st file lba k = (bs.drop lba).take k := by
  apply List.ext_getElem?
  intro i
  unfold rdBl
  rw [List.getElem?_map, List.getElem?_take, List.getElem?_drop]
  by_cases q : i < k
  · rw [List.getElem?_range q, if_pos q, Option.map_some]
    exact ht.2 (lba + i) (by omega)
  · rw [if_neg q, List.getElem?_eq_none (by simp; omega)]; rfl
theorem blocks_spec {R : Int → World → Prop} (h : Dvq w dv ps pw file kind n cache D st bs m F) (hR : R (n : Int) w) : Csbc_Dev_blocks (some ⟨dv, 0, none⟩) w R := by
  refine Fsbc_Dev_blocks.calls _ _ _ ⟨rfl, some ⟨ps, 0, none⟩, dev0 h.dev, ?_⟩
  refine Fstore_Store_Blocks.calls _ _ _ (br_f rfl ⟨rfl, (n : Int), by rw [gA, add0, Blk.cell h.isS]; rfl, ?_⟩)
  have := h.size
  dsimp only
  rw [wu64 (by omega) (by omega)]
  exact hR
theorem dev_read_any {c : Cm} {R : Sl → Array Value → Bool → World → Prop} (h : Dvq w dv ps pw file kind n cache D st bs m F) (hm : m ≤ 1000000) (hc : c.lba + c.blocks ≤ n)
    (h1 : (∀ i : Nat, i < c.blocks → F ((st.ops + i : Nat) : Int) = false) → (∀ i (hi : i < ((bs.drop c.lba).take c.blocks).length), chkB kind c.prot (c.lba + i) ((bs.drop c.lba).take c.blocks)[i] = 0) → ∀ xs u, Keep D w u → RdW w u pw D st c.blocks →
      Own u w.heap.size t_api_Block 19 xs (((bs.drop c.lba).take c.blocks).flatMap bc) → R xs (rsv 0 sn0 nilS).toArray true u)
    (h2 : (∀ i : Nat, i < c.blocks → F ((st.ops + i : Nat) : Int) = false) → ∀ i (hi : i < ((bs.drop c.lba).take c.blocks).length), chkB kind c.prot (c.lba + i) ((bs.drop c.lba).take c.blocks)[i] ≠ 0 → ∀ u, Keep D w u → RdW w u pw D st c.blocks →
      R nilS (rsv 2 (atS 11 (chkB kind c.prot (c.lba + i) ((bs.drop c.lba).take c.blocks)[i]) (c.lba + i)) nilS).toArray false u)
    (hbad : ∀ k : Nat, k < c.blocks → (∀ i : Nat, i < k → F ((st.ops + i : Nat) : Int) = false) → F ((st.ops + k : Nat) : Int) = true → ∀ u, Keep D w u → RdW w u pw D st (k + 1) → R nilS (rsv 2 (atS 3 0x1100 (c.lba + k)) nilS).toArray false u) :
    Csbc_Dev_read (some ⟨dv, 0, none⟩) (cmv c).toArray w R := by
  refine Fsbc_Dev_read.calls _ _ _ _ ?_
  have hlen := h.len
  have hsz := h.size
  refine new_rule fun cb w0 hcb hb0 hg0 hsz0 => ?_
  have hb0 : Blk w0 cb (cmv c).toArray t_api_Cmd := hb0
  refine new_rule fun ab w1 hab hb1 hg1 hsz1 => ?_
  rintro w2 rfl
  have hg2 : Grow w1 w1.drew := keep_drew w1
  have hgw2 := (hg0.trans hg1).trans hg2
  have hw2 := h.grow hgw2
  have hc2 : Blk w1.drew cb (cmv c).toArray t_api_Cmd := (hg1.trans hg2).heap hb0 (fun q => q)
  have c2 : ∀ {v : World}, Blk v cb (cmv c).toArray t_api_Cmd → v.cell? ((⟨cb, 0, none⟩ : Addr).add 2) = some (.int .u64 (c.lba : Int)) := fun q => by rw [add0, q.cell]; rfl
  have c3 : ∀ {v : World}, Blk v cb (cmv c).toArray t_api_Cmd → v.cell? ((⟨cb, 0, none⟩ : Addr).add 3) = some (.int .u64 (c.blocks : Int)) := fun q => by rw [add0, q.cell]; rfl
  have c6 : ∀ {v : World}, Blk v cb (cmv c).toArray t_api_Cmd → v.cell? ((⟨cb, 0, none⟩ : Addr).add 6) = some (.int .u8 (c.prot : Int)) := fun q => by rw [add0, q.cell]; rfl
  refine ⟨fun v => Blk v dv (dvcells ps kind) t_sbc_Dev ∧ Blk v cb (cmv c).toArray t_api_Cmd, ⟨hw2.dev, hc2⟩, rfl, some ⟨ps, 0, none⟩, fun v hv => dev0 hv.1, (c.lba : Int), fun v hv => c2 hv.2, (c.blocks : Int), fun v hv => c3 hv.2, ?_⟩
  rw [w64 (n := (c.lba : Int)) (by omega) (by omega), w64 (n := (c.blocks : Int)) (by omega) (by omega)]
  have hfew := h.few
  refine store_readR_any hw2.isS hw2.nps hw2.isW h.nm hsz.2 hc (by omega) (fun hfl xs w3 hk3 hw3 hown3 hn3 => br_f rfl ?_) (fun k hkl hfl hf w3 hk3 hw3 => br_t rfl ?_)
  case refine_2 =>
    have lt0 := fun k (q : D k) => h.isW.lt q
    have hc3 : Blk w3 cb (cmv c).toArray t_api_Cmd := hk3.heap hc2 fun q => by have := lt0 _ q; omega
    refine ⟨(c.lba : Int), c2 hc3, ?_⟩
    rw [wu64 (n := (k : Int)) (by omega) (by omega), wu64 (by omega) (by omega), show ((c.lba : Int) + (k : Int)) = ((c.lba + k : Nat) : Int) by omega]
    refine at_spec (key := 3) fun w4 hg4 => ?_
    have ha4 : Blk w4 ab _ t_api_Result := hg4.heap (hk3.heap (hg2.heap hb1 (fun q => q)) (fun q => by have := lt0 _ q; omega)) (fun q => q)
    refine ret_rule ha4 rfl fun w5 hk5 => ?_
    have hkw : Keep D w w4 := ((hgw2.mono fun _ _ q => q.elim).trans hk3 fun _ _ q => q).grow hg4
    have hab2 : w.heap.size ≤ ab := by have := hg0.size; omega
    refine hbad k hkl hfl hf w5 (hkw.trans hk5 fun i hi q => by omega) (((hw3.pre hgw2).grow hg4).keep hk5 (fun k hk q => by have := lt0 _ hk; omega) (fun g cur hg q => by subst q; exact absurd (blk_type ha4 hg) (by decide)))
  rw [rdBl_tells h.tells (by omega)] at hown3
  have hLl : ((bs.drop c.lba).take c.blocks).length = c.blocks := by rw [List.length_take, List.length_drop]; omega
  generalize (bs.drop c.lba).take c.blocks = L at *
  have lt0 := fun k (q : D k) => h.isW.lt q
  have hkw3 : Keep D w w3 := (hgw2.mono fun _ _ q => q.elim).trans hk3 fun _ _ q => q
  have hc3 : Blk w3 cb (cmv c).toArray t_api_Cmd := hk3.heap hc2 fun q => by have := lt0 _ q; omega
  have hd3 : Blk w3 dv (dvcells ps kind) t_sbc_Dev := hk3.heap hw2.dev h.ndv
  have ha3 : ∀ {cs}, Blk w1 ab cs t_api_Result → Blk w3 ab cs t_api_Result := fun q => hk3.heap (hg2.heap q (fun q => q)) fun q => by have := lt0 _ q; omega
  have hown3 : Own w3 w.heap.size t_api_Block 19 xs (L.flatMap bc) := hown3.mono hgw2.size
  have hxr := hown3.rd (by omega)
  have s2 := hgw2.size
  have s3 := hkw3.size
  refine ⟨fun x v => ∃ j : Nat, x = j ∧ j ≤ L.length ∧ Grow w3 v ∧ ∀ i (hi : i < L.length), i < j → chkB kind c.prot (c.lba + i) L[i] = 0, fun x _ => L.length - x.toNat, ⟨0, rfl, Nat.zero_le _, Keep.refl _ _, fun _ _ q => absurd q (Nat.not_lt_zero _)⟩, ?_⟩
  rintro x v ⟨j, rfl, hj, hgv, hall⟩
  have hav : Blk v ab _ t_api_Result := hgv.heap (ha3 hb1) (fun q => q)
  have fin : ∀ {y : World} , Grow w3 y → ∀ {z : World}, Keep (fun k => k = ab) y z → Keep D w z ∧ RdW w z pw D st c.blocks := fun {y} hy {z} hz => by
    have hgz : Grow w3 y := hy
    have hzD : Keep (fun k => k = ab) w3 z := (hgz.mono fun _ _ q => q.elim).trans hz fun _ _ q => q
    refine ⟨⟨hzD.os.trans hkw3.os, hzD.tape.trans hkw3.tape, hzD.output.trans hkw3.output, Nat.le_trans hkw3.size hzD.size, fun k hk hn => ?_⟩, ?_⟩
    · rw [hzD.block k (by omega) (by omega), hkw3.block k hk hn]
    · refine ((hw3.pre hgw2).grow hgz).keep hz (fun k hk q => ?_) (fun g cur hg q => ?_)
      · have := lt0 _ hk; omega
      · subst q
        have := hgz.heap (ha3 hb1) (fun q => q)
        exact absurd (blk_type this hg) (by decide)
  refine br_nat (fun hlt => ?_) (fun hge => ?_)
  · have hjL : j < L.length := by omega
    obtain ⟨a0, ha0, hc0⟩ := rd_bk_at (hxr.grow hgv) hjL
    refine ⟨⟨by omega, by omega, by rw [ha0]; rfl⟩, (bc L[j]).toArray, by rw [ha0, Int.toNat_natCast]; exact bLoad hc0, ?_⟩
    refine new_rule fun bb w4 hbb hb4 hg4 hsz4 => ?_
    refine storeVar_rule (cells := (bc L[j]).toArray) hb4 i_api_Block (by simp [bc_len]) (by simp [bc_len]) (bc_all _) fun w5 hb5 hk5 hsz5 => ?_
    have hg5 : Grow v w5 := hg4.keep hk5 fun i hi q => by omega
    have hg35 := hgv.trans hg5
    have hc5 := hg35.heap hc3 (fun q => q)
    refine ⟨(c.lba : Int), c2 hc5, ?_⟩
    rintro w6 rfl
    have hg6 : Grow w5 w5.drew := keep_drew w5
    have hg36 := hg35.trans hg6
    refine ⟨fun y => Blk y dv (dvcells ps kind) t_sbc_Dev ∧ Blk y cb (cmv c).toArray t_api_Cmd ∧ Blk y bb (bc L[j]).toArray t_api_Block, ⟨hg36.heap hd3 (fun q => q), hg36.heap hc3 (fun q => q), hg6.heap hb5 (fun q => q)⟩, rfl, (kind : Int), fun y hy => dev1 hy.1, (c.prot : Int), fun y hy => c6 hy.2.1,
      (bc L[j]).toArray, fun y hy => bLoad (blk_cells hy.2.2), ?_⟩
    have e1 : IntKind.wrap .u64 ((c.lba : Int) + IntKind.wrap .u64 (j : Int)) = ((c.lba + j : Nat) : Int) := by
      rw [wu64 (n := (j : Int)) (by omega) (by omega), wu64 (by omega) (by omega)]; omega
    rw [e1]
    refine check_b_spec fun w7 hg7 => ?_
    have hg37 := hg36.trans hg7
    by_cases hz : chkB kind c.prot (c.lba + j) L[j] = 0
    · refine br_f (by rw [hz]; rfl) ?_
      rw [w64 (by omega) (by omega)]
      refine ⟨⟨j + 1, by omega, by omega, hg37, fun i hi q => ?_⟩, by dsimp only; omega⟩
      by_cases e : i = j
      · subst e; exact hz
      · exact hall i hi (by omega)
    · refine br_t (by rw [bne_iff_ne]; omega) ?_
      refine at_spec (key := 11) fun w8 hg8 => ?_
      have hg38 := hg37.trans hg8
      refine ret_rule (hg38.heap (ha3 hb1) (fun q => q)) rfl fun w9 hk9 => ?_
      obtain ⟨f1, f2⟩ := fin hg38 hk9
      exact h2 hfl j hjL hz w9 f1 f2
  · refine ret_rule (st := 0) (s := sn0) (d := nilS) hav rfl fun w4 hk4 => ?_
    obtain ⟨f1, f2⟩ := fin hgv hk4
    refine h1 hfl (fun i hi => hall i hi (by omega)) xs w4 f1 f2 ((hown3.grow hgv).keep hk4 fun b hb q => ?_)
    obtain ⟨cur, hcur⟩ := own_heap (hown3.grow hgv) hb
    subst q
    exact absurd (blk_type hav hcur) (by decide)
theorem dev_read_spec {c : Cm} {R : Sl → Array Value → Bool → World → Prop} (h : Dv w dv ps pw file kind n cache D st bs m) (hm : m ≤ 1000000) (hc : c.lba + c.blocks ≤ n)
    (h1 : (∀ i (hi : i < ((bs.drop c.lba).take c.blocks).length), chkB kind c.prot (c.lba + i) ((bs.drop c.lba).take c.blocks)[i] = 0) → ∀ xs u, Keep D w u → RdW w u pw D st c.blocks →
      Own u w.heap.size t_api_Block 19 xs (((bs.drop c.lba).take c.blocks).flatMap bc) → R xs (rsv 0 sn0 nilS).toArray true u)
    (h2 : ∀ i (hi : i < ((bs.drop c.lba).take c.blocks).length), chkB kind c.prot (c.lba + i) ((bs.drop c.lba).take c.blocks)[i] ≠ 0 → ∀ u, Keep D w u → RdW w u pw D st c.blocks →
      R nilS (rsv 2 (atS 11 (chkB kind c.prot (c.lba + i) ((bs.drop c.lba).take c.blocks)[i]) (c.lba + i)) nilS).toArray false u) :
    Csbc_Dev_read (some ⟨dv, 0, none⟩) (cmv c).toArray w R :=
  dev_read_any h hm hc (fun _ => h1) (fun _ => h2) (fun k _ _ q => by cases q)
end
end Go.Proofs.Ytaneeadpjelomaa

/- Layer 14: blocks are written; blocks that came. -/
namespace Go.Proofs.Ytaneeadpjelomaa
open Go CF

theorem keepD_new {w y z : World} {D : Nat → Prop} {ab : Nat} (hk : Keep D w y) (ha : w.heap.size ≤ ab) (hz : Keep (fun k => k = ab) y z) : Keep D w z :=
  ⟨hz.os.trans hk.os, hz.tape.trans hk.tape, hz.output.trans hk.output, Nat.le_trans hk.size hz.size, fun k hk' hn => by rw [hz.block k (by have := hk.size; omega) (by omega), hk.block k hk' hn]⟩
theorem isWq_new {y z : World} {pw : Nat} {D : Nat → Prop} {st : Wst} {F : Int → Bool} {ab : Nat} {cs : Array Value} {t : TypeId} (hw : IsWq y pw D st F) (hb : Blk y ab cs t) (ht : t ≠ t_uint8) (hn : ¬ D ab) (hz : Keep (fun k => k = ab) y z) : IsWq z pw D st F :=
  hw.keep hz (fun k hk q => hn (q ▸ hk)) (fun g cur hg q => by subst q; exact ht (blk_type hb hg))
theorem isW_new {y z : World} {pw : Nat} {D : Nat → Prop} {st : Wst} {ab : Nat} {cs : Array Value} {t : TypeId} (hw : IsW y pw D st) (hb : Blk y ab cs t) (ht : t ≠ t_uint8) (hn : ¬ D ab) (hz : Keep (fun k => k = ab) y z) : IsW z pw D st :=
  hw.keep hz (fun k hk q => hn (q ▸ hk)) fun g cur hg q => by subst q; exact ht (blk_type hb hg)
theorem rdW_new {x y z : World} {pw k : Nat} {D : Nat → Prop} {st : Wst} {ab : Nat} {cs : Array Value} {t : TypeId} (hw : RdW x y pw D st k) (hb : Blk y ab cs t) (ht : t ≠ t_uint8) (hn : ¬ D ab) (hz : Keep (fun k => k = ab) y z) : RdW x z pw D st k :=
  hw.keep hz (fun k hk q => hn (q ▸ hk)) fun g cur hg q => by subst q; exact ht (blk_type hb hg)
theorem tne_result : t_api_Result ≠ t_uint8 := by decide
section
variable {w u : World} {dv ps pw : Nat} {file : ByteArray} {kind n : Nat} {cache : Bool} {D D' : Nat → Prop} {st st' : Wst} {bs bs' : List Bk} {m m' : Nat}
theorem dev_write_any {F : Int → Bool} {lba : Nat} {ls : Sl} {L : List Bk} {fua : Bool} {R : Array Value → World → Prop} (h : Dvq w dv ps pw file kind n cache D st bs m F) (hm : m ≤ 1000000) (hc : lba + L.length ≤ n) (hL : ∀ v, Keep D w v → Rd v 19 ls (L.flatMap bc))
    (hR : (∀ i : Nat, i < L.length + (if syncs L.length fua cache then 1 else 0) → F ((st.ops + i : Nat) : Int) = false) → ∀ u D' , Keep D w u → Dvq u dv ps pw file kind n cache D' (syncIf (syncs L.length fua cache) (layW st file lba (rsOf L) L.length)) (setAll bs lba L L.length) (m + L.length + 1) F → (∀ k, D' k → D k ∨ w.heap.size ≤ k) → R (rsv 0 sn0 nilS).toArray u)
    (hbad : ∀ k : Nat, k < L.length + (if syncs L.length fua cache then 1 else 0) → (∀ i : Nat, i < k → F ((st.ops + i : Nat) : Int) = false) → F ((st.ops + k : Nat) : Int) = true → ∀ u D' , Keep D w u → Dvq u dv ps pw file kind n cache D' { layW st file lba (rsOf L) k with ops := st.ops + k + 1 } (setAll bs lba L k) (m + L.length + 1) F → (∀ k, D' k → D k ∨ w.heap.size ≤ k) → R (rsv 2 (atS 3 0x0c00 (lba + k)) nilS).toArray u) :
    Csbc_Dev_write (some ⟨dv, 0, none⟩) (lba : Int) ls fua w R := by
  refine Fsbc_Dev_write.calls _ _ _ _ _ _ ?_
  have hsz := h.size
  have hlen := h.len
  have hfew := h.few
  refine new_rule fun ab w1 hab hb1 hg1 hsz1 => ⟨rfl, some ⟨ps, 0, none⟩, dev0 (h.grow hg1).dev, ?_⟩
  have h1 := h.grow hg1
  rw [w64 (n := (lba : Int)) (by omega) (by omega)]
  have nab : ¬ D ab := fun q => by have := h.isW.lt q; omega
  refine store_write2_any h1.isS h1.nps h1.isW h1.ok h.nm hsz.2 hc (fun v hk => hL v ((hg1.mono fun _ _ q => q.elim).trans hk fun _ _ q => q)) (by omega) (by omega) (fun hfl w2 D2 hk2 hw2 hD2 hS2 => br_f rfl ?_) (fun k hk0 hfl hf w2 D2 hk2 hw2 hD2 hS2 => br_t rfl ?_)
  case refine_2 =>
    have hkl : k ≤ L.length := by split at hk0 <;> omega
    rw [wu64 (n := (k : Int)) (by omega) (by omega), wu64 (by omega) (by omega), show ((lba : Int) + (k : Int)) = ((lba + k : Nat) : Int) by omega]
    refine at_spec (key := 3) fun w3 hg3 => ?_
    have s1 := hg1.size
    have s2 := hk2.size
    have nab2 : ¬ D2 ab := fun q => by
      rcases hD2 _ q with r | r
      · exact nab r
      · omega
    have hb3 : Blk w3 ab _ t_api_Result := hg3.heap (hk2.heap hb1 nab) (fun q => q)
    refine ret_rule hb3 rfl fun w4 hk4 => ?_
    have hkD : Keep D w w4 := keepD_new (((hg1.mono fun _ _ q => q.elim).trans hk2 fun _ _ q => q).grow hg3) (by omega) hk4
    have hDD : ∀ k, D2 k → D k ∨ w.heap.size ≤ k := fun k q => by
      rcases hD2 k q with r | r
      · exact .inl r
      · exact .inr (by omega)
    obtain ⟨lo, lw⟩ := layW_ops st file lba (rsOf L) k
    exact hbad k hk0 hfl hf w4 D2 hkD (h.step hkD (isWq_new (hw2.grow hg3) hb3 tne_result nab2 hk4) hDD (layW_ok h.ok (rsOf_len L) k (by omega)) (tells_write_k h.tells (by omega) hkl) (by rw [setAll_len]; exact hlen) ⟨by show st.ops + k + 1 ≤ _; omega, by show (layW st file lba (rsOf L) k).waits.length ≤ _; omega⟩) hDD
  refine good_spec fun w3 hg3 => ?_
  have s1 := hg1.size
  have s2 := hk2.size
  have nab2 : ¬ D2 ab := fun q => by
    rcases hD2 _ q with r | r
    · exact nab r
    · omega
  have hb3 : Blk w3 ab _ t_api_Result := hg3.heap (hk2.heap hb1 nab) (fun q => q)
  refine ret_rule (st := 0) (s := sn0) (d := nilS) hb3 rfl fun w4 hk4 => ?_
  have hkD : Keep D w w4 := keepD_new (((hg1.mono fun _ _ q => q.elim).trans hk2 fun _ _ q => q).grow hg3) (by omega) hk4
  have hDD : ∀ k, D2 k → D k ∨ w.heap.size ≤ k := fun k q => by
    rcases hD2 k q with r | r
    · exact .inl r
    · exact .inr (by omega)
  obtain ⟨lo, lw⟩ := layW_ops st file lba (rsOf L) L.length
  have so := syncIf_ops (syncs L.length fua cache) (layW st file lba (rsOf L) L.length)
  have sw : (syncIf (syncs L.length fua cache) (layW st file lba (rsOf L) L.length)).waits.length ≤ st.waits.length + L.length := by
    rw [syncIf_waits]
    split
    · exact Nat.zero_le _
    · omega
  refine hR hfl w4 D2 hkD (h.step hkD (isWq_new (hw2.grow hg3) hb3 tne_result nab2 hk4) hDD (syncIf_ok (layW_ok h.ok (rsOf_len L) L.length (by omega))) (tells_write h.tells (by omega)) (by rw [setAll_len]; exact hlen) (by omega)) hDD
theorem dev_write_spec {lba : Nat} {ls : Sl} {L : List Bk} {fua : Bool} {R : Array Value → World → Prop} (h : Dv w dv ps pw file kind n cache D st bs m) (hm : m ≤ 1000000) (hc : lba + L.length ≤ n) (hL : ∀ v, Keep D w v → Rd v 19 ls (L.flatMap bc))
    (hR : ∀ u D' , Keep D w u → Dv u dv ps pw file kind n cache D' (syncIf (syncs L.length fua cache) (layW st file lba (rsOf L) L.length)) (setAll bs lba L L.length) (m + L.length + 1) → (∀ k, D' k → D k ∨ w.heap.size ≤ k) → R (rsv 0 sn0 nilS).toArray u) :
    Csbc_Dev_write (some ⟨dv, 0, none⟩) (lba : Int) ls fua w R :=
  dev_write_any h hm hc hL (fun _ => hR) (fun k _ _ q => by cases q)
end
/-! ### a row of blocks changed in place -/
theorem own_storeAt {P : Program} {w : World} {base : Nat} {e ty : TypeId} {z o : Nat} {zv : Option Value} {q bytes : Nat} {s : Sl} {vs : List Value} {cells : Array Value} (hs : Own w base e z s vs) (hinfo : (P.info? ty).map (fun i => (i.zero, i.size, i.bytes)) = some (zv, q, bytes)) (hq : q = cells.size)
    (ho : o + cells.size ≤ vs.length) (hpos : 0 < cells.size) (h1 : ∀ v ∈ cells.toList, v.oneCell' = true) {K : World → Prop}
    (h : ∀ w1, Own w1 base e z s (vs.take o ++ cells.toList ++ vs.drop (o + cells.size)) → Keep (fun k => some k = s.blk) w w1 → w1.heap.size = w.heap.size → K w1) : RunU P (storeVar ty ((gA s.A).add o) (.agg cells)) w K := by
  obtain ⟨hlen, hown⟩ := hs
  rcases hown with ⟨h2, hn0⟩ | ⟨g, cap, cur, hv', hbg, hg, hnc, hcm, hcs, htake⟩
  · rw [hn0, Nat.zero_mul] at hlen; omega
  · injection hv' with hA hN hC
    have hle : s.n * z ≤ cur.size := by rw [hcs]; exact Nat.mul_le_mul_right _ hnc
    rw [hA, gA, add0, Nat.zero_add]
    refine storeAt_rule hg hinfo hq (by omega) h1 fun w1 hb1 hk1 hsz1 => ?_
    refine h w1 ⟨by simp only [List.length_append, List.length_take, List.length_drop, Array.length_toList]; omega, .inr ⟨g, cap, _, by rw [hA, hC], hbg, hb1, hnc, hcm, ?_, ?_⟩⟩ (hk1.mono fun k _ q => by simp [Sl.blk, hA, q]) hsz1
    · simp only [List.size_toArray, List.length_append, List.length_take, List.length_drop, Array.length_toList]; omega
    · have hF : cur.toList.take (s.n * z) = vs := htake
      have hl : vs.length = s.n * z := hlen
      rw [← hF]
      apply List.ext_getElem?
      intro j
      simp only [List.getElem?_take, List.getElem?_append, List.length_append, List.length_take, Array.length_toList, List.getElem?_drop]
      have e1 : min o cur.size = o := by omega
      have e2 : min o (min (s.n * z) cur.size) = o := by omega
      simp only [e1, e2]
      by_cases q1 : j < o
      · have q2 : j < o + cells.size := by omega
        have q3 : j < s.n * z := by omega
        simp only [if_pos q1, if_pos q2, if_pos q3]
      · by_cases q2 : j < o + cells.size
        · have q3 : j < s.n * z := by omega
          simp only [if_neg q1, if_pos q2, if_pos q3]
        · by_cases q3 : j < s.n * z
          · have q4 : o + cells.size + (j - (o + cells.size)) < s.n * z := by omega
            simp only [if_neg q2, if_pos q3, if_pos q4]
          · have q4 : ¬ o + cells.size + (j - (o + cells.size)) < s.n * z := by omega
            simp only [if_neg q2, if_neg q3, if_neg q4]
theorem flat_bc_len (l : List Bk) : (l.flatMap bc).length = l.length * 19 := flat_length bc_len l
theorem flat_set {l : List Bk} {j : Nat} {b : Bk} (hj : j < l.length) (hd : b.d = l[j].d) : (l.flatMap bc).take (j * 19 + 16) ++ tc b.g b.a b.r ++ (l.flatMap bc).drop (j * 19 + 16 + 3) = (l.set j b).flatMap bc := by
  have e : l = l.take j ++ l[j] :: l.drop (j + 1) := by rw [List.getElem_cons_drop, List.take_append_drop]
  have hA : ((l.take j).flatMap bc).length = j * 19 := by rw [flat_bc_len, List.length_take, Nat.min_eq_left (by omega)]
  have hl : l.flatMap bc = (l.take j).flatMap bc ++ (bc l[j] ++ (l.drop (j + 1)).flatMap bc) := by
    conv => lhs; rw [e]
    rw [List.flatMap_append, List.flatMap_cons]
  have hs : (l.set j b).flatMap bc = (l.take j).flatMap bc ++ (bc b ++ (l.drop (j + 1)).flatMap bc) := by
    rw [List.set_eq_take_append_cons_drop, if_pos hj, List.flatMap_append, List.flatMap_cons]
  have hb : bc b = bv l[j].d ++ tc b.g b.a b.r := by unfold bc tc; rw [hd]
  have t1 : ((l.take j).flatMap bc ++ (bc l[j] ++ (l.drop (j + 1)).flatMap bc)).take (j * 19 + 16) = (l.take j).flatMap bc ++ bv l[j].d := by
    rw [← hA, List.take_length_add_append, List.take_append_of_le_length (by rw [bc_len]; omega), bc_head]
  have t2 : ((l.take j).flatMap bc ++ (bc l[j] ++ (l.drop (j + 1)).flatMap bc)).drop (j * 19 + 16 + 3) = (l.drop (j + 1)).flatMap bc := by
    rw [Nat.add_assoc, ← hA, List.drop_length_add_append]
    have : 16 + 3 = (bc l[j]).length := by rw [bc_len]
    rw [this, List.drop_left]
  rw [hl, hs, t1, t2, hb]
  simp
end Go.Proofs.Ytaneeadpjelomaa

/- Layer 14: blocks that came with a command. -/
namespace Go.Proofs.Ytaneeadpjelomaa
open Go CF

def mk1 (kind lba : Nat) (b : Bk) : Bk := mkB kind lba b.d b.hd
/-- blocks given their tuples, the first j of them -/
def mkAll (kind lba : Nat) (U : List Bk) : Nat → List Bk
  | 0 => U
  | j + 1 => (mkAll kind lba U j).set j (mk1 kind (lba + j) (U.getD j zeroBk))
theorem mkAll_len (kind lba : Nat) (U : List Bk) : ∀ j, (mkAll kind lba U j).length = U.length
  | 0 => rfl
  | j + 1 => by simp [mkAll, mkAll_len kind lba U j]
theorem mkAll_at (kind lba : Nat) (U : List Bk) : ∀ (j i : Nat) (hi : i < U.length), (mkAll kind lba U j)[i]'(by rw [mkAll_len]; exact hi) = if i < j then mk1 kind (lba + i) U[i] else U[i]
  | 0, i, hi => by rw [if_neg (by omega)]; rfl
  | j + 1, i, hi => by
    have ih := mkAll_at kind lba U j i hi
    simp only [mkAll, List.getElem_set]
    by_cases e : j = i
    · subst e
      rw [if_pos rfl, if_pos (by omega), List.getD_eq_getElem?_getD, List.getElem?_eq_getElem hi]; rfl
    · rw [if_neg e, ih]
      by_cases q : i < j
      · rw [if_pos q, if_pos (by omega)]
      · rw [if_neg q, if_neg (by omega)]
theorem mk1_cells (kind lba : Nat) (b : Bk) : tc (mk1 kind lba b).g (mk1 kind lba b).a (mk1 kind lba b).r = tc (c16 b.d) 0 (mkR kind lba) := rfl
theorem dev_come_spec {w : World} {dv ps kind : Nat} {c : Cm} {p : Sl} {l : L8} {N : Nat} {R : Sl → Array Value → Bool → World → Prop} (hd : Blk w dv (dvcells ps kind) t_sbc_Dev) (hp : Rd w 1 p (bv l)) (hb : p.n ≤ 140737488351232) (hlba : c.lba ≤ 4096) (hN : N ≤ 4096)
    (h1 : (l.length % szB (decide (c.prot ≠ 0)) ≠ 0 ∨ l.length / szB (decide (c.prot ≠ 0)) ≠ N) → ∀ u, Grow w u → R nilS (rsv 2 (badS 0x1a00) nilS).toArray false u)
    (h2 : l.length % 16 = 0 → l.length / 16 = N → c.prot = 0 → ∀ xs u, Grow w u → Own u w.heap.size t_api_Block 19 xs ((mkAll kind c.lba (unpB false l) N).flatMap bc) → R xs (rsv 0 sn0 nilS).toArray true u)
    (h3 : l.length % 24 = 0 → l.length / 24 = N → c.prot ≠ 0 → (∀ i (hi : i < (unpB true l).length), chkB kind c.prot (c.lba + i) (unpB true l)[i] = 0) → ∀ xs u, Grow w u → Own u w.heap.size t_api_Block 19 xs ((unpB true l).flatMap bc) → R xs (rsv 0 sn0 nilS).toArray true u)
    (h4 : l.length % 24 = 0 → l.length / 24 = N → c.prot ≠ 0 → ∀ i (hi : i < (unpB true l).length), chkB kind c.prot (c.lba + i) (unpB true l)[i] ≠ 0 → (∀ j (hj : j < i), chkB kind c.prot (c.lba + j) ((unpB true l)[j]'(by omega)) = 0) → ∀ u, Grow w u →
      R nilS (rsv 2 (atS 11 (chkB kind c.prot (c.lba + i) (unpB true l)[i]) (c.lba + i)) nilS).toArray false u) :
    Csbc_Dev_come (some ⟨dv, 0, none⟩) (cmv c).toArray p (N : Int) w R := by
  refine Fsbc_Dev_come.calls _ _ _ _ _ _ ?_
  refine new_rule fun cb w0 hcb hb0 hg0 hsz0 => ?_
  have hb0 : Blk w0 cb (cmv c).toArray t_api_Cmd := hb0
  refine new_rule fun ab w1 hab hb1 hg1 hsz1 => ?_
  have hgw1 := hg0.trans hg1
  have hc1 : Blk w1 cb (cmv c).toArray t_api_Cmd := hg1.heap hb0 (fun q => q)
  refine ⟨(c.prot : Int), by rw [add0, hc1.cell]; rfl, ?_⟩
  have ew : ((c.prot : Int) != 0) = decide (c.prot ≠ 0) := by rw [Bool.eq_iff_iff, bne_iff_ne, decide_eq_true_eq]; omega
  rw [ew]
  generalize hwt : decide (c.prot ≠ 0) = wt at *
  have hd1 := hgw1.heap hd (fun q => q)
  have hln := rd_n' hp
  refine unpack_spec (hp.grow hgw1) hb (fun q => br_t rfl (length_spec fun w2 hg2 => ret_rule (hg2.heap hb1 (fun q => q)) rfl fun w3 hk3 => h1 (.inl q) w3 (grow_new (hgw1.trans hg2) (by omega) hk3))) fun hm xs w2 hg2 hown2 => ?_
  have hgw2 := hgw1.trans hg2
  have hUl : (unpB wt l).length = l.length / szB wt := unpB_len wt l
  have hs16 : 16 ≤ szB wt := by unfold szB; split <;> decide
  have hdiv : l.length / szB wt ≤ l.length := Nat.div_le_self _ _
  have hown2 : Own w2 w.heap.size t_api_Block 19 xs ((unpB wt l).flatMap bc) := hown2.mono hgw1.size
  have hxn : xs.n = (unpB wt l).length := by have := hown2.len; rw [flat_bc_len] at this; omega
  rw [wu64 (n := (xs.n : Int)) (by omega) (by omega)]
  have hb2 : Blk w2 ab _ t_api_Result := hg2.heap hb1 (fun q => q)
  by_cases hN' : l.length / szB wt = N
  case neg =>
    refine br_t (by rw [Bool.or_eq_true, bne_iff_ne]; right; omega) (length_spec fun w3 hg3 => ret_rule (hg3.heap hb2 (fun q => q)) rfl fun w4 hk4 => h1 (.inr hN') w4 (grow_new (hgw2.trans hg3) (by omega) hk4))
  refine br_f (by rw [Bool.or_eq_false_iff, bne_eq_false_iff_eq]; exact ⟨rfl, by omega⟩) ?_
  generalize hU : unpB wt l = U at *
  have hc2 : Blk w2 cb (cmv c).toArray t_api_Cmd := hg2.heap hc1 (fun q => q)
  have hd2 : Blk w2 dv (dvcells ps kind) t_sbc_Dev := hg2.heap hd1 (fun q => q)
  have c2 : ∀ {v : World}, Blk v cb (cmv c).toArray t_api_Cmd → v.cell? ((⟨cb, 0, none⟩ : Addr).add 2) = some (.int .u64 (c.lba : Int)) := fun q => by rw [add0, q.cell]; rfl
  have c6 : ∀ {v : World}, Blk v cb (cmv c).toArray t_api_Cmd → v.cell? ((⟨cb, 0, none⟩ : Addr).add 6) = some (.int .u8 (c.prot : Int)) := fun q => by rw [add0, q.cell]; rfl
  have xblk : ∀ {v : World} {L : List Bk}, Own v w.heap.size t_api_Block 19 xs (L.flatMap bc) → ∀ {b : Nat} {cs : Array Value} {t : TypeId}, Blk v b cs t → t ≠ t_api_Block → xs.blk ≠ some b := fun ho b cs t hbb ht => own_ne ho hbb ht
  refine ⟨fun x v => ∃ j : Nat, x = j ∧ j ≤ U.length ∧ Grow w v ∧ Blk v cb (cmv c).toArray t_api_Cmd ∧ Blk v dv (dvcells ps kind) t_sbc_Dev ∧ Blk v ab _ t_api_Result ∧
      ((wt = false ∧ Own v w.heap.size t_api_Block 19 xs ((mkAll kind c.lba U j).flatMap bc)) ∨ (wt = true ∧ Own v w.heap.size t_api_Block 19 xs (U.flatMap bc) ∧ ∀ i (hi : i < U.length), i < j → chkB kind c.prot (c.lba + i) U[i] = 0)), fun x _ => U.length - x.toNat,
    ⟨0, rfl, Nat.zero_le _, hgw2, hc2, hd2, hb2, by cases wt with
      | false => exact .inl ⟨rfl, hown2⟩
      | true => exact .inr ⟨rfl, hown2, fun _ _ q => absurd q (Nat.not_lt_zero _)⟩⟩, ?_⟩
  rintro x v ⟨j, rfl, hj, hgv, hcv, hdv, hav, hcase⟩
  refine br_nat (fun hlt => ?_) (fun hge => ?_)
  · have hjU : j < U.length := by omega
    have e1 : IntKind.wrap .u64 ((c.lba : Int) + IntKind.wrap .u64 (j : Int)) = ((c.lba + j : Nat) : Int) := by
      rw [wu64 (n := (j : Int)) (by omega) (by omega), wu64 (by omega) (by omega)]; omega
    rw [w64 (n := (j : Int) + 1) (by omega) (by omega)]
    refine letX0 (fun y => Grow w y ∧ Blk y cb (cmv c).toArray t_api_Cmd ∧ Blk y dv (dvcells ps kind) t_sbc_Dev ∧ Blk y ab _ t_api_Result ∧
      ((wt = false ∧ Own y w.heap.size t_api_Block 19 xs ((mkAll kind c.lba U (j + 1)).flatMap bc)) ∨ (wt = true ∧ Own y w.heap.size t_api_Block 19 xs (U.flatMap bc) ∧ ∀ i (hi : i < U.length), i < j + 1 → chkB kind c.prot (c.lba + i) U[i] = 0)))
      (fun y hy => ⟨⟨j + 1, by omega, by omega, hy⟩, by dsimp only; omega⟩) (fun J => ⟨(c.lba : Int), c2 hcv, ?_⟩)
    rw [e1]
    rcases hcase with ⟨hwf, hown⟩ | ⟨hwt', hown, hall⟩
    · refine br_t (by rw [hwf]; rfl) ?_
      rintro w3 rfl
      have hg3 : Grow v v.drew := keep_drew v
      have hVl : (mkAll kind c.lba U j).length = U.length := mkAll_len _ _ _ _
      have hVj : (mkAll kind c.lba U j)[j]'(by omega) = U[j] := by rw [mkAll_at _ _ _ _ _ hjU, if_neg (by omega)]
      obtain ⟨a0, ha0, hc0⟩ := rd_bk_at (hown.rd (by omega)) (i := j) (by omega)
      rw [hVj] at hc0
      have bnd : (0 : Int) ≤ (j : Int) ∧ (j : Int) < (xs.n : Int) ∧ xs.A.isSome = true := ⟨by omega, by omega, by rw [ha0]; rfl⟩
      refine ⟨fun y => Grow v y, hg3, rfl, (kind : Int), fun y hy => dev1 (hy.heap hdv (fun q => q)), bnd, (bv U[j].d).toArray, fun y hy => ?_, ?_⟩
      · rw [ha0, Int.toNat_natCast]
        exact dLoad U[j].hd (cells_head (fun i x hx => hy.cell (hc0 i x hx) (fun q => q)))
      refine make_spec (app := 0) U[j].hd fun w4 hg4 => ⟨bnd, ?_⟩
      have hg14 := hg3.trans hg4
      have hown4 := hown.grow hg14
      rw [Int.toNat_natCast, addr_add]
      refine own_storeAt (o := j * 19 + 16) (cells := (tc (c16 U[j].d) 0 (mkR kind (c.lba + j))).toArray) hown4 i_api_Tuple rfl (by rw [flat_bc_len, hVl]; show j * 19 + 16 + 3 ≤ _; omega) (by show 0 < 3; decide) (by intro q hq; simp [tc] at hq; rcases hq with rfl | rfl | rfl <;> rfl) fun w5 hown5 hk5 _ => ?_
      have hfs := flat_set (l := mkAll kind c.lba U j) (j := j) (b := mk1 kind (c.lba + j) U[j]) (by omega) (by rw [hVj]; rfl)
      rw [mk1_cells] at hfs
      have hown5 : Own w5 w.heap.size t_api_Block 19 xs (((mkAll kind c.lba U j).flatMap bc).take (j * 19 + 16) ++ tc (c16 U[j].d) 0 (mkR kind (c.lba + j)) ++ ((mkAll kind c.lba U j).flatMap bc).drop (j * 19 + 16 + 3)) := hown5
      rw [hfs] at hown5
      have hnb : ∀ {b : Nat} {cs : Array Value} {t : TypeId}, Blk w4 b cs t → t ≠ t_api_Block → Blk w5 b cs t := fun hbb ht => hk5.heap hbb fun q => own_ne hown4 hbb ht q.symm
      refine J w5 ⟨own_grow' (hgv.trans hg14) hown4 (Nat.le_refl _) hk5, hnb (hg14.heap hcv (fun q => q)) (by decide), hnb (hg14.heap hdv (fun q => q)) (by decide), hnb (hg14.heap hav (fun q => q)) (by decide), .inl ⟨hwf, ?_⟩⟩
      have e2 : mkAll kind c.lba U (j + 1) = (mkAll kind c.lba U j).set j (mk1 kind (c.lba + j) U[j]) := by
        simp only [mkAll]; rw [List.getD_eq_getElem?_getD, List.getElem?_eq_getElem hjU]; rfl
      rw [e2]; exact hown5
    · refine br_f (by rw [hwt']; rfl) ?_
      rintro w3 rfl
      have hg3 : Grow v v.drew := keep_drew v
      obtain ⟨a0, ha0, hc0⟩ := rd_bk_at (hown.rd (by omega)) hjU
      have bnd : (0 : Int) ≤ (j : Int) ∧ (j : Int) < (xs.n : Int) ∧ xs.A.isSome = true := ⟨by omega, by omega, by rw [ha0]; rfl⟩
      refine ⟨fun y => Grow v y, hg3, rfl, (kind : Int), fun y hy => dev1 (hy.heap hdv (fun q => q)), (c.prot : Int), fun y hy => c6 (hy.heap hcv (fun q => q)), bnd, (bc U[j]).toArray, fun y hy => ?_, ?_⟩
      · rw [ha0, Int.toNat_natCast]
        exact bLoad (fun i x hx => hy.cell (hc0 i x hx) (fun q => q))
      refine check_b_spec fun w4 hg4 => ?_
      have hg14 := hg3.trans hg4
      subst hwt'
      have hp0 : c.prot ≠ 0 := by simpa using hwt
      by_cases hz : chkB kind c.prot (c.lba + j) U[j] = 0
      · refine br_f (by rw [hz]; rfl) (J w4 ⟨hgv.trans hg14, hg14.heap hcv (fun q => q), hg14.heap hdv (fun q => q), hg14.heap hav (fun q => q), .inr ⟨rfl, hown.grow hg14, fun i hi q => ?_⟩⟩)
        by_cases e : i = j
        · subst e; exact hz
        · exact hall i hi (by omega)
      · refine br_t (by rw [bne_iff_ne]; omega) (at_spec (key := 11) fun w5 hg5 => ?_)
        refine ret_rule ((hg14.trans hg5).heap hav (fun q => q)) rfl fun w6 hk6 => ?_
        subst hU
        exact h4 hm hN' hp0 j hjU hz (fun i hi => hall i (by omega) hi) w6 (grow_new ((hgv.trans hg14).trans hg5) (by omega) hk6)
  · have hjn : j = U.length := by omega
    refine ret_rule (st := 0) (s := sn0) (d := nilS) hav rfl fun w3 hk3 => ?_
    have hg3 := grow_new hgv (by omega) hk3
    have ok : ∀ {L : List Bk}, Own v w.heap.size t_api_Block 19 xs (L.flatMap bc) → Own w3 w.heap.size t_api_Block 19 xs (L.flatMap bc) := fun ho => ho.keep hk3 fun b hb q => own_ne ho hav (by decide) (by rw [hb, q])
    rcases hcase with ⟨hwf, hown⟩ | ⟨hwt', hown, hall⟩
    · subst hwf
      have hp0 : c.prot = 0 := by simpa using hwt
      subst hU
      rw [hjn, hUl, hN'] at hown
      exact h2 hm hN' hp0 xs w3 hg3 (ok hown)
    · subst hwt'
      have hp0 : c.prot ≠ 0 := by simpa using hwt
      subst hU
      exact h3 hm hN' hp0 (fun i hi => hall i hi (by omega)) xs w3 hg3 (ok hown)
end Go.Proofs.Ytaneeadpjelomaa

/- Layer 14: a command is done. -/
namespace Go.Proofs.Ytaneeadpjelomaa
open Go CF

def z10 : Array Value := #[.int .u8 0, .int .u8 0, .int .u16 0, .int .u64 0, .bool false, .int .i64 0, .int .i64 0, .bool false, .bool false, .slice none 0 0]
def unkS : Sn := ⟨5, 0x2400, 0, false, 1, 7, true, true⟩
def invS : Sn := ⟨5, 0x2000, 0, false, 0, 7, true, true⟩
/-- the blocks that a write lays -/
def cameB (kind : Nat) (c : Cm) (l : L8) (N : Nat) : List Bk := if c.prot = 0 then mkAll kind c.lba (unpB false l) N else unpB true l
theorem cameB_len {kind : Nat} {c : Cm} {l : L8} {N : Nat} (h : l.length / szB (decide (c.prot ≠ 0)) = N) : (cameB kind c l N).length = N := by
  unfold cameB
  split
  · rename_i q
    rw [mkAll_len, unpB_len]
    rw [decide_eq_false (by simpa using q)] at h
    exact h
  · rename_i q
    rw [unpB_len]
    rw [decide_eq_true (by simpa using q)] at h
    exact h
section
variable {w u : World} {dv ps pw : Nat} {file : ByteArray} {kind n : Nat} {cache : Bool} {D D' : Nat → Prop} {st st' : Wst} {bs bs' : List Bk} {m m' : Nat}
theorem Dvq.put {F : Int → Bool} (h : Dvq w dv ps pw file kind n cache D st bs m F) {ab : Nat} {cs : Array Value} {t : TypeId} (hb : Blk w ab cs t) (h1 : t ≠ t_uint8) (h2 : t ≠ t_sbc_Dev) (h3 : t ≠ t_store_Store) (hn : ¬ D ab) (hk : Keep (fun k => k = ab) w u) :
    Dvq u dv ps pw file kind n cache D st bs m F := by
  refine ⟨hk.heap h.dev fun q => ?_, hk.heap h.isS fun q => ?_, isWq_new h.isW hb h1 hn hk, h.nps, h.ndv, h.ok, h.tells, h.len, h.size, h.nm, h.kd, h.few⟩
  · have hd := h.dev
    rw [q] at hd
    exact h2 (blk_type hb hd)
  · have hd := h.isS
    rw [q] at hd
    exact h3 (blk_type hb hd)
theorem callK1_mono {P : Program} {f : FuncId} {args : Array Value} {w : World} {k : Kd} {R R' : k.T → World → Prop} (h : CallK P f args w [k] R) (hR : ∀ x w', R x w' → R' x w') : CallK P f args w [k] R' :=
  h.mono fun _ w' ⟨x, h1, h2⟩ => ⟨x, h1, by
    have h2 : R (k.un (k.mk x)) w' := h2
    show R' (k.un (k.mk x)) w'
    exact hR _ _ h2⟩
/-- what a command's own part leaves, in front of its last step -/
def wfS : Sn := ⟨3, 0x0c00, 0, false, 0, 0, false, false⟩
def Ends (D : Nat → Prop) (u : World) (ab : Nat) (R : Array Value → World → Prop) (g : Array Value) (v : World) : Prop :=
  Keep D u v ∧ ∃ (s : Nat) (sn : Sn) (d : Sl), g = (rsv s sn d).toArray ∧ ∀ v', Keep (fun k => k = ab) v v' → R g v'
theorem Ends.ret {ab : Nat} {R : Array Value → World → Prop} {g : Array Value} {v : World} (hb : Blk u ab z10 t_api_Result) (hn : ¬ D ab) (h : Ends D u ab R g v) :
    RunU Try.prog (storeVar t_api_Result ⟨ab, 0, none⟩ (.agg g)) v fun w' => ∃ res : Array Value, (loadVar t_api_Result ⟨ab, 0, none⟩).run Try.prog w' = .ok (.agg res) w' ∧ R res w' := by
  obtain ⟨h1, s, sn, d, rfl, h2⟩ := h
  exact ret_rule (h1.heap hb hn) rfl fun w' hk => h2 w' hk
/-- what the kinds of their own come to -/
def Part (D : Nat → Prop) (dv : Nat) (c : Cm) (p : Sl) (u : World) (K : Array Value → World → Prop) : Prop :=
  (c.kind = 10 → Csbc_Dev_verify (some ⟨dv, 0, none⟩) (cmv c).toArray p u K) ∧ (c.kind = 12 → Csbc_Dev_same (some ⟨dv, 0, none⟩) (cmv c).toArray p u K) ∧ (c.kind = 13 → Csbc_Dev_unmap (some ⟨dv, 0, none⟩) p u K) ∧
  (c.kind = 14 → Csbc_Dev_compare (some ⟨dv, 0, none⟩) (cmv c).toArray p u K) ∧ (c.kind = 6 → Csbc_Dev_capacity (some ⟨dv, 0, none⟩) (cmv c).toArray u K)
theorem known_spec {kind prot : Nat} {w : World} {R : Bool → World → Prop} (h : R (knownB kind prot) w) : Cpi_Known (kind : Int) (prot : Int) w R := by
  refine Fpi_Known.calls _ _ _ _ ?_
  have e : (decide ((kind : Int) ≤ 3) && (((prot : Int) == 0) || (decide ((kind : Int) > 0) && decide ((prot : Int) ≤ 4)))) = knownB kind prot := by
    unfold knownB
    rw [Bool.eq_iff_iff]
    simp only [Bool.and_eq_true, Bool.or_eq_true, decide_eq_true_eq, beq_iff_eq]
    omega
  unfold Fpi_Known
  rw [e]
  exact h
theorem do_plan {F : Int → Bool} {c : Cm} {p : Sl} {l : L8} {R : Array Value → World → Prop} (h : Dvq w dv ps pw file kind n cache D st bs m F) (hm : m ≤ 1000000) (hp : Rd w 1 p (bv l)) (hb : p.n ≤ 140737488351232) (hlb : c.lba < 18446744073709551616) (hbl : c.blocks < 18446744073709551616)
    (hunk : knownB kind c.prot = false → ∀ u, Grow w u → R (rsv 2 unkS nilS).toArray u)
    (hout : knownB kind c.prot = true → c.kind ≠ 13 → c.kind ≠ 6 → n < c.lba + c.blocks → ∀ u, Grow w u → R (rsv 2 (atS 5 0x2100 c.lba) nilS).toArray u)
    (h7 : (∀ i : Nat, i < c.blocks → F ((st.ops + i : Nat) : Int) = false) → knownB kind c.prot = true → c.kind = 7 → c.lba + c.blocks ≤ n → (∀ i (hi : i < ((bs.drop c.lba).take c.blocks).length), chkB kind c.prot (c.lba + i) ((bs.drop c.lba).take c.blocks)[i] = 0) → ∀ d u, Keep D w u → RdW w u pw D st c.blocks →
      Own u w.heap.size t_uint8 1 d (bv (packB (decide (c.prot ≠ 0)) ((bs.drop c.lba).take c.blocks))) → R (rsv 0 sn0 d).toArray u)
    (h7b : (∀ i : Nat, i < c.blocks → F ((st.ops + i : Nat) : Int) = false) → knownB kind c.prot = true → c.kind = 7 → c.lba + c.blocks ≤ n → ∀ i (hi : i < ((bs.drop c.lba).take c.blocks).length), chkB kind c.prot (c.lba + i) ((bs.drop c.lba).take c.blocks)[i] ≠ 0 → ∀ u, Keep D w u → RdW w u pw D st c.blocks →
      R (rsv 2 (atS 11 (chkB kind c.prot (c.lba + i) ((bs.drop c.lba).take c.blocks)[i]) (c.lba + i)) nilS).toArray u)
    (h8l : knownB kind c.prot = true → (c.kind = 8 ∨ c.kind = 9) → c.lba + c.blocks ≤ n → (l.length % szB (decide (c.prot ≠ 0)) ≠ 0 ∨ l.length / szB (decide (c.prot ≠ 0)) ≠ c.blocks) → ∀ u, Grow w u → R (rsv 2 (badS 0x1a00) nilS).toArray u)
    (h8b : knownB kind c.prot = true → (c.kind = 8 ∨ c.kind = 9) → c.lba + c.blocks ≤ n → c.prot ≠ 0 → l.length % 24 = 0 → l.length / 24 = c.blocks → ∀ i (hi : i < (unpB true l).length), chkB kind c.prot (c.lba + i) (unpB true l)[i] ≠ 0 → (∀ j (hj : j < i), chkB kind c.prot (c.lba + j) ((unpB true l)[j]'(by omega)) = 0) → ∀ u, Grow w u →
      R (rsv 2 (atS 11 (chkB kind c.prot (c.lba + i) (unpB true l)[i]) (c.lba + i)) nilS).toArray u)
    (h8 : (∀ i : Nat, i < c.blocks + (if syncs c.blocks (c.fua || decide (c.kind = 9)) cache then 1 else 0) → F ((st.ops + i : Nat) : Int) = false) → knownB kind c.prot = true → (c.kind = 8 ∨ c.kind = 9) → c.lba + c.blocks ≤ n → l.length % szB (decide (c.prot ≠ 0)) = 0 → l.length / szB (decide (c.prot ≠ 0)) = c.blocks → (c.prot ≠ 0 → ∀ i (hi : i < (unpB true l).length), chkB kind c.prot (c.lba + i) (unpB true l)[i] = 0) →
      ∀ u D', Keep D w u → Dvq u dv ps pw file kind n cache D' (syncIf (syncs c.blocks (c.fua || decide (c.kind = 9)) cache) (layW st file c.lba (rsOf (cameB kind c l c.blocks)) c.blocks)) (setAll bs c.lba (cameB kind c l c.blocks) c.blocks) (m + c.blocks + 1) F →
      (∀ k, D' k → D k ∨ w.heap.size ≤ k) → R (rsv 0 sn0 nilS).toArray u)
    (h11 : F (st.ops : Int) = false → knownB kind c.prot = true → c.kind = 11 → c.lba + c.blocks ≤ n → ∀ u D', Keep D w u → Dvq u dv ps pw file kind n cache D' (synced st) bs (m + 1) F → (∀ k, D' k → D k ∨ w.heap.size ≤ k) → R (rsv 0 sn0 nilS).toArray u)
    (hpart : knownB kind c.prot = true → (c.kind = 13 ∨ c.kind = 6 ∨ c.lba + c.blocks ≤ n) → ∀ ab u, Grow w u → w.heap.size ≤ ab → Blk u ab z10 t_api_Result → Part D dv c p u (Ends D u ab R))
    (f7 : knownB kind c.prot = true → c.kind = 7 → c.lba + c.blocks ≤ n → ∀ k : Nat, k < c.blocks → (∀ i : Nat, i < k → F ((st.ops + i : Nat) : Int) = false) → F ((st.ops + k : Nat) : Int) = true → ∀ u, Keep D w u → RdW w u pw D st (k + 1) → R (rsv 2 (atS 3 0x1100 (c.lba + k)) nilS).toArray u)
    (f8 : knownB kind c.prot = true → (c.kind = 8 ∨ c.kind = 9) → c.lba + c.blocks ≤ n → l.length % szB (decide (c.prot ≠ 0)) = 0 → l.length / szB (decide (c.prot ≠ 0)) = c.blocks → (c.prot ≠ 0 → ∀ i (hi : i < (unpB true l).length), chkB kind c.prot (c.lba + i) (unpB true l)[i] = 0) →
      ∀ k : Nat, k < c.blocks + (if syncs c.blocks (c.fua || decide (c.kind = 9)) cache then 1 else 0) → (∀ i : Nat, i < k → F ((st.ops + i : Nat) : Int) = false) → F ((st.ops + k : Nat) : Int) = true →
      ∀ u D', Keep D w u → Dvq u dv ps pw file kind n cache D' { layW st file c.lba (rsOf (cameB kind c l c.blocks)) k with ops := st.ops + k + 1 } (setAll bs c.lba (cameB kind c l c.blocks) k) (m + c.blocks + 1) F → (∀ k, D' k → D k ∨ w.heap.size ≤ k) → R (rsv 2 (atS 3 0x0c00 (c.lba + k)) nilS).toArray u)
    (f11 : knownB kind c.prot = true → c.kind = 11 → c.lba + c.blocks ≤ n → F (st.ops : Int) = true → ∀ u, Keep D w u → Dvq u dv ps pw file kind n cache D { st with ops := st.ops + 1 } bs (m + 1) F → R (rsv 2 wfS nilS).toArray u)
    (hinv : knownB kind c.prot = true → c.kind ≠ 7 → c.kind ≠ 8 → c.kind ≠ 9 → c.kind ≠ 10 → c.kind ≠ 11 → c.kind ≠ 12 → c.kind ≠ 13 → c.kind ≠ 14 → c.kind ≠ 6 → ∀ u, Grow w u → R (rsv 2 invS nilS).toArray u) :
    Csbc_Dev_Do (some ⟨dv, 0, none⟩) (cmv c).toArray p w R := by
  refine Fsbc_Dev_Do.calls _ _ _ _ _ ?_
  have hsz := h.size
  have hlen := h.len
  have hfew := h.few
  refine new_rule fun cb w0 hcb hb0 hg0 hsz0 => ?_
  have hb0 : Blk w0 cb (cmv c).toArray t_api_Cmd := hb0
  refine new_rule fun ab w1 hab hb1 hg1 hsz1 => ?_
  have hb1 : Blk w1 ab z10 t_api_Result := hb1
  have hgw1 := hg0.trans hg1
  have hc1 : Blk w1 cb (cmv c).toArray t_api_Cmd := hg1.heap hb0 (fun q => q)
  have hD1 := h.grow hgw1
  have cAt : ∀ {v : World} {i : Nat} {x : Value}, Grow w1 v → (cmv c).toArray[i]? = some x → v.cell? ((⟨cb, 0, none⟩ : Addr).add i) = some x := fun g e => by rw [add0, Blk.cell (g.heap hc1 (fun q => q)), Nat.zero_add]; exact e
  have nab : ¬ D ab := fun q => by have := h.isW.lt q; omega
  have ncb : ¬ D cb := fun q => by have := h.isW.lt q; omega
  have sw := hg0.size
  have ret : ∀ {v : World} {s : Nat} {sn : Sn} {d : Sl}, Grow w1 v → (∀ v', Keep (fun k => k = ab) v v' → R (rsv s sn d).toArray v') →
      RunU Try.prog (storeVar t_api_Result ⟨ab, 0, none⟩ (.agg (rsv s sn d).toArray)) v fun w' => ∃ res : Array Value, (loadVar t_api_Result ⟨ab, 0, none⟩).run Try.prog w' = .ok (.agg res) w' ∧ R res w' := fun g hR => ret_rule (g.heap hb1 (fun q => q)) rfl hR
  have gn : ∀ {v v' : World}, Grow w1 v → Keep (fun k => k = ab) v v' → Grow w v' := fun g k => grow_new (hgw1.trans g) (by omega) k
  refine ⟨fun _ => rfl, some ⟨ps, 0, none⟩, fun _ => dev0 hD1.dev, br_f rfl ?_⟩
  rintro w2 rfl
  have hg2 : Grow w1 w1.drew := keep_drew w1
  refine ⟨fun v => Grow w1 v, hg2, rfl, (kind : Int), fun v hv => dev1 (hD1.grow hv).dev, (c.prot : Int), fun v hv => cAt hv rfl, known_spec ?_⟩
  cases hkn : knownB kind c.prot with
  | false => exact br_t rfl (fails_spec (s := unkS) fun w3 hg3 => ret (hg2.trans hg3) fun v' hk => hunk hkn v' (gn (hg2.trans hg3) hk))
  | true =>
  refine br_f rfl ?_
  rintro w3 rfl
  have hg3 : Grow w1 w1.drew.drew := hg2.trans (keep_drew _)
  refine ⟨fun v => Grow w1 v, hg3, (c.lba : Int), fun v hv => cAt hv rfl, (c.blocks : Int), fun v hv => cAt hv rfl, blocks_spec (hD1.grow hg3) ⟨hg3, ?_⟩⟩
  refine within_spec hlb hbl (by omega) ⟨hg3, fun v => Grow w1 v, hg3, fun _ q => q, (c.kind : Int), fun _ v hv => cAt hv rfl, fun v => Grow w1 v, hg3, fun _ q => q, (c.kind : Int), fun _ v hv => cAt hv rfl, ?_⟩
  by_cases hin : c.kind = 13 ∨ c.kind = 6 ∨ c.lba + c.blocks ≤ n
  case neg =>
    refine br_t (by rw [Bool.and_eq_true, Bool.and_eq_true, Bool.not_eq_true', decide_eq_false_iff_not, bne_iff_ne, bne_iff_ne]; omega) ⟨(c.lba : Int), cAt hg3 rfl, at_spec (key := 5) fun w4 hg4 => ret (hg3.trans hg4) fun v' hk => hout hkn (by omega) (by omega) (by omega) v' (gn (hg3.trans hg4) hk)⟩
  refine br_f (by rw [Bool.and_eq_false_iff, Bool.and_eq_false_iff, Bool.not_eq_false', decide_eq_true_eq, bne_eq_false_iff_eq, bne_eq_false_iff_eq]; omega) ⟨(c.kind : Int), cAt hg3 rfl, ?_⟩
  generalize w1.drew.drew = w3 at *
  have hpt := hpart hkn hin ab w3 (hgw1.trans hg3) (by omega) (hg3.heap hb1 (fun q => q))
  have hb3 : Blk w3 ab z10 t_api_Result := hg3.heap hb1 (fun q => q)
  have hc3 : Blk w3 cb (cmv c).toArray t_api_Cmd := hg3.heap hc1 (fun q => q)
  have cl : (loadVar t_api_Cmd ⟨cb, 0, none⟩).run Try.prog w3 = .ok (.agg (cmv c).toArray) w3 := cLoad (blk_cells hc3)
  have hgw3 := hgw1.trans hg3
  have h3 := h.grow hgw3
  refine letX0 (fun v => v = w3 ∧ c.kind ≠ 7 ∧ c.kind ≠ 8 ∧ c.kind ≠ 9 ∧ c.kind ≠ 10 ∧ c.kind ≠ 11 ∧ c.kind ≠ 12 ∧ c.kind ≠ 13 ∧ c.kind ≠ 14 ∧ c.kind ≠ 6) ?_ (fun J => ?_)
  · rintro v ⟨rfl, a1, a2, a3, a4, a5, a6, a7, a8, a9⟩
    exact fails_spec (s := invS) fun w4 hg4 => ret (hg3.trans hg4) fun v' hk => hinv hkn a1 a2 a3 a4 a5 a6 a7 a8 a9 v' (gn (hg3.trans hg4) hk)
  refine br_eq (fun k7 => ⟨_, cl, ?_⟩) (fun k7 => ?_)
  · have k7 : c.kind = 7 := by omega
    have hlb7 : c.lba + c.blocks ≤ n := by omega
    refine dev_read_any h3 hm hlb7 (fun hfl hchk xs w4 hk4 hw4 hown4 => ?_) (fun hfl i hi hz w4 hk4 hw4 => ?_) (fun k hkl hfl hf w4 hk4 hw4 => ?_)
    · refine new_rule fun rb w5 hrb hb5 hg5 hsz5 => ?_
      refine lay_rule hb5 rfl fun w6 hb6 hk6 hsz6 => br_f rfl ?_
      have hg46 : Grow w4 w6 := hg5.keep hk6 fun i hi q => by omega
      have hc6 : Blk w6 cb (cmv c).toArray t_api_Cmd := hg46.heap (hk4.heap hc3 ncb) (fun q => q)
      have hb6' : Blk w6 ab z10 t_api_Result := hg46.heap (hk4.heap hb3 nab) (fun q => q)
      refine ⟨(c.prot : Int), by rw [add0, hc6.cell]; rfl, ?_⟩
      have ew : ((c.prot : Int) != 0) = decide (c.prot ≠ 0) := by rw [Bool.eq_iff_iff, bne_iff_ne, decide_eq_true_eq]; omega
      rw [ew]
      have hown6 := hown4.grow hg46
      have hLl : ((bs.drop c.lba).take c.blocks).length ≤ 4096 := by rw [List.length_take, List.length_drop]; omega
      refine pack_spec (hown6.rd (by have := hown6.len; rw [flat_bc_len] at this; omega)) hLl fun d w7 hown7 hg7 => good_spec fun w8 hg8 => ?_
      have hb8 : Blk w8 ab z10 t_api_Result := (hg7.trans hg8).heap hb6' (fun q => q)
      refine ret_rule hb8 rfl fun w9 hk9 => ?_
      have hkD : Keep D w w8 := ((((hgw3.mono fun _ _ q => q.elim).trans hk4 fun _ _ q => q).grow hg46).grow hg7).grow hg8
      have s4 := hk4.size
      have s46 := hg46.size
      refine h7 hfl hkn k7 hlb7 hchk d w9 (keepD_new hkD (by omega) hk9) (rdW_new ((((hw4.pre hgw3).grow hg46).grow hg7).grow hg8) hb8 tne_result nab hk9) ?_
      have ho8 : Own w8 w.heap.size t_uint8 1 d _ := (hown7.mono (by have := hgw3.size; omega)).grow hg8
      exact ho8.keep hk9 fun b hbb q => own_ne ho8 hb8 (by decide) (by rw [hbb, q])
    · refine new_rule fun rb w5 hrb hb5 hg5 hsz5 => ?_
      refine lay_rule hb5 rfl fun w6 hb6 hk6 hsz6 => br_t rfl ⟨_, rLoad (blk_cells hb6), ?_⟩
      have hg46 : Grow w4 w6 := hg5.keep hk6 fun i hi q => by omega
      have hb6' : Blk w6 ab z10 t_api_Result := hg46.heap (hk4.heap hb3 nab) (fun q => q)
      refine ret_rule hb6' rfl fun w7 hk7 => ?_
      exact h7b hfl hkn k7 hlb7 i hi hz w7 (keepD_new (((hgw3.mono fun _ _ q => q.elim).trans hk4 fun _ _ q => q).grow hg46) (by omega) hk7) (rdW_new ((hw4.pre hgw3).grow hg46) hb6' tne_result nab hk7)
    · refine new_rule fun rb w5 hrb hb5 hg5 hsz5 => ?_
      refine lay_rule hb5 rfl fun w6 hb6 hk6 hsz6 => br_t rfl ⟨_, rLoad (blk_cells hb6), ?_⟩
      have hg46 : Grow w4 w6 := hg5.keep hk6 fun i hi q => by omega
      have hb6' : Blk w6 ab z10 t_api_Result := hg46.heap (hk4.heap hb3 nab) (fun q => q)
      refine ret_rule hb6' rfl fun w7 hk7 => ?_
      exact f7 hkn k7 hlb7 k hkl hfl hf w7 (keepD_new (((hgw3.mono fun _ _ q => q.elim).trans hk4 fun _ _ q => q).grow hg46) (by omega) hk7) (rdW_new ((hw4.pre hgw3).grow hg46) hb6' tne_result nab hk7)
  refine letX1 (fun (x : Bool) v => v = w3 ∧ (x = true ↔ (c.kind = 8 ∨ c.kind = 9))) ?_ (fun J1 => br_eq (fun k8 => J1 _ _ ⟨rfl, by rw [beq_iff_eq]; omega⟩) (fun k8 => J1 _ _ ⟨rfl, by rw [beq_iff_eq]; omega⟩))
  rintro x v ⟨rfl, hx⟩
  by_cases k89 : c.kind = 8 ∨ c.kind = 9
  · refine br_t (hx.2 k89) ⟨_, cl, (c.blocks : Int), by rw [add0, hc3.cell]; rfl, ?_⟩
    have hlb8 : c.lba + c.blocks ≤ n := by omega
    have bad : ∀ {y : World} {sn : Sn}, Grow v y → (∀ z, Grow w z → R (rsv 2 sn nilS).toArray z) → _ := fun {y sn} hy hR => True.intro
    have after : ∀ {y : World} {sn : Sn}, Grow v y → (∀ z, Grow w z → R (rsv 2 sn nilS).toArray z) → ∀ rb z, rb = y.heap.size → Blk z rb (rsv 2 sn nilS).toArray t_api_Result → Grow y z →
        ∃ g10 : Array Value, (loadVar t_api_Result ⟨rb, 0, none⟩).run Try.prog z = .ok (.agg g10) z ∧ RunU Try.prog (storeVar t_api_Result ⟨ab, 0, none⟩ (.agg g10)) z fun w028 => ∃ res6 : Array Value, (loadVar t_api_Result ⟨ab, 0, none⟩).run Try.prog w028 = .ok (.agg res6) w028 ∧ R res6 w028 := by
      intro y sn hy hR rb z hrb hbz hyz
      refine ⟨_, rLoad (blk_cells hbz), ret_rule ((hy.trans hyz).heap hb3 (fun q => q)) rfl fun z' hk' => hR z' (grow_new ((hgw3.trans hy).trans hyz) (by omega) hk')⟩
    have okw : ∀ xs y, Grow v y → l.length % szB (decide (c.prot ≠ 0)) = 0 → l.length / szB (decide (c.prot ≠ 0)) = c.blocks → (c.prot ≠ 0 → ∀ i (hi : i < (unpB true l).length), chkB kind c.prot (c.lba + i) (unpB true l)[i] = 0) →
        Own y v.heap.size t_api_Block 19 xs ((cameB kind c l c.blocks).flatMap bc) → ∀ rb z, rb = y.heap.size → Blk z rb (rsv 0 sn0 nilS).toArray t_api_Result → Grow y z →
        ∃ n11 : Int, z.cell? ((⟨cb, 0, none⟩ : Addr).add 2) = some (.int .u64 n11) ∧ ∃ b4 : Bool, z.cell? ((⟨cb, 0, none⟩ : Addr).add 5) = some (.bool b4) ∧ ∃ n12 : Int, ((!b4) = true → z.cell? ((⟨cb, 0, none⟩ : Addr).add 0) = some (.int .u8 n12)) ∧
          Csbc_Dev_write (some ⟨dv, 0, none⟩) n11 xs (b4 || (n12 == 9)) z fun g11 w029 => RunU Try.prog (storeVar t_api_Result ⟨ab, 0, none⟩ (.agg g11)) w029 fun w030 => ∃ res7 : Array Value, (loadVar t_api_Result ⟨ab, 0, none⟩).run Try.prog w030 = .ok (.agg res7) w030 ∧ R res7 w030 := by
      intro xs y hy hm1 hm2 hck hown rb z hrb hbz hyz
      have hvz := hy.trans hyz
      have hcz : Blk z cb (cmv c).toArray t_api_Cmd := hvz.heap hc3 (fun q => q)
      refine ⟨(c.lba : Int), by rw [add0, hcz.cell]; rfl, c.fua, by rw [add0, hcz.cell]; rfl, (c.kind : Int), fun _ => by rw [add0, hcz.cell]; rfl, ?_⟩
      have e9 : ((c.kind : Int) == 9) = decide (c.kind = 9) := by
        rw [Bool.eq_iff_iff, beq_iff_eq, decide_eq_true_eq]; omega
      rw [e9]
      have hLl := cameB_len (kind := kind) hm2
      have hz := h3.grow hvz
      have lD := fun k (q : D k) => h.isW.lt q
      have svz := hvz.size
      refine dev_write_any (L := cameB kind c l c.blocks) hz hm (by omega) (fun z' hk' => ?_) (fun hfl z2 D2 hk2 hd2 hD2 => ?_) (fun k hkl hfl hf z2 D2 hk2 hd2 hD2 => ?_)
      · have ho : Own z' v.heap.size t_api_Block 19 xs ((cameB kind c l c.blocks).flatMap bc) := (hown.grow hyz).keep hk' fun b hbb q => by
          have := ((hown.grow hyz).ge b hbb).1
          have := lD _ q
          have := hgw3.size
          omega
        exact ho.rd (by have := ho.len; rw [flat_bc_len] at this; omega)
      · rw [hLl] at hd2 hfl
        have hbz2 : Blk z2 ab z10 t_api_Result := hk2.heap (hvz.heap hb3 (fun q => q)) nab
        have nab2 : ¬ D2 ab := fun q => by
          rcases hD2 _ q with r | r
          · exact nab r
          · have := lt_of_heap hb3; omega
        refine ret_rule (st := 0) (s := sn0) (d := nilS) hbz2 rfl fun z3 hk3 => ?_
        have hkD : Keep D w z2 := ((hgw3.trans hvz).mono fun _ _ q => q.elim).trans hk2 fun _ _ q => q
        have s3 := hgw3.size
        refine h8 hfl hkn k89 hlb8 hm1 hm2 hck z3 D2 (keepD_new hkD (by omega) hk3) ?_ (fun k q => ?_)
        · exact hd2.put hbz2 tne_result (by decide) (by decide) nab2 hk3
        · rcases hD2 k q with r | r
          · exact .inl r
          · exact .inr (by omega)
      · rw [hLl] at hd2 hkl
        have hbz2 : Blk z2 ab z10 t_api_Result := hk2.heap (hvz.heap hb3 (fun q => q)) nab
        have nab2 : ¬ D2 ab := fun q => by
          rcases hD2 _ q with r | r
          · exact nab r
          · have := lt_of_heap hb3; omega
        refine ret_rule hbz2 rfl fun z3 hk3 => ?_
        have hkD : Keep D w z2 := ((hgw3.trans hvz).mono fun _ _ q => q.elim).trans hk2 fun _ _ q => q
        have s3 := hgw3.size
        refine f8 hkn k89 hlb8 hm1 hm2 hck k hkl hfl hf z3 D2 (keepD_new hkD (by omega) hk3) ?_ (fun k q => ?_)
        · exact hd2.put hbz2 tne_result (by decide) (by decide) nab2 hk3
        · rcases hD2 k q with r | r
          · exact .inl r
          · exact .inr (by omega)
    refine dev_come_spec (N := c.blocks) h3.dev (hp.grow hgw3) hb (by omega) (by omega) (fun q y hy => ?_) (fun q1 q2 q3 xs y hy hown => ?_) (fun q1 q2 q3 q4 xs y hy hown => ?_) (fun q1 q2 q3 i hi hz hall y hy => ?_)
    · refine new_rule fun rb w5 hrb hb5 hg5 hsz5 => lay_rule hb5 rfl fun w6 hb6 hk6 hsz6 => br_t rfl ?_
      exact after hy (h8l hkn k89 hlb8 q) rb w6 hrb hb6 (hg5.keep hk6 fun i hi q => by omega)
    · refine new_rule fun rb w5 hrb hb5 hg5 hsz5 => lay_rule hb5 rfl fun w6 hb6 hk6 hsz6 => br_f rfl ?_
      have e0 : decide (c.prot ≠ 0) = false := by simpa using q3
      refine okw xs y hy (by rw [e0]; exact q1) (by rw [e0]; exact q2) (fun e => absurd q3 e) ?_ rb w6 hrb hb6 (hg5.keep hk6 fun i hi q => by omega)
      unfold cameB; rw [if_pos q3]; exact hown
    · refine new_rule fun rb w5 hrb hb5 hg5 hsz5 => lay_rule hb5 rfl fun w6 hb6 hk6 hsz6 => br_f rfl ?_
      have e0 : decide (c.prot ≠ 0) = true := by simpa using q3
      refine okw xs y hy (by rw [e0]; exact q1) (by rw [e0]; exact q2) (fun _ => q4) ?_ rb w6 hrb hb6 (hg5.keep hk6 fun i hi q => by omega)
      unfold cameB; rw [if_neg q3]; exact hown
    · refine new_rule fun rb w5 hrb hb5 hg5 hsz5 => lay_rule hb5 rfl fun w6 hb6 hk6 hsz6 => br_t rfl ?_
      exact after hy (h8b hkn k89 hlb8 q3 q1 q2 i hi hz hall) rb w6 hrb hb6 (hg5.keep hk6 fun i hi q => by omega)
  refine br_f (by cases hxx : x with | false => rfl | true => exact absurd (hx.1 hxx) k89) ?_
  refine br_eq (fun k => ⟨_, cl, ?_⟩) (fun k10 => br_eq (fun k => ?_) (fun k11 => br_eq (fun k => ⟨_, cl, ?_⟩) (fun k12 => br_eq (fun k => ?_) (fun k13 => br_eq (fun k => ⟨_, cl, ?_⟩) (fun k14 => br_eq (fun k => ⟨_, cl, ?_⟩) (fun k6 => J v ⟨rfl, by omega, by omega, by omega, by omega, by omega, by omega, by omega, by omega, by omega⟩))))))
  · exact callK1_mono (hpt.1 (by omega)) fun g y hy => hy.ret hb3 nab
  · have k11' : c.kind = 11 := by omega
    refine ⟨rfl, some ⟨ps, 0, none⟩, dev0 h3.dev, ?_⟩
    refine store_sync_any h3.isS h3.nps h3.isW h.ok (by omega) (by omega) (fun hfl y D2 hk2 hw2 hD2 hS2 => br_f rfl (good_spec fun z hz => ?_)) (fun hfl y hk2 hw2 hS2 => br_t rfl (fails_spec (s := wfS) fun z hz => ?_))
    case refine_2 =>
      have hbz : Blk z ab z10 t_api_Result := hz.heap (hk2.heap hb3 nab) (fun q => q)
      refine ret_rule hbz rfl fun z2 hk3 => ?_
      have hkD : Keep D w y := (hgw3.mono fun _ _ q => q.elim).trans hk2 fun _ _ q => q
      have s3 := hgw3.size
      have hdy : Dvq y dv ps pw file kind n cache D { st with ops := st.ops + 1 } bs (m + 1) F := h.step hkD hw2 (fun _ q => .inl q) h.ok h.tells h.len (by
        show st.ops + 1 ≤ _ ∧ st.waits.length ≤ _
        omega)
      exact f11 hkn k11' (by omega) hfl z2 (keepD_new (hkD.grow hz) (by omega) hk3) ((hdy.grow hz).put hbz tne_result (by decide) (by decide) nab hk3)
    have nab2 : ¬ D2 ab := fun q => by
      rcases hD2 _ q with r | r
      · exact nab r
      · have := lt_of_heap hb3; omega
    have hbz : Blk z ab z10 t_api_Result := hz.heap (hk2.heap hb3 nab) (fun q => q)
    refine ret_rule (st := 0) (s := sn0) (d := nilS) hbz rfl fun z2 hk3 => ?_
    have hkD : Keep D w y := (hgw3.mono fun _ _ q => q.elim).trans hk2 fun _ _ q => q
    have s3 := hgw3.size
    have hDD : ∀ k, D2 k → D k ∨ w.heap.size ≤ k := fun k q => by
      rcases hD2 k q with r | r
      · exact .inl r
      · exact .inr (by omega)
    have hdy : Dvq y dv ps pw file kind n cache D2 (synced st) bs (m + 1) F := h.step hkD hw2 hDD (fun c hc => by cases hc) h.tells h.len (by
      show st.ops + 1 ≤ _ ∧ 0 ≤ _
      omega)
    exact h11 hfl hkn k11' (by omega) z2 D2 (keepD_new (hkD.grow hz) (by omega) hk3) ((hdy.grow hz).put hbz tne_result (by decide) (by decide) nab2 hk3) hDD
  · exact callK1_mono (hpt.2.1 (by omega)) fun g y hy => hy.ret hb3 nab
  · exact callK1_mono (hpt.2.2.1 (by omega)) fun g y hy => hy.ret hb3 nab
  · exact callK1_mono (hpt.2.2.2.1 (by omega)) fun g y hy => hy.ret hb3 nab
  · exact callK1_mono (hpt.2.2.2.2 (by omega)) fun g y hy => hy.ret hb3 nab
theorem do_spec {c : Cm} {p : Sl} {l : L8} {R : Array Value → World → Prop} (h : Dv w dv ps pw file kind n cache D st bs m) (hm : m ≤ 1000000) (hp : Rd w 1 p (bv l)) (hb : p.n ≤ 140737488351232) (hlb : c.lba < 18446744073709551616) (hbl : c.blocks < 18446744073709551616)
    (hunk : knownB kind c.prot = false → ∀ u, Grow w u → R (rsv 2 unkS nilS).toArray u)
    (hout : knownB kind c.prot = true → c.kind ≠ 13 → c.kind ≠ 6 → n < c.lba + c.blocks → ∀ u, Grow w u → R (rsv 2 (atS 5 0x2100 c.lba) nilS).toArray u)
    (h7 : knownB kind c.prot = true → c.kind = 7 → c.lba + c.blocks ≤ n → (∀ i (hi : i < ((bs.drop c.lba).take c.blocks).length), chkB kind c.prot (c.lba + i) ((bs.drop c.lba).take c.blocks)[i] = 0) → ∀ d u, Keep D w u → RdW w u pw D st c.blocks →
      Own u w.heap.size t_uint8 1 d (bv (packB (decide (c.prot ≠ 0)) ((bs.drop c.lba).take c.blocks))) → R (rsv 0 sn0 d).toArray u)
    (h7b : knownB kind c.prot = true → c.kind = 7 → c.lba + c.blocks ≤ n → ∀ i (hi : i < ((bs.drop c.lba).take c.blocks).length), chkB kind c.prot (c.lba + i) ((bs.drop c.lba).take c.blocks)[i] ≠ 0 → ∀ u, Keep D w u → RdW w u pw D st c.blocks →
      R (rsv 2 (atS 11 (chkB kind c.prot (c.lba + i) ((bs.drop c.lba).take c.blocks)[i]) (c.lba + i)) nilS).toArray u)
    (h8l : knownB kind c.prot = true → (c.kind = 8 ∨ c.kind = 9) → c.lba + c.blocks ≤ n → (l.length % szB (decide (c.prot ≠ 0)) ≠ 0 ∨ l.length / szB (decide (c.prot ≠ 0)) ≠ c.blocks) → ∀ u, Grow w u → R (rsv 2 (badS 0x1a00) nilS).toArray u)
    (h8b : knownB kind c.prot = true → (c.kind = 8 ∨ c.kind = 9) → c.lba + c.blocks ≤ n → c.prot ≠ 0 → l.length % 24 = 0 → l.length / 24 = c.blocks → ∀ i (hi : i < (unpB true l).length), chkB kind c.prot (c.lba + i) (unpB true l)[i] ≠ 0 → (∀ j (hj : j < i), chkB kind c.prot (c.lba + j) ((unpB true l)[j]'(by omega)) = 0) → ∀ u, Grow w u →
      R (rsv 2 (atS 11 (chkB kind c.prot (c.lba + i) (unpB true l)[i]) (c.lba + i)) nilS).toArray u)
    (h8 : knownB kind c.prot = true → (c.kind = 8 ∨ c.kind = 9) → c.lba + c.blocks ≤ n → l.length % szB (decide (c.prot ≠ 0)) = 0 → l.length / szB (decide (c.prot ≠ 0)) = c.blocks → (c.prot ≠ 0 → ∀ i (hi : i < (unpB true l).length), chkB kind c.prot (c.lba + i) (unpB true l)[i] = 0) →
      ∀ u D', Keep D w u → Dv u dv ps pw file kind n cache D' (syncIf (syncs c.blocks (c.fua || decide (c.kind = 9)) cache) (layW st file c.lba (rsOf (cameB kind c l c.blocks)) c.blocks)) (setAll bs c.lba (cameB kind c l c.blocks) c.blocks) (m + c.blocks + 1) →
      (∀ k, D' k → D k ∨ w.heap.size ≤ k) → R (rsv 0 sn0 nilS).toArray u)
    (h11 : knownB kind c.prot = true → c.kind = 11 → c.lba + c.blocks ≤ n → ∀ u D', Keep D w u → Dv u dv ps pw file kind n cache D' (synced st) bs (m + 1) → (∀ k, D' k → D k ∨ w.heap.size ≤ k) → R (rsv 0 sn0 nilS).toArray u)
    (hpart : knownB kind c.prot = true → (c.kind = 13 ∨ c.kind = 6 ∨ c.lba + c.blocks ≤ n) → ∀ ab u, Grow w u → w.heap.size ≤ ab → Blk u ab z10 t_api_Result → Part D dv c p u (Ends D u ab R))
    (hinv : knownB kind c.prot = true → c.kind ≠ 7 → c.kind ≠ 8 → c.kind ≠ 9 → c.kind ≠ 10 → c.kind ≠ 11 → c.kind ≠ 12 → c.kind ≠ 13 → c.kind ≠ 14 → c.kind ≠ 6 → ∀ u, Grow w u → R (rsv 2 invS nilS).toArray u) :
    Csbc_Dev_Do (some ⟨dv, 0, none⟩) (cmv c).toArray p w R :=
  do_plan h hm hp hb hlb hbl hunk hout (fun _ => h7) (fun _ => h7b) h8l h8b (fun _ => h8) (fun _ => h11) hpart (fun _ _ _ k _ _ q => by cases q) (fun _ _ _ _ _ _ k _ _ q => by cases q) (fun _ _ _ q => by cases q) hinv
end
end Go.Proofs.Ytaneeadpjelomaa

/- Layer 14: blocks compared. -/
namespace Go.Proofs.Ytaneeadpjelomaa
open Go CF

def firstNe (X Y : L8) : Option Nat := (List.range X.length).find? fun i => decide (X.getD i 0 ≠ Y.getD i 0)
def dif (X Y : L8) : Int := match firstNe X Y with | some i => (i : Int) | none => -1
theorem firstNe_none {X Y : L8} (h : ∀ i, i < X.length → X.getD i 0 = Y.getD i 0) : firstNe X Y = none := by
  unfold firstNe
  rw [List.find?_eq_none]
  intro i hi
  rw [h i (List.mem_range.1 hi)]; simp
theorem firstNe_some {X Y : L8} {i : Nat} (hi : i < X.length) (h : ∀ j, j < i → X.getD j 0 = Y.getD j 0) (hne : X.getD i 0 ≠ Y.getD i 0) : firstNe X Y = some i := by
  unfold firstNe
  rw [List.find?_eq_some_iff_append]
  refine ⟨by simpa using hne, List.range i, (List.range (X.length - i - 1)).map (fun k => i + 1 + k), ?_, fun j hj => ?_⟩
  · have e : X.length = i + (1 + (X.length - i - 1)) := by omega
    conv => lhs; rw [e, List.range_add, List.range_add]
    simp [List.map_map, Nat.add_assoc, Function.comp_def]
  · have := h j (List.mem_range.1 hj)
    rw [decide_eq_false (by simpa using this)]; rfl
theorem dif_none {X Y : L8} (h : firstNe X Y = none) : dif X Y = -1 := by unfold dif; rw [h]
theorem dif_some {X Y : L8} {i : Nat} (h : firstNe X Y = some i) : dif X Y = (i : Int) := by unfold dif; rw [h]
theorem rd_at {w : World} {s : Sl} {l : L8} (h : Rd w 1 s (bv l)) {i : Nat} (hi : i < l.length) : s.A.isSome = true ∧ w.cell? ((gA s.A).add (i * 1)) = some (.int .u8 ((l.getD i 0).toNat : Int)) := by
  obtain ⟨a, ha, hc⟩ := h.byte (i := i) (by rw [← rd_n' h]; exact hi)
  rw [ha]
  refine ⟨rfl, ?_⟩
  rw [List.getD_eq_getElem?_getD, List.getElem?_eq_getElem hi]
  exact hc
theorem differ_spec {a b : Sl} {A B : List Bk} {w : World} {R : Int → World → Prop} (ha : Rd w 19 a (A.flatMap bc)) (hb : Rd w 19 b (B.flatMap bc)) (hA : A.length ≤ 4096) (hB : B.length ≤ 4096) (hl : A.length ≤ B.length)
    (h : ∀ u, Grow w u → R (dif (packB false A) (packB false B)) u) : Csbc_differ a b w R := by
  refine Fsbc_differ.calls _ _ _ _ ?_
  refine pack_spec ha hA fun s1 w1 hown1 hg1 => ?_
  refine pack_spec (hb.grow hg1) hB fun s2 w2 hown2 hg2 => ?_
  have hXl := packB_len false A
  have hYl := packB_len false B
  have e16 : szB false = 16 := rfl
  rw [e16] at hXl hYl
  generalize packB false A = X at *
  generalize packB false B = Y at *
  have hr1 : ∀ v, Grow w2 v → Rd v 1 s1 (bv X) := fun v hv => ((hown1.grow hg2).grow hv).rd (by rw [own_n' hown1]; omega)
  have hr2 : ∀ v, Grow w2 v → Rd v 1 s2 (bv Y) := fun v hv => (hown2.grow hv).rd (by rw [own_n' hown2]; omega)
  have hn1 := own_n' hown1
  have hn2 := own_n' hown2
  refine ⟨fun x v => ∃ j : Nat, x = j ∧ j ≤ X.length ∧ Grow w2 v ∧ ∀ i, i < j → X.getD i 0 = Y.getD i 0, fun x _ => X.length - x.toNat, ⟨0, rfl, Nat.zero_le _, Keep.refl _ _, fun _ q => absurd q (Nat.not_lt_zero _)⟩, ?_⟩
  rintro x v ⟨j, rfl, hj, hgv, hall⟩
  refine br_nat (fun hlt => ?_) (fun hge => ?_)
  · have hjX : j < X.length := by omega
    have hjY : j < Y.length := by omega
    rintro w3 rfl
    have hg3 : Grow w2 v.drew := hgv.trans (keep_drew v)
    refine ⟨fun y => Grow w2 y, hg3, ⟨by omega, by omega, (rd_at (hr1 v hgv) hjX).1⟩, _, fun y hy => by rw [Int.toNat_natCast]; exact (rd_at (hr1 y hy) hjX).2, ⟨by omega, by omega, (rd_at (hr2 v hgv) hjY).1⟩, _, fun y hy => by rw [Int.toNat_natCast]; exact (rd_at (hr2 y hy) hjY).2, ?_⟩
    refine br_ne (fun q => ?_) (fun q => ?_)
    · have := h v.drew ((hg1.trans hg2).trans hg3)
      unfold dif at this
      rw [firstNe_some hjX hall (fun e => q (by rw [e]))] at this
      exact this
    · rw [w64 (by omega) (by omega)]
      refine ⟨⟨j + 1, by omega, by omega, hg3, fun i hi => ?_⟩, by dsimp only; omega⟩
      by_cases e : i = j
      · subst e; exact UInt8.toNat_inj.1 (by omega)
      · exact hall i (by omega)
  · have := h v ((hg1.trans hg2).trans hgv)
    unfold dif at this
    rw [firstNe_none (fun i hi => hall i (by omega))] at this
    exact this
section
variable {w u : World} {dv ps pw : Nat} {file : ByteArray} {kind n : Nat} {cache : Bool} {D D' : Nat → Prop} {st st' : Wst} {bs bs' : List Bk} {m m' : Nat}
theorem dev_verify_spec {c : Cm} {p : Sl} {l : L8} {K : Array Value → World → Prop} (h : Dv w dv ps pw file kind n cache D st bs m) (hm : m ≤ 1000000) (hp : Rd w 1 p (bv l)) (hb : p.n ≤ 140737488351232) (hc : c.lba + c.blocks ≤ n)
    (k1 : c.bytes = true → (l.length % szB (decide (c.prot ≠ 0)) ≠ 0 ∨ l.length / szB (decide (c.prot ≠ 0)) ≠ c.blocks) → ∀ u, Grow w u → K (rsv 2 (badS 0x1a00) nilS).toArray u)
    (k2 : ∀ i (hi : i < ((bs.drop c.lba).take c.blocks).length), chkB kind c.prot (c.lba + i) ((bs.drop c.lba).take c.blocks)[i] ≠ 0 → ∀ u, Keep D w u → IsW u pw D { st with ops := st.ops + c.blocks } →
      K (rsv 2 (atS 11 (chkB kind c.prot (c.lba + i) ((bs.drop c.lba).take c.blocks)[i]) (c.lba + i)) nilS).toArray u)
    (k3 : (∀ i (hi : i < ((bs.drop c.lba).take c.blocks).length), chkB kind c.prot (c.lba + i) ((bs.drop c.lba).take c.blocks)[i] = 0) → c.bytes = true → ∀ i, firstNe (packB false ((bs.drop c.lba).take c.blocks)) (packB false (unpB (decide (c.prot ≠ 0)) l)) = some i → ∀ u, Keep D w u → IsW u pw D { st with ops := st.ops + c.blocks } →
      K (rsv 2 (atS 14 0x1d00 i) nilS).toArray u)
    (k4 : (∀ i (hi : i < ((bs.drop c.lba).take c.blocks).length), chkB kind c.prot (c.lba + i) ((bs.drop c.lba).take c.blocks)[i] = 0) → (c.bytes = true → firstNe (packB false ((bs.drop c.lba).take c.blocks)) (packB false (unpB (decide (c.prot ≠ 0)) l)) = none) → ∀ u, Keep D w u → IsW u pw D { st with ops := st.ops + c.blocks } →
      K (rsv 0 sn0 nilS).toArray u) : Csbc_Dev_verify (some ⟨dv, 0, none⟩) (cmv c).toArray p w K := by
  refine Fsbc_Dev_verify.calls _ _ _ _ _ ?_
  have hsz := h.size
  have hlen := h.len
  refine new_rule fun cb w0 hcb hb0 hg0 hsz0 => ?_
  have hb0 : Blk w0 cb (cmv c).toArray t_api_Cmd := hb0
  refine new_rule fun ab w1 hab hb1 hg1 hsz1 => ?_
  have hb1 : Blk w1 ab z10 t_api_Result := hb1
  have hgw1 := hg0.trans hg1
  have hc1 : Blk w1 cb (cmv c).toArray t_api_Cmd := hg1.heap hb0 (fun q => q)
  have nab : ¬ D ab := fun q => by have := h.isW.lt q; omega
  have ncb : ¬ D cb := fun q => by have := h.isW.lt q; omega
  have sw := hg0.size
  have hLl : ((bs.drop c.lba).take c.blocks).length = c.blocks := by rw [List.length_take, List.length_drop]; omega
  generalize hL : (bs.drop c.lba).take c.blocks = L at *
  refine ⟨c.bytes, by rw [add0, hc1.cell]; rfl, ?_⟩
  generalize hwt : decide (c.prot ≠ 0) = wt at *
  refine letX1 (fun came v => Grow w1 v ∧ (c.bytes = true → l.length / szB wt = c.blocks ∧ Own v w.heap.size t_api_Block 19 came ((unpB wt l).flatMap bc))) ?_ (fun J => ?_)
  · rintro came v ⟨hgv, hcame⟩
    have hcv := hgv.heap hc1 (fun q => q)
    have hav := hgv.heap hb1 (fun q => q)
    have hwv := hgw1.trans hgv
    refine ⟨_, cLoad (blk_cells hcv), ?_⟩
    refine dev_read_spec (h.grow hwv) hm hc (fun hchk xs w4 hk4 hr4 hown4 => ?_) (fun i hi hz w4 hk4 hr4 => ?_)
    · have hw4 := hr4.isW (h.grow hwv).isW
      refine new_rule fun rb w5 hrb hb5 hg5 hsz5 => lay_rule hb5 rfl fun w6 hb6 hk6 hsz6 => br_f rfl ?_
      have hg46 : Grow w4 w6 := hg5.keep hk6 fun i hi q => by omega
      have hc6 : Blk w6 cb (cmv c).toArray t_api_Cmd := hg46.heap (hk4.heap hcv ncb) (fun q => q)
      have ha6 : Blk w6 ab z10 t_api_Result := hg46.heap (hk4.heap hav nab) (fun q => q)
      rw [hL] at hchk hown4
      have hkD6 : Keep D w w6 := ((hwv.mono fun _ _ q => q.elim).trans hk4 fun _ _ q => q).grow hg46
      have s4 := hk4.size
      have swv := hwv.size
      refine ⟨c.bytes, by rw [add0, hc6.cell]; rfl, ?_⟩
      refine letX0 (fun y => Grow w6 y ∧ (c.bytes = true → firstNe (packB false L) (packB false (unpB wt l)) = none)) ?_ (fun J2 => ?_)
      · rintro y ⟨hgy, hno⟩
        refine good_spec fun z hz => ?_
        have haz := (hgy.trans hz).heap ha6 (fun q => q)
        refine ret_rule (st := 0) (s := sn0) (d := nilS) haz rfl fun z2 hk2 => ?_
        exact k4 hchk hno z2 (keepD_new ((hkD6.grow hgy).grow hz) (by omega) hk2) (isW_new ((((hw4.grow hg46).grow hgy)).grow hz) haz tne_result nab hk2)
      · by_cases hby : c.bytes = true
        · refine br_t hby ?_
          obtain ⟨hdv, hcame⟩ := hcame hby
          have hUl : (unpB wt l).length = c.blocks := by rw [unpB_len]; exact hdv
          have hown6 := hown4.grow hg46
          have hcame6 : Own w6 w.heap.size t_api_Block 19 came ((unpB wt l).flatMap bc) := (hcame.keep hk4 fun b hbb q => by
            have := (hcame.ge b hbb).1
            have := h.isW.lt q
            omega).grow hg46
          refine differ_spec (hown6.rd (by have := hown6.len; rw [flat_bc_len] at this; omega)) (hcame6.rd (by have := hcame6.len; rw [flat_bc_len] at this; omega)) (by omega) (by omega) (by omega) fun y hy => ?_
          cases hf : firstNe (packB false L) (packB false (unpB wt l)) with
          | none => rw [dif_none hf]; exact br_f (by rw [decide_eq_false_iff_not]; omega) (J2 y ⟨hy, fun _ => hf⟩)
          | some i =>
            rw [dif_some hf]
            have hil : i < 65536 + 1 := by
              have := List.mem_of_find?_eq_some hf
              rw [List.mem_range, packB_len] at this
              have e16 : szB false = 16 := rfl
              rw [e16] at this
              omega
            refine br_t (by rw [decide_eq_true_eq]; omega) ?_
            rw [wu64 (by omega) (by omega)]
            refine at_spec (key := 14) (code := 0x1d00) (info := i) fun z hz => ?_
            have haz := (hy.trans hz).heap ha6 (fun q => q)
            refine ret_rule haz rfl fun z2 hk2 => ?_
            exact k3 hchk hby i hf z2 (keepD_new ((hkD6.grow hy).grow hz) (by omega) hk2) (isW_new ((((hw4.grow hg46).grow hy)).grow hz) haz tne_result nab hk2)
        · exact br_f (by simpa using hby) (J2 w6 ⟨Keep.refl _ _, fun q => absurd q hby⟩)
    · have hw4 := hr4.isW (h.grow hwv).isW
      refine new_rule fun rb w5 hrb hb5 hg5 hsz5 => lay_rule hb5 rfl fun w6 hb6 hk6 hsz6 => br_t rfl ⟨_, rLoad (blk_cells hb6), ?_⟩
      have hg46 : Grow w4 w6 := hg5.keep hk6 fun i hi q => by omega
      have ha6 : Blk w6 ab z10 t_api_Result := hg46.heap (hk4.heap hav nab) (fun q => q)
      refine ret_rule ha6 rfl fun w7 hk7 => ?_
      have swv := hwv.size
      have := k2 i (by rw [← hL]; exact hi) (by simp only [← hL]; exact hz) w7 (keepD_new (((hwv.mono fun _ _ q => q.elim).trans hk4 fun _ _ q => q).grow hg46) (by omega) hk7) (isW_new (hw4.grow hg46) ha6 tne_result nab hk7)
      simp only [← hL] at this
      exact this
  · by_cases hby : c.bytes = true
    · refine br_t hby ⟨(c.prot : Int), by rw [add0, hc1.cell]; rfl, ?_⟩
      have ew : ((c.prot : Int) != 0) = wt := by rw [← hwt, Bool.eq_iff_iff, bne_iff_ne, decide_eq_true_eq]; omega
      rw [ew]
      have hln := rd_n' hp
      have hUl : (unpB wt l).length = l.length / szB wt := unpB_len wt l
      have hs16 : 16 ≤ szB wt := by unfold szB; split <;> decide
      have hdiv : l.length / szB wt ≤ l.length := Nat.div_le_self _ _
      have bad : ∀ y, Grow w1 y → (l.length % szB wt ≠ 0 ∨ l.length / szB wt ≠ c.blocks) → Csbc_length y fun g5 w014 => RunU Try.prog (storeVar t_api_Result ⟨ab, 0, none⟩ (.agg g5)) w014 fun w015 => ∃ res3 : Array Value, (loadVar t_api_Result ⟨ab, 0, none⟩).run Try.prog w015 = .ok (.agg res3) w015 ∧ K res3 w015 := fun y hy hq =>
        length_spec fun z hz => ret_rule ((hy.trans hz).heap hb1 (fun q => q)) rfl fun z2 hk2 => k1 hby hq z2 (grow_new ((hgw1.trans hy).trans hz) (by omega) hk2)
      refine unpack_spec (hp.grow hgw1) hb (fun q => ⟨0, fun e => by simp at e, br_t rfl (bad w1 (Keep.refl _ _) (.inl q))⟩) fun hm0 xs y hy hown => ?_
      have hcy := hy.heap hc1 (fun q => q)
      refine ⟨(c.blocks : Int), fun _ => by rw [add0, Blk.cell hcy]; rfl, ?_⟩
      have hxn : xs.n = (unpB wt l).length := by have := hown.len; rw [flat_bc_len] at this; omega
      rw [wu64 (n := (xs.n : Int)) (by omega) (by omega)]
      by_cases hN : l.length / szB wt = c.blocks
      · exact br_f (by rw [Bool.or_eq_false_iff, bne_eq_false_iff_eq]; exact ⟨rfl, by omega⟩) (J xs y ⟨hy, fun _ => ⟨hN, hown.mono hgw1.size⟩⟩)
      · exact br_t (by rw [Bool.or_eq_true, bne_iff_ne]; right; omega) (bad y hy (.inr hN))
    · exact br_f (by simpa using hby) (J nilS w1 ⟨Keep.refl _ _, fun q => absurd q hby⟩)
end
end Go.Proofs.Ytaneeadpjelomaa
