/- Layer 5: the law of turns. -/
import Derived.Test.YtiokflecflbopaaSl5
namespace Go.Proofs.Ytiokflecflbopaa
open Go CF

/-- a slice among others -/
def sc (x : Sl × L8) : List Value := [.slice x.1.A x.1.n x.1.c]
def bo (b : Bool) : List Value := [.bool b]
theorem sc_len (x : Sl × L8) : (sc x).length = 1 := rfl
theorem bo_len (x : Bool) : (bo x).length = 1 := rfl
theorem rd_one_at {α : Type} {f : α → List Value} (hf : ∀ a, (f a).length = 1) {v : α → Value} (hv : ∀ a, f a = [v a]) {w : World} {s : Sl} {l : List α} (h : Rd w 1 s (l.flatMap f)) {i : Nat} (hi : i < l.length) : ∃ a, s.A = some a ∧ w.cell? (a.add (i * 1)) = some (v l[i]) := by
  have hl : l.length = s.n := by have := h.len; rw [flat_length hf] at this; omega
  obtain ⟨a, ha, hc⟩ := h.elem (i := i) (by omega) (by decide)
  refine ⟨a, ha, ?_⟩
  rw [flat_elem hf hi, hv] at hc
  have := hc 0 (v l[i]) rfl
  rwa [addr_zero] at this
theorem rd_one_n {α : Type} {f : α → List Value} (hf : ∀ a, (f a).length = 1) {w : World} {s : Sl} {l : List α} (h : Rd w 1 s (l.flatMap f)) : l.length = s.n := by have := h.len; rw [flat_length hf] at this; omega
section
variable {H : Type} {enc : TypeId × Value → H} {w : World} {base : Nat} {spare : Nat → Bool} {held : Bool}
theorem opens_bytess : Opens enc Try.prog w base spare held t_sl_sl_uint8 fun cs => ∃ s : Sl, cs = [.slice s.A s.n s.c] ∧ ∃ xs : List (Sl × L8), Rd w 1 s (xs.flatMap sc) ∧ ∀ x ∈ xs, Rd w 1 x.1 (bv x.2) :=
  (opens_slice (f := sc) (Q := fun x => Rd w 1 x.1 (bv x.2)) (z := 1) (bytes := 24) u_sl_sl_uint8 (by kernel_rfl) (by kernel_rfl) (by decide) sc_len
    ((opens_bytes u_sl_uint8 u_uint8 (by kernel_rfl) (by kernel_rfl)).mono fun cs ⟨s, h1, l, h2, _⟩ => ⟨(s, l), h1, h2⟩)).mono fun _ ⟨s, h1, xs, h2, _, h4, _⟩ => ⟨s, h1, xs, h2, h4⟩
theorem opens_bools : Opens enc Try.prog w base spare held t_sl_bool fun cs => ∃ s : Sl, cs = [.slice s.A s.n s.c] ∧ ∃ xs : List Bool, Rd w 1 s (xs.flatMap bo) :=
  (opens_slice (f := bo) (Q := fun _ => True) (z := 1) (bytes := 1) u_sl_bool (by kernel_rfl) (by kernel_rfl) (by decide) bo_len
    ((opens_bool u_bool).mono fun cs ⟨b, h1⟩ => ⟨b, h1, trivial⟩)).mono fun _ ⟨s, h1, xs, h2, _⟩ => ⟨s, h1, xs, h2⟩
end
/-- between turns -/
structure Turn (w u : World) (pa ss : Nat) (D : Nat → Prop) (st : Wst) (sure : Bool) (at_ a : Int) (gen j : Nat) (p : L8) : Prop where
  grow : Grow w u
  isW : IsW u pa D st
  isSl : IsSl u ss pa s_k sure at_ gen
  sured : sure = true → at_ = a ∧ gen = j
  nd : ¬ D ss
  waits : st.waits = []
  ats : AtS st.seen s_k a j p
  above : ∀ k, D k → w.heap.size ≤ k
  ssa : w.heap.size ≤ ss
theorem Turn.go {w u u' : World} {pa ss : Nat} {D : Nat → Prop} {st : Wst} {sure : Bool} {at_ a : Int} {gen j : Nat} {p : L8} (h : Turn w u pa ss D st sure at_ a gen j p) (g : Grow u u') : Turn w u' pa ss D st sure at_ a gen j p :=
  ⟨h.grow.trans g, h.isW.grow g, g.heap h.isSl (fun q => q), h.sured, h.nd, h.waits, h.ats, h.above, h.ssa⟩
theorem slotsTurns_spec {pl an : Sl} {ps : List (Sl × L8)} {bs : List Bool} {w : World} {R : Bool → World → Prop} (hp : Rd w 1 pl (ps.flatMap sc)) (hq : ∀ x ∈ ps, Rd w 1 x.1 (bv x.2)) (hb : Rd w 1 an (bs.flatMap bo)) (h : ∀ w', Grow w w' → R true w') :
    Cpalletlaw05_SlotsTurns pl an w R := by
  refine Fpalletlaw05_SlotsTurns.calls _ _ _ _ ?_
  refine awake05_spec fun w0 hg0 => br_f rfl ?_
  refine world_new_spec fun pa D w1 hg1 hw1 hD1 => ?_
  refine slots_open_spec size_s_k fun ss w2 hss hg2 hS2 => ?_
  have s0 := hg0.size
  have s1 := hg1.size
  have s2 := hg2.size
  have lss := lt_of_heap hS2
  have T0 : Turn w w2 pa ss D ⟨fun _ => none, fun _ => none, [], 0⟩ false (-1) (-1) 0 0 [] :=
    ⟨(hg0.trans hg1).trans hg2, hw1.grow hg2, hS2, fun q => (by cases q), fun q => (by have := hw1.lt q; omega), rfl, at_new _, fun k q => (by have := hD1 k q; omega), by omega⟩
  have hpn := rd_one_n sc_len hp
  have hbn := rd_one_n bo_len hb
  refine ⟨fun s e i u => ∃ (j ss : Nat) (D : Nat → Prop) (st : Wst) (sure : Bool) (at_ a : Int) (gen : Nat) (p : L8), i = j ∧ j ≤ 12 ∧ e = 0 ∧ s = some ⟨ss, 0, none⟩ ∧ st.ops ≤ 100 * j ∧ Turn w u pa ss D st sure at_ a gen j p, fun _ _ i _ => 12 - i.toNat,
    ⟨0, ss, D, _, false, -1, -1, 0, [], rfl, by decide, rfl, rfl, Nat.le_refl _, T0⟩, ?_⟩
  clear T0 hss hS2 lss hw1 hD1 D ss
  rintro s e i u ⟨j, ss, D, st, sure, at_, a, gen, p, rfl, hj, rfl, rfl, hops, T⟩
  by_cases hc : j < ps.length ∧ j < 12
  case neg => exact br_f (by rw [Bool.and_eq_false_iff, decide_eq_false_iff_not, decide_eq_false_iff_not]; omega) (h u T.grow)
  refine br_t (by rw [Bool.and_eq_true, decide_eq_true_eq, decide_eq_true_eq]; omega) ?_
  obtain ⟨hc1, hc2⟩ := hc
  have hx := hq _ (List.getElem_mem hc1)
  have cell : ∀ {v : World}, Grow w v → v.cell? ((gA pl.A).add ((j : Int).toNat * 1)) = some (.slice ps[j].1.A ps[j].1.n ps[j].1.c) := fun g => by
    obtain ⟨a0, ha0, hca⟩ := rd_one_at sc_len (v := fun x => .slice x.1.A x.1.n x.1.c) (fun _ => rfl) (hp.grow g) hc1
    rw [ha0, Int.toNat_natCast]; exact hca
  have bnd : (0 : Int) ≤ (j : Int) ∧ (j : Int) < (pl.n : Int) ∧ pl.A.isSome = true := by
    obtain ⟨a0, ha0, _⟩ := rd_one_at sc_len (v := fun x => .slice x.1.A x.1.n x.1.c) (fun _ => rfl) hp hc1
    exact ⟨by omega, by omega, by rw [ha0]; rfl⟩
  have e1 : IntKind.wrap .i64 ((j : Int) + 1) = ((j + 1 : Nat) : Int) := by rw [w64 (by omega) (by omega)]; omega
  rw [e1]
  refine letX2 (fun s1 e1 v => ∃ (ss : Nat) (D : Nat → Prop) (st : Wst) (sure : Bool) (at_ a : Int) (gen : Nat) (p : L8), e1 = 0 ∧ s1 = some ⟨ss, 0, none⟩ ∧ st.ops ≤ 100 * (j + 1) ∧ Turn w v pa ss D st sure at_ a gen (j + 1) p)
    (fun s1 e1 v ⟨ss, D, st, sure, at_, a, gen, p, h1, h2, h3, h4⟩ => ⟨⟨j + 1, ss, D, st, sure, at_, a, gen, p, rfl, by omega, h1, h2, h3, h4⟩, by dsimp only; omega⟩) (fun J => ⟨fun _ => bnd, ps[j].1, fun _ => cell T.grow, ?_⟩)
  by_cases h300 : ps[j].1.n ≤ 300
  case neg => exact br_t (by rw [Bool.or_eq_true, decide_eq_true_eq]; omega) (h u T.grow)
  refine br_f (by rw [Bool.or_eq_false_iff, decide_eq_false_iff_not]; exact ⟨rfl, by omega⟩) ⟨bnd, ps[j].1, cell T.grow, ?_⟩
  have hxn := rd_n hx
  have hxl : ∀ {v : World}, Grow w v → Rd v 1 ps[j].1 (bv ps[j].2) := fun g => hx.grow g
  generalize ps[j] = X at *
  have su := T.grow.size
  refine slots_save_at (l := X.2) T.isSl T.nd T.isW (fun c hc => by rw [T.waits] at hc; cases hc) size_s_k (by omega) (by rw [T.waits]; decide) (by omega) (fun v hk => hxl (T.grow.keep hk fun i hi q => ?_)) T.ats T.sured (by omega) fun w4 D4 st4 hk4 hw4 hwt4 ho4 hat4 _ _ _ hD4 nD4 hS4 => ?_
  · rcases q with q | q
    · have := T.above i q; omega
    · have := T.ssa; omega
  have hgw4 : Grow w w4 := T.grow.keep hk4 fun i hi q => by
    rcases q with q | q
    · have := T.above i q; omega
    · have := T.ssa; omega
  have T4 : Turn w w4 pa ss D4 st4 true (toS a) (toS a) (j + 1) (j + 1) X.2 := ⟨hgw4, hw4, hS4, fun _ => ⟨rfl, rfl⟩, nD4, hwt4, hat4, fun k q => by
    rcases hD4 k q with r | r
    · exact T.above k r
    · omega, T.ssa⟩
  have e2 : IntKind.wrap .i64 ((j + 1 : Nat) : Int) = ((j + 1 : Nat) : Int) := w64 (by omega) (by omega)
  rw [e2]
  refine letJ1 (fun n v => n = 0 ∧ v = w4) ?_ (fun J2 => ⟨fun _ => waits_spec hw4 (J2 _ _ ⟨by rw [hwt4]; rfl, rfl⟩), fun q => by simp at q⟩)
  rintro n v ⟨rfl, rfl⟩
  refine br_f (by simp) ?_
  have bnd2 : decide ((j : Int) < (an.n : Int)) = true → (0 : Int) ≤ (j : Int) ∧ (j : Int) < (an.n : Int) ∧ an.A.isSome = true := fun q => by
    rw [decide_eq_true_eq] at q
    obtain ⟨a0, ha0, _⟩ := rd_one_at bo_len (v := fun x => .bool x) (fun _ => rfl) hb (i := j) (by omega)
    exact ⟨by omega, q, by rw [ha0]; rfl⟩
  have hb1 : ∃ b1 : Bool, decide ((j : Int) < (an.n : Int)) = true → v.cell? ((gA an.A).add ((j : Int).toNat * 1)) = some (.bool b1) := by
    by_cases q : j < bs.length
    · obtain ⟨a0, ha0, hca⟩ := rd_one_at bo_len (v := fun x => .bool x) (fun _ => rfl) (hb.grow hgw4) q
      exact ⟨bs[j], fun _ => by rw [ha0, Int.toNat_natCast]; exact hca⟩
    · exact ⟨false, fun e => by rw [decide_eq_true_eq] at e; omega⟩
  obtain ⟨b1, hb1⟩ := hb1
  refine ⟨bnd2, b1, hb1, ?_⟩
  refine letX2 (fun s2 e2 x => ∃ (ss : Nat) (sure : Bool) (at_ : Int) (gen : Nat), e2 = 0 ∧ s2 = some ⟨ss, 0, none⟩ ∧ Turn w x pa ss D4 st4 sure at_ (toS a) gen (j + 1) X.2) ?_ (fun J3 => ?_)
  · rintro s2 e2 x ⟨ss', sure', at', gen', rfl, rfl, T5⟩
    refine slots_load_at T5.isSl T5.nd T5.isW size_s_k (by omega) T5.ats.ld (by omega) fun best w8 hk8 hw8 hS8 hb8 hn8 => ?_
    have hgw8 : Grow w w8 := T5.grow.keep hk8 fun i hi q => by
      rcases q with q | q
      · have := T5.above i q; omega
      · have := T5.ssa; omega
    have T8 : Turn w w8 pa ss' D4 { st4 with ops := st4.ops + 2 } true (toS a) (toS a) (j + 1) (j + 1) X.2 := ⟨hgw8, hw8, hS8, fun _ => ⟨rfl, rfl⟩, T5.nd, hwt4, T5.ats, T5.above, T5.ssa⟩
    rintro w9 rfl
    have hg9 : Grow w8 w8.drew := keep_drew w8
    have ge0 : ¬ ((toS a : Int) < 0) := by omega
    rw [if_neg ge0]
    refine ⟨fun y => Grow w8 y, hg9, str X.2, fun _ y hy => convStr_rule u_sl_uint8 u_uint8 u_string (hb8 y hy), fun _ => bnd, X.1, fun _ y hy => cell (hgw8.trans hy), str X.2, fun _ y hy => convStr_rule u_sl_uint8 u_uint8 u_string (hxl (hgw8.trans hy)), br_f ?_ (J _ _ _ ⟨ss', D4, _, true, _, _, _, _, rfl, rfl, ?_, T8.go hg9⟩)⟩
    · simp [sEq_str]
    · show st4.ops + 2 ≤ _
      omega
  · by_cases q : (decide ((j : Int) < (an.n : Int)) && b1) = true
    · refine br_t q (slots_open_spec size_s_k fun ss' w10 hss' hg10 hS10 => br_f rfl (J3 _ _ _ ⟨ss', false, -1, 0, rfl, rfl, ?_⟩))
      have T10 := T4.go hg10
      exact ⟨T10.grow, T10.isW, hS10, fun q => (by cases q), fun q => (by have := hw4.lt q; omega), hwt4, T10.ats, T10.above, by have := hgw4.size; omega⟩
    · exact br_f (by simpa using q) (J3 _ _ _ ⟨ss, true, _, _, rfl, rfl, T4⟩)
end Go.Proofs.Ytiokflecflbopaa
