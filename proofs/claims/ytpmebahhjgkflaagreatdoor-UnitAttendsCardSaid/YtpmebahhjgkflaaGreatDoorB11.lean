import Derived.Tactics
import Derived.Tactics2
import Derived.Defers
import Derived.Laws.Pointers
import Derived.Laws.LoneSync
import Derived.RegionTactic
import Derived.RegionCalls
import Derived.ChangeAlike
import Derived.Laws.NewBlocks
import Derived.Test.YtpmebahhjgkflaaGreatDoorB10
/- Layer 7: what is told waits no more; all are told. -/
namespace Go.Proofs.YtpmebahhjgkflaaGreatDoor
open Go CF
set_option maxRecDepth 100000
section
variable {w u : World} {N N' S : Nat → Prop} {qb i : Nat} {q : Nat → List Nat}
theorem upd_self {α : Type} (q : Nat → α) (i : Nat) {v : α} (e : v = q i) : (fun j => if j = i then v else q j) = q := by
  funext j
  by_cases e' : j = i
  · subst e'; rw [if_pos rfl, e]
  · rw [if_neg e']
theorem u16v_take (l : List Nat) (k : Nat) : (u16v l).take k = u16v (l.take k) := List.map_take.symm
theorem u16v_drop (l : List Nat) (k : Nat) : (u16v l).drop k = u16v (l.drop k) := List.map_drop.symm
theorem next_spec {R : Int → Bool → World → Prop} (h : IsQ w N qb q) (hi : i < 8) (hN : N qb) (hNl : ∀ b, N b → b < w.heap.size)
    (hR : ∀ w', Keep (fun k => k = qb) w w' → IsQ w' N qb (fun j => if j = i then nextX (q i) else q j) → match peekX (q i) with | none => R 0 false w' | some c => R (c : Int) true w') : Cattn_Queues_Next (some ⟨qb, 0, none⟩) (i : Int) w R := by
  refine Fattn_Queues_Next.calls _ _ _ _ (best_first h hi fun w' g => ?_)
  have hq := h.grow g
  have hokn := nextX_ok (h.few i hi).1 (h.few i hi).2
  unfold peekX at hR
  cases hb : bestN (q i) (q i).length with
  | none =>
    rw [hb] at hR
    have e : nextX (q i) = q i := by unfold nextX; rw [hb]
    refine br_t rfl (hR w' (g.mono fun _ _ q => q.elim) ?_)
    rw [upd_self q i e]; exact hq
  | some b =>
    rw [hb] at hR
    have e : nextX (q i) = (q i).take b ++ (q i).drop (b + 1) := by unfold nextX; rw [hb]
    rw [e] at hR hokn
    have hbl := bestN_lt _ _ _ hb
    refine br_f (by simp) ?_
    dsimp only
    have hsm := (h.few i hi).1
    obtain ⟨⟨ss, h1, h2, h3⟩, h4⟩ := hq
    have hi' : i < ss.length := by omega
    have hr := h3 i hi'
    have hlen : (q i).length = ss[i].n := by have := hr.rd.len; rw [u16v_len] at this; omega
    have hcap := hr.rd.cap
    obtain ⟨ha, hc⟩ := q_at hr.rd hbl
    refine ⟨rfl, ⟨by omega, by omega⟩, ss[i], q_cell ss h2 hi', ⟨by omega, by omega, ha⟩, _, by rw [Int.toNat_natCast]; exact hc, ?_⟩
    rintro u1 rfl
    have hgd := keep_drew w'
    have hNd : ∀ b, N b → b < w'.drew.heap.size := fun b hb => by have := hNl b hb; have := hgd.size; have := g.size; omega
    have hqd := (h.grow g).grow hgd
    have hld : Rd w'.drew 1 ss[i] (u16v (q i)) := hr.rd.grow hgd
    generalize w'.drew = u1 at *
    have ew : IntKind.wrap .i64 ((b : Int) + 1) = ((b + 1 : Nat) : Int) := by rw [w64 (by omega) (by omega)]; omega
    rw [ew, Int.toNat_natCast, Int.toNat_natCast, Int.toNat_natCast]
    have c1 : Rd u1 1 ⟨cutA ss[i].A ss[i].c 0 1, b - 0, ss[i].c - 0⟩ (u16v ((q i).take b)) := by
      have := hld.cut (l := 0) (k := b) (Nat.zero_le _) (by omega)
      simpa [u16v_take] using this
    have c2 : Rd u1 1 ⟨cutA ss[i].A ss[i].c (b + 1) 1, ss[i].n - (b + 1), ss[i].c - (b + 1)⟩ (u16v ((q i).drop (b + 1))) := by
      have := hld.cut (l := b + 1) (k := ss[i].n) (by omega) (Nat.le_refl _)
      rw [Nat.mul_one, Nat.mul_one, u16v_drop, u16v_take] at this
      rwa [List.take_of_length_le (by rw [List.length_drop]; omega)] at this
    refine ⟨⟨by omega, by omega, by omega, hcap⟩, ⟨by omega, by omega, by omega, hcap⟩, rfl, ?_⟩
    refine append_rule (base := u1.heap.size) u_sl_uint16 i_uint16 rfl (by decide) (by decide) (own_nil _ _ _ _) c1 (u16v_one _) (by show (0 + (b - 0)) * 2 ≤ _; omega) (Nat.le_refl _) fun x1 v1 hn1 ho1 hk1 _ => ?_
    have g1 : Grow u1 v1 := hk1.mono fun i hi q => by simp [Sl.blk] at q
    refine append_rule u_sl_uint16 i_uint16 rfl (by decide) (by decide) ho1 (c2.grow g1) (u16v_one _) (by rw [hn1]; show (0 + (b - 0) + (ss[i].n - (b + 1))) * 2 ≤ _; omega) g1.size fun x3 v3 hn3 ho3 hk3 _ => ?_
    have g3 := own_grow' g1 ho1 (Nat.le_refl _) hk3
    have ho3 : CF.Own v3 u1.heap.size t_uint16 1 x3 (u16v ((q i).take b ++ (q i).drop (b + 1))) := by rw [u16v_append]; exact ho3
    have hx : x3.n ≤ 8 := by have := ho3.len; rw [u16v_len] at this; omega
    refine ⟨⟨by omega, by omega⟩, (hqd.grow g3).put hi hN (ho3.rdN (by omega) hNd) hokn fun w'' hk hs hq' => hR w'' (keep_grow_first ((g.trans hgd).trans g3) hk) hq'⟩
theorem addAll_spec {but : Int} {c : Nat} {R : World → Prop} (h : IsQ w N qb q) (hc : c < 65536) (hN : N qb) (hNl : ∀ b, N b → b < w.heap.size)
    (hR : ∀ w', Keep (fun k => k = qb) w w' → IsQ w' N qb (fun j => if (j : Int) ≠ but ∧ j < 8 then addA (q j) c else q j) → R w') : Cattn_Queues_AddAll (some ⟨qb, 0, none⟩) but (c : Int) w R := by
  refine Fattn_Queues_AddAll.calls _ _ _ _ _ ?_
  refine ⟨fun x v => ∃ j : Nat, x = j ∧ j ≤ 8 ∧ Keep (fun k => k = qb) w v ∧ IsQ v N qb (fun t : Nat => if (t : Int) ≠ but ∧ t < j then addA (q t) c else q t), fun x _ => 8 - x.toNat, ⟨0, rfl, by decide, Keep.refl _ _, ?_⟩, ?_⟩
  · have : (fun t : Nat => if (t : Int) ≠ but ∧ t < 0 then addA (q t) c else q t) = q := by funext t; rw [if_neg (by omega)]
    rw [this]; exact h
  rintro x v ⟨j, rfl, hj, hk, hq⟩
  refine br_nat (y := 8) (fun hlt => ?_) (fun hge => ?_)
  · refine letX0 (fun v' => Keep (fun k => k = qb) w v' ∧ IsQ v' N qb (fun t => if (t : Int) ≠ but ∧ t < j + 1 then addA (q t) c else q t)) (fun v' hv => ?_) (fun J => ?_)
    · rw [w64 (by omega) (by omega)]
      exact ⟨⟨j + 1, by omega, by omega, hv.1, hv.2⟩, by dsimp only; omega⟩
    · refine br_ne (fun hne => ?_) (fun he => ?_)
      · refine add_spec hq hlt hc hN (fun b hb => by have := hNl b hb; have := hk.size; omega) fun v' hk' hq' => J _ ⟨hk.trans hk' fun _ _ q => q, ?_⟩
        have : (fun t : Nat => if t = j then addA (if (j : Int) ≠ but ∧ j < j then addA (q j) c else q j) c else if (t : Int) ≠ but ∧ t < j then addA (q t) c else q t) = (fun t : Nat => if (t : Int) ≠ but ∧ t < j + 1 then addA (q t) c else q t) := by
          funext t
          by_cases e : t = j
          · subst e; rw [if_pos rfl, if_neg (by omega), if_pos ⟨hne, by omega⟩]
          · rw [if_neg e]
            by_cases e2 : (t : Int) ≠ but ∧ t < j
            · rw [if_pos e2, if_pos ⟨e2.1, by omega⟩]
            · rw [if_neg e2, if_neg (by omega)]
        rw [← this]; exact hq'
      · refine J _ ⟨hk, ?_⟩
        have : (fun t : Nat => if (t : Int) ≠ but ∧ t < j then addA (q t) c else q t) = (fun t : Nat => if (t : Int) ≠ but ∧ t < j + 1 then addA (q t) c else q t) := by
          funext t
          by_cases e2 : (t : Int) ≠ but ∧ t < j
          · rw [if_pos e2, if_pos ⟨e2.1, by omega⟩]
          · rw [if_neg e2, if_neg (by omega)]
        rw [← this]; exact hq
  · have : j = 8 := by omega
    subst this
    exact hR v hk hq
end
end Go.Proofs.YtpmebahhjgkflaaGreatDoor

/- Layers 10 and 12: registrations and pages; what stands of them. -/
namespace Go.Proofs.YtpmebahhjgkflaaGreatDoor
open Go CF
set_option maxRecDepth 100000

/-! ### the table -/
structure TabS where
  regs : List (Nat × Nat)
  gen : Nat
  kind : Nat
  holder : Int
  lasts : Bool
def rgc (r : Nat × Nat) : List Value := [.int .i64 (r.1 : Int), .int .u64 (r.2 : Int)]
theorem rgc_len (r : Nat × Nat) : (rgc r).length = 2 := rfl
def rgv (l : List (Nat × Nat)) : List Value := l.flatMap rgc
def tcells (s : Sl) (t : TabS) : Array Value := #[.slice s.A s.n s.c, .int .u32 (t.gen : Int), .int .u8 (t.kind : Int), .int .i64 t.holder, .bool t.lasts]
structure TabOk (t : TabS) : Prop where
  few : t.regs.length ≤ 8
  sorted : t.regs.Pairwise fun a b => a.1 < b.1
  regs : ∀ r ∈ t.regs, r.1 < 8 ∧ 0 < r.2 ∧ r.2 < 18446744073709551616
  gen : t.gen < 4294967296
  kind : t.kind < 256
  holder : -1 ≤ t.holder ∧ t.holder < 8
structure IsT (w : World) (N : Nat → Prop) (tb : Nat) (t : TabS) : Prop where
  rep : ∃ s : Sl, Blk w tb (tcells s t) t_pr_Table ∧ RdN w N t_api_Reg 2 s (rgv t.regs)
  ok : TabOk t
def t0 : TabS := ⟨[], 0, 0, -1, false⟩
def allK (k : Nat) : Bool := k == 7 || k == 8
def typesK (k : Nat) : Bool := k == 1 || k == 3 || (Nat.ble 5 k && Nat.ble k 8)
def keyT (t : TabS) (n : Nat) : Option Nat := (t.regs.find? fun r => r.1 == n).map (·.2)
def holdsT (t : TabS) (n : Nat) : Bool := if t.kind = 0 then false else if allK t.kind then (keyT t n).isSome else decide (t.holder = n)
def conflictT (t : TabS) (n c : Nat) : Bool :=
  if t.kind = 0 ∨ c = 0 ∨ holdsT t n = true then false
  else if t.kind = 1 then decide (c ≠ 1) else if t.kind = 3 then true else if t.kind = 5 ∨ t.kind = 7 then decide (c ≠ 1) && !(keyT t n).isSome else !(keyT t n).isSome
def reservedT (t : TabS) : Nat × Int := if t.kind = 0 then (0, -1) else if allK t.kind then (t.kind, -1) else (t.kind, t.holder)
/-! ### the pages -/
structure Vals where
  wce : Bool
  ds : Bool
  swp : Bool
def vlv (v : Vals) : List Value := [.bool v.wce, .bool v.ds, .bool v.swp]
abbrev IsP (w : World) (pb : Nat) (now saved : Vals) : Prop := Blk w pb (vlv now ++ vlv saved).toArray t_mode_Pages
def v0 : Vals := ⟨true, false, false⟩
def classX (k : Nat) : Nat := if k = 1 ∨ k = 7 ∨ k = 10 ∨ k = 5 then 1 else if k = 8 ∨ k = 9 ∨ k = 12 ∨ k = 13 ∨ k = 14 ∨ k = 4 ∨ k = 11 ∨ k = 18 then 2 else 0
def altersX (k : Nat) : Bool := decide (k = 8 ∨ k = 9 ∨ k = 12 ∨ k = 13 ∨ k = 14)
section
variable {w u : World} {N N' S : Nat → Prop} {tb n : Nat} {t : TabS}
theorem IsT.step (h : IsT w N tb t) (k : Keep S w u) (hS : Safe w N S) (hq : ¬ S tb) (hN : ∀ b, N' b → N b ∨ w.heap.size ≤ b) : IsT u N' tb t := by
  obtain ⟨⟨s, h1, h2⟩, h3⟩ := h
  exact ⟨⟨s, k.heap h1 hq, h2.step (.inr (.inl rfl)) k hS hN⟩, h3⟩
theorem IsT.grow (h : IsT w N tb t) (k : Grow w u) : IsT u N tb t := h.step k (Safe.none _ _) (fun q => q) fun _ q => .inl q
theorem IsT.lt (h : IsT w N tb t) : tb < w.heap.size := by obtain ⟨⟨s, h1, h2⟩, h3⟩ := h; exact lt_of_heap h1
theorem tabOk0 : TabOk t0 := ⟨by decide, List.Pairwise.nil, fun r hr => (by cases hr), by decide, by decide, by decide⟩
theorem t_cell {s : Sl} (h : Blk w tb (tcells s t) t_pr_Table) {o : Nat} {v : Value} (e : (tcells s t)[o]? = some v) : w.cell? ((gA (some (⟨tb, 0, none⟩ : Addr))).add o) = some v := by
  rw [gA, add0, h.cell, Nat.zero_add]; exact e
theorem rgv_len (l : List (Nat × Nat)) : (rgv l).length = l.length * 2 := flat_length rgc_len l
theorem rd_reg {s : Sl} {l : List (Nat × Nat)} (h : Rd w 2 s (rgv l)) {i : Nat} (hi : i < l.length) : ∃ a, s.A = some a ∧ Cells w (a.add (i * 2)) (rgc l[i]) := by
  have hn : i < s.n := by have := h.len; rw [rgv_len] at this; omega
  obtain ⟨a, ha, hc⟩ := h.elem hn (by decide)
  refine ⟨a, ha, ?_⟩
  have := flat_elem rgc_len (l := l) hi
  unfold rgv at hc
  rw [this] at hc; exact hc
theorem key_spec10 {R : Int → Bool → World → Prop} (h : IsT w N tb t) (hR : ∀ w', Grow w w' → match keyT t n with | some k => R (k : Int) true w' | none => R 0 false w') : Cpr_Table_key (some ⟨tb, 0, none⟩) (n : Int) w R := by
  refine Fpr_Table_key.calls _ _ _ _ ?_
  obtain ⟨⟨s, h1, h2⟩, h3⟩ := h
  have hsn : t.regs.length = s.n := by have := h2.rd.len; rw [rgv_len] at this; omega
  have hfew := h3.few
  refine ⟨rfl, s, t_cell h1 rfl, ?_⟩
  refine ⟨fun x v => ∃ j : Nat, x = j ∧ j ≤ t.regs.length ∧ Grow w v ∧ (t.regs.find? fun r => r.1 == n) = ((t.regs.drop j).find? fun r => r.1 == n), fun x _ => s.n - x.toNat, ⟨0, rfl, Nat.zero_le _, Keep.refl _ _, rfl⟩, ?_⟩
  rintro x v ⟨j, rfl, hj, hg, he⟩
  refine br_nat (fun hlt => ?_) (fun hge => ?_)
  · have hjl : j < t.regs.length := by omega
    rw [List.drop_eq_getElem_cons hjl] at he
    obtain ⟨a, ha, hc⟩ := rd_reg (h2.rd.grow hg) hjl
    refine ⟨⟨by omega, by omega, by rw [ha]; rfl⟩, (rgc t.regs[j]).toArray, by rw [ha, Int.toNat_natCast]; exact loadVar_rule g_api_Reg i_api_Reg rfl hc, ?_⟩
    refine new_rule fun rb v1 hrb hb1 hg1 hs1 => storeVar_rule (cells := (rgc t.regs[j]).toArray) hb1 i_api_Reg rfl rfl (by simp [rgc, Value.oneCell']) fun v2 hb2 hk2 hs2 => ?_
    have hg2 : Grow v v2 := hg1.keep hk2 fun i hi q => by omega
    refine ⟨(t.regs[j].1 : Int), by rw [add0, hb2.cell]; rfl, ?_⟩
    refine br_eq (fun e => ?_) (fun e => ?_)
    · refine ⟨(t.regs[j].2 : Int), by rw [add0, hb2.cell]; rfl, ?_⟩
      have hR := hR v2 (hg.trans hg2)
      have e2 : (t.regs[j].1 == n) = true := by rw [beq_iff_eq]; omega
      have : keyT t n = some t.regs[j].2 := by unfold keyT; rw [he, List.find?_cons, e2]; rfl
      rw [this] at hR; exact hR
    · have e2 : (t.regs[j].1 == n) = false := by rw [beq_eq_false_iff_ne]; omega
      rw [List.find?_cons, e2] at he
      rw [w64 (by omega) (by omega)]
      exact ⟨⟨j + 1, by omega, by omega, hg.trans hg2, he⟩, by dsimp only; omega⟩
  · have : j = t.regs.length := by omega
    subst this
    rw [List.drop_length] at he
    have hR := hR v hg
    have : keyT t n = none := by unfold keyT; rw [he]; rfl
    rw [this] at hR; exact hR
theorem all_spec10 {k : Nat} {R : Bool → World → Prop} (h : R (allK k) w) : Cpr_All (k : Int) w R := by
  refine Fpr_All.calls _ _ _ ?_
  unfold Fpr_All
  have e : (((k : Int) == 7) || ((k : Int) == 8)) = allK k := by unfold allK; rw [Bool.eq_iff_iff]; simp only [Bool.or_eq_true, beq_iff_eq]; omega
  rw [e]; exact h
theorem holds_spec10 {R : Bool → World → Prop} (h : IsT w N tb t) (hR : ∀ w', Grow w w' → R (holdsT t n) w') : Cpr_Table_Holds (some ⟨tb, 0, none⟩) (n : Int) w R := by
  refine Fpr_Table_Holds.calls _ _ _ _ ?_
  have hT := h
  obtain ⟨⟨s, h1, h2⟩, h3⟩ := h
  refine ⟨fun _ => rfl, (t.kind : Int), fun _ => t_cell h1 rfl, ?_⟩
  unfold holdsT at hR
  have e0 : ((some (⟨tb, 0, none⟩ : Addr)).isNone || ((t.kind : Int) == 0)) = decide (t.kind = 0) := by rw [Bool.eq_iff_iff]; simp
  rw [e0]
  refine br_dec (fun q => ?_) (fun q => ?_)
  · have := hR w (Keep.refl _ _); rw [if_pos q] at this; exact this
  refine ⟨rfl, (t.kind : Int), t_cell h1 rfl, all_spec10 ?_⟩
  cases ha : allK t.kind with
  | true =>
    refine br_t rfl (key_spec10 hT fun w' g => ?_)
    have := hR w' g
    rw [if_neg q, ha, if_pos rfl] at this
    cases hk : keyT t n with
    | some k => rw [hk] at this; exact this
    | none => rw [hk] at this; exact this
  | false =>
    refine br_f rfl ⟨rfl, t.holder, t_cell h1 rfl, ?_⟩
    have := hR w (Keep.refl _ _)
    rw [if_neg q, ha, if_neg (by decide)] at this
    have e : (t.holder == (n : Int)) = decide (t.holder = n) := rfl
    rw [e]; exact this
theorem conflict_spec {c : Nat} {R : Bool → World → Prop} (h : IsT w N tb t) (hR : ∀ w', Grow w w' → R (conflictT t n c) w') : Cpr_Table_Conflict (some ⟨tb, 0, none⟩) (n : Int) (c : Int) w R := by
  refine Fpr_Table_Conflict.calls _ _ _ _ _ ?_
  have hT := h
  obtain ⟨⟨s, h1, h2⟩, h3⟩ := h
  refine ⟨fun _ => rfl, (t.kind : Int), fun _ => t_cell h1 rfl, ?_⟩
  have e0 : ((((some (⟨tb, 0, none⟩ : Addr)).isNone) || ((t.kind : Int) == 0)) || ((c : Int) == 0)) = decide (t.kind = 0 ∨ c = 0) := by rw [Bool.eq_iff_iff]; simp
  rw [e0]
  refine letJ1 (fun b v => Grow w v ∧ (t.kind = 0 ∨ c = 0 ∨ b = holdsT t n)) ?_ (fun J => ⟨fun q => ?_, fun q => ?_⟩)
  · rintro b v ⟨hg, hb⟩
    have hR' := hR
    unfold conflictT at hR'
    by_cases q : t.kind = 0 ∨ c = 0 ∨ holdsT t n = true
    · have := hR' v hg
      rw [if_pos q] at this
      refine br_t ?_ this
      rw [Bool.or_eq_true, decide_eq_true_eq]
      rcases q with q | q | q
      · exact .inl (.inl q)
      · exact .inl (.inr q)
      · rcases hb with hb | hb | hb
        · exact .inl (.inl hb)
        · exact .inl (.inr hb)
        · exact .inr (hb.trans q)
    · have hk0 : t.kind ≠ 0 := fun r => q (.inl r)
      have hc0 : c ≠ 0 := fun r => q (.inr (.inl r))
      have hb' : b = holdsT t n := by rcases hb with hb | hb | hb; exact absurd hb hk0; exact absurd hb hc0; exact hb
      have hbf : b = false := by rw [hb']; cases hh : holdsT t n with | true => exact absurd (.inr (.inr hh)) q | false => rfl
      refine br_f (by rw [hbf, Bool.or_false, decide_eq_false_iff_not]; omega) ?_
      refine key_spec10 (hT.grow hg) fun v' g => ?_
      have hf := hR' v' (hg.trans g)
      rw [if_neg q] at hf
      have h1' : Blk v' tb (tcells s t) t_pr_Table := (hg.trans g).heap h1 (fun q => q)
      have ec : ((c : Int) != 1) = decide (c ≠ 1) := by rw [Bool.eq_iff_iff, bne_iff_ne, decide_eq_true_eq]; omega
      have fin : ∀ {m : Int} {b1 : Bool}, b1 = (keyT t n).isSome → (some (⟨tb, 0, none⟩ : Addr)).isSome = true ∧ ∃ n2 : Int, v'.cell? ((gA (some (⟨tb, 0, none⟩ : Addr))).add 2) = some (.int .u8 n2) ∧ Br (n2 == 1) (R ((c : Int) != 1) v') (Br (n2 == 3) (R true v') (Br (n2 == 5) (Br (n2 == 5) (R (((c : Int) != 1) && (!b1)) v') (R (!b1) v')) (Br (n2 == 7) (R (((c : Int) != 1) && (!b1)) v') (R (!b1) v')))) := fun {m b1} e => by
        refine ⟨rfl, (t.kind : Int), t_cell h1' rfl, ?_⟩
        rw [e, ec]
        refine br_eq (fun k => ?_) (fun k1 => br_eq (fun k => ?_) (fun k3 => br_eq (fun k => br_t (by rw [beq_iff_eq]; exact k) ?_) (fun k5 => br_eq (fun k => ?_) (fun k7 => ?_))))
        · rw [if_pos (by omega)] at hf; exact hf
        · rw [if_neg (by omega), if_pos (by omega)] at hf; exact hf
        · rw [if_neg (by omega), if_neg (by omega), if_pos (by omega)] at hf; exact hf
        · rw [if_neg (by omega), if_neg (by omega), if_pos (by omega)] at hf; exact hf
        · rw [if_neg (by omega), if_neg (by omega), if_neg (by omega)] at hf; exact hf
      cases hk : keyT t n with
      | some k => exact fin (m := 0) (by rw [hk]; rfl)
      | none => exact fin (m := 0) (by rw [hk]; rfl)
  · have q' : ¬ (t.kind = 0 ∨ c = 0) := by simpa using q
    exact holds_spec10 hT fun v g => J _ _ ⟨g, .inr (.inr rfl)⟩
  · have q' : t.kind = 0 ∨ c = 0 := by
      rw [Bool.not_eq_false', decide_eq_true_eq] at q; exact q
    exact J _ _ ⟨Keep.refl _ _, by rcases q' with q' | q'; exact .inl q'; exact .inr (.inl q')⟩
theorem reserved_spec10 {R : Int → Int → World → Prop} (h : IsT w N tb t) (hR : ∀ w', Grow w w' → R ((reservedT t).1 : Int) (reservedT t).2 w') : Cpr_Table_Reserved (some ⟨tb, 0, none⟩) w R := by
  refine Fpr_Table_Reserved.calls _ _ _ ?_
  obtain ⟨⟨s, h1, h2⟩, h3⟩ := h
  refine ⟨fun _ => rfl, (t.kind : Int), fun _ => t_cell h1 rfl, ?_⟩
  unfold reservedT at hR
  have e0 : ((some (⟨tb, 0, none⟩ : Addr)).isNone || ((t.kind : Int) == 0)) = decide (t.kind = 0) := by rw [Bool.eq_iff_iff]; simp
  rw [e0]
  refine br_dec (fun q => ?_) (fun q => ?_)
  · have := hR w (Keep.refl _ _); rw [if_pos q] at this; exact this
  refine ⟨rfl, (t.kind : Int), t_cell h1 rfl, all_spec10 ?_⟩
  cases ha : allK t.kind with
  | true =>
    refine br_t rfl ⟨rfl, (t.kind : Int), t_cell h1 rfl, ?_⟩
    have := hR w (Keep.refl _ _); rw [if_neg q, ha, if_pos rfl] at this; exact this
  | false =>
    refine br_f rfl ?_
    rintro v rfl
    have hg := keep_drew w
    have h1' : Blk w.drew tb (tcells s t) t_pr_Table := hg.heap h1 (fun q => q)
    generalize w.drew = v at *
    refine ⟨fun o => o = v, rfl, rfl, (t.kind : Int), fun o e => by rw [e]; exact t_cell h1' rfl, rfl, t.holder, fun o e => by rw [e]; exact t_cell h1' rfl, ?_⟩
    have := hR v hg; rw [if_neg q, ha, if_neg (by decide)] at this; exact this
theorem default_spec {R : Array Value → World → Prop} (hR : ∀ w', Grow w w' → R (vlv v0).toArray w') : Cmode_Default w R := by
  refine Fmode_Default.calls _ _ (new_rule fun ab w1 hab hb1 hg1 hs1 => ?_)
  exact storeVar_rule (cells := (vlv v0).toArray) hb1 i_mode_Values rfl rfl (by simp [vlv, Value.oneCell']) fun w2 hb2 hk2 hs2 => ⟨_, loadVar_rule g_mode_Values i_mode_Values rfl (blk_cells hb2), hR w2 (hg1.keep hk2 fun i hi q => by omega)⟩
theorem pages_build (u : World) (a b c : Bool) : (Instr.build t_mode_Pages #[(0, .agg (vlv ⟨a, b, c⟩).toArray), (1, .agg (vlv ⟨a, b, c⟩).toArray)]).run Tryz.prog u = .ok (.agg (vlv ⟨a, b, c⟩ ++ vlv ⟨a, b, c⟩).toArray) u := by kernel_rfl
theorem mode_new_spec {v : Vals} {R : Option Addr → World → Prop} (hR : ∀ pb w', Grow w w' → w.heap.size ≤ pb → IsP w' pb v v → R (some ⟨pb, 0, none⟩) w') : Cmode_New (vlv v).toArray w R := by
  refine Fmode_New.calls _ _ _ (new_rule fun ab w1 hab hb1 hg1 hs1 => ?_)
  have hl : (loadVar t_mode_Values ⟨ab, 0, none⟩).run Tryz.prog w1 = .ok (.agg (vlv v).toArray) w1 := loadVar_rule (cs := vlv v) g_mode_Values i_mode_Values rfl (blk_cells hb1)
  refine ⟨_, hl, _, hl, _, pages_build _ v.wce v.ds v.swp, new_rule fun pb w2 hpb hb2 hg2 hs2 => ?_⟩
  exact hR pb w2 (hg1.trans hg2) (by omega) hb2
theorem now_spec {pb : Nat} {now saved : Vals} {R : Array Value → World → Prop} (h : IsP w pb now saved) (hR : ∀ w', Grow w w' → R (vlv now).toArray w') : Cmode_Pages_Now (some ⟨pb, 0, none⟩) w R := by
  refine Fmode_Pages_Now.calls _ _ _ (new_rule fun ab w1 hab hb1 hg1 hs1 => br_f rfl ?_)
  have hp1 : Blk w1 pb (vlv now ++ vlv saved).toArray t_mode_Pages := hg1.heap h (fun q => q)
  refine ⟨rfl, (vlv now).toArray, loadVar_rule g_mode_Values i_mode_Values rfl (fun j v hj => ?_), ?_⟩
  · rw [gA, add0, add0, hp1.cell, Nat.zero_add, List.getElem?_toArray]
    exact (List.getElem?_append_left (List.getElem?_eq_some_iff.1 hj).1).trans hj
  · exact storeVar_rule (cells := (vlv now).toArray) hb1 i_mode_Values rfl rfl (by simp [vlv, Value.oneCell']) fun w2 hb2 hk2 hs2 => ⟨_, loadVar_rule g_mode_Values i_mode_Values rfl (blk_cells hb2), hR w2 (hg1.keep hk2 fun i hi q => by omega)⟩
end
end Go.Proofs.YtpmebahhjgkflaaGreatDoor

/- Layer 5: what slots say. -/
namespace Go.Proofs.YtpmebahhjgkflaaGreatDoor
open Go CF
set_option maxRecDepth 100000

/-- none is saved -/
def NoneS (F : Files) (file : ByteArray) : Prop := ∀ i, i < 2 → (decS (slFile F file i)).2.2 ≠ 0
theorem ldN_two (F : Files) (file : ByteArray) : ldN F file 2 = ldStep (ldStep (-1, 0, []) 0 (slFile F file 0)) 1 (slFile F file 1) := rfl
theorem ldN_noneS {F : Files} {file : ByteArray} (h : NoneS F file) : ldN F file 2 = (-1, 0, []) := by
  rw [ldN_two]
  have h0 := h 0 (by decide)
  have h1 := h 1 (by decide)
  have e : ldStep (-1, 0, []) 0 (slFile F file 0) = (-1, 0, []) := if_neg (fun q => h0 q.1)
  rw [e]
  exact if_neg (fun q => h1 q.1)
theorem noneS_nil (file : ByteArray) : NoneS (fun _ => none) file := fun i _ => by
  show (decS []).2.2 ≠ 0
  decide
end Go.Proofs.YtpmebahhjgkflaaGreatDoor

/- Layer 5: the law of turns. -/
namespace Go.Proofs.YtpmebahhjgkflaaGreatDoor
open Go CF
set_option maxRecDepth 100000

def bo (b : Bool) : List Value := [.bool b]
section
variable {H : Type} {enc : TypeId × Value → H} {w : World} {base : Nat} {spare : Nat → Bool} {held : Bool}
end
end Go.Proofs.YtpmebahhjgkflaaGreatDoor

/- sync.Once and the atomic numbers, one goroutine. -/
namespace Go.Proofs.YtpmebahhjgkflaaGreatDoor
open Go CF
set_option maxRecDepth 100000
theorem sy_disable (w : World) : (callFunc 288 #[]).run Tryz.prog w = .ok (.value (.tuple #[])) w := run_call_mark0 Tryz.func288 (by kernel_rfl) (by kernel_rfl) (by kernel_rfl) .disable (by kernel_rfl) w
theorem sy_enable (w : World) : (callFunc 290 #[]).run Tryz.prog w = .ok (.value (.tuple #[])) w := run_call_mark0 Tryz.func290 (by kernel_rfl) (by kernel_rfl) (by kernel_rfl) .enable (by kernel_rfl) w
theorem sy_acquire (a : Addr) (w : World) : (callFunc 291 #[.pointer (some a)]).run Tryz.prog w = .ok (.value (.tuple #[])) w := run_call_marked Tryz.func291 (by kernel_rfl) (by kernel_rfl) (by kernel_rfl) .acquire (by kernel_rfl) a w
theorem sy_merge (a : Addr) (w : World) : (callFunc 293 #[.pointer (some a)]).run Tryz.prog w = .ok (.value (.tuple #[])) w := run_call_marked Tryz.func293 (by kernel_rfl) (by kernel_rfl) (by kernel_rfl) .releaseMerge (by kernel_rfl) a w
theorem sy_store (a : Addr) (x : Value) (u : FrameMode) (w : World) (hc : w.cell? a = some x) (hz : w.frozen? a = false) :
    CallsD Tryz.prog 204 #[.pointer (some a), .bool true] u w fun e u' w' => u' = u ∧ (e = .returned (.tuple #[]) ∧ w' = w.drew.setCell a (.int .u32 1)) := by
  have hc' : w.drew.cell? a = some x := by go_simp
  have hz' : w.drew.frozen? a = false := by go_simp
  have hst := run_call_store (P := Tryz.prog) Tryz.func260 (by kernel_rfl) (by kernel_rfl) (by kernel_rfl) (by kernel_rfl) (k := .u32) (y := 1) hc' hz'
  go_enter_d Tryz.func204, Tryz.ntmps204
  go_wp2
  go_region_calls
  all_goals (go_end0; exact ⟨rfl, rfl⟩)
set_option maxRecDepth 100000 in
set_option maxHeartbeats 1600000 in
theorem sy_unlock (a : Addr) (u : FrameMode) (w : World) (hc : w.cell? a = some (.int .i32 1)) (hz : w.frozen? a = false) :
    CallsD Tryz.prog 203 #[.pointer (some a)] u w fun e u' w' => u' = u ∧ (e = .returned (.tuple #[]) ∧ w' = w.setCell a (.int .i32 0)) := by
  have hd := sy_disable
  have he := sy_enable
  have hr := sy_merge
  have hadd := run_call_add (P := Tryz.prog) Tryz.func294 (by kernel_rfl) (by kernel_rfl) (by kernel_rfl) .i32 (by kernel_rfl) (y := -1) (s := 0) hc hz (by simp [go_sem]; rfl)
  have hcv := run_convert_to_unsafe (P := Tryz.prog) (src := 403) (dst := 407) Tryz.underlying403 Tryz.underlying407 (by kernel_rfl) hc
  go_enter_d Tryz.func203, Tryz.ntmps203
  go_wp2
  go_end0
  go_wp2
  go_end0
  exact ⟨rfl, rfl⟩
set_option maxRecDepth 100000 in
set_option maxHeartbeats 1600000 in
theorem sy_lock (a : Addr) (w : World) (hc : w.cell? a = some (.int .i32 0)) (hz : w.frozen? a = false) :
    Calls Tryz.prog 202 #[.pointer (some a)] w fun e w' => e = .returned (.tuple #[]) ∧ w' = w.setCell a (.int .i32 1) := by
  have hd := sy_disable
  have he := sy_enable
  have ha := sy_acquire
  have hcas := run_call_cas_hit (P := Tryz.prog) Tryz.func289 (by kernel_rfl) (by kernel_rfl) (by kernel_rfl) .i32 (by kernel_rfl) (y := 1) hc hz
  have hc' : (w.setCell a (.int .i32 1)).cell? a = some (.int .i32 1) := World.cell?_setCell_same w a _ hc
  have hcv := run_convert_to_unsafe (P := Tryz.prog) (src := 403) (dst := 407) Tryz.underlying403 Tryz.underlying407 (by kernel_rfl) hc'
  go_enter Tryz.func202, Tryz.ntmps202
  go_wp2
  first | go_end0 | (simp only [Exit.inBlock, Exit.then]; refine bodyPost_ret (results_none rfl _ _ _) rfl ?_) | refine bodyPost_ret (results_none rfl _ _ _) rfl ?_
  go_wp2
  go_end0
  exact ⟨rfl, rfl⟩
theorem sy_load (a : Addr) (d : Int) (w : World) (h : w.cell? a = some (.int .u32 d)) : Calls Tryz.prog 121 #[.pointer (some a)] w fun e w' => e = .returned (.bool (d != 0)) ∧ w' = w := by
  have hl := run_call_load (P := Tryz.prog) Tryz.func201 (by kernel_rfl) (by kernel_rfl) (by kernel_rfl) .u32 (by kernel_rfl) h
  go_enter Tryz.func121, Tryz.ntmps121
  go_wp2
  go_ret
  exact ⟨rfl, rfl⟩
theorem sy_add64 (a : Addr) (d y s : Int) (w : World) (h : w.cell? a = some (.int .i64 d)) (hz : w.frozen? a = false) (hs : IntKind.wrap .i64 (d + y) = s) : Calls Tryz.prog 42 #[.pointer (some a), .int .i64 y] w fun e w' => e = .returned (.int .i64 s) ∧ w' = w.setCell a (.int .i64 s) := by
  have hadd := run_call_add (P := Tryz.prog) Tryz.func80 (by kernel_rfl) (by kernel_rfl) (by kernel_rfl) .i64 (by kernel_rfl) (y := y) (s := s) h hz (by rw [← hs]; simp [go_sem])
  go_enter Tryz.func42, Tryz.ntmps42
  go_wp2
  go_ret
  exact ⟨rfl, rfl⟩
set_option maxRecDepth 100000 in
set_option maxHeartbeats 1600000 in
/-- what a call of doSlow finds and leaves: the function is called while the lock is held -/
theorem sy_slow (b off : Nat) (pl : Addr) (w : World) (Q : World → Prop)
    (h0 : w.cell? ⟨b, off, none⟩ = some (.int .u32 0)) (h1 : w.cell? ⟨b, off + 1, none⟩ = some (.int .i32 0)) (f1 : w.frozen? ⟨b, off + 1, none⟩ = false)
    (hf : Calls Tryz.prog 61 #[.pointer (some pl)] (w.setCell ⟨b, off + 1, none⟩ (.int .i32 1)) fun e w' => e = .returned (.tuple #[]) ∧ Q w')
    (hq : ∀ w', Q w' → w'.cell? ⟨b, off, none⟩ = some (.int .u32 0) ∧ w'.cell? ⟨b, off + 1, none⟩ = some (.int .i32 1) ∧ w'.frozen? ⟨b, off, none⟩ = false ∧ w'.frozen? ⟨b, off + 1, none⟩ = false) :
    Calls Tryz.prog 122 #[.pointer (some ⟨b, off, none⟩), .func (.func 61) #[] #[.pointer (some pl)]] w fun e w' => e = .returned (.tuple #[]) ∧
      ∃ v, Q v ∧ w' = (v.drew.setCell ⟨b, off, none⟩ (.int .u32 1)).setCell ⟨b, off + 1, none⟩ (.int .i32 0) := by
  have hl := sy_load ⟨b, off, none⟩ 0 (w.setCell ⟨b, off + 1, none⟩ (.int .i32 1)) ((World.cell?_setCell_other _ ⟨b, off + 1, none⟩ ⟨b, off, none⟩ _ (by simp)).trans h0)
  have hnot : ∀ (x : Bool) (w : World), (Op.unary .not (.bool x)).run Tryz.prog w = .ok (.bool (!x)) w := fun _ _ => rfl
  go_enter_defers Tryz.func122, Tryz.ntmps122
  go_wp2_with (go_at_call 202; refine (sy_lock ⟨b, off + 1, none⟩ _ (by go_simp) (by go_simp)).mono ?_; rintro e w' ⟨rfl, rfl⟩)
  go_wp2_with (go_at_call 121; refine hl.mono ?_; rintro e w' ⟨rfl, rfl⟩)
  go_wp2_with (go_at_call 61; refine hf.mono ?_; rintro e w' ⟨rfl, hv⟩)
  obtain ⟨v0, v1, z0, z1⟩ := hq _ hv
  go_wp2
  -- the two deferred calls, the last laid first
  refine leaves_cons (f := 204) (args := #[.pointer (some ⟨b, off, none⟩), .bool true]) (by simp) (by simp [go_sem]) ?_
  refine (sy_store ⟨b, off, none⟩ (.int .u32 0) .returning _ v0 z0).mono ?_
  rintro e u' w'' ⟨rfl, rfl, rfl⟩
  refine leaves_cons (f := 203) (args := #[.pointer (some ⟨b, off + 1, none⟩)]) (by simp [settle]) (by simp [go_sem]) ?_
  refine (sy_unlock ⟨b, off + 1, none⟩ _ _ ?_ (by simp [z1])).mono ?_
  · refine (World.cell?_setCell_other _ ⟨b, off, none⟩ ⟨b, off + 1, none⟩ _ (by simp)).trans ?_
    rw [World.cell?_drew]
    exact v1
  rintro e u' w'' ⟨rfl, rfl, rfl⟩
  simp [Leaves, settle, results, Tryz.results122]
  exact ⟨_, hv, rfl⟩
end Go.Proofs.YtpmebahhjgkflaaGreatDoor

/- sync.Once and the atomic numbers, as the conditions meet them. -/
namespace Go.Proofs.YtpmebahhjgkflaaGreatDoor
open Go CF
set_option maxRecDepth 100000
theorem add64_spec {b o : Nat} {cs : Array Value} {t : TypeId} {n y s : Int} {w : World} {R : Int → World → Prop} (hb : Blk w b cs t) (h : cs[o]? = some (.int .i64 n)) (hs : IntKind.wrap .i64 (n + y) = s)
    (hR : ∀ w1, Blk w1 b (cs.setIfInBounds o (.int .i64 s)) t → Keep (fun k => k = b) w w1 → w1.heap.size = w.heap.size → R s w1) : Csync_atomic_Int64_Add (some ⟨b, o, none⟩) y w R := by
  refine (sy_add64 ⟨b, o, none⟩ n y s w (by rw [hb.cell]; exact h) (hb.free o) hs).mono ?_
  rintro e w' ⟨rfl, rfl⟩
  exact ⟨s, rfl, hR _ (hb.set o _) (keep_setCell w ⟨b, o, none⟩ _) (by simp)⟩
theorem bool_load_spec {b o : Nat} {cs : Array Value} {t : TypeId} {d : Int} {w : World} {R : Bool → World → Prop} (hb : Blk w b cs t) (h : cs[o]? = some (.int .u32 d)) (hR : R (d != 0) w) : Csync_atomic_Bool_Load (some ⟨b, o, none⟩) w R := by
  refine (sy_load ⟨b, o, none⟩ d w (by rw [hb.cell]; exact h)).mono ?_
  rintro e w' ⟨rfl, rfl⟩
  exact ⟨_, rfl, hR⟩
/-- done already -/
theorem once_done {b o : Nat} {cs : Array Value} {t : TypeId} {f : Value} {w : World} {R : World → Prop} (hb : Blk w b cs t) (h : cs[o]? = some (.int .u32 1)) (hR : R w) : Csync_Once_Do (some ⟨b, o, none⟩) f w R := by
  refine Fsync_Once_Do.calls _ _ _ _ ⟨rfl, ?_⟩
  rw [show (gA (some (⟨b, o, none⟩ : Addr))).add 0 = ⟨b, o, none⟩ from rfl]
  exact bool_load_spec hb h (br_f rfl hR)
/-- the first time: the function is called, with the lock held -/
theorem once_first {b o : Nat} {cs : Array Value} {t : TypeId} {pl : Addr} {w : World} {R : World → Prop} (hb : Blk w b cs t) (h0 : cs[o]? = some (.int .u32 0)) (h1 : cs[o + 1]? = some (.int .i32 0))
    (hf : ∀ w1, Blk w1 b (cs.setIfInBounds (o + 1) (.int .i32 1)) t → Keep (fun k => k = b) w w1 → w1.heap.size = w.heap.size → Cunit_Unit_Start_1 pl w1 fun w2 => ∃ cs2 : Array Value, Blk w2 b cs2 t ∧ cs2[o]? = some (.int .u32 0) ∧ cs2[o + 1]? = some (.int .i32 1) ∧
      ∀ w3, Blk w3 b ((cs2.setIfInBounds o (.int .u32 1)).setIfInBounds (o + 1) (.int .i32 0)) t → Keep (fun k => k = b) w2 w3 → w3.heap.size = w2.heap.size → R w3) :
    Csync_Once_Do (some ⟨b, o, none⟩) (.func (.func 61) #[] #[.pointer (some pl)]) w R := by
  refine Fsync_Once_Do.calls _ _ _ _ ⟨rfl, ?_⟩
  rw [show (gA (some (⟨b, o, none⟩ : Addr))).add 0 = ⟨b, o, none⟩ from rfl]
  refine bool_load_spec hb h0 (br_t rfl ?_)
  have hf' := hf _ (hb.set (o + 1) _) (keep_setCell w ⟨b, o + 1, none⟩ _) (by simp)
  refine (sy_slow b o pl w (fun w2 => ∃ cs2 : Array Value, Blk w2 b cs2 t ∧ cs2[o]? = some (.int .u32 0) ∧ cs2[o + 1]? = some (.int .i32 1) ∧
      ∀ w3, Blk w3 b ((cs2.setIfInBounds o (.int .u32 1)).setIfInBounds (o + 1) (.int .i32 0)) t → Keep (fun k => k = b) w2 w3 → w3.heap.size = w2.heap.size → R w3) (by rw [hb.cell]; exact h0) (by rw [hb.cell]; exact h1) (hb.free _) hf' ?_).mono ?_
  · rintro w2 ⟨cs2, b2, c0, c1, _⟩
    exact ⟨by rw [b2.cell]; exact c0, by rw [b2.cell]; exact c1, b2.free _, b2.free _⟩
  · rintro e w' ⟨rfl, v, ⟨cs2, b2, c0, c1, hk⟩, rfl⟩
    refine ⟨rfl, hk _ ?_ ?_ (by simp)⟩
    · have hd : Blk v.drew b cs2 t := (keep_drew v).heap b2 (fun q => q)
      exact (hd.set o _).set (o + 1) _
    · have k1 := keep_setCell v.drew ⟨b, o, none⟩ (.int .u32 1)
      have k2 := keep_setCell (v.drew.setCell ⟨b, o, none⟩ (.int .u32 1)) ⟨b, o + 1, none⟩ (.int .i32 0)
      exact (((keep_drew v).mono fun _ _ q => q.elim).trans k1 fun _ _ q => q).trans k2 fun _ _ q => q
end Go.Proofs.YtpmebahhjgkflaaGreatDoor

/- Layer 16: a unit in memory; units over one world. -/
namespace Go.Proofs.YtpmebahhjgkflaaGreatDoor
open Go CF
set_option maxRecDepth 100000

structure InfS where
  v : ByteArray
  p : ByteArray
  r : ByteArray
  s : ByteArray
  prot : Nat
def infv (i : InfS) : List Value := [.string i.v, .string i.p, .string i.r, .string i.s, .int .u8 (i.prot : Int)]
/-- what a unit knows -/
structure USt where
  inf : InfS
  file : ByteArray
  keepf : ByteArray
  n : Nat
  cache : Bool
  sure : Bool
  at_ : Int
  gen : Nat
  now : Vals
  saved : Vals
  tab : TabS
  q : Nat → List Nat
  peers : List Nat
  on : Nat
  lock : Nat
  fault : Nat
  count : Nat
/-- where it lies -/
structure UA where
  ub : Nat
  dv : Nat
  ps : Nat
  sl : Nat
  pg : Nat
  tb : Nat
  qb : Nat
def UA.set (a : UA) (k : Nat) : Prop := k = a.ub ∨ k = a.dv ∨ k = a.ps ∨ k = a.sl ∨ k = a.pg ∨ k = a.tb ∨ k = a.qb
def ptr (b : Nat) : Value := .pointer (some ⟨b, 0, none⟩)
def ucells (a : UA) (P : Sl) (s : USt) : Array Value := #[.string s.inf.v, .string s.inf.p, .string s.inf.r, .string s.inf.s, .int .u8 (s.inf.prot : Int), ptr a.dv, ptr a.sl, ptr a.pg, ptr a.tb, ptr a.qb, .slice P.A P.n P.c, .int .u32 (s.on : Int), .int .i32 (s.lock : Int), .int .u32 0, .int .i64 (s.fault : Int), .int .i64 (s.count : Int)]
structure IsU (w : World) (N : Nat → Prop) (pw : Nat) (a : UA) (s : USt) : Prop where
  unit : ∃ P : Sl, Blk w a.ub (ucells a P s) t_unit_Unit ∧ RdN w N t_p_unit_Unit 1 P (s.peers.map ptr)
  dev : Blk w a.dv (dvcells a.ps s.inf.prot) t_sbc_Dev
  store : IsS w a.ps pw s.file s.n s.cache
  slots : IsSl w a.sl pw s.keepf s.sure s.at_ s.gen
  pages : IsP w a.pg s.now s.saved
  tab : IsT w N a.tb s.tab
  q : IsQ w N a.qb s.q
section
variable {w u v : World} {N N' S : Nat → Prop} {pw i : Nat} {a a' : UA} {s s' : USt} {st st' : Wst} {F : Int → Bool} {ℓ ℓ' ℓ'' : Nat → Option Nat} {us : List (UA × USt)}
theorem IsU.step (h : IsU w N pw a s) (k : Keep S w u) (hS : Safe w N S) (hq : ∀ b, a.set b → ¬ S b) (hN : ∀ b, N' b → N b ∨ w.heap.size ≤ b) : IsU u N' pw a s := by
  obtain ⟨P, h1, h2⟩ := h.unit
  refine ⟨⟨P, k.heap h1 (hq _ (.inl rfl)), h2.step (.inr (.inr rfl)) k hS hN⟩, k.heap h.dev (hq _ (.inr (.inl rfl))), k.heap h.store (hq _ (.inr (.inr (.inl rfl)))), k.heap h.slots (hq _ (.inr (.inr (.inr (.inl rfl))))), k.heap h.pages (hq _ (.inr (.inr (.inr (.inr (.inl rfl)))))),
    h.tab.step k hS (hq _ (.inr (.inr (.inr (.inr (.inr (.inl rfl))))))) hN, h.q.step k hS (hq _ (.inr (.inr (.inr (.inr (.inr (.inr rfl))))))) hN⟩
theorem IsU.grow (h : IsU w N pw a s) (k : Grow w u) : IsU u N pw a s := h.step k (Safe.none _ _) (fun _ _ q => q) fun _ q => .inl q
/-- its blocks have types of their own -/
theorem IsU.typed (h : IsU w N pw a s) {b : Nat} (hb : a.set b) : ∃ cs t, Blk w b cs t ∧ t ≠ t_uint8 := by
  obtain ⟨P, h1, h2⟩ := h.unit
  obtain ⟨⟨T, t1, _⟩, _⟩ := h.tab
  obtain ⟨⟨ss, _, q1, _⟩, _⟩ := h.q
  rcases hb with rfl | rfl | rfl | rfl | rfl | rfl | rfl
  · exact ⟨_, _, h1, by decide⟩
  · exact ⟨_, _, h.dev, by decide⟩
  · exact ⟨_, _, h.store, by decide⟩
  · exact ⟨_, _, h.slots, by decide⟩
  · exact ⟨_, _, h.pages, by decide⟩
  · exact ⟨_, _, t1, by decide⟩
  · exact ⟨_, _, q1, by decide⟩
theorem IsU.noBytes (h : IsU w N pw a s) (hS : ∀ b, b < w.heap.size → S b → a.set b) : NoBytes w S := fun g cur hg q => by
  obtain ⟨cs, t, hb, ht⟩ := h.typed (hS g (lt_of_heap hg) q)
  exact ht (blk_type hb hg)
theorem IsU.lt (h : IsU w N pw a s) {b : Nat} (hb : a.set b) : b < w.heap.size := by
  obtain ⟨cs, t, hb, _⟩ := h.typed hb
  exact lt_of_heap hb
/-- what was moved: blocks that have an owner, and new ones; owners stay -/
structure Mv (w u : World) (ℓ ℓ' : Nat → Option Nat) : Prop where
  keep : Keep (fun k => ℓ k ≠ none) w u
  lab : ∀ k, k < w.heap.size → ℓ' k = ℓ k
theorem Mv.grow (g : Grow w u) : Mv w u ℓ ℓ := ⟨g.mono fun _ _ q => q.elim, fun _ _ => rfl⟩
theorem Mv.refl (w : World) (ℓ : Nat → Option Nat) : Mv w w ℓ ℓ := Mv.grow (Keep.refl _ _)
theorem Mv.trans (h : Mv w u ℓ ℓ') (g : Mv u v ℓ' ℓ'') : Mv w v ℓ ℓ'' := by
  have hs := h.keep.size
  exact ⟨h.keep.trans g.keep fun k hk q => by rw [h.lab k hk] at q; exact q, fun k hk => (g.lab k (by omega)).trans (h.lab k hk)⟩
theorem Mv.go (h : Mv w u ℓ ℓ') (g : Grow u v) : Mv w v ℓ ℓ' := h.trans (Mv.grow g)
/-- a row of the caller's, outside what is owned -/
structure RdX (w : World) (ℓ : Nat → Option Nat) (z : Nat) (s : Sl) (vs : List Value) : Prop where
  rd : Rd w z s vs
  out : vs ≠ [] → ∀ a, s.A = some a → a.block < w.heap.size ∧ ℓ a.block = none
theorem CF.Rd.keepN {S : Nat → Prop} {z : Nat} {p : Sl} {vs : List Value} (h : Rd w z p vs) (k : Keep S w u) (hn : vs ≠ [] → ∀ a, p.A = some a → ¬ S a.block) : Rd u z p vs := by
  by_cases hv : vs = []
  · exact ⟨h.len, h.cap, h.nb, fun q => absurd hv q⟩
  · exact h.keep k fun a ha _ => hn hv a ha
theorem Mv.rdX (h : Mv w u ℓ ℓ') {z : Nat} {p : Sl} {vs : List Value} (hp : RdX w ℓ z p vs) : RdX u ℓ' z p vs :=
  ⟨hp.rd.keepN h.keep fun hv a ha q => q (hp.out hv a ha).2, fun hv a ha => ⟨by have := (hp.out hv a ha).1; have := h.keep.size; omega, by rw [h.lab _ (hp.out hv a ha).1]; exact (hp.out hv a ha).2⟩⟩
theorem Mv.heap (h : Mv w u ℓ ℓ') {b : Nat} {cs : Array Value} {t : TypeId} (hb : Blk w b cs t) (hn : ℓ b = none) : Blk u b cs t := h.keep.heap hb fun q => q hn
/-- units over one world -/
structure Sys (w : World) (ℓ : Nat → Option Nat) (pw : Nat) (st : Wst) (F : Int → Bool) (us : List (UA × USt)) : Prop where
  W : ∃ D, IsWq w pw D st F ∧ ∀ k, D k → ℓ k = some 0
  U : ∀ i (h : i < us.length), IsU w (fun k => ℓ k ≠ none) pw us[i].1 us[i].2 ∧ ∀ k, us[i].1.set k → ℓ k = some (i + 1)
  lt : ∀ k, ℓ k ≠ none → k < w.heap.size
theorem Sys.grow (h : Sys w ℓ pw st F us) (g : Grow w u) : Sys u ℓ pw st F us := by
  obtain ⟨D, h1, h2⟩ := h.W
  exact ⟨⟨D, h1.grow g, h2⟩, fun i hi => ⟨(h.U i hi).1.grow g, (h.U i hi).2⟩, fun k hk => by have := h.lt k hk; have := g.size; omega⟩
/-- a unit has another state -/
theorem Sys.put (h : Sys w ℓ pw st F us) (hi : i < us.length) (k : Keep S w u) (hS : ∀ b, b < w.heap.size → S b → us[i].1.set b) (hU : IsU u (fun k => ℓ k ≠ none) pw us[i].1 s') : Sys u ℓ pw st F (us.set i (us[i].1, s')) := by
  obtain ⟨D, h1, h2⟩ := h.W
  have hnb := (h.U i hi).1.noBytes hS
  have hown := (h.U i hi).2
  refine ⟨⟨D, h1.keep (S := fun b => b < w.heap.size ∧ S b) ⟨k.os, k.tape, k.output, k.size, fun b hb q => k.block b hb fun r => q ⟨hb, r⟩⟩ (fun b hb q => ?_) (fun g cur hg q => hnb g cur hg q.2), h2⟩, fun j hj => ?_, fun b hb => by have := h.lt b hb; have := k.size; omega⟩
  · have := hown b (hS b q.1 q.2)
    rw [h2 b hb] at this
    injection this with this
    omega
  · have hj' : j < us.length := by simpa using hj
    by_cases e : j = i
    · subst e
      rw [List.getElem_set_self]
      exact ⟨hU, hown⟩
    · rw [List.getElem_set_ne (fun q => e q.symm)]
      refine ⟨(h.U j hj').1.step (S := fun b => b < w.heap.size ∧ S b) ⟨k.os, k.tape, k.output, k.size, fun b hb q => k.block b hb fun r => q ⟨hb, r⟩⟩ (Safe.sub fun b hb q => ?_) (fun b hb q => ?_) fun _ q => .inl q, (h.U j hj').2⟩
      · rw [hown b (hS b q.1 q.2)]; exact Option.some_ne_none _
      · have h3 := hown b (hS b q.1 q.2)
        rw [(h.U j hj').2 b hb] at h3
        injection h3 with h3
        omega
theorem Sys.mv (h : Sys w ℓ pw st F us) (hi : i < us.length) (k : Keep S w u) (hS : ∀ b, b < w.heap.size → S b → us[i].1.set b) : Mv w u ℓ ℓ :=
  ⟨⟨k.os, k.tape, k.output, k.size, fun b hb q => k.block b hb fun r => q (by rw [(h.U i hi).2 b (hS b hb r)]; exact Option.some_ne_none _)⟩, fun _ _ => rfl⟩
open Classical in
/-- a unit has another state, and other places -/
theorem Sys.move (h : Sys w ℓ pw st F us) (hi : i < us.length) (k : Keep S w u) (hS : ∀ b, b < w.heap.size → S b → us[i].1.set b) (ha : ∀ b, a'.set b → us[i].1.set b ∨ w.heap.size ≤ b)
    (hU : ∀ N : Nat → Prop, (∀ b, N b → ℓ b ≠ none ∨ (w.heap.size ≤ b ∧ a'.set b)) → IsU u N pw a' s') : ∃ ℓ', Mv w u ℓ ℓ' ∧ Sys u ℓ' pw st F (us.set i (a', s')) := by
  have hsz := k.size
  have hown := (h.U i hi).2
  have hnb := (h.U i hi).1.noBytes hS
  have hN : ∀ b, (if w.heap.size ≤ b ∧ a'.set b then some (i + 1) else ℓ b) ≠ none → ℓ b ≠ none ∨ (w.heap.size ≤ b ∧ a'.set b) := fun b hb => by
    by_cases r : w.heap.size ≤ b ∧ a'.set b
    · exact .inr r
    · rw [if_neg r] at hb; exact .inl hb
  have hU' := hU (fun b => (if w.heap.size ≤ b ∧ a'.set b then some (i + 1) else ℓ b) ≠ none) hN
  have k' : Keep (fun b => b < w.heap.size ∧ S b) w u := ⟨k.os, k.tape, k.output, k.size, fun b hb q => k.block b hb fun r => q ⟨hb, r⟩⟩
  obtain ⟨D, h1, h2⟩ := h.W
  refine ⟨fun b => if w.heap.size ≤ b ∧ a'.set b then some (i + 1) else ℓ b, ⟨⟨k.os, k.tape, k.output, k.size, fun b hb q => k.block b hb fun r => q (by rw [hown b (hS b hb r)]; exact Option.some_ne_none _)⟩, fun b hb => if_neg (by omega)⟩,
    ⟨D, h1.keep k' (fun b hb q => ?_) (fun g cur hg q => hnb g cur hg q.2), fun b hb => ?_⟩, fun j hj => ?_, fun b hb => ?_⟩
  · have := hown b (hS b q.1 q.2)
    rw [h2 b hb] at this
    injection this with this
    omega
  · have hb2 : b < w.heap.size := h1.lt hb
    show (if w.heap.size ≤ b ∧ a'.set b then some (i + 1) else ℓ b) = some 0
    rw [if_neg (by omega)]; exact h2 b hb
  · have hj' : j < us.length := by simpa using hj
    by_cases e : j = i
    · subst e
      rw [List.getElem_set_self]
      refine ⟨hU', fun b hb => ?_⟩
      rcases ha b hb with q | q
      · have := (h.U j hi).1.lt q
        show (if w.heap.size ≤ b ∧ a'.set b then some (j + 1) else ℓ b) = _
        rw [if_neg (by omega)]; exact hown b q
      · exact if_pos ⟨q, hb⟩
    · rw [List.getElem_set_ne (fun q => e q.symm)]
      refine ⟨(h.U j hj').1.step k' (Safe.sub fun b hb q => ?_) (fun b hb q => ?_) (fun b hb => ?_), fun b hb => ?_⟩
      · rw [hown b (hS b q.1 q.2)]; exact Option.some_ne_none _
      · have h3 := hown b (hS b q.1 q.2)
        rw [(h.U j hj').2 b hb] at h3
        injection h3 with h3
        omega
      · rcases hN b hb with q | q
        · exact .inl q
        · exact .inr q.1
      · have := (h.U j hj').1.lt hb
        show (if w.heap.size ≤ b ∧ a'.set b then some (i + 1) else ℓ b) = _
        rw [if_neg (by omega)]; exact (h.U j hj').2 b hb
  · rcases hN b hb with q | q
    · have := h.lt b q; omega
    · exact hU'.lt q.2
end
end Go.Proofs.YtpmebahhjgkflaaGreatDoor

/- Layer 16: all at once; a unit starts. -/
namespace Go.Proofs.YtpmebahhjgkflaaGreatDoor
open Go CF
set_option maxRecDepth 100000
section
variable {w u v : World} {N N' S D D' : Nat → Prop} {pw i : Nat} {a a' : UA} {s s' : USt} {st st' : Wst} {F F' : Int → Bool} {ℓ ℓ' ℓ'' : Nat → Option Nat} {us : List (UA × USt)}
theorem keep_cut (k : Keep S w u) : Keep (fun b => b < w.heap.size ∧ S b) w u := ⟨k.os, k.tape, k.output, k.size, fun b hb q => k.block b hb fun r => q ⟨hb, r⟩⟩
/-- a local block -/
def Local (w : World) (ℓ : Nat → Option Nat) (S : Nat → Prop) : Prop := ∀ b, b < w.heap.size → S b → ℓ b = none ∧ ∃ cs t, Blk w b cs t ∧ ¬ rowT t ∧ t ≠ t_uint8
theorem Local.one {b : Nat} {cs : Array Value} {t : TypeId} (hb : Blk w b cs t) (hn : ℓ b = none) (h1 : ¬ rowT t) (h2 : t ≠ t_uint8) : Local w ℓ fun k => k = b := fun b' _ q => by subst q; exact ⟨hn, cs, t, hb, h1, h2⟩
/-- what belongs to nobody is written over -/
theorem Sys.loc (h : Sys w ℓ pw st F us) (k : Keep S w u) (hS : Local w ℓ S) : Sys u ℓ pw st F us := by
  obtain ⟨D, h1, h2⟩ := h.W
  have hno : ∀ {b x : Nat}, ℓ b = some x → ¬ (b < w.heap.size ∧ S b) := fun {b x} e q => by rw [(hS _ q.1 q.2).1] at e; cases e
  refine ⟨⟨D, h1.keep (keep_cut k) (fun b hb q => hno (h2 b hb) q) (fun g cur hg q => ?_), h2⟩, fun j hj => ⟨(h.U j hj).1.step (keep_cut k) (fun b hb q => ?_) (fun b hb q => hno ((h.U j hj).2 b hb) q) fun _ q => .inl q, (h.U j hj).2⟩, fun b hb => by have := h.lt b hb; have := k.size; omega⟩
  · obtain ⟨_, cs, t, hb, _, ht⟩ := hS g q.1 q.2
    exact ht (blk_type hb hg)
  · obtain ⟨_, cs, t, hb, ht, _⟩ := hS b q.1 q.2
    exact .inr ⟨cs, t, hb, ht⟩
theorem Mv.loc (h : Mv w u ℓ ℓ') (k : Keep S u v) (hS : ∀ b, b < w.heap.size → ¬ S b) : Mv w v ℓ ℓ' := by
  have := h.keep.size
  exact ⟨h.keep.trans k fun b hb q => absurd q (hS b hb), h.lab⟩
open Classical in
/-- the world and a unit have other states -/
theorem Sys.all (h : Sys w ℓ pw st F us) (hi : i < us.length) (hD : ∀ k, D k → ℓ k = some 0) (k : Keep S w u) (hS : ∀ b, b < w.heap.size → S b → D b ∨ us[i].1.set b) (hw : IsWq u pw D' st' F') (hn : ∀ k, D' k → D k ∨ w.heap.size ≤ k)
    (ha : ∀ b, a'.set b → us[i].1.set b ∨ w.heap.size ≤ b) (hdis : ∀ b, w.heap.size ≤ b → D' b → ¬ a'.set b) (hU : ∀ N : Nat → Prop, (∀ b, N b → ℓ b ≠ none ∨ (w.heap.size ≤ b ∧ (D' b ∨ a'.set b))) → IsU u N pw a' s') :
    ∃ ℓ', Mv w u ℓ ℓ' ∧ Sys u ℓ' pw st' F' (us.set i (a', s')) := by
  have hsz := k.size
  have hown := (h.U i hi).2
  let L : Nat → Option Nat := fun b => if w.heap.size ≤ b ∧ D' b then some 0 else if w.heap.size ≤ b ∧ a'.set b then some (i + 1) else ℓ b
  have hold : ∀ b, b < w.heap.size → L b = ℓ b := fun b hb => by show (if _ then _ else _) = _; rw [if_neg (by omega), if_neg (by omega)]
  have hN : ∀ b, L b ≠ none → ℓ b ≠ none ∨ (w.heap.size ≤ b ∧ (D' b ∨ a'.set b)) := fun b hb => by
    by_cases r : w.heap.size ≤ b ∧ D' b
    · exact .inr ⟨r.1, .inl r.2⟩
    by_cases r2 : w.heap.size ≤ b ∧ a'.set b
    · exact .inr ⟨r2.1, .inr r2.2⟩
    · have : L b = ℓ b := by show (if _ then _ else _) = _; rw [if_neg r, if_neg r2]
      rw [this] at hb; exact .inl hb
  have hU' := hU (fun b => L b ≠ none) hN
  have hSl : ∀ b, b < w.heap.size → S b → ℓ b ≠ none := fun b hb q => by
    rcases hS b hb q with r | r
    · rw [hD b r]; exact Option.some_ne_none _
    · rw [hown b r]; exact Option.some_ne_none _
  refine ⟨L, ⟨⟨k.os, k.tape, k.output, k.size, fun b hb q => k.block b hb fun r => q (hSl b hb r)⟩, hold⟩, ⟨D', hw, fun b hb => ?_⟩, fun j hj => ?_, fun b hb => ?_⟩
  · by_cases r : w.heap.size ≤ b
    · exact if_pos ⟨r, hb⟩
    · rw [hold b (by omega)]
      rcases hn b hb with q | q
      · exact hD b q
      · exact absurd q r
  · have hj' : j < us.length := by simpa using hj
    by_cases e : j = i
    · subst e
      rw [List.getElem_set_self]
      refine ⟨hU', fun b hb => ?_⟩
      by_cases r : w.heap.size ≤ b
      · show (if _ then _ else _) = _
        rw [if_neg (fun q => hdis b r q.2 hb), if_pos ⟨r, hb⟩]
      · rw [hold b (by omega)]
        rcases ha b hb with q | q
        · exact hown b q
        · exact absurd q r
    · rw [List.getElem_set_ne (fun q => e q.symm)]
      refine ⟨(h.U j hj').1.step (keep_cut k) (Safe.sub fun b hb q => hSl b q.1 q.2) (fun b hb q => ?_) (fun b hb => ?_), fun b hb => ?_⟩
      · have h3 := (h.U j hj').2 b hb
        rcases hS b q.1 q.2 with r | r
        · rw [hD b r] at h3; injection h3 with h3; omega
        · rw [hown b r] at h3; injection h3 with h3; omega
      · rcases hN b hb with q | q
        · exact .inl q
        · exact .inr q.1
      · have := (h.U j hj').1.lt hb
        rw [hold b this]; exact (h.U j hj').2 b hb
  · rcases hN b hb with q | q
    · have := h.lt b q; omega
    · rcases q.2 with r | r
      · exact hw.lt r
      · exact hU'.lt r
/-- a command that ends with sense -/
theorem check_build (u : World) (s : Sn) : (Instr.build t_api_Result #[(0, .int .u8 2), (1, .agg (snv s).toArray)]).run Tryz.prog u = .ok (.agg (rsv 2 s nilS).toArray) u := by
  obtain ⟨a, b, c, d, e, f, g, h⟩ := s
  kernel_rfl
theorem checkU_spec {s : Sn} {R : Array Value → World → Prop} (h : ∀ w', Grow w w' → R (rsv 2 s nilS).toArray w') : Cunit_check (snv s).toArray w R := by
  refine Funit_check.calls _ _ _ (new_rule fun sb w1 hsb hb1 hg1 hs1 => new_rule fun ab w2 hab hb2 hg2 hs2 => ?_)
  have hb1' : Blk w2 sb (snv s).toArray t_api_Sense := hg2.heap hb1 (fun q => q)
  refine ⟨(snv s).toArray, loadVar_rule (cs := snv s) g_api_Sense i_api_Sense rfl (blk_cells hb1'), _, check_build _ s, ?_⟩
  exact ret_rule hb2 rfl fun w3 hk3 => h w3 (grow_new (hg1.trans hg2) (by have := hg1.size; omega) hk3)
theorem class_core {k : Nat} {R : Int → World → Prop} (h : R (classX k : Int) w) : Funit_Class (k : Int) w R := by
  unfold classX at h
  refine letX1 (fun x v => w = v ∧ x = decide (k = 1 ∨ k = 7 ∨ k = 10 ∨ k = 5)) ?_ (fun J => ?_)
  · rintro x v ⟨rfl, rfl⟩
    refine br_dec (fun q => ?_) (fun q => ?_)
    · rw [if_pos q] at h; exact h
    rw [if_neg q] at h
    by_cases z : k = 8 ∨ k = 9 ∨ k = 12 ∨ k = 13 ∨ k = 14 ∨ k = 4 ∨ k = 11 ∨ k = 18
    · rw [if_pos z] at h
      refine br_eq (fun e => br_t (by rw [beq_iff_eq]; exact e) h) (fun n8 => br_eq (fun e => br_t (by rw [beq_iff_eq]; exact e) h) (fun n9 => br_eq (fun e => br_t (by rw [beq_iff_eq]; exact e) h) (fun n12 => br_eq (fun e => br_t (by rw [beq_iff_eq]; exact e) h) (fun n13 => br_eq (fun e => br_t (by rw [beq_iff_eq]; exact e) h) (fun n14 => br_eq (fun e => br_t (by rw [beq_iff_eq]; exact e) h) (fun n4 => br_eq (fun e => br_t (by rw [beq_iff_eq]; exact e) h) (fun n11 => br_eq (fun e => h) (fun n18 => ?_))))))))
      exfalso; omega
    · rw [if_neg z] at h
      exact br_eq (fun e => by exfalso; omega) (fun _ => br_eq (fun e => by exfalso; omega) (fun _ => br_eq (fun e => by exfalso; omega) (fun _ => br_eq (fun e => by exfalso; omega) (fun _ => br_eq (fun e => by exfalso; omega) (fun _ => br_eq (fun e => by exfalso; omega) (fun _ => br_eq (fun e => by exfalso; omega) (fun _ => br_eq (fun e => by exfalso; omega) (fun _ => h))))))))
  · by_cases e1 : k = 1
    · exact br_t (by rw [beq_iff_eq]; omega) (J _ _ ⟨rfl, by rw [Bool.eq_iff_iff, beq_iff_eq, decide_eq_true_eq]; omega⟩)
    refine br_f (by rw [beq_eq_false_iff_ne]; omega) ?_
    by_cases e7 : k = 7
    · exact br_t (by rw [beq_iff_eq]; omega) (J _ _ ⟨rfl, by rw [Bool.eq_iff_iff, beq_iff_eq, decide_eq_true_eq]; omega⟩)
    refine br_f (by rw [beq_eq_false_iff_ne]; omega) ?_
    by_cases e10 : k = 10
    · exact br_t (by rw [beq_iff_eq]; omega) (J _ _ ⟨rfl, by rw [Bool.eq_iff_iff, beq_iff_eq, decide_eq_true_eq]; omega⟩)
    exact br_f (by rw [beq_eq_false_iff_ne]; omega) (J _ _ ⟨rfl, by rw [Bool.eq_iff_iff, beq_iff_eq, decide_eq_true_eq]; omega⟩)
theorem class_spec {k : Nat} {R : Int → World → Prop} (h : R (classX k : Int) w) : Cunit_Class (k : Int) w R := Funit_Class.calls _ _ _ (class_core h)
theorem alters_spec {k : Nat} {R : Bool → World → Prop} (h : R (altersX k) w) : Cunit_Alters (k : Int) w R := by
  refine Funit_Alters.calls _ _ _ ?_
  unfold altersX at h
  by_cases z : k = 8 ∨ k = 9 ∨ k = 12 ∨ k = 13 ∨ k = 14
  · rw [decide_eq_true z] at h
    refine br_eq (fun e => br_t (by rw [beq_iff_eq]; exact e) h) (fun n8 => br_eq (fun e => br_t (by rw [beq_iff_eq]; exact e) h) (fun n9 => br_eq (fun e => br_t (by rw [beq_iff_eq]; exact e) h) (fun n12 => br_eq (fun e => br_t (by rw [beq_iff_eq]; exact e) h) (fun n13 => br_eq (fun e => h) (fun n14 => ?_)))))
    exfalso; omega
  · rw [decide_eq_false z] at h
    exact br_eq (fun e => by exfalso; omega) (fun _ => br_eq (fun e => by exfalso; omega) (fun _ => br_eq (fun e => by exfalso; omega) (fun _ => br_eq (fun e => by exfalso; omega) (fun _ => br_eq (fun e => by exfalso; omega) (fun _ => h)))))
end
end Go.Proofs.YtpmebahhjgkflaaGreatDoor

/- Layer 16: parts of a unit that change. -/
namespace Go.Proofs.YtpmebahhjgkflaaGreatDoor
open Go CF
set_option maxRecDepth 100000
section
variable {w u v : World} {N N' S : Nat → Prop} {pw : Nat} {a : UA} {s : USt}
/-- blocks of different types are different -/
theorem blk_ne {b c : Nat} {x y : Array Value} {t t' : TypeId} (hb : Blk w b x t) (hc : Blk w c y t') (h : t ≠ t') : b ≠ c := fun q => by subst q; exact h (blk_type hb hc)
theorem IsU.tabB (h : IsU w N pw a s) : ∃ x, Blk w a.tb x t_pr_Table := by obtain ⟨⟨T, t1, _⟩, _⟩ := h.tab; exact ⟨_, t1⟩
theorem IsU.queB (h : IsU w N pw a s) : ∃ x, Blk w a.qb x t_attn_Queues := by obtain ⟨⟨ss, _, q1, _⟩, _⟩ := h.q; exact ⟨_, q1⟩
theorem IsU.uniB (h : IsU w N pw a s) : ∃ x, Blk w a.ub x t_unit_Unit := by obtain ⟨P, h1, _⟩ := h.unit; exact ⟨_, h1⟩
/-- which of the blocks are written over: all but one stay -/
theorem IsU.step1 (h : IsU w N pw a s) (k : Keep S w u) (hS : Safe w N S) (hN : ∀ b, N' b → N b ∨ w.heap.size ≤ b) :
    (¬ S a.ub → ∃ P : Sl, Blk u a.ub (ucells a P s) t_unit_Unit ∧ RdN u N' t_p_unit_Unit 1 P (s.peers.map ptr)) ∧ (¬ S a.dv → Blk u a.dv (dvcells a.ps s.inf.prot) t_sbc_Dev) ∧ (¬ S a.ps → IsS u a.ps pw s.file s.n s.cache) ∧ (¬ S a.sl → IsSl u a.sl pw s.keepf s.sure s.at_ s.gen) ∧
    (¬ S a.pg → IsP u a.pg s.now s.saved) ∧ (¬ S a.tb → IsT u N' a.tb s.tab) ∧ (¬ S a.qb → IsQ u N' a.qb s.q) := by
  refine ⟨fun q => ?_, fun q => k.heap h.dev q, fun q => k.heap h.store q, fun q => k.heap h.slots q, fun q => k.heap h.pages q, fun q => h.tab.step k hS q hN, fun q => h.q.step k hS q hN⟩
  obtain ⟨P, h1, h2⟩ := h.unit
  exact ⟨P, k.heap h1 q, h2.step (.inr (.inr rfl)) k hS hN⟩
theorem IsU.ne (h : IsU w N pw a s) : a.ub ≠ a.dv ∧ a.ub ≠ a.ps ∧ a.ub ≠ a.sl ∧ a.ub ≠ a.pg ∧ a.ub ≠ a.tb ∧ a.ub ≠ a.qb ∧ a.dv ≠ a.ps ∧ a.dv ≠ a.sl ∧ a.dv ≠ a.pg ∧ a.dv ≠ a.tb ∧ a.dv ≠ a.qb ∧ a.ps ≠ a.sl ∧ a.ps ≠ a.pg ∧ a.ps ≠ a.tb ∧ a.ps ≠ a.qb ∧
    a.sl ≠ a.pg ∧ a.sl ≠ a.tb ∧ a.sl ≠ a.qb ∧ a.pg ≠ a.tb ∧ a.pg ≠ a.qb ∧ a.tb ≠ a.qb := by
  obtain ⟨x, hu⟩ := h.uniB
  obtain ⟨y, ht⟩ := h.tabB
  obtain ⟨z, hq⟩ := h.queB
  exact ⟨blk_ne hu h.dev (by decide), blk_ne hu h.store (by decide), blk_ne hu h.slots (by decide), blk_ne hu h.pages (by decide), blk_ne hu ht (by decide), blk_ne hu hq (by decide), blk_ne h.dev h.store (by decide), blk_ne h.dev h.slots (by decide), blk_ne h.dev h.pages (by decide), blk_ne h.dev ht (by decide), blk_ne h.dev hq (by decide),
    blk_ne h.store h.slots (by decide), blk_ne h.store h.pages (by decide), blk_ne h.store ht (by decide), blk_ne h.store hq (by decide), blk_ne h.slots h.pages (by decide), blk_ne h.slots ht (by decide), blk_ne h.slots hq (by decide), blk_ne h.pages ht (by decide), blk_ne h.pages hq (by decide), blk_ne ht hq (by decide)⟩
theorem set7 (a : UA) : a.set a.ub ∧ a.set a.dv ∧ a.set a.ps ∧ a.set a.sl ∧ a.set a.pg ∧ a.set a.tb ∧ a.set a.qb := ⟨.inl rfl, .inr (.inl rfl), .inr (.inr (.inl rfl)), .inr (.inr (.inr (.inl rfl))), .inr (.inr (.inr (.inr (.inl rfl)))), .inr (.inr (.inr (.inr (.inr (.inl rfl))))), .inr (.inr (.inr (.inr (.inr (.inr rfl)))))⟩
theorem IsU.que {q' : Nat → List Nat} (h : IsU w N pw a s) (k : Keep S w u) (hS : Safe w N S) (hq : ∀ b, a.set b → b ≠ a.qb → ¬ S b) (hN : ∀ b, N' b → N b ∨ w.heap.size ≤ b) (hnew : IsQ u N' a.qb q') : IsU u N' pw a { s with q := q' } := by
  obtain ⟨n1, n2, n3, n4, n5, n6, n7, n8, n9, n10, n11, n12, n13, n14, n15, n16, n17, n18, n19, n20, n21⟩ := h.ne
  obtain ⟨z1, z2, z3, z4, z5, z6, z7⟩ := set7 a
  obtain ⟨r1, r2, r3, r4, r5, r6, r7⟩ := h.step1 k hS hN
  exact ⟨r1 (hq _ z1 n6), r2 (hq _ z2 n11), r3 (hq _ z3 n15), r4 (hq _ z4 n18), r5 (hq _ z5 n20), r6 (hq _ z6 n21), hnew⟩
theorem IsU.slot {su : Bool} {at_ : Int} {g : Nat} (h : IsU w N pw a s) (k : Keep S w u) (hS : Safe w N S) (hq : ∀ b, a.set b → b ≠ a.sl → ¬ S b) (hN : ∀ b, N' b → N b ∨ w.heap.size ≤ b) (hnew : IsSl u a.sl pw s.keepf su at_ g) : IsU u N' pw a { s with sure := su, at_ := at_, gen := g } := by
  obtain ⟨n1, n2, n3, n4, n5, n6, n7, n8, n9, n10, n11, n12, n13, n14, n15, n16, n17, n18, n19, n20, n21⟩ := h.ne
  obtain ⟨z1, z2, z3, z4, z5, z6, z7⟩ := set7 a
  obtain ⟨r1, r2, r3, r4, r5, r6, r7⟩ := h.step1 k hS hN
  exact ⟨r1 (hq _ z1 n3), r2 (hq _ z2 n8), r3 (hq _ z3 n12), hnew, r5 (hq _ z5 n16.symm), r6 (hq _ z6 n17.symm), r7 (hq _ z7 n18.symm)⟩
theorem IsU.cach {c : Bool} (h : IsU w N pw a s) (k : Keep S w u) (hS : Safe w N S) (hq : ∀ b, a.set b → b ≠ a.ps → ¬ S b) (hN : ∀ b, N' b → N b ∨ w.heap.size ≤ b) (hnew : IsS u a.ps pw s.file s.n c) : IsU u N' pw a { s with cache := c } := by
  obtain ⟨n1, n2, n3, n4, n5, n6, n7, n8, n9, n10, n11, n12, n13, n14, n15, n16, n17, n18, n19, n20, n21⟩ := h.ne
  obtain ⟨z1, z2, z3, z4, z5, z6, z7⟩ := set7 a
  obtain ⟨r1, r2, r3, r4, r5, r6, r7⟩ := h.step1 k hS hN
  exact ⟨r1 (hq _ z1 n2), r2 (hq _ z2 n7), hnew, r4 (hq _ z4 n12.symm), r5 (hq _ z5 n13.symm), r6 (hq _ z6 n14.symm), r7 (hq _ z7 n15.symm)⟩
theorem IsU.pag {n' s' : Vals} (h : IsU w N pw a s) (k : Keep S w u) (hS : Safe w N S) (hq : ∀ b, a.set b → b ≠ a.pg → ¬ S b) (hN : ∀ b, N' b → N b ∨ w.heap.size ≤ b) (hnew : IsP u a.pg n' s') : IsU u N' pw a { s with now := n', saved := s' } := by
  obtain ⟨n1, n2, n3, n4, n5, n6, n7, n8, n9, n10, n11, n12, n13, n14, n15, n16, n17, n18, n19, n20, n21⟩ := h.ne
  obtain ⟨z1, z2, z3, z4, z5, z6, z7⟩ := set7 a
  obtain ⟨r1, r2, r3, r4, r5, r6, r7⟩ := h.step1 k hS hN
  exact ⟨r1 (hq _ z1 n4), r2 (hq _ z2 n9), r3 (hq _ z3 n13), r4 (hq _ z4 n16), hnew, r6 (hq _ z6 n19.symm), r7 (hq _ z7 n20.symm)⟩
theorem IsU.unitC {on lk fl ct : Nat} {ps : List Nat} (h : IsU w N pw a s) (k : Keep S w u) (hS : Safe w N S) (hq : ∀ b, a.set b → b ≠ a.ub → ¬ S b) (hN : ∀ b, N' b → N b ∨ w.heap.size ≤ b)
    (hnew : ∃ P : Sl, Blk u a.ub (ucells a P { s with on := on, lock := lk, fault := fl, count := ct, peers := ps }) t_unit_Unit ∧ RdN u N' t_p_unit_Unit 1 P (ps.map ptr)) : IsU u N' pw a { s with on := on, lock := lk, fault := fl, count := ct, peers := ps } := by
  obtain ⟨n1, n2, n3, n4, n5, n6, n7, n8, n9, n10, n11, n12, n13, n14, n15, n16, n17, n18, n19, n20, n21⟩ := h.ne
  obtain ⟨z1, z2, z3, z4, z5, z6, z7⟩ := set7 a
  obtain ⟨r1, r2, r3, r4, r5, r6, r7⟩ := h.step1 k hS hN
  exact ⟨hnew, r2 (hq _ z2 n1.symm), r3 (hq _ z3 n2.symm), r4 (hq _ z4 n3.symm), r5 (hq _ z5 n4.symm), r6 (hq _ z6 n5.symm), r7 (hq _ z7 n6.symm)⟩
end
end Go.Proofs.YtpmebahhjgkflaaGreatDoor

/- Layer 16: a unit that was never kept starts; one that runs. -/
namespace Go.Proofs.YtpmebahhjgkflaaGreatDoor
open Go CF
set_option maxRecDepth 100000
section
variable {w u v : World} {N N' S : Nat → Prop} {pw i : Nat} {a : UA} {s : USt} {st : Wst} {F : Int → Bool} {ℓ ℓ' : Nat → Option Nat} {us : List (UA × USt)}
theorem IsU.cellU (h : IsU w N pw a s) {o : Nat} {x : Value} (e : ∀ P, (ucells a P s)[o]? = some x) : w.cell? ((gA (some (⟨a.ub, 0, none⟩ : Addr))).add o) = some x := by
  obtain ⟨P, h1, _⟩ := h.unit
  rw [gA, add0, h1.cell, Nat.zero_add]; exact e P
/-- each nexus is told that the power came on -/
def onQ (q : Nat → List Nat) : Nat → List Nat := fun t => if t < 8 then addA (q t) 10496 else q t
def freshU (s : USt) : USt := { s with q := onQ s.q, sure := true, at_ := -1, gen := 0 }
theorem Sys.at (H : Sys w ℓ pw st F us) (hi : i < us.length) (he : us[i] = (a, s)) : IsU w (fun k => ℓ k ≠ none) pw a s ∧ ∀ k, a.set k → ℓ k = some (i + 1) := by
  have := H.U i hi
  rw [he] at this
  exact this
theorem Sys.putA (H : Sys w ℓ pw st F us) (hi : i < us.length) (he : us[i] = (a, s)) {s' : USt} (k : Keep S w u) (hS : ∀ b, b < w.heap.size → S b → a.set b) (hU : IsU u (fun k => ℓ k ≠ none) pw a s') : Mv w u ℓ ℓ ∧ Sys u ℓ pw st F (us.set i (a, s')) := by
  have e1 : us[i].1 = a := by rw [he]
  refine ⟨H.mv hi k (by rw [e1]; exact hS), ?_⟩
  have := H.put hi k (s' := s') (by rw [e1]; exact hS) (by rw [e1]; exact hU)
  rw [e1] at this; exact this
theorem load_fresh {R : Int → World → Prop} (H : Sys w ℓ pw st quiet us) (hi : i < us.length) (he : us[i] = (a, s)) (hk : 1 ≤ s.keepf.size ∧ s.keepf.size ≤ 30) (ho : st.ops < 10000000000) (hl : ldN st.seen s.keepf 2 = (-1, 0, []))
    (hR : ∀ u ℓ', Mv w u ℓ ℓ' → Sys u ℓ' pw { st with ops := st.ops + 2 } quiet (us.set i (a, freshU s)) → R 0 u) : Cunit_Unit_load (some ⟨a.ub, 0, none⟩) w R := by
  refine Funit_Unit_load.calls _ _ _ ?_
  obtain ⟨hU, hown⟩ := H.at hi he
  have hNl : ∀ b, ℓ b ≠ none → b < w.heap.size := H.lt
  obtain ⟨z1, z2, z3, z4, z5, z6, z7⟩ := set7 a
  have own : ∀ {b}, a.set b → ℓ b ≠ none := fun hb => by rw [hown _ hb]; exact Option.some_ne_none _
  refine ⟨fun x v => ∃ j : Nat, x = j ∧ j ≤ 8 ∧ Keep (fun k => k = a.qb) w v ∧ IsU v (fun k => ℓ k ≠ none) pw a { s with q := fun t => if t < j then addA (s.q t) 10496 else s.q t }, fun x _ => 8 - x.toNat, ⟨0, rfl, by decide, Keep.refl _ _, ?_⟩, ?_⟩
  · have : (fun t => if t < 0 then addA (s.q t) 10496 else s.q t) = s.q := by funext t; rw [if_neg (by omega)]
    rw [this]; exact hU
  rintro x v ⟨j, rfl, hj, hkv, hUv⟩
  refine br_nat (y := 8) (fun hlt => ?_) (fun hge => ?_)
  · refine ⟨rfl, some ⟨a.qb, 0, none⟩, hUv.cellU fun P => rfl, ?_⟩
    refine add_spec hUv.q hlt (by decide) (own z7) (fun b hb => by have := hNl b hb; have := hkv.size; omega) fun v' hk' hq' => ?_
    rw [w64 (by omega) (by omega)]
    refine ⟨⟨j + 1, by omega, by omega, hkv.trans hk' fun _ _ q => q, ?_⟩, by dsimp only; omega⟩
    have e : (fun t => if t = j then addA (if j < j then addA (s.q j) 10496 else s.q j) 10496 else if t < j then addA (s.q t) 10496 else s.q t) = fun t => if t < j + 1 then addA (s.q t) 10496 else s.q t := by
      funext t
      by_cases e : t = j
      · subst e; rw [if_pos rfl, if_neg (by omega), if_pos (by omega)]
      · rw [if_neg e]
        by_cases e2 : t < j
        · rw [if_pos e2, if_pos (by omega)]
        · rw [if_neg e2, if_neg (by omega)]
    rw [← e]
    exact hUv.que hk' (Safe.sub fun b _ q => by rw [q]; exact own z7) (fun b _ hne q => hne q) (fun _ q => .inl q) hq'
  · have hj8 : j = 8 := by omega
    subst hj8
    obtain ⟨hmv, Hv⟩ := H.putA hi he hkv (fun b _ q => by rw [q]; exact z7) hUv
    have hi' : i < (us.set i (a, { s with q := fun t => if t < 8 then addA (s.q t) 10496 else s.q t })).length := by rw [List.length_set]; exact hi
    obtain ⟨D, hW, hD⟩ := Hv.W
    refine ⟨rfl, some ⟨a.sl, 0, none⟩, hUv.cellU fun P => rfl, ?_⟩
    refine slots_load_spec hUv.slots (fun q => by have := hD _ q; rw [hown _ z4] at this; injection this with this; omega) hW hk (by omega) fun best u hku hWu hSu hbo => ?_
    rw [hl] at hSu ⊢
    refine br_t rfl ?_
    have hs := Hv.all (a' := a) (s' := freshU s) hi' hD hku (fun b _ q => by
        rcases q with q | q
        · exact .inl q
        · refine .inr ?_
          rw [List.getElem_set_self]; rw [q]; exact z4) hWu (fun _ q => .inl q) (fun b hb => .inl (by rw [List.getElem_set_self]; exact hb)) (fun b hb q => by have := hW.lt q; omega) (fun N' hN' => ?_)
    · obtain ⟨ℓ', m, Hu⟩ := hs
      rw [List.set_set] at Hu
      exact hR u ℓ' (hmv.trans m) Hu
    · refine hUv.slot hku (Safe.sub fun b _ q => ?_) (fun b hb hne q => ?_) (fun b hb => ?_) hSu
      · rcases q with q | q
        · rw [hD b q]; exact Option.some_ne_none _
        · rw [q]; exact own z4
      · rcases q with q | q
        · have := hD b q
          rw [hown b hb] at this
          injection this with this
          omega
        · exact hne q
      · rcases hN' b hb with q | q
        · exact .inl q
        · exact .inr q.1
/-- what a unit is behind its start -/
def startedU (s : USt) : USt := { freshU s with on := 1, lock := 0, fault := 0 }
theorem start_fresh {R : Int → World → Prop} (H : Sys w ℓ pw st quiet us) (hi : i < us.length) (he : us[i] = (a, s)) (hon : s.on = 0) (hlk : s.lock = 0) (hk : 1 ≤ s.keepf.size ∧ s.keepf.size ≤ 30) (ho : st.ops < 10000000000) (hl : ldN st.seen s.keepf 2 = (-1, 0, []))
    (hR : ∀ u ℓ', Mv w u ℓ ℓ' → Sys u ℓ' pw { st with ops := st.ops + 2 } quiet (us.set i (a, startedU s)) → R 0 u) : Cunit_Unit_Start (some ⟨a.ub, 0, none⟩) w R := by
  refine Funit_Unit_Start.calls _ _ _ (new_rule fun fb w1 hfb hb1 hg1 hs1 => ?_)
  obtain ⟨z1, z2, z3, z4, z5, z6, z7⟩ := set7 a
  have H1 := H.grow hg1
  obtain ⟨hU, hown⟩ := H1.at hi he
  have hfn : ℓ fb = none := by
    cases hq : ℓ fb with
    | none => rfl
    | some x => have := H.lt fb (by rw [hq]; exact Option.some_ne_none _); omega
  have cf : ∀ {v : World}, Blk v fb #[.pointer (some ⟨a.ub, 0, none⟩)] t_p_unit_Unit → v.cell? ⟨fb, 0, none⟩ = some (.pointer (some ⟨a.ub, 0, none⟩)) := fun q => by rw [Blk.cell q]; rfl
  refine ⟨some ⟨a.ub, 0, none⟩, cf hb1, some ⟨a.ub, 0, none⟩, fun _ => cf hb1, fun _ => rfl, some ⟨a.dv, 0, none⟩, fun _ => hU.cellU fun P => rfl, br_f rfl ⟨some ⟨a.ub, 0, none⟩, cf hb1, rfl, ?_⟩⟩
  rw [show (gA (some (⟨a.ub, 0, none⟩ : Addr))).add 11 = ⟨a.ub, 11, none⟩ by rw [gA, add0]]
  obtain ⟨P, hP1, hP2⟩ := hU.unit
  refine once_first (o := 11) hP1 (by show some (Value.int .u32 (s.on : Int)) = _; rw [hon]; rfl) (by show some (Value.int .i32 (s.lock : Int)) = _; rw [hlk]; rfl) fun w2 hb2 hk2 hs2 => ?_
  have sfe : ∀ {S : Nat → Prop} {x : World}, (∀ b, S b → b = a.ub) → Safe x (fun k => ℓ k ≠ none) S := fun hS => Safe.sub fun b _ q => by rw [hS b q, hown _ z1]; exact Option.some_ne_none _
  have hU2 : IsU w2 (fun k => ℓ k ≠ none) pw a { s with lock := 1 } := hU.unitC (on := s.on) (lk := 1) (fl := s.fault) (ct := s.count) (ps := s.peers) hk2 (sfe fun _ q => q) (fun b _ hne q => hne q) (fun _ q => .inl q) ⟨P, hb2, hP2.step (.inr (.inr rfl)) hk2 (sfe fun _ q => q) fun _ q => .inl q⟩
  obtain ⟨m2, H2⟩ := H1.putA hi he hk2 (fun b _ q => by rw [q]; exact z1) hU2
  have hi2 : i < (us.set i (a, { s with lock := 1 })).length := by rw [List.length_set]; exact hi
  have hf2 : Blk w2 fb #[.pointer (some ⟨a.ub, 0, none⟩)] t_p_unit_Unit := m2.heap hb1 hfn
  refine Funit_Unit_Start_1.calls _ _ _ ?_
  rintro w3 rfl
  have hg3 := keep_drew w2
  have H3 := H2.grow hg3
  have hf3 : Blk w2.drew fb _ t_p_unit_Unit := hg3.heap hf2 (fun q => q)
  generalize w2.drew = w3 at *
  refine ⟨fun o => o.cell? ⟨fb, 0, none⟩ = some (.pointer (some ⟨a.ub, 0, none⟩)), cf hf3, some ⟨a.ub, 0, none⟩, fun _ q => q, some ⟨a.ub, 0, none⟩, fun _ q => q, ?_⟩
  refine load_fresh H3 hi2 (List.getElem_set_self _) hk ho hl fun w4 ℓ4 m4 H4 => ?_
  have hi4 : i < ((us.set i (a, { s with lock := 1 })).set i (a, freshU { s with lock := 1 })).length := by rw [List.length_set]; exact hi2
  obtain ⟨hU4, hown4⟩ := H4.at hi4 (List.getElem_set_self _)
  have hf4 : Blk w4 fb _ t_p_unit_Unit := m4.heap hf3 hfn
  obtain ⟨P4, hP41, hP42⟩ := hU4.unit
  refine ⟨cf hf4, rfl, ?_⟩
  rw [gA, add0]
  refine put_rule hP41 (by show 14 < 16; decide) rfl fun w5 hb5 hk5 hs5 => ⟨_, hb5, by show some (Value.int .u32 (s.on : Int)) = _; rw [hon]; rfl, rfl, fun w6 hb6 hk6 hs6 => ?_⟩
  have k46 : Keep (fun b => b = a.ub) w4 w6 := hk5.trans hk6 fun _ _ q => q
  have sf4 : Safe w4 (fun k => ℓ4 k ≠ none) fun b => b = a.ub := Safe.sub fun b _ q => by rw [q, hown4 _ z1]; exact Option.some_ne_none _
  have hU6 : IsU w6 (fun k => ℓ4 k ≠ none) pw a (startedU s) := hU4.unitC (on := 1) (lk := 0) (fl := 0) (ct := s.count) (ps := s.peers) k46 sf4 (fun b _ hne q => hne q) (fun _ q => .inl q) ⟨P4, hb6, hP42.step (.inr (.inr rfl)) k46 sf4 fun _ q => .inl q⟩
  obtain ⟨m6, H6⟩ := H4.putA hi4 (List.getElem_set_self _) k46 (fun b _ q => by rw [q]; exact z1) hU6
  rw [List.set_set, List.set_set] at H6
  have hf6 : Blk w6 fb _ t_p_unit_Unit := k46.heap hf4 fun q => by
    have := hown4 _ z1
    rw [← q] at this
    have e := m4.lab fb (by have := lt_of_heap hf3; exact this)
    rw [e, hfn] at this; cases this
  have hi6 : i < (us.set i (a, startedU s)).length := by rw [List.length_set]; exact hi
  obtain ⟨hU6', _⟩ := H6.at hi6 (List.getElem_set_self _)
  refine ⟨some ⟨a.ub, 0, none⟩, cf hf6, rfl, 0, hU6'.cellU fun P => rfl, ?_⟩
  exact hR w6 ℓ4 (((((Mv.grow hg1).trans m2).trans (Mv.grow hg3)).trans m4).trans m6) H6
theorem start_again {R : Int → World → Prop} (H : Sys w ℓ pw st F us) (hi : i < us.length) (he : us[i] = (a, s)) (hon : s.on = 1) (hR : ∀ u, Grow w u → R (s.fault : Int) u) : Cunit_Unit_Start (some ⟨a.ub, 0, none⟩) w R := by
  refine Funit_Unit_Start.calls _ _ _ (new_rule fun fb w1 hfb hb1 hg1 hs1 => ?_)
  have H1 := H.grow hg1
  obtain ⟨hU, hown⟩ := H1.at hi he
  have cf : ∀ {v : World}, Blk v fb #[.pointer (some ⟨a.ub, 0, none⟩)] t_p_unit_Unit → v.cell? ⟨fb, 0, none⟩ = some (.pointer (some ⟨a.ub, 0, none⟩)) := fun q => by rw [Blk.cell q]; rfl
  refine ⟨some ⟨a.ub, 0, none⟩, cf hb1, some ⟨a.ub, 0, none⟩, fun _ => cf hb1, fun _ => rfl, some ⟨a.dv, 0, none⟩, fun _ => hU.cellU fun P => rfl, br_f rfl ⟨some ⟨a.ub, 0, none⟩, cf hb1, rfl, ?_⟩⟩
  rw [show (gA (some (⟨a.ub, 0, none⟩ : Addr))).add 11 = ⟨a.ub, 11, none⟩ by rw [gA, add0]]
  obtain ⟨P, hP1, hP2⟩ := hU.unit
  refine once_done (o := 11) hP1 (by show some (Value.int .u32 (s.on : Int)) = _; rw [hon]; rfl) ⟨some ⟨a.ub, 0, none⟩, cf hb1, rfl, (s.fault : Int), hU.cellU fun P => rfl, hR w1 hg1⟩
end
end Go.Proofs.YtpmebahhjgkflaaGreatDoor

/- Layer 8: which bits of a command are looked at (printed by wip/tools/cdbgen.py). -/
namespace Go.Proofs.YtpmebahhjgkflaaGreatDoor
open Go CF
set_option maxRecDepth 100000
/-- the mask of a command, and whether there is such a service -/
def maskX (op sv : Nat) : Option (L8 × Bool) :=
  if op = 0 then some ([UInt8.ofNat op, 0, 0, 0, 0, 0], true)
  else if op = 3 then some ([UInt8.ofNat op, 1, 0, 0, 255, 0], true)
  else if op = 8 ∨ op = 10 then some ([UInt8.ofNat op, 31, 255, 255, 255, 0], true)
  else if op = 18 then some ([UInt8.ofNat op, 1, 255, 255, 255, 0], true)
  else if op = 21 then some ([UInt8.ofNat op, 17, 0, 0, 255, 0], true)
  else if op = 26 then some ([UInt8.ofNat op, 8, 255, 0, 255, 0], true)
  else if op = 37 then some ([UInt8.ofNat op, 0, 0, 0, 0, 0, 0, 0, 0, 0], true)
  else if op = 40 ∨ op = 42 then some ([UInt8.ofNat op, 248, 255, 255, 255, 255, 0, 255, 255, 0], true)
  else if op = 46 then some ([UInt8.ofNat op, 240, 255, 255, 255, 255, 0, 255, 255, 0], true)
  else if op = 47 then some ([UInt8.ofNat op, 242, 255, 255, 255, 255, 0, 255, 255, 0], true)
  else if op = 53 then some ([UInt8.ofNat op, 0, 255, 255, 255, 255, 0, 255, 255, 0], true)
  else if op = 65 then some ([UInt8.ofNat op, 232, 255, 255, 255, 255, 0, 255, 255, 0], true)
  else if op = 66 then some ([UInt8.ofNat op, 0, 0, 0, 0, 0, 0, 255, 255, 0], true)
  else if op = 85 then some ([UInt8.ofNat op, 17, 0, 0, 0, 0, 0, 255, 255, 0], true)
  else if op = 90 then some ([UInt8.ofNat op, 8, 255, 0, 0, 0, 0, 255, 255, 0], true)
  else if op = 94 then some ([UInt8.ofNat op, 31, 0, 0, 0, 0, 0, 255, 255, 0], decide (sv ≤ 3))
  else if op = 95 then some ([UInt8.ofNat op, 31, 15, 0, 0, 255, 255, 255, 255, 0], decide (sv ≤ 6))
  else if op = 131 then some ([UInt8.ofNat op, 31, 0, 0, 0, 0, 0, 0, 0, 0, 255, 255, 255, 255, 0, 0], decide (sv = 0))
  else if op = 136 ∨ op = 138 then some ([UInt8.ofNat op, 248, 255, 255, 255, 255, 255, 255, 255, 255, 255, 255, 255, 255, 0, 0], true)
  else if op = 137 then some ([UInt8.ofNat op, 248, 255, 255, 255, 255, 255, 255, 255, 255, 0, 0, 0, 255, 0, 0], true)
  else if op = 145 then some ([UInt8.ofNat op, 0, 255, 255, 255, 255, 255, 255, 255, 255, 255, 255, 255, 255, 0, 0], true)
  else if op = 147 then some ([UInt8.ofNat op, 232, 255, 255, 255, 255, 255, 255, 255, 255, 255, 255, 255, 255, 0, 0], true)
  else if op = 158 then some ([UInt8.ofNat op, 31, 0, 0, 0, 0, 0, 0, 0, 0, 255, 255, 255, 255, 0, 0], decide (sv = 16))
  else if op = 160 then some ([UInt8.ofNat op, 0, 3, 0, 0, 0, 255, 255, 255, 255, 0, 0], true)
  else none
section
variable {w : World}
theorem usage_spec {op sv : Nat} {R : Sl → Bool → World → Prop} (h : ∀ xs b w', Grow w w' → (match maskX op sv with | none => xs = nilS ∧ b = false | some (m, c) => Rd w' 1 xs (bv m) ∧ xs.A.isSome = true ∧ b = c) → R xs b w') : Ccdb_Usage (op : Int) (sv : Int) w R := by
  refine Fcdb_Usage.calls _ _ _ _ ?_
  refine lit_rule (cells := (bv (List.replicate 12 255)).toArray) (e := t_uint8) (z := 1) (base := 0) (by kernel_rfl) rfl (by decide) (Nat.zero_le _) fun w0 ho0 hg0 _ => ?_
  have hwd : Rd w0 1 ⟨some ⟨w.heap.size, 0, none⟩, 12, 12⟩ (bv (List.replicate 12 255)) := ho0.rd (by show 12 ≤ _; decide)
  have fin : ∀ {xs : Sl} {b : Bool} {w' : World} {m : L8} {c : Bool}, maskX op sv = some (m, c) → Grow w0 w' → Rd w' 1 xs (bv m) → m ≠ [] → b = c → R xs b w' := fun e g r hne hb => h _ _ _ (hg0.trans g) (by rw [e]; exact ⟨r, by obtain ⟨a, ha, _⟩ := r.at_ (fun q => hne (by simpa [bv] using q)); rw [ha]; rfl, hb⟩)
  refine br_eq (fun e => ?_) (fun n0 => ?_)
  · obtain rfl : op = 0 := by omega
    refine lit_rule (cells := (bv [UInt8.ofNat 0, 0, 0, 0, 0, 0]).toArray) (e := t_uint8) (z := 1) (base := 0) (by kernel_rfl) rfl (by decide) (Nat.zero_le _) fun w1 ho1 hg1 _ => ?_
    exact fin (m := [UInt8.ofNat 0, 0, 0, 0, 0, 0]) (c := true) (by rfl) hg1 (ho1.rd (by show 6 ≤ _; decide)) (by simp) rfl
  refine br_eq (fun e => ?_) (fun n1 => ?_)
  · obtain rfl : op = 3 := by omega
    refine lit_rule (cells := (bv [UInt8.ofNat 3, 1, 0, 0, 255, 0]).toArray) (e := t_uint8) (z := 1) (base := 0) (by kernel_rfl) rfl (by decide) (Nat.zero_le _) fun w1 ho1 hg1 _ => ?_
    exact fin (m := [UInt8.ofNat 3, 1, 0, 0, 255, 0]) (c := true) (by rfl) hg1 (ho1.rd (by show 6 ≤ _; decide)) (by simp) rfl
  refine letX1 (fun x v => w0 = v ∧ x = decide (op = 8 ∨ op = 10)) ?_ (fun J => ?_)
  rotate_left
  · by_cases e : op = 8
    · exact br_t (by rw [beq_iff_eq]; omega) (J _ _ ⟨rfl, by rw [Bool.eq_iff_iff, beq_iff_eq, decide_eq_true_eq]; omega⟩)
    · exact br_f (by rw [beq_eq_false_iff_ne]; omega) (J _ _ ⟨rfl, by rw [Bool.eq_iff_iff, beq_iff_eq, decide_eq_true_eq]; omega⟩)
  rintro x v ⟨rfl, rfl⟩
  refine br_dec (fun e => ?_) (fun n2 => ?_)
  · rcases e with rfl | rfl
    · refine lit_rule (cells := (bv [UInt8.ofNat 8, 31, 255, 255, 255, 0]).toArray) (e := t_uint8) (z := 1) (base := 0) (by kernel_rfl) rfl (by decide) (Nat.zero_le _) fun w1 ho1 hg1 _ => ?_
      exact fin (m := [UInt8.ofNat 8, 31, 255, 255, 255, 0]) (c := true) (by rfl) hg1 (ho1.rd (by show 6 ≤ _; decide)) (by simp) rfl
    · refine lit_rule (cells := (bv [UInt8.ofNat 10, 31, 255, 255, 255, 0]).toArray) (e := t_uint8) (z := 1) (base := 0) (by kernel_rfl) rfl (by decide) (Nat.zero_le _) fun w1 ho1 hg1 _ => ?_
      exact fin (m := [UInt8.ofNat 10, 31, 255, 255, 255, 0]) (c := true) (by rfl) hg1 (ho1.rd (by show 6 ≤ _; decide)) (by simp) rfl
  refine br_eq (fun e => ?_) (fun n3 => ?_)
  · obtain rfl : op = 18 := by omega
    refine lit_rule (cells := (bv [UInt8.ofNat 18, 1, 255, 255, 255, 0]).toArray) (e := t_uint8) (z := 1) (base := 0) (by kernel_rfl) rfl (by decide) (Nat.zero_le _) fun w1 ho1 hg1 _ => ?_
    exact fin (m := [UInt8.ofNat 18, 1, 255, 255, 255, 0]) (c := true) (by rfl) hg1 (ho1.rd (by show 6 ≤ _; decide)) (by simp) rfl
  refine br_eq (fun e => ?_) (fun n4 => ?_)
  · obtain rfl : op = 21 := by omega
    refine lit_rule (cells := (bv [UInt8.ofNat 21, 17, 0, 0, 255, 0]).toArray) (e := t_uint8) (z := 1) (base := 0) (by kernel_rfl) rfl (by decide) (Nat.zero_le _) fun w1 ho1 hg1 _ => ?_
    exact fin (m := [UInt8.ofNat 21, 17, 0, 0, 255, 0]) (c := true) (by rfl) hg1 (ho1.rd (by show 6 ≤ _; decide)) (by simp) rfl
  refine br_eq (fun e => ?_) (fun n5 => ?_)
  · obtain rfl : op = 26 := by omega
    refine lit_rule (cells := (bv [UInt8.ofNat 26, 8, 255, 0, 255, 0]).toArray) (e := t_uint8) (z := 1) (base := 0) (by kernel_rfl) rfl (by decide) (Nat.zero_le _) fun w1 ho1 hg1 _ => ?_
    exact fin (m := [UInt8.ofNat 26, 8, 255, 0, 255, 0]) (c := true) (by rfl) hg1 (ho1.rd (by show 6 ≤ _; decide)) (by simp) rfl
  refine br_eq (fun e => ?_) (fun n6 => ?_)
  · obtain rfl : op = 37 := by omega
    refine lit_rule (cells := (bv [UInt8.ofNat 37, 0, 0, 0, 0, 0, 0, 0, 0, 0]).toArray) (e := t_uint8) (z := 1) (base := 0) (by kernel_rfl) rfl (by decide) (Nat.zero_le _) fun w1 ho1 hg1 _ => ?_
    exact fin (m := [UInt8.ofNat 37, 0, 0, 0, 0, 0, 0, 0, 0, 0]) (c := true) (by rfl) hg1 (ho1.rd (by show 10 ≤ _; decide)) (by simp) rfl
  refine letX1 (fun x v => w0 = v ∧ x = decide (op = 40 ∨ op = 42)) ?_ (fun J => ?_)
  rotate_left
  · by_cases e : op = 40
    · exact br_t (by rw [beq_iff_eq]; omega) (J _ _ ⟨rfl, by rw [Bool.eq_iff_iff, beq_iff_eq, decide_eq_true_eq]; omega⟩)
    · exact br_f (by rw [beq_eq_false_iff_ne]; omega) (J _ _ ⟨rfl, by rw [Bool.eq_iff_iff, beq_iff_eq, decide_eq_true_eq]; omega⟩)
  rintro x v ⟨rfl, rfl⟩
  refine br_dec (fun e => ?_) (fun n7 => ?_)
  · rcases e with rfl | rfl
    · refine lit_rule (cells := (bv [UInt8.ofNat 40, 248, 255, 255, 255, 255, 0, 255, 255, 0]).toArray) (e := t_uint8) (z := 1) (base := 0) (by kernel_rfl) rfl (by decide) (Nat.zero_le _) fun w1 ho1 hg1 _ => ?_
      exact fin (m := [UInt8.ofNat 40, 248, 255, 255, 255, 255, 0, 255, 255, 0]) (c := true) (by rfl) hg1 (ho1.rd (by show 10 ≤ _; decide)) (by simp) rfl
    · refine lit_rule (cells := (bv [UInt8.ofNat 42, 248, 255, 255, 255, 255, 0, 255, 255, 0]).toArray) (e := t_uint8) (z := 1) (base := 0) (by kernel_rfl) rfl (by decide) (Nat.zero_le _) fun w1 ho1 hg1 _ => ?_
      exact fin (m := [UInt8.ofNat 42, 248, 255, 255, 255, 255, 0, 255, 255, 0]) (c := true) (by rfl) hg1 (ho1.rd (by show 10 ≤ _; decide)) (by simp) rfl
  refine br_eq (fun e => ?_) (fun n8 => ?_)
  · obtain rfl : op = 46 := by omega
    refine lit_rule (cells := (bv [UInt8.ofNat 46, 240, 255, 255, 255, 255, 0, 255, 255, 0]).toArray) (e := t_uint8) (z := 1) (base := 0) (by kernel_rfl) rfl (by decide) (Nat.zero_le _) fun w1 ho1 hg1 _ => ?_
    exact fin (m := [UInt8.ofNat 46, 240, 255, 255, 255, 255, 0, 255, 255, 0]) (c := true) (by rfl) hg1 (ho1.rd (by show 10 ≤ _; decide)) (by simp) rfl
  refine br_eq (fun e => ?_) (fun n9 => ?_)
  · obtain rfl : op = 47 := by omega
    refine lit_rule (cells := (bv [UInt8.ofNat 47, 242, 255, 255, 255, 255, 0, 255, 255, 0]).toArray) (e := t_uint8) (z := 1) (base := 0) (by kernel_rfl) rfl (by decide) (Nat.zero_le _) fun w1 ho1 hg1 _ => ?_
    exact fin (m := [UInt8.ofNat 47, 242, 255, 255, 255, 255, 0, 255, 255, 0]) (c := true) (by rfl) hg1 (ho1.rd (by show 10 ≤ _; decide)) (by simp) rfl
  refine br_eq (fun e => ?_) (fun n10 => ?_)
  · obtain rfl : op = 53 := by omega
    refine lit_rule (cells := (bv [UInt8.ofNat 53, 0, 255, 255, 255, 255, 0, 255, 255, 0]).toArray) (e := t_uint8) (z := 1) (base := 0) (by kernel_rfl) rfl (by decide) (Nat.zero_le _) fun w1 ho1 hg1 _ => ?_
    exact fin (m := [UInt8.ofNat 53, 0, 255, 255, 255, 255, 0, 255, 255, 0]) (c := true) (by rfl) hg1 (ho1.rd (by show 10 ≤ _; decide)) (by simp) rfl
  refine br_eq (fun e => ?_) (fun n11 => ?_)
  · obtain rfl : op = 65 := by omega
    refine lit_rule (cells := (bv [UInt8.ofNat 65, 232, 255, 255, 255, 255, 0, 255, 255, 0]).toArray) (e := t_uint8) (z := 1) (base := 0) (by kernel_rfl) rfl (by decide) (Nat.zero_le _) fun w1 ho1 hg1 _ => ?_
    exact fin (m := [UInt8.ofNat 65, 232, 255, 255, 255, 255, 0, 255, 255, 0]) (c := true) (by rfl) hg1 (ho1.rd (by show 10 ≤ _; decide)) (by simp) rfl
  refine br_eq (fun e => ?_) (fun n12 => ?_)
  · obtain rfl : op = 66 := by omega
    refine lit_rule (cells := (bv [UInt8.ofNat 66, 0, 0, 0, 0, 0, 0, 255, 255, 0]).toArray) (e := t_uint8) (z := 1) (base := 0) (by kernel_rfl) rfl (by decide) (Nat.zero_le _) fun w1 ho1 hg1 _ => ?_
    exact fin (m := [UInt8.ofNat 66, 0, 0, 0, 0, 0, 0, 255, 255, 0]) (c := true) (by rfl) hg1 (ho1.rd (by show 10 ≤ _; decide)) (by simp) rfl
  refine br_eq (fun e => ?_) (fun n13 => ?_)
  · obtain rfl : op = 85 := by omega
    refine lit_rule (cells := (bv [UInt8.ofNat 85, 17, 0, 0, 0, 0, 0, 255, 255, 0]).toArray) (e := t_uint8) (z := 1) (base := 0) (by kernel_rfl) rfl (by decide) (Nat.zero_le _) fun w1 ho1 hg1 _ => ?_
    exact fin (m := [UInt8.ofNat 85, 17, 0, 0, 0, 0, 0, 255, 255, 0]) (c := true) (by rfl) hg1 (ho1.rd (by show 10 ≤ _; decide)) (by simp) rfl
  refine br_eq (fun e => ?_) (fun n14 => ?_)
  · obtain rfl : op = 90 := by omega
    refine lit_rule (cells := (bv [UInt8.ofNat 90, 8, 255, 0, 0, 0, 0, 255, 255, 0]).toArray) (e := t_uint8) (z := 1) (base := 0) (by kernel_rfl) rfl (by decide) (Nat.zero_le _) fun w1 ho1 hg1 _ => ?_
    exact fin (m := [UInt8.ofNat 90, 8, 255, 0, 0, 0, 0, 255, 255, 0]) (c := true) (by rfl) hg1 (ho1.rd (by show 10 ≤ _; decide)) (by simp) rfl
  refine br_eq (fun e => ?_) (fun n15 => ?_)
  · obtain rfl : op = 94 := by omega
    refine lit_rule (cells := (bv [UInt8.ofNat 94, 31, 0, 0, 0, 0, 0, 255, 255, 0]).toArray) (e := t_uint8) (z := 1) (base := 0) (by kernel_rfl) rfl (by decide) (Nat.zero_le _) fun w1 ho1 hg1 _ => ?_
    exact fin (m := [UInt8.ofNat 94, 31, 0, 0, 0, 0, 0, 255, 255, 0]) (c := decide (sv ≤ 3)) (by rfl) hg1 (ho1.rd (by show 10 ≤ _; decide)) (by simp) (by rw [decide_eq_decide]; omega)
  refine br_eq (fun e => ?_) (fun n16 => ?_)
  · obtain rfl : op = 95 := by omega
    refine lit_rule (cells := (bv [UInt8.ofNat 95, 31, 15, 0, 0, 255, 255, 255, 255, 0]).toArray) (e := t_uint8) (z := 1) (base := 0) (by kernel_rfl) rfl (by decide) (Nat.zero_le _) fun w1 ho1 hg1 _ => ?_
    exact fin (m := [UInt8.ofNat 95, 31, 15, 0, 0, 255, 255, 255, 255, 0]) (c := decide (sv ≤ 6)) (by rfl) hg1 (ho1.rd (by show 10 ≤ _; decide)) (by simp) (by rw [decide_eq_decide]; omega)
  refine br_eq (fun e => ?_) (fun n17 => ?_)
  · obtain rfl : op = 131 := by omega
    refine Row.start (l := [UInt8.ofNat 131, 31, 0, 0, 0, 0, 0, 0, 0, 0]) (by kernel_rfl) rfl (by show 10 ≤ _; decide) fun p1 w1 h1 => ?_
    refine ⟨⟨by decide, by decide, by show (4 : Int) ≤ 12; decide, by show 12 ≤ 12; decide⟩, ?_⟩
    have hw1 : Rd w1 1 ⟨cutA (some ⟨w.heap.size, 0, none⟩) 12 0 1, 4 - 0, 12 - 0⟩ (bv (List.replicate 4 255)) := by have := (hwd.grow h1.grow).cutB (l := 0) (k := 4) (by decide) (by show 4 ≤ 12; decide); simpa using this
    refine h1.app hw1 (by show 10 + 4 ≤ _; decide) fun p2 w2 h2 _ => ?_
    refine h2.lit (l := [0, 0]) (by kernel_rfl) rfl (by show 14 + 2 ≤ _; decide) fun p3 w3 h3 _ => ?_
    exact fin (m := [UInt8.ofNat 131, 31, 0, 0, 0, 0, 0, 0, 0, 0, 255, 255, 255, 255, 0, 0]) (c := decide (sv = 0)) (by rfl) h3.grow (h3.rd (by show 16 ≤ _; decide)) (by simp) (by rw [Bool.eq_iff_iff, beq_iff_eq, decide_eq_true_eq]; omega)
  refine letX1 (fun x v => w0 = v ∧ x = decide (op = 136 ∨ op = 138)) ?_ (fun J => ?_)
  rotate_left
  · by_cases e : op = 136
    · exact br_t (by rw [beq_iff_eq]; omega) (J _ _ ⟨rfl, by rw [Bool.eq_iff_iff, beq_iff_eq, decide_eq_true_eq]; omega⟩)
    · exact br_f (by rw [beq_eq_false_iff_ne]; omega) (J _ _ ⟨rfl, by rw [Bool.eq_iff_iff, beq_iff_eq, decide_eq_true_eq]; omega⟩)
  rintro x v ⟨rfl, rfl⟩
  refine br_dec (fun e => ?_) (fun n18 => ?_)
  · rcases e with rfl | rfl
    · refine Row.start (l := [UInt8.ofNat 136, 248]) (by kernel_rfl) rfl (by show 2 ≤ _; decide) fun p1 w1 h1 => ?_
      have hw1 : Rd w1 1 ⟨some ⟨w.heap.size, 0, none⟩, 12, 12⟩ (bv (List.replicate 12 255)) := hwd.grow h1.grow
      refine h1.app hw1 (by show 2 + 12 ≤ _; decide) fun p2 w2 h2 _ => ?_
      refine h2.lit (l := [0, 0]) (by kernel_rfl) rfl (by show 14 + 2 ≤ _; decide) fun p3 w3 h3 _ => ?_
      exact fin (m := [UInt8.ofNat 136, 248, 255, 255, 255, 255, 255, 255, 255, 255, 255, 255, 255, 255, 0, 0]) (c := true) (by rfl) h3.grow (h3.rd (by show 16 ≤ _; decide)) (by simp) rfl
    · refine Row.start (l := [UInt8.ofNat 138, 248]) (by kernel_rfl) rfl (by show 2 ≤ _; decide) fun p1 w1 h1 => ?_
      have hw1 : Rd w1 1 ⟨some ⟨w.heap.size, 0, none⟩, 12, 12⟩ (bv (List.replicate 12 255)) := hwd.grow h1.grow
      refine h1.app hw1 (by show 2 + 12 ≤ _; decide) fun p2 w2 h2 _ => ?_
      refine h2.lit (l := [0, 0]) (by kernel_rfl) rfl (by show 14 + 2 ≤ _; decide) fun p3 w3 h3 _ => ?_
      exact fin (m := [UInt8.ofNat 138, 248, 255, 255, 255, 255, 255, 255, 255, 255, 255, 255, 255, 255, 0, 0]) (c := true) (by rfl) h3.grow (h3.rd (by show 16 ≤ _; decide)) (by simp) rfl
  refine br_eq (fun e => ?_) (fun n19 => ?_)
  · obtain rfl : op = 137 := by omega
    refine Row.start (l := [UInt8.ofNat 137, 248]) (by kernel_rfl) rfl (by show 2 ≤ _; decide) fun p1 w1 h1 => ?_
    refine ⟨⟨by decide, by decide, by show (8 : Int) ≤ 12; decide, by show 12 ≤ 12; decide⟩, ?_⟩
    have hw1 : Rd w1 1 ⟨cutA (some ⟨w.heap.size, 0, none⟩) 12 0 1, 8 - 0, 12 - 0⟩ (bv (List.replicate 8 255)) := by have := (hwd.grow h1.grow).cutB (l := 0) (k := 8) (by decide) (by show 8 ≤ 12; decide); simpa using this
    refine h1.app hw1 (by show 2 + 8 ≤ _; decide) fun p2 w2 h2 _ => ?_
    refine h2.lit (l := [0, 0, 0, 255, 0, 0]) (by kernel_rfl) rfl (by show 10 + 6 ≤ _; decide) fun p3 w3 h3 _ => ?_
    exact fin (m := [UInt8.ofNat 137, 248, 255, 255, 255, 255, 255, 255, 255, 255, 0, 0, 0, 255, 0, 0]) (c := true) (by rfl) h3.grow (h3.rd (by show 16 ≤ _; decide)) (by simp) rfl
  refine br_eq (fun e => ?_) (fun n20 => ?_)
  · obtain rfl : op = 145 := by omega
    refine Row.start (l := [UInt8.ofNat 145, 0]) (by kernel_rfl) rfl (by show 2 ≤ _; decide) fun p1 w1 h1 => ?_
    have hw1 : Rd w1 1 ⟨some ⟨w.heap.size, 0, none⟩, 12, 12⟩ (bv (List.replicate 12 255)) := hwd.grow h1.grow
    refine h1.app hw1 (by show 2 + 12 ≤ _; decide) fun p2 w2 h2 _ => ?_
    refine h2.lit (l := [0, 0]) (by kernel_rfl) rfl (by show 14 + 2 ≤ _; decide) fun p3 w3 h3 _ => ?_
    exact fin (m := [UInt8.ofNat 145, 0, 255, 255, 255, 255, 255, 255, 255, 255, 255, 255, 255, 255, 0, 0]) (c := true) (by rfl) h3.grow (h3.rd (by show 16 ≤ _; decide)) (by simp) rfl
  refine br_eq (fun e => ?_) (fun n21 => ?_)
  · obtain rfl : op = 147 := by omega
    refine Row.start (l := [UInt8.ofNat 147, 232]) (by kernel_rfl) rfl (by show 2 ≤ _; decide) fun p1 w1 h1 => ?_
    have hw1 : Rd w1 1 ⟨some ⟨w.heap.size, 0, none⟩, 12, 12⟩ (bv (List.replicate 12 255)) := hwd.grow h1.grow
    refine h1.app hw1 (by show 2 + 12 ≤ _; decide) fun p2 w2 h2 _ => ?_
    refine h2.lit (l := [0, 0]) (by kernel_rfl) rfl (by show 14 + 2 ≤ _; decide) fun p3 w3 h3 _ => ?_
    exact fin (m := [UInt8.ofNat 147, 232, 255, 255, 255, 255, 255, 255, 255, 255, 255, 255, 255, 255, 0, 0]) (c := true) (by rfl) h3.grow (h3.rd (by show 16 ≤ _; decide)) (by simp) rfl
  refine br_eq (fun e => ?_) (fun n22 => ?_)
  · obtain rfl : op = 158 := by omega
    refine Row.start (l := [UInt8.ofNat 158, 31, 0, 0, 0, 0, 0, 0, 0, 0]) (by kernel_rfl) rfl (by show 10 ≤ _; decide) fun p1 w1 h1 => ?_
    refine ⟨⟨by decide, by decide, by show (4 : Int) ≤ 12; decide, by show 12 ≤ 12; decide⟩, ?_⟩
    have hw1 : Rd w1 1 ⟨cutA (some ⟨w.heap.size, 0, none⟩) 12 0 1, 4 - 0, 12 - 0⟩ (bv (List.replicate 4 255)) := by have := (hwd.grow h1.grow).cutB (l := 0) (k := 4) (by decide) (by show 4 ≤ 12; decide); simpa using this
    refine h1.app hw1 (by show 10 + 4 ≤ _; decide) fun p2 w2 h2 _ => ?_
    refine h2.lit (l := [0, 0]) (by kernel_rfl) rfl (by show 14 + 2 ≤ _; decide) fun p3 w3 h3 _ => ?_
    exact fin (m := [UInt8.ofNat 158, 31, 0, 0, 0, 0, 0, 0, 0, 0, 255, 255, 255, 255, 0, 0]) (c := decide (sv = 16)) (by rfl) h3.grow (h3.rd (by show 16 ≤ _; decide)) (by simp) (by rw [Bool.eq_iff_iff, beq_iff_eq, decide_eq_true_eq]; omega)
  refine br_eq (fun e => ?_) (fun n23 => ?_)
  · obtain rfl : op = 160 := by omega
    refine lit_rule (cells := (bv [UInt8.ofNat 160, 0, 3, 0, 0, 0, 255, 255, 255, 255, 0, 0]).toArray) (e := t_uint8) (z := 1) (base := 0) (by kernel_rfl) rfl (by decide) (Nat.zero_le _) fun w1 ho1 hg1 _ => ?_
    exact fin (m := [UInt8.ofNat 160, 0, 3, 0, 0, 0, 255, 255, 255, 255, 0, 0]) (c := true) (by rfl) hg1 (ho1.rd (by show 12 ≤ _; decide)) (by simp) rfl
  refine h _ _ _ hg0 ?_
  have e : maskX op sv = none := by unfold maskX; rw [if_neg (by omega), if_neg (by omega), if_neg (by omega), if_neg (by omega), if_neg (by omega), if_neg (by omega), if_neg (by omega), if_neg (by omega), if_neg (by omega), if_neg (by omega), if_neg (by omega), if_neg (by omega), if_neg (by omega), if_neg (by omega), if_neg (by omega), if_neg (by omega), if_neg (by omega), if_neg (by omega), if_neg (by omega), if_neg (by omega), if_neg (by omega), if_neg (by omega), if_neg (by omega), if_neg (by omega)]
  rw [e]; exact ⟨rfl, rfl⟩
end
/-- a mask, case by case -/
theorem mask_cases {op sv : Nat} {m : L8} {b : Bool} {P : Nat → L8 → Prop} (h : maskX op sv = some (m, b))
    (h0 : P 0 [UInt8.ofNat 0, 0, 0, 0, 0, 0])
    (h3 : P 3 [UInt8.ofNat 3, 1, 0, 0, 255, 0])
    (h8 : P 8 [UInt8.ofNat 8, 31, 255, 255, 255, 0])
    (h10 : P 10 [UInt8.ofNat 10, 31, 255, 255, 255, 0])
    (h18 : P 18 [UInt8.ofNat 18, 1, 255, 255, 255, 0])
    (h21 : P 21 [UInt8.ofNat 21, 17, 0, 0, 255, 0])
    (h26 : P 26 [UInt8.ofNat 26, 8, 255, 0, 255, 0])
    (h37 : P 37 [UInt8.ofNat 37, 0, 0, 0, 0, 0, 0, 0, 0, 0])
    (h40 : P 40 [UInt8.ofNat 40, 248, 255, 255, 255, 255, 0, 255, 255, 0])
    (h42 : P 42 [UInt8.ofNat 42, 248, 255, 255, 255, 255, 0, 255, 255, 0])
    (h46 : P 46 [UInt8.ofNat 46, 240, 255, 255, 255, 255, 0, 255, 255, 0])
    (h47 : P 47 [UInt8.ofNat 47, 242, 255, 255, 255, 255, 0, 255, 255, 0])
    (h53 : P 53 [UInt8.ofNat 53, 0, 255, 255, 255, 255, 0, 255, 255, 0])
    (h65 : P 65 [UInt8.ofNat 65, 232, 255, 255, 255, 255, 0, 255, 255, 0])
    (h66 : P 66 [UInt8.ofNat 66, 0, 0, 0, 0, 0, 0, 255, 255, 0])
    (h85 : P 85 [UInt8.ofNat 85, 17, 0, 0, 0, 0, 0, 255, 255, 0])
    (h90 : P 90 [UInt8.ofNat 90, 8, 255, 0, 0, 0, 0, 255, 255, 0])
    (h94 : P 94 [UInt8.ofNat 94, 31, 0, 0, 0, 0, 0, 255, 255, 0])
    (h95 : P 95 [UInt8.ofNat 95, 31, 15, 0, 0, 255, 255, 255, 255, 0])
    (h131 : P 131 [UInt8.ofNat 131, 31, 0, 0, 0, 0, 0, 0, 0, 0, 255, 255, 255, 255, 0, 0])
    (h136 : P 136 [UInt8.ofNat 136, 248, 255, 255, 255, 255, 255, 255, 255, 255, 255, 255, 255, 255, 0, 0])
    (h138 : P 138 [UInt8.ofNat 138, 248, 255, 255, 255, 255, 255, 255, 255, 255, 255, 255, 255, 255, 0, 0])
    (h137 : P 137 [UInt8.ofNat 137, 248, 255, 255, 255, 255, 255, 255, 255, 255, 0, 0, 0, 255, 0, 0])
    (h145 : P 145 [UInt8.ofNat 145, 0, 255, 255, 255, 255, 255, 255, 255, 255, 255, 255, 255, 255, 0, 0])
    (h147 : P 147 [UInt8.ofNat 147, 232, 255, 255, 255, 255, 255, 255, 255, 255, 255, 255, 255, 255, 0, 0])
    (h158 : P 158 [UInt8.ofNat 158, 31, 0, 0, 0, 0, 0, 0, 0, 0, 255, 255, 255, 255, 0, 0])
    (h160 : P 160 [UInt8.ofNat 160, 0, 3, 0, 0, 0, 255, 255, 255, 255, 0, 0])
    : P op m := by
  unfold maskX at h
  by_cases q : op = 0
  · rw [if_pos q] at h
    injection h with h; injection h with h1 h2
    subst h1
    subst q; exact h0
  rw [if_neg q] at h
  clear q
  by_cases q : op = 3
  · rw [if_pos q] at h
    injection h with h; injection h with h1 h2
    subst h1
    subst q; exact h3
  rw [if_neg q] at h
  clear q
  by_cases q : op = 8 ∨ op = 10
  · rw [if_pos q] at h
    injection h with h; injection h with h1 h2
    subst h1
    rcases q with rfl | rfl
    · exact h8
    · exact h10
  rw [if_neg q] at h
  clear q
  by_cases q : op = 18
  · rw [if_pos q] at h
    injection h with h; injection h with h1 h2
    subst h1
    subst q; exact h18
  rw [if_neg q] at h
  clear q
  by_cases q : op = 21
  · rw [if_pos q] at h
    injection h with h; injection h with h1 h2
    subst h1
    subst q; exact h21
  rw [if_neg q] at h
  clear q
  by_cases q : op = 26
  · rw [if_pos q] at h
    injection h with h; injection h with h1 h2
    subst h1
    subst q; exact h26
  rw [if_neg q] at h
  clear q
  by_cases q : op = 37
  · rw [if_pos q] at h
    injection h with h; injection h with h1 h2
    subst h1
    subst q; exact h37
  rw [if_neg q] at h
  clear q
  by_cases q : op = 40 ∨ op = 42
  · rw [if_pos q] at h
    injection h with h; injection h with h1 h2
    subst h1
    rcases q with rfl | rfl
    · exact h40
    · exact h42
  rw [if_neg q] at h
  clear q
  by_cases q : op = 46
  · rw [if_pos q] at h
    injection h with h; injection h with h1 h2
    subst h1
    subst q; exact h46
  rw [if_neg q] at h
  clear q
  by_cases q : op = 47
  · rw [if_pos q] at h
    injection h with h; injection h with h1 h2
    subst h1
    subst q; exact h47
  rw [if_neg q] at h
  clear q
  by_cases q : op = 53
  · rw [if_pos q] at h
    injection h with h; injection h with h1 h2
    subst h1
    subst q; exact h53
  rw [if_neg q] at h
  clear q
  by_cases q : op = 65
  · rw [if_pos q] at h
    injection h with h; injection h with h1 h2
    subst h1
    subst q; exact h65
  rw [if_neg q] at h
  clear q
  by_cases q : op = 66
  · rw [if_pos q] at h
    injection h with h; injection h with h1 h2
    subst h1
    subst q; exact h66
  rw [if_neg q] at h
  clear q
  by_cases q : op = 85
  · rw [if_pos q] at h
    injection h with h; injection h with h1 h2
    subst h1
    subst q; exact h85
  rw [if_neg q] at h
  clear q
  by_cases q : op = 90
  · rw [if_pos q] at h
    injection h with h; injection h with h1 h2
    subst h1
    subst q; exact h90
  rw [if_neg q] at h
  clear q
  by_cases q : op = 94
  · rw [if_pos q] at h
    injection h with h; injection h with h1 h2
    subst h1
    subst q; exact h94
  rw [if_neg q] at h
  clear q
  by_cases q : op = 95
  · rw [if_pos q] at h
    injection h with h; injection h with h1 h2
    subst h1
    subst q; exact h95
  rw [if_neg q] at h
  clear q
  by_cases q : op = 131
  · rw [if_pos q] at h
    injection h with h; injection h with h1 h2
    subst h1
    subst q; exact h131
  rw [if_neg q] at h
  clear q
  by_cases q : op = 136 ∨ op = 138
  · rw [if_pos q] at h
    injection h with h; injection h with h1 h2
    subst h1
    rcases q with rfl | rfl
    · exact h136
    · exact h138
  rw [if_neg q] at h
  clear q
  by_cases q : op = 137
  · rw [if_pos q] at h
    injection h with h; injection h with h1 h2
    subst h1
    subst q; exact h137
  rw [if_neg q] at h
  clear q
  by_cases q : op = 145
  · rw [if_pos q] at h
    injection h with h; injection h with h1 h2
    subst h1
    subst q; exact h145
  rw [if_neg q] at h
  clear q
  by_cases q : op = 147
  · rw [if_pos q] at h
    injection h with h; injection h with h1 h2
    subst h1
    subst q; exact h147
  rw [if_neg q] at h
  clear q
  by_cases q : op = 158
  · rw [if_pos q] at h
    injection h with h; injection h with h1 h2
    subst h1
    subst q; exact h158
  rw [if_neg q] at h
  clear q
  by_cases q : op = 160
  · rw [if_pos q] at h
    injection h with h; injection h with h1 h2
    subst h1
    subst q; exact h160
  rw [if_neg q] at h
  clear q
  cases h
end Go.Proofs.YtpmebahhjgkflaaGreatDoor

/- Layer 8: odd bits, numbers, kinds; a command taken apart. -/
namespace Go.Proofs.YtpmebahhjgkflaaGreatDoor
open Go CF
set_option maxRecDepth 100000

theorem andN8 {n m : Nat} (hn : n < 256) (hm : m < 256) : bAnd .u8 (n : Int) (m : Int) = ((n &&& m : Nat) : Int) := by
  unfold bAnd
  show IntKind.wrap .u8 (((BitVec.ofInt 8 (n : Int) &&& BitVec.ofInt 8 (m : Int)).toNat : Nat) : Int) = _
  rw [BitVec.ofInt_natCast, BitVec.ofInt_natCast, BitVec.toNat_and, BitVec.toNat_ofNat, BitVec.toNat_ofNat, Nat.mod_eq_of_lt (by omega), Nat.mod_eq_of_lt (by omega)]
  have : n &&& m ≤ n := Nat.and_le_left
  generalize n &&& m = k at *
  exact wu8 (by omega) (by omega)
theorem andN64 {n m : Nat} (hn : n < 18446744073709551616) (hm : m < 18446744073709551616) : bAnd .u64 (n : Int) (m : Int) = ((n &&& m : Nat) : Int) := by
  unfold bAnd
  show IntKind.wrap .u64 (((BitVec.ofInt 64 (n : Int) &&& BitVec.ofInt 64 (m : Int)).toNat : Nat) : Int) = _
  rw [BitVec.ofInt_natCast, BitVec.ofInt_natCast, BitVec.toNat_and, BitVec.toNat_ofNat, BitVec.toNat_ofNat, Nat.mod_eq_of_lt (by omega), Nat.mod_eq_of_lt (by omega)]
  have : n &&& m ≤ n := Nat.and_le_left
  generalize n &&& m = k at *
  exact wu64 (by omega) (by omega)
theorem clrN8 (a b : UInt8) : bClr .u8 (a.toNat : Int) (b.toNat : Int) = ((a &&& ~~~b).toNat : Int) := by
  unfold bClr
  show IntKind.wrap .u8 (((BitVec.ofInt 8 (a.toNat : Int) &&& ~~~(BitVec.ofInt 8 (b.toNat : Int))).toNat : Nat) : Int) = _
  have ea : BitVec.ofInt 8 (a.toNat : Int) = a.toBitVec := by rw [BitVec.ofInt_natCast]; exact BitVec.eq_of_toNat_eq (by rw [BitVec.toNat_ofNat]; exact Nat.mod_eq_of_lt a.toNat_lt)
  have eb : BitVec.ofInt 8 (b.toNat : Int) = b.toBitVec := by rw [BitVec.ofInt_natCast]; exact BitVec.eq_of_toNat_eq (by rw [BitVec.toNat_ofNat]; exact Nat.mod_eq_of_lt b.toNat_lt)
  rw [ea, eb]
  have : (a.toBitVec &&& ~~~b.toBitVec).toNat = (a &&& ~~~b).toNat := rfl
  rw [this]
  have := (a &&& ~~~b).toNat_lt
  exact wu8 (by omega) (by omega)
/-- the highest of a byte's bits, of those under k -/
def oddB (b : Nat) : Nat → Option Nat
  | 0 => none
  | k + 1 => if b / 2 ^ k % 2 = 1 then some k else oddB b k
/-- the first bit of p that m doesn't have, from a byte on -/
def oddX : L8 → L8 → Nat → Option (Nat × Nat)
  | [], _, _ => none
  | b :: r, m, i => match oddB (b &&& ~~~(m.getD 0 0)).toNat 8 with
    | some k => some (i, k)
    | none => oddX r (m.drop 1) (i + 1)
section
variable {w : World}
theorem and1 {n : Nat} (h : n < 256) : bAnd .u8 (n : Int) 1 = ((n % 2 : Nat) : Int) := by
  have := andN8 h (m := 1) (by decide)
  rw [Nat.and_one_is_mod] at this
  exact this
theorem oddX_drop {p m : L8} {j : Nat} (hj : j < p.length) : oddX (p.drop j) (m.drop j) j = match oddB (p[j] &&& ~~~(m.getD j 0)).toNat 8 with | some k => some (j, k) | none => oddX (p.drop (j + 1)) (m.drop (j + 1)) (j + 1) := by
  rw [List.drop_eq_getElem_cons hj]
  show (match oddB (p[j] &&& ~~~((m.drop j).getD 0 0)).toNat 8 with | some k => some (j, k) | none => oddX (p.drop (j + 1)) ((m.drop j).drop 1) (j + 1)) = _
  rw [List.getD_eq_getElem?_getD, List.getElem?_drop, Nat.add_zero, List.drop_drop, ← List.getD_eq_getElem?_getD]
theorem odd_spec {p m : Sl} {l k : L8} {R : Int → Int → World → Prop} (hp : Rd w 1 p (bv l)) (hm : Rd w 1 m (bv k)) (hR : match oddX l k 0 with | none => R (-1) (-1) w | some (i, b) => R (i : Int) (b : Int) w) : Cbe_Odd p m w R := by
  refine Fbe_Odd.calls _ _ _ _ ?_
  have hpn := rd_n' hp
  have hmn := rd_n' hm
  have hpb := hp.nb
  refine ⟨fun x v => ∃ j : Nat, x = j ∧ j ≤ l.length ∧ v = w ∧ oddX l k 0 = oddX (l.drop j) (k.drop j) j, fun x _ => p.n - x.toNat, ⟨0, rfl, Nat.zero_le _, rfl, rfl⟩, ?_⟩
  rintro x v ⟨j, rfl, hj, rfl, he⟩
  refine br_nat (fun hlt => ?_) (fun hge => ?_)
  · have hjl : j < l.length := by omega
    rw [oddX_drop hjl] at he
    refine letX0 (fun v' => v' = v ∧ oddB (l[j] &&& ~~~(k.getD j 0)).toNat 8 = none) (fun v' hv => ?_) (fun J => ?_)
    · obtain ⟨rfl, ho⟩ := hv
      rw [ho] at he
      rw [w64 (by omega) (by omega)]
      exact ⟨⟨j + 1, by omega, by omega, rfl, he⟩, by dsimp only; omega⟩
    · obtain ⟨ha, hc⟩ := rd_at hp hjl
      have ej : l.getD j 0 = l[j] := by rw [List.getD_eq_getElem?_getD, List.getElem?_eq_getElem hjl]; rfl
      refine ⟨⟨by omega, by omega, ha⟩, _, by rw [Int.toNat_natCast]; exact hc, ?_⟩
      rw [ej]
      refine letX1 (fun b v' => v' = v ∧ b = ((l[j] &&& ~~~(k.getD j 0)).toNat : Int)) (fun b v' hb => ?_) (fun J2 => ?_)
      · obtain ⟨rfl, rfl⟩ := hb
        have hB := (l[j] &&& ~~~(k.getD j 0)).toNat_lt
        generalize (l[j] &&& ~~~(k.getD j 0)).toNat = B at *
        refine ⟨fun bit u => ∃ t : Nat, bit = (t : Int) - 1 ∧ t ≤ 8 ∧ u = v' ∧ oddB B 8 = oddB B t, fun bit _ => (bit + 1).toNat, ⟨8, by decide, by decide, rfl, rfl⟩, ?_⟩
        rintro bit u ⟨t, rfl, ht, rfl, ho⟩
        cases t with
        | zero => exact br_f (by decide) (J u ⟨rfl, ho⟩)
        | succ t =>
          refine br_t (by rw [decide_eq_true_eq]; omega) ⟨by omega, ?_⟩
          have e1 : (((t + 1 : Nat) : Int) - 1).toNat = t := by omega
          have e2 : ((t + 1 : Nat) : Int) - 1 = (t : Int) := by omega
          rw [e1, shr .u8 B t (by show t ≤ 8; omega), and1 (Nat.lt_of_le_of_lt (Nat.div_le_self _ _) (by omega)), e2]
          by_cases q : B / 2 ^ t % 2 = 1
          · refine br_t (by rw [beq_iff_eq]; omega) ?_
            have : oddB B (t + 1) = some t := by unfold oddB; rw [if_pos q]
            rw [ho, this] at he
            rw [he] at hR
            exact hR
          · refine br_f (by rw [beq_eq_false_iff_ne]; omega) ?_
            rw [w64 (by omega) (by omega)]
            refine ⟨⟨t, rfl, by omega, rfl, ho.trans ?_⟩, by dsimp only; omega⟩
            show (if B / 2 ^ t % 2 = 1 then some t else oddB B t) = _
            rw [if_neg q]
      · by_cases q : j < k.length
        · refine br_t (by rw [decide_eq_true_eq]; omega) ?_
          obtain ⟨hma, hmc⟩ := rd_at hm q
          refine ⟨⟨by omega, by omega, hma⟩, _, by rw [Int.toNat_natCast]; exact hmc, ?_⟩
          exact J2 _ _ ⟨rfl, clrN8 _ _⟩
        · refine br_f (by rw [decide_eq_false_iff_not]; omega) (J2 _ _ ⟨rfl, ?_⟩)
          have : k.getD j 0 = 0 := by rw [List.getD_eq_getElem?_getD, List.getElem?_eq_none (by omega)]; rfl
          rw [this]
          have : ∀ b : UInt8, b &&& ~~~(0 : UInt8) = b := fun b => by
            apply UInt8.toBitVec_inj.1
            rw [UInt8.toBitVec_and, UInt8.toBitVec_not]
            exact BitVec.and_allOnes
          rw [this]
  · have : j = l.length := by omega
    subst this
    rw [List.drop_length] at he
    rw [show oddX l k 0 = none from he] at hR
    exact hR
def kindX (op : Nat) : Nat :=
  if op = 0 then 1 else if op = 3 then 2 else if op = 18 then 3 else if op = 21 ∨ op = 85 then 4 else if op = 26 ∨ op = 90 then 5 else if op = 37 ∨ op = 158 then 6
  else if op = 8 ∨ op = 40 ∨ op = 136 then 7 else if op = 10 ∨ op = 42 ∨ op = 138 then 8 else if op = 46 then 9 else if op = 47 then 10 else if op = 53 ∨ op = 145 then 11
  else if op = 65 ∨ op = 147 then 12 else if op = 66 then 13 else if op = 137 then 14 else if op = 94 then 15 else if op = 95 then 16 else if op = 160 then 17 else if op = 131 then 18 else 0
theorem or2 {op a b : Nat} {j : Bool → World → Prop} (J : ∀ x v, w = v ∧ x = decide (op = a ∨ op = b) → j x v) : Br ((op : Int) == (a : Int)) (j ((op : Int) == (a : Int)) w) (j ((op : Int) == (b : Int)) w) := by
  by_cases e : op = a
  · exact br_t (by rw [beq_iff_eq]; omega) (J _ _ ⟨rfl, by rw [Bool.eq_iff_iff, beq_iff_eq, decide_eq_true_eq]; omega⟩)
  · exact br_f (by rw [beq_eq_false_iff_ne]; omega) (J _ _ ⟨rfl, by rw [Bool.eq_iff_iff, beq_iff_eq, decide_eq_true_eq]; omega⟩)
theorem or3 {op a b c : Nat} {j : Bool → World → Prop} (J : ∀ x v, w = v ∧ x = decide (op = a ∨ op = b ∨ op = c) → j x v) : Br ((op : Int) == (a : Int)) (j ((op : Int) == (a : Int)) w) (Br ((op : Int) == (b : Int)) (j ((op : Int) == (b : Int)) w) (j ((op : Int) == (c : Int)) w)) := by
  by_cases e : op = a
  · exact br_t (by rw [beq_iff_eq]; omega) (J _ _ ⟨rfl, by rw [Bool.eq_iff_iff, beq_iff_eq, decide_eq_true_eq]; omega⟩)
  · refine br_f (by rw [beq_eq_false_iff_ne]; omega) (or2 (a := b) (b := c) fun x v hv => J x v ⟨hv.1, hv.2.trans ?_⟩)
    rw [decide_eq_decide]; omega
theorem kindOp_spec {op : Nat} {R : Int → World → Prop} (h : R (kindX op : Int) w) : Ccdb_kind (op : Int) w R := by
  refine Fcdb_kind.calls _ _ _ ?_
  unfold kindX at h
  refine br_eq (fun e => ?_) (fun n1 => br_eq (fun e => ?_) (fun n2 => br_eq (fun e => ?_) (fun n3 => ?_)))
  · rw [if_pos (by omega)] at h; exact h
  · rw [if_neg (by omega), if_pos (by omega)] at h; exact h
  · rw [if_neg (by omega), if_neg (by omega), if_pos (by omega)] at h; exact h
  rw [if_neg (by omega), if_neg (by omega), if_neg (by omega)] at h
  refine letX1 (fun x v => w = v ∧ x = decide (op = 21 ∨ op = 85)) ?_ (fun J => or2 (a := 21) (b := 85) J)
  rintro x v ⟨rfl, rfl⟩
  refine br_dec (fun e => ?_) (fun n4 => ?_)
  · rw [if_pos e] at h; exact h
  rw [if_neg n4] at h
  refine letX1 (fun x v => w = v ∧ x = decide (op = 26 ∨ op = 90)) ?_ (fun J => or2 (a := 26) (b := 90) J)
  rintro x v ⟨rfl, rfl⟩
  refine br_dec (fun e => ?_) (fun n5 => ?_)
  · rw [if_pos e] at h; exact h
  rw [if_neg n5] at h
  refine letX1 (fun x v => w = v ∧ x = decide (op = 37 ∨ op = 158)) ?_ (fun J => or2 (a := 37) (b := 158) J)
  rintro x v ⟨rfl, rfl⟩
  refine br_dec (fun e => ?_) (fun n6 => ?_)
  · rw [if_pos e] at h; exact h
  rw [if_neg n6] at h
  refine letX1 (fun x v => w = v ∧ x = decide (op = 8 ∨ op = 40 ∨ op = 136)) ?_ (fun J => or3 (a := 8) (b := 40) (c := 136) J)
  rintro x v ⟨rfl, rfl⟩
  refine br_dec (fun e => ?_) (fun n7 => ?_)
  · rw [if_pos e] at h; exact h
  rw [if_neg n7] at h
  refine letX1 (fun x v => w = v ∧ x = decide (op = 10 ∨ op = 42 ∨ op = 138)) ?_ (fun J => or3 (a := 10) (b := 42) (c := 138) J)
  rintro x v ⟨rfl, rfl⟩
  refine br_dec (fun e => ?_) (fun n8 => ?_)
  · rw [if_pos e] at h; exact h
  rw [if_neg n8] at h
  refine br_eq (fun e => ?_) (fun n9 => br_eq (fun e => ?_) (fun n10 => ?_))
  · rw [if_pos (by omega)] at h; exact h
  · rw [if_neg (by omega), if_pos (by omega)] at h; exact h
  rw [if_neg (by omega), if_neg (by omega)] at h
  refine letX1 (fun x v => w = v ∧ x = decide (op = 53 ∨ op = 145)) ?_ (fun J => or2 (a := 53) (b := 145) J)
  rintro x v ⟨rfl, rfl⟩
  refine br_dec (fun e => ?_) (fun n11 => ?_)
  · rw [if_pos e] at h; exact h
  rw [if_neg n11] at h
  refine letX1 (fun x v => w = v ∧ x = decide (op = 65 ∨ op = 147)) ?_ (fun J => or2 (a := 65) (b := 147) J)
  rintro x v ⟨rfl, rfl⟩
  refine br_dec (fun e => ?_) (fun n12 => ?_)
  · rw [if_pos e] at h; exact h
  rw [if_neg n12] at h
  refine br_eq (fun e => ?_) (fun n13 => br_eq (fun e => ?_) (fun n14 => br_eq (fun e => ?_) (fun n15 => br_eq (fun e => ?_) (fun n16 => br_eq (fun e => ?_) (fun n17 => br_eq (fun e => ?_) (fun n18 => ?_))))))
  · rw [if_pos (by omega)] at h; exact h
  · rw [if_neg (by omega), if_pos (by omega)] at h; exact h
  · rw [if_neg (by omega), if_neg (by omega), if_pos (by omega)] at h; exact h
  · rw [if_neg (by omega), if_neg (by omega), if_neg (by omega), if_pos (by omega)] at h; exact h
  · rw [if_neg (by omega), if_neg (by omega), if_neg (by omega), if_neg (by omega), if_pos (by omega)] at h; exact h
  · rw [if_neg (by omega), if_neg (by omega), if_neg (by omega), if_neg (by omega), if_neg (by omega), if_pos (by omega)] at h; exact h
  · rw [if_neg (by omega), if_neg (by omega), if_neg (by omega), if_neg (by omega), if_neg (by omega), if_neg (by omega)] at h; exact h
end
end Go.Proofs.YtpmebahhjgkflaaGreatDoor

/- Layer 8: the fields of a command. -/
namespace Go.Proofs.YtpmebahhjgkflaaGreatDoor
open Go CF
set_option maxRecDepth 100000
def bN (p : L8) (i : Nat) : Nat := (p.getD i 0).toNat
def nuN (p : L8) (at_ n : Nat) : Nat := num ((p.drop at_).take n)
theorem bN_lt (p : L8) (i : Nat) : bN p i < 256 := (p.getD i 0).toNat_lt
theorem nuN_lt (p : L8) (at_ n : Nat) : nuN p at_ n < 256 ^ n := by
  unfold nuN
  have h := num_lt ((p.drop at_).take n)
  have : ((p.drop at_).take n).length ≤ n := by rw [List.length_take]; omega
  exact Nat.lt_of_lt_of_le h (Nat.pow_le_pow_right (by decide) this)
theorem nu1 (p : L8) (a : Nat) : nuN p a 1 < 256 := nuN_lt p a 1
theorem nu2 (p : L8) (a : Nat) : nuN p a 2 < 65536 := nuN_lt p a 2
theorem nu3 (p : L8) (a : Nat) : nuN p a 3 < 16777216 := nuN_lt p a 3
theorem nu4 (p : L8) (a : Nat) : nuN p a 4 < 4294967296 := nuN_lt p a 4
theorem nu8 (p : L8) (a : Nat) : nuN p a 8 < 18446744073709551616 := nuN_lt p a 8
def spanX (c : Cm) (p : L8) : Cm × Nat :=
  if p.length = 6 then ({ c with lba := nuN p 1 3 &&& 2097151, blocks := if nuN p 4 1 = 0 then 256 else nuN p 4 1 }, 4)
  else if p.length = 10 then ({ c with lba := nuN p 2 4, blocks := nuN p 7 2 }, 7)
  else ({ c with lba := nuN p 2 8, blocks := nuN p 10 4 }, 10)
def wideX (c : Cm) (p : L8) : Cm :=
  if c.kind = 7 ∨ c.kind = 8 then { c with prot := bN p 1 / 32, fua := decide (bN p 1 &&& 8 ≠ 0) }
  else if c.kind = 10 then { c with prot := bN p 1 / 32, bytes := decide (bN p 1 &&& 2 ≠ 0) }
  else if c.kind = 12 then { c with prot := bN p 1 / 32, unmap := decide (bN p 1 &&& 8 ≠ 0) }
  else if c.kind = 11 then { c with prot := 0 }
  else { c with prot := bN p 1 / 32 }
def partX (c : Cm) (p : L8) : Cm := if 6 < p.length then wideX (spanX c p).1 p else (spanX c p).1
def burstX (c : Cm) (p : L8) : Option (Nat × Nat) := if c.kind ≠ 11 ∧ c.kind ≠ 12 ∧ 256 < (partX c p).blocks then some ((spanX c p).2, 7) else none
section
variable {w : World} {p : Sl} {l : L8} {cb : Nat} {c : Cm} {R : Int → Int → World → Prop}
theorem numC_spec {at_ n : Nat} {R : Int → World → Prop} (hp : Rd w 1 p (bv l)) (hn : 1 ≤ n) (hn8 : n ≤ 8) (hat : at_ + n ≤ l.length) (h : R (nuN l at_ n : Int) w) : Ccdb_number p (at_ : Int) (n : Int) w R := by
  refine Fcdb_number.calls _ _ _ _ _ ?_
  exact get_spec hp hp.nb hn hn8 hat h
/-- a command that is being filled -/
abbrev IsC (w : World) (cb : Nat) (c : Cm) : Prop := Blk w cb (cmv c).toArray t_api_Cmd
theorem IsC.put (h : IsC w cb c) {o : Nat} {v : Value} (c' : Cm) (e : (cmv c).set o v = cmv c') (ho : o < 15) (hv : v.oneCell' = true) {K : World → Prop}
    (hK : ∀ w', IsC w' cb c' → Keep (fun k => k = cb) w w' → w'.heap.size = w.heap.size → K w') : Put ((gA (some (⟨cb, 0, none⟩ : Addr))).add o) v w K := by
  rw [gA, add0]
  refine put_rule h (by show 0 + o < 15; omega) hv fun w1 hb1 hk1 hs1 => hK w1 ?_ hk1 hs1
  have : (cmv c).toArray.setIfInBounds (0 + o) v = (cmv c').toArray := by rw [List.setIfInBounds_toArray, Nat.zero_add, e]
  rw [this] at hb1; exact hb1
theorem IsC.cell (h : IsC w cb c) {o : Nat} {v : Value} (e : (cmv c)[o]? = some v) : w.cell? ((gA (some (⟨cb, 0, none⟩ : Addr))).add o) = some v := by
  rw [gA, add0, Blk.cell h, Nat.zero_add, List.getElem?_toArray]; exact e
theorem rd_kc {w' : World} (hp : Rd w 1 p (bv l)) (hn : ∀ a, p.A = some a → a.block ≠ cb) (k : Keep (fun k => k = cb) w w') : Rd w' 1 p (bv l) := hp.keep k fun a ha _ => hn a ha
theorem span_spec {R : Int → World → Prop} (h : IsC w cb c) (hp : Rd w 1 p (bv l)) (hn : ∀ a, p.A = some a → a.block ≠ cb) (hl : l.length = 6 ∨ l.length = 10 ∨ l.length = 16)
    (hR : ∀ w', IsC w' cb (spanX c l).1 → Keep (fun k => k = cb) w w' → w'.heap.size = w.heap.size → R ((spanX c l).2 : Int) w') : Ccdb_span (some ⟨cb, 0, none⟩) p w R := by
  refine Fcdb_span.calls _ _ _ _ ?_
  have hpn := rd_n' hp
  have e6 : ((p.n : Int) == 6) = decide (l.length = 6) := by rw [Bool.eq_iff_iff, beq_iff_eq, decide_eq_true_eq]; omega
  have e10 : ((p.n : Int) == 10) = decide (l.length = 10) := by rw [Bool.eq_iff_iff, beq_iff_eq, decide_eq_true_eq]; omega
  unfold Fcdb_span
  rw [e6, e10]
  unfold spanX at hR
  refine br_dec (fun q => ?_) (fun q => br_dec (fun q2 => ?_) (fun q2 => ?_))
  · rw [if_pos q] at hR
    have n3 := nu3 l 1
    have n1 := nu1 l 4
    refine numC_spec (at_ := 1) (n := 3) hp (by decide) (by decide) (by omega) (numC_spec (at_ := 4) (n := 1) hp (by decide) (by decide) (by omega) ⟨rfl, ?_⟩)
    have ea : bAnd .u64 (nuN l 1 3 : Int) 2097151 = ((nuN l 1 3 &&& 2097151 : Nat) : Int) := andN64 (m := 2097151) (by omega) (by decide)
    rw [ea]
    refine h.put { c with lba := nuN l 1 3 &&& 2097151 } rfl (by decide) rfl fun w1 h1 k1 s1 => ⟨rfl, ?_⟩
    refine h1.put { c with lba := nuN l 1 3 &&& 2097151, blocks := nuN l 4 1 } rfl (by decide) rfl fun w2 h2 k2 s2 => ⟨rfl, _, h2.cell rfl, ?_⟩
    refine br_eq (fun e => ⟨rfl, ?_⟩) (fun e => ?_)
    · have e : nuN l 4 1 = 0 := Int.ofNat.inj e
      rw [if_pos e] at hR
      exact h2.put { c with lba := nuN l 1 3 &&& 2097151, blocks := 256 } rfl (by decide) rfl fun w3 h3 k3 s3 => hR w3 h3 ((k1.trans k2 fun _ _ q => q).trans k3 fun _ _ q => q) (by omega)
    · have e : ¬ nuN l 4 1 = 0 := fun q => e (by show ((nuN l 4 1 : Nat) : Int) = 0; omega)
      rw [if_neg e] at hR
      exact hR w2 h2 (k1.trans k2 fun _ _ q => q) (by omega)
  · rw [if_neg q, if_pos q2] at hR
    refine numC_spec (at_ := 2) (n := 4) hp (by decide) (by decide) (by omega) (numC_spec (at_ := 7) (n := 2) hp (by decide) (by decide) (by omega) ⟨rfl, ?_⟩)
    refine h.put { c with lba := nuN l 2 4 } rfl (by decide) rfl fun w1 h1 k1 s1 => ⟨rfl, ?_⟩
    exact h1.put { c with lba := nuN l 2 4, blocks := nuN l 7 2 } rfl (by decide) rfl fun w2 h2 k2 s2 => hR w2 h2 (k1.trans k2 fun _ _ q => q) (by omega)
  · rw [if_neg q, if_neg q2] at hR
    refine numC_spec (at_ := 2) (n := 8) hp (by decide) (by decide) (by omega) (numC_spec (at_ := 10) (n := 4) hp (by decide) (by decide) (by omega) ⟨rfl, ?_⟩)
    refine h.put { c with lba := nuN l 2 8 } rfl (by decide) rfl fun w1 h1 k1 s1 => ⟨rfl, ?_⟩
    exact h1.put { c with lba := nuN l 2 8, blocks := nuN l 10 4 } rfl (by decide) rfl fun w2 h2 k2 s2 => hR w2 h2 (k1.trans k2 fun _ _ q => q) (by omega)
theorem spanX_kind (c : Cm) (p : L8) : (spanX c p).1.kind = c.kind := by
  unfold spanX
  split
  · rfl
  · split <;> rfl
theorem byteC {w : World} {i : Nat} (hp : Rd w 1 p (bv l)) (hi : i < l.length) : p.A.isSome = true ∧ w.cell? ((gA p.A).add (i * 1)) = some (.int .u8 (bN l i : Int)) := rd_at hp hi
theorem shr5 {n : Nat} : bShr .u8 (n : Int) 5 = ((n / 32 : Nat) : Int) := shr .u8 n 5 (by decide)
theorem neI {a : Nat} : ((a : Int) != 0) = decide (a ≠ 0) := by rw [Bool.eq_iff_iff, bne_iff_ne, decide_eq_true_eq]; omega
theorem partC_spec (h : IsC w cb c) (hp : Rd w 1 p (bv l)) (hn : ∀ a, p.A = some a → a.block ≠ cb) (hl : l.length = 6 ∨ l.length = 10 ∨ l.length = 16) (hk : c.kind < 256)
    (hR : ∀ w', IsC w' cb (partX c l) → Keep (fun k => k = cb) w w' → match burstX c l with | none => R (-1) 0 w' | some (f, b) => R (f : Int) (b : Int) w') : Ccdb_blocks (some ⟨cb, 0, none⟩) p w R := by
  refine Fcdb_blocks.calls _ _ _ _ (span_spec h hp hn hl fun w1 h1 k1 s1 => ?_)
  have hpn := rd_n' hp
  have hkd := spanX_kind c l
  refine letX0 (fun u => IsC u cb (partX c l) ∧ Keep (fun k => k = cb) w u) (fun u hu => ?_) (fun J => ?_)
  · obtain ⟨hc, hk2⟩ := hu
    have hR := hR u hc hk2
    have hpk : (partX c l).kind = c.kind := by
      unfold partX
      split
      · unfold wideX; repeat' (first | exact hkd | split)
      · exact hkd
    refine ⟨rfl, _, hc.cell rfl, fun _ => rfl, _, fun _ => hc.cell rfl, fun _ => rfl, _, fun _ => hc.cell rfl, ?_⟩
    rw [hpk]
    unfold burstX at hR
    by_cases q : c.kind ≠ 11 ∧ c.kind ≠ 12 ∧ 256 < (partX c l).blocks
    · rw [if_pos q] at hR
      refine br_t ?_ hR
      simp only [Bool.and_eq_true, bne_iff_ne, ne_eq, decide_eq_true_eq]
      omega
    · rw [if_neg q] at hR
      refine br_f ?_ hR
      rw [Bool.eq_false_iff]
      simp only [Bool.and_eq_true, bne_iff_ne, ne_eq, decide_eq_true_eq]
      omega
  · have hp1 := rd_kc hp hn k1
    have e6 : (decide ((p.n : Int) > 6)) = decide (6 < l.length) := by rw [decide_eq_decide]; omega
    rw [e6]
    refine br_dec (fun q => ?_) (fun q => J w1 ⟨by unfold partX; rw [if_neg q]; exact h1, k1⟩)
    have ep : partX c l = wideX (spanX c l).1 l := by unfold partX; rw [if_pos q]
    rw [ep] at J
    generalize (spanX c l).1 = d at *
    generalize hwx : wideX d l = dx at J
    unfold wideX at hwx
    obtain ⟨ha, hc⟩ := byteC hp1 (i := 1) (by omega)
    have hb := bN_lt l 1
    refine ⟨⟨by decide, by omega, ha⟩, _, hc, rfl, ?_⟩
    rw [shr5]
    refine h1.put { d with prot := bN l 1 / 32 } rfl (by decide) rfl fun w2 h2 k2 s2 => ⟨rfl, (d.kind : Int), h2.cell rfl, ?_⟩
    have hp2 := rd_kc hp1 hn k2
    have kw2 := k1.trans k2 fun _ _ q => q
    obtain ⟨_, hc2⟩ := byteC hp2 (i := 1) (by omega)
    refine letX1 (fun x v => w2 = v ∧ x = decide (d.kind = 7 ∨ d.kind = 8)) ?_ (fun J2 => or2 (a := 7) (b := 8) J2)
    rintro x v ⟨rfl, rfl⟩
    have e8 : ((bAnd .u8 (bN l 1 : Int) 8) != 0) = decide (bN l 1 &&& 8 ≠ 0) := (congrArg (· != 0) (andN8 hb (m := 8) (by decide))).trans neI
    have e2 : ((bAnd .u8 (bN l 1 : Int) 2) != 0) = decide (bN l 1 &&& 2 ≠ 0) := (congrArg (· != 0) (andN8 hb (m := 2) (by decide))).trans neI
    refine br_dec (fun q7 => ?_) (fun q7 => ?_)
    · rw [if_pos q7] at hwx
      refine ⟨⟨by decide, by omega, ha⟩, _, hc2, rfl, ?_⟩
      rw [e8]
      exact h2.put { d with prot := bN l 1 / 32, fua := decide (bN l 1 &&& 8 ≠ 0) } rfl (by decide) rfl fun w3 h3 k3 s3 => J w3 ⟨hwx ▸ h3, kw2.trans k3 fun _ _ q => q⟩
    rw [if_neg q7] at hwx
    refine br_eq (fun q10 => ?_) (fun q10 => br_eq (fun q12 => ?_) (fun q12 => br_eq (fun q11 => ?_) (fun q11 => ?_)))
    · rw [if_pos (by omega)] at hwx
      refine ⟨⟨by decide, by omega, ha⟩, _, hc2, rfl, ?_⟩
      rw [e2]
      exact h2.put { d with prot := bN l 1 / 32, bytes := decide (bN l 1 &&& 2 ≠ 0) } rfl (by decide) rfl fun w3 h3 k3 s3 => J w3 ⟨hwx ▸ h3, kw2.trans k3 fun _ _ q => q⟩
    · rw [if_neg (by omega), if_pos (by omega)] at hwx
      refine ⟨⟨by decide, by omega, ha⟩, _, hc2, rfl, ?_⟩
      rw [e8]
      exact h2.put { d with prot := bN l 1 / 32, unmap := decide (bN l 1 &&& 8 ≠ 0) } rfl (by decide) rfl fun w3 h3 k3 s3 => J w3 ⟨hwx ▸ h3, kw2.trans k3 fun _ _ q => q⟩
    · rw [if_neg (by omega), if_neg (by omega), if_pos (by omega)] at hwx
      exact ⟨rfl, h2.put { d with prot := 0 } rfl (by decide) rfl fun w3 h3 k3 s3 => J w3 ⟨hwx ▸ h3, kw2.trans k3 fun _ _ q => q⟩⟩
    · rw [if_neg (by omega), if_neg (by omega), if_neg (by omega)] at hwx
      exact J w2 ⟨hwx ▸ h2, kw2⟩
end
end Go.Proofs.YtpmebahhjgkflaaGreatDoor

/- Layer 8: a command of bytes. -/
namespace Go.Proofs.YtpmebahhjgkflaaGreatDoor
open Go CF
set_option maxRecDepth 100000
def fillX (c : Cm) (p : L8) (sv : Nat) : Cm × Option (Nat × Nat) :=
  if c.kind = 2 then ({ c with alloc := (bN p 4 : Int), long := decide (bN p 1 % 2 = 1) }, none)
  else if c.kind = 3 then ({ c with evpd := decide (bN p 1 % 2 = 1), page := bN p 2, alloc := (nuN p 3 2 : Int) }, if ¬ bN p 1 % 2 = 1 ∧ bN p 2 ≠ 0 then some (2, 7) else none)
  else if c.kind = 4 then ({ c with long := decide (p.length = 10), alloc := if p.length = 10 then (nuN p 7 2 : Int) else (bN p 4 : Int), save := decide (bN p 1 % 2 = 1) }, if bN p 1 &&& 16 = 0 then some (1, 4) else none)
  else if c.kind = 5 then ({ c with long := decide (p.length = 10), alloc := if p.length = 10 then (nuN p 7 2 : Int) else (bN p 4 : Int), control := bN p 2 / 64, page := bN p 2 &&& 63 }, none)
  else if c.kind = 6 then ({ c with long := decide (p.length = 16), alloc := if p.length = 16 then (nuN p 10 4 : Int) else c.alloc }, none)
  else if 7 ≤ c.kind ∧ c.kind ≤ 12 then (partX c p, burstX c p)
  else if c.kind = 13 then ({ c with alloc := (nuN p 7 2 : Int) }, none)
  else if c.kind = 14 then ({ c with lba := nuN p 2 8, blocks := bN p 13, prot := bN p 1 / 32, fua := decide (bN p 1 &&& 8 ≠ 0) }, none)
  else if c.kind = 15 then ({ c with service := sv, alloc := (nuN p 7 2 : Int) }, none)
  else if c.kind = 16 then ({ c with service := sv, type := bN p 2 &&& 15, alloc := (nuN p 5 4 : Int) }, none)
  else if c.kind = 17 then ({ c with page := bN p 2, alloc := (nuN p 6 4 : Int) }, if bN p 2 = 3 then some (2, 1) else none)
  else if c.kind = 18 then ({ c with alloc := (nuN p 10 4 : Int) }, none)
  else (c, none)
structure LenOk (k n : Nat) : Prop where
  a : k = 2 ∨ k = 3 → n = 6
  b : k = 4 ∨ k = 5 → n = 6 ∨ n = 10
  c : k = 6 → n = 10 ∨ n = 16
  d : 7 ≤ k → k ≤ 12 → n = 6 ∨ n = 10 ∨ n = 16
  e : k = 13 ∨ k = 15 ∨ k = 16 → n = 10
  f : k = 14 ∨ k = 18 → n = 16
  g : k = 17 → n = 12
section
variable {w : World} {p : Sl} {l : L8} {cb : Nat} {c : Cm} {sv : Nat}
theorem or6 {op a : Nat} {j : Bool → World → Prop} (J : ∀ x v, w = v ∧ x = decide (a ≤ op ∧ op ≤ a + 5) → j x v) :
    Br ((op : Int) == (a : Int)) (j ((op : Int) == (a : Int)) w) (Br ((op : Int) == ((a + 1 : Nat) : Int)) (j ((op : Int) == ((a + 1 : Nat) : Int)) w) (Br ((op : Int) == ((a + 2 : Nat) : Int)) (j ((op : Int) == ((a + 2 : Nat) : Int)) w) (Br ((op : Int) == ((a + 3 : Nat) : Int)) (j ((op : Int) == ((a + 3 : Nat) : Int)) w)
      (Br ((op : Int) == ((a + 4 : Nat) : Int)) (j ((op : Int) == ((a + 4 : Nat) : Int)) w) (j ((op : Int) == ((a + 5 : Nat) : Int)) w))))) := by
  by_cases h0 : op = a
  · exact br_t (by rw [beq_iff_eq]; omega) (J _ _ ⟨rfl, by rw [Bool.eq_iff_iff, beq_iff_eq, decide_eq_true_eq]; omega⟩)
  refine br_f (by rw [beq_eq_false_iff_ne]; omega) ?_
  by_cases h1 : op = a + 1
  · exact br_t (by rw [beq_iff_eq]; omega) (J _ _ ⟨rfl, by rw [Bool.eq_iff_iff, beq_iff_eq, decide_eq_true_eq]; omega⟩)
  refine br_f (by rw [beq_eq_false_iff_ne]; omega) ?_
  by_cases h2 : op = a + 2
  · exact br_t (by rw [beq_iff_eq]; omega) (J _ _ ⟨rfl, by rw [Bool.eq_iff_iff, beq_iff_eq, decide_eq_true_eq]; omega⟩)
  refine br_f (by rw [beq_eq_false_iff_ne]; omega) ?_
  by_cases h3 : op = a + 3
  · exact br_t (by rw [beq_iff_eq]; omega) (J _ _ ⟨rfl, by rw [Bool.eq_iff_iff, beq_iff_eq, decide_eq_true_eq]; omega⟩)
  refine br_f (by rw [beq_eq_false_iff_ne]; omega) ?_
  by_cases h4 : op = a + 4
  · exact br_t (by rw [beq_iff_eq]; omega) (J _ _ ⟨rfl, by rw [Bool.eq_iff_iff, beq_iff_eq, decide_eq_true_eq]; omega⟩)
  exact br_f (by rw [beq_eq_false_iff_ne]; omega) (J _ _ ⟨rfl, by rw [Bool.eq_iff_iff, beq_iff_eq, decide_eq_true_eq]; omega⟩)
theorem and1b {n : Nat} (h : n < 256) : (bAnd .u8 (n : Int) 1 == 1) = decide (n % 2 = 1) := by rw [and1 h, Bool.eq_iff_iff, beq_iff_eq, decide_eq_true_eq]; omega
set_option maxHeartbeats 1000000 in
theorem fill_spec {R : Int → Int → World → Prop} (h : IsC w cb c) (hp : Rd w 1 p (bv l)) (hn : ∀ a, p.A = some a → a.block ≠ cb) (hl : LenOk c.kind l.length) (hk : c.kind < 256)
    (hR : ∀ w', IsC w' cb (fillX c l sv).1 → Keep (fun k => k = cb) w w' → match (fillX c l sv).2 with | none => R (-1) 0 w' | some (f, b) => R (f : Int) (b : Int) w') : Ccdb_fill (some ⟨cb, 0, none⟩) p (sv : Int) w R := by
  refine Fcdb_fill.calls _ _ _ _ _ ⟨rfl, (c.kind : Int), h.cell rfl, ?_⟩
  have hpn := rd_n' hp
  have B := fun i => bN_lt l i
  have by_ : ∀ {u : World} {i : Nat}, Rd u 1 p (bv l) → i < l.length → p.A.isSome = true ∧ u.cell? ((gA p.A).add (i * 1)) = some (.int .u8 (bN l i : Int)) := fun r hi => byteC r hi
  have n2 := fun a => nu2 l a
  have n4 := fun a => nu4 l a
  generalize hF : fillX c l sv = F at hR
  unfold fillX at hF
  refine br_eq (fun q => ?_) (fun q2 => ?_)
  · have q : c.kind = 2 := by omega
    have hlen := hl.a (.inl q)
    rw [if_pos q] at hF; subst hF
    obtain ⟨ha, hc4⟩ := by_ hp (i := 4) (by omega)
    have := B 4
    refine ⟨⟨by decide, by omega, ha⟩, _, hc4, rfl, ?_⟩
    rw [w64 (n := (bN l 4 : Int)) (by omega) (by omega)]
    refine h.put { c with alloc := (bN l 4 : Int) } rfl (by decide) rfl fun w1 h1 k1 s1 => ?_
    obtain ⟨_, hc1⟩ := by_ (rd_kc hp hn k1) (i := 1) (by omega)
    refine ⟨⟨by decide, by omega, ha⟩, _, hc1, rfl, ?_⟩
    rw [and1b (B 1)]
    exact h1.put { c with alloc := (bN l 4 : Int), long := decide (bN l 1 % 2 = 1) } rfl (by decide) rfl fun w2 h2 k2 s2 => hR w2 h2 (k1.trans k2 fun _ _ q => q)
  have q2 : c.kind ≠ 2 := by omega
  rw [if_neg q2] at hF
  refine br_eq (fun q => ?_) (fun q3 => ?_)
  · have q : c.kind = 3 := by omega
    have hlen := hl.a (.inr q)
    rw [if_pos q] at hF; subst hF
    rintro u rfl
    have hgd := keep_drew w
    have hpd := hp.grow hgd
    have hcd : IsC w.drew cb c := hgd.heap h (fun q => q)
    have kd : Keep (fun k => k = cb) w w.drew := hgd.mono fun _ _ q => q.elim
    generalize w.drew = u at *
    obtain ⟨ha, hc1⟩ := by_ hpd (i := 1) (by omega)
    obtain ⟨_, hc2⟩ := by_ hpd (i := 2) (by omega)
    have := n2 3
    refine ⟨fun o => o = u, rfl, ⟨by decide, by omega, ha⟩, _, fun o e => by rw [e]; exact hc1, ⟨by decide, by omega, ha⟩, _, fun o e => by rw [e]; exact hc2, numC_spec (at_ := 3) (n := 2) hpd (by decide) (by decide) (by omega) ⟨rfl, rfl, ?_⟩⟩
    rw [and1b (B 1)]
    refine hcd.put { c with evpd := decide (bN l 1 % 2 = 1) } rfl (by decide) rfl fun w1 h1 k1 s1 => ⟨rfl, ?_⟩
    refine h1.put { c with evpd := decide (bN l 1 % 2 = 1), page := bN l 2 } rfl (by decide) rfl fun w2 h2 k2 s2 => ⟨rfl, ?_⟩
    rw [w64 (n := (nuN l 3 2 : Int)) (by omega) (by omega)]
    refine h2.put { c with evpd := decide (bN l 1 % 2 = 1), page := bN l 2, alloc := (nuN l 3 2 : Int) } rfl (by decide) rfl fun w3 h3 k3 s3 => ⟨rfl, decide (bN l 1 % 2 = 1), h3.cell rfl, fun _ => rfl, (bN l 2 : Int), fun _ => h3.cell rfl, ?_⟩
    have hR := hR w3 h3 (((kd.trans k1 fun _ _ q => q).trans k2 fun _ _ q => q).trans k3 fun _ _ q => q)
    dsimp only at hR
    by_cases z : ¬ bN l 1 % 2 = 1 ∧ bN l 2 ≠ 0
    · rw [if_pos z] at hR
      refine br_t ?_ hR
      simp only [Bool.and_eq_true, Bool.not_eq_true', decide_eq_false_iff_not, bne_iff_ne, ne_eq]
      omega
    · rw [if_neg z] at hR
      refine br_f ?_ hR
      rw [Bool.eq_false_iff]
      simp only [Bool.and_eq_true, Bool.not_eq_true', decide_eq_false_iff_not, bne_iff_ne, ne_eq]
      omega
  have q3 : c.kind ≠ 3 := by omega
  rw [if_neg q3] at hF
  refine letX1 (fun x v => w = v ∧ x = decide (c.kind = 4 ∨ c.kind = 5)) ?_ (fun J => or2 (a := 4) (b := 5) J)
  rintro x v ⟨rfl, rfl⟩
  refine br_dec (fun q => ?_) (fun q45 => ?_)
  · have hlen := hl.b q
    have e10 : ((p.n : Int) == 10) = decide (l.length = 10) := by rw [Bool.eq_iff_iff, beq_iff_eq, decide_eq_true_eq]; omega
    rw [e10]
    refine ⟨rfl, h.put { c with long := decide (l.length = 10) } rfl (by decide) rfl fun w1 h1 k1 s1 => ?_⟩
    have hp1 := rd_kc hp hn k1
    obtain ⟨ha, hc4⟩ := by_ hp1 (i := 4) (by omega)
    have := B 4
    refine ⟨⟨by decide, by omega, ha⟩, _, hc4, rfl, ?_⟩
    rw [w64 (n := (bN l 4 : Int)) (by omega) (by omega)]
    refine h1.put { c with long := decide (l.length = 10), alloc := (bN l 4 : Int) } rfl (by decide) rfl fun w2 h2 k2 s2 => ⟨rfl, decide (l.length = 10), h2.cell rfl, ?_⟩
    have hp2 := rd_kc hp1 hn k2
    generalize hd : ({ c with long := decide (l.length = 10), alloc := if l.length = 10 then (nuN l 7 2 : Int) else (bN l 4 : Int) } : Cm) = d at *
    have dk : d.kind = c.kind := by rw [← hd]
    refine letX0 (fun u => IsC u cb d ∧ Keep (fun k => k = cb) w u) (fun u hu => ?_) (fun J => ?_)
    · obtain ⟨hcu, hku⟩ := hu
      have hpu := rd_kc hp hn hku
      refine ⟨rfl, (d.kind : Int), hcu.cell rfl, ?_⟩
      rw [dk]
      refine br_eq (fun q5 => ?_) (fun q5 => ?_)
      · have q5 : c.kind = 5 := by omega
        rw [if_neg (by omega), if_pos q5] at hF; subst hF
        rintro u' rfl
        have hgd := keep_drew u
        have hpd := hpu.grow hgd
        have hcd : IsC u.drew cb d := hgd.heap hcu (fun q => q)
        have kd : Keep (fun k => k = cb) w u.drew := hku.grow hgd
        generalize u.drew = u' at *
        obtain ⟨_, hc2⟩ := by_ hpd (i := 2) (by omega)
        refine ⟨fun o => o = u', rfl, ⟨by decide, by omega, ha⟩, _, fun o e => by rw [e]; exact hc2, ⟨by decide, by omega, ha⟩, _, fun o e => by rw [e]; exact hc2, rfl, ?_⟩
        have e6 : bShr .u8 (bN l 2 : Int) 6 = ((bN l 2 / 64 : Nat) : Int) := shr .u8 _ 6 (by decide)
        have e63 : bAnd .u8 (bN l 2 : Int) 63 = ((bN l 2 &&& 63 : Nat) : Int) := andN8 (B 2) (m := 63) (by decide)
        rw [e6, e63]
        refine hcd.put { d with control := bN l 2 / 64 } rfl (by decide) rfl fun w3 h3 k3 s3 => ⟨rfl, ?_⟩
        exact h3.put { d with control := bN l 2 / 64, page := bN l 2 &&& 63 } rfl (by decide) rfl fun w4 h4 k4 s4 => hR w4 (by rw [← hd] at h4; exact h4) ((kd.trans k3 fun _ _ q => q).trans k4 fun _ _ q => q)
      · rw [if_pos (by omega)] at hF; subst hF
        obtain ⟨_, hc1⟩ := by_ hpu (i := 1) (by omega)
        refine ⟨⟨by decide, by omega, ha⟩, _, hc1, rfl, ?_⟩
        rw [and1b (B 1)]
        refine hcu.put { d with save := decide (bN l 1 % 2 = 1) } rfl (by decide) rfl fun w3 h3 k3 s3 => ?_
        obtain ⟨_, hc1'⟩ := by_ (rd_kc hpu hn k3) (i := 1) (by omega)
        refine ⟨⟨by decide, by omega, ha⟩, _, hc1', ?_⟩
        have e16 : bAnd .u8 (bN l 1 : Int) 16 = ((bN l 1 &&& 16 : Nat) : Int) := andN8 (B 1) (m := 16) (by decide)
        rw [e16]
        have hR := hR w3 (by rw [← hd] at h3; exact h3) (hku.trans k3 fun _ _ q => q)
        dsimp only at hR
        refine br_eq (fun z => ?_) (fun z => ?_)
        · rw [if_pos (by omega)] at hR; exact hR
        · rw [if_neg (by omega)] at hR; exact hR
    · refine br_dec (fun q10 => ?_) (fun q10 => ?_)
      · have := n2 7
        refine numC_spec (at_ := 7) (n := 2) hp2 (by decide) (by decide) (by omega) ⟨rfl, ?_⟩
        rw [w64 (n := (nuN l 7 2 : Int)) (by omega) (by omega)]
        refine h2.put { c with long := decide (l.length = 10), alloc := (nuN l 7 2 : Int) } rfl (by decide) rfl fun w3 h3 k3 s3 => J w3 ⟨?_, (k1.trans k2 fun _ _ q => q).trans k3 fun _ _ q => q⟩
        rw [← hd, if_pos q10]; exact h3
      · refine J w2 ⟨?_, k1.trans k2 fun _ _ q => q⟩
        rw [← hd, if_neg q10]; exact h2
  rw [if_neg (fun q => q45 (.inl q)), if_neg (fun q => q45 (.inr q))] at hF
  refine br_eq (fun q => ?_) (fun q6 => ?_)
  · have q : c.kind = 6 := by omega
    have hlen := hl.c q
    rw [if_pos q] at hF; subst hF
    have e16 : ((p.n : Int) == 16) = decide (l.length = 16) := by rw [Bool.eq_iff_iff, beq_iff_eq, decide_eq_true_eq]; omega
    rw [e16]
    refine ⟨rfl, h.put { c with long := decide (l.length = 16) } rfl (by decide) rfl fun w1 h1 k1 s1 => ⟨rfl, decide (l.length = 16), h1.cell rfl, ?_⟩⟩
    refine br_dec (fun z => ?_) (fun z => ?_)
    · have := n4 10
      refine numC_spec (at_ := 10) (n := 4) (rd_kc hp hn k1) (by decide) (by decide) (by omega) ⟨rfl, ?_⟩
      rw [w64 (n := (nuN l 10 4 : Int)) (by omega) (by omega)]
      refine h1.put { c with long := decide (l.length = 16), alloc := (nuN l 10 4 : Int) } rfl (by decide) rfl fun w2 h2 k2 s2 => hR w2 ?_ (k1.trans k2 fun _ _ q => q)
      rw [if_pos z]; exact h2
    · refine hR w1 ?_ k1
      rw [if_neg z]; exact h1
  rw [if_neg (by omega)] at hF
  refine letX1 (fun x v => w = v ∧ x = decide (7 ≤ c.kind ∧ c.kind ≤ 7 + 5)) ?_ (fun J => or6 (a := 7) J)
  rintro x v ⟨rfl, rfl⟩
  refine br_dec (fun q => ?_) (fun q7 => ?_)
  · rw [if_pos (by omega)] at hF; subst hF
    exact partC_spec h hp hn (hl.d q.1 q.2) hk hR
  rw [if_neg (by omega)] at hF
  refine br_eq (fun q => ?_) (fun q13 => ?_)
  · have hlen := hl.e (.inl (by omega))
    rw [if_pos (by omega)] at hF; subst hF
    have := n2 7
    refine numC_spec (at_ := 7) (n := 2) hp (by decide) (by decide) (by omega) ⟨rfl, ?_⟩
    rw [w64 (n := (nuN l 7 2 : Int)) (by omega) (by omega)]
    exact h.put { c with alloc := (nuN l 7 2 : Int) } rfl (by decide) rfl fun w1 h1 k1 s1 => hR w1 h1 k1
  rw [if_neg (by omega)] at hF
  have drw : ∀ {K : World → Prop}, (∀ u, IsC u cb c → Rd u 1 p (bv l) → Keep (fun k => k = cb) w u → K u) → ∀ u, u = w.drew → K u := fun hK u e => by
    subst e
    exact hK _ ((keep_drew w).heap h (fun q => q)) (hp.grow (keep_drew w)) ((keep_drew w).mono fun _ _ q => q.elim)
  refine br_eq (fun q => ?_) (fun q14 => ?_)
  · have hlen := hl.f (.inl (by omega))
    rw [if_pos (by omega)] at hF; subst hF
    refine drw fun u hcu hpu ku => ?_
    obtain ⟨ha, hc13⟩ := by_ hpu (i := 13) (by omega)
    have := B 13
    refine ⟨fun o => o = u, rfl, ⟨by decide, by omega, ha⟩, _, fun o e => by rw [e]; exact hc13, numC_spec (at_ := 2) (n := 8) hpu (by decide) (by decide) (by omega) ⟨rfl, rfl, ?_⟩⟩
    refine hcu.put { c with lba := nuN l 2 8 } rfl (by decide) rfl fun w1 h1 k1 s1 => ⟨rfl, ?_⟩
    rw [wu64 (n := (bN l 13 : Int)) (by omega) (by omega)]
    refine h1.put { c with lba := nuN l 2 8, blocks := bN l 13 } rfl (by decide) rfl fun w2 h2 k2 s2 => ?_
    rintro u2 rfl
    have hgd := keep_drew w2
    have hpd := (rd_kc (rd_kc hpu hn k1) hn k2).grow hgd
    have hcd : IsC w2.drew cb _ := hgd.heap h2 (fun q => q)
    have kd : Keep (fun k => k = cb) w w2.drew := ((ku.trans k1 fun _ _ q => q).trans k2 fun _ _ q => q).grow hgd
    generalize w2.drew = u2 at *
    obtain ⟨_, hc1⟩ := by_ hpd (i := 1) (by omega)
    refine ⟨fun o => o = u2, rfl, ⟨by decide, by omega, ha⟩, _, fun o e => by rw [e]; exact hc1, ⟨by decide, by omega, ha⟩, _, fun o e => by rw [e]; exact hc1, rfl, ?_⟩
    have e8 : ((bAnd .u8 (bN l 1 : Int) 8) != 0) = decide (bN l 1 &&& 8 ≠ 0) := (congrArg (· != 0) (andN8 (B 1) (m := 8) (by decide))).trans neI
    rw [shr5, e8]
    refine hcd.put { c with lba := nuN l 2 8, blocks := bN l 13, prot := bN l 1 / 32 } rfl (by decide) rfl fun w3 h3 k3 s3 => ⟨rfl, ?_⟩
    exact h3.put { c with lba := nuN l 2 8, blocks := bN l 13, prot := bN l 1 / 32, fua := decide (bN l 1 &&& 8 ≠ 0) } rfl (by decide) rfl fun w4 h4 k4 s4 => hR w4 h4 ((kd.trans k3 fun _ _ q => q).trans k4 fun _ _ q => q)
  rw [if_neg (by omega)] at hF
  refine br_eq (fun q => ?_) (fun q15 => ?_)
  · have hlen := hl.e (.inr (.inl (by omega)))
    rw [if_pos (by omega)] at hF; subst hF
    have := n2 7
    refine numC_spec (at_ := 7) (n := 2) hp (by decide) (by decide) (by omega) ⟨rfl, ?_⟩
    refine h.put { c with service := sv } rfl (by decide) rfl fun w1 h1 k1 s1 => ⟨rfl, ?_⟩
    rw [w64 (n := (nuN l 7 2 : Int)) (by omega) (by omega)]
    exact h1.put { c with service := sv, alloc := (nuN l 7 2 : Int) } rfl (by decide) rfl fun w2 h2 k2 s2 => hR w2 h2 (k1.trans k2 fun _ _ q => q)
  rw [if_neg (by omega)] at hF
  refine br_eq (fun q => ?_) (fun q16 => ?_)
  · have hlen := hl.e (.inr (.inr (by omega)))
    rw [if_pos (by omega)] at hF; subst hF
    refine drw fun u hcu hpu ku => ?_
    obtain ⟨ha, hc2⟩ := by_ hpu (i := 2) (by omega)
    have := n4 5
    refine ⟨fun o => o = u, rfl, ⟨by decide, by omega, ha⟩, _, fun o e => by rw [e]; exact hc2, numC_spec (at_ := 5) (n := 4) hpu (by decide) (by decide) (by omega) ⟨rfl, rfl, ?_⟩⟩
    have e15 : bAnd .u8 (bN l 2 : Int) 15 = ((bN l 2 &&& 15 : Nat) : Int) := andN8 (B 2) (m := 15) (by decide)
    rw [e15]
    refine hcu.put { c with service := sv } rfl (by decide) rfl fun w1 h1 k1 s1 => ⟨rfl, ?_⟩
    refine h1.put { c with service := sv, type := bN l 2 &&& 15 } rfl (by decide) rfl fun w2 h2 k2 s2 => ⟨rfl, ?_⟩
    rw [w64 (n := (nuN l 5 4 : Int)) (by omega) (by omega)]
    exact h2.put { c with service := sv, type := bN l 2 &&& 15, alloc := (nuN l 5 4 : Int) } rfl (by decide) rfl fun w3 h3 k3 s3 => hR w3 h3 (((ku.trans k1 fun _ _ q => q).trans k2 fun _ _ q => q).trans k3 fun _ _ q => q)
  rw [if_neg (by omega)] at hF
  refine br_eq (fun q => ?_) (fun q17 => ?_)
  · have hlen := hl.g (by omega)
    rw [if_pos (by omega)] at hF; subst hF
    refine drw fun u hcu hpu ku => ?_
    obtain ⟨ha, hc2⟩ := by_ hpu (i := 2) (by omega)
    have := n4 6
    refine ⟨fun o => o = u, rfl, ⟨by decide, by omega, ha⟩, _, fun o e => by rw [e]; exact hc2, numC_spec (at_ := 6) (n := 4) hpu (by decide) (by decide) (by omega) ⟨rfl, rfl, ?_⟩⟩
    refine hcu.put { c with page := bN l 2 } rfl (by decide) rfl fun w1 h1 k1 s1 => ⟨rfl, ?_⟩
    rw [w64 (n := (nuN l 6 4 : Int)) (by omega) (by omega)]
    refine h1.put { c with page := bN l 2, alloc := (nuN l 6 4 : Int) } rfl (by decide) rfl fun w2 h2 k2 s2 => ⟨rfl, (bN l 2 : Int), h2.cell rfl, ?_⟩
    have hR := hR w2 h2 ((ku.trans k1 fun _ _ q => q).trans k2 fun _ _ q => q)
    dsimp only at hR
    refine br_eq (fun z => ?_) (fun z => ?_)
    · rw [if_pos (by omega)] at hR; exact hR
    · rw [if_neg (by omega)] at hR; exact hR
  rw [if_neg (by omega)] at hF
  refine br_eq (fun q => ?_) (fun q18 => ?_)
  · have hlen := hl.f (.inr (by omega))
    rw [if_pos (by omega)] at hF; subst hF
    have := n4 10
    refine numC_spec (at_ := 10) (n := 4) hp (by decide) (by decide) (by omega) ⟨rfl, ?_⟩
    rw [w64 (n := (nuN l 10 4 : Int)) (by omega) (by omega)]
    exact h.put { c with alloc := (nuN l 10 4 : Int) } rfl (by decide) rfl fun w1 h1 k1 s1 => hR w1 h1 k1
  rw [if_neg (by omega)] at hF
  subst hF
  exact hR w h (Keep.refl _ _)
end
end Go.Proofs.YtpmebahhjgkflaaGreatDoor

/- Layer 8: what bytes are as a command. -/
namespace Go.Proofs.YtpmebahhjgkflaaGreatDoor
open Go CF
set_option maxRecDepth 100000
def lenB (k n : Nat) : Bool := (!(k == 2 || k == 3) || n == 6) && (!(k == 4 || k == 5) || (n == 6 || n == 10)) && (!(k == 6) || (n == 10 || n == 16)) && (!(Nat.ble 7 k && Nat.ble k 12) || (n == 6 || n == 10 || n == 16)) && (!(k == 13 || k == 15 || k == 16) || n == 10) && (!(k == 14 || k == 18) || n == 16) && (!(k == 17) || n == 12)
theorem LenOk.of {k n : Nat} (h : lenB k n = true) : LenOk k n := by
  unfold lenB at h
  simp only [Bool.and_eq_true, Bool.or_eq_true, Bool.not_eq_true', Bool.or_eq_false_iff, beq_eq_false_iff_ne, beq_iff_eq, Nat.ble_eq, Bool.and_eq_false_iff, ne_eq] at h
  obtain ⟨⟨⟨⟨⟨⟨a, b⟩, c⟩, d⟩, e⟩, f⟩, g⟩ := h
  have bl : ∀ x y : Nat, Nat.ble x y = false → ¬ x ≤ y := fun x y q r => by rw [Nat.ble_eq_true_of_le r] at q; cases q
  have d : (¬ 7 ≤ k ∨ ¬ k ≤ 12) ∨ n = 6 ∨ n = 10 ∨ n = 16 := by
    rcases d with (d | d) | d
    · exact .inl (.inl (bl _ _ d))
    · exact .inl (.inr (bl _ _ d))
    · omega
  exact ⟨by omega, by omega, by omega, by omega, by omega, by omega, by omega⟩
theorem mask_len {op sv : Nat} {m : L8} {b : Bool} (h : maskX op sv = some (m, b)) : lenB (kindX op) m.length = true :=
  mask_cases (P := fun op m => lenB (kindX op) m.length = true) h rfl rfl rfl rfl rfl rfl rfl rfl rfl rfl rfl rfl rfl rfl rfl rfl rfl rfl rfl rfl rfl rfl rfl rfl rfl rfl rfl
theorem mask_size {op sv : Nat} {m : L8} {b : Bool} (h : maskX op sv = some (m, b)) : 6 ≤ m.length ∧ m.length ≤ 16 :=
  mask_cases (P := fun _ m => 6 ≤ m.length ∧ m.length ≤ 16) h ⟨(by decide), (by decide)⟩ ⟨(by decide), (by decide)⟩ ⟨(by decide), (by decide)⟩ ⟨(by decide), (by decide)⟩ ⟨(by decide), (by decide)⟩ ⟨(by decide), (by decide)⟩ ⟨(by decide), (by decide)⟩ ⟨(by decide), (by decide)⟩ ⟨(by decide), (by decide)⟩ ⟨(by decide), (by decide)⟩ ⟨(by decide), (by decide)⟩ ⟨(by decide), (by decide)⟩ ⟨(by decide), (by decide)⟩ ⟨(by decide), (by decide)⟩ ⟨(by decide), (by decide)⟩ ⟨(by decide), (by decide)⟩ ⟨(by decide), (by decide)⟩ ⟨(by decide), (by decide)⟩ ⟨(by decide), (by decide)⟩ ⟨(by decide), (by decide)⟩ ⟨(by decide), (by decide)⟩ ⟨(by decide), (by decide)⟩ ⟨(by decide), (by decide)⟩ ⟨(by decide), (by decide)⟩ ⟨(by decide), (by decide)⟩ ⟨(by decide), (by decide)⟩ ⟨(by decide), (by decide)⟩
theorem iteLe {p : Prop} [Decidable p] {a b n : Nat} (ha : a < n) (hb : b < n) : (if p then a else b) < n := by split <;> assumption
theorem kindX_lt (op : Nat) : kindX op < 256 := by
  unfold kindX
  repeat' (first | exact iteLe (by decide) (by decide) | refine iteLe (by decide) ?_)
def c0C : Cm := ⟨0, false, 0, 0, 0, false, 0, false, false, 0, 0, false, 0, 0, false⟩
def fltS (f b : Int) : Sn := ⟨5, 9216, 0, false, f, b, true, true⟩
def opS : Sn := ⟨5, 8192, 0, false, 0, 7, true, true⟩
def svd (op : Nat) : Bool := op == 94 || op == 95 || op == 131 || op == 158
def svOf (p : L8) : Nat := if svd (bN p 0) then bN p 1 &&& 31 else 0
def madeX (op : Nat) (q : L8) (sv : Nat) : Cm × Sn × Bool := match (fillX { c0C with kind := kindX op } q sv).2 with
  | some (f, b) => (c0C, fltS f b, false)
  | none => ((fillX { c0C with kind := kindX op } q sv).1, sn0, true)
def parseX (p : L8) : Cm × Sn × Bool :=
  if p = [] then (c0C, fltS 0 (-1), false)
  else if svd (bN p 0) = true ∧ p.length < 2 then (c0C, fltS 1 (-1), false)
  else match maskX (bN p 0) (svOf p) with
    | none => (c0C, opS, false)
    | some (m, ok) =>
      if p.length < m.length then (c0C, fltS p.length (-1), false)
      else match oddX (p.take m.length) m 0 with
        | some (i, b) => (c0C, fltS i b, false)
        | none => if ok = false then (c0C, fltS 1 4, false) else madeX (bN p 0) (p.take m.length) (svOf p)
section
variable {w : World} {p : Sl} {l : L8}
theorem fault_spec {f b : Int} {R : Array Value → World → Prop} (h : ∀ w', Grow w w' → R (snv (fltS f b)).toArray w') : Ccdb_Fault f b w R := by
  refine Fcdb_Fault.calls _ _ _ _ (new_rule fun ab w1 hab hb1 hg1 hsz1 => ?_)
  refine storeVar_rule (cells := (snv (fltS f b)).toArray) hb1 i_api_Sense rfl rfl (by simp [snv, Value.oneCell']) fun w2 hb2 hk2 hs2 => ⟨_, loadVar_rule g_api_Sense i_api_Sense rfl (blk_cells hb2), h w2 (hg1.keep hk2 fun i hi q => by omega)⟩
/-- what is handed back -/
theorem pend {R : Array Value → Array Value → Bool → World → Prop} {u : World} {ab sb : Nat} {x y : Array Value} {c : Cm} {s : Sn} {b : Bool} (hg : Grow w u) (ha : Blk u ab x t_api_Cmd) (hs : Blk u sb y t_api_Sense) (xs : x.size = 15) (ys : y.size = 8) (la : w.heap.size ≤ ab) (ls : w.heap.size ≤ sb)
    (hR : ∀ w', Grow w w' → R (cmv c).toArray (snv s).toArray b w') : RunU Tryz.prog (storeVar t_api_Cmd ⟨ab, 0, none⟩ (.agg (cmv c).toArray)) u fun w1 => RunU Tryz.prog (storeVar t_api_Sense ⟨sb, 0, none⟩ (.agg (snv s).toArray)) w1 fun w2 =>
      ∃ res : Array Value, (loadVar t_api_Cmd ⟨ab, 0, none⟩).run Tryz.prog w2 = .ok (.agg res) w2 ∧ ∃ res1 : Array Value, (loadVar t_api_Sense ⟨sb, 0, none⟩).run Tryz.prog w2 = .ok (.agg res1) w2 ∧ R res res1 b w2 := by
  have ne : ab ≠ sb := fun q => by subst q; exact absurd (blk_type ha hs) (by decide)
  refine storeVar_rule (cells := (cmv c).toArray) ha i_api_Cmd rfl xs (by simp [cmv, Value.oneCell']) fun w1 h1 k1 s1 => ?_
  have hs1 := k1.heap hs (fun q => ne q.symm)
  refine storeVar_rule (cells := (snv s).toArray) hs1 i_api_Sense rfl ys (by simp [snv, Value.oneCell']) fun w2 h2 k2 s2 => ?_
  have h12 := k2.heap h1 (fun q => ne q)
  exact ⟨_, loadVar_rule g_api_Cmd i_api_Cmd rfl (blk_cells h12), _, loadVar_rule g_api_Sense i_api_Sense rfl (blk_cells h2), hR w2 ((hg.keep k1 fun i hi q => by omega).keep k2 fun i hi q => by omega)⟩
set_option maxHeartbeats 1000000 in
theorem parse_cmd {R : Array Value → Array Value → Bool → World → Prop} (hp : Rd w 1 p (bv l)) (hR : ∀ w', Grow w w' → R (cmv (parseX l).1).toArray (snv (parseX l).2.1).toArray (parseX l).2.2 w') : Ccdb_Parse p w R := by
  refine Fcdb_Parse.calls _ _ _ ?_
  have hpn := rd_n' hp
  have hcap := hp.cap
  have hnb := hp.nb
  refine new_rule fun ab w1 hab ha1 hg1 hsz1 => new_rule fun sb w2 hsb hs2 hg2 hsz2 => ?_
  have ha2 := hg2.heap ha1 (fun q => q)
  have hg12 := hg1.trans hg2
  generalize hX : parseX l = X at hR
  obtain ⟨xc, xs, xb⟩ := X
  unfold parseX at hX
  have ext : ∀ {c : Cm} {s : Sn} {b : Bool} {u : World}, (c, s, b) = (xc, xs, xb) → Grow w2 u → RunU Tryz.prog (storeVar t_api_Cmd ⟨ab, 0, none⟩ (.agg (cmv c).toArray)) u fun w1 => RunU Tryz.prog (storeVar t_api_Sense ⟨sb, 0, none⟩ (.agg (snv s).toArray)) w1 fun w2 =>
      ∃ res : Array Value, (loadVar t_api_Cmd ⟨ab, 0, none⟩).run Tryz.prog w2 = .ok (.agg res) w2 ∧ ∃ res1 : Array Value, (loadVar t_api_Sense ⟨sb, 0, none⟩).run Tryz.prog w2 = .ok (.agg res1) w2 ∧ R res res1 b w2 := fun {c s b u} e g => by
    injection e with e1 e; injection e with e2 e3
    subst e1; subst e2; subst e3
    exact pend (hg12.trans g) (g.heap ha2 (fun q => q)) (g.heap hs2 (fun q => q)) rfl rfl (by omega) (by have := hg1.size; omega) hR
  have e0 : ((p.n : Int) == 0) = decide (l = []) := by rw [Bool.eq_iff_iff, beq_iff_eq, decide_eq_true_eq, ← List.length_eq_zero_iff]; omega
  rw [e0]
  refine br_dec (fun q => ?_) (fun q => ?_)
  · rw [if_pos q] at hX
    exact fault_spec fun u g => ext (c := c0C) hX g
  rw [if_neg q] at hX
  have hl1 : 1 ≤ l.length := by have := List.length_pos_iff.2 q; omega
  have hp2 := hp.grow hg12
  obtain ⟨ha, hc0⟩ := byteC hp2 (i := 0) (by omega)
  refine ⟨⟨by decide, by omega, ha⟩, _, hc0, ?_⟩
  have hop := bN_lt l 0
  have esv : ((((((bN l 0 : Nat) : Int) == 94) || (((bN l 0 : Nat) : Int) == 95)) || (((bN l 0 : Nat) : Int) == 131)) || (((bN l 0 : Nat) : Int) == 158)) = svd (bN l 0) := by
    unfold svd
    have e : ∀ k : Nat, (((bN l 0 : Nat) : Int) == (k : Int)) = (bN l 0 == k) := fun k => by rw [Bool.eq_iff_iff, beq_iff_eq, beq_iff_eq]; omega
    rw [← e 94, ← e 95, ← e 131, ← e 158]
    rfl
  rw [esv]
  refine letX1 (fun sv u => u = w2 ∧ sv = (svOf l : Int) ∧ ¬ (svd (bN l 0) = true ∧ l.length < 2)) ?_ (fun J => ?_)
  · rintro sv u ⟨rfl, rfl, hns⟩
    rw [if_neg hns] at hX
    refine usage_spec fun ms ok v hgv hm => ?_
    cases hmx : maskX (bN l 0) (svOf l) with
    | none =>
      rw [hmx] at hX hm
      obtain ⟨rfl, rfl⟩ := hm
      exact br_t rfl (ext (c := c0C) (s := opS) hX hgv)
    | some mo =>
      obtain ⟨m, okm⟩ := mo
      rw [hmx] at hX hm
      obtain ⟨hmr, hmA, rfl⟩ := hm
      dsimp only at hX
      have hmn := rd_n' hmr
      have hms := mask_size hmx
      refine br_f (by cases hA : ms.A with | none => rw [hA] at hmA; cases hmA | some a => rfl) ?_
      have elt : (decide ((p.n : Int) < (ms.n : Int))) = decide (l.length < m.length) := by rw [decide_eq_decide]; omega
      rw [elt]
      refine br_dec (fun q => ?_) (fun q => ?_)
      · rw [if_pos q] at hX
        rw [← hpn]
        exact fault_spec fun u g => ext (c := c0C) hX (hgv.trans g)
      rw [if_neg q] at hX
      have hpv := hp2.grow hgv
      have hcut : Rd v 1 ⟨cutA p.A p.c 0 1, ((ms.n : Int).toNat - 0), p.c - 0⟩ (bv (l.take m.length)) := by
        have := hpv.cutB (l := 0) (k := m.length) (Nat.zero_le _) (by omega)
        rw [List.drop_zero, Nat.sub_zero] at this
        have e : ((ms.n : Int).toNat - 0) = m.length := by omega
        rw [e]; exact this
      refine ⟨⟨by omega, by omega, by omega, hcap⟩, odd_spec hcut hmr ?_⟩
      cases hox : oddX (l.take m.length) m 0 with
      | some ib =>
        obtain ⟨i, b⟩ := ib
        rw [hox] at hX
        dsimp only at hX ⊢
        refine br_t (by rw [decide_eq_true_eq]; omega) ?_
        exact fault_spec fun u g => ext (c := c0C) hX (hgv.trans g)
      | none =>
        rw [hox] at hX
        dsimp only at hX ⊢
        refine br_f rfl ?_
        cases ok with
        | false =>
          rw [if_pos rfl] at hX
          exact br_t rfl (fault_spec fun u g => ext (c := c0C) hX (hgv.trans g))
        | true =>
          rw [if_neg (by decide)] at hX
          refine br_f rfl (kindOp_spec (new_rule fun cb w3 hcb hc3 hg3 hsz3 => ?_))
          refine storeVar_rule (cells := (cmv { c0C with kind := kindX (bN l 0) }).toArray) hc3 i_api_Cmd rfl rfl (by simp [cmv, Value.oneCell']) fun w4 hc4 hk4 hs4 => ?_
          have hg4 : Grow v w4 := hg3.keep hk4 fun i hi q => by omega
          have hcutb : ∀ a, cutA p.A p.c 0 1 = some a → a.block ≠ cb := fun a hac q => by
            have hne : bv (l.take m.length) ≠ [] := fun e => by
              have := congrArg List.length e
              rw [bv_length, List.length_take, List.length_nil] at this; omega
            obtain ⟨a', ha', hcl⟩ := hcut.at_ hne
            have : cutA p.A p.c 0 1 = some a' := ha'
            rw [this] at hac; injection hac with hac
            subst hac
            have := cell_lt (hcl 0 _ (List.getElem?_eq_getElem (by rw [bv_length, List.length_take]; omega)))
            rw [add_block] at this
            omega
          have hlen : (l.take m.length).length = m.length := by rw [List.length_take]; omega
          refine fill_spec (c := { c0C with kind := kindX (bN l 0) }) hc4 (hcut.grow hg4) hcutb (LenOk.of (by rw [hlen]; exact mask_len hmx)) (kindX_lt _) fun w5 hc5 hk5 => ?_
          have hg5 : Grow v w5 := hg4.keep hk5 fun i hi q => by omega
          have hX : madeX (bN l 0) (l.take m.length) (svOf l) = (xc, xs, xb) := hX
          unfold madeX at hX
          cases hf : (fillX { c0C with kind := kindX (bN l 0) } (l.take m.length) (svOf l)).2 with
          | some fb =>
            obtain ⟨f, b⟩ := fb
            rw [hf] at hX
            refine br_t (by rw [decide_eq_true_eq]; omega) ?_
            exact fault_spec fun u g => ext (c := c0C) hX ((hgv.trans hg5).trans g)
          | none =>
            rw [hf] at hX
            dsimp only at hX
            generalize (fillX { c0C with kind := kindX (bN l 0) } (l.take m.length) (svOf l)).1 = d at hc5 hX
            refine br_f rfl ⟨_, cLoad (c := d) (blk_cells hc5), ?_⟩
            exact ext (c := d) (s := sn0) hX (hgv.trans hg5)
  · cases hsv : svd (bN l 0) with
    | true =>
      refine br_t rfl ?_
      have e2 : (decide ((p.n : Int) < 2)) = decide (l.length < 2) := by rw [decide_eq_decide]; omega
      rw [e2]
      refine br_dec (fun q => ?_) (fun q => ?_)
      · rw [if_pos ⟨hsv, q⟩] at hX
        exact fault_spec fun u g => ext (c := c0C) hX g
      · obtain ⟨_, hc1⟩ := byteC hp2 (i := 1) (by omega)
        refine ⟨⟨by decide, by omega, ha⟩, _, hc1, J _ _ ⟨rfl, ?_, fun r => q r.2⟩⟩
        unfold svOf
        rw [hsv, if_pos rfl]
        exact andN8 (bN_lt l 1) (m := 31) (by decide)
    | false =>
      refine br_f rfl (J _ _ ⟨rfl, ?_, fun r => by rw [hsv] at r; exact absurd r.1 (by decide)⟩)
      unfold svOf
      rw [hsv]; rfl
end
end Go.Proofs.YtpmebahhjgkflaaGreatDoor
