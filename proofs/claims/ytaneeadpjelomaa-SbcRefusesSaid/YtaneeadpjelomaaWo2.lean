import Derived.Test.YtaneeadpjelomaaCfR
import Derived.Test.YtaneeadpjelomaaG1
import Derived.Test.YtaneeadpjelomaaG2
import Derived.Test.YtaneeadpjelomaaG3
/- Layer 3: files in a map, and a change applied to them. -/
namespace Go.Proofs.Ytaneeadpjelomaa
open Go CF

abbrev Files := ByteArray → Option L8
def wr (f : L8) (o : Nat) (p : L8) : L8 :=
  (f ++ List.replicate (o + p.length - f.length) 0).take o ++ p ++ (f ++ List.replicate (o + p.length - f.length) 0).drop (o + p.length)
def setF (F : Files) (s : ByteArray) (v : Option L8) : Files := fun t => if t = s then v else F t
def applyWr (F : Files) (s : ByteArray) (o : Nat) (p : L8) : Files := setF F s (some (wr ((F s).getD []) o p))
theorem wr_len (f : L8) (o : Nat) (p : L8) : (wr f o p).length = max f.length (o + p.length) := by
  unfold wr
  simp only [List.length_append, List.length_take, List.length_drop, List.length_replicate]
  omega
theorem mn_nat (a b : Nat) : mn (a : Int) (b : Int) = ((min a b : Nat) : Int) := by
  unfold mn; split <;> omega
/-- a file's bytes, as they lie in the map -/
def FileAt (w : World) (v : Option Value) : Option L8 → Prop
  | none => v = none
  | some l => ∃ s : Sl, v = some (.slice s.A s.n s.c) ∧ Own w 0 t_uint8 1 s (bv l) ∧ l.length ≤ 1048576
def IsF (w : World) (mb : Nat) (F : Files) : Prop := ∃ m, SMap w mb m ∧ ∀ s, FileAt w (m s) (F s)
theorem own_heap {w : World} {base : Nat} {e : TypeId} {z : Nat} {s : Sl} {vs : List Value} (h : Own w base e z s vs) {g : Nat} (hg : s.blk = some g) : ∃ cur, w.heap[g]? = some (.cells cur e (0, 0)) := by
  rcases h.2 with ⟨h2, _⟩ | ⟨g', cap, cur, hv, _, hh, _⟩
  · injection h2 with hA; simp [Sl.blk, hA] at hg
  · injection hv with hA
    simp [Sl.blk, hA] at hg
    subst hg
    exact ⟨cur, hh⟩
/-- these blocks hold no bytes -/
def NoBytes (w : World) (S : Nat → Prop) : Prop := ∀ g cur, w.heap[g]? = some (.cells cur t_uint8 (0, 0)) → ¬ S g
theorem FileAt.keep {S : Nat → Prop} {w w' : World} {v : Option Value} {l : Option L8} (h : FileAt w v l) (k : Keep S w w') (hn : NoBytes w S) : FileAt w' v l := by
  cases l with
  | none => exact h
  | some l =>
    obtain ⟨s, h1, h2, h3⟩ := h
    refine ⟨s, h1, h2.keep k fun b hb => ?_, h3⟩
    obtain ⟨cur, hc⟩ := own_heap h2 hb
    exact hn b cur hc
theorem IsF.keep {S : Nat → Prop} {w w' : World} {mb : Nat} {F : Files} (h : IsF w mb F) (k : Keep S w w') (hm : ¬ S mb) (hn : NoBytes w S) : IsF w' mb F := by
  obtain ⟨m, h1, h2⟩ := h
  exact ⟨m, h1.keep k hm, fun s => (h2 s).keep k hn⟩
theorem nobytes_none (w : World) : NoBytes w fun _ => False := fun _ _ _ q => q
theorem IsF.grow {w w' : World} {mb : Nat} {F : Files} (h : IsF w mb F) (k : Grow w w') : IsF w' mb F := h.keep k (fun q => q) (nobytes_none w)
theorem isF_new (w : World) : IsF (w.alloc (.map #[] 0)) w.heap.size fun _ => none := ⟨_, smap_new w, fun _ => rfl⟩
theorem isF_lt {w : World} {mb : Nat} {F : Files} (h : IsF w mb F) : mb < w.heap.size := by
  obtain ⟨m, ⟨es, c, hb, _⟩, _⟩ := h
  exact lt_of_heap hb
theorem isF_map {w : World} {mb : Nat} {F : Files} (h : IsF w mb F) (cur : Array Value) (t : TypeId) (fr : Nat × Nat) : w.heap[mb]? ≠ some (.cells cur t fr) := by
  obtain ⟨m, ⟨es, c, hb, _⟩, _⟩ := h
  rw [hb]; intro q; cases q
theorem nobytes_map {w : World} {mb : Nat} {F : Files} (h : IsF w mb F) : NoBytes w fun k => k = mb := fun g cur hg q => by
  subst q; exact isF_map h _ _ _ hg
theorem zero_rule {P : Program} {w : World} {e : TypeId} {zv : Value} {z bytes : Nat} (hinfo : (P.info? e).map (fun i => (i.zero, i.size, i.bytes)) = some (some zv, z, bytes)) : (zeroValue e).run P w = .ok zv w := by
  obtain ⟨i, hi, hzz⟩ := Option.map_eq_some_iff.1 hinfo
  simp only [Prod.mk.injEq] at hzz
  simp [zeroValue, typeInfo, hi, hzz.1]
theorem file_look {w : World} {mb : Nat} {F : Files} (h : IsF w mb F) (s : ByteArray) :
    ∃ r : Sl × Bool, (Instr.lookup t_map_string_sl_uint8 (.map (some mb)) (.string s) true).run Try.prog w = .ok (.tuple #[.slice r.1.A r.1.n r.1.c, .bool r.2]) w ∧
      (Instr.lookup t_map_string_sl_uint8 (.map (some mb)) (.string s) false).run Try.prog w = .ok (.slice r.1.A r.1.n r.1.c) w ∧ Own w 0 t_uint8 1 r.1 (bv ((F s).getD [])) ∧ r.2 = (F s).isSome ∧ ((F s).getD []).length ≤ 1048576 := by
  obtain ⟨m, hm, hf⟩ := h
  obtain ⟨l1, l2⟩ := look_rule u_map_string_sl_uint8 u_string (zero_rule i_sl_uint8) hm s
  have hs := hf s
  cases hF : F s with
  | none =>
    rw [hF] at hs
    have hs : m s = none := hs
    rw [hs] at l1 l2
    exact ⟨(⟨none, 0, 0⟩, false), l1, l2, own_nil _ _ _ _, rfl, by simp⟩
  | some l =>
    rw [hF] at hs
    obtain ⟨sl, h1, h2, h3⟩ := hs
    rw [h1] at l1 l2
    exact ⟨(sl, true), l1, l2, h2, rfl, h3⟩
theorem file_put {w : World} {mb : Nat} {F : Files} (h : IsF w mb F) (s : ByteArray) {f : Sl} {l : L8} (hf : Own w 0 t_uint8 1 f (bv l)) (hl : l.length ≤ 1048576)
    {K : World → Prop} (hK : ∀ w', IsF w' mb (setF F s (some l)) → Keep (fun k => k = mb) w w' → K w') : RunU Try.prog (Instr.mapUpdate t_map_string_sl_uint8 (.map (some mb)) (.string s) (.slice f.A f.n f.c)) w K := by
  have hnb := nobytes_map h
  obtain ⟨m, hm, hs⟩ := h
  refine upd_rule u_map_string_sl_uint8 u_string hm s _ fun w1 hm1 hk1 _ => hK w1 ⟨_, hm1, fun t => ?_⟩ hk1
  unfold upd setF
  by_cases q : t = s
  · rw [if_pos q, if_pos q]
    refine ⟨f, rfl, hf.keep hk1 fun b hb => ?_, hl⟩
    obtain ⟨cur, hc⟩ := own_heap hf hb
    exact hnb b cur hc
  · rw [if_neg q, if_neg q]
    exact (hs t).keep hk1 hnb
theorem bv_rep (j : Nat) : bv (List.replicate j 0) ++ [.int .u8 0] = bv (List.replicate (j + 1) 0) := by
  rw [List.replicate_succ', bv_append]; rfl
theorem apply_w_spec {w : World} {mb : Nat} {F : Files} {name to : ByteArray} {off k : Nat} {p : Sl} {bs : L8} {R : World → Prop} (hF : IsF w mb F) (hp : Rd w 1 p (bv bs)) (hb : off + bs.length ≤ 1048576)
    (h : ∀ w', Keep (fun k => k = mb) w w' → IsF w' mb (applyWr F name off (bs.take k)) → R w') :
    Cworld_apply (some mb) #[.int .u8 119, .string name, .string to, .int .i64 (off : Int), .slice p.A p.n p.c] (k : Int) w R := by
  refine Fworld_apply.calls _ _ _ _ _ ?_
  refine new_rule fun cb w0 hcb hb0 hg0 hsz0 => ?_
  have hb0 : Blk w0 cb #[.int .u8 119, .string name, .string to, .int .i64 (off : Int), .slice p.A p.n p.c] t_world_change := hb0
  have c0 : ∀ {u : World}, Blk u cb #[.int .u8 119, .string name, .string to, .int .i64 (off : Int), .slice p.A p.n p.c] t_world_change → u.cell? ((⟨cb, 0, none⟩ : Addr).add 0) = some (.int .u8 119) := fun q => by rw [add0, q.cell]; rfl
  have c1 : ∀ {u : World}, Blk u cb #[.int .u8 119, .string name, .string to, .int .i64 (off : Int), .slice p.A p.n p.c] t_world_change → u.cell? ((⟨cb, 0, none⟩ : Addr).add 1) = some (.string name) := fun q => by rw [add0, q.cell]; rfl
  have c3 : ∀ {u : World}, Blk u cb #[.int .u8 119, .string name, .string to, .int .i64 (off : Int), .slice p.A p.n p.c] t_world_change → u.cell? ((⟨cb, 0, none⟩ : Addr).add 3) = some (.int .i64 (off : Int)) := fun q => by rw [add0, q.cell]; rfl
  have c4 : ∀ {u : World}, Blk u cb #[.int .u8 119, .string name, .string to, .int .i64 (off : Int), .slice p.A p.n p.c] t_world_change → u.cell? ((⟨cb, 0, none⟩ : Addr).add 4) = some (.slice p.A p.n p.c) := fun q => by rw [add0, q.cell]; rfl
  have hpn : bs.length = p.n := by have := hp.len; rw [bv_length] at this; omega
  have hcap := hp.cap
  refine ⟨119, c0 hb0, br_t rfl ?_⟩
  have hmn := mn_nat k p.n
  refine ⟨p, c4 hb0, p, c4 hb0, ⟨by omega, by omega, by omega, by omega⟩, name, c1 hb0, ?_⟩
  rw [hmn]
  obtain ⟨r, _, hlk, hown, _, hol⟩ := file_look (hF.grow hg0) name
  generalize hold : (F name).getD [] = old at *
  have hrn : old.length = r.1.n := by have := hown.len; rw [bv_length] at this; omega
  refine ⟨r.1, hlk, ?_⟩
  refine append_rule (s := ⟨none, 0, 0⟩) (vs := []) (base := w0.heap.size) u_sl_uint8 i_uint8 rfl (by decide) (by decide) (own_nil _ _ _ _) (hown.rd (by omega)) (by intro u hu; simp only [bv, List.mem_map] at hu; obtain ⟨_, _, rfl⟩ := hu; rfl) (by show (0 + r.1.n) * 1 ≤ _; omega) (Nat.le_refl _) fun s1 w1 hn1 hown1 hk1 _ => ?_
  have hg1 : Grow w0 w1 := hk1.mono fun i hi q => by cases q
  rw [List.nil_append] at hown1
  simp only [Int.toNat_natCast, Nat.sub_zero]
  generalize hL : (bs.take k).length = L at *
  have hLm : min k p.n = L := by rw [← hL, List.length_take]; omega
  rw [hLm]
  have hLb : off + L ≤ 1048576 := by rw [← hL, List.length_take]; omega
  refine ⟨fun f w' => ∃ j : Nat, Grow w0 w' ∧ Own w' w0.heap.size t_uint8 1 f (bv (old ++ List.replicate j 0)) ∧ (j = 0 ∨ old.length + j ≤ off + L), fun f _ => off + L - f.n, ⟨0, hg1, by simpa using hown1, .inl rfl⟩, ?_⟩
  rintro f w2 ⟨j, hg2, hown2, hj⟩
  have hfn : old.length + j = f.n := by have := hown2.len; rw [bv_length, List.length_append, List.length_replicate] at this; omega
  have hb2 := hg2.heap hb0 (fun q => q)
  refine ⟨(off : Int), c3 hb2, ?_⟩
  have hwp : IntKind.wrap .i64 ((off : Int) + (L : Int)) = ((off + L : Nat) : Int) := by rw [w64 (by omega) (by omega)]; omega
  refine br_dec (fun hlt => ?_) (fun hge => ?_)
  · rw [hwp] at hlt
    refine lit_rule (cells := #[.int .u8 0]) (e := t_uint8) (z := 1) (base := w0.heap.size) (by kernel_rfl) rfl (by decide) hg2.size fun w3 hlit3 hg3 _ => ?_
    refine append_rule u_sl_uint8 i_uint8 rfl (by decide) (by decide) (hown2.grow hg3) (hlit3.rd (by show 1 ≤ _; decide)) (by simp [Value.oneCell']) (by show (f.n + 1) * 1 ≤ _; omega) (hg2.trans hg3).size fun f4 w4 hn4 hown4 hk4 _ => ?_
    refine ⟨⟨j + 1, (hg2.trans hg3).keep hk4 fun i hi q => by have := (hown2.ge i q.symm).1; omega, ?_, .inr (by omega)⟩, ?_⟩
    · have e : bv (old ++ List.replicate (j + 1) 0) = bv (old ++ List.replicate j 0) ++ [.int .u8 0] := by
        rw [bv_append, bv_append, List.append_assoc, bv_rep]
      rw [e]; exact hown4
    · have : f4.n = f.n + 1 := hn4
      dsimp only
      omega
  · rw [hwp] at hge
    have hjv : j = off + L - old.length := by omega
    have hfr := hown2.rd (by omega)
    have hfc := hfr.cap
    refine ⟨(off : Int), c3 hb2, ⟨by omega, by omega, by omega, by omega⟩, ?_⟩
    simp only [Int.toNat_natCast]
    have hx := (hp.grow (hg0.trans hg2)).cutB (l := 0) (k := L) (Nat.zero_le _) (by omega)
    simp only [List.drop_zero, Nat.sub_zero] at hx
    have hxt : bs.take L = bs.take k := by
      rw [← hL, List.length_take]
      rcases Nat.le_total k bs.length with q | q
      · rw [Nat.min_eq_left q]
      · rw [Nat.min_eq_right q, List.take_length, List.take_of_length_le q]
    rw [hxt] at hx
    refine copy_rule (x := ⟨cutA p.A p.c 0 1, L, p.c⟩) (o := off) u_sl_uint8 i_uint8 hown2 hx (by intro u hu; simp only [bv, List.mem_map] at hu; obtain ⟨_, _, rfl⟩ := hu; rfl) (by show off + L ≤ f.n; omega) fun w3 hown3 hk3 _ => ?_
    have hcf : f.blk ≠ some cb := fun q => by have := (hown2.ge cb q).1; omega
    have hb3 := hk3.heap hb2 (fun q => hcf q.symm)
    refine ⟨name, c1 hb3, ?_⟩
    have hg3 : Grow w0 w3 := hg2.keep hk3 fun i hi q => by have := (hown2.ge i q.symm).1; omega
    have hgw : Grow w w3 := hg0.trans hg3
    have hres : Own w3 0 t_uint8 1 f (bv (wr old off (bs.take k))) := by
      refine Own.mono (base := w0.heap.size) ?_ (Nat.zero_le _)
      have e : bv (wr old off (bs.take k)) = (bv (old ++ List.replicate j 0)).take off ++ bv (bs.take k) ++ (bv (old ++ List.replicate j 0)).drop (off + L) := by
        unfold wr
        rw [hL, ← hjv, bv_append, bv_append, bv_take, bv_drop]
      rw [e]
      exact hown3
    refine file_put (hF.grow hgw) name hres (by rw [wr_len, hL]; omega) fun w4 hF4 hk4 => ?_
    refine h w4 (Keep.trans (hgw.mono fun _ _ q => q.elim) hk4 fun _ _ q => q) ?_
    unfold applyWr
    rw [hold]
    exact hF4
end Go.Proofs.Ytaneeadpjelomaa

/- Layer 3: the world's calls, where no call fails. -/
namespace Go.Proofs.Ytaneeadpjelomaa
open Go CF

/-- what waits -/
structure Cg where
  kind : Int
  name : ByteArray
  to : ByteArray
  off : Nat
  p : L8
def cgv (x : Cg × Sl) : List Value := [.int .u8 x.1.kind, .string x.1.name, .string x.1.to, .int .i64 (x.1.off : Int), .slice x.2.A x.2.n x.2.c]
theorem cgv_len (x : Cg × Sl) : (cgv x).length = 5 := rfl
/-- a world as it is meant: no call fails -/
structure Wst where
  seen : Files
  dur : Files
  waits : List Cg
  ops : Nat
def wcells (mb md : Nat) (ws : Sl) (ops : Nat) : Array Value := #[.map (some mb), .map (some md), .slice ws.A ws.n ws.c, .int .i64 (ops : Int), .map none, .int .i64 (-1), .bool false]
/-- the world lies at a block; D: the blocks that it may write over -/
structure IsWd (w : World) (pw : Nat) (D : Nat → Prop) (st : Wst) (mb md : Nat) (ws : Sl) (cs : List (Cg × Sl)) : Prop where
  blk : Blk w pw (wcells mb md ws st.ops) t_world_World
  seen : IsF w mb st.seen
  dur : IsF w md st.dur
  ne : mb ≠ md
  own : Own w 0 t_world_change 5 ws (cs.flatMap cgv)
  waits : cs.map (·.1) = st.waits
  rows : ∀ c ∈ cs, Own w 0 t_uint8 1 c.2 (bv c.1.p)
  dw : D pw
  db : D mb
  dd : D md
  ds : ∀ g, ws.blk = some g → D g
  lt : ∀ k, D k → k < w.heap.size
  nb : NoBytes w D
def IsW (w : World) (pw : Nat) (D : Nat → Prop) (st : Wst) : Prop := ∃ mb md ws cs, IsWd w pw D st mb md ws cs
theorem IsWd.keep {S : Nat → Prop} {w w' : World} {pw : Nat} {D : Nat → Prop} {st : Wst} {mb md : Nat} {ws : Sl} {cs : List (Cg × Sl)} (h : IsWd w pw D st mb md ws cs) (k : Keep S w w') (hd : ∀ k, D k → ¬ S k) (hs : NoBytes w S) :
    IsWd w' pw D st mb md ws cs := by
  have hsz := k.size
  refine ⟨k.heap h.blk (hd _ h.dw), h.seen.keep k (hd _ h.db) hs, h.dur.keep k (hd _ h.dd) hs, h.ne, h.own.keep k fun b hb => hd _ (h.ds b hb), h.waits, fun c hc => (h.rows c hc).keep k fun b hb => ?_, h.dw, h.db, h.dd, h.ds, fun k hk => by have := h.lt k hk; omega, fun g cur hg q => ?_⟩
  · obtain ⟨cur, hcur⟩ := own_heap (h.rows c hc) hb
    exact hs b cur hcur
  · have hlt := h.lt g q
    have := k.block g hlt (hd g q)
    exact h.nb g cur (by rw [← this]; exact hg) q
theorem IsW.keep {S : Nat → Prop} {w w' : World} {pw : Nat} {D : Nat → Prop} {st : Wst} (h : IsW w pw D st) (k : Keep S w w') (hd : ∀ k, D k → ¬ S k) (hs : NoBytes w S) : IsW w' pw D st := by
  obtain ⟨mb, md, ws, cs, h⟩ := h
  exact ⟨mb, md, ws, cs, h.keep k hd hs⟩
theorem IsW.grow {w w' : World} {pw : Nat} {D : Nat → Prop} {st : Wst} (h : IsW w pw D st) (k : Grow w w') : IsW w' pw D st := h.keep k (fun _ _ q => q) (nobytes_none w)
/-- a world made -/
theorem world_new_spec {w : World} {R : Option Addr → World → Prop}
    (h : ∀ pw D w', Grow w w' → IsW w' pw D ⟨fun _ => none, fun _ => none, [], 0⟩ → (∀ k, D k → w.heap.size ≤ k) → R (some ⟨pw, 0, none⟩) w') : Cworld_New w R := by
  refine Fworld_New.calls _ _ ?_
  rintro mb w1 rfl rfl
  rintro md w2 rfl rfl
  refine new_rule fun pw w3 hpw hb3 hg3 hsz3 => ?_
  have hg1 := keep_alloc w (.map #[] 0)
  have hg2 := keep_alloc (w.alloc (.map #[] 0)) (.map #[] 0)
  have s1 : (w.alloc (.map #[] 0)).heap.size = w.heap.size + 1 := by simp
  have s2 : ((w.alloc (.map #[] 0)).alloc (.map #[] 0)).heap.size = w.heap.size + 2 := by simp
  have f1 : IsF w3 w.heap.size fun _ => none := ((isF_new w).grow hg2).grow hg3
  have f2 : IsF w3 (w.alloc (.map #[] 0)).heap.size fun _ => none := (isF_new _).grow hg3
  refine h pw (fun k => k = pw ∨ k = w.heap.size ∨ k = (w.alloc (.map #[] 0)).heap.size) w3 ((hg1.trans hg2).trans hg3) ⟨w.heap.size, (w.alloc (.map #[] 0)).heap.size, ⟨none, 0, 0⟩, [], ?_⟩ fun k hk => by omega
  refine ⟨hb3, f1, f2, by omega, own_nil _ _ _ _, rfl, fun c hc => (by cases hc), .inl rfl, .inr (.inl rfl), .inr (.inr rfl), fun g hg => (by simp [Sl.blk] at hg), fun k hk => (by omega), fun g cur hg q => ?_⟩
  rcases q with rfl | rfl | rfl
  · rw [hb3] at hg
    injection hg with hg
    injection hg with _ ht
    exact absurd ht (by decide)
  · exact isF_map f1 _ _ _ hg
  · exact isF_map f2 _ _ _ hg
theorem checkKey_int {P : Program} {w : World} {k : TypeId} {q : IntKind} (ek : Bool) (n : Nat) (hk : P.underlying k = some (.int q)) (z : Int) : (Instr.checkKey ek (n + 1) k (.int q z)).run P w = .ok () w := by
  unfold Instr.checkKey
  simp [run_underlying hk]
theorem nil_look (w : World) (n : Int) : (Instr.lookup t_map_int_bool (.map none) (.int .i64 n) false).run Try.prog w = .ok (.bool false) w := by
  have hf : (Instr.findKey 3 (.int .i64 n) []).run Try.prog w = .ok none w := by
    unfold Instr.findKey
    simp [run_underlying u_int, Instr.findNow]
  unfold Instr.lookup
  simp [run_underlying u_map_int_bool, checkKey_int _ _ u_int, hf, zero_rule i_bool]
/-- a counted call -/
theorem call_spec {w : World} {pw : Nat} {D : Nat → Prop} {st : Wst} {mb md : Nat} {ws : Sl} {cs : List (Cg × Sl)} {R : Int → World → Prop} (hw : IsWd w pw D st mb md ws cs) (ho : st.ops < 1000000000000)
    (h : ∀ w', Keep (fun k => k = pw) w w' → IsWd w' pw D { st with ops := st.ops + 1 } mb md ws cs → R 0 w') : Cworld_World_call (some ⟨pw, 0, none⟩) w R := by
  refine Fworld_World_call.calls _ _ _ ?_
  have hb := hw.blk
  refine ⟨rfl, false, by rw [gA, add0, hb.cell]; rfl, br_f rfl ⟨rfl, (st.ops : Int), by rw [gA, add0, hb.cell]; rfl, rfl, (st.ops : Int), by rw [gA, add0, hb.cell]; rfl, rfl, ?_⟩⟩
  rw [w64 (by omega) (by omega)]
  rw [gA, add0]
  refine put_rule hb (by show 3 < 7; decide) rfl fun w1 hb1 hk1 hsz1 => ?_
  have hb1 : Blk w1 pw (wcells mb md ws (st.ops + 1)) t_world_World := hb1
  refine ⟨rfl, -1, by rw [add0, hb1.cell]; rfl, br_f (by rw [beq_eq_false_iff_ne]; omega) ⟨rfl, none, by rw [add0, hb1.cell]; rfl, false, ?_, br_f rfl ?_⟩⟩
  · exact nil_look _ _
  · refine h w1 hk1 ?_
    have nbp : NoBytes w fun k => k = pw := fun g cur hg q => hw.nb g cur hg (by subst q; exact hw.dw)
    have nm : mb ≠ pw := fun q => isF_map hw.seen _ _ _ (by rw [q]; exact hb)
    have nd : md ≠ pw := fun q => isF_map hw.dur _ _ _ (by rw [q]; exact hb)
    refine ⟨hb1, hw.seen.keep hk1 nm nbp, hw.dur.keep hk1 nd nbp, hw.ne, hw.own.keep hk1 fun b hb2 q => ?_, hw.waits, fun c hc => (hw.rows c hc).keep hk1 fun b hb2 => ?_, hw.dw, hw.db, hw.dd, hw.ds, fun k hk => by have := hw.lt k hk; omega, fun g cur hg q => ?_⟩
    · obtain ⟨cur, hc⟩ := own_heap hw.own hb2
      subst q
      rw [hb] at hc
      injection hc with hc
      injection hc with _ ht
      exact absurd ht (by decide)
    · obtain ⟨cur, hc2⟩ := own_heap (hw.rows c hc) hb2
      exact nbp b cur hc2
    · by_cases e : g = pw
      · subst e
        rw [hb1] at hg
        injection hg with hg
        injection hg with _ ht
        exact absurd ht (by decide)
      · exact hw.nb g cur (by rw [← hk1.block g (hw.lt g q) e]; exact hg) q
end Go.Proofs.Ytaneeadpjelomaa
