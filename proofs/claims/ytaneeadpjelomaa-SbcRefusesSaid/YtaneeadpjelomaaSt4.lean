import Derived.Test.YtaneeadpjelomaaSt2
/- Layer 4: what a file says of blocks. -/
namespace Go.Proofs.Ytaneeadpjelomaa
open Go CF

theorem getD_wr (f : L8) (o : Nat) (p : L8) (k : Nat) : (wr f o p).getD k 0 = if o ≤ k ∧ k < o + p.length then p.getD (k - o) 0 else f.getD k 0 := by
  unfold wr
  simp only [List.getD_eq_getElem?_getD]
  generalize hg : f ++ List.replicate (o + p.length - f.length) 0 = g
  have hgl : g.length = max f.length (o + p.length) := by rw [← hg]; simp; omega
  have hgk : ∀ k : Nat, (g[k]?).getD 0 = (f[k]?).getD 0 := fun k => by
    rw [← hg]
    rcases Nat.lt_or_ge k f.length with q | q
    · rw [List.getElem?_append_left q]
    · rw [List.getElem?_append_right q, List.getElem?_eq_none q, List.getElem?_replicate]
      split <;> rfl
  have htl : (g.take o).length = o := by rw [List.length_take]; omega
  rcases Nat.lt_or_ge k o with q | q
  · rw [if_neg (by omega), List.append_assoc, List.getElem?_append_left (by omega), List.getElem?_take, if_pos q, hgk]
  · rcases Nat.lt_or_ge k (o + p.length) with q2 | q2
    · rw [if_pos ⟨q, q2⟩, List.append_assoc, List.getElem?_append_right (by omega), htl, List.getElem?_append_left (by omega)]
    · rw [if_neg (by omega), List.getElem?_append_right (by rw [List.length_append, htl]; omega), List.length_append, htl, List.getElem?_drop, show o + p.length + (k - (o + p.length)) = k by omega, hgk]
/-- a record is there at whole -/
def Good (f : L8) : Prop := ∀ j : Nat, f.getD (25 * j) 0 = 1 → 25 * j + 25 ≤ f.length
def blkAt (f : L8) (j : Nat) : Bk := blkOf ((f.drop (25 * j)).take 25)
def sl25 (f : L8) (j : Nat) : L8 := (List.range 25).map fun t => f.getD (25 * j + t) 0
theorem blkOf_not {l : L8} (h : ¬ (25 ≤ l.length ∧ l[0]? = some 1)) : blkOf l = emptyB := dif_neg h
theorem blkAt_good {f : L8} (h : Good f) (j : Nat) : blkAt f j = blkOf (sl25 f j) := by
  unfold blkAt
  by_cases h1 : f.getD (25 * j) 0 = 1
  · have hl := h j h1
    have e : (f.drop (25 * j)).take 25 = sl25 f j := by
      unfold sl25
      apply List.ext_getElem?
      intro t
      simp only [List.getElem?_take, List.getElem?_drop, List.getElem?_map, List.getElem?_range]
      by_cases q : t < 25
      · rw [if_pos q, List.getElem?_eq_getElem (show 25 * j + t < f.length by omega)]
        simp [q, List.getD_eq_getElem?_getD, List.getElem?_eq_getElem (show 25 * j + t < f.length by omega)]
      · simp [q]
    rw [e]
  · rw [blkOf_not, blkOf_not]
    · intro q
      have := q.2
      simp [sl25] at this
      exact h1 (by simpa using this)
    · intro q
      have hq := q.2
      have hlen := q.1
      rw [List.length_take, List.length_drop] at hlen
      rw [List.getElem?_take, if_pos (by decide), List.getElem?_drop, Nat.add_zero] at hq
      exact h1 (by rw [List.getD_eq_getElem?_getD, hq]; rfl)
theorem good_nil : Good [] := fun j h => by simp at h
theorem getD_off {f p : L8} {i j t : Nat} (hp : p.length ≤ 25) (hij : j ≠ i) (ht : t < 25) : (wr f (25 * i) p).getD (25 * j + t) 0 = f.getD (25 * j + t) 0 := by
  rw [getD_wr, if_neg (by omega)]
theorem num_be2 {n : Nat} (h : n < 65536) : num (be2 n) = n := by
  simp only [num, be2, List.foldl_cons, List.foldl_nil, UInt8.toNat_ofNat']
  omega
theorem num_be4 {n : Nat} (h : n < 4294967296) : num (be4 n) = n := by
  simp only [num, be4, List.foldl_cons, List.foldl_nil, UInt8.toNat_ofNat']
  omega
theorem bk_ext {a b : Bk} (h1 : a.d = b.d) (h2 : a.g = b.g) (h3 : a.a = b.a) (h4 : a.r = b.r) : a = b := by
  cases a; cases b; simp only at h1 h2 h3 h4; subst h1; subst h2; subst h3; subst h4; rfl
theorem blkOf_rec (b : Bk) : blkOf (recB b) = b := by
  have h : 25 ≤ (recB b).length ∧ (recB b)[0]? = some 1 := ⟨by rw [recB_len]; decide, rfl⟩
  have hd := b.hd
  have e : recB b = 1 :: (b.d ++ (be2 b.g ++ (be2 b.a ++ be4 b.r))) := by simp [recB]
  have d1 : (recB b).drop 1 = b.d ++ (be2 b.g ++ (be2 b.a ++ be4 b.r)) := by rw [e]; rfl
  have d17 : (recB b).drop 17 = be2 b.g ++ (be2 b.a ++ be4 b.r) := by
    rw [e, List.drop_succ_cons, List.drop_append, List.drop_of_length_le (by omega), hd]; rfl
  have d19 : (recB b).drop 19 = be2 b.a ++ be4 b.r := by
    have : (recB b).drop 19 = ((recB b).drop 17).drop 2 := by rw [List.drop_drop]
    rw [this, d17]; rfl
  have d21 : (recB b).drop 21 = be4 b.r := by
    have : (recB b).drop 21 = ((recB b).drop 19).drop 2 := by rw [List.drop_drop]
    rw [this, d19]; rfl
  unfold blkOf
  rw [dif_pos h]
  apply bk_ext
  · show ((recB b).drop 1).take 16 = b.d
    rw [d1, List.take_append_of_le_length (by omega), List.take_of_length_le (by omega)]
  · show num (((recB b).drop 17).take 2) = b.g
    rw [d17]; exact num_be2 b.hg
  · show num (((recB b).drop 19).take 2) = b.a
    rw [d19]; exact num_be2 b.ha
  · show num (((recB b).drop 21).take 4) = b.r
    rw [d21]; exact num_be4 b.hr
theorem good_rec {f : L8} (h : Good f) (i : Nat) (b : Bk) : Good (wr f (25 * i) (recB b)) := by
  intro j hj
  rw [wr_len, recB_len]
  by_cases e : j = i
  · subst e; omega
  · have := getD_off (f := f) (p := recB b) (t := 0) (by rw [recB_len]; decide) e (by decide)
    rw [Nat.add_zero] at this
    rw [this] at hj
    have := h j hj
    omega
theorem good_zero {f : L8} (h : Good f) (i : Nat) : Good (wr f (25 * i) [0]) := by
  intro j hj
  rw [wr_len]
  by_cases e : j = i
  · subst e
    rw [getD_wr, if_pos ⟨Nat.le_refl _, by simp⟩, Nat.sub_self] at hj
    cases hj
  · have := getD_off (f := f) (p := [0]) (t := 0) (by decide) e (by decide)
    rw [Nat.add_zero] at this
    rw [this] at hj
    have := h j hj
    omega
theorem sl25_off {f p : L8} {i j : Nat} (hp : p.length ≤ 25) (hij : j ≠ i) : sl25 (wr f (25 * i) p) j = sl25 f j := by
  unfold sl25
  apply List.map_congr_left
  intro t ht
  exact getD_off hp hij (List.mem_range.1 ht)
theorem blkAt_rec {f : L8} (h : Good f) (i : Nat) (b : Bk) (j : Nat) : blkAt (wr f (25 * i) (recB b)) j = if j = i then b else blkAt f j := by
  rw [blkAt_good (good_rec h i b)]
  by_cases e : j = i
  · subst e
    rw [if_pos rfl]
    have e2 : sl25 (wr f (25 * j) (recB b)) j = recB b := by
      unfold sl25
      apply List.ext_getElem?
      intro t
      rw [List.getElem?_map]
      by_cases q : t < 25
      · rw [List.getElem?_range q, Option.map_some, getD_wr, if_pos ⟨by omega, by rw [recB_len]; omega⟩, show 25 * j + t - 25 * j = t by omega, List.getD_eq_getElem?_getD, List.getElem?_eq_getElem (by rw [recB_len]; exact q)]
        rfl
      · rw [List.getElem?_eq_none (l := List.range 25) (by simp; omega), List.getElem?_eq_none (l := recB b) (by rw [recB_len]; omega)]; rfl
    rw [e2, blkOf_rec]
  · rw [if_neg e, sl25_off (by rw [recB_len]; decide) e, blkAt_good h]
theorem blkAt_zero {f : L8} (h : Good f) (i j : Nat) : blkAt (wr f (25 * i) [0]) j = if j = i then emptyB else blkAt f j := by
  rw [blkAt_good (good_zero h i)]
  by_cases e : j = i
  · subst e
    rw [if_pos rfl, blkOf_not]
    intro q
    have := q.2
    rw [sl25, List.getElem?_map, List.getElem?_range (by decide), Option.map_some, Nat.add_zero, getD_wr, if_pos ⟨Nat.le_refl _, by simp⟩, Nat.sub_self] at this
    cases this
  · rw [if_neg e, sl25_off (by decide) e, blkAt_good h]
end Go.Proofs.Ytaneeadpjelomaa

/- Layer 4: the store's calls. -/
namespace Go.Proofs.Ytaneeadpjelomaa
open Go CF

def scells (pw : Nat) (file : ByteArray) (blocks : Nat) (cache : Bool) : Array Value := #[.pointer (some ⟨pw, 0, none⟩), .string file, .int .i64 (blocks : Int), .bool cache]
abbrev IsS (w : World) (ps pw : Nat) (file : ByteArray) (blocks : Nat) (cache : Bool) : Prop := Blk w ps (scells pw file blocks cache) t_store_Store
theorem open_spec {w : World} {pw : Nat} {file : ByteArray} {blocks : Nat} {cache : Bool} {R : Option Addr → Int → World → Prop} (hs : 1 ≤ file.size ∧ file.size ≤ 32) (hb : 1 ≤ blocks ∧ blocks ≤ 4096)
    (h : ∀ ps w', ps = w.heap.size → Grow w w' → IsS w' ps pw file blocks cache → R (some ⟨ps, 0, none⟩) 0 w') : Cstore_Open (some ⟨pw, 0, none⟩) file (blocks : Int) cache w R := by
  refine Fstore_Open.calls _ _ _ _ _ _ ?_
  refine br_f (by rw [Bool.or_eq_false_iff, Bool.or_eq_false_iff, Bool.or_eq_false_iff, decide_eq_false_iff_not, decide_eq_false_iff_not, decide_eq_false_iff_not, decide_eq_false_iff_not]; omega) (br_f rfl ?_)
  exact new_rule fun ps w1 hps hb1 hg1 _ => h ps w1 hps hg1 hb1
theorem check_spec {w : World} {ps pw : Nat} {file : ByteArray} {blocks : Nat} {cache : Bool} {lba n : Nat} {R : Int → World → Prop} (hs : IsS w ps pw file blocks cache) (hb : blocks ≤ 4096) (hl : lba ≤ 1000000000)
    (h : R (if lba + n ≤ blocks then 0 else 4) w) : Cstore_Store_check (some ⟨ps, 0, none⟩) (lba : Int) (n : Int) w R := by
  refine Fstore_Store_check.calls _ _ _ _ _ ?_
  have c2 : w.cell? ((gA (some ⟨ps, 0, none⟩)).add 2) = some (.int .i64 (blocks : Int)) := by rw [gA, add0, hs.cell]; rfl
  refine br_f rfl ⟨fun _ => rfl, (blocks : Int), fun _ => c2, fun _ => rfl, (blocks : Int), fun _ => c2, ?_⟩
  have e : IntKind.wrap .i64 ((blocks : Int) - (lba : Int)) = (blocks : Int) - (lba : Int) := w64 (by omega) (by omega)
  by_cases q : lba + n ≤ blocks
  · rw [if_pos q] at h
    refine br_f ?_ h
    rw [Bool.or_eq_false_iff, Bool.or_eq_false_iff, Bool.or_eq_false_iff, decide_eq_false_iff_not, decide_eq_false_iff_not, decide_eq_false_iff_not, decide_eq_false_iff_not, e]
    omega
  · rw [if_neg q] at h
    refine br_t ?_ h
    rw [Bool.or_eq_true, Bool.or_eq_true, Bool.or_eq_true, decide_eq_true_eq, decide_eq_true_eq, decide_eq_true_eq, decide_eq_true_eq, e]
    omega
def stepW (st : Wst) (file : ByteArray) (o : Nat) (r : L8) : Wst := ⟨applyWr st.seen file o r, st.dur, st.waits ++ [⟨119, file, ⟨#[]⟩, o, r⟩], st.ops + 1⟩
def layW (st : Wst) (file : ByteArray) (lba : Nat) (rs : Nat → L8) : Nat → Wst
  | 0 => st
  | k + 1 => stepW (layW st file lba rs k) file (25 * (lba + k)) (rs k)
theorem layW_ops (st : Wst) (file : ByteArray) (lba : Nat) (rs : Nat → L8) : ∀ k, (layW st file lba rs k).ops = st.ops + k ∧ (layW st file lba rs k).waits.length = st.waits.length + k
  | 0 => ⟨rfl, rfl⟩
  | k + 1 => by
    obtain ⟨h1, h2⟩ := layW_ops st file lba rs k
    simp only [layW, stepW, List.length_append, List.length_singleton, h1, h2]
    omega
theorem lay_spec {w : World} {ps pw : Nat} {D : Nat → Prop} {st : Wst} {file : ByteArray} {blocks : Nat} {cache fua : Bool} {lba n : Nat} {one : Value} {rs : Nat → L8} {R : Int → Int → World → Prop}
    (hS : IsS w ps pw file blocks cache) (hps : ¬ D ps) (hw : IsW w pw D st) (hs : 1 ≤ file.size ∧ file.size ≤ 32) (hb : lba + n ≤ 4096) (hlen : ∀ i, (rs i).length ≤ 25) (ho : st.ops < 100000000000) (hn : st.waits.length < 100000000)
    (hone : ∀ (x : Nat) (u : World) (K : Sl → World → Prop), x < n → Keep D w u → (∀ s u', Grow u u' → Own u' 0 t_uint8 1 s (bv (rs x)) → K s u') → CallV Try.prog cs one #[.int .i64 (x : Int)] u [.sl] K)
    (h : ∀ u D', Keep D w u → IsW u pw D' (layW st file lba rs n) → (∀ k, D' k → D k ∨ w.heap.size ≤ k) → IsS u ps pw file blocks cache →
      if 0 < n ∧ (fua = true ∨ cache = false) then Cworld_World_Sync (some ⟨pw, 0, none⟩) u (fun e v => R (n : Int) e v) else R (n : Int) 0 u) :
    Cstore_Store_lay (some ⟨ps, 0, none⟩) (lba : Int) (n : Int) one fua w R := by
  refine Fstore_Store_lay.calls _ _ _ _ _ _ _ ?_
  have hS' : ∀ {u : World}, Keep D w u → IsS u ps pw file blocks cache := fun k => k.heap hS hps
  refine ⟨fun x w' => ∃ k : Nat, x = k ∧ k ≤ n ∧ ∃ Dk, Keep D w w' ∧ IsW w' pw Dk (layW st file lba rs k) ∧ ∀ j, Dk j → D j ∨ w.heap.size ≤ j, fun x _ => n - x.toNat,
    ⟨0, rfl, Nat.zero_le _, D, Keep.mono (Keep.refl (fun _ => False) w) (fun _ _ q => q.elim), hw, fun _ q => .inl q⟩, ?_⟩
  rintro x w0 ⟨k, rfl, hk, Dk, hk0, hw0, hD0⟩
  refine br_nat (fun hlt => ?_) (fun hge => ?_)
  · rintro w1 rfl
    have hg1 : Grow w0 w0.drew := keep_drew w0
    have hk1 : Keep D w w0.drew := hk0.grow hg1
    refine ⟨fun u => IsS u ps pw file blocks cache, hS' hk1, rfl, some ⟨pw, 0, none⟩, fun u hu => by rw [gA, add0, Blk.cell hu]; rfl, rfl, file, fun u hu => by rw [gA, add0, Blk.cell hu]; rfl, ?_⟩
    refine hone k w0.drew _ hlt hk1 fun s w2 hg2 hown2 => ⟨hS' (hk1.grow hg2), ?_⟩
    have e : IntKind.wrap .i64 ((IntKind.wrap .i64 ((lba : Int) + (k : Int))) * 25) = ((25 * (lba + k) : Nat) : Int) := by
      rw [w64 (n := (lba : Int) + (k : Int)) (by omega) (by omega), w64 (by omega) (by omega)]; omega
    rw [e]
    obtain ⟨lo, lw⟩ := layW_ops st file lba rs k
    have hl25 := hlen k
    have hsn : s.n = (rs k).length := by have := hown2.len; rw [bv_length] at this; omega
    refine world_write_spec (bs := rs k) ((hw0.grow hg1).grow hg2) hs (hown2.rd (by omega)) (by omega) (by omega) (by omega) fun w3 D' hk3 hw3 hD3 => br_f rfl ?_
    rw [w64 (by omega) (by omega)]
    have hsz1 := hg1.size
    have hsz2 := hg2.size
    have hsz0 := hk0.size
    refine ⟨⟨k + 1, by omega, by omega, D', (hk1.grow hg2).trans hk3 fun i hi q => ?_, hw3, fun j hj => ?_⟩, by dsimp only; omega⟩
    · rcases hD0 i q with r | r
      · exact r
      · omega
    · rcases hD3 j hj with q | q
      · exact hD0 j q
      · exact .inr (by omega)
  · have hkn : k = n := by omega
    subst hkn
    have := h w0 Dk hk0 hw0 hD0 (hS' hk0)
    have hc : w0.cell? ((gA (some ⟨ps, 0, none⟩)).add 3) = some (.bool cache) := by rw [gA, add0, Blk.cell (hS' hk0)]; rfl
    refine ⟨fun _ => rfl, cache, fun _ => hc, ?_⟩
    by_cases q : 0 < k ∧ (fua = true ∨ cache = false)
    · rw [if_pos q] at this
      refine br_t ?_ ⟨rfl, some ⟨pw, 0, none⟩, by rw [gA, add0, Blk.cell (hS' hk0)]; rfl, this⟩
      rw [Bool.and_eq_true, decide_eq_true_eq, Bool.or_eq_true, Bool.not_eq_true']
      exact ⟨by omega, q.2⟩
    · rw [if_neg q] at this
      refine br_f ?_ this
      rw [Bool.and_eq_false_iff, decide_eq_false_iff_not, Bool.or_eq_false_iff, Bool.not_eq_false']
      by_cases q1 : 0 < k
      · right
        cases fua <;> cases cache <;> simp_all
      · left; omega
end Go.Proofs.Ytaneeadpjelomaa
