import Derived.Test.YtaneeadpjelomaaDoorB5
/- Layer 15: parameters that are read tell themselves; a byte turned. -/
namespace Go.Proofs.YtaneeadpjelomaaDoor
open Go CF

theorem sub_split (l : L8) (i a b : Nat) : sub l i (a + b) = sub l i a ++ sub l (i + a) b := by
  unfold sub
  rw [List.take_add, List.drop_drop]
theorem sub_id {l : L8} {n : Nat} (h : l.length = n) : l = sub l 0 n := (sub_all h).symm
theorem num_is {l : L8} {n v : Nat} (hl : l.length = n) (hv : v < 256 ^ n) (h : num l = v) : l = beN n v := num_inj (by rw [beN_len]; exact hl) (h.trans (num_beN_lt hv).symm)
structure HeadOk (p : L8) : Prop where
  len : 16 ≤ p.length
  z0 : num (sub p 0 2) = 0
  z4 : num (sub p 4 4) = 0
  z12 : num (sub p 12 4) = 0
  u : nuX p % 32 = 0
  s : nsX p % 28 = 0
  all : p.length = 16 + nuX p + nsX p
  few : nuX p ≤ 256 ∧ nsX p ≤ 224
theorem head_none {p : L8} (h : headX p = none) : HeadOk p := by
  unfold headX at h
  split at h
  · cases h
  split at h
  · cases h
  split at h
  · cases h
  split at h
  · cases h
  split at h
  · cases h
  split at h
  · cases h
  split at h
  · cases h
  split at h
  · cases h
  rename_i a b c d e f g i
  exact ⟨by omega, by simpa using b, by simpa using c, by simpa using d, by simpa using e, by simpa using f, by simpa using g, by omega⟩
theorem parse_ok {p : L8} (hne : p ≠ []) (h : (parseX p).ok = true) : HeadOk p ∧ (∀ j, j < nuX p / 32 → unitBad (unitAt p j) = none) ∧ (∀ j, j < nsX p / 28 → segBad (nuX p / 32) (segAt p j) = none) ∧
    parseX p = ⟨unitsX p (nuX p / 32), segsX p (nsX p / 28), sn0, true⟩ := by
  unfold parseX at h ⊢
  rw [if_neg hne] at h ⊢
  cases hh : headX p with
  | some s => rw [hh] at h; cases h
  | none =>
    rw [hh] at h
    simp only at h ⊢
    cases hu : (List.range (nuX p / 32)).findSome? (uFault p) with
    | some f => rw [hu] at h; cases h
    | none =>
      rw [hu] at h
      simp only at h ⊢
      cases hs : (List.range (nsX p / 28)).findSome? (sFault p) with
      | some f => rw [hs] at h; cases h
      | none =>
        rw [List.findSome?_eq_none_iff] at hu hs
        refine ⟨head_none hh, fun j hj => ?_, fun j hj => ?_, rfl⟩
        · have := hu j (List.mem_range.2 hj)
          unfold uFault at this
          simpa using this
        · have := hs j (List.mem_range.2 hj)
          unfold sFault at this
          simpa using this
theorem unit_is {d : L8} (hl : d.length = 32) (h : unitBad d = none) : uOk (unitNm d) ∧ d = unitB (unitNm d) := by
  unfold unitBad at h
  split at h
  · cases h
  rename_i hf
  split at h
  · cases h
  rename_i h28
  split at h
  · cases h
  rename_i h29
  have h28 : d.getD 28 0 = 0 := by simpa using h28
  have h29 : num (sub d 29 3) = 16 := by simpa using h29
  obtain ⟨k, hk⟩ := trimR_pad (sub d 8 20)
  have hlast := trimR_last (sub d 8 20)
  have hl20 : (sub d 8 20).length = 20 := sub_len (by omega)
  have hkl : (trimR (sub d 8 20)).length + k = 20 := by
    have := congrArg List.length hk
    rw [List.length_append, List.length_replicate, hl20] at this
    omega
  refine ⟨⟨by show (trimR (sub d 8 20)).length ≤ 20; omega, hlast⟩, ?_⟩
  have e1 : d = sub d 0 8 ++ sub d 8 20 ++ sub d 28 4 := by
    rw [← sub_split d 0 8 20, ← sub_split d 0 28 4, sub_all hl]
  have e2 : sub d 0 8 = frontX := by
    apply List.ext_getElem?
    intro i
    rcases Nat.lt_or_ge i 8 with hi | hi
    · rw [List.find?_eq_none] at hf
      have := hf i (List.mem_range.2 hi)
      have : d.getD i 0 = frontX.getD i 0 := by simpa using this
      rw [List.getD_eq_getElem?_getD, List.getD_eq_getElem?_getD, List.getElem?_eq_getElem (show i < d.length by omega), List.getElem?_eq_getElem (show i < frontX.length from hi)] at this
      unfold sub
      rw [List.drop_zero, List.getElem?_take, if_pos hi, List.getElem?_eq_getElem (show i < d.length by omega), List.getElem?_eq_getElem (show i < frontX.length from hi)]
      exact congrArg some this
    · rw [List.getElem?_eq_none (by rw [sub_len (by omega)]; exact hi), List.getElem?_eq_none (by exact hi)]
  have e3 : sub d 28 4 = [0, 0, 0, 16] := by
    rw [sub_split d 28 1 3]
    have a : sub d 28 1 = [0] := by
      unfold sub
      rw [List.getD_eq_getElem?_getD, List.getElem?_eq_getElem (show 28 < d.length by omega)] at h28
      have h28 : d[28] = 0 := h28
      rw [List.drop_eq_getElem_cons (show 28 < d.length by omega), h28]; rfl
    rw [a, num_is (n := 3) (sub_len (by omega)) (by decide) h29]
    rfl
  conv => lhs; rw [e1, e2, e3, hk]
  unfold unitB unitNm
  rw [show 20 - (trimR (sub d 8 20)).length = k by omega]
  simp
theorem seg_is {nu : Nat} {d : L8} (hl : d.length = 28) (h : segBad nu d = none) : sOk nu (segOf d) ∧ d = segB (segOf d) ∧ (segOf d).src < 18446744073709551616 ∧ (segOf d).dst < 18446744073709551616 := by
  unfold segBad at h
  split at h
  · cases h
  split at h
  · cases h
  split at h
  · cases h
  split at h
  · cases h
  split at h
  · cases h
  rename_i a b c e f
  have a : num (sub d 0 4) = 0x02000018 := by simpa using a
  have b : num (sub d 8 2) = 0 := by simpa using b
  have l4 : ∀ {i n : Nat}, i + n ≤ 28 → (sub d i n).length = n := fun h => sub_len (by omega)
  have lt : ∀ {i n : Nat}, i + n ≤ 28 → num (sub d i n) < 256 ^ n := fun {i n} h => by have := num_lt (sub d i n); rwa [l4 h] at this
  have t2 := lt (i := 4) (n := 2) (by decide)
  have t3 := lt (i := 6) (n := 2) (by decide)
  have t5 := lt (i := 12) (n := 8) (by decide)
  have t6 := lt (i := 20) (n := 8) (by decide)
  refine ⟨⟨by show (0 : Int) ≤ (num (sub d 4 2) : Int); omega, by show (num (sub d 4 2) : Int) < nu; omega, by show (0 : Int) ≤ (num (sub d 6 2) : Int); omega, by show (num (sub d 6 2) : Int) < nu; omega, by show (0 : Int) ≤ (num (sub d 10 2) : Int); omega,
    by show (num (sub d 10 2) : Int) ≤ 256; omega⟩, ?_, t5, t6⟩
  have e : d = sub d 0 4 ++ sub d 4 2 ++ sub d 6 2 ++ sub d 8 2 ++ sub d 10 2 ++ sub d 12 8 ++ sub d 20 8 := by
    rw [← sub_split d 0 4 2, ← sub_split d 0 6 2, ← sub_split d 0 8 2, ← sub_split d 0 10 2, ← sub_split d 0 12 8, ← sub_split d 0 20 8, sub_all hl]
  have back : ∀ {i n : Nat} (h : i + n ≤ 28), beN n (num (sub d i n)) = sub d i n := fun h => (num_is (l4 h) (lt h) rfl).symm
  have e0 : sub d 0 4 = [2, 0, 0, 0x18] := (num_is (n := 4) (l4 (by decide)) (by decide) a).trans rfl
  have e8 : sub d 8 2 = [0, 0] := (num_is (n := 2) (l4 (by decide)) (by decide) b).trans rfl
  conv => lhs; rw [e, e0, e8]
  unfold segB segOf
  simp only [Int.toNat_natCast]
  rw [back (by decide), back (by decide), back (by decide), back (by decide), back (by decide)]
theorem flat_chunks {f : Nat → L8} (p : L8) (a z : Nat) (hf : ∀ j, f j = sub p (a + z * j) z) : ∀ n, (List.range n).flatMap f = sub p a (z * n)
  | 0 => by simp [sub]
  | n + 1 => by
    rw [List.range_succ, List.flatMap_append, flat_chunks p a z hf n, Nat.mul_succ, sub_split, List.flatMap_singleton, hf]
/-- what is read well tells the parameters again -/
theorem all_parse {p : L8} (hne : p ≠ []) (h : (parseX p).ok = true) : p = allX (parseX p).us (parseX p).ss := by
  obtain ⟨hh, hu, hs, he⟩ := parse_ok hne h
  rw [he]
  have hn1 : nuX p = 32 * (nuX p / 32) := by have := hh.u; omega
  have hn2 : nsX p = 28 * (nsX p / 28) := by have := hh.s; omega
  have hall := hh.all
  have hfew := hh.few
  have hlen := hh.len
  generalize hU : nuX p / 32 = U at *
  generalize hS : nsX p / 28 = T at *
  unfold allX
  rw [unitsX_len, segsX_len]
  have lt16 : ∀ {i n : Nat}, i + n ≤ 16 → (sub p i n).length = n := fun h => sub_len (by omega)
  have e16 : sub p 0 16 = hdrX U T := by
    have e : sub p 0 16 = sub p 0 2 ++ sub p 2 2 ++ sub p 4 4 ++ sub p 8 4 ++ sub p 12 4 := by
      rw [← sub_split p 0 2 2, ← sub_split p 0 4 4, ← sub_split p 0 8 4, ← sub_split p 0 12 4]
    rw [e, num_is (n := 2) (lt16 (by decide)) (by decide) hh.z0, num_is (n := 4) (lt16 (by decide)) (by decide) hh.z4, num_is (n := 4) (lt16 (by decide)) (by decide) hh.z12,
      num_is (n := 2) (l := sub p 2 2) (v := 32 * U) (lt16 (by decide)) (by omega) hn1, num_is (n := 4) (l := sub p 8 4) (v := 28 * T) (lt16 (by decide)) (by omega) hn2]
    rfl
  have eU : (unitsX p U).flatMap unitB = sub p 16 (32 * U) := by
    have key : ∀ n, n ≤ U → (unitsX p n).flatMap unitB = (List.range n).flatMap (unitAt p) := by
      intro n
      induction n with
      | zero => intro _; rfl
      | succ n ih =>
        intro hn
        have hd := (unit_is (d := unitAt p n) (sub_len (by omega)) (hu n (by omega))).2
        rw [unitsX_succ, List.flatMap_append, ih (by omega), List.range_succ, List.flatMap_append]
        simp only [List.flatMap_cons, List.flatMap_nil, List.append_nil]
        rw [← hd]
    rw [key U (Nat.le_refl _), flat_chunks (f := unitAt p) p 16 32 fun j => rfl]
  have eS : (segsX p T).flatMap segB = sub p (16 + 32 * U) (28 * T) := by
    have key : ∀ n, n ≤ T → (segsX p n).flatMap segB = (List.range n).flatMap (segAt p) := by
      intro n
      induction n with
      | zero => intro _; rfl
      | succ n ih =>
        intro hn
        have hd := (seg_is (d := segAt p n) (sub_len (by omega)) (hs n (by omega))).2.1
        rw [segsX_succ, List.flatMap_append, ih (by omega), List.range_succ, List.flatMap_append]
        simp only [List.flatMap_cons, List.flatMap_nil, List.append_nil]
        rw [← hd]
    rw [key T (Nat.le_refl _), flat_chunks (f := segAt p) p (16 + 32 * U) 28 fun j => by unfold segAt; rw [hn1]]
  show p = _
  have e1 : sub p 0 16 ++ sub p 16 (32 * U) = sub p 0 (16 + 32 * U) := by rw [sub_split p 0 16]
  have e2 : sub p 0 (16 + 32 * U) ++ sub p (16 + 32 * U) (28 * T) = sub p 0 (16 + 32 * U + 28 * T) := by rw [sub_split p 0 (16 + 32 * U), Nat.zero_add]
  rw [eU, eS, ← e16, e1, e2, sub_all (by omega)]
/-! ### a byte turned -/
theorem sub_set {p : L8} {i a n : Nat} {y : UInt8} (h : i < a ∨ a + n ≤ i) : sub (p.set i y) a n = sub p a n := by
  unfold sub
  rw [List.drop_set]
  split
  · rfl
  · rw [List.take_set, List.set_eq_of_length_le (by rw [List.length_take]; omega)]
theorem sub_take {p : L8} {k a n : Nat} (h : a + n ≤ k) : sub (p.take k) a n = sub p a n := by
  unfold sub
  rw [List.drop_take, List.take_take, Nat.min_eq_left (by omega)]
theorem spoils_x {us : List L8} {ss : List SegX} {i : Nat} {y : UInt8} (hu : us.length ≤ 8) (hs : ss.length ≤ 8) (hU : ∀ s ∈ us, uOk s) (hi : i < (allX us ss).length) (hy : y ≠ (allX us ss)[i]) :
    ¬ ((parseX ((allX us ss).set i y)).ok = true ∧ (parseX ((allX us ss).set i y)).us = us ∧ (parseX ((allX us ss).set i y)).ss = ss) ∧
    ((parseX ((allX us ss).take i)).ok = true → i = 0) ∧ (parseX ((allX us ss).set i y ++ [0])).ok = false := by
  have hl := allX_len (ss := ss) hU
  have n1 := nuX_all (us := us) (ss := ss) hu
  have n2 := nsX_all (us := us) (ss := ss) hs
  generalize hp : allX us ss = p at *
  refine ⟨fun ⟨h1, h2, h3⟩ => ?_, fun h => ?_, ?_⟩
  · have := all_parse (p := p.set i y) (fun q => by have := congrArg List.length q; rw [List.length_set] at this; simp at this; rw [this] at hl; simp at hl; omega) h1
    rw [h2, h3, hp] at this
    have q1 : (p.set i y)[i]? = some y := List.getElem?_set_self hi
    rw [this, List.getElem?_eq_getElem hi] at q1
    exact hy (Option.some.inj q1).symm
  · rcases Nat.eq_zero_or_pos i with e | e
    · exact e
    · exfalso
      have hne : p.take i ≠ [] := fun q => by have := congrArg List.length q; rw [List.length_take, List.length_nil] at this; omega
      have hh := (parse_ok hne h).1
      have h16 := hh.len
      rw [List.length_take] at h16
      have e1 : nuX (p.take i) = nuX p := by unfold nuX; rw [sub_take (by omega)]
      have e2 : nsX (p.take i) = nsX p := by unfold nsX; rw [sub_take (by omega)]
      have := hh.all
      rw [e1, e2, List.length_take] at this
      omega
  · cases hx : (parseX (p.set i y ++ [0])).ok with
    | false => rfl
    | true =>
      exfalso
      have hh := (parse_ok (by simp) hx).1
      have ha := hh.all
      rw [List.length_append, List.length_set] at ha
      have hu2 := hh.u
      have hs2 := hh.s
      have hl1 : ([0] : L8).length = 1 := rfl
      have e1 : nuX (p.set i y ++ [0]) = num (sub (p.set i y) 2 2) := by unfold nuX; rw [sub_left (by rw [List.length_set]; omega)]
      have e2 : nsX (p.set i y ++ [0]) = num (sub (p.set i y) 8 4) := by unfold nsX; rw [sub_left (by rw [List.length_set]; omega)]
      by_cases q : 2 ≤ i ∧ i < 4
      · have : num (sub (p.set i y) 8 4) = nsX p := by rw [sub_set (by omega)]; rfl
        omega
      · have : num (sub (p.set i y) 2 2) = nuX p := by rw [sub_set (by omega)]; rfl
        omega
end Go.Proofs.YtaneeadpjelomaaDoor

/- Layer 15: Parse, as the reference has it. -/
namespace Go.Proofs.YtaneeadpjelomaaDoor
open Go CF

theorem sub_sub {l : L8} {a n i m : Nat} (h : i + m ≤ n) : sub (sub l a n) i m = sub l (a + i) m := by
  unfold sub
  rw [List.drop_take, List.take_take, List.drop_drop, Nat.min_eq_left (by omega)]
theorem sub_getD {l : L8} {a n i : Nat} (h : i < n) : (sub l a n).getD i 0 = l.getD (a + i) 0 := by
  unfold sub
  rw [List.getD_eq_getElem?_getD, List.getElem?_take, if_pos h, List.getElem?_drop, List.getD_eq_getElem?_getD]
theorem rseg_lit (w : World) (x : SegX) : (Instr.buildSlice t_sl_palletref15_Seg 1 #[(0, .agg (sgv x).toArray)]).run Tryd.prog w = .ok (.slice (some ⟨w.heap.size, 0, none⟩) 1 1) (w.alloc (.cells (sgv x).toArray t_palletref15_Seg)) := by kernel_rfl
theorem rsegLoad {w : World} {a : Addr} {x : SegX} (h : Cells w a (sgv x)) : (loadVar t_palletref15_Seg a).run Tryd.prog w = .ok (.agg (sgv x).toArray) w := loadVar_rule g_palletref15_Seg i_palletref15_Seg rfl h
theorem rlLoad {w : World} {b : Nat} {U S : Sl} (h : Blk w b (lsv U S) t_palletref15_List) : (loadVar t_palletref15_List ⟨b, 0, none⟩).run Tryd.prog w = .ok (.agg (lsv U S)) w := loadVar_rule (cs := (lsv U S).toList) g_palletref15_List i_palletref15_List rfl (blk_cells h)
theorem rpret_rule {v : World} {ab sb : Nat} {old old' : Array Value} {U S : Sl} {s : Sn} {K : Array Value → Array Value → World → Prop} (ha : Blk v ab old t_palletref15_List) (hs : Blk v sb old' t_api_Sense) (h1 : old.size = 2) (h2 : old'.size = 8) (hne : ab ≠ sb)
    (h : ∀ v', Keep (fun k => k = ab ∨ k = sb) v v' → K (lsv U S) (snv s).toArray v') :
    RunU Tryd.prog (storeVar t_palletref15_List ⟨ab, 0, none⟩ (.agg (lsv U S))) v fun v1 => RunU Tryd.prog (storeVar t_api_Sense ⟨sb, 0, none⟩ (.agg (snv s).toArray)) v1 fun v2 =>
      ∃ res : Array Value, (loadVar t_palletref15_List ⟨ab, 0, none⟩).run Tryd.prog v2 = .ok (.agg res) v2 ∧ ∃ res1 : Array Value, (loadVar t_api_Sense ⟨sb, 0, none⟩).run Tryd.prog v2 = .ok (.agg res1) v2 ∧ K res res1 v2 := by
  refine storeVar_rule (cells := lsv U S) ha i_palletref15_List rfl h1 (by simp [lsv, Value.oneCell']) fun v1 hb1 hk1 _ => ?_
  refine storeVar_rule (cells := (snv s).toArray) (hk1.heap hs (fun q => hne q.symm)) i_api_Sense rfl h2 (snv_ones _) fun v2 hb2 hk2 _ => ?_
  exact ⟨_, rlLoad (hk2.heap hb1 hne), _, sLoad (blk_cells hb2), h v2 ((hk1.mono fun _ _ q => .inl q).trans hk2 fun _ _ q => .inr q)⟩
theorem rparse_spec {p : Sl} {l : L8} {w : World} {R : Array Value → Array Value → Bool → World → Prop} (hp : Rd w 1 p (bv l))
    (h : ∀ U S v, Grow w v → Own v w.heap.size t_string 1 U (strsV (parseX l).us) → Own v w.heap.size t_palletref15_Seg 5 S ((parseX l).ss.flatMap sgv) → R (lsv U S) (snv (parseX l).sn).toArray (parseX l).ok v) : Cpalletref15_Parse p w R := by
  refine Fpalletref15_Parse.calls _ _ _ ?_
  have hln := rd_n' hp
  have hcap := hp.cap
  have hnb := hp.nb
  refine new_rule fun ab w0 hab hb0 hg0 hsz0 => ?_
  refine new_rule fun sb w1 hsb hb1 hg1 hsz1 => ?_
  have ha1 := hg1.heap hb0 (fun q => q)
  have hgw1 := hg0.trans hg1
  have s0 := hg0.size
  have fin : ∀ {v : World} {U S : Sl} {s : Sn} {b : Bool}, Grow w1 v → (∀ v', Keep (fun k => k = ab ∨ k = sb) v v' → R (lsv U S) (snv s).toArray b v') → _ := fun {v U S s b} hv hR => rpret_rule (U := U) (S := S) (s := s) (K := fun r r1 => R r r1 b) (hv.heap ha1 (fun q => q)) (hv.heap hb1 (fun q => q)) rfl rfl (by omega) hR
  have gk : ∀ {v v' : World}, Grow w1 v → Keep (fun k => k = ab ∨ k = sb) v v' → Grow w v' := fun hv k => (hgw1.trans hv).keep k fun i hi q => by omega
  have no : ∀ {v : World} {s : Sn}, parseX l = noX s → Grow w1 v → ∀ v', Keep (fun k => k = ab ∨ k = sb) v v' → R (lsv nilS nilS) (snv s).toArray false v' := fun {v s} e hv v' k => by
    have := h nilS nilS v' (gk hv k)
    rw [e] at this
    exact this (own_nil _ _ _ _) (own_nil _ _ _ _)
  refine new_rule fun lb w2 hlb hb2 hg2 hsz2 => ?_
  refine storeVar_rule (cells := lsv nilS nilS) hb2 i_palletref15_List rfl rfl (by simp [lsv, Value.oneCell']) fun w3 hb3 hk3 hsz3 => ?_
  have hg3 : Grow w1 w3 := hg2.keep hk3 fun i hi q => by omega
  by_cases hl0 : l = []
  · refine br_t (by rw [beq_iff_eq, ← hln, hl0]; rfl) ⟨_, rlLoad hb3, fin (U := nilS) (S := nilS) (s := sn0) (b := true) hg3 fun v' k => ?_⟩
    have := h nilS nilS v' (gk hg3 k)
    have e : parseX l = ⟨[], [], sn0, true⟩ := if_pos hl0
    rw [e] at this
    exact this (own_nil _ _ _ _) (own_nil _ _ _ _)
  have hlp : 0 < l.length := by cases l with | nil => exact absurd rfl hl0 | cons => simp
  refine br_f (by rw [beq_eq_false_iff_ne]; omega) ?_
  have hpx : parseX l = match headX l with
      | some s => noX s
      | none => match (List.range (nuX l / 32)).findSome? (uFault l) with
        | some f => noX (badF f)
        | none => match (List.range (nsX l / 28)).findSome? (sFault l) with
          | some f => noX (badF f)
          | none => ⟨unitsX l (nuX l / 32), segsX l (nsX l / 28), sn0, true⟩ := if_neg hl0
  refine rhead_spec (hp.grow (hgw1.trans hg3)) (fun s e w4 hg4 => ?_) (fun hh w4 hg4 => ?_)
  · refine new_rule fun eb w5 heb hb5 hg5 hsz5 => ?_
    refine storeVar_rule (cells := (snv s).toArray) hb5 i_api_Sense rfl rfl (snv_ones _) fun w6 hb6 hk6 hsz6 => br_t rfl ?_
    rintro w7 rfl
    have hg46 : Grow w4 w6 := hg5.keep hk6 fun i hi q => by omega
    have hg7 : Grow w1 w6.drew := ((hg3.trans hg4).trans hg46).trans (keep_drew w6)
    have s1 := hg1.size
    have s3 := hg3.size
    have s4 := hg4.size
    have l3 := lt_of_heap hb3
    refine ⟨fun u => Blk u lb (lsv nilS nilS) t_palletref15_List ∧ Blk u eb (snv s).toArray t_api_Sense, ⟨((hg4.trans hg46).trans (keep_drew w6)).heap hb3 (fun q => q), (keep_drew w6).heap hb6 (fun q => q)⟩, _, fun u hu => rlLoad hu.1, _, fun u hu => sLoad (blk_cells hu.2), ?_⟩
    have hpr := fin (U := nilS) (S := nilS) (s := s) (b := false) hg7 (no (by rw [hpx, e]) hg7)
    refine storeVar_rule (cells := lsv nilS nilS) (hg7.heap ha1 (fun q => q)) i_palletref15_List rfl rfl (by simp [lsv, Value.oneCell']) fun w8 hb8 hk8 _ => ?_
    refine ⟨⟨hk8.heap (((hg4.trans hg46).trans (keep_drew w6)).heap hb3 (fun q => q)) (by omega), hk8.heap ((keep_drew w6).heap hb6 (fun q => q)) (by omega)⟩, ?_⟩
    refine storeVar_rule (cells := (snv s).toArray) (hk8.heap (hg7.heap hb1 (fun q => q)) (by omega)) i_api_Sense rfl rfl (snv_ones _) fun w9 hb9 hk9 _ => ?_
    exact ⟨_, rlLoad (hk9.heap hb8 (by omega)), _, sLoad (blk_cells hb9), no (by rw [hpx, e]) hg7 _ ((hk8.mono fun _ _ q => .inl q).trans hk9 fun _ _ q => .inr q)⟩
  rw [hh] at hpx
  have H := head_none hh
  have hall := H.all
  have hfew := H.few
  have h16 := H.len
  have h32 := H.u
  have h28 := H.s
  refine new_rule fun eb w5 heb hb5 hg5 hsz5 => ?_
  refine storeVar_rule (cells := (snv sn0).toArray) hb5 i_api_Sense rfl rfl (snv_ones _) fun w6 hb6 hk6 hsz6 => br_f rfl ?_
  have hg46 : Grow w4 w6 := hg5.keep hk6 fun i hi q => by omega
  have hg16 := (hg3.trans hg4).trans hg46
  refine ref_num_spec (at_ := 2) (n := 2) (hp.grow (hgw1.trans hg16)) (by decide) (by decide) (by omega) ?_
  have hnu : num ((l.drop 2).take 2) = nuX l := rfl
  rw [hnu]
  have emid : IntKind.wrap .i64 (16 + IntKind.wrap .i64 (nuX l : Int)) = ((16 + nuX l : Nat) : Int) := by rw [w64 (n := (nuX l : Int)) (by omega) (by omega), w64 (by omega) (by omega)]; omega
  rw [emid]
  refine lit_rule (cells := (bv frontX).toArray) (e := t_uint8) (z := 1) (base := 0) (front_lit w6) rfl (by decide) (Nat.zero_le _) fun wF hlitF hgF hszF => ?_
  have hxF : Rd wF 1 ⟨some ⟨w6.heap.size, 0, none⟩, 8, 8⟩ (bv frontX) := hlitF.rd (by show 8 ≤ _; omega)
  have hg1F := hg16.trans hgF
  have hbF : Blk wF lb (lsv nilS nilS) t_palletref15_List := ((hg4.trans hg46).trans hgF).heap hb3 (fun q => q)
  have llb : lb < w6.heap.size := by have := (hg4.trans hg46).size; have := lt_of_heap hb3; omega
  have lw1 := hg1.size
  have g1 : ∀ {x : World}, Keep (fun k => k = lb) wF x → Grow w1 x := fun k => hg1F.keep k fun i hi q => by omega
  refine ⟨fun at_ x => ∃ (k : Nat) (U : Sl), at_ = ((16 + 32 * k : Nat) : Int) ∧ k ≤ nuX l / 32 ∧ (∀ j, j < k → uFault l j = none) ∧ Keep (fun k => k = lb) wF x ∧ Blk x lb (lsv U nilS) t_palletref15_List ∧ Own x wF.heap.size t_string 1 U (strsV (unitsX l k)), fun at_ _ => l.length - at_.toNat,
    ⟨0, nilS, rfl, Nat.zero_le _, fun _ q => absurd q (Nat.not_lt_zero _), Keep.refl _ _, hbF, own_nil _ _ _ _⟩, ?_⟩
  rintro at_ x ⟨k, U, rfl, hk, hfk, hKx, hbx, hUx⟩
  have hg1x := g1 hKx
  have hpx1 := hp.grow (hgw1.trans hg1x)
  have hUn : U.n = k := by have := hUx.len; simp [strsV, unitsX_len] at this; omega
  refine br_nat (fun hlt => ?_) (fun hge => ?_)
  · have hkn : k < nuX l / 32 := by omega
    have hql : (unitAt l k).length = 32 := sub_len (by omega)
    have hgd : ∀ i, i < 32 → (unitAt l k).getD i 0 = l.getD (16 + 32 * k + i) 0 := fun i hi => sub_getD hi
    have h29 : num ((l.drop (16 + 32 * k + 29)).take 3) = num (sub (unitAt l k) 29 3) := by unfold unitAt; rw [sub_sub (by decide)]; rfl
    have h820 : (l.drop (16 + 32 * k + 8)).take 20 = sub (unitAt l k) 8 20 := by unfold unitAt; rw [sub_sub (by decide)]; rfl
    have ewr : ∀ f : Nat, f ≤ 64 → IntKind.wrap .i64 (((16 + 32 * k : Nat) : Int) + (f : Int)) = ((16 + 32 * k + f : Nat) : Int) := fun f hf => by rw [w64 (by omega) (by omega)]; omega
    have failU : ∀ {f : Nat} {v : World}, f ≤ 64 → unitBad (unitAt l k) = some f → Grow w1 v → Cpalletref15_fault (IntKind.wrap .i64 (((16 + 32 * k : Nat) : Int) + (f : Int))) v (fun g v => RunU Tryd.prog (storeVar t_palletref15_List ⟨ab, 0, none⟩ (.agg (lsv nilS nilS))) v fun v1 => RunU Tryd.prog (storeVar t_api_Sense ⟨sb, 0, none⟩ (.agg g)) v1 fun v2 =>
      ∃ res : Array Value, (loadVar t_palletref15_List ⟨ab, 0, none⟩).run Tryd.prog v2 = .ok (.agg res) v2 ∧ ∃ res1 : Array Value, (loadVar t_api_Sense ⟨sb, 0, none⟩).run Tryd.prog v2 = .ok (.agg res1) v2 ∧ R res res1 false v2) := fun {f v} hf64 hf hv => by
      have eu : uFault l k = some (16 + 32 * k + f) := by unfold uFault; rw [hf]; rfl
      have ep : parseX l = noX (badF (16 + 32 * k + f)) := by rw [hpx, findSome_range hkn hfk eu]
      rw [ewr f hf64]
      exact fault_spec fun v2 hv2 => fin (U := nilS) (S := nilS) (s := badF (16 + 32 * k + f)) (b := false) (hv.trans hv2) (no ep (hv.trans hv2))
    have hxx : ∀ {y : World}, Grow x y → Rd y 1 ⟨some ⟨w6.heap.size, 0, none⟩, 8, 8⟩ (bv frontX) := fun hy => (hxF.keep hKx fun a ha _ q => by simp only [Option.some.injEq] at ha; subst ha; simp at q; omega).grow hy
    refine ⟨fun i y => ∃ j : Nat, i = j ∧ j ≤ 8 ∧ Grow x y ∧ ∀ i, i < j → (unitAt l k).getD i 0 = frontX.getD i 0, fun i _ => 8 - i.toNat, ⟨0, rfl, Nat.zero_le _, Keep.refl _ _, fun _ q => absurd q (Nat.not_lt_zero _)⟩, ?_⟩
    rintro i y ⟨j, rfl, hj, hgy, hfr⟩
    refine br_nat (y := 8) (fun hj8 => ?_) (fun hj8 => ?_)
    · rintro y1 rfl
      have hgy1 : Grow x y.drew := hgy.trans (keep_drew y)
      obtain ⟨a1, c1⟩ := rd_at (hpx1.grow hgy1) (i := 16 + 32 * k + j) (by omega)
      obtain ⟨a2, c2⟩ := rd_at (hxx hgy1) (i := j) hj8
      rw [ewr j (by omega)]
      refine ⟨fun u => u = y.drew, rfl, ⟨by omega, by omega, a1⟩, ((l.getD (16 + 32 * k + j) 0).toNat : Int), fun u hu => by rw [Int.toNat_natCast, hu]; exact c1, ⟨by omega, by show (j : Int) < 8; omega, a2⟩, ((frontX.getD j 0).toNat : Int), fun u hu => by rw [Int.toNat_natCast, hu]; exact c2, ?_⟩
      rw [← hgd j (by omega)]
      refine br_ne (fun e => ?_) (fun e => ?_)
      · have hub : unitBad (unitAt l k) = some j := by
          have : (List.range 8).find? (fun i => decide ((unitAt l k).getD i 0 ≠ frontX.getD i 0)) = some j := find_range_some hj8 (fun i hi => decide_eq_false (fun q => q (hfr i hi))) (decide_eq_true (fun q => e (by rw [q])))
          unfold unitBad; rw [this]
        have := failU (f := j) (v := y.drew) (by omega) hub (hg1x.trans hgy1)
        rw [ewr j (by omega)] at this
        exact this
      · rw [w64 (by omega) (by omega)]
        refine ⟨⟨j + 1, by omega, by omega, hgy1, fun i hi => ?_⟩, by dsimp only; omega⟩
        by_cases q : i = j
        · rw [q]; exact UInt8.toNat_inj.1 (by omega)
        · exact hfr i (by omega)
    · have hnone : (List.range 8).find? (fun i => decide ((unitAt l k).getD i 0 ≠ frontX.getD i 0)) = none := find_range_none fun i hi => decide_eq_false (fun q => q (hfr i (by omega)))
      have hub : unitBad (unitAt l k) = if (unitAt l k).getD 28 0 ≠ 0 then some 28 else if num (sub (unitAt l k) 29 3) ≠ 16 then some 29 else none := by unfold unitBad; rw [hnone]
      have hg1y := hg1x.trans hgy
      obtain ⟨a1, c1⟩ := rd_at (hpx1.grow hgy) (i := 16 + 32 * k + 28) (by omega)
      have f28 := failU (f := 28) (v := y) (by decide)
      have f29 := fun {v : World} => failU (f := 29) (v := v) (by decide)
      have e28 := ewr 28 (by decide)
      have e29 := ewr 29 (by decide)
      have e8 := ewr 8 (by decide)
      have e32 := ewr 32 (by decide)
      simp only [show ((28 : Nat) : Int) = 28 from rfl, show ((29 : Nat) : Int) = 29 from rfl, show ((8 : Nat) : Int) = 8 from rfl, show ((32 : Nat) : Int) = 32 from rfl] at f28 f29 e28 e29 e8 e32
      rw [e28] at f28 ⊢
      rw [e29, e8, e32]
      rw [e29] at f29
      refine ⟨⟨by omega, by omega, a1⟩, ((l.getD (16 + 32 * k + 28) 0).toNat : Int), by rw [Int.toNat_natCast]; exact c1, ?_⟩
      rw [← hgd 28 (by decide)]
      by_cases q : (unitAt l k).getD 28 0 = 0
      case neg =>
        refine br_t ?_ (f28 (by rw [hub, if_pos q]) hg1y)
        rw [bne_iff_ne]
        intro e
        exact q (UInt8.toNat_inj.1 (by show ((unitAt l k).getD 28 0).toNat = 0; omega))
      rw [if_neg (fun r => r q)] at hub
      refine br_f (by rw [q]; rfl) ?_
      refine ref_num_spec (at_ := 16 + 32 * k + 29) (n := 3) (hpx1.grow hgy) (by decide) (by decide) (by omega) ?_
      rw [h29]
      by_cases q2 : num (sub (unitAt l k) 29 3) = 16
      case neg => exact br_t (by rw [bne_iff_ne]; omega) (f29 (by rw [hub, if_pos q2]) hg1y)
      rw [if_neg (fun r => r q2)] at hub
      refine br_f (by rw [q2]; rfl) ?_
      rintro y1 rfl
      have hgy1 : Grow x y.drew := hgy.trans (keep_drew y)
      have S0 : ∀ {u : World}, Grow x u → u.cell? ((⟨lb, 0, none⟩ : Addr).add 0) = some (.slice U.A U.n U.c) := fun hu => by rw [add0, Blk.cell (hu.heap hbx (fun q => q))]; rfl
      refine ⟨fun u => Grow x u, hgy1, U, fun u hu => S0 hu, ⟨by omega, by omega, by omega, hcap⟩, ?_⟩
      simp only [Int.toNat_natCast]
      have hcut := (hpx1.grow hgy1).cutB (l := 16 + 32 * k + 8) (k := 16 + 32 * k + 28) (by omega) (by omega)
      have e20 : (16 + 32 * k + 28) - (16 + 32 * k + 8) = 20 := by omega
      rw [e20] at hcut ⊢
      rw [h820] at hcut
      refine rtrim_spec hcut (by rw [sub_len (by omega)]; decide) ⟨hgy1, ?_⟩
      refine lit_rule (cells := #[.string (str (unitNm (unitAt l k)))]) (e := t_string) (z := 1) (base := 0) (str_lit _ _) rfl (by decide) (Nat.zero_le _) fun y2 hlit2 hg2' _ => ?_
      have hgy2 := hgy1.trans hg2'
      refine ⟨hgy2, ?_⟩
      refine append_rule u_sl_string i_string rfl (by decide) (by decide) (hUx.grow hgy2) (hlit2.rd (by show 1 ≤ _; decide)) (by simp [Value.oneCell']) (by show (U.n + 1) * 16 ≤ _; omega) (by have := hKx.size; have := hgy2.size; omega) fun U1 y3 hn3 hown3 hk3 _ => ?_
      have hUb : ∀ b, U.blk = some b → b ≠ lb := fun b hb e => by have := (hUx.ge b hb).1; omega
      have hU1b : ∀ b, U1.blk = some b → b ≠ lb := fun b hb e => by have := (hown3.ge b hb).1; omega
      have hb3' : Blk y3 lb (lsv U nilS) t_palletref15_List := hk3.heap (hgy2.heap hbx (fun e => e)) fun e => hUb lb e.symm rfl
      have hK3 : Keep (fun k => k = lb) wF y3 := (hKx.grow hgy2).trans hk3 fun i hi q => by have := (hUx.ge i q.symm).1; omega
      rw [add0]
      refine put_rule hb3' (by show 0 < 2; decide) rfl fun y4 hb4 hk4 _ => ?_
      have hb4 : Blk y4 lb (lsv U1 nilS) t_palletref15_List := hb4
      refine ⟨⟨k + 1, U1, by omega, by omega, fun i hi => ?_, hK3.trans hk4 fun _ _ q => q, hb4, ?_⟩, by omega⟩
      · by_cases e : i = k
        · rw [e]; unfold uFault; rw [hub]; rfl
        · exact hfk i (by omega)
      · rw [unitsX_succ]
        have e5 : strsV (unitsX l k ++ [unitNm (unitAt l k)]) = strsV (unitsX l k) ++ #[Value.string (str (unitNm (unitAt l k)))].toList := by simp [strsV]
        rw [e5]
        exact hown3.keep hk4 fun b hb e => hU1b b hb e
  · have hkn : k = nuX l / 32 := by omega
    subst hkn
    have hnoU : (List.range (nuX l / 32)).findSome? (uFault l) = none := findSome_none fun i hi => hfk i (by omega)
    have hpn2 : parseX l = match (List.range (nsX l / 28)).findSome? (sFault l) with
        | some f => noX (badF f)
        | none => ⟨unitsX l (nuX l / 32), segsX l (nsX l / 28), sn0, true⟩ := by rw [hpx, hnoU]
    refine ⟨fun at_ z => ∃ (k : Nat) (S : Sl), at_ = ((16 + nuX l + 28 * k : Nat) : Int) ∧ k ≤ nsX l / 28 ∧ (∀ j, j < k → sFault l j = none) ∧ Keep (fun k => k = lb) wF z ∧ Blk z lb (lsv U S) t_palletref15_List ∧ Own z wF.heap.size t_string 1 U (strsV (unitsX l (nuX l / 32))) ∧ Own z wF.heap.size t_palletref15_Seg 5 S ((segsX l k).flatMap sgv), fun at_ _ => l.length - at_.toNat,
      ⟨0, nilS, rfl, Nat.zero_le _, fun _ q => absurd q (Nat.not_lt_zero _), hKx, hbx, hUx, own_nil _ _ _ _⟩, ?_⟩
    rintro at_ z ⟨k, S, rfl, hk, hfk, hKz, hbz, hoz, hSz⟩
    have hSn : S.n = k := by have := hSz.len; rw [flat_len5, segsX_len] at this; omega
    have hgz := g1 hKz
    have hpz := hp.grow (hgw1.trans hgz)
    refine br_nat (fun hlt => ?_) (fun hge => ?_)
    · have hkn : k < nsX l / 28 := by omega
      refine letX0 (fun y => ∃ S : Sl, Keep (fun k => k = lb) wF y ∧ sFault l k = none ∧ Blk y lb (lsv U S) t_palletref15_List ∧ Own y wF.heap.size t_string 1 U (strsV (unitsX l (nuX l / 32))) ∧ Own y wF.heap.size t_palletref15_Seg 5 S ((segsX l (k + 1)).flatMap sgv)) ?_ (fun J => ?_)
      · rintro y ⟨S', h1, h2, h3, h4, h5⟩
        rw [w64 (by omega) (by omega)]
        refine ⟨⟨k + 1, S', by omega, by omega, fun i hi => ?_, h1, h3, h4, h5⟩, by dsimp only; omega⟩
        by_cases e : i = k
        · rw [e]; exact h2
        · exact hfk i (by omega)
      have hql : (segAt l k).length = 28 := sub_len (by omega)
      have hsb : segBad (nuX l / 32) (segAt l k) = if num (sub (segAt l k) 0 4) ≠ 0x02000018 then some 0 else if num (sub (segAt l k) 8 2) ≠ 0 then some 8 else if nuX l / 32 ≤ num (sub (segAt l k) 4 2) then some 4 else if nuX l / 32 ≤ num (sub (segAt l k) 6 2) then some 6
        else if 256 < num (sub (segAt l k) 10 2) then some 10 else none := rfl
      have hso : segOf (segAt l k) = ⟨(num (sub (segAt l k) 4 2) : Int), (num (sub (segAt l k) 6 2) : Int), (num (sub (segAt l k) 10 2) : Int), num (sub (segAt l k) 12 8), num (sub (segAt l k) 20 8)⟩ := rfl
      have hsub : ∀ i m, i + m ≤ 28 → (l.drop (16 + nuX l + 28 * k + i)).take m = sub (segAt l k) i m := fun i m him => by unfold segAt; rw [sub_sub him]; rfl
      have ewr : ∀ f : Nat, f ≤ 64 → IntKind.wrap .i64 (((16 + nuX l + 28 * k : Nat) : Int) + (f : Int)) = ((16 + nuX l + 28 * k + f : Nat) : Int) := fun f hf => by rw [w64 (by omega) (by omega)]; omega
      have e4 := ewr 4 (by decide)
      have e6 := ewr 6 (by decide)
      have e8 := ewr 8 (by decide)
      have e10 := ewr 10 (by decide)
      have e12 := ewr 12 (by decide)
      have e20 := ewr 20 (by decide)
      simp only [show ((4 : Nat) : Int) = 4 from rfl, show ((6 : Nat) : Int) = 6 from rfl, show ((8 : Nat) : Int) = 8 from rfl, show ((10 : Nat) : Int) = 10 from rfl, show ((12 : Nat) : Int) = 12 from rfl, show ((20 : Nat) : Int) = 20 from rfl] at e4 e6 e8 e10 e12 e20
      rw [e4, e6, e8, e10, e12, e20]
      have lt2 : ∀ i, i + 2 ≤ 28 → num (sub (segAt l k) i 2) < 65536 := fun i hi => by have := num_lt (sub (segAt l k) i 2); rwa [sub_len (by omega)] at this
      have t4 := lt2 4 (by decide)
      have t6 := lt2 6 (by decide)
      have t10 := lt2 10 (by decide)
      refine ref_num_spec (at_ := 16 + nuX l + 28 * k + 4) (n := 2) hpz (by decide) (by decide) (by omega) ?_
      refine ref_num_spec (at_ := 16 + nuX l + 28 * k + 6) (n := 2) hpz (by decide) (by decide) (by omega) ?_
      refine ref_num_spec (at_ := 16 + nuX l + 28 * k + 10) (n := 2) hpz (by decide) (by decide) (by omega) ?_
      refine ref_num_spec (at_ := 16 + nuX l + 28 * k + 12) (n := 8) hpz (by decide) (by decide) (by omega) ?_
      refine ref_num_spec (at_ := 16 + nuX l + 28 * k + 20) (n := 8) hpz (by decide) (by decide) (by omega) ?_
      rw [hsub 4 2 (by decide), hsub 6 2 (by decide), hsub 10 2 (by decide), hsub 12 8 (by decide), hsub 20 8 (by decide)]
      refine new_rule fun xb z1 hxb hbx1 hgz1 hszz1 => ?_
      rw [w64 (n := (num (sub (segAt l k) 4 2) : Int)) (by omega) (by omega), w64 (n := (num (sub (segAt l k) 6 2) : Int)) (by omega) (by omega), w64 (n := (num (sub (segAt l k) 10 2) : Int)) (by omega) (by omega)]
      refine storeVar_rule (cells := (sgv (segOf (segAt l k))).toArray) hbx1 i_palletref15_Seg rfl rfl (by simp [sgv, Value.oneCell']) fun z2 hbx2 hkz2 _ => ?_
      have hg2' : Grow z z2 := hgz1.keep hkz2 fun i hi e => by omega
      have hbl2 := hg2'.heap hbz (fun e => e)
      refine letX1 (fun (bad : Int) y => y = z2 ∧ bad = match segBad (nuX l / 32) (segAt l k) with | some f => (f : Int) | none => -1) ?_ (fun J1 => ?_)
      · rintro bad y ⟨rfl, rfl⟩
        cases hsq : segBad (nuX l / 32) (segAt l k) with
        | some f =>
          have hf10 : f ≤ 10 := by
            rw [hsb] at hsq
            split at hsq
            · cases hsq; decide
            split at hsq
            · cases hsq; decide
            split at hsq
            · cases hsq; decide
            split at hsq
            · cases hsq; decide
            split at hsq
            · cases hsq; decide
            · cases hsq
          refine br_t (by rw [decide_eq_true_eq]; dsimp only; omega) ?_
          have eu : sFault l k = some (16 + nuX l + 28 * k + f) := by unfold sFault; rw [hsq]; rfl
          have ep : parseX l = noX (badF (16 + nuX l + 28 * k + f)) := by rw [hpn2, findSome_range hkn hfk eu]
          have := fault_spec (f := 16 + nuX l + 28 * k + f) (w := y) (R := fun g v => RunU Tryd.prog (storeVar t_palletref15_List ⟨ab, 0, none⟩ (.agg (lsv nilS nilS))) v fun v1 => RunU Tryd.prog (storeVar t_api_Sense ⟨sb, 0, none⟩ (.agg g)) v1 fun v2 =>
            ∃ res : Array Value, (loadVar t_palletref15_List ⟨ab, 0, none⟩).run Tryd.prog v2 = .ok (.agg res) v2 ∧ ∃ res1 : Array Value, (loadVar t_api_Sense ⟨sb, 0, none⟩).run Tryd.prog v2 = .ok (.agg res1) v2 ∧ R res res1 false v2)
            fun v2 hv2 => fin (U := nilS) (S := nilS) (s := badF (16 + nuX l + 28 * k + f)) (b := false) ((hgz.trans hg2').trans hv2) (no ep ((hgz.trans hg2').trans hv2))
          rw [← ewr f (by omega)] at this
          exact this
        | none =>
          refine br_f (by rw [decide_eq_false_iff_not]; dsimp only; omega) ⟨S, by rw [add0, Blk.cell hbl2]; rfl, _, rsegLoad (blk_cells hbx2), ?_⟩
          refine lit_rule (cells := (sgv (segOf (segAt l k))).toArray) (e := t_palletref15_Seg) (z := 5) (base := 0) (rseg_lit _ _) rfl (by decide) (Nat.zero_le _) fun z5 hlit5 hg5' _ => ?_
          have hz5 := hg2'.trans hg5'
          refine append_rule u_sl_palletref15_Seg i_palletref15_Seg rfl (by decide) (by decide) (hSz.grow hz5) (hlit5.rd (by show 1 ≤ _; decide)) (fun v hv => sgv_ones [segOf (segAt l k)] v (by simpa using hv)) (by show (S.n + 1) * 40 ≤ _; omega) (by have := hKz.size; have := hz5.size; omega) fun S1 z6 hn6 hown6 hk6 _ => ?_
          have hUz := hoz.grow hz5
          have hSz5 := hSz.grow hz5
          have apart : ∀ b, U.blk = some b → some b ≠ S.blk := fun b hb e => by
            obtain ⟨c1, h1⟩ := own_heap hUz hb
            obtain ⟨c2, h2⟩ := own_heap hSz5 e.symm
            rw [h1] at h2
            injection h2 with h2
            injection h2 with _ ht
            exact absurd ht (by decide)
          have hSb : ∀ b, S.blk = some b → b ≠ lb := fun b hb e => by have := (hSz.ge b hb).1; omega
          have hUb2 : ∀ b, U.blk = some b → b ≠ lb := fun b hb e => by have := (hoz.ge b hb).1; omega
          have hS1b : ∀ b, S1.blk = some b → b ≠ lb := fun b hb e => by have := (hown6.ge b hb).1; omega
          have hU6 := hUz.keep hk6 apart
          have hbl6 : Blk z6 lb (lsv U S) t_palletref15_List := hk6.heap (hz5.heap hbz (fun e => e)) fun e => hSb lb e.symm rfl
          have hK6 : Keep (fun k => k = lb) wF z6 := (hKz.grow hz5).trans hk6 fun i hi q => by have := (hSz.ge i q.symm).1; omega
          rw [add0]
          refine put_rule hbl6 (by show 1 < 2; decide) rfl fun z7 hb7 hk7 _ => ?_
          have hb7 : Blk z7 lb (lsv U S1) t_palletref15_List := hb7
          refine J _ ⟨S1, hK6.trans hk7 fun _ _ q => q, by unfold sFault; rw [hsq]; rfl, hb7, hU6.keep hk7 fun b hb e => hUb2 b hb e, ?_⟩
          rw [segsX_succ, List.flatMap_append]
          have e5 : [segOf (segAt l k)].flatMap sgv = sgv (segOf (segAt l k)) := by simp
          rw [e5]
          exact hown6.keep hk7 fun b hb e => hS1b b hb e
      have hpz2 := hpz.grow hg2'
      refine ref_num_spec (at_ := 16 + nuX l + 28 * k) (n := 4) hpz2 (by decide) (by decide) (by omega) ?_
      rw [show l.drop (16 + nuX l + 28 * k) = l.drop (16 + nuX l + 28 * k + 0) from rfl, hsub 0 4 (by decide)]
      rw [hsb] at J1
      by_cases r0 : num (sub (segAt l k) 0 4) = 33554456
      case neg => exact br_t (by rw [bne_iff_ne]; omega) (J1 _ _ ⟨rfl, by rw [if_pos r0]; rfl⟩)
      rw [if_neg (fun e => e r0)] at J1
      refine br_f (by rw [bne_eq_false_iff_eq]; omega) ?_
      refine ref_num_spec (at_ := 16 + nuX l + 28 * k + 8) (n := 2) hpz2 (by decide) (by decide) (by omega) ?_
      rw [hsub 8 2 (by decide)]
      by_cases r8 : num (sub (segAt l k) 8 2) = 0
      case neg => exact br_t (by rw [bne_iff_ne]; omega) (J1 _ _ ⟨rfl, by rw [if_pos r8]; rfl⟩)
      rw [if_neg (fun e => e r8)] at J1
      refine br_f (by rw [bne_eq_false_iff_eq]; omega) ⟨(num (sub (segAt l k) 4 2) : Int), by rw [add0, Blk.cell hbx2]; rfl, U, by rw [add0, Blk.cell hbl2]; rfl, ?_⟩
      rw [hUn]
      by_cases r4 : nuX l / 32 ≤ num (sub (segAt l k) 4 2)
      · exact br_t (by rw [decide_eq_true_eq]; omega) (J1 _ _ ⟨rfl, by rw [if_pos r4]; rfl⟩)
      rw [if_neg r4] at J1
      refine br_f (by rw [decide_eq_false_iff_not]; omega) ⟨(num (sub (segAt l k) 6 2) : Int), by rw [add0, Blk.cell hbx2]; rfl, U, by rw [add0, Blk.cell hbl2]; rfl, ?_⟩
      rw [hUn]
      by_cases r6 : nuX l / 32 ≤ num (sub (segAt l k) 6 2)
      · exact br_t (by rw [decide_eq_true_eq]; omega) (J1 _ _ ⟨rfl, by rw [if_pos r6]; rfl⟩)
      rw [if_neg r6] at J1
      refine br_f (by rw [decide_eq_false_iff_not]; omega) ⟨(num (sub (segAt l k) 10 2) : Int), by rw [add0, Blk.cell hbx2]; rfl, ?_⟩
      by_cases r10 : 256 < num (sub (segAt l k) 10 2)
      · exact br_t (by rw [decide_eq_true_eq]; omega) (J1 _ _ ⟨rfl, by rw [if_pos r10]; rfl⟩)
      rw [if_neg r10] at J1
      exact br_f (by rw [decide_eq_false_iff_not]; omega) (J1 _ _ ⟨rfl, rfl⟩)
    · have hkn : k = nsX l / 28 := by omega
      have hnoS : (List.range (nsX l / 28)).findSome? (sFault l) = none := findSome_none fun i hi => hfk i (by omega)
      have ep : parseX l = ⟨unitsX l (nuX l / 32), segsX l (nsX l / 28), sn0, true⟩ := by rw [hpn2, hnoS]
      rw [hkn] at hSz
      refine ⟨_, rlLoad hbz, fin (U := U) (S := S) (s := sn0) (b := true) hgz fun v' hk' => ?_⟩
      have := h U S v' (gk hgz hk')
      rw [ep] at this
      have lF := hg1F.size
      refine this ((hoz.keep hk' fun b hb e => ?_).mono (by omega)) ((hSz.keep hk' fun b hb e => ?_).mono (by omega))
      · have := (hoz.ge b hb).1; omega
      · have := (hSz.ge b hb).1; omega
end Go.Proofs.YtaneeadpjelomaaDoor

/- Layer 15: the parameters that tell a list, as the reference lays them. -/
namespace Go.Proofs.YtaneeadpjelomaaDoor
open Go CF

theorem trim_ne {s : L8} : sEq (str (trimR s)) (str s) = decide (s.getLast? ≠ some 32) := by
  rw [sEq_str, Bool.eq_iff_iff, decide_eq_true_iff, decide_eq_true_iff]
  exact ⟨fun q => by rw [← q]; exact trimR_last s, trimR_of⟩
theorem rbytes_spec {U S : Sl} {us : List L8} {ss : List SegX} {w : World} {R : Sl → Int → World → Prop} (hU : Rd w 1 U (strsV us)) (hS : Rd w 5 S (ss.flatMap sgv)) (hN : ∀ x ∈ ss, x.src < 18446744073709551616 ∧ x.dst < 18446744073709551616)
    (h : ∀ d v, Grow w v → Own v w.heap.size t_uint8 1 d (bv (bytesX us ss).1) → R d ((bytesX us ss).2 : Int) v) : Cpalletref15_Bytes (lsv U S) w R := by
  refine Fpalletref15_Bytes.calls _ _ _ ?_
  have hUn := strs_n hU
  have hSn := rd_as sgv_len (by decide) hS
  refine new_rule fun lb w0 hlb hb0 hg0 hsz0 => ?_
  have hb0 : Blk w0 lb (lsv U S) t_palletref15_List := hb0
  have c0 : ∀ {u : World}, Grow w0 u → u.cell? ((⟨lb, 0, none⟩ : Addr).add 0) = some (.slice U.A U.n U.c) := fun q => by rw [add0, Blk.cell (q.heap hb0 (fun q => q))]; rfl
  have c1 : ∀ {u : World}, Grow w0 u → u.cell? ((⟨lb, 0, none⟩ : Addr).add 1) = some (.slice S.A S.n S.c) := fun q => by rw [add0, Blk.cell (q.heap hb0 (fun q => q))]; rfl
  refine ⟨U, c0 (Keep.refl _ _), S, fun _ => c1 (Keep.refl _ _), ?_⟩
  have s0 := hg0.size
  by_cases h8 : 8 < us.length ∨ 8 < ss.length
  · rw [bytesX_many h8] at h
    exact br_t (by rw [Bool.or_eq_true, decide_eq_true_eq, decide_eq_true_eq]; omega) (h nilS w0 hg0 (own_nil _ _ _ _))
  refine br_f (by rw [Bool.or_eq_false_iff, decide_eq_false_iff_not, decide_eq_false_iff_not]; omega) ?_
  have no : ∀ {v : World}, Grow w0 v → bytesX us ss = ([], 3) → R nilS 3 v := fun hv e => by
    rw [e] at h
    exact h nilS _ (hg0.trans hv) (own_nil _ _ _ _)
  have eU : IntKind.wrap .u64 (IntKind.wrap .i64 (32 * (U.n : Int))) = ((32 * us.length : Nat) : Int) := by rw [w64 (by omega) (by omega), wu64 (by omega) (by omega)]; omega
  have eS : IntKind.wrap .u64 (IntKind.wrap .i64 (28 * (S.n : Int))) = ((28 * ss.length : Nat) : Int) := by rw [w64 (by omega) (by omega), wu64 (by omega) (by omega)]; omega
  refine Row.start (l := [0, 0]) (by kernel_rfl) rfl (by decide) fun q1 w1 r1 => ?_
  refine ⟨U, c0 r1.grow, ?_⟩
  rw [eU]
  refine r1.big (n := 2) (by decide) (by decide) (by decide) fun q2 w2 r2 _ => ?_
  refine r2.lit (l := [0, 0, 0, 0]) (by kernel_rfl) rfl (by rw [List.length_append, beN_len]; decide) fun q3 w3 r3 _ => ?_
  refine ⟨S, c1 r3.grow, ?_⟩
  rw [eS]
  refine r3.big (n := 4) (by decide) (by decide) (by rw [List.length_append, List.length_append, beN_len]; decide) fun q4 w4 r4 _ => ?_
  refine r4.lit (l := [0, 0, 0, 0]) (by kernel_rfl) rfl (by simp only [List.length_append, beN_len]; decide) fun q5 w5 r5 _ => ?_
  have eh : [0, 0] ++ beN 2 (32 * us.length) ++ [0, 0, 0, 0] ++ beN 4 (28 * ss.length) ++ [0, 0, 0, 0] = hdrX us.length ss.length := rfl
  rw [eh] at r5
  refine ⟨fun p x v => ∃ k : Nat, x = k ∧ k ≤ us.length ∧ Row w0 v p (hdrX us.length ss.length ++ (us.take k).flatMap unitB) ∧ ∀ s ∈ us.take k, uOk s, fun _ x _ => us.length - x.toNat, ⟨0, rfl, Nat.zero_le _, by simpa using r5, by simp⟩, ?_⟩
  rintro p x v ⟨k, rfl, hk, hr, hall⟩
  have hUv := (hU.grow hg0).grow hr.grow
  refine ⟨U, c0 hr.grow, ?_⟩
  rw [← hUn]
  refine br_nat (fun hlt => ?_) (fun hge => ?_)
  · obtain ⟨a1, ct1⟩ := strs_at hUv hlt
    refine ⟨U, c0 hr.grow, ⟨by omega, by omega, a1⟩, str us[k], by rw [Int.toNat_natCast]; exact ct1, ?_⟩
    have bad : ∀ {v : World}, Grow w0 v → ¬ uOk us[k] → R nilS 3 v := fun hv q => no hv (bytesX_unit h8 hlt q)
    have hnext := @flat_next _ unitB us k hlt
    have hallN := fun q => take_all hlt hall q
    generalize us[k] = s at *
    rw [size_str]
    have hpl : (hdrX us.length ss.length ++ (us.take k).flatMap unitB).length ≤ 1000 := by
      have := units_len hall
      rw [List.length_append, hdrX_len, this, List.length_take]
      omega
    by_cases h20 : 20 < s.length
    · refine ⟨fun q => ?_, fun _ => ⟨fun q => ?_, fun _ => br_t ?_ (bad hr.grow fun q => ?_)⟩⟩
      · rw [Bool.not_eq_true', decide_eq_false_iff_not] at q; omega
      · rw [Bool.not_eq_true', decide_eq_false_iff_not] at q; omega
      · rw [Bool.or_eq_true, decide_eq_true_eq]; omega
      · have := q.1; omega
    refine ⟨fun _ => ?_, fun q => ?_⟩
    case refine_2 => rw [Bool.not_eq_false', decide_eq_true_eq] at q; omega
    refine conv_bytes_rule u_string u_sl_uint8 u_uint8 (by omega) fun sb v0 hgv0 hsb hsn => ?_
    refine ⟨fun _ => ?_, fun q => ?_⟩
    case refine_2 => rw [Bool.not_eq_false', decide_eq_true_eq] at q; omega
    refine rtrim_spec hsb (by omega) ?_
    have hr0 := hr.go hgv0
    rw [trim_ne]
    by_cases hlast : s.getLast? = some 32
    · exact br_t (by rw [Bool.or_eq_true, Bool.not_eq_true', decide_eq_false_iff_not]; exact .inr fun q => q hlast) (bad hr0.grow fun q => q.2 hlast)
    refine br_f (by rw [Bool.or_eq_false_iff, Bool.not_eq_false', decide_eq_false_iff_not, decide_eq_true_eq]; exact ⟨by omega, hlast⟩) ?_
    refine hr0.lit (l := frontX) (front_lit v0) rfl (by show _ + 8 ≤ _; omega) fun q1 v1 hq1 _ => ?_
    refine hq1.str (l := s) (by rw [List.length_append]; show _ + 8 + _ ≤ _; omega) fun q2 v2 hq2 _ => ?_
    refine ⟨fun q i y => ∃ j : Nat, i = ((s.length + j : Nat) : Int) ∧ Row w0 y q (hdrX us.length ss.length ++ (us.take k).flatMap unitB ++ frontX ++ s ++ List.replicate j 32) ∧ s.length + j ≤ 20, fun _ i _ => 20 - i.toNat, ⟨0, by simp, by simpa using hq2, by omega⟩, ?_⟩
    rintro q i y ⟨j, rfl, hq, hj⟩
    have hql : (hdrX us.length ss.length ++ (us.take k).flatMap unitB ++ frontX ++ s ++ List.replicate j 32).length ≤ 2000 := by
      rw [List.length_append, List.length_append, List.length_append, List.length_replicate]
      have : frontX.length = 8 := rfl
      omega
    refine br_nat (y := 20) (fun hlt2 => ?_) (fun hge2 => ?_)
    · refine hq.lit (l := [32]) (by kernel_rfl) rfl (by simp only [List.length_cons, List.length_nil]; omega) fun q3 y3 hq3 _ => ?_
      rw [List.append_assoc _ _ [32], ← List.replicate_succ'] at hq3
      rw [w64 (by omega) (by omega)]
      exact ⟨⟨j + 1, by omega, hq3, by omega⟩, by dsimp only; omega⟩
    · have hj20 : j = 20 - s.length := by omega
      subst hj20
      refine hq.lit (l := [0, 0, 0, 16]) (by kernel_rfl) rfl (by simp only [List.length_cons, List.length_nil]; omega) fun p2 y2 hp2 _ => ?_
      rw [w64 (by omega) (by omega)]
      refine ⟨⟨k + 1, by omega, by omega, ?_, hallN ⟨by omega, hlast⟩⟩, by dsimp only; omega⟩
      rw [hnext]
      have e : hdrX us.length ss.length ++ ((us.take k).flatMap unitB ++ unitB s) = hdrX us.length ss.length ++ (us.take k).flatMap unitB ++ frontX ++ s ++ List.replicate (20 - s.length) 32 ++ [0, 0, 0, 16] := by simp [unitB]
      rw [e]
      exact hp2
  · have hkn : k = us.length := by omega
    subst hkn
    rw [List.take_length] at hr hall
    refine ⟨fun p x v => ∃ k : Nat, x = k ∧ k ≤ ss.length ∧ Row w0 v p (hdrX us.length ss.length ++ us.flatMap unitB ++ (ss.take k).flatMap segB) ∧ ∀ s ∈ ss.take k, sOk us.length s, fun _ x _ => ss.length - x.toNat, ⟨0, rfl, Nat.zero_le _, by simpa using hr, by simp⟩, ?_⟩
    rintro p1 x v1 ⟨k, rfl, hk, hr1, hall1⟩
    have hSv := (hS.grow hg0).grow hr1.grow
    refine ⟨S, c1 hr1.grow, ?_⟩
    rw [← hSn]
    refine br_nat (fun hlt => ?_) (fun hge => ?_)
    · obtain ⟨a1, ct1⟩ := rd_str sgv_len (by decide) hSv hlt
      refine ⟨S, c1 hr1.grow, ⟨by omega, by omega, a1⟩, _, by rw [Int.toNat_natCast]; exact rsegLoad ct1, ?_⟩
      have bad : ∀ {v : World}, Grow w0 v → ¬ sOk us.length ss[k] → R nilS 3 v := fun hv q => no hv (bytesX_seg h8 hlt q)
      have hnext := @flat_next _ segB ss k hlt
      have hallN := fun q => take_all hlt hall1 q
      have hN1 := hN ss[k] (List.getElem_mem hlt)
      generalize ss[k] = s at *
      refine new_rule fun xb v2 hxb hbx2 hg2' _ => ?_
      refine storeVar_rule (cells := (sgv s).toArray) hbx2 i_palletref15_Seg rfl rfl (by simp [sgv, Value.oneCell']) fun v3 hbx3 hkx3 _ => ?_
      have hg13 : Grow v1 v3 := hg2'.keep hkx3 fun i hi e => by omega
      have g03 := hr1.grow.trans hg13
      have X : ∀ {u : World}, Blk u xb (sgv s).toArray t_palletref15_Seg → u.cell? ((⟨xb, 0, none⟩ : Addr).add 0) = some (.int .i64 s.from_) ∧ u.cell? ((⟨xb, 0, none⟩ : Addr).add 1) = some (.int .i64 s.to_) ∧ u.cell? ((⟨xb, 0, none⟩ : Addr).add 2) = some (.int .i64 s.blocks) ∧
          u.cell? ((⟨xb, 0, none⟩ : Addr).add 3) = some (.int .u64 (s.src : Int)) ∧ u.cell? ((⟨xb, 0, none⟩ : Addr).add 4) = some (.int .u64 (s.dst : Int)) := fun q => by
        simp only [add0, Blk.cell q]
        exact ⟨rfl, rfl, rfl, rfl, rfl⟩
      have hbx3 : Blk v3 xb (sgv s).toArray t_palletref15_Seg := hbx3
      have X3 := X hbx3
      refine ⟨s.from_, X3.1, s.from_, fun _ => X3.1, U, fun _ => c0 g03, s.to_, fun _ => X3.2.1, s.to_, fun _ => X3.2.1, U, fun _ => c0 g03, s.blocks, fun _ => X3.2.2.1, s.blocks, fun _ => X3.2.2.1, ?_⟩
      rw [← hUn]
      by_cases hok : sOk us.length s
      case neg =>
        refine br_t ?_ (bad g03 hok)
        simp only [Bool.or_eq_true, decide_eq_true_eq]
        unfold sOk at hok
        omega
      have hok' := hok
      obtain ⟨k1, k2, k3, k4, k5, k6⟩ := hok
      refine br_f (by simp only [Bool.or_eq_false_iff, decide_eq_false_iff_not]; omega) ?_
      have f1 : IntKind.wrap .u64 s.from_ = ((s.from_.toNat : Nat) : Int) := by rw [wu64 (by omega) (by omega)]; omega
      have f2 : IntKind.wrap .u64 s.to_ = ((s.to_.toNat : Nat) : Int) := by rw [wu64 (by omega) (by omega)]; omega
      have f3 : IntKind.wrap .u64 s.blocks = ((s.blocks.toNat : Nat) : Int) := by rw [wu64 (by omega) (by omega)]; omega
      have hpl : (hdrX us.length ss.length ++ us.flatMap unitB ++ (ss.take k).flatMap segB).length ≤ 1000 := by
        have := units_len hall
        have h2 := segs_len (ss.take k)
        rw [List.length_append, List.length_append, hdrX_len, this, h2, List.length_take]
        omega
      generalize hos : hdrX us.length ss.length ++ us.flatMap unitB ++ (ss.take k).flatMap segB = os at *
      have ne : t_palletref15_Seg ≠ t_uint8 := by decide
      refine (hr1.go hg13).lit (l := [2, 0, 0, 0x18]) (by kernel_rfl) rfl (by simp only [List.length_cons, List.length_nil]; omega) fun q4 v4 r4 k4 => ?_
      have X4 := (hr1.go hg13).blk k4 hbx3 ne
      refine ⟨s.from_, (X X4).1, ?_⟩
      rw [f1]
      refine r4.big (n := 2) (by decide) (by decide) (by simp only [List.length_append, List.length_cons, List.length_nil]; omega) fun q5 v5 r5 k5 => ?_
      have X5 := r4.blk k5 X4 ne
      refine ⟨s.to_, (X X5).2.1, ?_⟩
      rw [f2]
      refine r5.big (n := 2) (by decide) (by decide) (by simp only [List.length_append, beN_len, List.length_cons, List.length_nil]; omega) fun q6 v6 r6 k6 => ?_
      have X6 := r5.blk k6 X5 ne
      refine r6.lit (l := [0, 0]) (by kernel_rfl) rfl (by simp only [List.length_append, beN_len, List.length_cons, List.length_nil]; omega) fun q7 v7 r7 k7 => ?_
      have X7 := r6.blk k7 X6 ne
      refine ⟨s.blocks, (X X7).2.2.1, ?_⟩
      rw [f3]
      refine r7.big (n := 2) (by decide) (by decide) (by simp only [List.length_append, beN_len, List.length_cons, List.length_nil]; omega) fun q8 v8 r8 k8 => ?_
      have X8 := r7.blk k8 X7 ne
      refine ⟨(s.src : Int), (X X8).2.2.2.1, ?_⟩
      refine r8.big (n := 8) (by decide) (by decide) (by simp only [List.length_append, beN_len, List.length_cons, List.length_nil]; omega) fun q9 v9 r9 k9 => ?_
      have X9 := r8.blk k9 X8 ne
      refine ⟨(s.dst : Int), (X X9).2.2.2.2, ?_⟩
      refine r9.big (n := 8) (by decide) (by decide) (by simp only [List.length_append, beN_len, List.length_cons, List.length_nil]; omega) fun q10 v10 r10 k10 => ?_
      rw [w64 (by omega) (by omega)]
      refine ⟨⟨k + 1, by omega, by omega, ?_, hallN hok'⟩, by dsimp only; omega⟩
      rw [hnext, ← List.append_assoc, hos]
      have e : os ++ segB s = os ++ [2, 0, 0, 0x18] ++ beN 2 s.from_.toNat ++ beN 2 s.to_.toNat ++ [0, 0] ++ beN 2 s.blocks.toNat ++ beN 8 s.src ++ beN 8 s.dst := by simp [segB]
      rw [e]
      exact r10
    · have hkn : k = ss.length := by omega
      subst hkn
      rw [List.take_length] at hr1 hall1
      rw [bytesX_ok h8 hall hall1] at h
      exact h p1 v1 (hg0.trans hr1.grow) (hr1.own.mono s0)
end Go.Proofs.YtaneeadpjelomaaDoor

/- Layer 15: the helpers of the laws of parameters. -/
namespace Go.Proofs.YtaneeadpjelomaaDoor
open Go CF

theorem sgv_inj {x y : SegX} (h : sgv x = sgv y) : x = y := by
  obtain ⟨a, b, c, d, e⟩ := x
  obtain ⟨a', b', c', d', e'⟩ := y
  simp only [sgv, List.cons.injEq, Value.int.injEq, true_and, and_true] at h
  obtain ⟨rfl, rfl, rfl, h1, h2⟩ := h
  obtain rfl : d = d' := by omega
  obtain rfl : e = e' := by omega
  rfl
def kSeg : List Kd := [.i .i64, .i .i64, .i .i64, .i .u64, .i .u64]
theorem flat_rSeg : flatK Tryd.prog 8 t_palletref15_Seg = some kSeg := by kernel_rfl
theorem kd_rSeg : kd Tryd.prog t_palletref15_Seg = .ag := by kernel_rfl
theorem gt_rSeg : Tryd.prog.eqGuardType Tryd.prog.depth t_palletref15_Seg = false := by kernel_rfl
theorem fit_sgv (s : SegX) : FitL kSeg (sgv s) := ⟨rfl, rfl, rfl, rfl, rfl, trivial⟩
theorem parse_held {p : Sl} {l : L8} {w : World} {K : Addr → Addr → Bool → World → Prop} (hp : Rd w 1 p (bv l))
    (h : ∀ U S lb sb v, Grow w v → Own v w.heap.size t_string 1 U (strsV (parseX l).us) → Own v w.heap.size t_xcopy_Seg 5 S ((parseX l).ss.flatMap sgv) → w.heap.size ≤ lb → w.heap.size ≤ sb → Blk v lb (lsv U S) t_xcopy_List → Blk v sb (snv (parseX l).sn).toArray t_api_Sense →
      K ⟨lb, 0, none⟩ ⟨sb, 0, none⟩ (parseX l).ok v) :
    Cxcopy_Parse p w fun g g1 b w' => New (.cells #[.slice none 0 0, .slice none 0 0] t_xcopy_List) w' fun a1 w2 => New (.cells #[.int .u8 0, .int .u16 0, .int .u64 0, .bool false, .int .i64 0, .int .i64 0, .bool false, .bool false] t_api_Sense) w2 fun a2 w3 =>
      RunU Tryd.prog (storeVar t_xcopy_List a1 (.agg g)) w3 fun w4 => RunU Tryd.prog (storeVar t_api_Sense a2 (.agg g1)) w4 fun w5 => K a1 a2 b w5 := by
  refine parse_spec hp fun U S v hg hU hS => ?_
  have sv := hg.size
  refine new_rule fun lb w0 hlb hb0 hg0 hsz0 => ?_
  refine new_rule fun sb w1 hsb hb1 hg1 hsz1 => ?_
  refine storeVar_rule (cells := lsv U S) (hg1.heap hb0 (fun q => q)) i_xcopy_List rfl rfl (by simp [lsv, Value.oneCell']) fun w2 hb2 hk2 hsz2 => ?_
  refine storeVar_rule (cells := (snv (parseX l).sn).toArray) (hk2.heap hb1 (by omega)) i_api_Sense rfl rfl (snv_ones _) fun w3 hb3 hk3 hsz3 => ?_
  have g3 : Grow v w3 := ((hg0.trans hg1).keep hk2 fun i hi q => by omega).keep hk3 fun i hi q => by omega
  exact h U S lb sb w3 (hg.trans g3) (hU.grow g3) (hS.grow g3) (by omega) (by omega) (hk3.heap hb2 (by omega)) hb3
theorem rparse_held {p : Sl} {l : L8} {w : World} {K : Addr → Addr → Bool → World → Prop} (hp : Rd w 1 p (bv l))
    (h : ∀ U S lb sb v, Grow w v → Own v w.heap.size t_string 1 U (strsV (parseX l).us) → Own v w.heap.size t_palletref15_Seg 5 S ((parseX l).ss.flatMap sgv) → w.heap.size ≤ lb → w.heap.size ≤ sb → Blk v lb (lsv U S) t_palletref15_List → Blk v sb (snv (parseX l).sn).toArray t_api_Sense →
      K ⟨lb, 0, none⟩ ⟨sb, 0, none⟩ (parseX l).ok v) :
    Cpalletref15_Parse p w fun g g1 b w' => New (.cells #[.slice none 0 0, .slice none 0 0] t_palletref15_List) w' fun a1 w2 => New (.cells #[.int .u8 0, .int .u16 0, .int .u64 0, .bool false, .int .i64 0, .int .i64 0, .bool false, .bool false] t_api_Sense) w2 fun a2 w3 =>
      RunU Tryd.prog (storeVar t_palletref15_List a1 (.agg g)) w3 fun w4 => RunU Tryd.prog (storeVar t_api_Sense a2 (.agg g1)) w4 fun w5 => K a1 a2 b w5 := by
  refine rparse_spec hp fun U S v hg hU hS => ?_
  have sv := hg.size
  refine new_rule fun lb w0 hlb hb0 hg0 hsz0 => ?_
  refine new_rule fun sb w1 hsb hb1 hg1 hsz1 => ?_
  refine storeVar_rule (cells := lsv U S) (hg1.heap hb0 (fun q => q)) i_palletref15_List rfl rfl (by simp [lsv, Value.oneCell']) fun w2 hb2 hk2 hsz2 => ?_
  refine storeVar_rule (cells := (snv (parseX l).sn).toArray) (hk2.heap hb1 (by omega)) i_api_Sense rfl rfl (snv_ones _) fun w3 hb3 hk3 hsz3 => ?_
  have g3 : Grow v w3 := ((hg0.trans hg1).keep hk2 fun i hi q => by omega).keep hk3 fun i hi q => by omega
  exact h U S lb sb w3 (hg.trans g3) (hU.grow g3) (hS.grow g3) (by omega) (by omega) (hk3.heap hb2 (by omega)) hb3
theorem of15_spec {U S : Sl} {ss : List SegX} {w : World} {R : Array Value → World → Prop} (hS : Rd w 5 S (ss.flatMap sgv)) (hb : ss.length * 40 ≤ 140737488351232)
    (h : ∀ S' v, Grow w v → Own v w.heap.size t_palletref15_Seg 5 S' (ss.flatMap sgv) → R (lsv U S') v) : Cpalletlaw15_of (lsv U S) w R := by
  refine Fpalletlaw15_of.calls _ _ _ ?_
  have hSn := rd_as sgv_len (by decide) hS
  refine new_rule fun lb w0 hlb hb0 hg0 hsz0 => ?_
  refine new_rule fun ab w1 hab hb1 hg1 hsz1 => ?_
  have hb0 : Blk w0 lb (lsv U S) t_xcopy_List := hb0
  refine ⟨U, by rw [add0, Blk.cell (hg1.heap hb0 (fun q => q))]; rfl, ?_⟩
  refine new_rule fun ob w2 hob hb2 hg2 hsz2 => ?_
  refine storeVar_rule (cells := lsv U nilS) hb2 i_palletref15_List rfl rfl (by simp [lsv, Value.oneCell']) fun w3 hb3 hk3 hsz3 => ?_
  have hg03 : Grow w0 w3 := (hg1.trans hg2).keep hk3 fun i hi q => by omega
  have hg13 : Grow w1 w3 := hg2.keep hk3 fun i hi q => by omega
  have c1 : ∀ {u : World}, Keep (fun k => k = ob) w3 u → u.cell? ((⟨lb, 0, none⟩ : Addr).add 1) = some (.slice S.A S.n S.c) := fun q => by rw [add0, Blk.cell (q.heap (hg03.heap hb0 (fun q => q)) (by omega))]; rfl
  refine ⟨fun i u => ∃ (k : Nat) (T : Sl), i = k ∧ k ≤ ss.length ∧ Keep (fun k => k = ob) w3 u ∧ Blk u ob (lsv U T) t_palletref15_List ∧ Own u w3.heap.size t_palletref15_Seg 5 T ((ss.take k).flatMap sgv), fun i _ => ss.length - i.toNat, ⟨0, nilS, rfl, Nat.zero_le _, Keep.refl _ _, hb3, own_nil _ _ _ _⟩, ?_⟩
  rintro i u ⟨k, T, rfl, hk, hku, hbu, hT⟩
  have hgu : Grow w1 u := hg13.keep hku fun i hi q => by omega
  have hgwu := (hg0.trans hg1).trans hgu
  have hTn : T.n = k := by
    have := hT.len; rw [flat_len5, List.length_take] at this; omega
  refine ⟨S, c1 hku, ?_⟩
  rw [← hSn]
  refine br_nat (fun hlt => ?_) (fun hge => ?_)
  · obtain ⟨a1, ct⟩ := rd_str sgv_len (by decide) (hS.grow hgwu) hlt
    refine ⟨S, c1 hku, ⟨by omega, by omega, a1⟩, _, by rw [Int.toNat_natCast]; exact segLoad ct, ?_⟩
    have hnext : (ss.take (k + 1)).flatMap sgv = (ss.take k).flatMap sgv ++ sgv ss[k] := by
      rw [List.take_succ_eq_append_getElem hlt, List.flatMap_append]; simp
    generalize ss[k] = s at *
    refine new_rule fun xb u1 hxb hbx1 hg1' hszx1 => ?_
    refine storeVar_rule (cells := (sgv s).toArray) hbx1 i_xcopy_Seg rfl rfl (by simp [sgv, Value.oneCell']) fun u2 hbx2 hkx2 hszx2 => ?_
    have hgu2 : Grow u u2 := hg1'.keep hkx2 fun i hi q => by omega
    refine ⟨T, by rw [add0, Blk.cell (hgu2.heap hbu (fun q => q))]; rfl, s.from_, by rw [add0, hbx2.cell]; rfl, s.to_, by rw [add0, hbx2.cell]; rfl, s.blocks, by rw [add0, hbx2.cell]; rfl, (s.src : Int), by rw [add0, hbx2.cell]; rfl, (s.dst : Int), by rw [add0, hbx2.cell]; rfl, ?_⟩
    refine lit_rule (cells := (sgv s).toArray) (e := t_palletref15_Seg) (z := 5) (base := 0) (rseg_lit _ s) rfl (by decide) (Nat.zero_le _) fun u3 hlit hg3 hsz3' => ?_
    have hgu3 := hgu2.trans hg3
    refine append_rule u_sl_palletref15_Seg i_palletref15_Seg rfl (by decide) (by decide) (hT.grow hgu3) (hlit.rd (by show 1 ≤ _; decide)) (fun v hv => sgv_ones [s] v (by simpa using hv)) (by show (T.n + 1) * 40 ≤ _; omega) (by have := hku.size; have := hgu3.size; omega) fun T1 u4 hn4 hown4 hk4 _ => ?_
    have tb : ∀ b, T.blk = some b → b ≠ ob := fun b hb e => by have := (hT.ge b hb).1; have := lt_of_heap hb3; omega
    have tb1 : ∀ b, T1.blk = some b → b ≠ ob := fun b hb e => by have := (hown4.ge b hb).1; have := lt_of_heap hb3; omega
    have hb4 : Blk u4 ob (lsv U T) t_palletref15_List := hk4.heap (hgu3.heap hbu (fun e => e)) fun e => tb ob e.symm rfl
    rw [add0]
    refine put_rule hb4 (by show 1 < 2; decide) rfl fun u5 hb5 hk5 _ => ?_
    have hb5 : Blk u5 ob (lsv U T1) t_palletref15_List := hb5
    have hK5 : Keep (fun k => k = ob) w3 u5 := ((hku.grow hgu3).trans hk4 fun i hi q => by have := (hT.ge i q.symm).1; omega).trans hk5 fun _ _ q => q
    rw [w64 (by omega) (by omega)]
    refine ⟨⟨k + 1, T1, by omega, by omega, hK5, hb5, ?_⟩, by dsimp only; omega⟩
    rw [hnext]
    exact hown4.keep hk5 fun b hb e => tb1 b hb e
  · have hkn : k = ss.length := by omega
    subst hkn
    rw [List.take_length] at hT
    refine ⟨_, rlLoad hbu, ?_⟩
    have hau := hgu.heap hb1 (fun q => q)
    refine storeVar_rule (cells := lsv U T) hau i_palletref15_List rfl rfl (by simp [lsv, Value.oneCell']) fun u2 hb2' hk2' _ => ⟨_, rlLoad hb2', ?_⟩
    have g0 := hg0.size
    have g1 := hg1.size
    have g3 := hg13.size
    refine h T u2 (((hg0.trans hg1).trans hgu).keep hk2' fun i hi q => by omega) ((hT.keep hk2' fun b hb e => ?_).mono (by omega))
    have := (hT.ge b hb).1; omega
theorem flat_get {α : Type} {f : α → List Value} {z : Nat} (hf : ∀ a, (f a).length = z) {a b : List α} (h : a.flatMap f = b.flatMap f) (hz : 0 < z) (hi : ∀ x y, f x = f y → x = y) : a = b := by
  have hl : a.length = b.length := by
    have := congrArg List.length h
    rw [flat_length hf, flat_length hf] at this
    exact Nat.eq_of_mul_eq_mul_right hz this
  apply List.ext_getElem hl
  intro i h1 h2
  apply hi
  rw [← flat_elem hf h1, ← flat_elem hf h2, h]
theorem same15_spec {U S U' S' : Sl} {us us' : List L8} {ss ss' : List SegX} {w : World} {R : Bool → World → Prop} (hU : Rd w 1 U (strsV us)) (hS : Rd w 5 S (ss.flatMap sgv)) (hU' : Rd w 1 U' (strsV us')) (hS' : Rd w 5 S' (ss'.flatMap sgv)) (hb : ss.length * 40 ≤ 140737488351232)
    (h : ∀ b v, Grow w v → (b = true ↔ us = us' ∧ ss = ss') → R b v) : Cpalletlaw15_same (lsv U S) (lsv U' S') w R := by
  refine Fpalletlaw15_same.calls _ _ _ _ ?_
  have n1 := strs_n hU
  have n2 := strs_n hU'
  have n3 := rd_as sgv_len (by decide) hS
  have n4 := rd_as sgv_len (by decide) hS'
  have nb1 := hU.nb
  have nb2 := hS'.nb
  refine new_rule fun ab w0 hab hb0 hg0 hsz0 => ?_
  refine new_rule fun bb w1 hbb hb1 hg1 hsz1 => ?_
  have hb0 : Blk w1 ab (lsv U S) t_xcopy_List := hg1.heap hb0 (fun q => q)
  have hb1 : Blk w1 bb (lsv U' S') t_palletref15_List := hb1
  have hgw := hg0.trans hg1
  have a0 : ∀ {u : World}, Grow w1 u → u.cell? ((⟨ab, 0, none⟩ : Addr).add 0) = some (.slice U.A U.n U.c) := fun q => by rw [add0, Blk.cell (q.heap hb0 (fun q => q))]; rfl
  have a1 : ∀ {u : World}, Grow w1 u → u.cell? ((⟨ab, 0, none⟩ : Addr).add 1) = some (.slice S.A S.n S.c) := fun q => by rw [add0, Blk.cell (q.heap hb0 (fun q => q))]; rfl
  have b0 : ∀ {u : World}, Grow w1 u → u.cell? ((⟨bb, 0, none⟩ : Addr).add 0) = some (.slice U'.A U'.n U'.c) := fun q => by rw [add0, Blk.cell (q.heap hb1 (fun q => q))]; rfl
  have b1 : ∀ {u : World}, Grow w1 u → u.cell? ((⟨bb, 0, none⟩ : Addr).add 1) = some (.slice S'.A S'.n S'.c) := fun q => by rw [add0, Blk.cell (q.heap hb1 (fun q => q))]; rfl
  have r1 := Keep.refl (fun _ => False) w1
  refine ⟨U, a0 r1, U', b0 r1, S, fun _ => a1 r1, S', fun _ => b1 r1, ?_⟩
  by_cases hl : us.length = us'.length ∧ ss.length = ss'.length
  case neg =>
    refine br_t ?_ (h false w1 hgw ⟨fun q => (by cases q), fun q => absurd ⟨by rw [q.1], by rw [q.2]⟩ hl⟩)
    rw [Bool.or_eq_true, bne_iff_ne, bne_iff_ne]
    omega
  obtain ⟨hl1, hl2⟩ := hl
  refine br_f (by rw [Bool.or_eq_false_iff, bne_eq_false_iff_eq, bne_eq_false_iff_eq]; omega) ?_
  refine ⟨fun i u => ∃ k : Nat, i = k ∧ k ≤ us.length ∧ Grow w1 u ∧ ∀ j (h1 : j < us.length) (h2 : j < us'.length), j < k → us[j] = us'[j], fun i _ => us.length - i.toNat, ⟨0, rfl, Nat.zero_le _, r1, fun _ _ _ q => absurd q (Nat.not_lt_zero _)⟩, ?_⟩
  rintro i u ⟨k, rfl, hk, hgu, hall⟩
  refine ⟨U, a0 hgu, ?_⟩
  rw [← n1]
  refine br_nat (fun hlt => ?_) (fun hge => ?_)
  · rintro u1 rfl
    have hgu1 := hgu.trans (keep_drew u)
    obtain ⟨p1, ct1⟩ := strs_at (hU.grow (hgw.trans hgu1)) hlt
    obtain ⟨p2, ct2⟩ := strs_at (hU'.grow (hgw.trans hgu1)) (i := k) (by omega)
    refine ⟨fun v => v = u.drew, rfl, U, fun v hv => by rw [hv]; exact a0 hgu1, ⟨by omega, by omega, p1⟩, str us[k], fun v hv => by rw [Int.toNat_natCast, hv]; exact ct1, U', fun v hv => by rw [hv]; exact b0 hgu1, ⟨by omega, by omega, p2⟩, str (us'[k]'(by omega)), fun v hv => by rw [Int.toNat_natCast, hv]; exact ct2, ?_⟩
    rw [sEq_str]
    by_cases q : us[k] = us'[k]'(by omega)
    · refine br_f (by rw [decide_eq_true q]; rfl) ?_
      rw [w64 (by omega) (by omega)]
      refine ⟨⟨k + 1, by omega, by omega, hgu1, fun j h1 h2 hj => ?_⟩, by dsimp only; omega⟩
      by_cases e : j = k
      · subst e; exact q
      · exact hall j h1 h2 (by omega)
    · exact br_t (by rw [decide_eq_false q]; rfl) (h false _ (hgw.trans hgu1) ⟨fun e => (by cases e), fun e => absurd (by simp only [e.1]) q⟩)
  · have hus : us = us' := List.ext_getElem hl1 fun j h1 h2 => hall j h1 h2 (by omega)
    refine ⟨_, lLoad (hgu.heap hb0 (fun q => q)), ?_⟩
    refine of15_spec (hS.grow (hgw.trans hgu)) hb fun T u1 hg1' hT => ?_
    refine new_rule fun cb u2 hcb hb2 hg2 hsz2 => ?_
    refine storeVar_rule (cells := lsv U T) hb2 i_palletref15_List rfl rfl (by simp [lsv, Value.oneCell']) fun u3 hb3 hk3 hsz3 => ?_
    have hg13 : Grow u1 u3 := hg2.keep hk3 fun i hi q => by omega
    have hgu3 := (hgu.trans hg1').trans hg13
    have hTn : ss.length = T.n := by have := hT.len; rw [flat_len5] at this; omega
    have c1 : ∀ {v : World}, Grow u3 v → v.cell? ((⟨cb, 0, none⟩ : Addr).add 1) = some (.slice T.A T.n T.c) := fun q => by rw [add0, Blk.cell (q.heap hb3 (fun q => q))]; rfl
    have hTr := (hT.grow hg13).rd (by omega)
    refine ⟨fun i v => ∃ k : Nat, i = k ∧ k ≤ ss.length ∧ Grow u3 v ∧ ∀ j (h1 : j < ss.length) (h2 : j < ss'.length), j < k → ss[j] = ss'[j], fun i _ => ss.length - i.toNat, ⟨0, rfl, Nat.zero_le _, Keep.refl _ _, fun _ _ _ q => absurd q (Nat.not_lt_zero _)⟩, ?_⟩
    rintro i v ⟨m, rfl, hm, hgv, hall2⟩
    refine ⟨S', b1 (hgu3.trans hgv), ?_⟩
    rw [← n4]
    refine br_nat (fun hlt => ?_) (fun hge => ?_)
    · rintro v1 rfl
      have hgv1 := hgv.trans (keep_drew v)
      obtain ⟨p1, ct1⟩ := rd_str sgv_len (by decide) (hTr.grow hgv1) (i := m) (by omega)
      obtain ⟨p2, ct2⟩ := rd_str sgv_len (by decide) (hS'.grow ((hgw.trans hgu3).trans hgv1)) (i := m) hlt
      obtain ⟨r, hr, hrun⟩ := neq_rule (x := .tmp 55) (y := .tmp 60) flat_rSeg kd_rSeg gt_rSeg (fit_sgv (ss[m]'(by omega))) (fit_sgv ss'[m])
      refine ⟨fun x => x = v.drew, rfl, T, fun x hx => by rw [hx]; exact c1 hgv1, ⟨by omega, by omega, p1⟩, (sgv (ss[m]'(by omega))).toArray, fun x hx => by rw [Int.toNat_natCast, hx]; exact rsegLoad ct1, S', fun x hx => by rw [hx]; exact b1 (hgu3.trans hgv1), ⟨by omega, by omega, p2⟩, (sgv ss'[m]).toArray, fun x hx => by rw [Int.toNat_natCast, hx]; exact rsegLoad ct2, r, fun x _ => hrun x, ?_⟩
      by_cases q : ss[m]'(by omega) = ss'[m]
      · refine br_f (by rw [Bool.eq_false_iff]; intro e; exact (hr.1 e) (by rw [q])) ?_
        rw [w64 (by omega) (by omega)]
        refine ⟨⟨m + 1, by omega, by omega, hgv1, fun j h1 h2 hj => ?_⟩, by dsimp only; omega⟩
        by_cases e : j = m
        · subst e; exact q
        · exact hall2 j h1 h2 (by omega)
      · refine br_t (hr.2 fun e => q (sgv_inj e)) (h false _ ((hgw.trans hgu3).trans hgv1) ⟨fun e => (by cases e), fun e => absurd (by simp only [e.2]) q⟩)
    · refine h true v ((hgw.trans hgu3).trans hgv) ⟨fun _ => ⟨hus, List.ext_getElem hl2 fun j h1 h2 => hall2 j h1 h2 (by omega)⟩, fun _ => rfl⟩
def awU : List L8 := [[83]]
def awS : List SegX := [⟨0, 0, 2, 0, 4⟩]
theorem awB : bytesX awU awS = (allX awU awS, 0) := bytesX_ok (by decide) (by decide) (by simp only [awS, List.mem_singleton]; rintro x rfl; decide)
theorem awP : parseX (allX awU awS) = ⟨awU, awS, sn0, true⟩ := parse_all (by decide) (by decide) (by decide) (by simp only [awS, List.mem_singleton]; rintro x rfl; decide) (by simp only [awS, List.mem_singleton]; rintro x rfl; exact ⟨by decide, by decide⟩)
theorem awake15_spec {w : World} {R : Bool → World → Prop} (h : ∀ w', Grow w w' → R true w') : Cpalletlaw15_awake w R := by
  refine Fpalletlaw15_awake.calls _ _ ?_
  refine lit_rule (cells := #[.string (str [83])]) (e := t_string) (z := 1) (base := w.heap.size) (str_lit _ _) rfl (by decide) (Nat.le_refl _) fun w1 hown1 hg1 hsz1 => ?_
  refine lit_rule (cells := (sgv ⟨0, 0, 2, 0, 4⟩).toArray) (e := t_xcopy_Seg) (z := 5) (base := w1.heap.size) (seg_lit _ ⟨0, 0, 2, 0, 4⟩) rfl (by decide) (Nat.le_refl _) fun w2 hown2 hg2 hsz2 => ?_
  have hU : Rd w2 1 ⟨some ⟨w.heap.size, 0, none⟩, 1, 1⟩ (strsV awU) := (hown1.grow hg2).rd (by show 1 ≤ _; decide)
  have hS : Rd w2 5 ⟨some ⟨w1.heap.size, 0, none⟩, 1, 1⟩ (awS.flatMap sgv) := hown2.rd (by show 1 ≤ _; decide)
  refine bytes_spec (U := ⟨some ⟨w.heap.size, 0, none⟩, 1, 1⟩) (S := ⟨some ⟨w1.heap.size, 0, none⟩, 1, 1⟩) hU hS (by simp only [awS, List.mem_singleton]; rintro x rfl; exact ⟨by decide, by decide⟩) fun d w3 hg3 hown3 => ?_
  rw [awB] at hown3 ⊢
  have hal := allX_len (us := awU) (ss := awS) (by decide)
  have hdn := own_n' hown3
  have e76 : (allX awU awS).length = 76 := hal
  have hdn : d.n = (allX awU awS).length := hdn
  refine parse_held (hown3.rd (by omega)) fun U S lb sb w4 hg4 hU4 hS4 _ _ hlb hsb => ?_
  rw [awP] at hU4 hS4
  have e1 : (parseX (allX awU awS)).ok = true := by rw [awP]
  rw [e1]
  have hSn : S.n = 1 := by have := hS4.len; rw [flat_len5] at this; simp [awS] at this; omega
  have hSr := hS4.rd (by omega)
  obtain ⟨p1, ct1⟩ := rd_str (i := 0) sgv_len (by decide) hSr (by decide)
  refine ⟨S, fun _ => by rw [add0, Blk.cell hlb]; rfl, S, fun _ => by rw [add0, Blk.cell hlb]; rfl, fun _ => ⟨by decide, by omega, p1⟩, 4, fun _ => ct1 4 _ rfl, ?_⟩
  have := h w4 (((hg1.trans hg2).trans hg3).trans hg4)
  rw [hSn]
  exact this
end Go.Proofs.YtaneeadpjelomaaDoor

/- Layer 14: where a law stands: a device, results that are held, rows that are held. -/
namespace Go.Proofs.YtaneeadpjelomaaDoor
open Go CF

/-! ### blocks and their bytes -/
theorem setAll_eq {bs xs : List Bk} {F : Nat} (h : F + xs.length ≤ bs.length) : setAll bs F xs xs.length = bs.take F ++ xs ++ bs.drop (F + xs.length) := by
  apply List.ext_getElem?
  intro j
  by_cases hj : j < bs.length
  · rw [setAll_get _ _ _ _ h _ hj]
    have l1 : (bs.take F).length = F := by rw [List.length_take]; omega
    by_cases q : F ≤ j ∧ j < F + xs.length
    · rw [if_pos q, List.append_assoc, List.getElem?_append_right (by omega), l1, List.getElem?_append_left (by omega), List.getElem?_eq_getElem (by omega)]; rfl
    · rw [if_neg q]
      rcases Nat.lt_or_ge j F with q1 | q1
      · rw [List.append_assoc, List.getElem?_append_left (by omega), List.getElem?_take, if_pos q1]
      · rw [List.getElem?_append_right (by rw [List.length_append]; omega), List.length_append, l1, List.getElem?_drop, show F + xs.length + (j - (F + xs.length)) = j by omega]
  · rw [List.getElem?_eq_none (by rw [setAll_len]; omega), List.getElem?_eq_none (by simp; omega)]
theorem setAll_read {bs xs : List Bk} {F : Nat} (h : F + xs.length ≤ bs.length) : ((setAll bs F xs xs.length).drop F).take xs.length = xs := by
  have l1 : (bs.take F).length = F := by rw [List.length_take]; omega
  have hd := List.drop_left (l₁ := bs.take F) (l₂ := xs ++ bs.drop (F + xs.length))
  rw [l1] at hd
  rw [setAll_eq h, List.append_assoc, hd, List.take_append_of_le_length (Nat.le_refl _), List.take_length]
theorem packB_append (wt : Bool) (a b : List Bk) : packB wt (a ++ b) = packB wt a ++ packB wt b := by simp [packB]
theorem packB_data {a b : List Bk} (h : a.map Bk.d = b.map Bk.d) : packB false a = packB false b := by
  have e : ∀ l : List Bk, packB false l = (l.map Bk.d).flatten := by
    intro l
    induction l with
    | nil => rfl
    | cons x r ih => simp only [packB, List.flatMap_cons, List.map_cons, List.flatten_cons] at ih ⊢; rw [ih]; simp [wireB]
  rw [e, e, h]
theorem mkAll_data {kind lba : Nat} {U : List Bk} (j : Nat) : (mkAll kind lba U j).map Bk.d = U.map Bk.d := by
  apply List.ext_getElem
  · simp [mkAll_len]
  · intro i h1 h2
    have hi : i < U.length := by simpa using h2
    simp only [List.getElem_map]
    rw [mkAll_at _ _ _ _ _ hi]
    split <;> rfl
theorem chunks_all (l : L8) (z : Nat) : ∀ k, k * z ≤ l.length → (List.range k).flatMap (fun i => (l.drop (i * z)).take z) = l.take (k * z)
  | 0, _ => by simp
  | k + 1, h => by
    rw [Nat.succ_mul] at h
    rw [List.range_succ, List.flatMap_append, chunks_all l z k (by omega), List.flatMap_singleton, Nat.succ_mul, List.take_add]
theorem unpB_bytes {l : L8} (h : l.length % 16 = 0) : packB false (unpB false l) = l := by
  unfold packB unpB
  rw [List.flatMap_map]
  have e16 : szB false = 16 := rfl
  rw [e16]
  have hm : l.length / 16 * 16 = l.length := by have := Nat.div_add_mod l.length 16; omega
  have e : ∀ i ∈ List.range (l.length / 16), wireB false (unB false ((l.drop (i * 16)).take 16)) = (l.drop (i * 16)).take 16 := fun i hi => by
    have hi := List.mem_range.1 hi
    have hl : ((l.drop (i * 16)).take 16).length = 16 := by rw [List.length_take, List.length_drop]; omega
    show pad16 _ ++ [] = _
    rw [List.append_nil, pad16_eq hl]
  have e2 : (List.range (l.length / 16)).flatMap (fun i => wireB false (unB false ((l.drop (i * 16)).take 16))) = (List.range (l.length / 16)).flatMap (fun i => (l.drop (i * 16)).take 16) := by
    generalize List.range (l.length / 16) = r at *
    induction r with
    | nil => rfl
    | cons a r ih => rw [List.flatMap_cons, List.flatMap_cons, e a (by simp), ih (fun i hi => e i (by simp [hi]))]
  rw [e2, chunks_all l 16 _ (by omega), hm, List.take_length]
theorem mk_bytes {kind lba N : Nat} {l : L8} (h : l.length % 16 = 0) : packB false (mkAll kind lba (unpB false l) N) = l := by
  rw [packB_data (mkAll_data N), unpB_bytes h]
theorem mk_len {kind lba N : Nat} {l : L8} (h : l.length = 16 * N) : (mkAll kind lba (unpB false l) N).length = N := by
  rw [mkAll_len, unpB_len]
  show l.length / 16 = N
  omega
/-! ### blocks that stand every look -/
def Fine (kind : Nat) (bs : List Bk) : Prop := ∀ i (hi : i < bs.length), ∀ prot, chkB kind prot i bs[i] = 0
theorem fine_mk1 (kind lba prot : Nat) (b : Bk) : chkB kind prot lba (mk1 kind lba b) = 0 := by
  have e1 : (mk1 kind lba b).g = c16 (mk1 kind lba b).d := rfl
  have e2 : (mk1 kind lba b).r = mkR kind lba := rfl
  unfold chkB
  split
  · rfl
  · rename_i q
    have e3 : ¬ (prot ≠ 4 ∧ kind ≠ 3 ∧ (mk1 kind lba b).r ≠ lba % 4294967296) := fun e => e.2.2 (by
      have e4 : mkR kind lba = lba % 4294967296 := if_pos (by omega)
      rw [e2, e4])
    rw [if_neg (fun e => e.2 e1), if_neg e3]
theorem fine_empty (kind prot lba : Nat) : chkB kind prot lba emptyB = 0 := by
  have e : escB kind emptyB = true := by simp [escB, emptyB]
  unfold chkB
  rw [if_pos (by simp [e])]
theorem fine_rep (kind n : Nat) : Fine kind (List.replicate n emptyB) := fun i hi prot => by
  rw [List.getElem_replicate]; exact fine_empty _ _ _
theorem fine_set {kind F : Nat} {bs xs : List Bk} (h : Fine kind bs) (hF : F + xs.length ≤ bs.length) (hx : ∀ i (hi : i < xs.length) prot, chkB kind prot (F + i) xs[i] = 0) : Fine kind (setAll bs F xs xs.length) := fun i hi prot => by
  have hi' : i < bs.length := by rw [setAll_len] at hi; exact hi
  have e := setAll_get bs F xs xs.length hF i hi'
  rw [List.getElem?_eq_getElem hi] at e
  split at e
  · rename_i q
    rw [List.getElem?_eq_getElem (by omega)] at e
    rw [Option.some.inj e]
    have := hx (i - F) (by omega) prot
    rwa [show F + (i - F) = i by omega] at this
  · rw [List.getElem?_eq_getElem hi'] at e
    rw [Option.some.inj e]
    exact h i hi' prot
theorem fine_mk {kind F N : Nat} {U : List Bk} (hU : U.length = N) : ∀ i (hi : i < (mkAll kind F U N).length) prot, chkB kind prot (F + i) (mkAll kind F U N)[i] = 0 := fun i hi prot => by
  have hi' : i < U.length := by rw [mkAll_len] at hi; exact hi
  rw [mkAll_at _ _ _ _ _ hi', if_pos (by omega)]
  exact fine_mk1 _ _ _ _
theorem fine_part {kind lba k : Nat} {bs : List Bk} (h : Fine kind bs) : ∀ i (hi : i < ((bs.drop lba).take k).length) prot, chkB kind prot (lba + i) ((bs.drop lba).take k)[i] = 0 := fun i hi prot => by
  have hi2 : i < k ∧ lba + i < bs.length := by rw [List.length_take, List.length_drop] at hi; omega
  have e : ((bs.drop lba).take k)[i] = bs[lba + i]'hi2.2 := by simp
  rw [e]
  exact h _ hi2.2 prot
/-! ### where a law stands -/
structure Lw (w u : World) (dv ps pw : Nat) (file : ByteArray) (kind n : Nat) (cache : Bool) (D : Nat → Prop) (st : Wst) (bs : List Bk) (m : Nat) (ls : List (Nat × List Value × TypeId)) (rows : List (Sl × L8)) : Prop where
  grow : Grow w u
  dvs : Dv u dv ps pw file kind n cache D st bs m
  above : ∀ k, D k → w.heap.size ≤ k
  loc : ∀ x ∈ ls, Blk u x.1 x.2.1.toArray x.2.2 ∧ ¬ D x.1
  row : ∀ x ∈ rows, Rd u 1 x.1 (bv x.2) ∧ ∀ b, x.1.blk = some b → ¬ D b ∧ b < u.heap.size
section
variable {w u v : World} {dv ps pw : Nat} {file : ByteArray} {kind n : Nat} {cache : Bool} {D D' : Nat → Prop} {st st' : Wst} {bs bs' : List Bk} {m m' : Nat} {ls : List (Nat × List Value × TypeId)} {rows : List (Sl × L8)}
theorem Lw.go (L : Lw w u dv ps pw file kind n cache D st bs m ls rows) (g : Grow u v) : Lw w v dv ps pw file kind n cache D st bs m ls rows :=
  ⟨L.grow.trans g, L.dvs.grow g, L.above, fun x hx => ⟨g.heap (L.loc x hx).1 (fun q => q), (L.loc x hx).2⟩, fun x hx => ⟨(L.row x hx).1.grow g, fun b hb => ⟨((L.row x hx).2 b hb).1, by have := ((L.row x hx).2 b hb).2; have := g.size; omega⟩⟩⟩
theorem Lw.step (L : Lw w u dv ps pw file kind n cache D st bs m ls rows) (k : Keep D u v) (hd : Dv v dv ps pw file kind n cache D' st' bs' m') (hD : ∀ k, D' k → D k ∨ u.heap.size ≤ k) : Lw w v dv ps pw file kind n cache D' st' bs' m' ls rows := by
  have sg := L.grow.size
  refine ⟨L.grow.keep k fun i hi q => by have := L.above i q; omega, hd, fun j q => ?_, fun x hx => ⟨k.heap (L.loc x hx).1 (L.loc x hx).2, fun q => ?_⟩, fun x hx => ⟨(L.row x hx).1.keep k fun a ha _ q => ?_, fun b hb => ⟨fun q => ?_, ?_⟩⟩⟩
  · rcases hD j q with r | r
    · exact L.above j r
    · omega
  · rcases hD _ q with r | r
    · exact (L.loc x hx).2 r
    · have := lt_of_heap (L.loc x hx).1; omega
  · exact ((L.row x hx).2 a.block (by simp [Sl.blk, ha])).1 q
  · have h2 := (L.row x hx).2 b hb
    rcases hD _ q with r | r
    · exact h2.1 r
    · omega
  · have h2 := (L.row x hx).2 b hb
    have := k.size
    omega
/-- a result that is held -/
theorem Lw.res (L : Lw w u dv ps pw file kind n cache D st bs m ls rows) {s : Nat} {sn : Sn} {d : Sl} {K : Addr → World → Prop} (h : ∀ ab v, Lw w v dv ps pw file kind n cache D st bs m ((ab, rsv s sn d, t_api_Result) :: ls) rows → K ⟨ab, 0, none⟩ v) :
    New (.cells z10 t_api_Result) u fun a u1 => RunU Tryd.prog (storeVar t_api_Result a (.agg (rsv s sn d).toArray)) u1 fun x => K a x := by
  refine new_rule fun ab u1 hab hb1 hg1 hsz1 => lay_rule hb1 rfl fun u2 hb2 hk2 hsz2 => ?_
  have hg : Grow u u2 := hg1.keep hk2 fun i hi q => by omega
  have L2 := L.go hg
  refine h ab u2 ⟨L2.grow, L2.dvs, L2.above, fun x hx => ?_, L2.row⟩
  rcases List.mem_cons.1 hx with rfl | hx
  · exact ⟨hb2, fun q => by have := L.dvs.isW.lt q; omega⟩
  · exact L2.loc x hx
theorem Lw.held {ab : Nat} {vs : List Value} {t : TypeId} (L : Lw w u dv ps pw file kind n cache D st bs m ((ab, vs, t) :: ls) rows) : Blk u ab vs.toArray t := (L.loc _ List.mem_cons_self).1
/-- blocks are written without tuples -/
theorem Lw.write0K (L : Lw w u dv ps pw file kind n cache D st bs m ls rows) (hm : m ≤ 1000000) {c : Cm} {p : Sl} {l : L8} {K : Array Value → World → Prop} (hk : c.kind = 8 ∨ c.kind = 9) (hp0 : c.prot = 0) (hc : c.lba + c.blocks ≤ n) (hp : Rd u 1 p (bv l)) (hl : l.length = 16 * c.blocks)
    (h : ∀ v D', Keep D u v → (∀ k, D' k → D k ∨ u.heap.size ≤ k) → Lw w v dv ps pw file kind n cache D' (syncIf (syncs c.blocks (c.fua || decide (c.kind = 9)) cache) (layW st file c.lba (rsOf (mkAll kind c.lba (unpB false l) c.blocks)) c.blocks)) (setAll bs c.lba (mkAll kind c.lba (unpB false l) c.blocks) c.blocks) (m + c.blocks + 1) ls rows →
      K (rsv 0 sn0 nilS).toArray v) : Csbc_Dev_Do (some ⟨dv, 0, none⟩) (cmv c).toArray p u K := by
  have hsz := L.dvs.size
  have hkd := L.dvs.kd
  have hln := rd_n' hp
  have hkn : knownB kind c.prot = true := by unfold knownB; rw [hp0]; simp [hkd]
  have e0 : decide (c.prot ≠ 0) = false := by simpa using hp0
  have e16 : szB false = 16 := rfl
  have hcame : cameB kind c l c.blocks = mkAll kind c.lba (unpB false l) c.blocks := by unfold cameB; rw [if_pos hp0]
  refine do_spec L.dvs hm hp (by omega) (by omega) (by omega) (fun q => by rw [hkn] at q; cases q) (fun _ _ _ q => by omega) (fun _ q => by omega) (fun _ q => by omega) (fun _ _ _ q => ?_) (fun _ _ _ q => absurd hp0 q) (fun _ _ _ _ _ _ v D' hkp hdv hDD => ?_) (fun _ q => by omega)
    (fun _ _ ab v _ _ _ => ⟨fun q => by omega, fun q => by omega, fun q => by omega, fun q => by omega, fun q => by omega⟩) (fun _ a b c _ _ _ _ _ _ => by omega)
  · exfalso; rw [e0, e16] at q; omega
  · rw [hcame] at hdv
    exact h v D' hkp hDD (L.step hkp hdv hDD)
theorem Lw.write0 (L : Lw w u dv ps pw file kind n cache D st bs m ls rows) (hm : m ≤ 1000000) {c : Cm} {p : Sl} {l : L8} {K : Array Value → World → Prop} (hk : c.kind = 8 ∨ c.kind = 9) (hp0 : c.prot = 0) (hc : c.lba + c.blocks ≤ n) (hp : Rd u 1 p (bv l)) (hl : l.length = 16 * c.blocks)
    (h : ∀ v D', Lw w v dv ps pw file kind n cache D' (syncIf (syncs c.blocks (c.fua || decide (c.kind = 9)) cache) (layW st file c.lba (rsOf (mkAll kind c.lba (unpB false l) c.blocks)) c.blocks)) (setAll bs c.lba (mkAll kind c.lba (unpB false l) c.blocks) c.blocks) (m + c.blocks + 1) ls rows →
      K (rsv 0 sn0 nilS).toArray v) : Csbc_Dev_Do (some ⟨dv, 0, none⟩) (cmv c).toArray p u K := L.write0K hm hk hp0 hc hp hl fun v D' _ _ => h v D'
theorem Dv.ops (h : Dv u dv ps pw file kind n cache D st bs m) (k : Keep D u v) {j : Nat} (hw : IsW v pw D { st with ops := st.ops + j }) : Dv v dv ps pw file kind n cache D { st with ops := st.ops + j } bs (m + j) :=
  h.step k hw (fun _ q => .inl q) h.ok h.tells h.len (by have := h.few; show st.ops + j ≤ _ ∧ st.waits.length ≤ _; omega)
/-- blocks are read -/
theorem Lw.readK (L : Lw w u dv ps pw file kind n cache D st bs m ls rows) (hm : m ≤ 1000000) {c : Cm} {p : Sl} {l : L8} {K : Array Value → World → Prop} (hk : c.kind = 7) (hkn : knownB kind c.prot = true) (hc : c.lba + c.blocks ≤ n) (hp : Rd u 1 p (bv l)) (hpb : p.n ≤ 140737488351232) (hf : Fine kind bs)
    (h : ∀ d v, Keep D u v → RdW u v pw D st c.blocks → Lw w v dv ps pw file kind n cache D { st with ops := st.ops + c.blocks } bs (m + c.blocks) ls ((d, packB (decide (c.prot ≠ 0)) ((bs.drop c.lba).take c.blocks)) :: rows) → d.n = c.blocks * szB (decide (c.prot ≠ 0)) → Own v u.heap.size t_uint8 1 d (bv (packB (decide (c.prot ≠ 0)) ((bs.drop c.lba).take c.blocks))) → K (rsv 0 sn0 d).toArray v) :
    Csbc_Dev_Do (some ⟨dv, 0, none⟩) (cmv c).toArray p u K := by
  have hsz := L.dvs.size
  have hlen := L.dvs.len
  refine do_spec L.dvs hm hp hpb (by omega) (by omega) (fun q => by rw [hkn] at q; cases q) (fun _ _ _ q => by omega) (fun _ _ _ _ d v hkp hw hown => ?_) (fun _ _ _ i hi q => absurd (fine_part hf i hi c.prot) q) (fun _ q => by omega) (fun _ q => by omega) (fun _ q => by omega) (fun _ q => by omega)
    (fun _ _ ab v _ _ _ => ⟨fun q => by omega, fun q => by omega, fun q => by omega, fun q => by omega, fun q => by omega⟩) (fun _ a _ _ _ _ _ _ _ _ => by omega)
  have hLl : ((bs.drop c.lba).take c.blocks).length = c.blocks := by rw [List.length_take, List.length_drop]; omega
  have hdn := own_n' hown
  rw [packB_len, hLl] at hdn
  have hs24 : szB (decide (c.prot ≠ 0)) ≤ 24 := by unfold szB; split <;> decide
  have hmul : c.blocks * szB (decide (c.prot ≠ 0)) ≤ 4096 * 24 := Nat.mul_le_mul (by omega) hs24
  have L2 := L.step hkp (L.dvs.ops hkp (hw.isW L.dvs.isW)) (fun _ q => .inl q)
  refine h d v hkp hw ⟨L2.grow, L2.dvs, L2.above, L2.loc, fun x hx => ?_⟩ hdn hown
  rcases List.mem_cons.1 hx with rfl | hx
  · refine ⟨hown.rd (by omega), fun b hb => ⟨fun q => ?_, (hown.ge b hb).2⟩⟩
    have := (hown.ge b hb).1
    have := L.dvs.isW.lt q
    omega
  · exact L2.row x hx
theorem Lw.read (L : Lw w u dv ps pw file kind n cache D st bs m ls rows) (hm : m ≤ 1000000) {c : Cm} {p : Sl} {l : L8} {K : Array Value → World → Prop} (hk : c.kind = 7) (hkn : knownB kind c.prot = true) (hc : c.lba + c.blocks ≤ n) (hp : Rd u 1 p (bv l)) (hpb : p.n ≤ 140737488351232) (hf : Fine kind bs)
    (h : ∀ d v, Lw w v dv ps pw file kind n cache D { st with ops := st.ops + c.blocks } bs (m + c.blocks) ls ((d, packB (decide (c.prot ≠ 0)) ((bs.drop c.lba).take c.blocks)) :: rows) → d.n = c.blocks * szB (decide (c.prot ≠ 0)) → Own v u.heap.size t_uint8 1 d (bv (packB (decide (c.prot ≠ 0)) ((bs.drop c.lba).take c.blocks))) → K (rsv 0 sn0 d).toArray v) :
    Csbc_Dev_Do (some ⟨dv, 0, none⟩) (cmv c).toArray p u K := L.readK hm hk hkn hc hp hpb hf fun d v _ _ => h d v
end
end Go.Proofs.YtaneeadpjelomaaDoor

/- Layer 14: devices made; results compared; the device is awake. -/
namespace Go.Proofs.YtaneeadpjelomaaDoor
open Go CF

theorem rd_nilB (w : World) : Rd w 1 nilS (bv []) := rd_nil w 1
def kSn : List Kd := [.i .u8, .i .u16, .i .u64, .b, .i .i64, .i .i64, .b, .b]
theorem flat_api_Sense : flatK Tryd.prog 8 t_api_Sense = some kSn := by kernel_rfl
theorem kd_api_Sense : kd Tryd.prog t_api_Sense = .ag := by kernel_rfl
theorem gt_api_Sense : Tryd.prog.eqGuardType Tryd.prog.depth t_api_Sense = false := by kernel_rfl
theorem fit_snv (s : Sn) : FitL kSn (snv s) := ⟨rfl, rfl, rfl, rfl, rfl, rfl, rfl, rfl, trivial⟩
theorem rsv_sense {w : World} {b : Nat} {s : Nat} {sn : Sn} {d : Sl} (h : Blk w b (rsv s sn d).toArray t_api_Result) : Cells w ((⟨b, 0, none⟩ : Addr).add 1) (snv sn) := fun j v hj => by
  rw [addr_add]
  refine blk_cells h (1 + j) v ?_
  have : j < 8 := (List.getElem?_eq_some_iff.1 hj).1
  unfold rsv
  rw [List.append_assoc, List.getElem?_append_right (by simp), show 1 + j - [Value.int .u8 (s : Int)].length = j by simp, List.getElem?_append_left (by exact this)]
  exact hj
end Go.Proofs.YtaneeadpjelomaaDoor

/- Layer 15: two devices over one world; a unit is found. -/
namespace Go.Proofs.YtaneeadpjelomaaDoor
open Go CF

/-! ### a device reads and writes -/
section
variable {w u v : World} {dv ps pw : Nat} {file : ByteArray} {kind n : Nat} {cache : Bool} {D D' : Nat → Prop} {st st' : Wst} {bs bs' : List Bk} {m m' : Nat}
theorem Dv.read (h : Dv u dv ps pw file kind n cache D st bs m) (hm : m ≤ 1000000) {c : Cm} {p : Sl} {l : L8} {K : Array Value → World → Prop} (hk : c.kind = 7) (hkn : knownB kind c.prot = true) (hc : c.lba + c.blocks ≤ n) (hp : Rd u 1 p (bv l)) (hpb : p.n ≤ 140737488351232) (hf : Fine kind bs)
    (hK : ∀ d v, Keep D u v → RdW u v pw D st c.blocks → Dv v dv ps pw file kind n cache D { st with ops := st.ops + c.blocks } bs (m + c.blocks) → d.n = c.blocks * szB (decide (c.prot ≠ 0)) → Own v u.heap.size t_uint8 1 d (bv (packB (decide (c.prot ≠ 0)) ((bs.drop c.lba).take c.blocks))) → K (rsv 0 sn0 d).toArray v) :
    Csbc_Dev_Do (some ⟨dv, 0, none⟩) (cmv c).toArray p u K := by
  have hsz := h.size
  have hlen := h.len
  refine do_spec h hm hp hpb (by omega) (by omega) (fun q => by rw [hkn] at q; cases q) (fun _ _ _ q => by omega) (fun _ _ _ _ d v hkp hw hown => ?_) (fun _ _ _ i hi q => absurd (fine_part hf i hi c.prot) q) (fun _ q => by omega) (fun _ q => by omega) (fun _ q => by omega) (fun _ q => by omega)
    (fun _ _ ab v _ _ _ => ⟨fun q => by omega, fun q => by omega, fun q => by omega, fun q => by omega, fun q => by omega⟩) (fun _ a _ _ _ _ _ _ _ _ => by omega)
  have hLl : ((bs.drop c.lba).take c.blocks).length = c.blocks := by rw [List.length_take, List.length_drop]; omega
  have hdn := own_n' hown
  rw [packB_len, hLl] at hdn
  exact hK d v hkp hw (h.ops hkp (hw.isW h.isW)) hdn hown
theorem Dv.write0 (h : Dv u dv ps pw file kind n cache D st bs m) (hm : m ≤ 1000000) {c : Cm} {p : Sl} {l : L8} {K : Array Value → World → Prop} (hk : c.kind = 8 ∨ c.kind = 9) (hp0 : c.prot = 0) (hc : c.lba + c.blocks ≤ n) (hp : Rd u 1 p (bv l)) (hl : l.length = 16 * c.blocks)
    (hK : ∀ v D', Keep D u v → (∀ k, D' k → D k ∨ u.heap.size ≤ k) → Dv v dv ps pw file kind n cache D' (syncIf (syncs c.blocks (c.fua || decide (c.kind = 9)) cache) (layW st file c.lba (rsOf (mkAll kind c.lba (unpB false l) c.blocks)) c.blocks)) (setAll bs c.lba (mkAll kind c.lba (unpB false l) c.blocks) c.blocks) (m + c.blocks + 1) →
      K (rsv 0 sn0 nilS).toArray v) : Csbc_Dev_Do (some ⟨dv, 0, none⟩) (cmv c).toArray p u K := by
  have hsz := h.size
  have hkd := h.kd
  have hln := rd_n' hp
  have hkn : knownB kind c.prot = true := by unfold knownB; rw [hp0]; simp [hkd]
  have e0 : decide (c.prot ≠ 0) = false := by simpa using hp0
  have e16 : szB false = 16 := rfl
  have hcame : cameB kind c l c.blocks = mkAll kind c.lba (unpB false l) c.blocks := by unfold cameB; rw [if_pos hp0]
  refine do_spec h hm hp (by omega) (by omega) (by omega) (fun q => by rw [hkn] at q; cases q) (fun _ _ _ q => by omega) (fun _ q => by omega) (fun _ q => by omega) (fun _ _ _ q => ?_) (fun _ _ _ q => absurd hp0 q) (fun _ _ _ _ _ _ v D' hkp hdv hDD => ?_) (fun _ q => by omega)
    (fun _ _ ab v _ _ _ => ⟨fun q => by omega, fun q => by omega, fun q => by omega, fun q => by omega, fun q => by omega⟩) (fun _ a b c _ _ _ _ _ _ => by omega)
  · exfalso; rw [e0, e16] at q; omega
  · rw [hcame] at hdv
    exact hK v D' hkp hDD hdv
theorem Dv.out (h : Dv u dv ps pw file kind n cache D st bs m) (hm : m ≤ 1000000) {c : Cm} {p : Sl} {l : L8} {K : Array Value → World → Prop} (hk : c.kind = 8) (hp0 : c.prot = 0) (hc : n < c.lba + c.blocks) (hlb : c.lba < 18446744073709551616) (hbl : c.blocks < 18446744073709551616) (hp : Rd u 1 p (bv l)) (hpb : p.n ≤ 140737488351232)
    (hK : ∀ v, Grow u v → K (rsv 2 (atS 5 0x2100 c.lba) nilS).toArray v) : Csbc_Dev_Do (some ⟨dv, 0, none⟩) (cmv c).toArray p u K := by
  have hkd := h.kd
  have hkn : knownB kind c.prot = true := by unfold knownB; rw [hp0]; simp [hkd]
  refine do_spec h hm hp hpb hlb hbl (fun q => by rw [hkn] at q; cases q) (fun _ _ _ _ v hg => hK v hg) (fun _ q => by omega) (fun _ q => by omega) (fun _ _ q => by omega) (fun _ _ q => by omega) (fun _ _ q => by omega) (fun _ q => by omega)
    (fun _ _ ab v _ _ _ => ⟨fun q => by omega, fun q => by omega, fun q => by omega, fun q => by omega, fun q => by omega⟩) (fun _ a b c _ _ _ _ _ _ => by omega)
/-! ### another file is as it was -/
theorem cont_layW_ne {f : ByteArray} {lba : Nat} {rs : Nat → L8} (hf : f ≠ file) : ∀ k, cont (layW st f lba rs k) file = cont st file
  | 0 => rfl
  | k + 1 => by
    rw [← cont_layW_ne hf k]
    unfold cont
    show ((applyWr (layW st f lba rs k).seen f _ _ file)).getD [] = _
    unfold applyWr setF
    rw [if_neg (fun q => hf q.symm)]
theorem tells_of_cont (h : Tells st file bs) (hc : cont st' file = cont st file) : Tells st' file bs := by
  unfold Tells at h ⊢
  rw [hc]; exact h
/-- the device beside it, behind a step of the other one -/
theorem Dv.beside (h : Dv u dv ps pw file kind n cache D st bs m) (k : Keep D u v) {dv2 ps2 kind2 n2 : Nat} {file2 : ByteArray} {cache2 : Bool} {bs2 : List Bk} (h2 : Dv v dv2 ps2 pw file2 kind2 n2 cache2 D' st' bs2 m') (hD : ∀ k, D' k → D k ∨ u.heap.size ≤ k) (hc : cont st' file = cont st file) :
    Dv v dv ps pw file kind n cache D' st' bs m' := h.step k h2.isW hD h2.ok (tells_of_cont h.tells hc) h.len h2.few
end
/-! ### named devices -/
def nmv (x : ByteArray × Nat × Nat) : List Value := [.string x.1, .pointer (some ⟨x.2.1, 0, none⟩), .int .u8 (x.2.2 : Int)]
theorem nmv_len (x : ByteArray × Nat × Nat) : (nmv x).length = 3 := rfl
theorem nm_lit (w : World) (s : ByteArray) (b : Nat) : (Instr.buildSlice t_sl_xcopy_Named 1 #[(0, .agg #[.string s, .pointer (some ⟨b, 0, none⟩), .int .u8 0])]).run Tryd.prog w = .ok (.slice (some ⟨w.heap.size, 0, none⟩) 1 1) (w.alloc (.cells (nmv (s, b, 0)).toArray t_xcopy_Named)) := by kernel_rfl
theorem rnm_lit (w : World) (s : ByteArray) (b : Nat) : (Instr.buildSlice t_sl_palletref15_Named 1 #[(0, .agg #[.string s, .pointer (some ⟨b, 0, none⟩), .int .i64 0])]).run Tryd.prog w = .ok (.slice (some ⟨w.heap.size, 0, none⟩) 1 1) (w.alloc (.cells #[.string s, .pointer (some ⟨b, 0, none⟩), .int .i64 0] t_palletref15_Named)) := by kernel_rfl
theorem two_lit (w : World) (s t : ByteArray) : (Instr.buildSlice t_sl_string 2 #[(0, .string s), (1, .string t)]).run Tryd.prog w = .ok (.slice (some ⟨w.heap.size, 0, none⟩) 2 2) (w.alloc (.cells #[.string s, .string t] t_string)) := by kernel_rfl
theorem flat_congr {α β : Type} {f g : α → List β} {l : List α} (h : ∀ a ∈ l, f a = g a) : l.flatMap f = l.flatMap g := by
  unfold List.flatMap; rw [List.map_congr_left h]
def nm (j : Nat) : ByteArray := if j = 0 then s_a else s_b
/-- where a law of copies stands: two devices of 32 blocks over one world -/
structure Pw (u : World) (pw : Nat) (dv ps : Nat → Nat) (D : Nat → Prop) (st : Wst) (b0 b1 : List Bk) (m : Nat) : Prop where
  a : Dv u (dv 0) (ps 0) pw s_a 0 32 true D st b0 m
  b : Dv u (dv 1) (ps 1) pw s_b 1 32 true D st b1 m
theorem Pw.grow {u v : World} {pw : Nat} {dv ps : Nat → Nat} {D : Nat → Prop} {st : Wst} {b0 b1 : List Bk} {m : Nat} (h : Pw u pw dv ps D st b0 b1 m) (g : Grow u v) : Pw v pw dv ps D st b0 b1 m := ⟨h.a.grow g, h.b.grow g⟩
def e32 : List Bk := List.replicate 32 emptyB
theorem pair_spec {w : World} {R : Sl → Sl → Option Addr → Option Addr → World → Prop}
    (h : ∀ a b pw p1 dv ps D v, Grow w v → Pw v pw dv ps D st0 e32 e32 0 → (∀ k, D k → w.heap.size ≤ k) → Own v w.heap.size t_xcopy_Named 3 a ((List.range 2).flatMap fun j => nmv (nm j, dv j, 0)) → (∀ b, a.blk = some b → ¬ D b) → R a b (some ⟨pw, 0, none⟩) p1 v) : Cpalletlaw15_pair 32 w R := by
  refine Fpalletlaw15_pair.calls _ _ _ ?_
  refine world_new_spec fun pw D w1 hg1 hw1 hD1 => ?_
  refine Fpalletref03_New.calls _ _ ?_
  refine new_rule fun rb w2 hrb hb2 hg2 hsz2 => ?_
  have hw2 := hw1.grow hg2
  have g2 := hg1.trans hg2
  have sg2 := g2.size
  have sg1 := hg1.size
  refine ⟨fun a b i u => ∃ (k : Nat) (dv ps : Nat → Nat) (vsb : List Value), i = k ∧ k ≤ 2 ∧ Grow w2 u ∧ (∀ j, j < k → Blk u (dv j) (dvcells (ps j) j) t_sbc_Dev ∧ IsS u (ps j) pw (nm j) 32 true ∧ w2.heap.size ≤ dv j ∧ w2.heap.size ≤ ps j) ∧
      Own u w2.heap.size t_xcopy_Named 3 a ((List.range k).flatMap fun j => nmv (nm j, dv j, 0)) ∧ Own u w2.heap.size t_palletref15_Named 3 b vsb ∧ b.n = k, fun _ _ i _ => 2 - i.toNat,
    ⟨0, fun _ => 0, fun _ => 0, [], rfl, Nat.zero_le _, Keep.refl _ _, fun _ q => absurd q (Nat.not_lt_zero _), own_nil _ _ _ _, own_nil _ _ _ _, rfl⟩, ?_⟩
  rintro a b i u ⟨k, dv, ps, vsb, rfl, hk, hgu, hdev, ha, hb, hbn⟩
  have han : a.n = k := by have := ha.len; rw [flat_length (fun j => nmv_len _), List.length_range] at this; omega
  have hb0 := hb.len
  refine br_nat (y := 2) (fun hlt => ?_) (fun hge => ?_)
  · refine lit_rule (cells := #[.string s_a, .string s_b]) (e := t_string) (z := 1) (base := u.heap.size) (two_lit _ _ _) rfl (by decide) (Nat.le_refl _) fun u1 hlit1 hg1' _ => ?_
    obtain ⟨p1, ct1⟩ := rd_val (hlit1.rd (by show 2 ≤ _; decide)) (i := k) (by show k < 2; exact hlt)
    have hs : (#[Value.string s_a, Value.string s_b].toList)[k]'(by show k < 2; exact hlt) = .string (nm k) := by
      match k, hlt with
      | 0, _ => rfl
      | 1, _ => rfl
    rw [hs] at ct1
    refine ⟨⟨by omega, by show (k : Int) < 2; omega, p1⟩, nm k, by rw [Int.toNat_natCast]; exact ct1, ?_⟩
    have hnm : 1 ≤ (nm k).size ∧ (nm k).size ≤ 32 := by unfold nm; split <;> exact ⟨by decide, by decide⟩
    refine open_spec (blocks := 32) hnm (by decide) fun pb u2 hpb hg2' hS2 => ?_
    refine new_rule fun db u3 hdb hb3 hg3 hsz3 => ?_
    rw [wu8 (by omega) (by omega)] at hb3
    have g13 := (hg1'.trans hg2').trans hg3
    have sz := g13.size
    have sz2 := hg2'.size
    have szu := hgu.size
    have sz1 := hg1'.size
    refine lit_rule (cells := (nmv (nm k, db, 0)).toArray) (e := t_xcopy_Named) (z := 3) (base := u3.heap.size) (nm_lit _ _ _) rfl (by decide) (Nat.le_refl _) fun u4 hlit4 hg4 _ => ?_
    have g14 := g13.trans hg4
    refine append_rule u_sl_xcopy_Named i_xcopy_Named rfl (by decide) (by decide) (ha.grow g14) (hlit4.rd (by show 1 ≤ _; decide)) (by simp [nmv, Value.oneCell']) (by show (a.n + 1) * 32 ≤ _; omega) (by have := g14.size; omega) fun a1 u5 hn5 hown5 hk5 _ => ?_
    have ha4 := ha.grow g14
    have na : ∀ {b : Nat} {cs : Array Value} {t : TypeId}, Blk u4 b cs t → t ≠ t_xcopy_Named → Blk u5 b cs t := fun hb ht => hk5.heap hb fun e => ht (blk_type hb (own_heap ha4 e.symm).choose_spec)
    have g5 : Grow w2 u5 := (hgu.trans g14).keep hk5 fun i hi q => by have := (ha4.ge i q.symm).1; omega
    have hb5 : Own u5 w2.heap.size t_palletref15_Named 3 b vsb := (hb.grow g14).keep hk5 fun x hx e => by
      obtain ⟨c1, h1⟩ := own_heap (hb.grow g14) hx
      obtain ⟨c2, h2⟩ := own_heap ha4 e.symm
      rw [h1] at h2
      injection h2 with h2
      injection h2 with _ ht
      exact absurd ht (by decide)
    refine new_rule fun sb2 u6 hsb6 hb6 hg6 hsz6 => ?_
    refine new_rule fun db2 u7 hdb7 hb7 hg7 hsz7 => ?_
    refine lit_rule (cells := #[.string (nm k), .pointer (some ⟨db2, 0, none⟩), .int .i64 0]) (e := t_palletref15_Named) (z := 3) (base := u7.heap.size) (rnm_lit _ _ _) rfl (by decide) (Nat.le_refl _) fun u8 hlit8 hg8 _ => ?_
    have g58 := (hg6.trans hg7).trans hg8
    refine append_rule u_sl_palletref15_Named i_palletref15_Named rfl (by decide) (by decide) (hb5.grow g58) (hlit8.rd (by show 1 ≤ _; decide)) (by simp [Value.oneCell']) (by show (b.n + 1) * 32 ≤ _; omega) (by have := (g5.trans g58).size; omega) fun b1 u9 hn9 hown9 hk9 _ => ?_
    have hb8 := hb5.grow g58
    have nb : ∀ {b : Nat} {cs : Array Value} {t : TypeId}, Blk u8 b cs t → t ≠ t_palletref15_Named → Blk u9 b cs t := fun hb ht => hk9.heap hb fun e => ht (blk_type hb (own_heap hb8 e.symm).choose_spec)
    have g9 : Grow w2 u9 := (g5.trans g58).keep hk9 fun i hi q => by have := (hb8.ge i q.symm).1; omega
    have tr : ∀ {b : Nat} {cs : Array Value} {t : TypeId}, Blk u4 b cs t → t ≠ t_xcopy_Named → t ≠ t_palletref15_Named → Blk u9 b cs t := fun hb h1 h2 => nb (g58.heap (na hb h1) (fun q => q)) h2
    rw [w64 (by omega) (by omega)]
    refine ⟨⟨k + 1, fun j => if j = k then db else dv j, fun j => if j = k then pb else ps j, _, by omega, by omega, g9, fun j hj => ?_, ?_, hown9, by rw [hn9, hbn]⟩, by dsimp only; omega⟩
    · by_cases e : j = k
      · subst e
        simp only [if_pos]
        have hb3 : Blk u3 db (dvcells pb j) t_sbc_Dev := hb3
        exact ⟨tr (hg4.heap hb3 (fun q => q)) (by decide) (by decide), tr ((hg3.trans hg4).heap hS2 (fun q => q)) (by decide) (by decide), by omega, by omega⟩
      · simp only [if_neg e]
        obtain ⟨q1, q2, q3, q4⟩ := hdev j (by omega)
        exact ⟨tr (g14.heap q1 (fun q => q)) (by decide) (by decide), tr (g14.heap q2 (fun q => q)) (by decide) (by decide), q3, q4⟩
    · have e1 : (List.range (k + 1)).flatMap (fun j => nmv (nm j, (if j = k then db else dv j), 0)) = (List.range k).flatMap (fun j => nmv (nm j, dv j, 0)) ++ nmv (nm k, db, 0) := by
        rw [List.range_succ, List.flatMap_append]
        congr 1
        · exact flat_congr fun j hj => by rw [if_neg (by have := List.mem_range.1 hj; omega)]
        · simp
      rw [e1]
      refine (hown5.grow g58).keep hk9 fun x hx e => ?_
      obtain ⟨c1, h1⟩ := own_heap (hown5.grow g58) hx
      obtain ⟨c2, h2⟩ := own_heap hb8 e.symm
      rw [h1] at h2
      injection h2 with h2
      injection h2 with _ ht
      exact absurd ht (by decide)
  · have hk2 : k = 2 := by omega
    subst hk2
    have lD := fun k (q : D k) => hw1.lt q
    obtain ⟨d0, s0, x0, y0⟩ := hdev 0 (by decide)
    obtain ⟨d1, s1, x1, y1⟩ := hdev 1 (by decide)
    have hwu := hw2.grow hgu
    have s2 := hg2.size
    have mkD : ∀ {j : Nat} {f : ByteArray}, Blk u (dv j) (dvcells (ps j) j) t_sbc_Dev → IsS u (ps j) pw f 32 true → w2.heap.size ≤ dv j → w2.heap.size ≤ ps j → 1 ≤ f.size ∧ f.size ≤ 32 → j ≤ 3 → Dv u (dv j) (ps j) pw f j 32 true D st0 e32 0 := fun {j f} q1 q2 q3 q4 q5 q6 =>
      ⟨q1, q2, hwu, fun q => (by have := lD _ q; omega), fun q => (by have := lD _ q; omega), fun c hc => (by cases hc), tells_empty 32 f, List.length_replicate, by decide, q5, q6, ⟨Nat.le_refl _, Nat.le_refl _⟩⟩
    refine h a b pw _ dv ps D u (g2.trans hgu) ⟨mkD d0 s0 x0 y0 (by decide) (by decide), mkD d1 s1 x1 y1 (by decide) (by decide)⟩ hD1 (ha.mono sg2) fun x hx q => ?_
    have := (ha.ge x hx).1
    have := lD _ q
    omega
end Go.Proofs.YtaneeadpjelomaaDoor

/- Layer 15: a unit is found; a command and the place of its result in either order. -/
namespace Go.Proofs.YtaneeadpjelomaaDoor
open Go CF

/-- the device of this place bears the name of this unit -/
def fmatch (L : List (ByteArray × Nat × Nat)) (us : List L8) (i : Int) (k : Nat) : Prop := ∃ (hk : k < L.length) (_ : 0 ≤ i) (hi : i.toNat < us.length), L[k].1 = str us[i.toNat]
theorem find15_spec {i : Int} {fv fv1 : Addr} {devs U : Sl} {L : List (ByteArray × Nat × Nat)} {us : List L8} {w : World} {R : Option Addr → World → Prop} (hfv : w.cell? fv = some (.slice devs.A devs.n devs.c)) (hfv1 : w.cell? (fv1.add 0) = some (.slice U.A U.n U.c)) (hd : Rd w 3 devs (L.flatMap nmv)) (hU : Rd w 1 U (strsV us))
    (h1 : ∀ k, fmatch L us i k → (∀ j, j < k → ¬ fmatch L us i j) → ∀ v, Grow w v → R (some ((gA devs.A).add (k * 3))) v) (h2 : (∀ k, ¬ fmatch L us i k) → ∀ v, Grow w v → R none v) : Cxcopy_Run_1 i fv fv1 w R := by
  refine Fxcopy_Run_1.calls _ _ _ _ _ ?_
  have hdn := rd_as nmv_len (by decide) hd
  have hUn := strs_n hU
  have hnb := hd.nb
  refine ⟨devs, hfv, ?_⟩
  refine ⟨fun x u => ∃ k : Nat, x = k ∧ k ≤ L.length ∧ Grow w u ∧ ∀ j, j < k → ¬ fmatch L us i j, fun x _ => L.length - x.toNat, ⟨0, rfl, Nat.zero_le _, Keep.refl _ _, fun _ q => absurd q (Nat.not_lt_zero _)⟩, ?_⟩
  rintro x u ⟨k, rfl, hk, hgu, hno⟩
  refine br_nat (fun hlt => ?_) (fun hge => h2 (fun j q => hno j (by have := q.choose; omega) q) u hgu)
  rintro u1 rfl
  have hg1 : Grow w u.drew := hgu.trans (keep_drew u)
  have c1 : ∀ {v : World}, v = u.drew → v.cell? fv = some (.slice devs.A devs.n devs.c) := fun e => by rw [e]; exact hg1.cell hfv (fun q => q)
  have c2 : ∀ {v : World}, v = u.drew → v.cell? (fv1.add 0) = some (.slice U.A U.n U.c) := fun e => by rw [e]; exact hg1.cell hfv1 (fun q => q)
  obtain ⟨a1, ct1⟩ := rd_str nmv_len (by decide) (hd.grow hg1) (i := k) (by omega)
  by_cases hi : 0 ≤ i ∧ i.toNat < us.length
  · obtain ⟨a2, ct2⟩ := strs_at (hU.grow hg1) hi.2
    refine ⟨fun v => v = u.drew, rfl, U, fun v hv => c2 hv, devs, fun _ v hv => c1 hv, fun _ => ⟨by omega, by omega, a1⟩, (L[k]'(by omega)).1, fun _ v hv => by rw [Int.toNat_natCast, hv]; exact ct1 0 _ rfl, U, fun _ v hv => c2 hv, fun _ => ⟨hi.1, by omega, a2⟩, str us[i.toNat], fun _ v hv => by rw [hv]; exact ct2, ?_⟩
    have hc : (decide (i < (U.n : Int)) && decide (i ≥ 0)) = true := by rw [Bool.and_eq_true, decide_eq_true_eq, decide_eq_true_eq]; omega
    rw [hc]
    by_cases q : (L[k]'(by omega)).1 = str us[i.toNat]
    · refine br_t (by rw [Bool.true_and, sEq_iff]; exact q) ⟨devs, c1 rfl, ⟨by omega, by omega, a1⟩, ?_⟩
      rw [Int.toNat_natCast]
      exact h1 k ⟨by omega, hi.1, hi.2, q⟩ hno _ hg1
    · refine br_f (by rw [Bool.true_and, Bool.eq_false_iff]; intro e; exact q (sEq_iff.1 e)) ?_
      rw [w64 (by omega) (by omega)]
      refine ⟨⟨k + 1, by omega, by omega, hg1, fun j hj => ?_⟩, by dsimp only; omega⟩
      by_cases e : j = k
      · subst e; rintro ⟨_, _, _, e⟩; exact q e
      · exact hno j (by omega)
  · have hc : (decide (i < (U.n : Int)) && decide (i ≥ 0)) = false := by rw [Bool.and_eq_false_iff, decide_eq_false_iff_not, decide_eq_false_iff_not]; omega
    refine ⟨fun v => v = u.drew, rfl, U, fun v hv => c2 hv, nilS, fun q => (by rw [hc] at q; cases q), fun q => (by rw [hc] at q; cases q), ⟨#[]⟩, fun q => (by rw [hc] at q; cases q), nilS, fun q => (by rw [hc] at q; cases q), fun q => (by rw [hc] at q; cases q), ⟨#[]⟩, fun q => (by rw [hc] at q; cases q), br_f (by rw [hc]; rfl) ?_⟩
    rw [w64 (by omega) (by omega)]
    refine ⟨⟨k + 1, by omega, by omega, hg1, fun j hj => ?_⟩, by dsimp only; omega⟩
    by_cases e : j = k
    · subst e; rintro ⟨_, e1, e2, _⟩; exact hi ⟨e1, e2⟩
    · exact hno j (by omega)
/-! ### a command, and a place for its result, in either order -/
def Side (v v' : World) (rb : Nat) : Prop := Grow v v' ∨ ∃ cs, Blk v rb cs t_api_Result ∧ Keep (fun k => k = rb) v v'
theorem Side.keep {v v' : World} {rb : Nat} (h : Side v v' rb) : Keep (fun k => k = rb) v v' := by
  rcases h with g | ⟨_, _, k⟩
  · exact g.mono fun _ _ q => q.elim
  · exact k
theorem Side.own {v v' : World} {rb base z : Nat} {e : TypeId} {s : Sl} {vs : List Value} (h : Side v v' rb) (ho : Own v base e z s vs) (ht : t_api_Result ≠ e) : Own v' base e z s vs := by
  rcases h with g | ⟨_, hb, k⟩
  · exact ho.grow g
  · refine ho.keep k fun b hb2 q => ?_
    obtain ⟨cur, hc⟩ := own_heap ho hb2
    subst q
    exact ht (blk_type hb hc)
theorem Side.blk {v v' : World} {rb b : Nat} {cs : Array Value} {t : TypeId} (h : Side v v' rb) (hb : Blk v b cs t) (hn : b ≠ rb) : Blk v' b cs t := h.keep.heap hb hn
theorem Side.dv {v v' : World} {rb dv ps pw : Nat} {file : ByteArray} {kind n : Nat} {cache : Bool} {D : Nat → Prop} {st : Wst} {bs : List Bk} {m : Nat} (h : Side v v' rb) (hd : Dv v dv ps pw file kind n cache D st bs m) (hn : ¬ D rb) : Dv v' dv ps pw file kind n cache D st bs m := by
  rcases h with g | ⟨_, hb, k⟩
  · exact hd.grow g
  · exact hd.put hb (by decide) (by decide) (by decide) hn k
theorem do_new2 {w : World} {S : World → Prop} {p2 : Option Addr} {cmd : Array Value} {arg : Sl} {K : Addr → World → Prop} (D : Nat → Prop) (hD : ∀ k, D k → k < w.heap.size) (Post : World → Nat → Sn → Sl → World → Prop)
    (hdo : ∀ u, Grow w u → ∀ Q : Array Value → World → Prop, (∀ s sn d v, Post u s sn d v → Q (rsv s sn d).toArray v) → Csbc_Dev_Do p2 cmd arg u Q) (hpost : ∀ u s sn d v, Grow w u → Post u s sn d v → Keep D u v) (hS : ∀ v, Keep D w v → S v)
    (hK : ∀ u s sn d v rb v', Grow w u → Post u s sn d v → Side v v' rb → Blk v' rb (rsv s sn d).toArray t_api_Result → w.heap.size ≤ rb → Keep D w v' → (rb < u.heap.size ∨ v.heap.size ≤ rb) → K ⟨rb, 0, none⟩ v') :
    (Csbc_Dev_Do p2 cmd arg w fun g w1 => New (.cells z10 t_api_Result) w1 fun r w2 => S w2 ∧ RunU Tryd.prog (storeVar t_api_Result r (.agg g)) w2 fun w3 => K r w3) ∧
    (New (.cells z10 t_api_Result) w fun r w1 => S w1 ∧ Csbc_Dev_Do p2 cmd arg w1 fun g w2 => RunU Tryd.prog (storeVar t_api_Result r (.agg g)) w2 fun w3 => K r w3) := by
  constructor
  · refine hdo w (Keep.refl _ _) _ fun s sn d v hp => ?_
    have hkv := hpost w s sn d v (Keep.refl _ _) hp
    refine new_rule fun rb w2 hrb hb2 hg2 hsz2 => ⟨hS w2 (hkv.grow hg2), ?_⟩
    refine lay_rule hb2 rfl fun w3 hb3 hk3 hsz3 => ?_
    have hg3 : Grow v w3 := hg2.keep hk3 fun i hi q => by omega
    have := hkv.size
    exact hK w s sn d v rb w3 (Keep.refl _ _) hp (.inl hg3) hb3 (by omega) (hkv.grow hg3) (.inr (by omega))
  · refine new_rule fun rb w1 hrb hb1 hg1 hsz1 => ⟨hS w1 (hg1.mono fun _ _ q => q.elim), ?_⟩
    refine hdo w1 hg1 _ fun s sn d v hp => ?_
    have hkv := hpost w1 s sn d v hg1 hp
    have nrb : ¬ D rb := fun q => by have := hD rb q; omega
    have hbv := hkv.heap hb1 nrb
    have hkw : Keep D w v := (hg1.mono fun _ _ q => q.elim).trans hkv fun _ _ q => q
    refine lay_rule hbv rfl fun w3 hb3 hk3 hsz3 => ?_
    exact hK w1 s sn d v rb w3 hg1 hp (.inr ⟨_, hbv, hk3⟩) hb3 (by omega) (keepD_new hkw (by omega) hk3) (.inl (by omega))
/-- a result that is held -/
theorem res_new {v : World} {s : Nat} {sn : Sn} {d : Sl} {K : Addr → World → Prop} (h : ∀ rb v', rb = v.heap.size → Grow v v' → Blk v' rb (rsv s sn d).toArray t_api_Result → K ⟨rb, 0, none⟩ v') :
    New (.cells z10 t_api_Result) v fun a v1 => RunU Tryd.prog (storeVar t_api_Result a (.agg (rsv s sn d).toArray)) v1 fun x => K a x := by
  refine new_rule fun rb v1 hrb hb1 hg1 hsz1 => lay_rule hb1 rfl fun v2 hb2 hk2 hsz2 => ?_
  exact h rb v2 hrb (hg1.keep hk2 fun i hi q => by omega) hb2
end Go.Proofs.YtaneeadpjelomaaDoor

/- Layer 15: copies between two devices, as the program does them. -/
namespace Go.Proofs.YtaneeadpjelomaaDoor
open Go CF

def cpB (b0 b1 : List Bk) (x : SegX) : List Bk := setAll b1 x.dst (mkAll 1 x.dst (unpB false (packB false ((b0.drop x.src).take x.blocks.toNat))) x.blocks.toNat) x.blocks.toNat
def cpN (b0 b1 : List Bk) (ss : List SegX) : Nat → List Bk
  | 0 => b1
  | k + 1 => match ss[k]? with | some x => cpB b0 (cpN b0 b1 ss k) x | none => cpN b0 b1 ss k
theorem cpB_len (b0 b1 : List Bk) (x : SegX) : (cpB b0 b1 x).length = b1.length := setAll_len _ _ _ _
theorem cpN_len (b0 b1 : List Bk) (ss : List SegX) : ∀ k, (cpN b0 b1 ss k).length = b1.length
  | 0 => rfl
  | k + 1 => by
    show (match ss[k]? with | some x => cpB b0 (cpN b0 b1 ss k) x | none => cpN b0 b1 ss k).length = _
    split
    · rw [cpB_len, cpN_len b0 b1 ss k]
    · exact cpN_len b0 b1 ss k
structure SegR (x : SegX) : Prop where
  f : x.from_ = 0
  b0 : 0 ≤ x.blocks
  src : x.src + x.blocks.toNat ≤ 32
def SegGood (x : SegX) : Prop := SegR x ∧ x.to_ = 1 ∧ x.dst + x.blocks.toNat ≤ 32
def SegBad (x : SegX) (code : Nat) : Prop := SegR x ∧ ((x.to_ = 2 ∧ code = 3330) ∨ (x.to_ = 1 ∧ 32 < x.dst + x.blocks.toNat ∧ x.dst < 18446744073709551616 ∧ code = 8448))
theorem fail_build (w : World) (n : Nat) : (Instr.build t_api_Result #[(0, .int .u8 2), (1, .agg #[.int .u8 10, .int .u16 3330, .int .u64 (n : Int), .bool true, .int .i64 0, .int .i64 0, .bool false, .bool false])]).run Tryd.prog w = .ok (.agg (rsv 2 (atS 10 3330 n) nilS).toArray) w := by kernel_rfl
def rdC (lba blocks : Nat) : Cm := ⟨7, false, lba, blocks, 0, false, 0, false, false, 0, 0, false, 0, 0, false⟩
def wrC (lba blocks : Nat) : Cm := ⟨8, false, lba, blocks, 0, false, 0, false, false, 0, 0, false, 0, 0, false⟩
theorem fine_cp {b0 b1 : List Bk} {x : SegX} (h1 : Fine 1 b1) (hl0 : b0.length = 32) (hl1 : b1.length = 32) (hs : SegR x) (hd : x.dst + x.blocks.toNat ≤ 32) : Fine 1 (cpB b0 b1 x) := by
  have hsrc := hs.src
  have hpl : ((b0.drop x.src).take x.blocks.toNat).length = x.blocks.toNat := by rw [List.length_take, List.length_drop]; omega
  have hl : (packB false ((b0.drop x.src).take x.blocks.toNat)).length = 16 * x.blocks.toNat := by rw [packB_len, hpl]; show _ * 16 = _; omega
  have hmk := mk_len (kind := 1) (lba := x.dst) hl
  have := fine_set h1 (F := x.dst) (xs := mkAll 1 x.dst (unpB false (packB false ((b0.drop x.src).take x.blocks.toNat))) x.blocks.toNat) (by rw [hmk]; omega) (fine_mk (by rw [unpB_len, hl]; show 16 * x.blocks.toNat / 16 = _; omega))
  rw [hmk] at this
  exact this
def resX (ss : List SegX) (n0 code : Nat) : List Value := if n0 = ss.length then rsv 0 sn0 nilS else rsv 2 (atS 10 code n0) nilS
set_option maxHeartbeats 1000000 in
theorem run15_spec {U S devs : Sl} {us : List L8} {ss : List SegX} {w : World} {pw : Nat} {dv ps : Nat → Nat} {D : Nat → Prop} {st : Wst} {b0 b1 : List Bk} {m n0 code : Nat} {R : Int → Array Value → World → Prop}
    (T : Pw w pw dv ps D st b0 b1 m) (hm : m ≤ 1000) (hU : Rd w 1 U (strsV us)) (hS : Rd w 5 S (ss.flatMap sgv)) (hd : Rd w 3 devs ((List.range 2).flatMap fun j => nmv (nm j, dv j, 0))) (nU : ∀ a, U.A = some a → ¬ D a.block) (nS : ∀ a, S.A = some a → ¬ D a.block) (nd : ∀ a, devs.A = some a → ¬ D a.block)
    (hu2 : 2 ≤ us.length) (hua : us[0]? = some [97]) (hub : us[1]? = some [98]) (huc : ∀ s, us[2]? = some s → s ≠ [97] ∧ s ≠ [98]) (hs8 : ss.length ≤ 8) (hf0 : Fine 0 b0) (hf1 : Fine 1 b1)
    (hn0 : n0 ≤ ss.length) (hgood : ∀ i (hi : i < ss.length), i < n0 → SegGood ss[i]) (hbad : ∀ (h : n0 < ss.length), SegBad ss[n0] code)
    (h : ∀ v D' st' m', m' ≤ m + 1000 → Keep D w v → (∀ k, D' k → D k ∨ w.heap.size ≤ k) → Pw v pw dv ps D' st' b0 (cpN b0 b1 ss n0) m' → Fine 1 (cpN b0 b1 ss n0) → R (n0 : Int) (resX ss n0 code).toArray v) : Cxcopy_Run (lsv U S) devs w R := by
  refine Fxcopy_Run.calls _ _ _ _ ?_
  have hUn := strs_n hU
  have hSn := rd_as sgv_len (by decide) hS
  have lD := fun k (q : D k) => T.a.isW.lt q
  have hl0 := T.a.len
  have hl1 := T.b.len
  refine new_rule fun lb w0 hlb hb0 hg0 hsz0 => ?_
  refine new_rule fun vb w1 hvb hb1 hg1 hsz1 => ?_
  refine new_rule fun ab w2 hab hb2 hg2 hsz2 => ?_
  have g12 := hg1.trans hg2
  have g02 := hg0.trans g12
  have hl2 : Blk w2 lb (lsv U S) t_xcopy_List := g12.heap hb0 (fun q => q)
  have hv2 : Blk w2 vb #[.slice devs.A devs.n devs.c] t_sl_xcopy_Named := hg2.heap hb1 (fun q => q)
  have ha2 : Blk w2 ab z10 t_api_Result := hb2
  have sz2 := g02.size
  have nlb : ¬ D lb := fun q => by have := lD _ q; omega
  have nvb : ¬ D vb := fun q => by have := lD _ q; omega
  have nab : ¬ D ab := fun q => by have := lD _ q; omega
  have hU2 : ∀ {u : World}, Keep D w2 u → Rd u 1 U (strsV us) := fun k => (hU.grow g02).keep k fun a ha _ => nU a ha
  have hS2 : ∀ {u : World}, Keep D w2 u → Rd u 5 S (ss.flatMap sgv) := fun k => (hS.grow g02).keep k fun a ha _ => nS a ha
  have hd2 : ∀ {u : World}, Keep D w2 u → Rd u 3 devs ((List.range 2).flatMap fun j => nmv (nm j, dv j, 0)) := fun k => (hd.grow g02).keep k fun a ha _ => nd a ha
  have cl1 : ∀ {u : World}, Keep D w2 u → u.cell? ((⟨lb, 0, none⟩ : Addr).add 1) = some (.slice S.A S.n S.c) := fun k => by rw [add0, Blk.cell (k.heap hl2 nlb)]; rfl
  have cl0 : ∀ {u : World}, Keep D w2 u → u.cell? ((⟨lb, 0, none⟩ : Addr).add 0) = some (.slice U.A U.n U.c) := fun k => by rw [add0, Blk.cell (k.heap hl2 nlb)]; rfl
  have cv : ∀ {u : World}, Keep D w2 u → u.cell? ⟨vb, 0, none⟩ = some (.slice devs.A devs.n devs.c) := fun k => by rw [Blk.cell (k.heap hv2 nvb)]; rfl
  have k2w : ∀ {u : World}, Keep D w2 u → Keep D w u := fun k => (g02.mono fun _ _ q => q.elim).trans k fun _ _ q => q
  refine ⟨S, cl1 (Keep.mono (Keep.refl (fun _ => False) w2) fun _ _ q => q.elim), ?_⟩
  refine ⟨fun x u => ∃ (k : Nat) (D' : Nat → Prop) (st' : Wst) (m' : Nat), x = k ∧ k ≤ n0 ∧ Keep D w2 u ∧ (∀ j, D' j → D j ∨ w2.heap.size ≤ j) ∧ Pw u pw dv ps D' st' b0 (cpN b0 b1 ss k) m' ∧ m' ≤ m + 70 * k ∧ Fine 1 (cpN b0 b1 ss k), fun x _ => ss.length - x.toNat,
    ⟨0, D, st, m, rfl, Nat.zero_le _, Keep.mono (Keep.refl (fun _ => False) w2) (fun _ _ q => q.elim), fun _ q => .inl q, T.grow g02, by omega, hf1⟩, ?_⟩
  rintro x u ⟨k, D', st', m', rfl, hk, hku, hDD, Tu, hm', hfk⟩
  have lD' := fun k (q : D' k) => Tu.a.isW.lt q
  have szu := hku.size
  have nab' : ¬ D' ab := fun q => by rcases hDD _ q with e | e; exact nab e; have := lt_of_heap ha2; omega
  rw [← hSn]
  refine br_nat (fun hlt => ?_) (fun hge => ?_)
  · -- a segment
    have hkb : k < n0 ∨ k = n0 := by omega
    have hR : SegR ss[k] := by
      rcases hkb with q | q
      · exact (hgood k hlt q).1
      · subst q; exact (hbad hlt).1
    have hto : ss[k].to_ = 1 ∨ ss[k].to_ = 2 := by
      rcases hkb with q | q
      · exact .inl (hgood k hlt q).2.1
      · subst q
        rcases (hbad hlt).2 with e | e
        · exact .inr e.1
        · exact .inl e.1
    have hgk : k < n0 → SegGood ss[k] := hgood k hlt
    have hbk : k = n0 → SegBad ss[k] code := fun e => by subst e; exact hbad hlt
    have hcn : cpN b0 b1 ss (k + 1) = cpB b0 (cpN b0 b1 ss k) ss[k] := by
      show (match ss[k]? with | some x => cpB b0 (cpN b0 b1 ss k) x | none => cpN b0 b1 ss k) = _
      rw [List.getElem?_eq_getElem hlt]
    obtain ⟨a1, ct1⟩ := rd_str sgv_len (by decide) (hS2 hku) hlt
    have hlx : (cpN b0 b1 ss k).length = 32 := by rw [cpN_len]; exact hl1
    refine letX0 (fun y => ∃ (D'' : Nat → Prop) (st'' : Wst) (m'' : Nat), k < n0 ∧ Keep D w2 y ∧ (∀ j, D'' j → D j ∨ w2.heap.size ≤ j) ∧ Pw y pw dv ps D'' st'' b0 (cpB b0 (cpN b0 b1 ss k) ss[k]) m'' ∧ m'' ≤ m' + 70 ∧ Fine 1 (cpB b0 (cpN b0 b1 ss k) ss[k])) ?_ (fun J => ?_)
    · rintro y ⟨D'', st'', m'', q1, q2, q3, q4, q5, q6⟩
      rw [w64 (by omega) (by omega)]
      exact ⟨⟨k + 1, D'', st'', m'', by omega, by omega, q2, q3, by rw [hcn]; exact q4, by omega, by rw [hcn]; exact q6⟩, by dsimp only; omega⟩
    refine ⟨⟨by omega, by omega, a1⟩, _, by rw [Int.toNat_natCast]; exact segLoad ct1, ?_⟩
    generalize hxk : ss[k] = s at *
    generalize hC : cpN b0 b1 ss k = C at *
    refine new_rule fun xb u1 hxb hbx1 hgx1 hszx1 => ?_
    refine storeVar_rule (cells := (sgv s).toArray) hbx1 i_xcopy_Seg rfl rfl (by simp [sgv, Value.oneCell']) fun u2 hbx2 hkx2 hszx2 => ?_
    have hgu2 : Grow u u2 := hgx1.keep hkx2 fun i hi q => by omega
    have hbx2 : Blk u2 xb (sgv s).toArray t_xcopy_Seg := hbx2
    rintro u3 rfl
    have hg3 := keep_drew u2
    have bx : ∀ {v : World} {i : Nat} {x : Value}, Blk v xb (sgv s).toArray t_xcopy_Seg → (sgv s).toArray[i]? = some x → v.cell? ((⟨xb, 0, none⟩ : Addr).add i) = some x := fun g e => by rw [add0, Blk.cell g, Nat.zero_add]; exact e
    have kd : ∀ {v : World}, Grow u v → Keep D w2 v := fun g => hku.grow g
    refine ⟨fun v => Grow u2 v, hg3, s.from_, fun v hv => bx (hv.heap hbx2 (fun q => q)) rfl, s.to_, fun v hv => bx (hv.heap hbx2 (fun q => q)) rfl, ?_⟩
    refine ⟨rfl, ?_⟩
    show Cxcopy_Run_1 s.from_ ⟨vb, 0, none⟩ ⟨lb, 0, none⟩ _ _
    have L0 : ∀ {i : Int} {k : Nat}, fmatch ((List.range 2).map fun j => (nm j, dv j, 0)) us i k ↔ (k = 0 ∧ 0 ≤ i ∧ us[i.toNat]? = some [97]) ∨ (k = 1 ∧ 0 ≤ i ∧ us[i.toNat]? = some [98]) := by
      intro i k
      constructor
      · rintro ⟨h1, h2, h3, h4⟩
        have hk2 : k < 2 := h1
        match k, hk2 with
        | 0, _ => exact .inl ⟨rfl, h2, by rw [List.getElem?_eq_getElem h3, str_inj (a := us[i.toNat]) (b := [97]) h4.symm]⟩
        | 1, _ => exact .inr ⟨rfl, h2, by rw [List.getElem?_eq_getElem h3, str_inj (a := us[i.toNat]) (b := [98]) h4.symm]⟩
      · rintro (⟨rfl, h2, h3⟩ | ⟨rfl, h2, h3⟩)
        · obtain ⟨h4, h5⟩ := List.getElem?_eq_some_iff.1 h3
          exact ⟨by show 0 < 2; decide, h2, h4, by rw [h5]; rfl⟩
        · obtain ⟨h4, h5⟩ := List.getElem?_eq_some_iff.1 h3
          exact ⟨by show 1 < 2; decide, h2, h4, by rw [h5]; rfl⟩
    have hd3 : ∀ {v : World}, Keep D w2 v → Rd v 3 devs (((List.range 2).map fun j => (nm j, dv j, 0)).flatMap nmv) := fun k => by rw [List.flatMap_map]; exact hd2 k
    have z0 : (0 : Int).toNat = 0 := rfl
    have z1 : (1 : Int).toNat = 1 := rfl
    have z2 : (2 : Int).toNat = 2 := rfl
    refine find15_spec (i := s.from_) (cv (kd (hgu2.trans hg3))) (cl0 (kd (hgu2.trans hg3))) (hd3 (kd (hgu2.trans hg3))) (hU2 (kd (hgu2.trans hg3))) (fun j hj _ u4 hg4 => ?_) (fun hno => absurd (L0.2 (.inl ⟨rfl, by rw [hR.f]; decide, by rw [hR.f, z0]; exact hua⟩)) (hno 0))
    obtain rfl : j = 0 := by
      rcases L0.1 hj with ⟨e, _⟩ | ⟨_, _, e⟩
      · exact e
      · rw [hR.f, z0, hua] at e; cases e
    have hg24 : Grow u2 u4 := hg3.trans hg4
    refine ⟨hg24, rfl, ?_⟩
    show Cxcopy_Run_1 s.to_ ⟨vb, 0, none⟩ ⟨lb, 0, none⟩ _ _
    have eF : IntKind.wrap .u64 ((k : Nat) : Int) = (k : Int) := wu64 (by omega) (by omega)
    -- the places of the failure
    have fl : ∀ {v : World} {K : Addr → World → Prop}, Grow u v → (∀ fb v', fb = v.heap.size → Grow v v' → Blk v' fb (rsv 2 (atS 10 3330 k) nilS).toArray t_api_Result → K ⟨fb, 0, none⟩ v') →
        ∃ g1 : Array Value, (Instr.build t_api_Result #[(0, .int .u8 2), (1, .agg #[.int .u8 10, .int .u16 3330, .int .u64 (IntKind.wrap .u64 ((k : Nat) : Int)), .bool true, .int .i64 0, .int .i64 0, .bool false, .bool false])]).run Tryd.prog v = .ok (.agg g1) v ∧
          New (.cells z10 t_api_Result) v fun failed v1 => RunU Tryd.prog (storeVar t_api_Result failed (.agg g1)) v1 fun v2 => K failed v2 := by
      intro v K hv hK
      refine ⟨_, by rw [eF]; exact fail_build v k, ?_⟩
      refine new_rule fun fb v1 hfb hbf1 hgf1 hszf1 => lay_rule hbf1 rfl fun v2 hbf2 hkf2 hszf2 => ?_
      exact hK fb v2 hfb (hgf1.keep hkf2 fun i hi q => by omega) hbf2
    -- the last step of a failure
    have last : ∀ {v : World} {fb : Nat} {code' : Nat}, k = n0 → code' = code → Keep D w2 v → Pw v pw dv ps D' st' b0 C m' ∨ (∃ st3 m3, m3 ≤ m' + 70 ∧ Pw v pw dv ps D' st3 b0 C m3) → Blk v fb (rsv 2 (atS 10 code' k) nilS).toArray t_api_Result → fb ≠ ab →
        ∀ w013, w013 = v.drew → ∃ S1 : World → Prop, S1 w013 ∧ ∃ g2 : Array Value, (∀ u2, S1 u2 → (loadVar t_api_Result ⟨fb, 0, none⟩).run Tryd.prog u2 = .ok (.agg g2) u2) ∧ RunU Tryd.prog (storeVar t_api_Result ⟨ab, 0, none⟩ (.agg g2)) w013 fun w013 =>
          ∃ res : Array Value, (loadVar t_api_Result ⟨ab, 0, none⟩).run Tryd.prog w013 = .ok (.agg res) w013 ∧ R ((k : Nat) : Int) res w013 := by
      rintro v fb code' ek ec hkv hP hbf hne w3 rfl
      have hgd := keep_drew v
      refine ⟨fun x => x = v.drew, rfl, (rsv 2 (atS 10 code' k) nilS).toArray, fun x hx => by rw [hx]; exact rLoad (blk_cells (hgd.heap hbf (fun q => q))), ?_⟩
      have hab3 : Blk v.drew ab z10 t_api_Result := hgd.heap (hkv.heap ha2 nab) (fun q => q)
      refine ret_rule hab3 rfl fun v5 hk5 => ?_
      have hk5w : Keep D w v5 := keepD_new (k2w (hkv.grow hgd)) (by have := lt_of_heap ha2; omega) hk5
      have hrs : rsv 2 (atS 10 code' k) nilS = resX ss n0 code := by
        unfold resX; rw [if_neg (by omega), ek, ec]
      rw [hrs, ek]
      rw [ek] at hC
      obtain ⟨st3, m3, hm3, P3⟩ : ∃ st3 m3, m3 ≤ m' + 70 ∧ Pw v pw dv ps D' st3 b0 C m3 := by
        rcases hP with p | p
        · exact ⟨st', m', by omega, p⟩
        · exact p
      have P4 := P3.grow hgd
      refine h v5 D' st3 m3 (by omega) hk5w (fun j q => ?_) ⟨?_, ?_⟩ (by rw [hC]; exact hfk)
      · rcases hDD j q with e | e
        · exact .inl e
        · exact .inr (by omega)
      · exact P4.a.put hab3 (by decide) (by decide) (by decide) nab' hk5
      · rw [hC]; exact P4.b.put hab3 (by decide) (by decide) (by decide) nab' hk5
    have hg4u := hgu2.trans hg24
    obtain ⟨ad, cd0⟩ := rd_str nmv_len (by decide) (hd3 (kd hg4u)) (i := 0) (by show 0 < 2; decide)
    obtain ⟨_, cd1⟩ := rd_str nmv_len (by decide) (hd3 (kd hg4u)) (i := 1) (by show 1 < 2; decide)
    refine find15_spec (i := s.to_) (cv (kd hg4u)) (cl0 (kd hg4u)) (hd3 (kd hg4u)) (hU2 (kd hg4u)) (fun j hj _ u5 hg5 => ?_) (fun hno u5 hg5 => ?_)
    case refine_2 =>
      -- no such unit
      have hbd : k = n0 := by
        rcases hkb with q | q
        · exact absurd (L0.2 (.inr ⟨rfl, by rw [(hgk q).2.1]; decide, by rw [(hgk q).2.1, z1]; exact hub⟩)) (hno 1)
        · exact q
      have hc2 : code = 3330 := by
        rcases (hbk hbd).2 with e | e
        · exact e.2
        · exact absurd (L0.2 (.inr ⟨rfl, by rw [e.1]; decide, by rw [e.1, z1]; exact hub⟩)) (hno 1)
      refine fl (hg4u.trans hg5) fun fb u6 hfb hg6 hbf => ?_
      have szz := (hg4u.trans hg5).size
      refine ⟨fun q => by simp at q, 0, fun q => by simp at q, fun q => by simp at q, 0, fun q => by simp at q, br_t (by simp) ?_⟩
      exact last hbd hc2.symm (kd ((hg4u.trans hg5).trans hg6)) (.inl (Tu.grow ((hg4u.trans hg5).trans hg6))) hbf (by have := lt_of_heap ha2; omega)
    obtain ⟨rfl, hto1⟩ : j = 1 ∧ s.to_ = 1 := by
      rcases hto with e | e
      · rcases L0.1 hj with ⟨_, _, q⟩ | ⟨q, _⟩
        · rw [e, z1, hub] at q; cases q
        · exact ⟨q, e⟩
      · exfalso
        rcases L0.1 hj with ⟨_, _, q⟩ | ⟨_, _, q⟩
        · rw [e, z2] at q; exact (huc _ q).1 rfl
        · rw [e, z2] at q; exact (huc _ q).2 rfl
    refine fl (hg4u.trans hg5) fun fb u6 hfb hg6 hbf => ?_
    have hg46 := hg5.trans hg6
    have hg6u := hg4u.trans hg46
    have szz := (hg4u.trans hg5).size
    have szz6 := hg6u.size
    have fne : fb ≠ ab := by have := lt_of_heap ha2; omega
    have cdev : ∀ {v : World}, Keep D' u6 v → (∀ a, devs.A = some a → ¬ D' a.block) → v.cell? ((gA (some ((gA devs.A).add (0 * 3)))).add 1) = some (.pointer (some ⟨dv 0, 0, none⟩)) ∧ v.cell? ((gA (some ((gA devs.A).add (1 * 3)))).add 1) = some (.pointer (some ⟨dv 1, 0, none⟩)) := fun kv hn => by
      obtain ⟨A0, hA0⟩ := Option.isSome_iff_exists.1 ad
      have nn := hn A0 hA0
      rw [hA0] at cd0 cd1 ⊢
      refine ⟨kv.cell (hg46.cell (cd0 1 _ rfl) (fun q => q)) ?_, kv.cell (hg46.cell (cd1 1 _ rfl) (fun q => q)) ?_⟩
      · rw [add_block]; show ¬ D' ((A0.add (0 * 3)).block); rw [add_block]; exact nn
      · rw [add_block]; show ¬ D' ((A0.add (1 * 3)).block); rw [add_block]; exact nn
    have ndD' : ∀ a, devs.A = some a → ¬ D' a.block := fun a ha q => by
      rcases hDD _ q with e | e
      · exact nd a ha e
      · obtain ⟨a', ha', hc⟩ := hd.at_ (fun q => by have := congrArg List.length q; rw [flat_length (fun j => nmv_len _), List.length_range] at this; exact absurd this (by decide))
        rw [ha] at ha'
        obtain rfl := Option.some.inj ha'
        have := cell_lt (hc 0 _ rfl)
        rw [add_block] at this
        omega
    have and1 : (bAnd .u8 0 1 != 0) = false := by decide
    have and2 : (bAnd .u8 0 2 != 0) = false := by decide
    have k6 : Keep D' u6 u6 := Keep.mono (Keep.refl (fun _ => False) u6) fun _ _ q => q.elim
    have sh0 : u6.cell? ((gA (some ((gA devs.A).add (0 * 3)))).add 2) = some (.int .u8 0) := hg46.cell (cd0 2 _ rfl) (fun q => q)
    have sh1 : u6.cell? ((gA (some ((gA devs.A).add (1 * 3)))).add 2) = some (.int .u8 0) := hg46.cell (cd1 2 _ rfl) (fun q => q)
    refine ⟨fun _ => rfl, 0, fun _ => sh0, fun _ => rfl, 0, fun _ => sh1, br_f (by rw [and1, and2]; rfl) ?_⟩
    rintro u7 rfl
    have hg7 := keep_drew u6
    have hg7u := hg6u.trans hg7
    have hbx7 : Blk u6.drew xb (sgv s).toArray t_xcopy_Seg := ((hg24.trans hg46).trans hg7).heap hbx2 (fun q => q)
    have hbf7 : Blk u6.drew fb (rsv 2 (atS 10 3330 k) nilS).toArray t_api_Result := hg7.heap hbf (fun q => q)
    have nxb : ¬ D' xb := fun q => by have := lD' _ q; omega
    have nfb : ¬ D' fb := fun q => by have := lD' _ q; omega
    have T7 := Tu.grow hg7u
    have k67 : ∀ {v : World}, Keep D' u6.drew v → Keep D' u6 v := fun kv => (hg7.mono fun _ _ q => q.elim).trans kv fun _ _ q => q
    have kw7 : ∀ {v : World}, Keep D' u6.drew v → Keep D w2 v := fun kv => (hku.grow hg7u).trans kv fun i hi q => by
      rcases hDD i q with e | e
      · exact e
      · omega
    refine ⟨fun v => Keep D' u6.drew v, Keep.mono (Keep.refl (fun _ => False) _) (fun _ _ q => q.elim), rfl, some ⟨dv 0, 0, none⟩, fun v hv => (cdev (k67 hv) ndD').1, (s.src : Int), fun v hv => bx (hv.heap hbx7 nxb) rfl, s.blocks, fun v hv => bx (hv.heap hbx7 nxb) rfl, ?_⟩
    have hb0' := hR.b0
    have hsrc := hR.src
    have eB : IntKind.wrap .u64 (mx s.blocks 0) = ((s.blocks.toNat : Nat) : Int) := by
      have : mx s.blocks 0 = s.blocks := by unfold mx; split <;> omega
      rw [this, wu64 (by omega) (by omega)]; omega
    rw [eB]
    have lD7 : ∀ k, D' k → k < u6.drew.heap.size := fun j q => T7.a.isW.lt q
    have hpl : ((b0.drop s.src).take s.blocks.toNat).length = s.blocks.toNat := by rw [List.length_take, List.length_drop]; omega
    generalize hN : s.blocks.toNat = N at *
    refine do_new2 D' lD7 (fun y r sn d v => r = 0 ∧ sn = sn0 ∧ Keep D' y v ∧ RdW y v pw D' st' N ∧ Dv v (dv 0) (ps 0) pw s_a 0 32 true D' { st' with ops := st'.ops + N } b0 (m' + N) ∧ d.n = N * 16 ∧ Own v y.heap.size t_uint8 1 d (bv (packB false ((b0.drop s.src).take N))))
      (fun y hy Q hQ => (T7.a.grow hy).read (by omega) (c := rdC s.src N) rfl rfl (by show s.src + N ≤ 32; omega) (rd_nilB y) (by decide) hf0 fun d v q1 q2 q3 q4 q5 => hQ 0 sn0 d v ⟨rfl, rfl, q1, q2, q3, q4, q5⟩)
      (fun y r sn d v _ hp => hp.2.2.1) (fun v hv => hv) ?_
    rintro y r sn d v rb v' hgy ⟨rfl, rfl, hkv, hrd, hdva, hdn, hown⟩ hside hbr hrb hkv' _
    have nrb : ¬ D' rb := fun q => by have := lD7 _ q; omega
    have Ta : Dv v' (dv 0) (ps 0) pw s_a 0 32 true D' { st' with ops := st'.ops + N } b0 (m' + N) := hside.dv hdva nrb
    have Tb : Dv v' (dv 1) (ps 1) pw s_b 1 32 true D' { st' with ops := st'.ops + N } C (m' + N) := hside.dv ((T7.b.grow hgy).ops hkv (hrd.isW (T7.b.grow hgy).isW)) nrb
    have hown' := hside.own hown (by decide)
    have hc9 : v'.cell? ((⟨rb, 0, none⟩ : Addr).add 9) = some (.slice d.A d.n d.c) := by rw [add0, Blk.cell hbr]; rfl
    have hpk : (packB false ((b0.drop s.src).take N)).length = 16 * N := by rw [packB_len, hpl]; show N * 16 = _; omega
    refine ⟨0, by rw [add0, Blk.cell hbr]; rfl, ?_⟩
    refine letX0 (fun z => Keep D w2 z ∧ (∀ {cs : Array Value} {b : Nat} {t : TypeId}, Blk v' b cs t → ¬ D' b → b ≠ rb → Blk z b cs t) ∧ ((s.dst + N ≤ 32 ∧ Blk z rb (rsv 0 sn0 nilS).toArray t_api_Result ∧ ∃ D'' st'' m'', (∀ j, D'' j → D j ∨ w2.heap.size ≤ j) ∧ Pw z pw dv ps D'' st'' b0 (cpB b0 C s) m'' ∧ m'' ≤ m' + 70) ∨
        (32 < s.dst + N ∧ Blk z rb (rsv 2 (atS 5 8448 s.dst) nilS).toArray t_api_Result ∧ Pw z pw dv ps D' { st' with ops := st'.ops + N } b0 C (m' + N)))) ?_ (fun J1 => ?_)
    · rintro z ⟨hkz, hbz, hcase⟩
      rcases hcase with ⟨hin, hbz2, D'', st'', m'', q1, q2, q3⟩ | ⟨hout, hbz2, hPz⟩
      · refine ⟨0, by rw [add0, Blk.cell hbz2]; rfl, br_f rfl ?_⟩
        have hkn : k < n0 := by
          rcases hkb with q | q
          · exact q
          · exfalso
            rcases (hbk q).2 with e | e
            · rw [hto1] at e; exact absurd e.1 (by decide)
            · have := e.2.1; omega
        exact J z ⟨D'', st'', m'', hkn, hkz, q1, q2, q3, fine_cp hfk hl0 hlx hR (by rw [hN]; exact hin)⟩
      · refine ⟨2, by rw [add0, Blk.cell hbz2]; rfl, br_t rfl ⟨8448, by rw [addr_add, add0, Blk.cell hbz2]; rfl, ?_⟩⟩
        have hbd : k = n0 := by
          rcases hkb with q | q
          · have := (hgk q).2.2; omega
          · exact q
        have hc2 : code = 8448 := by
          rcases (hbk hbd).2 with e | e
          · rw [hto1] at e; exact absurd e.1 (by decide)
          · exact e.2.2.2
        have hfr : fb ≠ rb := by have := lt_of_heap hbf7; omega
        have hbfz := hbz (hkv'.heap hbf7 nfb) nfb hfr
        rw [addr_add, add0]
        refine put_rule hbfz (by show 2 < 10; decide) rfl fun z1 hb1 hk1 _ => ?_
        have hb1 : Blk z1 fb (rsv 2 (atS 10 8448 k) nilS).toArray t_api_Result := hb1
        have hkz1 : Keep D w2 z1 := keepD_new hkz (by have := lt_of_heap ha2; omega) hk1
        exact last hbd hc2.symm hkz1 (.inr ⟨_, _, by omega, ⟨hPz.a.put hbfz (by decide) (by decide) (by decide) nfb hk1, hPz.b.put hbfz (by decide) (by decide) (by decide) nfb hk1⟩⟩) hb1 fne
    refine br_t rfl ⟨d, hc9, ?_⟩
    refine unpack_spec (wt := false) (hown'.rd (by omega)) (by omega) (fun q => absurd (show (packB false ((b0.drop s.src).take N)).length % 16 ≠ 0 from q) (by rw [hpk]; omega)) fun _ xs y1 hgy1 hxs => ?_
    have hxn : xs.n = N := by
      have := hxs.len
      rw [flat_bc_len, unpB_len, hpk] at this
      have e16 : szB false = 16 := rfl
      rw [e16] at this
      omega
    rintro y2 rfl
    have hgy2 : Grow v' y1.drew := hgy1.trans (keep_drew y1)
    have hk2' : ∀ {z : World}, Grow v' z → Keep D' u6.drew z := fun g => hkv'.grow g
    refine ⟨fun z => Grow v' z, hgy2, rfl, some ⟨dv 1, 0, none⟩, fun z hz => (cdev (k67 (hk2' hz)) ndD').2, (s.dst : Int), fun z hz => bx ((hk2' hz).heap hbx7 nxb) rfl, d, fun z hz => by rw [add0, Blk.cell (hz.heap hbr (fun q => q))]; rfl, ?_⟩
    rw [hxn, wu64 (n := (N : Int)) (by omega) (by omega)]
    have hdr := (hown'.grow hgy2).rd (by omega)
    have Ta2 := Ta.grow hgy2
    have Tb2 := Tb.grow hgy2
    have hbr2 := hgy2.heap hbr (fun q => q)
    by_cases hin : s.dst + N ≤ 32
    · refine Tb2.write0 (by omega) (c := wrC s.dst N) (.inl rfl) rfl (by show s.dst + N ≤ 32; exact hin) hdr hpk fun z D'' hkz hDz hdz => ?_
      have Ta3 := Ta2.beside hkz hdz hDz (by rw [cont_syncIf]; exact cont_layW_ne (by decide) _)
      have hkz' : Keep D' u6.drew z := (hk2' hgy2).trans hkz fun _ _ q => q
      have hbrz := hkz.heap hbr2 nrb
      refine lay_rule hbrz rfl fun z1 hb1 hk1 hsz1 => ?_
      have nrb' : ¬ D'' rb := fun q => by
        rcases hDz _ q with e | e
        · exact nrb e
        · have := lt_of_heap hbr2; omega
      have s67 := hg7u.size
      refine J1 z1 ⟨keepD_new (kw7 hkz') (by omega) hk1, fun hb hn hne => hk1.heap (hkz.heap (hgy2.heap hb (fun q => q)) hn) hne, .inl ⟨hin, hb1, D'', _, _, fun j q => ?_, ⟨Ta3.put hbrz (by decide) (by decide) (by decide) nrb' hk1, ?_⟩, ?_⟩⟩
      · rcases hDz j q with e | e
        · exact hDD j e
        · right; have := (hk2' hgy2).size; omega
      · have e : cpB b0 C s = setAll C s.dst (mkAll 1 s.dst (unpB false (packB false ((b0.drop s.src).take N))) N) N := by unfold cpB; rw [hN]
        rw [e]
        exact Dv.put hdz hbrz (by decide) (by decide) (by decide) nrb' hk1
      · show m' + N + N + 1 ≤ m' + 70
        omega
    · have hdst : s.dst < 18446744073709551616 := by
        rcases hkb with q | q
        · have := (hgk q).2.2; omega
        · rcases (hbk q).2 with e | e
          · rw [hto1] at e; exact absurd e.1 (by decide)
          · exact e.2.2.1
      refine Tb2.out (by omega) (c := wrC s.dst N) rfl rfl (by show 32 < s.dst + N; omega) hdst (by show N < _; omega) hdr (by omega) fun z hgz => ?_
      have hbrz := hgz.heap hbr2 (fun q => q)
      refine lay_rule hbrz rfl fun z1 hb1 hk1 hsz1 => ?_
      have s67 := hg7u.size
      exact J1 z1 ⟨keepD_new (kw7 (hk2' (hgy2.trans hgz))) (by omega) hk1, fun hb hn hne => hk1.heap ((hgy2.trans hgz).heap hb (fun q => q)) hne, .inr ⟨by omega, hb1, ⟨(Ta2.grow hgz).put hbrz (by decide) (by decide) (by decide) nrb hk1, (Tb2.grow hgz).put hbrz (by decide) (by decide) (by decide) nrb hk1⟩⟩⟩
  · -- all segments are done
    have hkn : k = ss.length := by omega
    have hn : n0 = ss.length := by omega
    refine ⟨S, cl1 hku, ?_⟩
    have hau : Blk u ab z10 t_api_Result := hku.heap ha2 nab
    refine ret_rule (st := 0) (s := sn0) (d := nilS) hau rfl fun v5 hk5 => ?_
    have hrs : rsv 0 sn0 nilS = resX ss n0 code := by unfold resX; rw [if_pos hn]
    rw [hrs, ← hSn, ← hn]
    have hkn0 : k = n0 := by omega
    subst hkn0
    exact h v5 D' st' m' (by omega) (keepD_new (k2w hku) (by omega) hk5) (fun j q => by
      rcases hDD j q with e | e
      · exact .inl e
      · exact .inr (by omega)) ⟨Tu.a.put hau (by decide) (by decide) (by decide) nab' hk5, Tu.b.put hau (by decide) (by decide) (by decide) nab' hk5⟩ hfk
end Go.Proofs.YtaneeadpjelomaaDoor

/- Layer 14: ranges hold nothing any more. -/
namespace Go.Proofs.YtaneeadpjelomaaDoor
open Go CF

theorem get_any {p : Sl} {l : L8} {at_ n : Nat} {w : World} {R : Int → Int → World → Prop} (hp : Rd w 1 p (bv l)) (hb : p.n ≤ 140737489403904) (hn : 1 ≤ n) (hn8 : n ≤ 8) (ha : at_ ≤ 140737489403904)
    (h : R ((if at_ + n ≤ l.length then num ((l.drop at_).take n) else 0 : Nat) : Int) (if at_ + n ≤ l.length then 0 else 4) w) : Cbe_Get p (at_ : Int) (n : Int) w R := by
  by_cases q : at_ + n ≤ l.length
  · rw [if_pos q, if_pos q] at h
    exact get_spec hp hb hn hn8 q h
  · rw [if_neg q, if_neg q] at h
    have hln := rd_n' hp
    refine Fbe_Get.calls _ _ _ _ _ (Fbe_field.calls _ _ _ _ _ ?_)
    have e1 : IntKind.wrap .i64 ((p.n : Int) - (n : Int)) = (p.n : Int) - (n : Int) := w64 (by omega) (by omega)
    refine br_f (by rw [Bool.or_eq_false_iff, decide_eq_false_iff_not, decide_eq_false_iff_not]; omega) (br_t (by rw [Bool.or_eq_true, decide_eq_true_eq, decide_eq_true_eq, e1]; omega) (br_t rfl h))
/-- the ranges that parameters tell -/
def rngL (l : L8) (j : Nat) : Nat := num ((l.drop (8 + 16 * j)).take 8)
def rngK (l : L8) (j : Nat) : Nat := num ((l.drop (8 + 16 * j + 8)).take 4)
def sumK (l : L8) : Nat → Nat
  | 0 => 0
  | j + 1 => sumK l j + rngK l j
def unAll (bs : List Bk) (l : L8) : Nat → List Bk
  | 0 => bs
  | j + 1 => setAll (unAll bs l j) (rngL l j) [] (rngK l j)
theorem unAll_len (bs : List Bk) (l : L8) : ∀ j, (unAll bs l j).length = bs.length
  | 0 => rfl
  | j + 1 => by simp only [unAll]; rw [setAll_len, unAll_len bs l j]
theorem sumK_mono (l : L8) {i j : Nat} (h : i ≤ j) : sumK l i ≤ sumK l j := by
  induction j with
  | zero => rw [Nat.le_zero.1 h]; exact Nat.le_refl _
  | succ j ih =>
    rcases Nat.lt_or_ge i (j + 1) with q | q
    · have := ih (by omega); simp only [sumK]; omega
    · have : i = j + 1 := by omega
      rw [this]; exact Nat.le_refl _
theorem rngK_lt (l : L8) (j : Nat) : rngK l j < 4294967296 := num_take _ 4
theorem rngL_lt (l : L8) (j : Nat) : rngL l j < 18446744073709551616 := num_take _ 8
section
variable {w u : World} {dv ps pw : Nat} {file : ByteArray} {kind n : Nat} {cache : Bool} {D D' : Nat → Prop} {st st' : Wst} {bs bs' : List Bk} {m m' : Nat}
theorem Dv.unmap (h : Dv w dv ps pw file kind n cache D st bs m) (hm : m ≤ 1000000) {lba k : Nat} {R : Int → Int → World → Prop} (hk : lba + k ≤ n)
    (hR : ∀ u D' st', Keep D w u → Dv u dv ps pw file kind n cache D' st' (setAll bs lba [] k) (m + k + 1) → (∀ k, D' k → D k ∨ w.heap.size ≤ k) → R (k : Int) 0 u) : Cstore_Store_Unmap (some ⟨ps, 0, none⟩) (lba : Int) (k : Int) w R := by
  have hsz := h.size
  have hlen := h.len
  have hfew := h.few
  refine store_unmap_spec h.isS h.nps h.isW h.ok h.nm hsz.2 hk (by omega) (by omega) fun u D2 hk2 hw2 hD2 hS2 => ?_
  obtain ⟨lo, lw⟩ := layW_ops st file lba (fun _ => [0]) k
  have so := syncIf_ops (syncs k false cache) (layW st file lba (fun _ => [0]) k)
  have sw : (syncIf (syncs k false cache) (layW st file lba (fun _ => [0]) k)).waits.length ≤ st.waits.length + k := by
    rw [syncIf_waits]
    split
    · exact Nat.zero_le _
    · omega
  exact hR u D2 _ hk2 (h.step hk2 hw2 hD2 (syncIf_ok (layW_ok h.ok (fun _ => by decide) k (by omega))) (tells_unmap h.tells (by omega)) (by rw [setAll_len]; exact hlen) (by omega)) hD2
theorem dev_unmap_spec {p : Sl} {l : L8} {K : Array Value → World → Prop} (h : Dv w dv ps pw file kind n cache D st bs m) (hm : m ≤ 900000) (hp : Rd w 1 p (bv l)) (hb : p.n ≤ 140737488351232)
    (hpk : ∀ v, Keep D w v → Rd v 1 p (bv l))
    (k0 : l.length = 0 → ∀ u, Grow w u → K (rsv 0 sn0 nilS).toArray u)
    (kE : ∀ sn, sn.key = 5 → (l.length < 8 ∨ num ((l.drop 0).take 2) ≠ l.length - 2 ∨ num ((l.drop 2).take 2) ≠ l.length - 8 ∨ (l.length - 8) % 16 ≠ 0 ∨ (∃ j, j < (l.length - 8) / 16 ∧ n < rngL l j + rngK l j) ∨ 256 < sumK l ((l.length - 8) / 16)) → ∀ u, Grow w u → K (rsv 2 sn nilS).toArray u)
    (kG : ∀ u D' st', 8 ≤ l.length → Keep D w u → Dv u dv ps pw file kind n cache D' st' (unAll bs l ((l.length - 8) / 16)) (m + 5000) → (∀ k, D' k → D k ∨ w.heap.size ≤ k) → K (rsv 0 sn0 nilS).toArray u) :
    Csbc_Dev_unmap (some ⟨dv, 0, none⟩) p w K := by
  refine Fsbc_Dev_unmap.calls _ _ _ _ ?_
  have hsz := h.size
  have hlen := h.len
  have hln := rd_n' hp
  refine new_rule fun ab w1 hab hb1 hg1 hsz1 => ?_
  have hb1 : Blk w1 ab z10 t_api_Result := hb1
  have lD := fun k (q : D k) => h.isW.lt q
  have nab : ¬ D ab := fun q => by have := lD _ q; omega
  have ret : ∀ {v : World} {s : Nat} {sn : Sn} {d : Sl}, Grow w1 v → (∀ v', Grow w v' → K (rsv s sn d).toArray v') →
      RunU Tryd.prog (storeVar t_api_Result ⟨ab, 0, none⟩ (.agg (rsv s sn d).toArray)) v fun w' => ∃ res : Array Value, (loadVar t_api_Result ⟨ab, 0, none⟩).run Tryd.prog w' = .ok (.agg res) w' ∧ K res w' := fun g hR => ret_rule (g.heap hb1 (fun q => q)) rfl fun v' hk => hR v' (grow_new (hg1.trans g) (by omega) hk)
  by_cases hl0 : l.length = 0
  · exact br_t (by rw [beq_iff_eq]; omega) (good_spec fun v hv => ret hv (k0 hl0))
  refine br_f (by rw [beq_eq_false_iff_ne]; omega) ?_
  have hp1 := hp.grow hg1
  refine get_any (at_ := 0) (n := 2) hp1 (by omega) (by decide) (by decide) (by decide) ?_
  refine get_any (at_ := 2) (n := 2) hp1 (by omega) (by decide) (by decide) (by decide) ⟨fun _ => by decide, ?_⟩
  have n02 := num_take (l.drop 0) 2
  have n22 := num_take (l.drop 2) 2
  have p256 : (256 : Nat) ^ 2 = 65536 := rfl
  rw [p256] at n02 n22
  by_cases hform : 8 ≤ l.length ∧ num ((l.drop 0).take 2) = l.length - 2 ∧ num ((l.drop 2).take 2) = l.length - 8 ∧ (l.length - 8) % 16 = 0
  case neg =>
    refine br_t ?_ (length_spec fun v hv => ret hv (kE _ rfl (by omega)))
    by_cases h8 : l.length < 8
    · simp only [Bool.or_eq_true, decide_eq_true_eq]
      left; left; left; right; omega
    · rw [if_pos (by omega), if_pos (by omega), if_pos (by omega), w64 (by omega) (by omega), w64 (by omega) (by omega), w64 (by omega) (by omega), w64 (by omega) (by omega)]
      have em : (((num ((l.drop 2).take 2) : Nat) : Int).tmod 16) = ((num ((l.drop 2).take 2) % 16 : Nat) : Int) := rfl
      rw [em]
      simp only [Bool.or_eq_true, bne_iff_ne, ne_eq]
      by_cases q1 : num ((l.drop 0).take 2) = l.length - 2
      · by_cases q2 : num ((l.drop 2).take 2) = l.length - 8
        · right; omega
        · left; right; omega
      · left; left; right; omega
  obtain ⟨h8, hf1, hf2, hf3⟩ := hform
  rw [if_pos (by omega), if_pos (by omega), if_pos (by omega)]
  refine br_f ?_ ?_
  · rw [w64 (by omega) (by omega), w64 (by omega) (by omega), w64 (by omega) (by omega), w64 (by omega) (by omega)]
    have em : (((num ((l.drop 2).take 2) : Nat) : Int).tmod 16) = ((num ((l.drop 2).take 2) % 16 : Nat) : Int) := rfl
    rw [em]
    simp only [Bool.or_eq_false_iff, bne_eq_false_iff_eq, decide_eq_false_iff_not]
    exact ⟨⟨⟨⟨trivial, by omega⟩, by omega⟩, by omega⟩, by omega⟩
  generalize hN : (l.length - 8) / 16 = N at *
  have hlN : l.length = 8 + 16 * N := by omega
  refine ⟨fun total i v => ∃ j : Nat, i = ((8 + 16 * j : Nat) : Int) ∧ j ≤ N ∧ Grow w1 v ∧ total = ((sumK l j : Nat) : Int) ∧ sumK l j ≤ 256 ∧ ∀ k, k < j → rngL l k + rngK l k ≤ n, fun _ i _ => 8 + 16 * N - i.toNat, ⟨0, rfl, Nat.zero_le _, Keep.refl _ _, rfl, Nat.zero_le _, fun _ q => absurd q (Nat.not_lt_zero _)⟩, ?_⟩
  rintro total i v ⟨j, rfl, hj, hgv, rfl, hs, hall⟩
  by_cases hjN : j = N
  case neg =>
    refine br_t (by rw [decide_eq_true_eq]; omega) ?_
    have hjl : 8 + 16 * j + 16 ≤ l.length := by omega
    have hpv := hp1.grow hgv
    refine get_spec (at_ := 8 + 16 * j) (n := 8) hpv (by omega) (by decide) (by decide) (by omega) ?_
    have e8 : IntKind.wrap .i64 (((8 + 16 * j : Nat) : Int) + 8) = ((8 + 16 * j + 8 : Nat) : Int) := by rw [w64 (by omega) (by omega)]; omega
    rw [e8]
    refine get_spec (at_ := 8 + 16 * j + 8) (n := 4) hpv (by omega) (by decide) (by decide) (by omega) ?_
    have hrl := rngL_lt l j
    have hrk := rngK_lt l j
    show Csbc_Dev_blocks _ v fun n8 w010 => Cbe_Within ((rngL l j : Nat) : Int) ((rngK l j : Nat) : Int) n8 w010 _
    refine blocks_spec (h.grow (hg1.trans hgv)) (within_spec hrl (by omega) (by omega) ?_)
    by_cases hin : rngL l j + rngK l j ≤ n
    case neg =>
      exact br_t (by rw [decide_eq_false hin]; rfl) (at_spec (key := 5) (code := 0x2100) (info := rngL l j) fun v2 hv2 => ret (hgv.trans hv2) (kE _ rfl (.inr (.inr (.inr (.inr (.inl ⟨j, by omega, by omega⟩)))))))
    refine br_f (by rw [decide_eq_true hin]; rfl) ?_
    have et : IntKind.wrap .u64 (((sumK l j : Nat) : Int) + ((rngK l j : Nat) : Int)) = ((sumK l (j + 1) : Nat) : Int) := by rw [wu64 (by omega) (by omega)]; simp only [sumK]; omega
    show Br (decide (IntKind.wrap .u64 (((sumK l j : Nat) : Int) + ((rngK l j : Nat) : Int)) > 256)) _ _
    by_cases h256 : 256 < sumK l (j + 1)
    · have hmono := sumK_mono l (i := j + 1) (j := N) (by omega)
      refine br_t (by rw [et, decide_eq_true_eq]; omega) (fails_spec (s := ⟨5, 0x2600, 0, false, ((8 + 16 * j + 8 : Nat) : Int), -1, true, false⟩) fun v2 hv2 => ret (hgv.trans hv2) (kE _ rfl (.inr (.inr (.inr (.inr (.inr (by omega))))))))
    · have e16 : IntKind.wrap .i64 (((8 + 16 * j : Nat) : Int) + 16) = ((8 + 16 * (j + 1) : Nat) : Int) := by rw [w64 (by omega) (by omega)]; omega
      refine br_f (by rw [et, decide_eq_false_iff_not]; omega) ?_
      show (∃ j_1 : Nat, IntKind.wrap .i64 (((8 + 16 * j : Nat) : Int) + 16) = ((8 + 16 * j_1 : Nat) : Int) ∧ j_1 ≤ N ∧ Grow w1 v ∧ IntKind.wrap .u64 (((sumK l j : Nat) : Int) + ((rngK l j : Nat) : Int)) = ((sumK l j_1 : Nat) : Int) ∧ sumK l j_1 ≤ 256 ∧ ∀ k, k < j_1 → rngL l k + rngK l k ≤ n) ∧ 8 + 16 * N - (IntKind.wrap .i64 (((8 + 16 * j : Nat) : Int) + 16)).toNat < 8 + 16 * N - (((8 + 16 * j : Nat) : Int)).toNat
      rw [e16, et]
      exact ⟨⟨j + 1, rfl, by omega, hgv, rfl, by omega, fun k hk => by
        by_cases e : k = j
        · rw [e]; exact hin
        · exact hall k (by omega)⟩, by omega⟩
  subst hjN
  refine br_f (by rw [decide_eq_false_iff_not]; omega) ?_
  have hwv := hg1.trans hgv
  have hbv : Blk v ab z10 t_api_Result := hgv.heap hb1 (fun q => q)
  have lab := lt_of_heap hbv
  refine ⟨fun i x => ∃ (k : Nat) (Dk : Nat → Prop) (stk : Wst), i = ((8 + 16 * k : Nat) : Int) ∧ k ≤ j ∧ Keep D v x ∧ Dv x dv ps pw file kind n cache Dk stk (unAll bs l k) (m + sumK l k + k) ∧ (∀ q, Dk q → D q ∨ v.heap.size ≤ q), fun i _ => 8 + 16 * j - i.toNat,
    ⟨0, D, st, rfl, Nat.zero_le _, Keep.refl _ _, h.grow hwv, fun _ q => .inl q⟩, ?_⟩
  rintro i x ⟨k, Dk, stk, rfl, hk, hkx, hdx, hDk⟩
  have hkD : Keep D w x := (hwv.mono fun _ _ q => q.elim).trans hkx fun _ _ q => q
  have sv := hwv.size
  have sx := hkx.size
  by_cases hkj : k = j
  case neg =>
    refine br_t (by rw [decide_eq_true_eq]; omega) ?_
    have hpx := hpk x hkD
    refine get_spec (at_ := 8 + 16 * k) (n := 8) hpx (by omega) (by decide) (by decide) (by omega) ?_
    have e8 : IntKind.wrap .i64 (((8 + 16 * k : Nat) : Int) + 8) = ((8 + 16 * k + 8 : Nat) : Int) := by rw [w64 (by omega) (by omega)]; omega
    rw [e8]
    refine get_spec (at_ := 8 + 16 * k + 8) (n := 4) hpx (by omega) (by decide) (by decide) (by omega) ⟨rfl, some ⟨ps, 0, none⟩, dev0 hdx.dev, ?_⟩
    show Cstore_Store_Unmap _ (IntKind.wrap .i64 ((rngL l k : Nat) : Int)) (IntKind.wrap .i64 ((rngK l k : Nat) : Int)) x _
    have hin := hall k (by omega)
    rw [w64 (by omega) (by omega), w64 (by omega) (by omega)]
    have hsk := sumK_mono l (i := k) (j := j) hk
    have hsk1 := sumK_mono l (i := k + 1) (j := j) (by omega)
    have hj16 : j ≤ 4096 := by omega
    refine hdx.unmap (by omega) hin fun y Dy sty hky hdy hDy => br_f rfl ?_
    have e16 : IntKind.wrap .i64 (((8 + 16 * k : Nat) : Int) + 16) = ((8 + 16 * (k + 1) : Nat) : Int) := by rw [w64 (by omega) (by omega)]; omega
    show (∃ (k_1 : Nat) (Dk : Nat → Prop) (stk : Wst), IntKind.wrap .i64 (((8 + 16 * k : Nat) : Int) + 16) = ((8 + 16 * k_1 : Nat) : Int) ∧ k_1 ≤ j ∧ Keep D v y ∧ Dv y dv ps pw file kind n cache Dk stk (unAll bs l k_1) (m + sumK l k_1 + k_1) ∧ (∀ q, Dk q → D q ∨ v.heap.size ≤ q)) ∧ 8 + 16 * j - (IntKind.wrap .i64 (((8 + 16 * k : Nat) : Int) + 16)).toNat < 8 + 16 * j - (((8 + 16 * k : Nat) : Int)).toNat
    rw [e16]
    refine ⟨⟨k + 1, Dy, sty, rfl, by omega, hkx.trans hky fun i hi q => ?_, hdy.mono (by simp only [sumK]; omega), fun q hq => ?_⟩, by omega⟩
    · rcases hDk i q with r | r
      · exact r
      · omega
    · rcases hDy q hq with r | r
      · exact hDk q r
      · exact .inr (by omega)
  subst hkj
  refine br_f (by rw [decide_eq_false_iff_not]; omega) (good_spec fun y hy => ?_)
  have hby : Blk y ab z10 t_api_Result := hy.heap (hkx.heap hbv nab) (fun q => q)
  have nab2 : ¬ Dk ab := fun q => by
    rcases hDk _ q with r | r
    · exact nab r
    · omega
  refine ret_rule (st := 0) (s := sn0) (d := nilS) hby rfl fun z hz => ?_
  refine kG z Dk stk h8 (keepD_new (hkD.grow hy) (by omega) hz) (((hdx.grow hy).put hby tne_result (by decide) (by decide) nab2 hz).mono (by omega)) fun q hq => ?_
  rcases hDk q hq with r | r
  · exact .inl r
  · exact .inr (by omega)
end
end Go.Proofs.YtaneeadpjelomaaDoor

/- Layer 14: one block is written many times. -/
namespace Go.Proofs.YtaneeadpjelomaaDoor
open Go CF

def z16 : L8 := [0, 0, 0, 0, 0, 0, 0, 0, 0, 0, 0, 0, 0, 0, 0, 0]
def withR (b : Bk) (r : Nat) : Bk := ⟨b.d, b.g, b.a, r % 4294967296, b.hd, b.hg, b.ha, by omega⟩
/-- the block that is written at a place -/
def sameB (kind : Nat) (c : Cm) (b0 : Bk) (i : Nat) : Bk := if c.prot = 0 then mk1 kind (c.lba + i) b0 else if kind = 1 ∨ kind = 2 then withR b0 (c.lba + i) else b0
def samesB (kind : Nat) (c : Cm) (b0 : Bk) (N : Nat) : List Bk := (List.range N).map (sameB kind c b0)
theorem samesB_len (kind : Nat) (c : Cm) (b0 : Bk) (N : Nat) : (samesB kind c b0 N).length = N := by simp [samesB]
theorem samesB_succ (kind : Nat) (c : Cm) (b0 : Bk) (N : Nat) : samesB kind c b0 (N + 1) = samesB kind c b0 N ++ [sameB kind c b0 N] := by simp [samesB, List.range_succ]
theorem flat_16_uint8 : flatK Tryd.prog 8 t_16_uint8 = some (List.replicate 16 (.i .u8)) := by kernel_rfl
theorem kd_16_uint8 : kd Tryd.prog t_16_uint8 = .ag := by kernel_rfl
theorem gt_16_uint8 : Tryd.prog.eqGuardType Tryd.prog.depth t_16_uint8 = false := by kernel_rfl
theorem eq16 {x y : Operand} (a b : L8) (ha : a.length = 16) (hb : b.length = 16) : ∃ r : Bool, (r = true ↔ a = b) ∧ ∀ w, (do eqGuard .eql t_16_uint8 x y (.agg (bv a).toArray) (.agg (bv b).toArray); binOp .eql t_16_uint8 (.agg (bv a).toArray) (.agg (bv b).toArray) : Sem Value).run Tryd.prog w = .ok (.bool r) w := by
  obtain ⟨r, h1, h2⟩ := eql_rule (x := x) (y := y) flat_16_uint8 kd_16_uint8 gt_16_uint8 (fit_bytes a 16 ha) (fit_bytes b 16 hb)
  exact ⟨r, h1.trans ⟨bv_inj, fun h => by rw [h]⟩, h2⟩
theorem dev_come_all {w : World} {dv ps kind : Nat} {c : Cm} {p : Sl} {l : L8} {N : Nat} {R : Sl → Array Value → Bool → World → Prop} (hd : Blk w dv (dvcells ps kind) t_sbc_Dev) (hp : Rd w 1 p (bv l)) (hb : p.n ≤ 140737488351232) (hlba : c.lba ≤ 4096) (hN : N ≤ 4096)
    (hL : (l.length % szB (decide (c.prot ≠ 0)) ≠ 0 ∨ l.length / szB (decide (c.prot ≠ 0)) ≠ N) → ∀ u, Grow w u → R nilS (rsv 2 (badS 0x1a00) nilS).toArray false u)
    (hC : c.prot ≠ 0 → ∀ code info u, Grow w u → R nilS (rsv 2 (atS 11 code info) nilS).toArray false u)
    (hG : l.length / szB (decide (c.prot ≠ 0)) = N → ∀ xs u, Grow w u → Own u w.heap.size t_api_Block 19 xs ((cameB kind c l N).flatMap bc) → R xs (rsv 0 sn0 nilS).toArray true u) :
    Csbc_Dev_come (some ⟨dv, 0, none⟩) (cmv c).toArray p (N : Int) w R := by
  refine dev_come_spec hd hp hb hlba hN hL (fun q1 q2 q3 xs v hv ho => ?_) (fun q1 q2 q3 q4 xs v hv ho => ?_) (fun q1 q2 q3 i hi hz hall v hv => hC q3 _ _ v hv)
  · have e0 : decide (c.prot ≠ 0) = false := by simpa using q3
    refine hG (by rw [e0]; exact q2) xs v hv ?_
    unfold cameB; rw [if_pos q3]; exact ho
  · have e0 : decide (c.prot ≠ 0) = true := by simpa using q3
    refine hG (by rw [e0]; exact q2) xs v hv ?_
    unfold cameB; rw [if_neg q3]; exact ho
def sameN (n : Nat) (c : Cm) : Nat := if c.blocks = 0 then n - c.lba else c.blocks
section
variable {w u : World} {dv ps pw : Nat} {file : ByteArray} {kind n : Nat} {cache : Bool} {D D' : Nat → Prop} {st st' : Wst} {bs bs' : List Bk} {m m' : Nat}
theorem dev_same_spec {c : Cm} {p : Sl} {l : L8} {K : Array Value → World → Prop} (h : Dv w dv ps pw file kind n cache D st bs m) (hm : m ≤ 900000) (hp : Rd w 1 p (bv l)) (hb : p.n ≤ 140737488351232) (hc : c.lba + c.blocks ≤ n)
    (kL : (l.length % szB (decide (c.prot ≠ 0)) ≠ 0 ∨ l.length / szB (decide (c.prot ≠ 0)) ≠ 1) → ∀ u, Grow w u → K (rsv 2 (badS 0x1a00) nilS).toArray u)
    (kC : c.prot ≠ 0 → ∀ code info u, Grow w u → K (rsv 2 (atS 11 code info) nilS).toArray u)
    (kU : ∀ b0, cameB kind c l 1 = [b0] → c.unmap = true → b0.d = z16 → ∀ u D' st', Keep D w u → Dv u dv ps pw file kind n cache D' st' (setAll bs c.lba [] (sameN n c)) (m + sameN n c + 1) → (∀ k, D' k → D k ∨ w.heap.size ≤ k) → K (rsv 0 sn0 nilS).toArray u)
    (kW : ∀ b0, cameB kind c l 1 = [b0] → ¬ (c.unmap = true ∧ b0.d = z16) → ∀ u D' st', Keep D w u → Dv u dv ps pw file kind n cache D' st' (setAll bs c.lba (samesB kind c b0 (sameN n c)) (sameN n c)) (m + sameN n c + 1) → (∀ k, D' k → D k ∨ w.heap.size ≤ k) → K (rsv 0 sn0 nilS).toArray u) :
    Csbc_Dev_same (some ⟨dv, 0, none⟩) (cmv c).toArray p w K := by
  refine Fsbc_Dev_same.calls _ _ _ _ _ ?_
  have hsz := h.size
  have hlen := h.len
  refine new_rule fun cb w0 hcb hb0 hg0 hsz0 => ?_
  have hb0 : Blk w0 cb (cmv c).toArray t_api_Cmd := hb0
  refine new_rule fun ab w1 hab hb1 hg1 hsz1 => ?_
  have hb1 : Blk w1 ab z10 t_api_Result := hb1
  have hgw1 := hg0.trans hg1
  have hc1 : Blk w1 cb (cmv c).toArray t_api_Cmd := hg1.heap hb0 (fun q => q)
  have lD := fun k (q : D k) => h.isW.lt q
  have nab : ¬ D ab := fun q => by have := lD _ q; omega
  have ncb : ¬ D cb := fun q => by have := lD _ q; omega
  have sw := hg0.size
  have cAt : ∀ {v : World} {i : Nat} {x : Value}, Grow w1 v → (cmv c).toArray[i]? = some x → v.cell? ((⟨cb, 0, none⟩ : Addr).add i) = some x := fun g e => by rw [add0, Blk.cell (g.heap hc1 (fun q => q)), Nat.zero_add]; exact e
  refine ⟨(c.blocks : Int), cAt (Keep.refl _ _) rfl, ?_⟩
  have hNle : c.lba + sameN n c ≤ n := by unfold sameN; split <;> omega
  refine letX1 (fun (n1 : Int) v => n1 = (sameN n c : Int) ∧ Grow w1 v) ?_ (fun J => ?_)
  case refine_2 =>
    refine br_eq (fun q => ?_) (fun q => J _ _ ⟨by unfold sameN; rw [if_neg (by omega)], Keep.refl _ _⟩)
    rintro w2 rfl
    have hg2 : Grow w1 w1.drew := keep_drew w1
    refine ⟨fun v => Grow w1 v, hg2, (c.lba : Int), fun v hv => cAt hv rfl, blocks_spec (h.grow (hgw1.trans hg2)) ⟨hg2, J _ _ ⟨?_, hg2⟩⟩⟩
    unfold sameN; rw [if_pos (by omega), wu64 (by omega) (by omega)]; omega
  rintro n1 v ⟨rfl, hgv⟩
  have hcv := hgv.heap hc1 (fun q => q)
  have hav := hgv.heap hb1 (fun q => q)
  have hwv := hgw1.trans hgv
  have hv := h.grow hwv
  have sv := hwv.size
  have lab := lt_of_heap hav
  generalize hNN : sameN n c = N at *
  refine ⟨_, cLoad (blk_cells hcv), ?_⟩
  have fault : ∀ {y : World} {sn : Sn}, Grow v y → (∀ z, Grow w z → K (rsv 2 sn nilS).toArray z) → ∀ rb z, rb = y.heap.size → Blk z rb (rsv 2 sn nilS).toArray t_api_Result → Grow y z →
      ∃ g10 : Array Value, (loadVar t_api_Result ⟨rb, 0, none⟩).run Tryd.prog z = .ok (.agg g10) z ∧ RunU Tryd.prog (storeVar t_api_Result ⟨ab, 0, none⟩ (.agg g10)) z fun w028 => ∃ res6 : Array Value, (loadVar t_api_Result ⟨ab, 0, none⟩).run Tryd.prog w028 = .ok (.agg res6) w028 ∧ K res6 w028 := by
    intro y sn hy hR rb z hrb hbz hyz
    exact ⟨_, rLoad (blk_cells hbz), ret_rule ((hy.trans hyz).heap hav (fun q => q)) rfl fun z' hk' => hR z' (grow_new ((hwv.trans hy).trans hyz) (by omega) hk')⟩
  refine dev_come_all (N := 1) hv.dev (hp.grow hwv) hb (by omega) (by decide) (fun q y hy => ?_) (fun q code info y hy => ?_) (fun hl1 xs y hy ho => ?_)
  · refine new_rule fun rb w5 hrb hb5 hg5 hsz5 => lay_rule hb5 rfl fun w6 hb6 hk6 hsz6 => br_t rfl ?_
    exact fault hy (kL q) rb w6 hrb hb6 (hg5.keep hk6 fun i hi q => by omega)
  · refine new_rule fun rb w5 hrb hb5 hg5 hsz5 => lay_rule hb5 rfl fun w6 hb6 hk6 hsz6 => br_t rfl ?_
    exact fault hy (kC q code info) rb w6 hrb hb6 (hg5.keep hk6 fun i hi q => by omega)
  refine new_rule fun rb w5 hrb hb5 hg5 hsz5 => lay_rule hb5 rfl fun w6 hb6 hk6 hsz6 => br_f rfl ?_
  have hy6 : Grow y w6 := hg5.keep hk6 fun i hi q => by omega
  have hv6 := hy.trans hy6
  have hw6 := hwv.trans hv6
  have hcl := cameB_len (kind := kind) (c := c) (l := l) (N := 1) hl1
  obtain ⟨b0, hb0c⟩ : ∃ b0, cameB kind c l 1 = [b0] := by
    match hq : cameB kind c l 1, hcl with
    | [b0], _ => exact ⟨b0, rfl⟩
  have kU := kU b0 hb0c
  have kW := kW b0 hb0c
  rw [hb0c] at ho
  have ho6 : Own w6 w.heap.size t_api_Block 19 xs ([b0].flatMap bc) := (ho.grow hy6).mono sv
  have hxn : xs.n = 1 := by have := ho6.len; rw [flat_bc_len] at this; simp at this; omega
  have hat : ∀ z, Grow w6 z → ∃ a, xs.A = some a ∧ Cells z (a.add (0 * 19)) (bc b0) := fun z hz => rd_bk_at ((ho6.grow hz).rd (by omega)) (i := 0) Nat.zero_lt_one
  have hat' : ∀ z, Grow w6 z → Cells z ((gA xs.A).add ((0 : Int).toNat * 19)) (bc b0) := fun z hz => by
    obtain ⟨a, ha, hc⟩ := hat z hz
    rw [ha]; exact hc
  have bd : (0 : Int) ≤ (0 : Int) ∧ (0 : Int) < (xs.n : Int) ∧ xs.A.isSome = true := by
    obtain ⟨a, ha, _⟩ := hat w6 (Keep.refl _ _)
    exact ⟨by decide, by omega, by rw [ha]; rfl⟩
  have hc6 := hv6.heap hcv (fun q => q)
  have ha6 := hv6.heap hav (fun q => q)
  have h6 := h.grow hw6
  have s6 := hv6.size
  obtain ⟨r, hr, hrun⟩ := eq16 (x := .tmp 42) (y := .tmp 43) b0.d z16 b0.hd rfl
  refine ⟨c.unmap, by rw [add0, Blk.cell hc6]; rfl, fun _ => bd, (bv b0.d).toArray, fun _ => dLoad b0.hd (cells_head (hat' w6 (Keep.refl _ _))), r, fun _ => hrun w6, ?_⟩
  have lastW : ∀ {D2 : Nat → Prop} {st2 : Wst} {B2 : List Bk} {m2 : Nat} {y2 : World}, Keep D w6 y2 → Dv y2 dv ps pw file kind n cache D2 st2 B2 m2 → (∀ k, D2 k → D k ∨ w6.heap.size ≤ k) → (∀ z, Keep D w z → Dv z dv ps pw file kind n cache D2 st2 B2 m2 → (∀ k, D2 k → D k ∨ w.heap.size ≤ k) → K (rsv 0 sn0 nilS).toArray z) →
      RunU Tryd.prog (storeVar t_api_Result ⟨ab, 0, none⟩ (.agg (rsv 0 sn0 nilS).toArray)) y2 fun w' => ∃ res : Array Value, (loadVar t_api_Result ⟨ab, 0, none⟩).run Tryd.prog w' = .ok (.agg res) w' ∧ K res w' := by
    intro D2 st2 B2 m2 y2 hk2 hd2 hD2 hK
    have hby : Blk y2 ab z10 t_api_Result := hk2.heap ha6 nab
    have nab2 : ¬ D2 ab := fun q => by
      rcases hD2 _ q with r | r
      · exact nab r
      · omega
    refine ret_rule (st := 0) (s := sn0) (d := nilS) hby rfl fun z hz => hK z (keepD_new ((hw6.mono fun _ _ q => q.elim).trans hk2 fun _ _ q => q) (by omega) hz) (hd2.put hby tne_result (by decide) (by decide) nab2 hz) fun k q => ?_
    rcases hD2 k q with r | r
    · exact .inl r
    · exact .inr (by omega)
  by_cases hun : c.unmap = true ∧ b0.d = z16
  · refine br_t (by rw [hun.1, hr.2 hun.2]; rfl) ?_
    rintro w7 rfl
    have hg7 : Grow w6 w6.drew := keep_drew w6
    have h7 := h6.grow hg7
    refine ⟨fun z => Grow w6 z, hg7, rfl, some ⟨ps, 0, none⟩, fun z hz => dev0 (h6.grow hz).dev, (c.lba : Int), fun z hz => by rw [add0, Blk.cell (hz.heap hc6 (fun q => q))]; rfl, ?_⟩
    rw [w64 (by omega) (by omega), w64 (by omega) (by omega)]
    refine h7.unmap (by omega) hNle fun y2 D2 st2 hk2 hd2 hD2 => br_f rfl (good_spec fun y3 hy3 => ?_)
    refine lastW (((hg7.mono fun _ _ q => q.elim).trans hk2 fun _ _ q => q).grow hy3) (hd2.grow hy3) hD2 fun z hz hdz hDz => ?_
    exact kU hun.1 hun.2 z D2 st2 hz hdz hDz
  · have hguard : (c.unmap && r) = false := by
      cases hu : c.unmap with
      | false => rfl
      | true =>
        cases hr' : r with
        | false => rfl
        | true => exact absurd ⟨hu, hr.1 hr'⟩ hun
    refine br_f hguard ⟨fun all x z => ∃ j : Nat, x = j ∧ j ≤ N ∧ Grow w6 z ∧ Own z w6.heap.size t_api_Block 19 all ((samesB kind c b0 j).flatMap bc), fun _ x _ => N - x.toNat, ⟨0, rfl, Nat.zero_le _, Keep.refl _ _, own_nil _ _ _ _⟩, ?_⟩
    rintro all x z ⟨j, rfl, hj, hgz, hown⟩
    have han : all.n = j := by have := hown.len; rw [flat_bc_len, samesB_len] at this; omega
    refine br_nat (fun hlt => ?_) (fun hge => ?_)
    · refine letX1 (fun all1 y2 => Grow w6 y2 ∧ Own y2 w6.heap.size t_api_Block 19 all1 ((samesB kind c b0 (j + 1)).flatMap bc)) (fun all1 y2 hy2 => by
        rw [wu64 (by omega) (by omega)]
        exact ⟨⟨j + 1, by omega, by omega, hy2.1, hy2.2⟩, by dsimp only; omega⟩) (fun J2 => ?_)
      refine ⟨bd, (bc b0).toArray, bLoad (hat' z hgz), ?_⟩
      refine new_rule fun bb w8 hbb hb8 hg8 hsz8 => ?_
      refine storeVar_rule (cells := (bc b0).toArray) hb8 i_api_Block (by simp [bc_len]) (by simp [bc_len]) (bc_all _) fun w9 hb9 hk9 hsz9 => ?_
      have hz9 : Grow z w9 := hg8.keep hk9 fun i hi q => by omega
      have h69 := hgz.trans hz9
      refine ⟨(c.prot : Int), by rw [add0, Blk.cell (h69.heap hc6 (fun q => q))]; rfl, ?_⟩
      have sz := hgz.size
      refine letX0 (fun y2 => Grow w6 y2 ∧ Own y2 w6.heap.size t_api_Block 19 all ((samesB kind c b0 j).flatMap bc) ∧ Blk y2 bb (bc (sameB kind c b0 j)).toArray t_api_Block) ?_ (fun J3 => ?_)
      · rintro y2 ⟨g2, o2, b2⟩
        refine ⟨_, bLoad (blk_cells b2), ?_⟩
        refine lit_rule (cells := (bc (sameB kind c b0 j)).toArray) (e := t_api_Block) (z := 19) (base := 0) (lit_block _ _) (by simp [bc_len]) (by decide) (Nat.zero_le _) fun y3 hlit3 hg3 _ => ?_
        refine append_rule u_sl_api_Block i_api_Block rfl (by decide) (by decide) (o2.grow hg3) (hlit3.rd (by show 1 ≤ _; decide)) (fun x hx => bc_ones _ x (by simpa using hx)) (by show (all.n + 1) * 24 ≤ _; omega) (g2.trans hg3).size fun s' y4 hn4 hown4 hk4 _ => ?_
        refine J2 s' y4 ⟨own_grow' (g2.trans hg3) (o2.grow hg3) (Nat.le_refl _) hk4, ?_⟩
        rw [samesB_succ, List.flatMap_append]
        simpa using hown4
      · have o9 := hown.grow hz9
        have e64 : IntKind.wrap .u64 ((c.lba : Int) + (j : Int)) = ((c.lba + j : Nat) : Int) := by rw [wu64 (by omega) (by omega)]; omega
        have nbb : all.blk ≠ some bb := fun q => by have := (hown.ge bb q).2; omega
        by_cases hp0 : c.prot = 0
        · refine br_t (by rw [beq_iff_eq]; omega) ?_
          rintro y2 rfl
          have g2 : Grow w6 w9.drew := h69.trans (keep_drew w9)
          refine ⟨fun q => Grow w9 q, keep_drew w9, rfl, (kind : Int), fun q hq => dev1 (h6.grow (h69.trans hq)).dev, (c.lba : Int), fun q hq => by rw [add0, Blk.cell ((h69.trans hq).heap hc6 (fun q => q))]; rfl, (bv b0.d).toArray, fun q hq => dLoad b0.hd (cells_head (blk_cells (hq.heap hb9 (fun q => q)))), ?_⟩
          rw [e64]
          refine make_spec (app := 0) b0.hd fun y3 hy3 => ?_
          have hb3 : Blk y3 bb (bc b0).toArray t_api_Block := ((keep_drew w9).trans hy3).heap hb9 (fun q => q)
          rw [add0, Nat.zero_add]
          refine storeAt_rule (o := 16) (cells := (tc (c16 b0.d) 0 (mkR kind (c.lba + j))).toArray) hb3 i_api_Tuple rfl (by simp [bc_len, tc]) (by intro v hv; simp [tc] at hv; rcases hv with rfl | rfl | rfl <;> rfl) fun y4 hb4 hk4 hsz4 => ?_
          have g3 := g2.trans hy3
          refine J3 y4 ⟨g3.keep hk4 fun i hi q => by omega, (((o9.grow (keep_drew w9)).grow hy3).keep hk4 fun b hbb q => nbb (by rw [hbb, q])), ?_⟩
          have e : (bc b0).take 16 ++ tc (c16 b0.d) 0 (mkR kind (c.lba + j)) ++ (bc b0).drop (16 + 3) = bc (sameB kind c b0 j) := by
            rw [bc_head, List.drop_of_length_le (by rw [bc_len]; decide), List.append_nil]
            unfold sameB; rw [if_pos hp0]; rfl
          rw [← e]; exact hb4
        · refine br_f (by rw [beq_eq_false_iff_ne]; omega) ⟨rfl, (kind : Int), dev1 (h6.grow h69).dev, fun _ => rfl, (kind : Int), fun _ => dev1 (h6.grow h69).dev, ?_⟩
          by_cases hk12 : kind = 1 ∨ kind = 2
          · refine br_t (by rw [Bool.or_eq_true, beq_iff_eq, beq_iff_eq]; omega) ⟨(c.lba : Int), by rw [add0, Blk.cell (h69.heap hc6 (fun q => q))]; rfl, ?_⟩
            rw [e64, add0, add0]
            refine put_rule hb9 (by simp [bc_len]) rfl fun y2 hb2 hk2 _ => J3 y2 ⟨h69.keep hk2 fun i hi q => by omega, o9.keep hk2 fun b hbb q => nbb (by rw [hbb, q]), ?_⟩
            have e : ((bc b0).toArray.setIfInBounds (0 + 16 + 2) (.int .u32 (IntKind.wrap .u32 ((c.lba + j : Nat) : Int)))) = (bc (sameB kind c b0 j)).toArray := by
              have ew : IntKind.wrap .u32 ((c.lba + j : Nat) : Int) = (((c.lba + j) % 4294967296 : Nat) : Int) := by
                have e : IntKind.wrap .u32 ((c.lba + j : Nat) : Int) = ((c.lba + j : Nat) : Int) % 4294967296 := by simp [IntKind.wrap, IntKind.signed, IntKind.bits]
                rw [e]; omega
              rw [ew]
              unfold sameB; rw [if_neg hp0, if_pos hk12]
              have hl16 : (bv b0.d).length = 16 := by rw [bv_length, b0.hd]
              show ((bv b0.d ++ [_, _, _]).toArray.setIfInBounds 18 _) = (bv b0.d ++ [_, _, _]).toArray
              rw [← Array.toList_inj]
              simp only [Array.toList_setIfInBounds]
              rw [List.set_append_right _ _ (by omega), hl16]; rfl
            rw [← e]; exact hb2
          · refine br_f (by rw [Bool.or_eq_false_iff, beq_eq_false_iff_ne, beq_eq_false_iff_ne]; omega) (J3 w9 ⟨h69, o9, ?_⟩)
            unfold sameB; rw [if_neg hp0, if_neg hk12]; exact hb9
    · have hjN : j = N := by omega
      subst hjN
      refine ⟨(c.lba : Int), by rw [add0, Blk.cell (hgz.heap hc6 (fun q => q))]; rfl, ?_⟩
      have hz6 := h6.grow hgz
      have sz := hgz.size
      refine dev_write_spec (L := samesB kind c b0 j) hz6 (by omega) (by rw [samesB_len]; omega) (fun q hq => ?_) fun y2 D2 hk2 hd2 hD2 => ?_
      · have oo := hown.keep hq fun b hbb e => by
          have := (hown.ge b hbb).1
          have := lD _ e
          omega
        exact oo.rd (by have := oo.len; rw [flat_bc_len, samesB_len] at this; omega)
      · rw [samesB_len] at hd2
        refine lastW ((hgz.mono fun _ _ q => q.elim).trans hk2 fun _ _ q => q) hd2 (fun k q => ?_) fun q hq hdq hDq => kW hun q D2 _ hq hdq hDq
        rcases hD2 k q with r | r
        · exact .inl r
        · exact .inr (by omega)
end
end Go.Proofs.YtaneeadpjelomaaDoor

/- Layer 14: the law of what is verified. -/
namespace Go.Proofs.YtaneeadpjelomaaDoor
open Go CF

section
variable {w u u' v v' : World} {dv ps pw : Nat} {file : ByteArray} {kind n : Nat} {cache : Bool} {D D' : Nat → Prop} {st st' : Wst} {bs bs' : List Bk} {m m' : Nat} {ls : List (Nat × List Value × TypeId)} {rows : List (Sl × L8)}
theorem Lw.fin {ab : Nat} (L : Lw w u dv ps pw file kind n cache D st bs m ls rows) (hg : Grow u u') (hb : Blk u' ab z10 t_api_Result) (hab : u.heap.size ≤ ab) (hk : Keep D u' v) (hd : Dv v dv ps pw file kind n cache D' st' bs' m') (hD : ∀ k, D' k → D k ∨ u'.heap.size ≤ k) (hk' : Keep (fun k => k = ab) v v') :
    Lw w v' dv ps pw file kind n cache D' st' bs' m' ls rows := by
  have nab : ¬ D ab := fun q => by have := L.dvs.isW.lt q; omega
  have sg := hg.size
  have nab' : ¬ D' ab := fun q => by
    rcases hD _ q with r | r
    · exact nab r
    · have := lt_of_heap hb; omega
  have hbv := hk.heap hb nab
  refine L.step (keepD_new ((hg.mono fun _ _ q => q.elim).trans hk fun _ _ q => q) hab hk') (hd.put hbv tne_result (by decide) (by decide) nab' hk') fun k q => ?_
  rcases hD k q with r | r
  · exact .inl r
  · exact .inr (by omega)
theorem fin_keep {ab : Nat} (hg : Grow u u') (hab : u.heap.size ≤ ab) (hk : Keep D u' v) (hk' : Keep (fun k => k = ab) v v') : Keep D u v' := keepD_new ((hg.mono fun _ _ q => q.elim).trans hk fun _ _ q => q) hab hk'
theorem Lw.verify (L : Lw w u dv ps pw file kind n cache D st bs m ls rows) (hm : m ≤ 1000000) {c : Cm} {p : Sl} {l : L8} {K : Array Value → World → Prop} (hk : c.kind = 10) (hkn : knownB kind c.prot = true) (hc : c.lba + c.blocks ≤ n) (hp : Rd u 1 p (bv l)) (hpb : p.n ≤ 140737488351232) (hf : Fine kind bs)
    (hl : c.bytes = true → l.length = szB (decide (c.prot ≠ 0)) * c.blocks)
    (h1 : c.bytes = true → ∀ i, firstNe (packB false ((bs.drop c.lba).take c.blocks)) (packB false (unpB (decide (c.prot ≠ 0)) l)) = some i → ∀ v, Lw w v dv ps pw file kind n cache D { st with ops := st.ops + c.blocks } bs (m + c.blocks) ls rows → K (rsv 2 (atS 14 0x1d00 i) nilS).toArray v)
    (h2 : (c.bytes = true → firstNe (packB false ((bs.drop c.lba).take c.blocks)) (packB false (unpB (decide (c.prot ≠ 0)) l)) = none) → ∀ v, Lw w v dv ps pw file kind n cache D { st with ops := st.ops + c.blocks } bs (m + c.blocks) ls rows → K (rsv 0 sn0 nilS).toArray v) :
    Csbc_Dev_Do (some ⟨dv, 0, none⟩) (cmv c).toArray p u K := by
  have hsz := L.dvs.size
  refine do_spec L.dvs hm hp hpb (by omega) (by omega) (fun q => by rw [hkn] at q; cases q) (fun _ _ _ q => by omega) (fun _ q => by omega) (fun _ q => by omega) (fun _ q => by omega) (fun _ q => by omega) (fun _ q => by omega) (fun _ q => by omega)
    (fun _ _ ab y hy hab hby => ⟨fun _ => ?_, fun q => by omega, fun q => by omega, fun q => by omega, fun q => by omega⟩) (fun _ _ _ _ a _ _ _ _ _ => by omega)
  have hs16 : 16 ≤ szB (decide (c.prot ≠ 0)) := by unfold szB; split <;> decide
  have fin : ∀ {z : World}, Keep D y z → IsW z pw D { st with ops := st.ops + c.blocks } → ∀ v', Keep (fun k => k = ab) z v' → Lw w v' dv ps pw file kind n cache D { st with ops := st.ops + c.blocks } bs (m + c.blocks) ls rows := fun {z} hz hw v' hv' =>
    L.fin hy hby hab hz ((L.dvs.grow hy).ops hz hw) (fun _ q => .inl q) hv'
  refine dev_verify_spec (L.dvs.grow hy) hm (hp.grow hy) hpb hc (fun q r => ?_) (fun i hi q => absurd (fine_part hf i hi c.prot) q) (fun _ hby' i hi z hz hw => ⟨hz, 2, _, nilS, rfl, fun v' hv' => h1 hby' i hi v' (fin hz hw v' hv')⟩) (fun _ hno z hz hw => ⟨hz, 0, sn0, nilS, rfl, fun v' hv' => h2 hno v' (fin hz hw v' hv')⟩)
  exfalso
  have := hl q
  rw [this] at r
  rcases r with r | r
  · exact r (Nat.mul_mod_right _ _)
  · exact r (Nat.mul_div_cancel_left _ (by omega))
end
theorem firstNe_self (X : L8) : firstNe X X = none := firstNe_none fun _ _ => rfl
theorem firstNe_set {X : L8} {i : Nat} {y : UInt8} (hi : i < X.length) (hy : y ≠ X[i]) : firstNe X (X.set i y) = some i := by
  refine firstNe_some hi (fun j hj => ?_) ?_
  · rw [List.getD_eq_getElem?_getD, List.getD_eq_getElem?_getD, List.getElem?_set_ne (by omega)]
  · rw [List.getD_eq_getElem?_getD, List.getD_eq_getElem?_getD, List.getElem?_set_self hi, List.getElem?_eq_getElem hi]
    exact fun q => hy q.symm
theorem xor8' {a b : Nat} (ha : a < 256) (hb : b < 256) : bXor .u8 (a : Int) (b : Int) = ((UInt8.ofNat (a ^^^ b)).toNat : Int) ∧ (b ≠ 0 → ∀ x : UInt8, x.toNat = a → UInt8.ofNat (a ^^^ b) ≠ x) := by
  have hlt : a ^^^ b < 256 := Nat.xor_lt_two_pow (n := 8) ha hb
  have e : (UInt8.ofNat (a ^^^ b)).toNat = a ^^^ b := by rw [UInt8.toNat_ofNat', Nat.mod_eq_of_lt hlt]
  refine ⟨?_, fun h x hx q => ?_⟩
  · rw [e]
    unfold bXor
    show IntKind.wrap .u8 (((BitVec.ofInt 8 (a : Int) ^^^ BitVec.ofInt 8 (b : Int)).toNat : Nat) : Int) = _
    rw [BitVec.ofInt_natCast, BitVec.ofInt_natCast, BitVec.toNat_xor, BitVec.toNat_ofNat, BitVec.toNat_ofNat, Nat.mod_eq_of_lt (by omega), Nat.mod_eq_of_lt (by omega)]
    exact wu8 (by omega) (by omega)
  · rw [← q, e] at hx
    have := congrArg (a ^^^ ·) hx
    simp only [← Nat.xor_assoc, Nat.xor_self, Nat.zero_xor] at this
    exact h this
end Go.Proofs.YtaneeadpjelomaaDoor

/- Layer 14: a law takes blocks away, or writes the same block. -/
namespace Go.Proofs.YtaneeadpjelomaaDoor
open Go CF

section
variable {w u u' v v' : World} {dv ps pw : Nat} {file : ByteArray} {kind n : Nat} {cache : Bool} {D D' : Nat → Prop} {st st' : Wst} {bs bs' : List Bk} {m m' : Nat} {ls : List (Nat × List Value × TypeId)} {rows : List (Sl × L8)}
theorem Lw.unmap (L : Lw w u dv ps pw file kind n cache D st bs m ls rows) (hm : m ≤ 900000) {c : Cm} {p : Sl} {l : L8} {K : Array Value → World → Prop} (hk : c.kind = 13) (hkn : knownB kind c.prot = true) (hlb : c.lba < 18446744073709551616) (hbl : c.blocks < 18446744073709551616)
    (hp : Rd u 1 p (bv l)) (hpb : p.n ≤ 140737488351232) (hpD : ∀ b, p.blk = some b → ¬ D b) (h8 : 8 ≤ l.length) (e1 : num ((l.drop 0).take 2) = l.length - 2) (e2 : num ((l.drop 2).take 2) = l.length - 8) (e3 : (l.length - 8) % 16 = 0)
    (e4 : ∀ j, j < (l.length - 8) / 16 → rngL l j + rngK l j ≤ n) (e5 : sumK l ((l.length - 8) / 16) ≤ 256)
    (h : ∀ v D' st', Lw w v dv ps pw file kind n cache D' st' (unAll bs l ((l.length - 8) / 16)) (m + 5000) ls rows → K (rsv 0 sn0 nilS).toArray v) :
    Csbc_Dev_Do (some ⟨dv, 0, none⟩) (cmv c).toArray p u K := by
  refine do_spec L.dvs (by omega) hp hpb hlb hbl (fun q => by rw [hkn] at q; cases q) (fun _ q => absurd hk q) (fun _ q => by omega) (fun _ q => by omega) (fun _ q => by omega) (fun _ q => by omega) (fun _ q => by omega) (fun _ q => by omega)
    (fun _ _ ab y hy hab hby => ⟨fun q => by omega, fun q => by omega, fun _ => ?_, fun q => by omega, fun q => by omega⟩) (fun _ _ _ _ _ _ _ a => absurd hk a)
  refine dev_unmap_spec (L.dvs.grow hy) hm (hp.grow hy) hpb (fun x hx => (hp.grow hy).keep hx fun a ha _ => hpD a.block (by simp [Sl.blk, ha])) (fun q => by omega) (fun sn _ q => ?_) (fun z D2 st2 _ hz hd hD2 => ⟨hz, 0, sn0, nilS, rfl, fun v' hv' => ?_⟩)
  · exfalso
    rcases q with q | q | q | q | ⟨j, hj, q⟩ | q
    · omega
    · exact q e1
    · exact q e2
    · exact q e3
    · have := e4 j hj; omega
    · omega
  · exact h v' D2 st2 (L.fin hy hby hab hz hd hD2 hv')
/-- the same block, without tuples -/
theorem Lw.sameK (L : Lw w u dv ps pw file kind n cache D st bs m ls rows) (hm : m ≤ 900000) {c : Cm} {p : Sl} {l : L8} {K : Array Value → World → Prop} (hk : c.kind = 12) (hp0 : c.prot = 0) (hc : c.lba + c.blocks ≤ n)
    (hp : Rd u 1 p (bv l)) (hl : l.length = 16)
    (h : ∀ v D' st' b0, b0.d = l → Keep D u v → (∀ k, D' k → D k ∨ u.heap.size ≤ k) → Lw w v dv ps pw file kind n cache D' st' (if c.unmap = true ∧ l = z16 then setAll bs c.lba [] (sameN n c) else setAll bs c.lba (samesB kind c b0 (sameN n c)) (sameN n c)) (m + sameN n c + 1) ls rows → K (rsv 0 sn0 nilS).toArray v) :
    Csbc_Dev_Do (some ⟨dv, 0, none⟩) (cmv c).toArray p u K := by
  have hsz := L.dvs.size
  have hkd := L.dvs.kd
  have hln := rd_n' hp
  have hkn : knownB kind c.prot = true := by unfold knownB; rw [hp0]; simp [hkd]
  have e0 : decide (c.prot ≠ 0) = false := by simpa using hp0
  have e16 : szB false = 16 := rfl
  refine do_spec L.dvs (by omega) hp (by omega) (by omega) (by omega) (fun q => by rw [hkn] at q; cases q) (fun _ _ _ q => by omega) (fun _ q => by omega) (fun _ q => by omega) (fun _ q => by omega) (fun _ q => by omega) (fun _ q => by omega) (fun _ q => by omega)
    (fun _ _ ab y hy hab hby => ⟨fun q => by omega, fun _ => ?_, fun q => by omega, fun q => by omega, fun q => by omega⟩) (fun _ _ _ _ _ _ a => absurd hk a)
  have hd0 : ∀ b0, cameB kind c l 1 = [b0] → b0.d = l := fun b0 q => by
    unfold cameB at q
    rw [if_pos hp0] at q
    have e := mkAll_data (kind := kind) (lba := c.lba) (U := unpB false l) 1
    rw [q] at e
    have e2 := unpB_bytes (l := l) (by omega)
    rw [packB_data (b := [b0]) e.symm] at e2
    have : packB false [b0] = b0.d := by simp [packB, wireB]
    rw [← this]; exact e2
  refine dev_same_spec (L.dvs.grow hy) hm (hp.grow hy) (by omega) hc (fun q => ?_) (fun q => absurd hp0 q) (fun b0 hb0 hu hz16 z D2 st2 hz hd hD2 => ⟨hz, 0, sn0, nilS, rfl, fun v' hv' => ?_⟩) (fun b0 hb0 hno z D2 st2 hz hd hD2 => ⟨hz, 0, sn0, nilS, rfl, fun v' hv' => ?_⟩)
  · exfalso; rw [e0, e16, hl] at q; omega
  · refine h v' D2 st2 b0 (hd0 b0 hb0) (fin_keep hy hab hz hv') (fun k q => (hD2 k q).imp_right fun r => by have := hy.size; omega) ?_
    rw [if_pos ⟨hu, by rw [← hd0 b0 hb0]; exact hz16⟩]
    exact L.fin hy hby hab hz hd hD2 hv'
  · refine h v' D2 st2 b0 (hd0 b0 hb0) (fin_keep hy hab hz hv') (fun k q => (hD2 k q).imp_right fun r => by have := hy.size; omega) ?_
    rw [if_neg (by rw [← hd0 b0 hb0]; exact hno)]
    exact L.fin hy hby hab hz hd hD2 hv'
theorem Lw.same (L : Lw w u dv ps pw file kind n cache D st bs m ls rows) (hm : m ≤ 900000) {c : Cm} {p : Sl} {l : L8} {K : Array Value → World → Prop} (hk : c.kind = 12) (hp0 : c.prot = 0) (hc : c.lba + c.blocks ≤ n)
    (hp : Rd u 1 p (bv l)) (hl : l.length = 16)
    (h : ∀ v D' st' b0, b0.d = l → Lw w v dv ps pw file kind n cache D' st' (if c.unmap = true ∧ l = z16 then setAll bs c.lba [] (sameN n c) else setAll bs c.lba (samesB kind c b0 (sameN n c)) (sameN n c)) (m + sameN n c + 1) ls rows → K (rsv 0 sn0 nilS).toArray v) :
    Csbc_Dev_Do (some ⟨dv, 0, none⟩) (cmv c).toArray p u K := L.sameK hm hk hp0 hc hp hl fun v D' st' b0 e _ _ => h v D' st' b0 e
end
end Go.Proofs.YtaneeadpjelomaaDoor
