import Derived.Test.YtiokflecflbopaaDoorRows
import Derived.Lib.LaidTab
import Derived.Test.YtiokflecflbopaaDoorB3
/- Layer 18: lists of pairs. -/
namespace Go.Proofs.YtiokflecflbopaaDoor
open Go CF

abbrev Pr := L8 × L8
def pc (p : Pr) : List Value := [.string (str p.1), .string (str p.2)]
def pvs (ps : List Pr) : List Value := ps.flatMap pc
theorem pc_len (p : Pr) : (pc p).length = 2 := rfl
theorem pvs_len (ps : List Pr) : (pvs ps).length = ps.length * 2 := flat_length pc_len ps
def find (ps : List Pr) (k : L8) : Option L8 := (ps.find? fun p => p.1 = k).map (·.2)
theorem rd_pairs {w : World} {s : Sl} {ps : List Pr} (h : Rd w 2 s (pvs ps)) : ps.length = s.n := by
  have := h.len; rw [pvs_len] at this; omega
/-- a pair of a list that is read -/
theorem rd_pair {w : World} {s : Sl} {ps : List Pr} (h : Rd w 2 s (pvs ps)) {i : Nat} (hi : i < ps.length) : ∃ a, s.A = some a ∧ Cells w (a.add (i * 2)) (pc ps[i]) := by
  obtain ⟨a, ha, hc⟩ := h.elem (i := i) (by rw [← rd_pairs h]; exact hi) (by decide)
  exact ⟨a, ha, by rw [pvs, flat_elem pc_len hi] at hc; exact hc⟩
theorem find_none_take {ps : List Pr} {k : L8} {j : Nat} (hj : j < ps.length) (h : ∀ p ∈ ps.take j, p.1 ≠ k) (he : ps[j].1 = k) : find ps k = some ps[j].2 := by
  unfold find
  have e : ps = ps.take j ++ ps[j] :: ps.drop (j + 1) := by rw [List.getElem_cons_drop, List.take_append_drop]
  have e2 : ps.find? (fun p => p.1 = k) = some ps[j] := by
    refine (congrArg (List.find? fun p : Pr => decide (p.1 = k)) e).trans ?_
    rw [List.find?_append, List.find?_eq_none.2 (fun p hp => by simpa using h p hp), Option.none_or, List.find?_cons_of_pos (by simpa using he)]
  rw [e2]; rfl
theorem find_none_all {ps : List Pr} {k : L8} (h : ∀ p ∈ ps, p.1 ≠ k) : find ps k = none := by
  unfold find
  rw [List.find?_eq_none.2 (fun p hp => by simpa using h p hp)]; rfl
theorem mem_take_succ {ps : List Pr} {j : Nat} (hj : j < ps.length) {P : Pr → Prop} (h : ∀ p ∈ ps.take j, P p) (he : P ps[j]) : ∀ p ∈ ps.take (j + 1), P p := by
  intro p hp
  rw [List.take_succ_eq_append_getElem hj, List.mem_append, List.mem_singleton] at hp
  rcases hp with hp | rfl
  · exact h p hp
  · exact he
theorem find_text_spec {l : Sl} {ps : List Pr} {k : L8} {w : World} {R : ByteArray → Bool → World → Prop} (hl : Rd w 2 l (pvs ps))
    (h : ∀ w', Grow w w' → R (str ((find ps k).getD [])) (find ps k).isSome w') : Ctext_Find l (str k) w R := by
  refine Ftext_Find.calls _ _ _ _ ?_
  have hn := rd_pairs hl
  have hb := hl.nb
  refine ⟨fun x w' => Grow w w' ∧ ∃ j : Nat, x = j ∧ j ≤ l.n ∧ ∀ p ∈ ps.take j, p.1 ≠ k, fun x _ => l.n - x.toNat, ⟨Keep.refl _ _, 0, rfl, by omega, by simp⟩, ?_⟩
  rintro x w0 ⟨hg, j, rfl, hj, hall⟩
  refine br_nat (fun hlt => ?_) (fun hge => ?_)
  · have hjl : j < ps.length := by omega
    obtain ⟨a, ha, hc⟩ := rd_pair (hl.grow hg) hjl
    refine ⟨⟨by omega, by omega, by rw [ha]; rfl⟩, (pc ps[j]).toArray, ?_, ?_⟩
    · rw [ha]; exact loadVar_rule g_api_Pair i_api_Pair rfl hc
    refine new_rule fun b w1 hb1 hblk hg1 hsz => ?_
    refine storeVar_rule (cells := (pc ps[j]).toArray) hblk i_api_Pair rfl rfl (by simp [pc, Value.oneCell']) fun w2 hblk2 hk2 hsz2 => ?_
    have g2 : Grow w w2 := hg.trans (hg1.keep hk2 (fun i hi e => by omega))
    refine ⟨str ps[j].1, by rw [add0, hblk2.cell]; rfl, ?_⟩
    rw [sEq_str]
    refine br_dec (fun he => ?_) (fun hne => ?_)
    · refine ⟨str ps[j].2, by rw [add0, hblk2.cell]; rfl, ?_⟩
      have := h w2 g2
      rwa [find_none_take hjl hall he] at this
    · rw [w64 (by omega) (by omega)]
      exact ⟨⟨g2, j + 1, by omega, by omega, mem_take_succ hjl hall hne⟩, by dsimp only; omega⟩
  · have hjn : j = l.n := by omega
    rw [List.take_of_length_le (by omega)] at hall
    have := h w0 hg
    rwa [find_none_all hall] at this
/-- a key stands twice -/
def dup : List Pr → Bool
  | [] => false
  | p :: r => (r.any fun q => q.1 = p.1) || dup r
theorem dup_iff (ps : List Pr) : dup ps = true ↔ ∃ i j : Nat, ∃ (_ : j < i) (hi : i < ps.length), (ps[i]).1 = (ps[j]'(by omega)).1 := by
  induction ps with
  | nil => simp [dup]
  | cons p r ih =>
    simp only [dup, Bool.or_eq_true, ih, List.any_eq_true, decide_eq_true_eq]
    constructor
    · rintro (⟨q, hq, e⟩ | ⟨i, j, hj, hi, e⟩)
      · obtain ⟨i, hi, rfl⟩ := List.getElem_of_mem hq
        exact ⟨i + 1, 0, by omega, by simpa using hi, by simpa using e⟩
      · exact ⟨i + 1, j + 1, by omega, by simpa using hi, by simpa using e⟩
    · rintro ⟨i, j, hj, hi, e⟩
      match i, j, hj with
      | i + 1, 0, _ => exact .inl ⟨r[i]'(by simpa using hi), List.getElem_mem _, by simpa using e⟩
      | i + 1, j + 1, hj => exact .inr ⟨i, j, by omega, by simpa using hi, by simpa using e⟩
end Go.Proofs.YtiokflecflbopaaDoor

/- Layer 18: what bytes say as pairs. -/
namespace Go.Proofs.YtiokflecflbopaaDoor
open Go CF

theorem cutAt_of {c : UInt8} : ∀ {a b : L8}, c ∉ a → cutAt c (a ++ c :: b) = some (a, b)
  | [], b, _ => by simp [cutAt]
  | x :: r, b, h => by
    have h1 : x ≠ c := fun e => h (by simp [e])
    have h2 : c ∉ r := fun e => h (by simp [e])
    simp only [List.cons_append, cutAt, if_neg h1, cutAt_of h2, Option.map_some]
theorem cutAt_not {c : UInt8} : ∀ {l : L8}, c ∉ l → cutAt c l = none
  | [], _ => rfl
  | x :: r, h => by
    have h1 : x ≠ c := fun e => h (by simp [e])
    have h2 : c ∉ r := fun e => h (by simp [e])
    simp only [cutAt, if_neg h1, cutAt_not h2, Option.map_none]
/-- one pair at the head of a text -/
def step (l : L8) : Option (Pr × L8) :=
  match cutAt 0 l with
  | none => none
  | some (one, more) => match cutAt 61 one with
    | none => none
    | some (k, v) => if keyOk k && valOk v then some ((k, v), more) else none
theorem step_lt {l m : L8} {p : Pr} (h : step l = some (p, m)) : m.length < l.length := by
  unfold step at h
  split at h
  · cases h
  · rename_i one more hc
    have hl := (cutAt_some hc).1
    split at h
    · cases h
    · split at h
      · obtain ⟨_, rfl⟩ := Prod.mk.inj (Option.some.inj h)
        rw [hl]; simp; omega
      · cases h
def pairs (l : L8) : Option (List Pr) :=
  if l = [] then some [] else
  match h : step l with
  | none => none
  | some (p, m) => (pairs m).map (p :: ·)
termination_by l.length
decreasing_by exact step_lt h
theorem pairs_nil : pairs [] = some [] := by rw [pairs]; rfl
theorem pairs_none {l : L8} (hl : l ≠ []) (h : step l = none) : pairs l = none := by
  rw [pairs, if_neg hl]
  split
  · rfl
  · rename_i p m h'; rw [h] at h'; cases h'
theorem pairs_some {l m : L8} {p : Pr} (hl : l ≠ []) (h : step l = some (p, m)) : pairs l = (pairs m).map (p :: ·) := by
  rw [pairs, if_neg hl]
  split
  · rename_i h'; rw [h] at h'; cases h'
  · rename_i p' m' h'
    rw [h] at h'
    obtain ⟨rfl, rfl⟩ := Prod.mk.inj (Option.some.inj h')
    rfl
def parseT (bs : L8) : List Pr × Nat :=
  if 4096 < bs.length then ([], 2) else
  match pairs bs with
  | none => ([], 13)
  | some l => if 64 < l.length then ([], 2) else if dup l then ([], 9) else (l, 0)
theorem dup_snoc (l : List Pr) (p : Pr) : dup (l ++ [p]) = (dup l || (find l p.1).isSome) := by
  induction l with
  | nil => simp [dup, find]
  | cons q r ih =>
    simp only [List.cons_append, dup, ih, find, List.any_append, List.any_cons, List.any_nil, Bool.or_false]
    rw [List.find?_cons]
    have e : (Option.map (fun x : Pr => x.2) (List.find? (fun x : Pr => decide (x.1 = p.1)) r)).isSome = (List.find? (fun x : Pr => decide (x.1 = p.1)) r).isSome := by
      cases List.find? (fun x : Pr => decide (x.1 = p.1)) r <;> rfl
    rw [e]
    by_cases h : q.1 = p.1
    · have h' : decide (p.1 = q.1) = true := by simp [h]
      have h2 : decide (q.1 = p.1) = true := by simp [h]
      simp only [h', h2]; simp
    · have h' : decide (p.1 = q.1) = false := by simp [Ne.symm h]
      have h2 : decide (q.1 = p.1) = false := by simp [h]
      simp only [h', h2]; simp [e, Bool.or_assoc]
theorem pvs_snoc (l : List Pr) (p : Pr) : pvs (l ++ [p]) = pvs l ++ pc p := by simp [pvs]
theorem parse_text_spec {p : Sl} {bs : L8} {w : World} {R : Sl → Int → World → Prop} (hp : Rd w 1 p (bv bs))
    (h : ∀ s w', Grow w w' → Own w' w.heap.size t_api_Pair 2 s (pvs (parseT bs).1) → s.n ≤ 64 → R s ((parseT bs).2 : Int) w') : Ctext_Parse p w R := by
  refine Ftext_Parse.calls _ _ _ ?_
  have hn : bs.length = p.n := by have := hp.len; rw [bv_length] at this; omega
  refine br_dec (fun hlt => ?_) (fun hle => ?_)
  · have e : parseT bs = ([], 2) := by unfold parseT; rw [if_pos (by omega)]
    have := h ⟨none, 0, 0⟩ w (Keep.refl _ _)
    rw [e] at this
    exact this (own_nil _ _ _ _) (by decide)
  have hb : bs.length ≤ 4096 := by omega
  refine ⟨str bs, convStr_rule u_sl_uint8 u_uint8 u_string hp, ?_⟩
  refine ⟨fun out e rest w' => ∃ acc rl, rest = str rl ∧ Grow w w' ∧ Own w' w.heap.size t_api_Pair 2 out (pvs acc) ∧ pairs bs = (pairs rl).map (acc ++ ·) ∧ e = (if dup acc then 9 else 0) ∧ acc.length + rl.length ≤ bs.length,
    fun _ _ rest _ => rest.size, ⟨[], bs, rfl, Keep.refl _ _, own_nil _ _ _ _, by simp, rfl, by simp⟩, ?_⟩
  rintro out e rest w0 ⟨acc, rl, rfl, hg, hown, hpr, rfl, hlen⟩
  have hon : acc.length = out.n := by have := hown.len; rw [pvs_len] at this; omega
  have hrd := hown.rd (by omega)
  rw [show (⟨#[]⟩ : ByteArray) = str [] from rfl, sEq_str]
  refine br_not (br_dec (fun hnil => ?_) (fun hne => ?_))
  · subst hnil
    rw [pairs_nil] at hpr
    simp only [Option.map_some, List.append_nil] at hpr
    have hT : parseT bs = if 64 < acc.length then ([], 2) else if dup acc then ([], 9) else (acc, 0) := by
      unfold parseT; rw [if_neg (by omega), hpr]
    refine br_dec (fun h64 => ?_) (fun h64 => ?_)
    · rw [if_pos (by omega)] at hT
      have := h ⟨none, 0, 0⟩ w0 hg
      rw [hT] at this
      exact this (own_nil _ _ _ _) (by decide)
    · rw [if_neg (by omega)] at hT
      cases hd : dup acc with
      | true =>
        rw [hd] at hT
        refine br_t (by decide) ?_
        have := h ⟨none, 0, 0⟩ w0 hg
        rw [hT] at this
        exact this (own_nil _ _ _ _) (by decide)
      | false =>
        rw [hd] at hT
        refine br_f (by decide) ?_
        have := h out w0 hg
        rw [hT] at this
        exact this hown (by omega)
  · have bad : step rl = none → ∀ w', Grow w w' → R ⟨none, 0, 0⟩ 13 w' := by
      intro hs w' hg'
      have hT : parseT bs = ([], 13) := by
        unfold parseT; rw [if_neg (by omega), hpr, pairs_none hne hs]; rfl
      have := h ⟨none, 0, 0⟩ w' hg'
      rw [hT] at this
      exact this (own_nil _ _ _ _) (by decide)
    refine cut_spec (by omega) (fun one more w1 hc1 hg1 => ?_) (fun w1 hc1 hg1 => ?_)
    · have hg1' := hg.trans hg1
      have hl1 := (cutAt_some hc1).1
      have hol : one.length + (more.length + 1) = rl.length := by rw [hl1]; simp
      refine cut_spec (by omega) (fun k v w2 hc2 hg2 => ?_) (fun w2 hc2 hg2 => ?_)
      · have hg2' := hg1'.trans hg2
        have hl2 := (cutAt_some hc2).1
        have hkv : k.length + (v.length + 1) = one.length := by rw [hl2]; simp
        refine ⟨fun _ => ?_, fun q => (by cases q)⟩
        refine key_text_spec (by rw [size_str]; omega) ?_
        rw [ls_str]
        cases hk : keyOk k with
        | false =>
          refine ⟨fun q => (by cases q), fun _ => ?_⟩
          refine br_t rfl ?_
          exact bad (by unfold step; rw [hc1]; simp only [hc2, hk, Bool.false_and]; rfl) _ hg2'
        | true =>
          refine ⟨fun _ => ?_, fun q => (by cases q)⟩
          refine val_text_spec (by rw [size_str]; omega) ?_
          rw [ls_str]
          cases hv : valOk v with
          | false =>
            refine br_t rfl ?_
            exact bad (by unfold step; rw [hc1]; simp only [hc2, hk, hv, Bool.and_false]; rfl) _ hg2'
          | true =>
            refine br_f rfl ?_
            have hstep : step rl = some ((k, v), more) := by unfold step; rw [hc1]; simp only [hc2, hk, hv, Bool.and_true]; rfl
            have hg02 : Grow w0 w2 := hg1.trans hg2
            refine find_text_spec (hrd.grow hg02) fun w3 hg3 => ?_
            have next : ∀ w', Grow w2 w' → ∀ e2 : Int, e2 = (if dup (acc ++ [(k, v)]) then 9 else 0) →
                RunK Tryd.prog .sl (Instr.buildSlice t_sl_api_Pair 1 #[(0, .agg #[.string (str k), .string (str v)])]) w' fun xs w08 => RunK Tryd.prog .sl (Builtin.append_ #[t_sl_api_Pair, t_sl_api_Pair] t_sl_api_Pair #[.slice out.A out.n out.c, .slice xs.A xs.n xs.c]) w08 fun xs1 w09 =>
                  (∃ acc rl', str more = str rl' ∧ Grow w w09 ∧ Own w09 w.heap.size t_api_Pair 2 xs1 (pvs acc) ∧ pairs bs = (pairs rl').map (acc ++ ·) ∧ e2 = (if dup acc then 9 else 0) ∧ acc.length + rl'.length ≤ bs.length) ∧ (str more).size < (str rl).size := by
              intro w' hg4 e2 he2
              refine lit_rule (cells := #[.string (str k), .string (str v)]) (e := t_api_Pair) (z := 2) (base := w.heap.size) (by kernel_rfl) rfl (by decide) (by have := hg2'.size; have := hg4.size; omega) fun w5 hlit hg5 hsz5 => ?_
              have hg05 : Grow w0 w5 := (hg02.trans hg4).trans hg5
              refine append_rule u_sl_api_Pair i_api_Pair rfl (by decide) (by decide) (hown.grow hg05) (hlit.rd (by show 1 ≤ _; decide)) (by simp [Value.oneCell']) (by show (out.n + 1) * 32 ≤ _; omega) (by have := hg.size; have := hg05.size; omega) fun s' w6 hn' hown' hk' hbl => ?_
              have hg6 : Grow w w6 := by
                refine (hg.trans hg05).keep hk' fun i hi q => ?_
                have := (hown.ge i q.symm).1
                omega
              refine ⟨⟨acc ++ [(k, v)], more, rfl, hg6, by rw [pvs_snoc]; exact hown', ?_, he2, by simp; omega⟩, by rw [size_str, size_str]; omega⟩
              rw [hpr, pairs_some hne hstep, Option.map_map]
              congr 1
              funext l
              simp
            refine ⟨fun hb4 => ?_, fun hb4 => ?_⟩
            · exact next w3 hg3 9 (by rw [dup_snoc, hb4]; simp)
            · exact next w3 hg3 _ (by rw [dup_snoc, hb4]; simp)
      · refine ⟨fun q => (by cases q), fun _ => ⟨fun q => (by cases q), fun _ => br_t rfl ?_⟩⟩
        exact bad (by unfold step; rw [hc1]; simp only [hc2]) _ (hg1'.trans hg2)
    · have hg1' := hg.trans hg1
      have done : ∀ w', Grow w w' → R ⟨none, 0, 0⟩ 13 w' := bad (by unfold step; rw [hc1])
      refine cut_spec (by omega) (fun k v w2 hc2 hg2 => ?_) (fun w2 hc2 hg2 => ?_)
      · exact ⟨fun q => (by cases q), fun _ => ⟨fun q => (by cases q), fun _ => br_t rfl (done _ (hg1'.trans hg2))⟩⟩
      · exact ⟨fun q => (by cases q), fun _ => ⟨fun q => (by cases q), fun _ => br_t rfl (done _ (hg1'.trans hg2))⟩⟩
end Go.Proofs.YtiokflecflbopaaDoor

/- Layer 18: the reference's reading, and lists that are alike. -/
namespace Go.Proofs.YtiokflecflbopaaDoor
open Go CF

theorem fit_pc (p : Pr) : FitL [.s, .s] (pc p) := ⟨rfl, rfl, trivial⟩
theorem pc_inj {p q : Pr} (h : pc p = pc q) : p = q := by
  simp only [pc, List.cons.injEq, Value.string.injEq, and_true] at h
  exact Prod.ext (str_inj h.1) (str_inj h.2)
theorem flat_api_Pair : flatK Tryd.prog 8 t_api_Pair = some [.s, .s] := by kernel_rfl
theorem kd_api_Pair : kd Tryd.prog t_api_Pair = .ag := by kernel_rfl
theorem gt_api_Pair : Tryd.prog.eqGuardType Tryd.prog.depth t_api_Pair = false := by kernel_rfl
end Go.Proofs.YtiokflecflbopaaDoor

/- Layer 18: the law of reading. -/
namespace Go.Proofs.YtiokflecflbopaaDoor
open Go CF

theorem parse_a1 : parseT [97, 61, 49, 0] = ([([97], [49])], 0) := by
  have hs : step [97, 61, 49, 0] = some (([97], [49]), []) := by decide
  have hp : pairs [97, 61, 49, 0] = some [([97], [49])] := by rw [pairs_some (by decide) hs, pairs_nil]; rfl
  unfold parseT
  rw [if_neg (by decide), hp]
  decide
theorem awake18_spec {w : World} {R : Bool → World → Prop} (h : ∀ w', Grow w w' → R true w') : Cpalletlaw18_awake w R := by
  refine Fpalletlaw18_awake.calls _ _ ?_
  refine bytes_const_rule (l := [97, 61, 49, 0]) (e := t_uint8) (by kernel_rfl) rfl (by decide) u_sl_uint8 u_uint8 fun s w0 hg0 hrd => ?_
  refine parse_text_spec hrd fun s2 w1 hg1 hown hn => ?_
  rw [parse_a1] at hown ⊢
  have hn1 : s2.n = 1 := by have := hown.len; rw [pvs_len] at this; simp at this; omega
  have hr := hown.rd (by omega)
  obtain ⟨p, hp, hc⟩ := rd_pair hr (i := 0) (by show 0 < 1; decide)
  obtain ⟨r, hre, hrun⟩ := eql_rule (x := .tmp 19) (y := .tmp 20) flat_api_Pair kd_api_Pair gt_api_Pair (fit_pc ([97], [49])) (fit_pc ([97], [49]))
  have hrt : r = true := hre.2 rfl
  subst hrt
  refine ⟨fun _ => ⟨by omega, by omega, by rw [hp]; rfl⟩, (pc ([97], [49])).toArray, fun _ => ?_, true, fun _ => hrun w1, ?_⟩
  · rw [hp]; exact loadVar_rule g_api_Pair i_api_Pair rfl hc
  · have := h w1 (hg0.trans hg1)
    rw [hn1]
    exact this
end Go.Proofs.YtiokflecflbopaaDoor

/- What two sides come to: both texts. -/
namespace Go.Proofs.YtiokflecflbopaaDoor
open Go CF
abbrev lYes : L8 := [89, 101, 115]
abbrev lNo : L8 := [78, 111]
abbrev lRej : L8 := [82, 101, 106, 101, 99, 116]
def yesOf (o : L8) (b : Bool) : L8 := if o ≠ lYes ∧ o ≠ lNo then lRej else if b then lYes else lNo
def bothOf (o : L8) (own : Bool) : L8 := yesOf o (decide (o = lYes) && own)
def eitherOf (o : L8) (own : Bool) : L8 := yesOf o (decide (o = lYes) || own)
def leastOf (o : L8) (own low high : Nat) : L8 := match numOf o with
  | some n => if n < low ∨ high < n then lRej else dec (min n own)
  | none => lRej
theorem yes_spec {o : L8} {b : Bool} {w : World} {R : ByteArray → World → Prop} (h : R (str (yesOf o b)) w) : Ctext_yes (str o) b w R := by
  refine Ftext_yes.calls _ _ _ _ ?_
  unfold Ftext_yes
  simp only [show s_Yes = str lYes from rfl, show s_No = str lNo from rfl, show s_Reject = str lRej from rfl, sEq_str]
  unfold yesOf at h
  by_cases h1 : o = lYes
  · refine br_f (by simp [h1]) ?_
    rw [if_neg (fun q => q.1 h1)] at h
    cases b
    · exact br_f rfl (by simpa using h)
    · exact br_t rfl (by simpa using h)
  · by_cases h2 : o = lNo
    · refine br_f (by simp [h2]) ?_
      rw [if_neg (fun q => q.2 h2)] at h
      cases b
      · exact br_f rfl (by simpa using h)
      · exact br_t rfl (by simpa using h)
    · rw [if_pos ⟨h1, h2⟩] at h
      exact br_t (by simp [h1, h2]) h
theorem both_spec {o : L8} {own : Bool} {w : World} {R : ByteArray → World → Prop} (h : R (str (bothOf o own)) w) : Ctext_Both (str o) own w R := by
  refine Ftext_Both.calls _ _ _ _ ?_
  unfold Ftext_Both
  rw [show sEq (str o) s_Yes = decide (o = lYes) from sEq_str (b := lYes)]
  exact yes_spec h
theorem either_spec {o : L8} {own : Bool} {w : World} {R : ByteArray → World → Prop} (h : R (str (eitherOf o own)) w) : Ctext_Either (str o) own w R := by
  refine Ftext_Either.calls _ _ _ _ ?_
  unfold Ftext_Either
  rw [show sEq (str o) s_Yes = decide (o = lYes) from sEq_str (b := lYes)]
  exact yes_spec h
theorem least_spec {o : L8} {own low high : Nat} {w : World} {R : ByteArray → World → Prop} (hv : ErrV w) (ht : TabV w) (hl : o.length ≤ 140737489403904) (how : own < 18446744073709551616)
    (h : ∀ w', Grow w w' → R (str (leastOf o own low high)) w') : Ctext_Least (str o) (own : Int) (low : Int) (high : Int) w R := by
  refine Ftext_Least.calls _ _ _ _ _ _ ?_
  refine number_spec hv hl (fun n w' hn g => ?_) (fun w' hn g => ?_)
  · have hlt : n < 18446744073709551616 := by
      have : ∀ s, numOf s = some n → n < 18446744073709551616 := numOf_lt
      exact this o hn
    by_cases hb : n < low ∨ high < n
    · refine br_t (by simp; omega) ?_
      have := h w' g
      unfold leastOf at this
      rw [hn] at this
      simp only [if_pos hb] at this
      exact this
    · refine br_f (by simp; omega) ?_
      have hm : mn (n : Int) (own : Int) = ((min n own : Nat) : Int) := by unfold mn; split <;> omega
      rw [hm]
      refine format_spec (ht.grow g) (by omega) fun w2 g2 => ?_
      have := h w2 (g.trans g2)
      unfold leastOf at this
      rw [hn] at this
      simp only [if_neg hb] at this
      exact this
  · refine br_t rfl ?_
    have := h w' g
    unfold leastOf at this
    rw [hn] at this
    exact this
theorem rboth_spec {o : L8} {own : Bool} {w : World} {R : ByteArray → World → Prop} (h : R (str (bothOf o own)) w) : Cpalletref18_Both (str o) own w R := by
  refine Fpalletref18_Both.calls _ _ _ _ ?_
  unfold Fpalletref18_Both
  simp only [show s_Yes = str lYes from rfl, show s_No = str lNo from rfl, show s_Reject = str lRej from rfl, sEq_str]
  unfold bothOf yesOf at h
  by_cases h1 : o = lYes
  · cases own
    · exact br_f (by simp) (br_t (by simp [h1]) (by simpa [h1] using h))
    · exact br_t (by simp [h1]) (by simpa [h1] using h)
  · refine br_f (by simp [h1]) ?_
    by_cases h2 : o = lNo
    · exact br_t (by simp [h2]) (by simpa [h2] using h)
    · exact br_f (by simp [h1, h2]) (by simpa [h1, h2] using h)
theorem reither_spec {o : L8} {own : Bool} {w : World} {R : ByteArray → World → Prop} (h : R (str (eitherOf o own)) w) : Cpalletref18_Either (str o) own w R := by
  refine Fpalletref18_Either.calls _ _ _ _ ?_
  unfold Fpalletref18_Either
  simp only [show s_Yes = str lYes from rfl, show s_No = str lNo from rfl, show s_Reject = str lRej from rfl, sEq_str]
  unfold eitherOf yesOf at h
  by_cases h1 : o = lYes
  · exact br_t (by simp [h1]) (by simpa [h1] using h)
  · by_cases h2 : o = lNo
    · cases own
      · exact br_f (by simp [h1]) (br_t (by simp [h2]) (by simpa [h2] using h))
      · exact br_t (by simp [h2]) (by simpa [h2] using h)
    · exact br_f (by simp [h1, h2]) (br_f (by simp [h2]) (by simpa [h1, h2] using h))
theorem rleast_spec {o : L8} {own low high : Nat} {w : World} {R : ByteArray → World → Prop} (hl : o.length ≤ 140737489403904) (how : own < 18446744073709551616)
    (h : ∀ w', Grow w w' → R (str (leastOf o own low high)) w') : Cpalletref18_Least (str o) (own : Int) (low : Int) (high : Int) w R := by
  refine Fpalletref18_Least.calls _ _ _ _ _ _ ?_
  unfold leastOf at h
  refine rnumber_spec hl (fun n hn => ?_) (fun hn => ?_)
  · rw [hn] at h
    simp only [] at h
    by_cases hb : n < low ∨ high < n
    · rw [if_pos hb] at h
      exact br_t (by simp; omega) (h w (Keep.refl _ _))
    · rw [if_neg hb] at h
      refine br_f (by simp; omega) ?_
      refine br_dec (fun hlt => rdec_spec own how _ _ fun w' g => ?_) (fun hge => rdec_spec n (numOf_lt o hn) _ _ fun w' g => ?_)
      · have := h w' g; rwa [show min n own = own by omega] at this
      · have := h w' g; rwa [show min n own = n by omega] at this
  · rw [hn] at h
    exact br_t rfl (h w (Keep.refl _ _))
end Go.Proofs.YtiokflecflbopaaDoor

/- TextAgrees. -/
namespace Go.Proofs.YtiokflecflbopaaDoor
open Go CF
theorem words_lit {w : World} {K : Sl → World → Prop} (h : ∀ s w', Grow w w' → Rd w' 1 s [.string (str lNo), .string (str lYes)] → K s w') :
    RunK Tryd.prog .sl (Instr.buildSlice t_sl_string 2 #[(0, .string s_No), (1, .string s_Yes)]) w K := by
  refine lit_rule (cells := #[.string s_No, .string s_Yes]) (e := t_string) (z := 1) (base := w.heap.size) (by kernel_rfl) rfl (by decide) (Nat.le_refl _) fun w1 hlit hg hsz => ?_
  exact h _ _ hg (hlit.rd (by show 2 ≤ _; decide))
def wordOf (x : Bool) : L8 := if x then lYes else lNo
def idx (x : Bool) : Int := if x then 1 else 0
theorem word_read {w : World} {s : Sl} (h : Rd w 1 s [.string (str lNo), .string (str lYes)]) (x : Bool) : (0 ≤ idx x ∧ idx x < (s.n : Int) ∧ s.A.isSome = true) ∧ ∀ u, Grow w u → u.cell? ((gA s.A).add ((idx x).toNat * 1)) = some (.string (str (wordOf x))) := by
  have hn : s.n = 2 := by have := h.len; simp at this; omega
  obtain ⟨a, hA, hc⟩ := h.at_ (by simp)
  refine ⟨⟨by cases x <;> decide, by rw [hn]; cases x <;> decide, by rw [hA]; rfl⟩, fun u hu => ?_⟩
  obtain ⟨a', hA', hc'⟩ := (h.grow hu).at_ (by simp)
  rw [hA'] 
  show u.cell? (a'.add _) = _
  cases x
  · exact hc' 0 _ rfl
  · exact hc' 1 _ rfl
set_option maxHeartbeats 2000000 in
theorem textAgrees_spec (a b : Nat) (x y : Bool) {w : World} {R : Bool → World → Prop} (hv : ErrV w) (ht : TabV w) (ha : a < 18446744073709551616) (hb : b < 18446744073709551616) (h : ∀ w', Grow w w' → R true w') :
    Cpalletlaw18_TextAgrees (a : Int) (b : Int) x y w R := by
  refine Fpalletlaw18_TextAgrees.calls _ _ _ _ _ _ ?_
  refine awake18_spec fun w0 hg0 => br_f rfl ?_
  refine words_lit fun xs wr hgr hrd => ?_
  have gr := hg0.trans hgr
  refine letX1 (I := fun i u => i = idx x ∧ wr = u) (fun i u => ?_) (fun hj => by cases x; exact br_f rfl (hj _ _ ⟨rfl, rfl⟩); exact br_t rfl (hj _ _ ⟨rfl, rfl⟩))
  rintro ⟨rfl, rfl⟩
  refine letX1 (I := fun j u => j = idx y ∧ wr = u) (fun j u => ?_) (fun hj => by cases y; exact br_f rfl (hj _ _ ⟨rfl, rfl⟩); exact br_t rfl (hj _ _ ⟨rfl, rfl⟩))
  rintro ⟨rfl, rfl⟩
  have hla : (dec a).length ≤ 140737489403904 := by rw [Lib.decDigits_length]; have := nDigits_le ha; omega
  have hlb : (dec b).length ≤ 140737489403904 := by rw [Lib.decDigits_length]; have := nDigits_le hb; omega
  refine rdec_spec a ha _ _ fun w4 g4 => ?_
  refine number_spec (hv.grow (gr.trans g4)) hla (fun n w5 hn g5 => ?_) (fun w5 hn _ => by rw [numOf_decN ha] at hn; cases hn)
  obtain rfl : n = a := by rw [numOf_decN ha] at hn; exact (Option.some.inj hn).symm
  rintro w6 hw6
  have g6 : Grow wr w6 := (g4.trans g5).trans (keep_drew' hw6)
  have hc1 : ((n : Int) == (n : Int)) = true := beq_self_eq_true _
  have hL1 : leastOf (dec n) b 0 18446744073709551615 = dec (min n b) := by unfold leastOf; rw [numOf_decN ha]; simp only []; rw [if_neg (by omega)]
  have hL2 : leastOf (dec b) n 0 18446744073709551615 = dec (min n b) := by unfold leastOf; rw [numOf_decN hb]; simp only []; rw [if_neg (by omega), Nat.min_comm]
  have hB : bothOf (wordOf x) y = bothOf (wordOf y) x := by cases x <;> cases y <;> decide
  have hE : eitherOf (wordOf x) y = eitherOf (wordOf y) x := by cases x <;> cases y <;> decide
  obtain ⟨bx, rx⟩ := word_read hrd x
  obtain ⟨byy, ry⟩ := word_read hrd y
  simp only [hc1, Bool.true_and]
  refine ⟨Grow wr, g6, ?_⟩
  refine letJ1 (I := fun s u => s = str (dec n) ∧ Grow wr u) (fun s1 w7 => ?_) (fun hj => ⟨fun _ => rdec_spec n ha _ _ fun w' g => hj _ _ ⟨rfl, g6.trans g⟩, fun q => (by cases q)⟩)
  rintro ⟨rfl, g7⟩
  refine ⟨g7, ?_⟩
  refine letJ1 (I := fun s u => s = str (dec (min n b)) ∧ Grow wr u) (fun s2 w8 => ?_) (fun hj => ⟨fun _ => least_spec (own := b) (low := 0) (high := 18446744073709551615) (hv.grow (gr.trans g7)) (ht.grow (gr.trans g7)) hla hb fun w' g => hj _ _ ⟨by rw [hL1], g7.trans g⟩, fun q => (by cases q)⟩)
  rintro ⟨rfl, g8⟩
  refine ⟨g8, ?_⟩
  refine letJ1 (I := fun s u => s = str (dec b) ∧ Grow wr u) (fun s3 w9 => ?_) (fun hj => ⟨fun _ => rdec_spec b hb _ _ fun w' g => hj _ _ ⟨rfl, g8.trans g⟩, fun q => (by cases q)⟩)
  rintro ⟨rfl, g9⟩
  refine ⟨g9, ?_⟩
  refine letJ1 (I := fun s u => s = str (dec (min n b)) ∧ Grow wr u) (fun s4 w10 => ?_) (fun hj => ⟨fun _ => least_spec (own := n) (low := 0) (high := 18446744073709551615) (hv.grow (gr.trans g9)) (ht.grow (gr.trans g9)) hlb ha fun w' g => hj _ _ ⟨by rw [hL2], g9.trans g⟩, fun q => (by cases q)⟩)
  rintro ⟨rfl, g10⟩
  have hs1 : sEq (str (dec (min n b))) (str (dec (min n b))) = true := by rw [sEq_str]; exact decide_eq_true rfl
  simp only [hs1]
  refine ⟨g10, fun _ => bx, Grow wr, g10, fun _ q => q, str (wordOf x), fun _ u hu => rx u hu, fun _ => byy, Grow wr, g10, fun _ q => q, str (wordOf y), fun _ u hu => ry u hu, ?_⟩
  refine letJ1 (I := fun s u => s = str (bothOf (wordOf x) y) ∧ Grow wr u) (fun s7 w11 => ?_) (fun hj => ⟨fun _ => both_spec (hj _ _ ⟨rfl, g10⟩), fun q => (by cases q)⟩)
  rintro ⟨rfl, g11⟩
  refine ⟨g11, ?_⟩
  refine letJ1 (I := fun s u => s = str (bothOf (wordOf x) y) ∧ Grow wr u) (fun s8 w12 => ?_) (fun hj => ⟨fun _ => both_spec (hj _ _ ⟨by rw [hB], g11⟩), fun q => (by cases q)⟩)
  rintro ⟨rfl, g12⟩
  have hs2 : sEq (str (bothOf (wordOf x) y)) (str (bothOf (wordOf x) y)) = true := by rw [sEq_str]; exact decide_eq_true rfl
  simp only [hs2]
  refine ⟨g12, fun _ => bx, Grow wr, g12, fun _ q => q, str (wordOf x), fun _ u hu => rx u hu, fun _ => byy, Grow wr, g12, fun _ q => q, str (wordOf y), fun _ u hu => ry u hu, ?_⟩
  refine letJ1 (I := fun s u => s = str (eitherOf (wordOf x) y) ∧ Grow wr u) (fun s11 w13 => ?_) (fun hj => ⟨fun _ => either_spec (hj _ _ ⟨rfl, g12⟩), fun q => (by cases q)⟩)
  rintro ⟨rfl, g13⟩
  refine ⟨g13, ?_⟩
  refine letJ1 (I := fun s u => s = str (eitherOf (wordOf x) y) ∧ Grow wr u) (fun s12 w14 => ?_) (fun hj => ⟨fun _ => either_spec (hj _ _ ⟨by rw [hE], g13⟩), fun q => (by cases q)⟩)
  rintro ⟨rfl, g14⟩
  have hs3 : sEq (str (eitherOf (wordOf x) y)) (str (eitherOf (wordOf x) y)) = true := by rw [sEq_str]; exact decide_eq_true rfl
  rw [hs3]
  exact h _ (gr.trans g14)
end Go.Proofs.YtiokflecflbopaaDoor

/- What the rows' laid variables say: the table of powers, the errors that the library keeps. -/
namespace Go.Proofs.YtiokflecflbopaaDoor
open Go CF
theorem laidVars_get {P : Program} {w : World} : ∀ {laid : List (String × DataW Unit)} {ps : List MemPlace}, DataW.LaidVars P w laid ps → ∀ {n : String} {d : DataW Unit}, (n, d) ∈ laid →
    ∃ g t cs fuel p, P.globalNamed n = some g ∧ (P.globals[g]?).map (·.type) = some t ∧ w.var? P n = some cs ∧ DataW.trod (fun _ => ()) P w 0 (fun _ => true) false fuel t cs.toList = some (d, p)
  | (m, e) :: r, ps, h, n, d, hm => by
    obtain ⟨g, t, cs, fuel, p, q, h1, h2, h3, h4, h5, _⟩ := h
    rcases List.mem_cons.1 hm with e | hm
    · cases e; exact ⟨g, t, cs, fuel, p, h1, h2, h3, h4⟩
    · exact laidVars_get h5 hm
theorem tabV_of {w : World} {laid : List (String × DataW Unit)} (h : laidMet Tryd.prog laid w) (hm : ("internal/strconv.uint64pow10", Rows.laid_internal_strconv_uint64pow10) ∈ laid) : TabV w := by
  obtain ⟨ps, hl, _⟩ := h
  obtain ⟨g, t, cs, fuel, p, h1, h2, h3, h4⟩ := laidVars_get hl hm
  obtain rfl : g = gl_internal_strconv_uint64pow10 := Option.some.inj (h1.symm.trans (by kernel_rfl))
  obtain rfl : t = gt_internal_strconv_uint64pow10 := Option.some.inj (h2.symm.trans (by kernel_rfl))
  unfold TabV Lib.TabIs
  rw [h3, ← Lib.cells_of_tab (n := 20) (e := t_uint64) (k := .u64) (zs := Lib.pow10Tab) (by kernel_rfl) u_uint64 (by kernel_rfl) (by kernel_rfl) h4]
theorem iface_of {w : World} {n : String} {g : Nat} {cs : Array Value} {fuel : Nat} {m : String} {d : DataW Unit} {p : List MemPlace} (h1 : Tryd.prog.globalNamed n = some g) (h3 : w.var? Tryd.prog n = some cs)
    (h4 : DataW.trod (fun _ => ()) Tryd.prog w 0 (fun _ => true) false fuel t_error cs.toList = some (.iface m d, p)) : ∃ t v, w.cell? ⟨g, 0, none⟩ = some (.iface t v) := by
  have hc := World.var?_cell h1 h3 0
  cases fuel with
  | zero => simp [DataW.trod] at h4
  | succ fuel =>
    have hu : CF.isIface Tryd.prog t_error = true := by kernel_rfl
    unfold CF.isIface at hu
    split at hu
    · rename_i ms hq
      obtain ⟨l⟩ := cs
      simp only [DataW.trod, hq] at h4
      match l, h4, hc with
      | [], h4, _ => simp at h4
      | [x], h4, hc =>
        cases x <;> simp at h4
        rename_i u v
        exact ⟨u, v, hc⟩
      | x :: y :: r, h4, _ => simp at h4
    · cases hu
theorem errV_of {w : World} {laid : List (String × DataW Unit)} (h : laidMet Tryd.prog laid w) (hs : ("strconv.ErrSyntax", Rows.laid_strconv_ErrSyntax) ∈ laid) (hr : ("strconv.ErrRange", Rows.laid_strconv_ErrRange) ∈ laid) : ErrV w := by
  obtain ⟨ps, hl, _⟩ := h
  constructor
  · obtain ⟨g, t, cs, fuel, p, h1, h2, h3, h4⟩ := laidVars_get hl hs
    obtain rfl : g = gl_strconv_ErrSyntax := Option.some.inj (h1.symm.trans (by kernel_rfl))
    obtain rfl : t = t_error := Option.some.inj (h2.symm.trans (by kernel_rfl))
    exact iface_of h1 h3 h4
  · obtain ⟨g, t, cs, fuel, p, h1, h2, h3, h4⟩ := laidVars_get hl hr
    obtain rfl : g = gl_strconv_ErrRange := Option.some.inj (h1.symm.trans (by kernel_rfl))
    obtain rfl : t = t_error := Option.some.inj (h2.symm.trans (by kernel_rfl))
    exact iface_of h1 h3 h4
end Go.Proofs.YtiokflecflbopaaDoor

/- The rows of TextAgrees and TextAsks. -/
namespace Go.Proofs.YtiokflecflbopaaDoor
open Go CF
theorem u64_nat {a : Int} (h : (Lit.int .u64 a).wf = true) : ∃ n : Nat, a = n ∧ n < 18446744073709551616 := by
  have h2 : 0 ≤ a ∧ a ≤ 18446744073709551615 := by
    have h1 := (Bool.and_eq_true _ _ ▸ h : decide (IntKind.min .u64 ≤ a) = true ∧ decide (a ≤ IntKind.max .u64) = true)
    exact ⟨of_decide_eq_true h1.1, of_decide_eq_true h1.2⟩
  exact ⟨a.toNat, by omega, by omega⟩
theorem textAgrees_row {a b : Int} {x y : Bool} {w : World} {R : Bool → World → Prop} (wa : (Lit.int .u64 a).wf = true) (wb : (Lit.int .u64 b).wf = true) (hv : ErrV w) (ht : TabV w) (h : ∀ w', Grow w w' → R true w') :
    Cpalletlaw18_TextAgrees a b x y w R := by
  obtain ⟨a, rfl, ha⟩ := u64_nat wa
  obtain ⟨b, rfl, hb⟩ := u64_nat wb
  exact textAgrees_spec a b x y hv ht ha hb h
end Go.Proofs.YtiokflecflbopaaDoor

/- Layer 18: pairs as a text. -/
namespace Go.Proofs.YtiokflecflbopaaDoor
open Go CF

def serP (p : Pr) : L8 := p.1 ++ ([61] ++ (p.2 ++ [0]))
def ser (l : List Pr) : L8 := l.flatMap serP
def prOk (p : Pr) : Bool := keyOk p.1 && valOk p.2
def writeT (l : List Pr) : L8 × Nat :=
  if 64 < l.length then ([], 2) else if l.all prOk then (if 4096 < (ser l).length then ([], 2) else if dup l then ([], 9) else (ser l, 0)) else ([], 13)
theorem ser_snoc (l : List Pr) (p : Pr) : ser (l ++ [p]) = ser l ++ serP p := by simp [ser]
theorem keyOk_len {k : L8} (h : keyOk k = true) : k.length ≤ 63 := by
  unfold keyOk at h; simp only [Bool.and_eq_true, decide_eq_true_eq] at h; exact h.2
theorem valOk_len {k : L8} (h : valOk k = true) : k.length ≤ 255 := by
  unfold valOk at h; simp only [Bool.and_eq_true, decide_eq_true_eq] at h; exact h.2
theorem serP_len {p : Pr} (h : prOk p = true) : (serP p).length ≤ 320 := by
  unfold prOk at h
  rw [Bool.and_eq_true] at h
  have h1 := keyOk_len h.1
  have h2 := valOk_len h.2
  simp [serP]
  omega
/-- a pair's cells are strings within reach -/
def PrL (p : Pr) : Prop := p.1.length ≤ 140737488351232 ∧ p.2.length ≤ 140737488351232
theorem take_all_false {l : List Pr} {j : Nat} (hj : j < l.length) (h : prOk l[j] = false) : l.all prOk = false := by
  rw [List.all_eq_false]; exact ⟨l[j], List.getElem_mem hj, by simp [h]⟩
end Go.Proofs.YtiokflecflbopaaDoor

/- Layer 18: the reference's writing, the way back, the laws of writing and joining. -/
namespace Go.Proofs.YtiokflecflbopaaDoor
open Go CF

theorem keyOk_not {k : L8} (h : keyOk k = true) {c : UInt8} (hc : kc c = false) : c ∉ k := by
  unfold keyOk at h
  simp only [Bool.and_eq_true, List.all_eq_true] at h
  exact fun q => by rw [h.1.1 c q] at hc; cases hc
theorem valOk_not {k : L8} (h : valOk k = true) {c : UInt8} (hc : vcB c = false) : c ∉ k := by
  unfold valOk at h
  simp only [Bool.and_eq_true, List.all_eq_true] at h
  exact fun q => by rw [h.1 c q] at hc; cases hc
theorem step_serP {p : Pr} (h : prOk p = true) (r : L8) : step (serP p ++ r) = some (p, r) := by
  unfold prOk at h
  rw [Bool.and_eq_true] at h
  have e : serP p ++ r = (p.1 ++ 61 :: p.2) ++ 0 :: r := by simp [serP]
  have n0 : (0 : UInt8) ∉ p.1 ++ 61 :: p.2 := by
    simp only [List.mem_append, List.mem_cons, not_or]
    exact ⟨keyOk_not h.1 (by decide), by decide, valOk_not h.2 (by decide)⟩
  have n1 : (61 : UInt8) ∉ p.1 := keyOk_not h.1 (by decide)
  unfold step
  rw [e, cutAt_of n0]
  simp only
  rw [cutAt_of n1]
  simp only [h.1, h.2, Bool.and_self, if_true]
theorem pairs_ser : ∀ {l : List Pr}, l.all prOk = true → pairs (ser l) = some l
  | [], _ => pairs_nil
  | p :: l, h => by
    rw [List.all_cons, Bool.and_eq_true] at h
    have e : ser (p :: l) = serP p ++ ser l := by simp [ser]
    rw [e, pairs_some (by simp [serP]) (step_serP h.1 _), pairs_ser h.2]
    rfl
theorem writeT_ok {l : List Pr} (h : (writeT l).2 = 0) : l.length ≤ 64 ∧ l.all prOk = true ∧ (ser l).length ≤ 4096 ∧ dup l = false ∧ (writeT l).1 = ser l := by
  unfold writeT at h ⊢
  by_cases h1 : 64 < l.length
  · rw [if_pos h1] at h; cases h
  rw [if_neg h1] at h ⊢
  by_cases h2 : l.all prOk = true
  · rw [if_pos h2] at h ⊢
    by_cases h3 : 4096 < (ser l).length
    · rw [if_pos h3] at h; cases h
    · rw [if_neg h3] at h ⊢
      by_cases h4 : dup l = true
      · rw [if_pos h4] at h; cases h
      · rw [if_neg h4]
        exact ⟨by omega, h2, by omega, by simpa using h4, rfl⟩
  · rw [if_neg h2] at h; cases h
theorem parse_ser {l : List Pr} (h : (writeT l).2 = 0) : parseT (ser l) = (l, 0) := by
  obtain ⟨h1, h2, h3, h4, _⟩ := writeT_ok h
  unfold parseT
  rw [if_neg (by omega), pairs_ser h2]
  simp only
  rw [if_neg (by omega), h4]
  rfl
end Go.Proofs.YtiokflecflbopaaDoor

/- Layer 18: the law of joining; pairs as arguments. -/
namespace Go.Proofs.YtiokflecflbopaaDoor
open Go CF

section
variable {H : Type} {enc : TypeId × Value → H} {w : World} {base : Nat} {spare : Nat → Bool} {held : Bool}
theorem opens_pair : Opens enc Tryd.prog w base spare held t_api_Pair fun cs => ∃ p : Pr, cs = pc p ∧ PrL p :=
  (opens_flat 8 t_api_Pair [.s, .s] flat_api_Pair (by kernel_rfl)).mono fun cs ⟨h, hv⟩ => by
    match cs, h with
    | [.string a, .string b], _ =>
      refine ⟨(ls a, ls b), by simp only [pc, str_ls], ?_, ?_⟩
      · have := hv (.string a) (by simp); simpa [okV, length_ls] using this
      · have := hv (.string b) (by simp); simpa [okV, length_ls] using this
theorem opens_pairs : Opens enc Tryd.prog w base spare held t_sl_api_Pair fun cs => ∃ s : Sl, cs = [.slice s.A s.n s.c] ∧ ∃ ps : List Pr, Rd w 2 s (pvs ps) ∧ (∀ p ∈ ps, PrL p) ∧ s.n * 32 ≤ 140737488351232 :=
  (opens_slice (f := pc) (Q := PrL) (z := 2) (bytes := 32) u_sl_api_Pair (by kernel_rfl) (by kernel_rfl) (by decide) pc_len opens_pair).mono fun _ ⟨s, h1, ps, h2, _, h4, h5⟩ => ⟨s, h1, ps, h2, h4, h5⟩
end
theorem ser_append (l m : List Pr) : ser (l ++ m) = ser l ++ ser m := by simp [ser]
def both (l m : List Pr) : Bool := m.any fun q => (find l q.1).isSome
theorem both_snoc (l : List Pr) (q : Pr) (r : List Pr) : both (l ++ [q]) r = (both l r || r.any fun p => decide (p.1 = q.1)) := by
  unfold both
  induction r with
  | nil => rfl
  | cons p s ihs =>
    have hf : (find (l ++ [q]) p.1).isSome = ((find l p.1).isSome || decide (p.1 = q.1)) := by
      unfold find
      rw [List.find?_append]
      cases hfl : List.find? (fun x : Pr => decide (x.1 = p.1)) l with
      | some x => simp
      | none =>
        by_cases hq : q.1 = p.1
        · simp [hq]
        · simp [hq, Ne.symm hq]
    simp only [List.any_cons, hf, ihs]
    cases (find l p.1).isSome <;> cases decide (p.1 = q.1) <;> simp
theorem dup_append (l m : List Pr) : dup (l ++ m) = (dup l || dup m || both l m) := by
  induction m generalizing l with
  | nil => simp [dup, both]
  | cons q r ih =>
    have e : l ++ q :: r = (l ++ [q]) ++ r := by simp
    rw [e, ih, dup_snoc, both_snoc]
    simp only [dup, both, List.any_cons]
    cases dup l <;> cases (find l q.1).isSome <;> cases (r.any fun p => decide (p.1 = q.1)) <;> cases dup r <;> simp
theorem pvs_append (l m : List Pr) : pvs (l ++ m) = pvs l ++ pvs m := by simp [pvs]
theorem pvs_one (l : List Pr) : ∀ u ∈ pvs l, u.oneCell' = true := by
  intro u hu
  simp only [pvs, pc, List.mem_flatMap, List.mem_cons, List.not_mem_nil, or_false] at hu
  obtain ⟨p, _, rfl | rfl⟩ := hu <;> rfl
theorem bv_one (l : L8) : ∀ u ∈ bv l, u.oneCell' = true := by
  intro u hu
  simp only [bv, List.mem_map] at hu
  obtain ⟨p, _, rfl⟩ := hu; rfl
end Go.Proofs.YtiokflecflbopaaDoor
