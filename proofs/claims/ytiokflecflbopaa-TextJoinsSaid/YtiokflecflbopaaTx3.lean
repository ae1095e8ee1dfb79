/- Layer 18: what bytes say as pairs. -/
import Derived.Test.YtiokflecflbopaaTx2
namespace Go.Proofs.Ytiokflecflbopaa
open Go CF

theorem cutAt_of {c : UInt8} : ∀ {a b : L8}, c ∉ a → cutAt c (a ++ c :: b) = some (a, b)
  | [], b, _ => by simp [cutAt]
  | x :: r, b, h => by
    have h1 : x ≠ c := fun e => h (by simp [e])
    have h2 : c ∉ r := fun e => h (by simp [e])
    simp only [List.cons_append, cutAt, if_neg h1, cutAt_of h2, Option.map_some]
theorem cutAt_not {c : UInt8} : ∀ {l : L8}, c ∉ l → cutAt c l = none
  | [], _ => rfl
  | x :: r, h => by
    have h1 : x ≠ c := fun e => h (by simp [e])
    have h2 : c ∉ r := fun e => h (by simp [e])
    simp only [cutAt, if_neg h1, cutAt_not h2, Option.map_none]
/-- one pair at the head of a text -/
def step (l : L8) : Option (Pr × L8) :=
  match cutAt 0 l with
  | none => none
  | some (one, more) => match cutAt 61 one with
    | none => none
    | some (k, v) => if keyOk k && valOk v then some ((k, v), more) else none
theorem step_lt {l m : L8} {p : Pr} (h : step l = some (p, m)) : m.length < l.length := by
  unfold step at h
  split at h
  · cases h
  · rename_i one more hc
    have hl := (cutAt_some hc).1
    split at h
    · cases h
    · split at h
      · obtain ⟨_, rfl⟩ := Prod.mk.inj (Option.some.inj h)
        rw [hl]; simp; omega
      · cases h
def pairs (l : L8) : Option (List Pr) :=
  if l = [] then some [] else
  match h : step l with
  | none => none
  | some (p, m) => (pairs m).map (p :: ·)
termination_by l.length
decreasing_by exact step_lt h
theorem pairs_nil : pairs [] = some [] := by rw [pairs]; rfl
theorem pairs_none {l : L8} (hl : l ≠ []) (h : step l = none) : pairs l = none := by
  rw [pairs, if_neg hl]
  split
  · rfl
  · rename_i p m h'; rw [h] at h'; cases h'
theorem pairs_some {l m : L8} {p : Pr} (hl : l ≠ []) (h : step l = some (p, m)) : pairs l = (pairs m).map (p :: ·) := by
  rw [pairs, if_neg hl]
  split
  · rename_i h'; rw [h] at h'; cases h'
  · rename_i p' m' h'
    rw [h] at h'
    obtain ⟨rfl, rfl⟩ := Prod.mk.inj (Option.some.inj h')
    rfl
def parseT (bs : L8) : List Pr × Nat :=
  if 4096 < bs.length then ([], 2) else
  match pairs bs with
  | none => ([], 13)
  | some l => if 64 < l.length then ([], 2) else if dup l then ([], 9) else (l, 0)
theorem dup_snoc (l : List Pr) (p : Pr) : dup (l ++ [p]) = (dup l || (find l p.1).isSome) := by
  induction l with
  | nil => simp [dup, find]
  | cons q r ih =>
    simp only [List.cons_append, dup, ih, find, List.any_append, List.any_cons, List.any_nil, Bool.or_false]
    rw [List.find?_cons]
    have e : (Option.map (fun x : Pr => x.2) (List.find? (fun x : Pr => decide (x.1 = p.1)) r)).isSome = (List.find? (fun x : Pr => decide (x.1 = p.1)) r).isSome := by
      cases List.find? (fun x : Pr => decide (x.1 = p.1)) r <;> rfl
    rw [e]
    by_cases h : q.1 = p.1
    · have h' : decide (p.1 = q.1) = true := by simp [h]
      have h2 : decide (q.1 = p.1) = true := by simp [h]
      simp only [h', h2]; simp
    · have h' : decide (p.1 = q.1) = false := by simp [Ne.symm h]
      have h2 : decide (q.1 = p.1) = false := by simp [h]
      simp only [h', h2]; simp [e, Bool.or_assoc]
theorem pvs_snoc (l : List Pr) (p : Pr) : pvs (l ++ [p]) = pvs l ++ pc p := by simp [pvs]
theorem parse_text_spec {p : Sl} {bs : L8} {w : World} {R : Sl → Int → World → Prop} (hp : Rd w 1 p (bv bs))
    (h : ∀ s w', Grow w w' → Own w' w.heap.size t_api_Pair 2 s (pvs (parseT bs).1) → s.n ≤ 64 → R s ((parseT bs).2 : Int) w') : Ctext_Parse p w R := by
  refine Ftext_Parse.calls _ _ _ ?_
  have hn : bs.length = p.n := by have := hp.len; rw [bv_length] at this; omega
  refine br_dec (fun hlt => ?_) (fun hle => ?_)
  · have e : parseT bs = ([], 2) := by unfold parseT; rw [if_pos (by omega)]
    have := h ⟨none, 0, 0⟩ w (Keep.refl _ _)
    rw [e] at this
    exact this (own_nil _ _ _ _) (by decide)
  have hb : bs.length ≤ 4096 := by omega
  refine ⟨str bs, convStr_rule u_sl_uint8 u_uint8 u_string hp, ?_⟩
  refine ⟨fun out e rest w' => ∃ acc rl, rest = str rl ∧ Grow w w' ∧ Own w' w.heap.size t_api_Pair 2 out (pvs acc) ∧ pairs bs = (pairs rl).map (acc ++ ·) ∧ e = (if dup acc then 9 else 0) ∧ acc.length + rl.length ≤ bs.length,
    fun _ _ rest _ => rest.size, ⟨[], bs, rfl, Keep.refl _ _, own_nil _ _ _ _, by simp, rfl, by simp⟩, ?_⟩
  rintro out e rest w0 ⟨acc, rl, rfl, hg, hown, hpr, rfl, hlen⟩
  have hon : acc.length = out.n := by have := hown.len; rw [pvs_len] at this; omega
  have hrd := hown.rd (by omega)
  rw [show (⟨#[]⟩ : ByteArray) = str [] from rfl, sEq_str]
  refine br_not (br_dec (fun hnil => ?_) (fun hne => ?_))
  · subst hnil
    rw [pairs_nil] at hpr
    simp only [Option.map_some, List.append_nil] at hpr
    have hT : parseT bs = if 64 < acc.length then ([], 2) else if dup acc then ([], 9) else (acc, 0) := by
      unfold parseT; rw [if_neg (by omega), hpr]
    refine br_dec (fun h64 => ?_) (fun h64 => ?_)
    · rw [if_pos (by omega)] at hT
      have := h ⟨none, 0, 0⟩ w0 hg
      rw [hT] at this
      exact this (own_nil _ _ _ _) (by decide)
    · rw [if_neg (by omega)] at hT
      cases hd : dup acc with
      | true =>
        rw [hd] at hT
        refine br_t (by decide) ?_
        have := h ⟨none, 0, 0⟩ w0 hg
        rw [hT] at this
        exact this (own_nil _ _ _ _) (by decide)
      | false =>
        rw [hd] at hT
        refine br_f (by decide) ?_
        have := h out w0 hg
        rw [hT] at this
        exact this hown (by omega)
  · have bad : step rl = none → ∀ w', Grow w w' → R ⟨none, 0, 0⟩ 13 w' := by
      intro hs w' hg'
      have hT : parseT bs = ([], 13) := by
        unfold parseT; rw [if_neg (by omega), hpr, pairs_none hne hs]; rfl
      have := h ⟨none, 0, 0⟩ w' hg'
      rw [hT] at this
      exact this (own_nil _ _ _ _) (by decide)
    refine cut_spec (by omega) (fun one more w1 hc1 hg1 => ?_) (fun w1 hc1 hg1 => ?_)
    · have hg1' := hg.trans hg1
      have hl1 := (cutAt_some hc1).1
      have hol : one.length + (more.length + 1) = rl.length := by rw [hl1]; simp
      refine cut_spec (by omega) (fun k v w2 hc2 hg2 => ?_) (fun w2 hc2 hg2 => ?_)
      · have hg2' := hg1'.trans hg2
        have hl2 := (cutAt_some hc2).1
        have hkv : k.length + (v.length + 1) = one.length := by rw [hl2]; simp
        refine ⟨fun _ => ?_, fun q => (by cases q)⟩
        refine key_text_spec (by rw [size_str]; omega) ?_
        rw [ls_str]
        cases hk : keyOk k with
        | false =>
          refine ⟨fun q => (by cases q), fun _ => ?_⟩
          refine br_t rfl ?_
          exact bad (by unfold step; rw [hc1]; simp only [hc2, hk, Bool.false_and]; rfl) _ hg2'
        | true =>
          refine ⟨fun _ => ?_, fun q => (by cases q)⟩
          refine val_text_spec (by rw [size_str]; omega) ?_
          rw [ls_str]
          cases hv : valOk v with
          | false =>
            refine br_t rfl ?_
            exact bad (by unfold step; rw [hc1]; simp only [hc2, hk, hv, Bool.and_false]; rfl) _ hg2'
          | true =>
            refine br_f rfl ?_
            have hstep : step rl = some ((k, v), more) := by unfold step; rw [hc1]; simp only [hc2, hk, hv, Bool.and_true]; rfl
            have hg02 : Grow w0 w2 := hg1.trans hg2
            refine find_text_spec (hrd.grow hg02) fun w3 hg3 => ?_
            have next : ∀ w', Grow w2 w' → ∀ e2 : Int, e2 = (if dup (acc ++ [(k, v)]) then 9 else 0) →
                RunK Try.prog .sl (Instr.buildSlice 24 1 #[(0, .agg #[.string (str k), .string (str v)])]) w' fun xs w08 => RunK Try.prog .sl (Builtin.append_ #[24, 24] 24 #[.slice out.A out.n out.c, .slice xs.A xs.n xs.c]) w08 fun xs1 w09 =>
                  (∃ acc rl', str more = str rl' ∧ Grow w w09 ∧ Own w09 w.heap.size t_api_Pair 2 xs1 (pvs acc) ∧ pairs bs = (pairs rl').map (acc ++ ·) ∧ e2 = (if dup acc then 9 else 0) ∧ acc.length + rl'.length ≤ bs.length) ∧ (str more).size < (str rl).size := by
              intro w' hg4 e2 he2
              refine lit_rule (cells := #[.string (str k), .string (str v)]) (e := t_api_Pair) (z := 2) (base := w.heap.size) (by kernel_rfl) rfl (by decide) (by have := hg2'.size; have := hg4.size; omega) fun w5 hlit hg5 hsz5 => ?_
              have hg05 : Grow w0 w5 := (hg02.trans hg4).trans hg5
              refine append_rule u_sl_api_Pair i_api_Pair rfl (by decide) (by decide) (hown.grow hg05) (hlit.rd (by show 1 ≤ _; decide)) (by simp [Value.oneCell']) (by show (out.n + 1) * 32 ≤ _; omega) (by have := hg.size; have := hg05.size; omega) fun s' w6 hn' hown' hk' hbl => ?_
              have hg6 : Grow w w6 := by
                refine (hg.trans hg05).keep hk' fun i hi q => ?_
                have := (hown.ge i q.symm).1
                omega
              refine ⟨⟨acc ++ [(k, v)], more, rfl, hg6, by rw [pvs_snoc]; exact hown', ?_, he2, by simp; omega⟩, by rw [size_str, size_str]; omega⟩
              rw [hpr, pairs_some hne hstep, Option.map_map]
              congr 1
              funext l
              simp
            refine ⟨fun hb4 => ?_, fun hb4 => ?_⟩
            · exact next w3 hg3 9 (by rw [dup_snoc, hb4]; simp)
            · exact next w3 hg3 _ (by rw [dup_snoc, hb4]; simp)
      · refine ⟨fun q => (by cases q), fun _ => ⟨fun q => (by cases q), fun _ => br_t rfl ?_⟩⟩
        exact bad (by unfold step; rw [hc1]; simp only [hc2]) _ (hg1'.trans hg2)
    · have hg1' := hg.trans hg1
      have done : ∀ w', Grow w w' → R ⟨none, 0, 0⟩ 13 w' := bad (by unfold step; rw [hc1])
      refine cut_spec (by omega) (fun k v w2 hc2 hg2 => ?_) (fun w2 hc2 hg2 => ?_)
      · exact ⟨fun q => (by cases q), fun _ => ⟨fun q => (by cases q), fun _ => br_t rfl (done _ (hg1'.trans hg2))⟩⟩
      · exact ⟨fun q => (by cases q), fun _ => ⟨fun q => (by cases q), fun _ => br_t rfl (done _ (hg1'.trans hg2))⟩⟩
end Go.Proofs.Ytiokflecflbopaa
