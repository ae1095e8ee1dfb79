/- The condition generator, part 3: regions that draw their order. -/
import Derived.Test.YtaneeadpjelomaaCf2
namespace Go.Proofs.Ytaneeadpjelomaa.CF
open Go

/-- must r come ahead of j? -/
def anc (ops : Array Oper) : Nat → Nat → Nat → Bool
  | 0, _, _ => false
  | f + 1, j, r => match ops[j]? with
    | none => false
    | some o => o.after.toList.any fun e => Region.binds .any e && (Nat.beq e.on r || anc ops f e.on r)
/-- may one of the reads be still to come behind j? -/
def needS (ops : Array Oper) (j : Nat) : List Nat → Bool
  | [] => false
  | r :: t => (!(Nat.beq r j || anc ops ops.size j r)) || needS ops j t
def Closed (ops : Array Oper) (listed : Array Bool) : Prop :=
  ∀ j oj, ops[j]? = some oj → listed.getD j false = true → ∀ e ∈ oj.after, Region.binds .any e = true → listed.getD e.on false = true
theorem getD_tf {listed : Array Bool} {i : Nat} (h : listed.getD i true = false) : listed.getD i false = false := by
  rcases Nat.lt_or_ge i listed.size with h' | h'
  · simp [h'] at h ⊢; exact h
  · simp [Array.getElem?_eq_none h'] at h
theorem anc_listed {ops : Array Oper} {listed : Array Bool} (hc : Closed ops listed) : ∀ (f : Nat) {j r : Nat} {o : Oper}, ops[j]? = some o →
    (∀ e ∈ o.after, Region.binds .any e = true → listed.getD e.on false = true) → anc ops f j r = true → listed.getD r false = true
  | 0, _, _, _, _, _, h => by cases h
  | f + 1, j, r, o, ho, hall, h => by
    simp only [anc, ho, List.any_eq_true, Array.mem_toList_iff, Bool.and_eq_true, Bool.or_eq_true] at h
    obtain ⟨e, he, hb, h⟩ := h
    have hl := hall e he hb
    rcases h with h | h
    · rw [← Nat.eq_of_beq_eq_true h]; exact hl
    · cases hoe : ops[e.on]? with
      | none => cases f <;> simp [anc, hoe] at h
      | some oe => exact anc_listed hc f hoe (fun e' he' hb' => hc _ _ hoe hl e' he' hb') h
theorem needS_of {ops : Array Oper} {listed : Array Bool} (hc : Closed ops listed) {j i : Nat} (hj : j ∈ Region.ready .any ops listed) (hji : j ≠ i) (hun : listed.getD i true = false) :
    ∀ {rs : List Nat}, memN i rs = true → needS ops j rs = true
  | [], h => by cases h
  | r :: t, h => by
    simp only [memN, Bool.or_eq_true] at h
    simp only [needS, Bool.or_eq_true]
    rcases h with h | h
    · have : r = i := Nat.eq_of_beq_eq_true h
      subst this
      left
      obtain ⟨_, oj, hoj, hall⟩ := mem_ready.1 hj
      cases hx : anc ops ops.size j r with
      | true =>
        have := anc_listed hc _ hoj hall hx
        rw [getD_tf hun] at this
        cases this
      | false =>
        cases hy : Nat.beq r j with
        | true => exact absurd (Nat.eq_of_beq_eq_true hy).symm hji
        | false => rfl
    · right; exact needS_of hc hj hji hun h
theorem Closed.set {ops : Array Oper} {listed : Array Bool} (hc : Closed ops listed) {i : Nat} (hi : i ∈ Region.ready .any ops listed) : Closed ops (listed.setIfInBounds i true) := by
  obtain ⟨_, oi, hoi, hall⟩ := mem_ready.1 hi
  intro j oj hj hl e he hb
  by_cases hij : i = j
  · subst hij
    have : oj = oi := Option.some.inj (hj.symm.trans hoi)
    subst this
    exact getD_set_true (hall e he hb)
  · rw [getD_set_ne false hij] at hl
    exact getD_set_true (hc j oj hj hl e he hb)
section
variable {P : Program} {ops : Array Oper} {Q : Exit → Act → World → Prop} {S : World → Prop} {rs ac : List Nat}
/-- whatever order is picked, and S holds behind each operation as long as a read may still be to come -/
def wpAnyN (P : Program) (ops : Array Oper) (Q : Exit → Act → World → Prop) (S : World → Prop) (rs ac : List Nat) : Nat → Array Bool → Act → World → Prop
  | 0, listed, a, w => Region.ready .any ops listed = [] ∧ Q .normal a w
  | f + 1, listed, a, w => (Region.ready .any ops listed = [] → Q .normal a w) ∧
    ∀ i ∈ Region.ready .any ops listed, wpOp P ops Q i (fun a' w' => (memN i ac = false → w' = w) ∧ (memN i ac = true → needS ops i rs = true → S w') ∧ wpAnyN P ops Q S rs ac f (listed.setIfInBounds i true) a' w') a w
theorem wpAny_of_N : ∀ (f : Nat) (listed : Array Bool) (a : Act) (w : World), wpAnyN P ops Q S rs ac f listed a w → wpAny P .any ops Q f listed a w
  | 0, _, _, _, h => h
  | f + 1, _, _, _, h => ⟨h.1, fun i hi => wpOp_mono (fun a' w' h' => wpAny_of_N f _ a' w' h'.2.2) (h.2 i hi)⟩
/-- an operation that yields its value in every world that may be there while it is to come is taken first -/
theorem wpAnyN_first {T : World → Prop} {i : Nat} {oi : Oper} {v : Value} (hi : ops[i]? = some oi) (hsel : ∀ (j : Nat) (o : Oper) cs b, ops[j]? = some o → o.op ≠ .select cs b)
    (hQ : ∀ c a w, Q (.panic c) (a.put oi.dst v) w → Q (.panic c) a w) (hT : (∀ w, T w) ∨ (T = S ∧ memN i rs = true)) (hac : memN i ac = false) :
    ∀ (f : Nat) (listed : Array Bool) (a : Act) (w : World),
      (∀ j oj, ops[j]? = some oj → j ≠ i → listed.getD j true = false → (∀ e ∈ oj.after, Region.binds .any e = true → e.on ≠ i) → oi.apart ops oj = true) →
      Closed ops listed → i ∈ Region.ready .any ops listed → YieldsIf P ops T oi v a → T w →
      wpAnyN P ops Q S rs ac f (listed.setIfInBounds i true) (a.put oi.dst v) w → wpAnyN P ops Q S rs ac (f + 1) listed a w := by
  intro f
  induction f with
  | zero =>
    intro listed a w _ hc hr hy hTw H
    refine ⟨fun h => (by rw [h] at hr; cases hr), fun j hj => ?_⟩
    by_cases hji : j = i
    · subst hji; exact hy.wpOp hi hTw ⟨fun _ => rfl, fun q => (by rw [hac] at q; cases q), H⟩
    · have := ready_mono hj hji
      rw [H.1] at this
      cases this
  | succ f ih =>
    intro listed a w hfree hc hr hy hTw H
    have hun := (mem_ready.1 hr).1
    refine ⟨fun h => (by rw [h] at hr; cases hr), fun j hj => ?_⟩
    by_cases hji : j = i
    · subst hji; exact hy.wpOp hi hTw ⟨fun _ => rfl, fun q => (by rw [hac] at q; cases q), H⟩
    · have h1 := H.2 j (ready_mono hj hji)
      obtain ⟨hjun, oj, hoj, hall⟩ := mem_ready.1 hj
      have hnot : ∀ e ∈ oj.after, Region.binds .any e = true → e.on ≠ i := fun e he hb heq => by
        have h1 := hall e he hb
        rw [heq] at h1
        rw [getD_tf hun] at h1
        cases h1
      have h2 := wpOp_putIf hoj (hfree j oj hoj hji hjun hnot) (fun cs b => hsel i oi cs b hi) (fun cs b => hsel j oj cs b hoj) hQ hy h1
      have hfree' : ∀ k ok, ops[k]? = some ok → k ≠ i → (listed.setIfInBounds j true).getD k true = false →
          (∀ e ∈ ok.after, Region.binds .any e = true → e.on ≠ i) → oi.apart ops ok = true := fun k ok hk hki hun hno => by
        refine hfree k ok hk hki ?_ hno
        by_cases hjk : j = k
        · subst hjk; exact hjun
        · rw [getD_set_ne true hjk] at hun; exact hun
      have hun' : (listed.setIfInBounds j true).getD i true = false := by rw [getD_set_ne true hji]; exact hun
      refine wpOp_mono (fun a' w' h3 => ?_) h2
      obtain ⟨hy', hw', hS', H'⟩ := h3
      have hT' : T w' := by
        rcases hT with hT | ⟨rfl, hm⟩
        · exact hT w'
        · cases hj' : memN j ac with
          | true => exact hS' hj' (needS_of hc hj hji hun hm)
          | false => rw [hw' hj']; exact hTw
      refine ⟨hw', hS', ih (listed.setIfInBounds j true) a' w' hfree' (hc.set hj) (ready_mono hr (Ne.symm hji)) hy' hT' ?_⟩
      rw [Array.setIfInBounds_comm _ _ hji]
      exact H'
end
end Go.Proofs.Ytaneeadpjelomaa.CF
