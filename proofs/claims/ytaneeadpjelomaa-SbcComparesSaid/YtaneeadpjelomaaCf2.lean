/- The condition generator, part 2: regions. -/
import Derived.Test.YtaneeadpjelomaaCf1
namespace Go.Proofs.Ytaneeadpjelomaa.CF
open Go

/-- what an operation is to the generator -/
inductive An where
  | pv (v : Value)
  | po (ob : Prop) (v : Value)
  | rd (k : Kd) (rel : World → Value → Prop)
  | at (k : Kd) (f : World → (k.T → World → Prop) → Prop)
  | ac (f : World → (Value → World → Prop) → Prop)
  | no
abbrev Ana := Fr → Nat → Gd → Oper → An
def An.Ok (P : Program) (o : Oper) (a : Act) : An → Prop
  | .pv v => ∀ w, (execOp a.eval o).run P w = .ok (.value v) w
  | .po ob v => ob → ∀ w, (execOp a.eval o).run P w = .ok (.value v) w
  | .rd k rel => ∀ w x, rel w (k.mk x) → (execOp a.eval o).run P w = .ok (.value (k.mk x)) w
  | .at k f => ∀ w K Q, f w K → o.wp P a w (fun a' w' => ∃ x, a' = a.put o.dst (k.mk x) ∧ K x w') Q
  | .ac f => ∀ w K Q, f w K → o.wp P a w (fun a' w' => ∃ v, a' = a.put o.dst v ∧ K v w') Q
  | .no => True
def Ana.Ok (P : Program) (an : Ana) : Prop := ∀ F tg C o a, Fits F tg a → Holds a C → (an F tg C o).Ok P o a

def memN (d : Nat) : List Nat → Bool
  | [] => false
  | x :: r => Nat.beq x d || memN d r
theorem memN_mem {d : Nat} : ∀ {l : List Nat}, memN d l = false → d ∉ l
  | [], _, h => by cases h
  | x :: r, hm, h => by
    simp only [memN, Bool.or_eq_false_iff] at hm
    rcases List.mem_cons.1 h with rfl | h
    · rw [Nat.beq_refl] at hm; cases hm.1
    · exact memN_mem hm.2 h
def okDst (n : Nat) (M : List Nat) : Option Tmp → Bool
  | none => true
  | some d => Nat.blt d n && !memN d M
def slotsG : Gd → List Nat → List Nat
  | [], M => M
  | x :: r, M => x.1 :: slotsG r M
theorem slotsG_mem : ∀ {C : Gd} {M : List Nat} {x}, x ∈ C → x.1 ∈ slotsG C M
  | y :: r, M, x, h => by
    rcases List.mem_cons.1 h with rfl | h
    · exact List.mem_cons_self
    · exact List.mem_cons_of_mem _ (slotsG_mem h)
theorem slotsG_old : ∀ {C : Gd} {M : List Nat} {d : Nat}, d ∈ M → d ∈ slotsG C M
  | [], _, _, h => h
  | _ :: _, _, _, h => List.mem_cons_of_mem _ (slotsG_old h)
def ent (tg : Nat) (C : Gd) (v : Value) : E := match C with | [] => .val v | x :: r => .cnd tg (x :: r) v
def putE (F : Fr) (dst : Option Tmp) (e : E) : Fr := match dst with | some d => (d, e) :: F | none => F
def gI (C : Gd) (g : Bool) (X : Prop) : Prop := match C with | [] => X | _ :: _ => (g = true → X)
abbrev dflt (k : Kd) : k.T := k.dflt
/-- a place where ways meet -/
def letJ {α : Type} (j : α → World → Prop) (body : (α → World → Prop) → Prop) : Prop := body j
structure St where
  F : Fr
  tg : Nat

/-- one operation, the region in the text's order -/
def stepOp (an : Ana) (n : Nat) (ops : Array Oper) (F : Fr) (tg : Nat) (M : List Nat) (o : Oper) (w : World) (next : Fr → List Nat → World → Prop) : Prop :=
  match guardC ops F tg o with
  | none => False
  | some C => match gB F tg C with
    | none => False
    | some g => match okDst n (slotsG C M) o.dst with
      | false => False
      | true => match an F tg C o with
        | .pv v => next (putE F o.dst (ent tg C v)) (slotsG C M) w
        | .po ob v => gI C g ob ∧ next (putE F o.dst (ent tg C v)) (slotsG C M) w
        | .rd k rel => ∃ x : k.T, gI C g (rel w (k.mk x)) ∧ next (putE F o.dst (ent tg C (k.mk x))) (slotsG C M) w
        | .at k f => match C with
          | [] => f w (fun x w' => next (putE F o.dst (.val (k.mk x))) (slotsG [] M) w')
          | y :: r => letJ (fun (x : k.T) w' => next (putE F o.dst (.cnd tg (y :: r) (k.mk x))) (slotsG (y :: r) M) w')
              (fun J => (g = true → f w J) ∧ (g = false → J (dflt k) w))
        | .ac f => match C with
          | [] => f w (fun v w' => next (putE F o.dst (.val v)) (slotsG [] M) w')
          | _ :: _ => False
        | .no => False
def seqOps (an : Ana) (n : Nat) (ops : Array Oper) (Kn : St → World → Prop) : List Oper → Fr → Nat → List Nat → World → Prop
  | [], F, tg, _, w => Kn ⟨F, tg + 1⟩ w
  | o :: rest, F, tg, M, w => stepOp an n ops F tg M o w (fun F' M' w' => seqOps an n ops Kn rest F' tg M' w')

structure Good (n : Nat) (F : Fr) (tg : Nat) (M : List Nat) (a : Act) : Prop where
  size : a.tmps.size = n
  defers : a.defers = []
  fits : Fits F tg a
  minv : ∀ t c v, look F t = some (.cnd tg c v) → ∀ x ∈ c, x.1 ∈ M
structure OkS (n : Nat) (st : St) (a : Act) : Prop where
  size : a.tmps.size = n
  defers : a.defers = []
  fits : Fits st.F st.tg a
  fresh : ∀ t c v, look st.F t ≠ some (.cnd st.tg c v)
theorem OkS.good {n : Nat} {st : St} {a : Act} (h : OkS n st a) : Good n st.F st.tg [] a :=
  ⟨h.size, h.defers, h.fits, fun t c v hl => absurd hl (h.fresh t c v)⟩
theorem Good.next {n : Nat} {F : Fr} {tg : Nat} {M : List Nat} {a : Act} (h : Good n F tg M a) : OkS n ⟨F, tg + 1⟩ a :=
  ⟨h.size, h.defers, h.fits.next, fun t c v hl => by have := (h.fits t _ hl).1; simp only at this; omega⟩
theorem Good.more {n : Nat} {F : Fr} {tg : Nat} {M : List Nat} {a : Act} (h : Good n F tg M a) (C : Gd) : Good n F tg (slotsG C M) a :=
  ⟨h.size, h.defers, h.fits, fun t c v hl x hx => slotsG_old (h.minv t c v hl x hx)⟩
theorem put_size (a : Act) (dst : Option Tmp) (v : Value) : (a.put dst v).tmps.size = a.tmps.size := by cases dst <;> simp [Act.put]
theorem put_defers (a : Act) (dst : Option Tmp) (v : Value) : (a.put dst v).defers = a.defers := by cases dst <;> rfl
theorem put_ne (a : Act) (d : Nat) (v : Value) {t : Nat} (h : d ≠ t) : (a.put (some d) v).tmps[t]? = a.tmps[t]? := by
  simp [Act.put, Array.getElem?_setIfInBounds_ne h]
theorem put_neD (a : Act) (d : Nat) (v : Value) {t : Nat} (h : d ≠ t) : (a.put (some d) v).tmps.getD t undef = a.tmps.getD t undef := by
  rw [Array.getD_eq_getD_getElem?, Array.getD_eq_getD_getElem?, put_ne a d v h]
theorem put_eq (a : Act) (d : Nat) (v : Value) (h : d < a.tmps.size) : (a.put (some d) v).tmps[d]? = some v := by
  simp [Act.put, h]
theorem holds_put {a : Act} {d : Nat} {v : Value} {c : Gd} (h : ∀ x ∈ c, d ≠ x.1) : Holds (a.put (some d) v) c ↔ Holds a c := by
  unfold Holds
  constructor
  · intro hh x hx; rw [← put_neD a d v (h x hx)]; exact hh x hx
  · intro hh x hx; rw [put_neD a d v (h x hx)]; exact hh x hx
/-- the frame behind an operation: its value if it ran, else nothing -/
theorem Good.put {n : Nat} {F : Fr} {tg : Nat} {M : List Nat} {a : Act} {dst : Option Tmp} {C : Gd} {v u : Value} (h : Good n F tg (slotsG C M) a)
    (hd : okDst n (slotsG C M) dst = true) (hy : Holds a C → u = v) (hn : ¬ Holds a C → u = undef) :
    Good n (putE F dst (ent tg C v)) tg (slotsG C M) (a.put dst u) := by
  cases dst with
  | none => exact h
  | some d =>
    simp only [okDst, Bool.and_eq_true, Bool.not_eq_true'] at hd
    have hlt : d < a.tmps.size := by rw [h.size]; exact Nat.blt_eq ▸ hd.1
    have hnm := memN_mem hd.2
    refine ⟨by rw [put_size]; exact h.size, by rw [put_defers]; exact h.defers, ?_, ?_⟩
    · intro t e hl
      simp only [putE] at hl
      rw [look_cons] at hl
      by_cases hdt : d = t
      · subst hdt
        rw [if_pos rfl] at hl
        obtain rfl := Option.some.inj hl
        cases C with
        | nil =>
          have : u = v := hy (fun x hx => by cases hx)
          rw [← this]
          exact put_eq a d u hlt
        | cons y r =>
          have hh : Holds (a.put (some d) u) (y :: r) ↔ Holds a (y :: r) := holds_put fun x hx he => hnm (he ▸ slotsG_mem hx)
          refine ⟨Nat.le_refl _, fun _ => ⟨by rw [put_size]; exact hlt, fun hH => ?_, fun hH => ?_⟩⟩
          · rw [Array.getD_eq_getD_getElem?, put_eq a d u hlt, hy (hh.1 hH)]; rfl
          · rw [Array.getD_eq_getD_getElem?, put_eq a d u hlt, hn (fun q => hH (hh.2 q))]; rfl
      · rw [if_neg hdt] at hl
        have h1 := h.fits t e hl
        cases e with
        | val v' => simp only [EOk] at h1 ⊢; rw [put_ne a d u hdt]; exact h1
        | cnd tg' c v' =>
          refine ⟨h1.1, fun htg => ?_⟩
          have h2 := h1.2 htg
          subst htg
          have hh : Holds (a.put (some d) u) c ↔ Holds a c := holds_put fun x hx he => hnm (he ▸ h.minv t c v' hl x hx)
          refine ⟨by rw [put_size]; exact h2.1, fun hH => ?_, fun hH => ?_⟩
          · rw [put_neD a d u hdt]; exact h2.2.1 (hh.1 hH)
          · rw [put_neD a d u hdt]; exact h2.2.2 (fun q => hH (hh.2 q))
    · intro t c v' hl x hx
      simp only [putE] at hl
      rw [look_cons] at hl
      by_cases hdt : d = t
      · rw [if_pos hdt] at hl
        cases C with
        | nil => cases Option.some.inj hl
        | cons y r =>
          simp only [ent] at hl
          obtain ⟨rfl, rfl⟩ : y :: r = c ∧ v = v' := by
            have := Option.some.inj hl
            injection this with _ h1 h2
            exact ⟨h1, h2⟩
          exact slotsG_mem hx
      · rw [if_neg hdt] at hl
        exact h.minv t c v' hl x hx
def writesO : List Oper → Nat → Bool
  | [], _ => false
  | o :: r, d => (match o.dst with | some e => Nat.beq e d | none => false) || writesO r d
/-- what a piece leaves alone -/
def Same (wr : Nat → Bool) (a a' : Act) : Prop := ∀ d, wr d = false → a'.tmps[d]? = a.tmps[d]?
theorem put_same {a : Act} {o : Oper} {u : Value} {r : List Oper} {d : Nat} (h : writesO (o :: r) d = false) : (a.put o.dst u).tmps[d]? = a.tmps[d]? := by
  simp only [writesO, Bool.or_eq_false_iff] at h
  cases hd : o.dst with
  | none => rfl
  | some e =>
    rw [hd] at h
    refine put_ne a e u fun he => ?_
    subst he
    simp only [Nat.beq_refl] at h
    cases h.1
/-- what the region's end has -/
def QN (n : Nat) (Kn : St → World → Prop) (wr : Nat → Bool) (a0 : Act) : Exit → Act → World → Prop
  | .normal, a, w => (∃ st, OkS n st a ∧ Kn st w) ∧ Same wr a0 a
  | _, _, _ => False

/-- what an operation's step comes to: the operation runs or not; behind it the frame is as told -/
theorem stepOp_ok {P : Program} {an : Ana} (hA : an.Ok P) {n : Nat} {ops : Array Oper} {F : Fr} {tg : Nat} {M : List Nat} {o : Oper} {w : World} {next : Fr → List Nat → World → Prop}
    {a : Act} {K : Act → World → Prop} {Q : Exit → Act → World → Prop} (h : stepOp an n ops F tg M o w next) (hg : Good n F tg M a)
    (hK : ∀ F' M' w' u, Good n F' tg M' (a.put o.dst u) → next F' M' w' → K (a.put o.dst u) w') :
    if Region.wanted o (yielded ops a.tmps) then o.wp P a w K Q else K (a.put o.dst undef) w := by
  unfold stepOp at h
  split at h
  · exact h.elim
  rename_i C hC
  split at h
  · exact h.elim
  rename_i g hgB
  split at h
  · exact h.elim
  rename_i hd
  have hw := guardC_ok hg.fits hC
  have hgb := gB_ok hg.fits hgB
  have hg' := hg.more C
  have hI : ∀ X, gI C g X → Holds a C → X := by
    intro X hX hH
    cases C with
    | nil => exact hX
    | cons y r => exact hX (hgb.1 hH)
  by_cases hH : Holds a C
  · rw [if_pos (hw.2 hH)]
    have hOk := hA F tg C o a hg.fits hH
    have fin : ∀ v, Good n (putE F o.dst (ent tg C v)) tg (slotsG C M) (a.put o.dst v) := fun v => hg'.put hd (fun _ => rfl) (fun q => absurd hH q)
    split at h
    · rename_i v hv
      rw [hv] at hOk
      simp only [An.Ok] at hOk
      unfold Oper.wp
      rw [hOk w]
      exact hK _ _ _ _ (fin v) h
    · rename_i ob v hv
      rw [hv] at hOk
      unfold Oper.wp
      rw [hOk (hI _ h.1 hH) w]
      exact hK _ _ _ _ (fin v) h.2
    · rename_i k rel hv
      rw [hv] at hOk
      obtain ⟨x, h1, h2⟩ := h
      unfold Oper.wp
      rw [hOk w x (hI _ h1 hH)]
      exact hK _ _ _ _ (fin _) h2
    · rename_i k f hv
      rw [hv] at hOk
      split at h
      · refine Oper.wp_mono (fun a' w' ⟨x, e, hk⟩ => ?_) (hOk w _ Q h)
        subst e
        exact hK _ _ _ _ (fin _) hk
      · rename_i y r hC'
        have h1 := h.1 (hgb.1 hH)
        refine Oper.wp_mono (fun a' w' ⟨x, e, hk⟩ => ?_) (hOk w _ Q h1)
        subst e
        exact hK _ _ _ _ (fin _) hk
    · rename_i f hv
      rw [hv] at hOk
      split at h
      · refine Oper.wp_mono (fun a' w' ⟨v, e, hk⟩ => ?_) (hOk w _ Q h)
        subst e
        exact hK _ _ _ _ (fin _) hk
      · exact h.elim
    · exact h.elim
  · rw [if_neg (fun q => hH (hw.1 q))]
    have hgf : g = false := by
      cases g with
      | false => rfl
      | true => exact absurd (hgb.2 rfl) hH
    have fin : ∀ v, Good n (putE F o.dst (ent tg C v)) tg (slotsG C M) (a.put o.dst undef) := fun v => hg'.put hd (fun q => absurd q hH) (fun _ => rfl)
    split at h
    · exact hK _ _ _ _ (fin _) h
    · exact hK _ _ _ _ (fin _) h.2
    · obtain ⟨x, h1, h2⟩ := h
      exact hK _ _ _ _ (fin _) h2
    · split at h
      · exact absurd (fun x hx => by cases hx) hH
      · exact hK _ _ _ _ (fin _) (h.2 hgf)
    · split at h
      · exact absurd (fun x hx => by cases hx) hH
      · exact h.elim
    · exact h.elim
theorem seqOps_ok {P : Program} {an : Ana} (hA : an.Ok P) {n : Nat} {ops : Array Oper} {Kn : St → World → Prop} : ∀ (l : List Oper) (F : Fr) (tg : Nat) (M : List Nat) (w : World) (a : Act) ,
    seqOps an n ops Kn l F tg M w → Good n F tg M a → wpList P ops (QN n Kn (writesO l) a) l a w
  | [], F, tg, M, w, a, h, hg => ⟨⟨_, hg.next, h⟩, fun _ _ => rfl⟩
  | o :: rest, F, tg, M, w, a, h, hg => by
    have key := stepOp_ok (P := P) (Q := QN n Kn (writesO (o :: rest)) a) (K := wpList P ops (QN n Kn (writesO (o :: rest)) a) rest) hA h hg (fun F' M' w' u hg' hn => by
      have ih := seqOps_ok hA rest F' tg M' w' _ hn hg'
      have mono : ∀ (l : List Oper) (Q Q' : Exit → Act → World → Prop) (a : Act) (w : World), (∀ e a w, Q e a w → Q' e a w) → wpList P ops Q l a w → wpList P ops Q' l a w := by
        intro l
        induction l with
        | nil => intro Q Q' a w hq h; exact hq _ _ _ h
        | cons o l ih =>
          intro Q Q' a w hq h
          unfold wpList at h ⊢
          split
          · rename_i hw
            rw [if_pos hw] at h
            have lo : LetsOut Q → LetsOut Q' := fun ⟨a, w, hh⟩ => ⟨a, w, hq _ _ _ hh⟩
            refine h.imp (fun h => ?_) (fun h => ⟨h.1, lo h.2⟩)
            unfold Oper.wp at h ⊢
            cases hr : (execOp a.eval o).run P w with
            | ok x w' =>
              rw [hr] at h
              cases x <;> simp only [Oper.upon] at h ⊢ <;> first
                | exact ih _ _ _ _ hq h
                | exact Calls.mono h (fun e w'' he => by cases e <;> first | exact ih _ _ _ _ hq he | exact hq _ _ _ he | exact lo he)
                | exact Rows.mono h (fun _ _ he => ih _ _ _ _ hq he)
            | halt x w' =>
              rw [hr] at h
              cases x <;> simp only [Oper.upon] at h ⊢ <;> exact hq _ _ _ h
          · rename_i hw
            rw [if_neg hw] at h
            exact ih _ _ _ _ hq h
      refine mono rest _ _ _ _ (fun e a' w' hq => ?_) ih
      cases e <;> simp only [QN] at hq ⊢
      refine ⟨hq.1, fun d hd => ?_⟩
      rw [hq.2 d (by simp only [writesO, Bool.or_eq_false_iff] at hd; exact hd.2), put_same hd])
    unfold wpList
    split
    · rename_i hw; rw [if_pos hw] at key; exact .inl key
    · rename_i hw; rw [if_neg hw] at key; exact key
end Go.Proofs.Ytaneeadpjelomaa.CF
