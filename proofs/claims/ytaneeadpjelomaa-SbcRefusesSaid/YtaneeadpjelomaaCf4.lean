import Derived.OrdersHeld
import Derived.Tactics
import Derived.KernelRfl
/- The condition generator, part 1: kinds of values, what is known of a frame, guards. No project text. -/
namespace Go.Proofs.Ytaneeadpjelomaa.CF
open Go

inductive Kd | i (k : IntKind) | b | s | p | sl | m | v | ag | a | ok (k : Kd)
structure Sl where
  A : Option Addr
  n : Nat
  c : Nat
abbrev Kd.T : Kd → Type
  | .i _ => Int | .b => Bool | .s => ByteArray | .p => Option Addr | .sl => Sl | .m => Option Nat | .v => Value | .ag => Array Value | .a => Addr | .ok k => k.T × Bool
def Kd.mk : (k : Kd) → k.T → Value
  | .i k, x => .int k x | .b, x => .bool x | .s, x => .string x | .p, x => .pointer x | .sl, x => .slice x.A x.n x.c
  | .m, x => .map x | .v, x => x | .ag, x => .agg x | .a, x => .pointer (some x) | .ok k, x => .tuple #[k.mk x.1, .bool x.2]
def Kd.dflt : (k : Kd) → k.T
  | .i _ => (0 : Int) | .b => false | .s => ⟨#[]⟩ | .p => none | .sl => ⟨none, 0, 0⟩ | .m => none | .v => .tuple #[] | .ag => #[] | .a => ⟨0, 0, none⟩ | .ok k => (k.dflt, false)
def Kd.un : (k : Kd) → Value → k.T
  | .i _, .int _ x => x | .i _, _ => (0 : Int)
  | .b, .bool x => x | .b, _ => false
  | .s, .string x => x | .s, _ => ⟨#[]⟩
  | .p, .pointer x => x | .p, _ => none
  | .sl, .slice A n c => ⟨A, n, c⟩ | .sl, _ => ⟨none, 0, 0⟩
  | .m, .map x => x | .m, _ => none
  | .v, x => x
  | .ag, .agg x => x | .ag, _ => #[]
  | .a, .pointer (some x) => x | .a, _ => ⟨0, 0, none⟩
  | .ok k, .tuple vs => match vs.toList with | [q, .bool t] => (k.un q, t) | _ => (k.dflt, false)
  | .ok k, _ => (k.dflt, false)
def eqK : IntKind → IntKind → Bool
  | .i8, .i8 | .i16, .i16 | .i32, .i32 | .i64, .i64 | .u8, .u8 | .u16, .u16 | .u32, .u32 | .u64, .u64 => true
  | _, _ => false
theorem eqK_eq {a b : IntKind} (h : eqK a b = true) : a = b := by cases a <;> cases b <;> first | rfl | cases h
def Kd.fit : Kd → Value → Bool
  | .i k, .int k' _ => eqK k k'
  | .b, .bool _ | .s, .string _ | .p, .pointer _ | .sl, .slice _ _ _ | .m, .map _ | .v, _ | .ag, .agg _ | .a, .pointer (some _) => true
  | .ok k, .tuple vs => match vs.toList with | [q, .bool _] => k.fit q | _ => false
  | _, _ => false
theorem mk_un : ∀ {k : Kd} {v : Value}, k.fit v = true → k.mk (k.un v) = v
  | .i k, v, h => by cases v <;> first | (cases h; done) | (have := eqK_eq h; subst this; rfl)
  | .v, v, h => rfl
  | .b, v, h => by cases v <;> first | rfl | (cases h; done)
  | .s, v, h => by cases v <;> first | rfl | (cases h; done)
  | .p, v, h => by cases v <;> first | rfl | (cases h; done)
  | .sl, v, h => by cases v <;> first | rfl | (cases h; done)
  | .m, v, h => by cases v <;> first | rfl | (cases h; done)
  | .ag, v, h => by cases v <;> first | rfl | (cases h; done)
  | .a, v, h => by
    cases v with
    | pointer p => cases p <;> first | rfl | (cases h; done)
    | _ => cases h
  | .ok k, v, h => by
    cases v with
    | tuple vs =>
      obtain ⟨l⟩ := vs
      match l, h with
      | [u, .bool b], h =>
        have := mk_un (k := k) (v := u) h
        show Value.tuple #[k.mk (k.un u), .bool b] = _
        rw [this]
    | _ => cases h
theorem Kd.mk_un {k : Kd} {w : Value} (h : k.fit w = true) : k.mk (k.un w) = w := CF.mk_un h
def kdOf : TypeDesc → Kd
  | .int k => .i k | .bool => .b | .string => .s | .pointer _ => .p | .slice _ => .sl | .map _ _ => .m
  | .struct _ | .array _ _ => .ag | _ => .v
def kd (P : Program) (t : TypeId) : Kd := match P.underlying t with | some d => kdOf d | none => .v

/-- what is known of a slot -/
inductive E | val (v : Value) | cnd (tag : Nat) (c : List (Nat × Bool)) (v : Value)
abbrev Fr := List (Nat × E)
def look : Fr → Nat → Option E
  | [], _ => none
  | (s, e) :: r, t => bif Nat.beq s t then some e else look r t
abbrev Gd := List (Nat × Bool)
def eqB : Bool → Bool → Bool | true, true | false, false => true | _, _ => false
theorem eqB_eq {a b : Bool} (h : eqB a b = true) : a = b := by cases a <;> cases b <;> first | rfl | cases h
def memG (x : Nat × Bool) : Gd → Bool
  | [] => false
  | y :: r => (Nat.beq x.1 y.1 && eqB x.2 y.2) || memG x r
def subG : Gd → Gd → Bool
  | [], _ => true
  | x :: r, C => memG x C && subG r C
theorem memG_mem {x : Nat × Bool} : ∀ {C : Gd}, memG x C = true → x ∈ C
  | [], h => by cases h
  | y :: r, h => by
    simp only [memG, Bool.or_eq_true, Bool.and_eq_true] at h
    rcases h with ⟨h1, h2⟩ | h
    · have h1' : x.1 = y.1 := Nat.eq_of_beq_eq_true h1
      have h2' := eqB_eq h2
      have : x = y := Prod.ext h1' h2'
      rw [this]; exact List.mem_cons_self
    · exact List.mem_cons_of_mem _ (memG_mem h)
theorem subG_sub : ∀ {c C : Gd}, subG c C = true → ∀ x ∈ c, x ∈ C
  | [], _, _, x, hx => by cases hx
  | y :: r, C, h, x, hx => by
    simp only [subG, Bool.and_eq_true] at h
    rcases List.mem_cons.1 hx with rfl | hx
    · exact memG_mem h.1
    · exact subG_sub h.2 x hx
def opv (F : Fr) (tg : Nat) (C : Gd) : Operand → Option Value
  | .tmp t => match look F t with
    | some (.val v) => some v
    | some (.cnd tg' c v) => bif Nat.beq tg tg' && subG c C then some v else none
    | none => none
  | .const v => some v
  | .global g => some (.pointer (some ⟨g, 0, none⟩))
  | .func f => some (.func (.func f) #[] #[])
def litB (w b : Bool) : Bool := match w with | true => b | false => !b
/-- the Bool that a guard hangs on, as it stands in the frame -/
def litG (F : Fr) (tg : Nat) (s : Nat) (w : Bool) (r : Gd) : Option Bool :=
  match look F s with
  | some (.val (.bool b)) => some (litB w b)
  | some (.cnd tg' c (.bool b)) => bif Nat.beq tg tg' && subG c r then some (litB w b) else none
  | _ => none
def gB (F : Fr) (tg : Nat) : Gd → Option Bool
  | [] => some true
  | (s, w) :: r => match r with
    | [] => litG F tg s w []
    | y :: r' => match litG F tg s w (y :: r'), gB F tg (y :: r') with
      | some a, some b => some (a && b)
      | _, _ => none
/-- the conditions under which an operation runs -/
def guardC (ops : Array Oper) (F : Fr) (tg : Nat) (o : Oper) : Option Gd :=
  match o.guard with
  | none => some []
  | some (j, w) => match (ops[j]?).bind (·.dst) with
    | none => none
    | some s => match look F s with
      | some (.val _) => some [(s, w)]
      | some (.cnd tg' c _) => bif Nat.beq tg tg' then some ((s, w) :: c) else none
      | none => none
def Holds (a : Act) (C : Gd) : Prop := ∀ x ∈ C, a.tmps.getD x.1 undef = .bool x.2
def EOk (tg : Nat) (a : Act) (t : Nat) : E → Prop
  | .val v => a.tmps[t]? = some v
  | .cnd tg' c v => tg' ≤ tg ∧ (tg' = tg → t < a.tmps.size ∧ (Holds a c → a.tmps.getD t undef = v) ∧ (¬ Holds a c → a.tmps.getD t undef = undef))
def Fits (F : Fr) (tg : Nat) (a : Act) : Prop := ∀ t e, look F t = some e → EOk tg a t e
theorem Fits.next {F : Fr} {tg : Nat} {a : Act} (h : Fits F tg a) : Fits F (tg + 1) a := by
  intro t e he
  have h1 := h t e he
  cases e with
  | val v => exact h1
  | cnd tg' c v => exact ⟨Nat.le_succ_of_le h1.1, fun hh => by have := h1.1; omega⟩
theorem look_cons {s : Nat} {e : E} {F : Fr} {t : Nat} : look ((s, e) :: F) t = if s = t then some e else look F t := by
  show (bif Nat.beq s t then some e else look F t) = _
  by_cases h : s = t
  · subst h; rw [if_pos rfl, Nat.beq_refl]; rfl
  · rw [if_neg h]
    have : Nat.beq s t = false := by
      cases hb : Nat.beq s t with
      | false => rfl
      | true => exact absurd (Nat.eq_of_beq_eq_true hb) h
    rw [this]; rfl
theorem opv_ok {F : Fr} {tg : Nat} {a : Act} {C : Gd} {x : Operand} {v : Value} (h : Fits F tg a) (hC : Holds a C) (hv : opv F tg C x = some v) : a.eval x = v := by
  cases x with
  | tmp t =>
    simp only [opv] at hv
    split at hv
    · rename_i v' hl
      obtain rfl := Option.some.inj hv
      have := h t _ hl
      simp only [EOk] at this
      show a.tmps.getD t undef = _
      simp [Array.getD_eq_getD_getElem?, this]
    · rename_i tg' c v' hl
      cases hb : Nat.beq tg tg' && subG c C with
      | false => rw [hb] at hv; cases hv
      | true =>
        rw [hb] at hv
        obtain rfl := Option.some.inj hv
        simp only [Bool.and_eq_true] at hb
        have htg : tg = tg' := Nat.eq_of_beq_eq_true hb.1
        have := (h t _ hl).2 htg.symm
        exact this.2.1 (fun y hy => hC y (subG_sub hb.2 y hy))
    · cases hv
  | const w => exact Option.some.inj hv
  | global g => exact Option.some.inj hv
  | func f => exact Option.some.inj hv
theorem litG_ok {F : Fr} {tg s : Nat} {w g : Bool} {r : Gd} {a : Act} (h : Fits F tg a) (hg : litG F tg s w r = some g) (hr : Holds a r) :
    a.tmps.getD s undef = .bool w ↔ g = true := by
  have key : ∀ b : Bool, a.tmps.getD s undef = .bool b → (a.tmps.getD s undef = .bool w ↔ litB w b = true) := by
    intro b hb
    rw [hb]
    cases b <;> cases w <;> simp [litB]
  unfold litG at hg
  split at hg
  · rename_i b hl
    obtain rfl := Option.some.inj hg
    refine key b ?_
    have := h s _ hl
    simp only [EOk] at this
    simp [Array.getD_eq_getD_getElem?, this]
  · rename_i tg' c b hl
    cases hb : Nat.beq tg tg' && subG c r with
    | false => rw [hb] at hg; cases hg
    | true =>
      rw [hb] at hg
      obtain rfl := Option.some.inj hg
      simp only [Bool.and_eq_true] at hb
      have htg : tg = tg' := Nat.eq_of_beq_eq_true hb.1
      exact key b (((h s _ hl).2 htg.symm).2.1 (fun y hy => hr y (subG_sub hb.2 y hy)))
  · cases hg
theorem gB_ok {F : Fr} {tg : Nat} {a : Act} (h : Fits F tg a) : ∀ {C : Gd} {g : Bool}, gB F tg C = some g → (Holds a C ↔ g = true)
  | [], g, hg => by
    obtain rfl := Option.some.inj hg
    exact ⟨fun _ => rfl, fun _ x hx => by cases hx⟩
  | [(s, w)], g, hg => by
    have := litG_ok (r := []) h hg (fun x hx => by cases hx)
    rw [← this]
    exact ⟨fun hh => hh (s, w) List.mem_cons_self, fun hh x hx => by rw [List.mem_singleton.1 hx]; exact hh⟩
  | (s, w) :: y :: r, g, hg => by
    simp only [gB] at hg
    split at hg
    · rename_i a' b' h1 h2
      obtain rfl := Option.some.inj hg
      have ih := gB_ok h h2
      rw [Bool.and_eq_true]
      constructor
      · intro hh
        have ht : Holds a (y :: r) := fun x hx => hh x (List.mem_cons_of_mem _ hx)
        exact ⟨(litG_ok h h1 ht).1 (hh (s, w) List.mem_cons_self), ih.1 ht⟩
      · intro ⟨h3, h4⟩
        have ht := ih.2 h4
        intro x hx
        rcases List.mem_cons.1 hx with rfl | hx
        · exact (litG_ok h h1 ht).2 h3
        · exact ht x hx
    · cases hg
theorem yielded_eq {ops : Array Oper} {a : Act} {j s : Nat} (hs : (ops[j]?).bind (·.dst) = some s) (w : Bool) :
    (yielded ops a.tmps j == some w) = true ↔ a.tmps.getD s undef = .bool w := by
  unfold yielded
  rw [hs]
  simp only [Option.bind_some]
  cases ht : a.tmps[s]? with
  | none => simp [Array.getD_eq_getD_getElem?, ht, undef]
  | some v => cases v <;> simp [Array.getD_eq_getD_getElem?, ht]
theorem guardC_ok {ops : Array Oper} {F : Fr} {tg : Nat} {o : Oper} {C : Gd} {a : Act} (h : Fits F tg a) (hc : guardC ops F tg o = some C) :
    Region.wanted o (yielded ops a.tmps) = true ↔ Holds a C := by
  unfold guardC at hc
  unfold Region.wanted
  cases hg : o.guard with
  | none =>
    rw [hg] at hc
    obtain rfl := Option.some.inj hc
    exact ⟨fun _ x hx => (by cases hx), fun _ => rfl⟩
  | some jw =>
    obtain ⟨j, w⟩ := jw
    rw [hg] at hc
    simp only at hc ⊢
    split at hc
    · cases hc
    · rename_i s hs
      rw [yielded_eq hs w]
      split at hc
      · obtain rfl := Option.some.inj hc
        exact ⟨fun hh x hx => (by rw [List.mem_singleton.1 hx]; exact hh), fun hh => hh (s, w) List.mem_cons_self⟩
      · rename_i tg' c v hl
        cases hb : Nat.beq tg tg' with
        | false => rw [hb] at hc; cases hc
        | true =>
          rw [hb] at hc
          obtain rfl := Option.some.inj hc
          have htg : tg = tg' := Nat.eq_of_beq_eq_true hb
          have he := (h s _ hl).2 htg.symm
          constructor
          · intro hh x hx
            rcases List.mem_cons.1 hx with rfl | hx
            · exact hh
            · by_cases hcc : Holds a c
              · exact hcc x hx
              · rw [he.2.2 hcc] at hh; cases hh
          · intro hh; exact hh (s, w) List.mem_cons_self
      · cases hc
end Go.Proofs.Ytaneeadpjelomaa.CF

/- The condition generator, part 2: regions. -/
namespace Go.Proofs.Ytaneeadpjelomaa.CF
open Go

/-- what an operation is to the generator -/
inductive An where
  | pv (v : Value)
  | po (ob : Prop) (v : Value)
  | rd (k : Kd) (rel : World → Value → Prop)
  | at (k : Kd) (f : World → (k.T → World → Prop) → Prop)
  | ac (f : World → (Value → World → Prop) → Prop)
  | no
abbrev Ana := Fr → Nat → Gd → Oper → An
def An.Ok (P : Program) (o : Oper) (a : Act) : An → Prop
  | .pv v => ∀ w, (execOp a.eval o).run P w = .ok (.value v) w
  | .po ob v => ob → ∀ w, (execOp a.eval o).run P w = .ok (.value v) w
  | .rd k rel => ∀ w x, rel w (k.mk x) → (execOp a.eval o).run P w = .ok (.value (k.mk x)) w
  | .at k f => ∀ w K Q, f w K → o.wp P a w (fun a' w' => ∃ x, a' = a.put o.dst (k.mk x) ∧ K x w') Q
  | .ac f => ∀ w K Q, f w K → o.wp P a w (fun a' w' => ∃ v, a' = a.put o.dst v ∧ K v w') Q
  | .no => True
def Ana.Ok (P : Program) (an : Ana) : Prop := ∀ F tg C o a, Fits F tg a → Holds a C → (an F tg C o).Ok P o a

def memN (d : Nat) : List Nat → Bool
  | [] => false
  | x :: r => Nat.beq x d || memN d r
theorem memN_mem {d : Nat} : ∀ {l : List Nat}, memN d l = false → d ∉ l
  | [], _, h => by cases h
  | x :: r, hm, h => by
    simp only [memN, Bool.or_eq_false_iff] at hm
    rcases List.mem_cons.1 h with rfl | h
    · rw [Nat.beq_refl] at hm; cases hm.1
    · exact memN_mem hm.2 h
def okDst (n : Nat) (M : List Nat) : Option Tmp → Bool
  | none => true
  | some d => Nat.blt d n && !memN d M
def slotsG : Gd → List Nat → List Nat
  | [], M => M
  | x :: r, M => x.1 :: slotsG r M
theorem slotsG_mem : ∀ {C : Gd} {M : List Nat} {x}, x ∈ C → x.1 ∈ slotsG C M
  | y :: r, M, x, h => by
    rcases List.mem_cons.1 h with rfl | h
    · exact List.mem_cons_self
    · exact List.mem_cons_of_mem _ (slotsG_mem h)
theorem slotsG_old : ∀ {C : Gd} {M : List Nat} {d : Nat}, d ∈ M → d ∈ slotsG C M
  | [], _, _, h => h
  | _ :: _, _, _, h => List.mem_cons_of_mem _ (slotsG_old h)
def ent (tg : Nat) (C : Gd) (v : Value) : E := match C with | [] => .val v | x :: r => .cnd tg (x :: r) v
def putE (F : Fr) (dst : Option Tmp) (e : E) : Fr := match dst with | some d => (d, e) :: F | none => F
def gI (C : Gd) (g : Bool) (X : Prop) : Prop := match C with | [] => X | _ :: _ => (g = true → X)
abbrev dflt (k : Kd) : k.T := k.dflt
/-- a place where ways meet -/
def letJ {α : Type} (j : α → World → Prop) (body : (α → World → Prop) → Prop) : Prop := body j
structure St where
  F : Fr
  tg : Nat

/-- one operation, the region in the text's order -/
def stepOp (an : Ana) (n : Nat) (ops : Array Oper) (F : Fr) (tg : Nat) (M : List Nat) (o : Oper) (w : World) (next : Fr → List Nat → World → Prop) : Prop :=
  match guardC ops F tg o with
  | none => False
  | some C => match gB F tg C with
    | none => False
    | some g => match okDst n (slotsG C M) o.dst with
      | false => False
      | true => match an F tg C o with
        | .pv v => next (putE F o.dst (ent tg C v)) (slotsG C M) w
        | .po ob v => gI C g ob ∧ next (putE F o.dst (ent tg C v)) (slotsG C M) w
        | .rd k rel => ∃ x : k.T, gI C g (rel w (k.mk x)) ∧ next (putE F o.dst (ent tg C (k.mk x))) (slotsG C M) w
        | .at k f => match C with
          | [] => f w (fun x w' => next (putE F o.dst (.val (k.mk x))) (slotsG [] M) w')
          | y :: r => letJ (fun (x : k.T) w' => next (putE F o.dst (.cnd tg (y :: r) (k.mk x))) (slotsG (y :: r) M) w')
              (fun J => (g = true → f w J) ∧ (g = false → J (dflt k) w))
        | .ac f => match C with
          | [] => f w (fun v w' => next (putE F o.dst (.val v)) (slotsG [] M) w')
          | _ :: _ => False
        | .no => False
def seqOps (an : Ana) (n : Nat) (ops : Array Oper) (Kn : St → World → Prop) : List Oper → Fr → Nat → List Nat → World → Prop
  | [], F, tg, _, w => Kn ⟨F, tg + 1⟩ w
  | o :: rest, F, tg, M, w => stepOp an n ops F tg M o w (fun F' M' w' => seqOps an n ops Kn rest F' tg M' w')

structure Good (n : Nat) (F : Fr) (tg : Nat) (M : List Nat) (a : Act) : Prop where
  size : a.tmps.size = n
  defers : a.defers = []
  fits : Fits F tg a
  minv : ∀ t c v, look F t = some (.cnd tg c v) → ∀ x ∈ c, x.1 ∈ M
structure OkS (n : Nat) (st : St) (a : Act) : Prop where
  size : a.tmps.size = n
  defers : a.defers = []
  fits : Fits st.F st.tg a
  fresh : ∀ t c v, look st.F t ≠ some (.cnd st.tg c v)
theorem OkS.good {n : Nat} {st : St} {a : Act} (h : OkS n st a) : Good n st.F st.tg [] a :=
  ⟨h.size, h.defers, h.fits, fun t c v hl => absurd hl (h.fresh t c v)⟩
theorem Good.next {n : Nat} {F : Fr} {tg : Nat} {M : List Nat} {a : Act} (h : Good n F tg M a) : OkS n ⟨F, tg + 1⟩ a :=
  ⟨h.size, h.defers, h.fits.next, fun t c v hl => by have := (h.fits t _ hl).1; simp only at this; omega⟩
theorem Good.more {n : Nat} {F : Fr} {tg : Nat} {M : List Nat} {a : Act} (h : Good n F tg M a) (C : Gd) : Good n F tg (slotsG C M) a :=
  ⟨h.size, h.defers, h.fits, fun t c v hl x hx => slotsG_old (h.minv t c v hl x hx)⟩
theorem put_size (a : Act) (dst : Option Tmp) (v : Value) : (a.put dst v).tmps.size = a.tmps.size := by cases dst <;> simp [Act.put]
theorem put_defers (a : Act) (dst : Option Tmp) (v : Value) : (a.put dst v).defers = a.defers := by cases dst <;> rfl
theorem put_ne (a : Act) (d : Nat) (v : Value) {t : Nat} (h : d ≠ t) : (a.put (some d) v).tmps[t]? = a.tmps[t]? := by
  simp [Act.put, Array.getElem?_setIfInBounds_ne h]
theorem put_neD (a : Act) (d : Nat) (v : Value) {t : Nat} (h : d ≠ t) : (a.put (some d) v).tmps.getD t undef = a.tmps.getD t undef := by
  rw [Array.getD_eq_getD_getElem?, Array.getD_eq_getD_getElem?, put_ne a d v h]
theorem put_eq (a : Act) (d : Nat) (v : Value) (h : d < a.tmps.size) : (a.put (some d) v).tmps[d]? = some v := by
  simp [Act.put, h]
theorem holds_put {a : Act} {d : Nat} {v : Value} {c : Gd} (h : ∀ x ∈ c, d ≠ x.1) : Holds (a.put (some d) v) c ↔ Holds a c := by
  unfold Holds
  constructor
  · intro hh x hx; rw [← put_neD a d v (h x hx)]; exact hh x hx
  · intro hh x hx; rw [put_neD a d v (h x hx)]; exact hh x hx
/-- the frame behind an operation: its value if it ran, else nothing -/
theorem Good.put {n : Nat} {F : Fr} {tg : Nat} {M : List Nat} {a : Act} {dst : Option Tmp} {C : Gd} {v u : Value} (h : Good n F tg (slotsG C M) a)
    (hd : okDst n (slotsG C M) dst = true) (hy : Holds a C → u = v) (hn : ¬ Holds a C → u = undef) :
    Good n (putE F dst (ent tg C v)) tg (slotsG C M) (a.put dst u) := by
  cases dst with
  | none => exact h
  | some d =>
    simp only [okDst, Bool.and_eq_true, Bool.not_eq_true'] at hd
    have hlt : d < a.tmps.size := by rw [h.size]; exact Nat.blt_eq ▸ hd.1
    have hnm := memN_mem hd.2
    refine ⟨by rw [put_size]; exact h.size, by rw [put_defers]; exact h.defers, ?_, ?_⟩
    · intro t e hl
      simp only [putE] at hl
      rw [look_cons] at hl
      by_cases hdt : d = t
      · subst hdt
        rw [if_pos rfl] at hl
        obtain rfl := Option.some.inj hl
        cases C with
        | nil =>
          have : u = v := hy (fun x hx => by cases hx)
          rw [← this]
          exact put_eq a d u hlt
        | cons y r =>
          have hh : Holds (a.put (some d) u) (y :: r) ↔ Holds a (y :: r) := holds_put fun x hx he => hnm (he ▸ slotsG_mem hx)
          refine ⟨Nat.le_refl _, fun _ => ⟨by rw [put_size]; exact hlt, fun hH => ?_, fun hH => ?_⟩⟩
          · rw [Array.getD_eq_getD_getElem?, put_eq a d u hlt, hy (hh.1 hH)]; rfl
          · rw [Array.getD_eq_getD_getElem?, put_eq a d u hlt, hn (fun q => hH (hh.2 q))]; rfl
      · rw [if_neg hdt] at hl
        have h1 := h.fits t e hl
        cases e with
        | val v' => simp only [EOk] at h1 ⊢; rw [put_ne a d u hdt]; exact h1
        | cnd tg' c v' =>
          refine ⟨h1.1, fun htg => ?_⟩
          have h2 := h1.2 htg
          subst htg
          have hh : Holds (a.put (some d) u) c ↔ Holds a c := holds_put fun x hx he => hnm (he ▸ h.minv t c v' hl x hx)
          refine ⟨by rw [put_size]; exact h2.1, fun hH => ?_, fun hH => ?_⟩
          · rw [put_neD a d u hdt]; exact h2.2.1 (hh.1 hH)
          · rw [put_neD a d u hdt]; exact h2.2.2 (fun q => hH (hh.2 q))
    · intro t c v' hl x hx
      simp only [putE] at hl
      rw [look_cons] at hl
      by_cases hdt : d = t
      · rw [if_pos hdt] at hl
        cases C with
        | nil => cases Option.some.inj hl
        | cons y r =>
          simp only [ent] at hl
          obtain ⟨rfl, rfl⟩ : y :: r = c ∧ v = v' := by
            have := Option.some.inj hl
            injection this with _ h1 h2
            exact ⟨h1, h2⟩
          exact slotsG_mem hx
      · rw [if_neg hdt] at hl
        exact h.minv t c v' hl x hx
def writesO : List Oper → Nat → Bool
  | [], _ => false
  | o :: r, d => (match o.dst with | some e => Nat.beq e d | none => false) || writesO r d
/-- what a piece leaves alone -/
def Same (wr : Nat → Bool) (a a' : Act) : Prop := ∀ d, wr d = false → a'.tmps[d]? = a.tmps[d]?
theorem put_same {a : Act} {o : Oper} {u : Value} {r : List Oper} {d : Nat} (h : writesO (o :: r) d = false) : (a.put o.dst u).tmps[d]? = a.tmps[d]? := by
  simp only [writesO, Bool.or_eq_false_iff] at h
  cases hd : o.dst with
  | none => rfl
  | some e =>
    rw [hd] at h
    refine put_ne a e u fun he => ?_
    subst he
    simp only [Nat.beq_refl] at h
    cases h.1
/-- what the region's end has -/
def QN (n : Nat) (Kn : St → World → Prop) (wr : Nat → Bool) (a0 : Act) : Exit → Act → World → Prop
  | .normal, a, w => (∃ st, OkS n st a ∧ Kn st w) ∧ Same wr a0 a
  | _, _, _ => False

/-- what an operation's step comes to: the operation runs or not; behind it the frame is as told -/
theorem stepOp_ok {P : Program} {an : Ana} (hA : an.Ok P) {n : Nat} {ops : Array Oper} {F : Fr} {tg : Nat} {M : List Nat} {o : Oper} {w : World} {next : Fr → List Nat → World → Prop}
    {a : Act} {K : Act → World → Prop} {Q : Exit → Act → World → Prop} (h : stepOp an n ops F tg M o w next) (hg : Good n F tg M a)
    (hK : ∀ F' M' w' u, Good n F' tg M' (a.put o.dst u) → next F' M' w' → K (a.put o.dst u) w') :
    if Region.wanted o (yielded ops a.tmps) then o.wp P a w K Q else K (a.put o.dst undef) w := by
  unfold stepOp at h
  split at h
  · exact h.elim
  rename_i C hC
  split at h
  · exact h.elim
  rename_i g hgB
  split at h
  · exact h.elim
  rename_i hd
  have hw := guardC_ok hg.fits hC
  have hgb := gB_ok hg.fits hgB
  have hg' := hg.more C
  have hI : ∀ X, gI C g X → Holds a C → X := by
    intro X hX hH
    cases C with
    | nil => exact hX
    | cons y r => exact hX (hgb.1 hH)
  by_cases hH : Holds a C
  · rw [if_pos (hw.2 hH)]
    have hOk := hA F tg C o a hg.fits hH
    have fin : ∀ v, Good n (putE F o.dst (ent tg C v)) tg (slotsG C M) (a.put o.dst v) := fun v => hg'.put hd (fun _ => rfl) (fun q => absurd hH q)
    split at h
    · rename_i v hv
      rw [hv] at hOk
      simp only [An.Ok] at hOk
      unfold Oper.wp
      rw [hOk w]
      exact hK _ _ _ _ (fin v) h
    · rename_i ob v hv
      rw [hv] at hOk
      unfold Oper.wp
      rw [hOk (hI _ h.1 hH) w]
      exact hK _ _ _ _ (fin v) h.2
    · rename_i k rel hv
      rw [hv] at hOk
      obtain ⟨x, h1, h2⟩ := h
      unfold Oper.wp
      rw [hOk w x (hI _ h1 hH)]
      exact hK _ _ _ _ (fin _) h2
    · rename_i k f hv
      rw [hv] at hOk
      split at h
      · refine Oper.wp_mono (fun a' w' ⟨x, e, hk⟩ => ?_) (hOk w _ Q h)
        subst e
        exact hK _ _ _ _ (fin _) hk
      · rename_i y r hC'
        have h1 := h.1 (hgb.1 hH)
        refine Oper.wp_mono (fun a' w' ⟨x, e, hk⟩ => ?_) (hOk w _ Q h1)
        subst e
        exact hK _ _ _ _ (fin _) hk
    · rename_i f hv
      rw [hv] at hOk
      split at h
      · refine Oper.wp_mono (fun a' w' ⟨v, e, hk⟩ => ?_) (hOk w _ Q h)
        subst e
        exact hK _ _ _ _ (fin _) hk
      · exact h.elim
    · exact h.elim
  · rw [if_neg (fun q => hH (hw.1 q))]
    have hgf : g = false := by
      cases g with
      | false => rfl
      | true => exact absurd (hgb.2 rfl) hH
    have fin : ∀ v, Good n (putE F o.dst (ent tg C v)) tg (slotsG C M) (a.put o.dst undef) := fun v => hg'.put hd (fun q => absurd q hH) (fun _ => rfl)
    split at h
    · exact hK _ _ _ _ (fin _) h
    · exact hK _ _ _ _ (fin _) h.2
    · obtain ⟨x, h1, h2⟩ := h
      exact hK _ _ _ _ (fin _) h2
    · split at h
      · exact absurd (fun x hx => by cases hx) hH
      · exact hK _ _ _ _ (fin _) (h.2 hgf)
    · split at h
      · exact absurd (fun x hx => by cases hx) hH
      · exact h.elim
    · exact h.elim
theorem seqOps_ok {P : Program} {an : Ana} (hA : an.Ok P) {n : Nat} {ops : Array Oper} {Kn : St → World → Prop} : ∀ (l : List Oper) (F : Fr) (tg : Nat) (M : List Nat) (w : World) (a : Act) ,
    seqOps an n ops Kn l F tg M w → Good n F tg M a → wpList P ops (QN n Kn (writesO l) a) l a w
  | [], F, tg, M, w, a, h, hg => ⟨⟨_, hg.next, h⟩, fun _ _ => rfl⟩
  | o :: rest, F, tg, M, w, a, h, hg => by
    have key := stepOp_ok (P := P) (Q := QN n Kn (writesO (o :: rest)) a) (K := wpList P ops (QN n Kn (writesO (o :: rest)) a) rest) hA h hg (fun F' M' w' u hg' hn => by
      have ih := seqOps_ok hA rest F' tg M' w' _ hn hg'
      have mono : ∀ (l : List Oper) (Q Q' : Exit → Act → World → Prop) (a : Act) (w : World), (∀ e a w, Q e a w → Q' e a w) → wpList P ops Q l a w → wpList P ops Q' l a w := by
        intro l
        induction l with
        | nil => intro Q Q' a w hq h; exact hq _ _ _ h
        | cons o l ih =>
          intro Q Q' a w hq h
          unfold wpList at h ⊢
          split
          · rename_i hw
            rw [if_pos hw] at h
            have lo : LetsOut Q → LetsOut Q' := fun ⟨a, w, hh⟩ => ⟨a, w, hq _ _ _ hh⟩
            refine h.imp (fun h => ?_) (fun h => ⟨h.1, lo h.2⟩)
            unfold Oper.wp at h ⊢
            cases hr : (execOp a.eval o).run P w with
            | ok x w' =>
              rw [hr] at h
              cases x <;> simp only [Oper.upon] at h ⊢ <;> first
                | exact ih _ _ _ _ hq h
                | exact Calls.mono h (fun e w'' he => by cases e <;> first | exact ih _ _ _ _ hq he | exact hq _ _ _ he | exact lo he)
                | exact Rows.mono h (fun _ _ he => ih _ _ _ _ hq he)
            | halt x w' =>
              rw [hr] at h
              cases x <;> simp only [Oper.upon] at h ⊢ <;> exact hq _ _ _ h
          · rename_i hw
            rw [if_neg hw] at h
            exact ih _ _ _ _ hq h
      refine mono rest _ _ _ _ (fun e a' w' hq => ?_) ih
      cases e <;> simp only [QN] at hq ⊢
      refine ⟨hq.1, fun d hd => ?_⟩
      rw [hq.2 d (by simp only [writesO, Bool.or_eq_false_iff] at hd; exact hd.2), put_same hd])
    unfold wpList
    split
    · rename_i hw; rw [if_pos hw] at key; exact .inl key
    · rename_i hw; rw [if_neg hw] at key; exact key
end Go.Proofs.Ytaneeadpjelomaa.CF

/- The condition generator, part 3: regions that draw their order. -/
namespace Go.Proofs.Ytaneeadpjelomaa.CF
open Go

/-- must r come ahead of j? -/
def anc (ops : Array Oper) : Nat → Nat → Nat → Bool
  | 0, _, _ => false
  | f + 1, j, r => match ops[j]? with
    | none => false
    | some o => o.after.toList.any fun e => Region.binds .any e && (Nat.beq e.on r || anc ops f e.on r)
/-- may one of the reads be still to come behind j? -/
def needS (ops : Array Oper) (j : Nat) : List Nat → Bool
  | [] => false
  | r :: t => (!(Nat.beq r j || anc ops ops.size j r)) || needS ops j t
def Closed (ops : Array Oper) (listed : Array Bool) : Prop :=
  ∀ j oj, ops[j]? = some oj → listed.getD j false = true → ∀ e ∈ oj.after, Region.binds .any e = true → listed.getD e.on false = true
theorem getD_tf {listed : Array Bool} {i : Nat} (h : listed.getD i true = false) : listed.getD i false = false := by
  rcases Nat.lt_or_ge i listed.size with h' | h'
  · simp [h'] at h ⊢; exact h
  · simp [Array.getElem?_eq_none h'] at h
theorem anc_listed {ops : Array Oper} {listed : Array Bool} (hc : Closed ops listed) : ∀ (f : Nat) {j r : Nat} {o : Oper}, ops[j]? = some o →
    (∀ e ∈ o.after, Region.binds .any e = true → listed.getD e.on false = true) → anc ops f j r = true → listed.getD r false = true
  | 0, _, _, _, _, _, h => by cases h
  | f + 1, j, r, o, ho, hall, h => by
    simp only [anc, ho, List.any_eq_true, Array.mem_toList_iff, Bool.and_eq_true, Bool.or_eq_true] at h
    obtain ⟨e, he, hb, h⟩ := h
    have hl := hall e he hb
    rcases h with h | h
    · rw [← Nat.eq_of_beq_eq_true h]; exact hl
    · cases hoe : ops[e.on]? with
      | none => cases f <;> simp [anc, hoe] at h
      | some oe => exact anc_listed hc f hoe (fun e' he' hb' => hc _ _ hoe hl e' he' hb') h
theorem needS_of {ops : Array Oper} {listed : Array Bool} (hc : Closed ops listed) {j i : Nat} (hj : j ∈ Region.ready .any ops listed) (hji : j ≠ i) (hun : listed.getD i true = false) :
    ∀ {rs : List Nat}, memN i rs = true → needS ops j rs = true
  | [], h => by cases h
  | r :: t, h => by
    simp only [memN, Bool.or_eq_true] at h
    simp only [needS, Bool.or_eq_true]
    rcases h with h | h
    · have : r = i := Nat.eq_of_beq_eq_true h
      subst this
      left
      obtain ⟨_, oj, hoj, hall⟩ := mem_ready.1 hj
      cases hx : anc ops ops.size j r with
      | true =>
        have := anc_listed hc _ hoj hall hx
        rw [getD_tf hun] at this
        cases this
      | false =>
        cases hy : Nat.beq r j with
        | true => exact absurd (Nat.eq_of_beq_eq_true hy).symm hji
        | false => rfl
    · right; exact needS_of hc hj hji hun h
theorem Closed.set {ops : Array Oper} {listed : Array Bool} (hc : Closed ops listed) {i : Nat} (hi : i ∈ Region.ready .any ops listed) : Closed ops (listed.setIfInBounds i true) := by
  obtain ⟨_, oi, hoi, hall⟩ := mem_ready.1 hi
  intro j oj hj hl e he hb
  by_cases hij : i = j
  · subst hij
    have : oj = oi := Option.some.inj (hj.symm.trans hoi)
    subst this
    exact getD_set_true (hall e he hb)
  · rw [getD_set_ne false hij] at hl
    exact getD_set_true (hc j oj hj hl e he hb)
section
variable {P : Program} {ops : Array Oper} {Q : Exit → Act → World → Prop} {S : World → Prop} {rs ac : List Nat}
/-- whatever order is picked, and S holds behind each operation as long as a read may still be to come -/
def wpAnyN (P : Program) (ops : Array Oper) (Q : Exit → Act → World → Prop) (S : World → Prop) (rs ac : List Nat) : Nat → Array Bool → Act → World → Prop
  | 0, listed, a, w => Region.ready .any ops listed = [] ∧ Q .normal a w
  | f + 1, listed, a, w => (Region.ready .any ops listed = [] → Q .normal a w) ∧
    ∀ i ∈ Region.ready .any ops listed, wpOp P ops Q i (fun a' w' => (memN i ac = false → w' = w) ∧ (memN i ac = true → needS ops i rs = true → S w') ∧ wpAnyN P ops Q S rs ac f (listed.setIfInBounds i true) a' w') a w
theorem wpAny_of_N : ∀ (f : Nat) (listed : Array Bool) (a : Act) (w : World), wpAnyN P ops Q S rs ac f listed a w → wpAny P .any ops Q f listed a w
  | 0, _, _, _, h => h
  | f + 1, _, _, _, h => ⟨h.1, fun i hi => wpOp_mono (fun a' w' h' => wpAny_of_N f _ a' w' h'.2.2) (h.2 i hi)⟩
/-- an operation that yields its value in every world that may be there while it is to come is taken first -/
theorem wpAnyN_first {T : World → Prop} {i : Nat} {oi : Oper} {v : Value} (hi : ops[i]? = some oi) (hsel : ∀ (j : Nat) (o : Oper) cs b, ops[j]? = some o → o.op ≠ .select cs b)
    (hQ : ∀ c a w, Q (.panic c) (a.put oi.dst v) w → Q (.panic c) a w) (hT : (∀ w, T w) ∨ (T = S ∧ memN i rs = true)) (hac : memN i ac = false) :
    ∀ (f : Nat) (listed : Array Bool) (a : Act) (w : World),
      (∀ j oj, ops[j]? = some oj → j ≠ i → listed.getD j true = false → (∀ e ∈ oj.after, Region.binds .any e = true → e.on ≠ i) → oi.apart ops oj = true) →
      Closed ops listed → i ∈ Region.ready .any ops listed → YieldsIf P ops T oi v a → T w →
      wpAnyN P ops Q S rs ac f (listed.setIfInBounds i true) (a.put oi.dst v) w → wpAnyN P ops Q S rs ac (f + 1) listed a w := by
  intro f
  induction f with
  | zero =>
    intro listed a w _ hc hr hy hTw H
    refine ⟨fun h => (by rw [h] at hr; cases hr), fun j hj => ?_⟩
    by_cases hji : j = i
    · subst hji; exact hy.wpOp hi hTw ⟨fun _ => rfl, fun q => (by rw [hac] at q; cases q), H⟩
    · have := ready_mono hj hji
      rw [H.1] at this
      cases this
  | succ f ih =>
    intro listed a w hfree hc hr hy hTw H
    have hun := (mem_ready.1 hr).1
    refine ⟨fun h => (by rw [h] at hr; cases hr), fun j hj => ?_⟩
    by_cases hji : j = i
    · subst hji; exact hy.wpOp hi hTw ⟨fun _ => rfl, fun q => (by rw [hac] at q; cases q), H⟩
    · have h1 := H.2 j (ready_mono hj hji)
      obtain ⟨hjun, oj, hoj, hall⟩ := mem_ready.1 hj
      have hnot : ∀ e ∈ oj.after, Region.binds .any e = true → e.on ≠ i := fun e he hb heq => by
        have h1 := hall e he hb
        rw [heq] at h1
        rw [getD_tf hun] at h1
        cases h1
      have h2 := wpOp_putIf hoj (hfree j oj hoj hji hjun hnot) (fun cs b => hsel i oi cs b hi) (fun cs b => hsel j oj cs b hoj) hQ hy h1
      have hfree' : ∀ k ok, ops[k]? = some ok → k ≠ i → (listed.setIfInBounds j true).getD k true = false →
          (∀ e ∈ ok.after, Region.binds .any e = true → e.on ≠ i) → oi.apart ops ok = true := fun k ok hk hki hun hno => by
        refine hfree k ok hk hki ?_ hno
        by_cases hjk : j = k
        · subst hjk; exact hjun
        · rw [getD_set_ne true hjk] at hun; exact hun
      have hun' : (listed.setIfInBounds j true).getD i true = false := by rw [getD_set_ne true hji]; exact hun
      refine wpOp_mono (fun a' w' h3 => ?_) h2
      obtain ⟨hy', hw', hS', H'⟩ := h3
      have hT' : T w' := by
        rcases hT with hT | ⟨rfl, hm⟩
        · exact hT w'
        · cases hj' : memN j ac with
          | true => exact hS' hj' (needS_of hc hj hji hun hm)
          | false => rw [hw' hj']; exact hTw
      refine ⟨hw', hS', ih (listed.setIfInBounds j true) a' w' hfree' (hc.set hj) (ready_mono hr (Ne.symm hji)) hy' hT' ?_⟩
      rw [Array.setIfInBounds_comm _ _ hji]
      exact H'
end
end Go.Proofs.Ytaneeadpjelomaa.CF

/- The condition generator, part 4: what a region that draws comes to. -/
namespace Go.Proofs.Ytaneeadpjelomaa.CF
open Go

def idxs (p : Oper → Bool) : List Oper → Nat → List Nat
  | [], _ => []
  | o :: r, i => match p o with | true => i :: idxs p r (i + 1) | false => idxs p r (i + 1)
def findT (ops : Array Oper) (listed : Array Bool) (ac : List Nat) : List Nat → Option Nat
  | [] => none
  | i :: r => match !memN i ac && Region.free .any ops listed i with | true => some i | false => findT ops listed ac r
def andS (b : Bool) (A B : Prop) : Prop := match b with | true => A ∧ B | false => B
def conjL : List Prop → Prop
  | [] => True
  | [p] => p
  | p :: q :: r => p ∧ conjL (q :: r)
theorem conjL_all {α : Type} {f : α → Prop} : ∀ {l : List α}, conjL (l.map f) → ∀ x ∈ l, f x
  | [], _, x, h => by cases h
  | [y], h, x, hx => by rw [List.mem_singleton.1 hx]; exact h
  | y :: z :: r, h, x, hx => by
    rcases List.mem_cons.1 hx with rfl | hx
    · exact h.1
    · exact conjL_all (l := z :: r) h.2 x hx
def takeOp (an : Ana) (n : Nat) (ops : Array Oper) (S : World → Prop) (rs : List Nat) (F : Fr) (tg : Nat) (M : List Nat) (w : World) (i : Nat)
    (next : Fr → List Nat → World → Prop) : Prop :=
  match ops[i]? with
  | none => False
  | some o => match guardC ops F tg o with
    | none => False
    | some C => match gB F tg C with
      | none => False
      | some g => match okDst n (slotsG C M) o.dst with
        | false => False
        | true => match an F tg C o with
          | .pv v => next (putE F o.dst (ent tg C v)) (slotsG C M) w
          | .po ob v => gI C g ob ∧ next (putE F o.dst (ent tg C v)) (slotsG C M) w
          | .rd k rel => match memN i rs with
            | true => ∃ x : k.T, gI C g (∀ w', S w' → rel w' (k.mk x)) ∧ next (putE F o.dst (ent tg C (k.mk x))) (slotsG C M) w
            | false => False
          | _ => False
def actOp (an : Ana) (n : Nat) (ops : Array Oper) (S : World → Prop) (rs ac : List Nat) (F : Fr) (tg : Nat) (M : List Nat) (w : World) (i : Nat)
    (next : Fr → List Nat → World → Prop) : Prop :=
  match memN i ac with
  | false => False
  | true => match ops[i]? with
    | none => False
    | some o => match guardC ops F tg o with
      | none => False
      | some C => match gB F tg C with
        | none => False
        | some g => match okDst n (slotsG C M) o.dst with
          | false => False
          | true => match an F tg C o with
            | .at k f => match C with
              | [] => f w (fun x w' => andS (needS ops i rs) (S w') (next (putE F o.dst (.val (k.mk x))) (slotsG [] M) w'))
              | y :: r => letJ (fun (x : k.T) w' => andS (needS ops i rs) (S w') (next (putE F o.dst (.cnd tg (y :: r) (k.mk x))) (slotsG (y :: r) M) w'))
                  (fun J => (g = true → f w J) ∧ (g = false → J (dflt k) w))
            | .ac f => match C with
              | [] => f w (fun v w' => andS (needS ops i rs) (S w') (next (putE F o.dst (.val v)) (slotsG [] M) w'))
              | _ :: _ => False
            | _ => False
/-- a read of what an act of the same region has brought: what is known is told anew -/
def renew (ops : Array Oper) (rs ac : List Nat) (j : Nat) : Bool := memN j rs && ac.any fun a => anc ops ops.size j a
def drawOps (an : Ana) (n : Nat) (ops : Array Oper) (rs ac : List Nat) (Kn : St → World → Prop) : Nat → (World → Prop) → Array Bool → Fr → Nat → List Nat → World → Prop
  | 0, _, listed, F, tg, _, w => match Region.ready .any ops listed with | [] => Kn ⟨F, tg + 1⟩ w | _ :: _ => False
  | f + 1, S, listed, F, tg, M, w => match Region.ready .any ops listed with
    | [] => Kn ⟨F, tg + 1⟩ w
    | i :: r => match findT ops listed ac (i :: r) with
      | some j => match renew ops rs ac j with
        | false => takeOp an n ops S rs F tg M w j (fun F' M' w' => drawOps an n ops rs ac Kn f S (listed.setIfInBounds j true) F' tg M' w')
        | true => ∃ S2 : World → Prop, S2 w ∧ (∀ u, S2 u → S u) ∧ takeOp an n ops S2 rs F tg M w j (fun F' M' w' => drawOps an n ops rs ac Kn f S2 (listed.setIfInBounds j true) F' tg M' w')
      | none => conjL ((i :: r).map fun j => actOp an n ops S rs ac F tg M w j (fun F' M' w' => drawOps an n ops rs ac Kn f S (listed.setIfInBounds j true) F' tg M' w'))

theorem findT_ok {ops : Array Oper} {listed : Array Bool} {ac : List Nat} : ∀ {l : List Nat} {j : Nat}, findT ops listed ac l = some j → j ∈ l ∧ memN j ac = false ∧ Region.free .any ops listed j = true
  | i :: r, j, h => by
    simp only [findT] at h
    split at h
    · rename_i hb
      obtain rfl := Option.some.inj h
      simp only [Bool.and_eq_true, Bool.not_eq_true'] at hb
      exact ⟨List.mem_cons_self, hb.1, hb.2⟩
    · obtain ⟨h1, h2⟩ := findT_ok h
      exact ⟨List.mem_cons_of_mem _ h1, h2⟩
theorem takeOp_ok {P : Program} {an : Ana} (hA : an.Ok P) {n : Nat} {ops : Array Oper} {S : World → Prop} {rs : List Nat} {F : Fr} {tg : Nat} {M : List Nat} {w : World} {i : Nat}
    {next : Fr → List Nat → World → Prop} {a : Act} (h : takeOp an n ops S rs F tg M w i next) (hg : Good n F tg M a) :
    ∃ oi u T, ops[i]? = some oi ∧ YieldsIf P ops T oi u a ∧ ((∀ w, T w) ∨ (T = S ∧ memN i rs = true)) ∧ ∃ F' M', Good n F' tg M' (a.put oi.dst u) ∧ next F' M' w := by
  unfold takeOp at h
  split at h
  · exact h.elim
  rename_i o ho
  split at h
  · exact h.elim
  rename_i C hC
  split at h
  · exact h.elim
  rename_i g hgB
  split at h
  · exact h.elim
  rename_i hd
  have hw := guardC_ok hg.fits hC
  have hgb := gB_ok hg.fits hgB
  have hg' := hg.more C
  have hI : ∀ X, gI C g X → Holds a C → X := by
    intro X hX hH
    cases C with
    | nil => exact hX
    | cons y r => exact hX (hgb.1 hH)
  by_cases hH : Holds a C
  · have hOk := hA F tg C o a hg.fits hH
    have fin : ∀ v, Good n (putE F o.dst (ent tg C v)) tg (slotsG C M) (a.put o.dst v) := fun v => hg'.put hd (fun _ => rfl) (fun q => absurd hH q)
    split at h
    · rename_i v hv
      rw [hv] at hOk
      exact ⟨o, v, fun _ => True, ho, .inl ⟨hw.2 hH, fun w' _ => hOk w'⟩, .inl fun _ => trivial, _, _, fin v, h⟩
    · rename_i ob v hv
      rw [hv] at hOk
      exact ⟨o, v, fun _ => True, ho, .inl ⟨hw.2 hH, fun w' _ => hOk (hI _ h.1 hH) w'⟩, .inl fun _ => trivial, _, _, fin v, h.2⟩
    · rename_i k rel hv
      rw [hv] at hOk
      split at h
      · rename_i hm
        obtain ⟨x, h1, h2⟩ := h
        exact ⟨o, _, S, ho, .inl ⟨hw.2 hH, fun w' hs => hOk w' x (hI _ h1 hH w' hs)⟩, .inr ⟨rfl, hm⟩, _, _, fin _, h2⟩
      · exact h.elim
    · exact h.elim
  · have hwf : Region.wanted o (yielded ops a.tmps) = false := by
      cases hx : Region.wanted o (yielded ops a.tmps) with
      | false => rfl
      | true => exact absurd (hw.1 hx) hH
    have fin : ∀ v, Good n (putE F o.dst (ent tg C v)) tg (slotsG C M) (a.put o.dst undef) := fun v => hg'.put hd (fun q => absurd q hH) (fun _ => rfl)
    have hy : YieldsIf P ops (fun _ => True) o undef a := .inr ⟨hwf, rfl⟩
    split at h
    · exact ⟨o, undef, _, ho, hy, .inl fun _ => trivial, _, _, fin _, h⟩
    · exact ⟨o, undef, _, ho, hy, .inl fun _ => trivial, _, _, fin _, h.2⟩
    · split at h
      · obtain ⟨x, h1, h2⟩ := h
        exact ⟨o, undef, _, ho, hy, .inl fun _ => trivial, _, _, fin _, h2⟩
      · exact h.elim
    · exact h.elim
theorem andS_ok {b : Bool} {A B : Prop} (h : andS b A B) : (b = true → A) ∧ B := by
  cases b with
  | true => exact ⟨fun _ => h.1, h.2⟩
  | false => exact ⟨fun q => (by cases q), h⟩
theorem actOp_ok {P : Program} {an : Ana} (hA : an.Ok P) {n : Nat} {ops : Array Oper} {S : World → Prop} {rs ac : List Nat} {F : Fr} {tg : Nat} {M : List Nat} {w : World} {i : Nat}
    {next : Fr → List Nat → World → Prop} {a : Act} {Q : Exit → Act → World → Prop} {K : Act → World → Prop} (h : actOp an n ops S rs ac F tg M w i next) (hg : Good n F tg M a)
    (hK : ∀ o F' M' w' u, ops[i]? = some o → Good n F' tg M' (a.put o.dst u) → next F' M' w' → memN i ac = true → (needS ops i rs = true → S w') → K (a.put o.dst u) w') :
    wpOp P ops Q i K a w := by
  unfold actOp at h
  split at h
  · exact h.elim
  rename_i hac
  split at h
  · exact h.elim
  rename_i o ho
  split at h
  · exact h.elim
  rename_i C hC
  split at h
  · exact h.elim
  rename_i g hgB
  split at h
  · exact h.elim
  rename_i hd
  have hw := guardC_ok hg.fits hC
  have hgb := gB_ok hg.fits hgB
  have hg' := hg.more C
  unfold wpOp
  simp only [ho]
  by_cases hH : Holds a C
  · rw [if_pos (hw.2 hH)]
    left
    have hOk := hA F tg C o a hg.fits hH
    have fin : ∀ v, Good n (putE F o.dst (ent tg C v)) tg (slotsG C M) (a.put o.dst v) := fun v => hg'.put hd (fun _ => rfl) (fun q => absurd hH q)
    split at h
    · rename_i k f hv
      rw [hv] at hOk
      split at h
      · refine Oper.wp_mono (fun a' w' ⟨x, e, hk⟩ => ?_) (hOk w _ Q h)
        subst e
        exact hK _ _ _ _ _ ho (fin _) (andS_ok hk).2 hac (andS_ok hk).1
      · rename_i y r
        have h1 := h.1 (hgb.1 hH)
        refine Oper.wp_mono (fun a' w' ⟨x, e, hk⟩ => ?_) (hOk w _ Q h1)
        subst e
        exact hK _ _ _ _ _ ho (fin _) (andS_ok hk).2 hac (andS_ok hk).1
    · rename_i f hv
      rw [hv] at hOk
      split at h
      · refine Oper.wp_mono (fun a' w' ⟨v, e, hk⟩ => ?_) (hOk w _ Q h)
        subst e
        exact hK _ _ _ _ _ ho (fin _) (andS_ok hk).2 hac (andS_ok hk).1
      · exact h.elim
    · exact h.elim
  · rw [if_neg (fun q => hH (hw.1 q))]
    have hgf : g = false := by
      cases g with
      | false => rfl
      | true => exact absurd (hgb.2 rfl) hH
    have fin : ∀ v, Good n (putE F o.dst (ent tg C v)) tg (slotsG C M) (a.put o.dst undef) := fun v => hg'.put hd (fun q => absurd q hH) (fun _ => rfl)
    split at h
    · split at h
      · exact absurd (fun x hx => by cases hx) hH
      · have hk := h.2 hgf
        exact hK _ _ _ _ _ ho (fin _) (andS_ok hk).2 hac (andS_ok hk).1
    · split at h
      · exact absurd (fun x hx => by cases hx) hH
      · exact h.elim
    · exact h.elim
theorem put_same_mem {a : Act} {o : Oper} {u : Value} {l : List Oper} {i d : Nat} (hi : l[i]? = some o) (h : writesO l d = false) : (a.put o.dst u).tmps[d]? = a.tmps[d]? := by
  induction l generalizing i with
  | nil => simp at hi
  | cons y r ih =>
    cases i with
    | zero =>
      have hyo : y = o := by simpa using hi
      subst hyo
      exact put_same h
    | succ i =>
      simp only [writesO, Bool.or_eq_false_iff] at h
      exact ih (by simpa using hi) h.2
theorem wpAnyN_weak {P : Program} {ops : Array Oper} {Q : Exit → Act → World → Prop} {S S' : World → Prop} {rs ac : List Nat} (hS : ∀ w, S' w → S w) : ∀ (f : Nat) (listed : Array Bool) (a : Act) (w : World),
    wpAnyN P ops Q S' rs ac f listed a w → wpAnyN P ops Q S rs ac f listed a w
  | 0, _, _, _, h => h
  | f + 1, _, _, _, h => ⟨h.1, fun i hi => wpOp_mono (fun a' w' h' => ⟨h'.1, fun q q' => hS _ (h'.2.1 q q'), wpAnyN_weak hS f _ a' w' h'.2.2⟩) (h.2 i hi)⟩
theorem drawOps_ok {P : Program} {an : Ana} (hA : an.Ok P) {n : Nat} {ops : Array Oper} {rs ac : List Nat} {Kn : St → World → Prop} (hsel : Region.noSelect ops = true) (a0 : Act) :
    ∀ (f : Nat) (S : World → Prop) (listed : Array Bool) (F : Fr) (tg : Nat) (M : List Nat) (w : World) (a : Act),
    drawOps an n ops rs ac Kn f S listed F tg M w → Good n F tg M a → Closed ops listed → (∀ i, memN i rs = true → listed.getD i true = false → S w) → Same (writesO ops.toList) a0 a →
    wpAnyN P ops (QN n Kn (writesO ops.toList) a0) S rs ac f listed a w
  | 0, S, listed, F, tg, M, w, a, h, hg, hc, hS, hs => by
    simp only [drawOps] at h
    split at h
    · rename_i hr
      exact ⟨hr, ⟨_, hg.next, h⟩, hs⟩
    · exact h.elim
  | f + 1, S, listed, F, tg, M, w, a, h, hg, hc, hS, hs => by
    simp only [drawOps] at h
    split at h
    · rename_i hr
      refine ⟨fun _ => ⟨⟨_, hg.next, h⟩, hs⟩, fun i hi => ?_⟩
      rw [hr] at hi; cases hi
    · rename_i i r hr
      split at h
      · rename_i j hj
        obtain ⟨hmem, hac, hfree⟩ := findT_ok hj
        rw [← hr] at hmem
        have hun := (mem_ready.1 hmem).1
        have key : ∀ S2 : World → Prop, (∀ i, memN i rs = true → listed.getD i true = false → S2 w) →
            takeOp an n ops S2 rs F tg M w j (fun F' M' w' => drawOps an n ops rs ac Kn f S2 (listed.setIfInBounds j true) F' tg M' w') →
            wpAnyN P ops (QN n Kn (writesO ops.toList) a0) S2 rs ac (f + 1) listed a w := by
          intro S2 hS2 h
          obtain ⟨oi, u, T, hoi, hy, hT, F', M', hg', hn⟩ := takeOp_ok hA h hg
          have hTw : T w := by
            rcases hT with hT | ⟨rfl, hm⟩
            · exact hT w
            · exact hS2 j hm hun
          refine wpAnyN_first hoi (Region.noSelect_spec hsel) (fun c a w q => q.elim) hT hac f listed a w (Region.free_spec hoi hfree) hc hmem hy hTw ?_
          refine drawOps_ok hA hsel a0 f S2 _ F' tg M' w _ hn hg' (hc.set hmem) (fun k hk hl => hS2 k hk ?_) (fun d hd => ?_)
          · by_cases hjk : j = k
            · subst hjk; exact hun
            · rw [getD_set_ne true hjk] at hl; exact hl
          · rw [put_same_mem (l := ops.toList) (i := j) (by simpa using hoi) hd]; exact hs d hd
        split at h
        · exact key S hS h
        · obtain ⟨S2, h1, h2, h3⟩ := h
          exact wpAnyN_weak h2 _ _ _ _ (key S2 (fun _ _ _ => h1) h3)
      · refine ⟨fun h0 => (by rw [h0] at hr; cases hr), fun j hj => ?_⟩
        have h1 := conjL_all h j (by rw [← hr]; exact hj)
        refine actOp_ok hA h1 hg (fun o F' M' w' u ho hg' hn hac hS' => ⟨fun q => (by rw [hac] at q; cases q), fun _ => hS', ?_⟩)
        refine drawOps_ok hA hsel a0 f S _ F' tg M' w' _ hn hg' (hc.set hj) (fun k hk hl => hS' ?_) (fun d hd => ?_)
        · have hjk : j ≠ k := by
            intro e
            subst e
            obtain ⟨hun, _⟩ := mem_ready.1 hj
            rcases Nat.lt_or_ge j listed.size with h' | h'
            · simp [h'] at hl
            · simp [Array.getElem?_eq_none h'] at hun
          rw [getD_set_ne true hjk] at hl
          exact needS_of hc hj hjk hl hk
        · rw [put_same_mem (l := ops.toList) (i := j) (by simpa using ho) hd]; exact hs d hd
/-- a region -/
def regOps (an : Ana) (isR isA : Oper → Bool) (n : Nat) (ops : Array Oper) (draw : Bool) (Kn : St → World → Prop) (F : Fr) (tg : Nat) (w : World) : Prop :=
  match draw with
  | false => seqOps an n ops Kn ops.toList F tg [] w
  | true => match Region.noSelect ops with
    | false => False
    | true => match idxs isR ops.toList 0 with
      | [] => ∀ w1, w1 = { w with drawn := w.drawn + 1 } → drawOps an n ops [] (idxs isA ops.toList 0) Kn ops.size (fun _ => True) (Array.replicate ops.size false) F tg [] w1
      | r :: rs => ∀ w1, w1 = { w with drawn := w.drawn + 1 } → ∃ S : World → Prop, S w1 ∧ drawOps an n ops (r :: rs) (idxs isA ops.toList 0) Kn ops.size S (Array.replicate ops.size false) F tg [] w1
theorem regOps_ok {P : Program} {an : Ana} (hA : an.Ok P) (hm : P.follows .mixedOrders = true) {isR isA : Oper → Bool} {n id : Nat} {ops : Array Oper} {draw : Bool} {Kn : St → World → Prop} {st : St} {w : World} {a : Act}
    (h : regOps an isR isA n ops draw Kn st.F st.tg w) (hs : OkS n st a) : (Code.region id ops draw).wp P (QN n Kn (writesO ops.toList) a) a w := by
  unfold regOps at h
  split at h
  · exact wp_region_list (seqOps_ok hA _ _ _ _ _ _ h hs.good)
  · split at h
    · exact h.elim
    · rename_i hsel
      have c0 : Closed ops (Array.replicate ops.size false) := by
        intro j oj _ hl
        rcases Nat.lt_or_ge j ops.size with h' | h'
        · simp [h'] at hl
        · simp [h'] at hl
      split at h
      · exact wp_region_any hm (wpAny_of_N _ _ _ _ (drawOps_ok hA hsel a _ _ _ _ _ _ _ _ (h _ rfl) hs.good c0 (fun _ _ _ => trivial) (fun _ _ => rfl)))
      · obtain ⟨S, hS, h⟩ := h _ rfl
        exact wp_region_any hm (wpAny_of_N _ _ _ _ (drawOps_ok hA hsel a _ _ _ _ _ _ _ _ h hs.good c0 (fun _ _ _ => hS) (fun _ _ => rfl)))
end Go.Proofs.Ytaneeadpjelomaa.CF
