/- The condition generator, part 1: kinds of values, what is known of a frame, guards. No project text. -/
import Derived.OrdersHeld
import Derived.Tactics
import Derived.KernelRfl
namespace Go.Proofs.Ytaneeadpjelomaa.CF
open Go

inductive Kd | i (k : IntKind) | b | s | p | sl | m | v | ag | a | ok (k : Kd)
structure Sl where
  A : Option Addr
  n : Nat
  c : Nat
abbrev Kd.T : Kd → Type
  | .i _ => Int | .b => Bool | .s => ByteArray | .p => Option Addr | .sl => Sl | .m => Option Nat | .v => Value | .ag => Array Value | .a => Addr | .ok k => k.T × Bool
def Kd.mk : (k : Kd) → k.T → Value
  | .i k, x => .int k x | .b, x => .bool x | .s, x => .string x | .p, x => .pointer x | .sl, x => .slice x.A x.n x.c
  | .m, x => .map x | .v, x => x | .ag, x => .agg x | .a, x => .pointer (some x) | .ok k, x => .tuple #[k.mk x.1, .bool x.2]
def Kd.dflt : (k : Kd) → k.T
  | .i _ => (0 : Int) | .b => false | .s => ⟨#[]⟩ | .p => none | .sl => ⟨none, 0, 0⟩ | .m => none | .v => .tuple #[] | .ag => #[] | .a => ⟨0, 0, none⟩ | .ok k => (k.dflt, false)
def Kd.un : (k : Kd) → Value → k.T
  | .i _, .int _ x => x | .i _, _ => (0 : Int)
  | .b, .bool x => x | .b, _ => false
  | .s, .string x => x | .s, _ => ⟨#[]⟩
  | .p, .pointer x => x | .p, _ => none
  | .sl, .slice A n c => ⟨A, n, c⟩ | .sl, _ => ⟨none, 0, 0⟩
  | .m, .map x => x | .m, _ => none
  | .v, x => x
  | .ag, .agg x => x | .ag, _ => #[]
  | .a, .pointer (some x) => x | .a, _ => ⟨0, 0, none⟩
  | .ok k, .tuple vs => match vs.toList with | [q, .bool t] => (k.un q, t) | _ => (k.dflt, false)
  | .ok k, _ => (k.dflt, false)
def eqK : IntKind → IntKind → Bool
  | .i8, .i8 | .i16, .i16 | .i32, .i32 | .i64, .i64 | .u8, .u8 | .u16, .u16 | .u32, .u32 | .u64, .u64 => true
  | _, _ => false
theorem eqK_eq {a b : IntKind} (h : eqK a b = true) : a = b := by cases a <;> cases b <;> first | rfl | cases h
def Kd.fit : Kd → Value → Bool
  | .i k, .int k' _ => eqK k k'
  | .b, .bool _ | .s, .string _ | .p, .pointer _ | .sl, .slice _ _ _ | .m, .map _ | .v, _ | .ag, .agg _ | .a, .pointer (some _) => true
  | .ok k, .tuple vs => match vs.toList with | [q, .bool _] => k.fit q | _ => false
  | _, _ => false
theorem mk_un : ∀ {k : Kd} {v : Value}, k.fit v = true → k.mk (k.un v) = v
  | .i k, v, h => by cases v <;> first | (cases h; done) | (have := eqK_eq h; subst this; rfl)
  | .v, v, h => rfl
  | .b, v, h => by cases v <;> first | rfl | (cases h; done)
  | .s, v, h => by cases v <;> first | rfl | (cases h; done)
  | .p, v, h => by cases v <;> first | rfl | (cases h; done)
  | .sl, v, h => by cases v <;> first | rfl | (cases h; done)
  | .m, v, h => by cases v <;> first | rfl | (cases h; done)
  | .ag, v, h => by cases v <;> first | rfl | (cases h; done)
  | .a, v, h => by
    cases v with
    | pointer p => cases p <;> first | rfl | (cases h; done)
    | _ => cases h
  | .ok k, v, h => by
    cases v with
    | tuple vs =>
      obtain ⟨l⟩ := vs
      match l, h with
      | [u, .bool b], h =>
        have := mk_un (k := k) (v := u) h
        show Value.tuple #[k.mk (k.un u), .bool b] = _
        rw [this]
    | _ => cases h
theorem Kd.mk_un {k : Kd} {w : Value} (h : k.fit w = true) : k.mk (k.un w) = w := CF.mk_un h
def kdOf : TypeDesc → Kd
  | .int k => .i k | .bool => .b | .string => .s | .pointer _ => .p | .slice _ => .sl | .map _ _ => .m
  | .struct _ | .array _ _ => .ag | _ => .v
def kd (P : Program) (t : TypeId) : Kd := match P.underlying t with | some d => kdOf d | none => .v

/-- what is known of a slot -/
inductive E | val (v : Value) | cnd (tag : Nat) (c : List (Nat × Bool)) (v : Value)
abbrev Fr := List (Nat × E)
def look : Fr → Nat → Option E
  | [], _ => none
  | (s, e) :: r, t => bif Nat.beq s t then some e else look r t
abbrev Gd := List (Nat × Bool)
def eqB : Bool → Bool → Bool | true, true | false, false => true | _, _ => false
theorem eqB_eq {a b : Bool} (h : eqB a b = true) : a = b := by cases a <;> cases b <;> first | rfl | cases h
def memG (x : Nat × Bool) : Gd → Bool
  | [] => false
  | y :: r => (Nat.beq x.1 y.1 && eqB x.2 y.2) || memG x r
def subG : Gd → Gd → Bool
  | [], _ => true
  | x :: r, C => memG x C && subG r C
theorem memG_mem {x : Nat × Bool} : ∀ {C : Gd}, memG x C = true → x ∈ C
  | [], h => by cases h
  | y :: r, h => by
    simp only [memG, Bool.or_eq_true, Bool.and_eq_true] at h
    rcases h with ⟨h1, h2⟩ | h
    · have h1' : x.1 = y.1 := Nat.eq_of_beq_eq_true h1
      have h2' := eqB_eq h2
      have : x = y := Prod.ext h1' h2'
      rw [this]; exact List.mem_cons_self
    · exact List.mem_cons_of_mem _ (memG_mem h)
theorem subG_sub : ∀ {c C : Gd}, subG c C = true → ∀ x ∈ c, x ∈ C
  | [], _, _, x, hx => by cases hx
  | y :: r, C, h, x, hx => by
    simp only [subG, Bool.and_eq_true] at h
    rcases List.mem_cons.1 hx with rfl | hx
    · exact memG_mem h.1
    · exact subG_sub h.2 x hx
def opv (F : Fr) (tg : Nat) (C : Gd) : Operand → Option Value
  | .tmp t => match look F t with
    | some (.val v) => some v
    | some (.cnd tg' c v) => bif Nat.beq tg tg' && subG c C then some v else none
    | none => none
  | .const v => some v
  | .global g => some (.pointer (some ⟨g, 0, none⟩))
  | .func f => some (.func (.func f) #[] #[])
def litB (w b : Bool) : Bool := match w with | true => b | false => !b
/-- the Bool that a guard hangs on, as it stands in the frame -/
def litG (F : Fr) (tg : Nat) (s : Nat) (w : Bool) (r : Gd) : Option Bool :=
  match look F s with
  | some (.val (.bool b)) => some (litB w b)
  | some (.cnd tg' c (.bool b)) => bif Nat.beq tg tg' && subG c r then some (litB w b) else none
  | _ => none
def gB (F : Fr) (tg : Nat) : Gd → Option Bool
  | [] => some true
  | (s, w) :: r => match r with
    | [] => litG F tg s w []
    | y :: r' => match litG F tg s w (y :: r'), gB F tg (y :: r') with
      | some a, some b => some (a && b)
      | _, _ => none
/-- the conditions under which an operation runs -/
def guardC (ops : Array Oper) (F : Fr) (tg : Nat) (o : Oper) : Option Gd :=
  match o.guard with
  | none => some []
  | some (j, w) => match (ops[j]?).bind (·.dst) with
    | none => none
    | some s => match look F s with
      | some (.val _) => some [(s, w)]
      | some (.cnd tg' c _) => bif Nat.beq tg tg' then some ((s, w) :: c) else none
      | none => none
def Holds (a : Act) (C : Gd) : Prop := ∀ x ∈ C, a.tmps.getD x.1 undef = .bool x.2
def EOk (tg : Nat) (a : Act) (t : Nat) : E → Prop
  | .val v => a.tmps[t]? = some v
  | .cnd tg' c v => tg' ≤ tg ∧ (tg' = tg → t < a.tmps.size ∧ (Holds a c → a.tmps.getD t undef = v) ∧ (¬ Holds a c → a.tmps.getD t undef = undef))
def Fits (F : Fr) (tg : Nat) (a : Act) : Prop := ∀ t e, look F t = some e → EOk tg a t e
theorem Fits.next {F : Fr} {tg : Nat} {a : Act} (h : Fits F tg a) : Fits F (tg + 1) a := by
  intro t e he
  have h1 := h t e he
  cases e with
  | val v => exact h1
  | cnd tg' c v => exact ⟨Nat.le_succ_of_le h1.1, fun hh => by have := h1.1; omega⟩
theorem look_cons {s : Nat} {e : E} {F : Fr} {t : Nat} : look ((s, e) :: F) t = if s = t then some e else look F t := by
  show (bif Nat.beq s t then some e else look F t) = _
  by_cases h : s = t
  · subst h; rw [if_pos rfl, Nat.beq_refl]; rfl
  · rw [if_neg h]
    have : Nat.beq s t = false := by
      cases hb : Nat.beq s t with
      | false => rfl
      | true => exact absurd (Nat.eq_of_beq_eq_true hb) h
    rw [this]; rfl
theorem opv_ok {F : Fr} {tg : Nat} {a : Act} {C : Gd} {x : Operand} {v : Value} (h : Fits F tg a) (hC : Holds a C) (hv : opv F tg C x = some v) : a.eval x = v := by
  cases x with
  | tmp t =>
    simp only [opv] at hv
    split at hv
    · rename_i v' hl
      obtain rfl := Option.some.inj hv
      have := h t _ hl
      simp only [EOk] at this
      show a.tmps.getD t undef = _
      simp [Array.getD_eq_getD_getElem?, this]
    · rename_i tg' c v' hl
      cases hb : Nat.beq tg tg' && subG c C with
      | false => rw [hb] at hv; cases hv
      | true =>
        rw [hb] at hv
        obtain rfl := Option.some.inj hv
        simp only [Bool.and_eq_true] at hb
        have htg : tg = tg' := Nat.eq_of_beq_eq_true hb.1
        have := (h t _ hl).2 htg.symm
        exact this.2.1 (fun y hy => hC y (subG_sub hb.2 y hy))
    · cases hv
  | const w => exact Option.some.inj hv
  | global g => exact Option.some.inj hv
  | func f => exact Option.some.inj hv
theorem litG_ok {F : Fr} {tg s : Nat} {w g : Bool} {r : Gd} {a : Act} (h : Fits F tg a) (hg : litG F tg s w r = some g) (hr : Holds a r) :
    a.tmps.getD s undef = .bool w ↔ g = true := by
  have key : ∀ b : Bool, a.tmps.getD s undef = .bool b → (a.tmps.getD s undef = .bool w ↔ litB w b = true) := by
    intro b hb
    rw [hb]
    cases b <;> cases w <;> simp [litB]
  unfold litG at hg
  split at hg
  · rename_i b hl
    obtain rfl := Option.some.inj hg
    refine key b ?_
    have := h s _ hl
    simp only [EOk] at this
    simp [Array.getD_eq_getD_getElem?, this]
  · rename_i tg' c b hl
    cases hb : Nat.beq tg tg' && subG c r with
    | false => rw [hb] at hg; cases hg
    | true =>
      rw [hb] at hg
      obtain rfl := Option.some.inj hg
      simp only [Bool.and_eq_true] at hb
      have htg : tg = tg' := Nat.eq_of_beq_eq_true hb.1
      exact key b (((h s _ hl).2 htg.symm).2.1 (fun y hy => hr y (subG_sub hb.2 y hy)))
  · cases hg
theorem gB_ok {F : Fr} {tg : Nat} {a : Act} (h : Fits F tg a) : ∀ {C : Gd} {g : Bool}, gB F tg C = some g → (Holds a C ↔ g = true)
  | [], g, hg => by
    obtain rfl := Option.some.inj hg
    exact ⟨fun _ => rfl, fun _ x hx => by cases hx⟩
  | [(s, w)], g, hg => by
    have := litG_ok (r := []) h hg (fun x hx => by cases hx)
    rw [← this]
    exact ⟨fun hh => hh (s, w) List.mem_cons_self, fun hh x hx => by rw [List.mem_singleton.1 hx]; exact hh⟩
  | (s, w) :: y :: r, g, hg => by
    simp only [gB] at hg
    split at hg
    · rename_i a' b' h1 h2
      obtain rfl := Option.some.inj hg
      have ih := gB_ok h h2
      rw [Bool.and_eq_true]
      constructor
      · intro hh
        have ht : Holds a (y :: r) := fun x hx => hh x (List.mem_cons_of_mem _ hx)
        exact ⟨(litG_ok h h1 ht).1 (hh (s, w) List.mem_cons_self), ih.1 ht⟩
      · intro ⟨h3, h4⟩
        have ht := ih.2 h4
        intro x hx
        rcases List.mem_cons.1 hx with rfl | hx
        · exact (litG_ok h h1 ht).2 h3
        · exact ht x hx
    · cases hg
theorem yielded_eq {ops : Array Oper} {a : Act} {j s : Nat} (hs : (ops[j]?).bind (·.dst) = some s) (w : Bool) :
    (yielded ops a.tmps j == some w) = true ↔ a.tmps.getD s undef = .bool w := by
  unfold yielded
  rw [hs]
  simp only [Option.bind_some]
  cases ht : a.tmps[s]? with
  | none => simp [Array.getD_eq_getD_getElem?, ht, undef]
  | some v => cases v <;> simp [Array.getD_eq_getD_getElem?, ht]
theorem guardC_ok {ops : Array Oper} {F : Fr} {tg : Nat} {o : Oper} {C : Gd} {a : Act} (h : Fits F tg a) (hc : guardC ops F tg o = some C) :
    Region.wanted o (yielded ops a.tmps) = true ↔ Holds a C := by
  unfold guardC at hc
  unfold Region.wanted
  cases hg : o.guard with
  | none =>
    rw [hg] at hc
    obtain rfl := Option.some.inj hc
    exact ⟨fun _ x hx => (by cases hx), fun _ => rfl⟩
  | some jw =>
    obtain ⟨j, w⟩ := jw
    rw [hg] at hc
    simp only at hc ⊢
    split at hc
    · cases hc
    · rename_i s hs
      rw [yielded_eq hs w]
      split at hc
      · obtain rfl := Option.some.inj hc
        exact ⟨fun hh x hx => (by rw [List.mem_singleton.1 hx]; exact hh), fun hh => hh (s, w) List.mem_cons_self⟩
      · rename_i tg' c v hl
        cases hb : Nat.beq tg tg' with
        | false => rw [hb] at hc; cases hc
        | true =>
          rw [hb] at hc
          obtain rfl := Option.some.inj hc
          have htg : tg = tg' := Nat.eq_of_beq_eq_true hb
          have he := (h s _ hl).2 htg.symm
          constructor
          · intro hh x hx
            rcases List.mem_cons.1 hx with rfl | hx
            · exact hh
            · by_cases hcc : Holds a c
              · exact hcc x hx
              · rw [he.2.2 hcc] at hh; cases hh
          · intro hh; exact hh (s, w) List.mem_cons_self
      · cases hc
end Go.Proofs.Ytaneeadpjelomaa.CF
