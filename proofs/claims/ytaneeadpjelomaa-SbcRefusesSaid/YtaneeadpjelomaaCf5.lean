import Derived.Test.YtaneeadpjelomaaCf4
/- The condition generator, part 5: code, loops, places where ways meet, a function's body. -/
namespace Go.Proofs.Ytaneeadpjelomaa.CF
open Go

abbrev Fn' : List Kd → Type → Type
  | [], τ => τ
  | k :: ks, τ => k.T → Fn' ks τ
def cur {τ : Type} : (ks : List Kd) → (List Value → τ) → Fn' ks τ
  | [], f => f []
  | k :: ks, f => fun x => cur ks (fun vs => f (k.mk x :: vs))
def app {τ : Type} : (ks : List Kd) → Fn' ks τ → List Value → τ
  | [], g, _ => g
  | k :: ks, g, v :: vs => app ks (g (k.un v)) vs
  | k :: ks, g, [] => app ks (g (dflt k)) []
def allK : (ks : List Kd) → (List Value → Prop) → Prop
  | [], f => f []
  | k :: ks, f => ∀ x : k.T, allK ks (fun vs => f (k.mk x :: vs))
def exK : (ks : List Kd) → (List Value → Prop) → Prop
  | [], f => f []
  | k :: ks, f => ∃ x : k.T, exK ks (fun vs => f (k.mk x :: vs))
def FitL : List Kd → List Value → Prop
  | [], [] => True
  | k :: ks, v :: vs => k.fit v = true ∧ FitL ks vs
  | _, _ => False
theorem un_mk : ∀ (k : Kd) (x : k.T), k.un (k.mk x) = x
  | .ok k, x => by show (k.un (k.mk x.1), x.2) = x; rw [un_mk k]
  | .i _, _ | .b, _ | .s, _ | .p, _ | .sl, _ | .m, _ | .v, _ | .ag, _ | .a, _ => rfl
theorem fit_mk : ∀ (k : Kd) (x : k.T), k.fit (k.mk x) = true
  | .ok k, x => fit_mk k x.1
  | .i k, _ => by cases k <;> rfl
  | .b, _ | .s, _ | .p, _ | .sl, _ | .m, _ | .v, _ | .ag, _ | .a, _ => rfl
theorem allK_fit : ∀ {ks : List Kd} {f : List Value → Prop} {vs : List Value}, allK ks f → FitL ks vs → f vs
  | [], f, [], h, _ => h
  | k :: ks, f, v :: vs, h, hf => by
    have := allK_fit (h (k.un v)) hf.2
    rwa [Kd.mk_un hf.1] at this
  | [], _, _ :: _, _, hf => hf.elim
  | _ :: _, _, [], _, hf => hf.elim
theorem app_cur {τ : Type} : ∀ {ks : List Kd} {f : List Value → τ} {vs : List Value}, FitL ks vs → app ks (cur ks f) vs = f vs
  | [], f, [], _ => rfl
  | k :: ks, f, v :: vs, hf => by
    show app ks (cur ks _) vs = _
    rw [app_cur hf.2, Kd.mk_un hf.1]
  | [], _, _ :: _, hf => hf.elim
  | _ :: _, _, [], hf => hf.elim
def letX {α : Type} (j : α) (body : α → Prop) : Prop := body j
structure Hint where
  set : List (Nat × Kd)
  keep : List Nat
def kinds : List (Nat × Kd) → List Kd
  | [] => []
  | x :: r => x.2 :: kinds r
def getSlots (F : Fr) : List (Nat × Kd) → Option (List Value)
  | [] => some []
  | x :: r => match look F x.1 with
    | some (.val v) => match x.2.fit v with
      | true => match getSlots F r with
        | some vs => some (v :: vs)
        | none => none
      | false => none
    | _ => none
def zipE : List (Nat × Kd) → List Value → Fr → Fr
  | x :: r, v :: vs, F => (x.1, .val v) :: zipE r vs F
  | _, _, F => F
def keepE (F : Fr) : List Nat → Fr
  | [] => []
  | s :: r => match look F s with
    | some (.val v) => (s, .val v) :: keepE F r
    | _ => keepE F r
def writes : Code → Nat → Bool
  | .region _ ops _, d => writesO ops.toList d
  | .seq a b, d => writes a d || writes b d
  | .cond _ a b, d => writes a d || writes b d
  | .block _ c, d => writes c d
  | .loop c, d => writes c d
  | _, _ => false
def okKeep (c : Code) : List Nat → Bool
  | [] => true
  | s :: r => !writes c s && okKeep c r
def firstReg : Code → Option Nat
  | .region id _ _ => some id
  | .seq a b => match firstReg a with | some r => some r | none => firstReg b
  | .cond _ a b => match firstReg a with | some r => some r | none => firstReg b
  | .block _ c => firstReg c
  | .loop c => firstReg c
  | _ => none
abbrev Hints := List (Nat × Hint)
def hintAt (k : Nat) : Hints → Option Hint
  | [] => none
  | (i, h) :: r => bif Nat.beq i k then some h else hintAt k r
def hintReg (H : Hints) (c : Code) (j : Nat) : Option Hint := match firstReg c with | some r => hintAt (3 * r + j) H | none => none
def Br (b : Bool) (A B : Prop) : Prop := (b = true → A) ∧ (b = false → B)
def withJoin (h : Option Hint) (c : Code) (F : Fr) (Kn : St → World → Prop) (body : (St → World → Prop) → Prop) : Prop :=
  match h with
  | none => body Kn
  | some h => match okKeep c h.keep with
    | false => False
    | true => letX (cur (kinds h.set) fun vs w' => Kn ⟨zipE h.set vs (keepE F h.keep), 0⟩ w') fun J =>
        body fun st' w' => match getSlots st'.F h.set with
          | some vs => app (kinds h.set) J vs w'
          | none => False
structure Gen where
  an : Ana
  isR : Oper → Bool
  isA : Oper → Bool
def vcC (G : Gen) (n : Nat) (H : Hints) : Code → St → World → (St → World → Prop) → (Nat → St → World → Prop) → (St → World → Prop) → Prop
  | .skip, st, w, Kn, _, _ => Kn st w
  | .label _, st, w, Kn, _, _ => Kn st w
  | .region _ ops draw, st, w, Kn, _, _ => regOps G.an G.isR G.isA n ops draw Kn st.F st.tg w
  | .seq a b, st, w, Kn, Kx, Kr => vcC G n H a st w (fun st' w' => vcC G n H b st' w' Kn Kx Kr) Kx Kr
  | .cond c a b, st, w, Kn, Kx, Kr => match opv st.F st.tg [] c with
    | some (.bool t) => withJoin (hintReg H (.cond c a b) 1) (.cond c a b) st.F Kn fun Kn' => Br t (vcC G n H a st w Kn' Kx Kr) (vcC G n H b st w Kn' Kx Kr)
    | _ => False
  | .block id c, st, w, Kn, Kx, Kr => withJoin (hintAt (3 * id + 2) H) c st.F Kn fun Kn' =>
      vcC G n H c st w Kn' (fun id' st' w' => match Nat.beq id' id with | true => Kn' st' w' | false => Kx id' st' w') Kr
  | .loop c, st, w, _, Kx, Kr => match hintReg H c 0 with
    | none => False
    | some h => match okKeep c h.keep with
      | false => False
      | true => match getSlots st.F h.set with
        | none => False
        | some vs0 => ∃ (I : Fn' (kinds h.set) (World → Prop)) (μ : Fn' (kinds h.set) (World → Nat)), app (kinds h.set) I vs0 w ∧
            allK (kinds h.set) fun vs => ∀ w1, app (kinds h.set) I vs w1 →
              vcC G n H c ⟨zipE h.set vs (keepE st.F h.keep), 0⟩ w1 (fun st' w' => match getSlots st'.F h.set with
                | some vs' => app (kinds h.set) I vs' w' ∧ app (kinds h.set) μ vs' w' < app (kinds h.set) μ vs w1
                | none => False) Kx Kr
  | .exit id, st, w, _, Kx, _ => Kx id st w
  | .ret, st, w, _, _, Kr => Kr st w
  | _, _, _, _, _, _ => False
def QC (n : Nat) (Kn : St → World → Prop) (Kx : Nat → St → World → Prop) (Kr : St → World → Prop) (wr : Nat → Bool) (a0 : Act) : Exit → Act → World → Prop
  | .normal, a, w => (∃ st, OkS n st a ∧ Kn st w) ∧ Same wr a0 a
  | .exit id, a, w => (∃ st, OkS n st a ∧ Kx id st w) ∧ Same wr a0 a
  | .ret, a, w => ∃ st, OkS n st a ∧ Kr st w
  | _, _, _ => False
theorem getSlots_ok {F : Fr} {tg : Nat} {a : Act} (h : Fits F tg a) : ∀ {sl : List (Nat × Kd)} {vs : List Value}, getSlots F sl = some vs →
    FitL (kinds sl) vs ∧ vs = sl.map fun x => a.tmps.getD x.1 undef
  | [], vs, hg => by obtain rfl := Option.some.inj hg; exact ⟨trivial, rfl⟩
  | x :: r, vs, hg => by
    simp only [getSlots] at hg
    split at hg
    · rename_i v hl
      split at hg
      · rename_i hf
        split at hg
        · rename_i vs' hr
          obtain rfl := Option.some.inj hg
          have ih := getSlots_ok h hr
          have h1 := h _ _ hl
          simp only [EOk] at h1
          refine ⟨⟨hf, ih.1⟩, ?_⟩
          rw [List.map_cons, ← ih.2]
          simp [Array.getD_eq_getD_getElem?, h1]
        · cases hg
      · cases hg
    · cases hg
theorem getSlots_at {F : Fr} {tg : Nat} {a : Act} (h : Fits F tg a) : ∀ {sl : List (Nat × Kd)} {vs : List Value}, getSlots F sl = some vs → ∀ x ∈ sl, a.tmps[x.1]? = some (a.tmps.getD x.1 undef)
  | [], vs, hg, x, hx => by cases hx
  | y :: r, vs, hg, x, hx => by
    simp only [getSlots] at hg
    split at hg
    · rename_i v hl
      split at hg
      · split at hg
        · rename_i vs' hr
          rcases List.mem_cons.1 hx with rfl | hx
          · have h1 := h _ _ hl
            simp only [EOk] at h1
            simp [Array.getD_eq_getD_getElem?, h1]
          · exact getSlots_at h hr x hx
        · cases hg
      · cases hg
    · cases hg
theorem okKeep_ok {c : Code} : ∀ {l : List Nat}, okKeep c l = true → ∀ s ∈ l, writes c s = false
  | [], _, s, hs => by cases hs
  | x :: r, h, s, hs => by
    simp only [okKeep, Bool.and_eq_true, Bool.not_eq_true'] at h
    rcases List.mem_cons.1 hs with rfl | hs
    · exact h.1
    · exact okKeep_ok h.2 s hs
theorem keepE_look {F : Fr} : ∀ {l : List Nat} {t : Nat} {e : E}, look (keepE F l) t = some e → t ∈ l ∧ look F t = some e ∧ ∃ v, e = .val v
  | [], t, e, h => by cases h
  | s :: r, t, e, h => by
    simp only [keepE] at h
    split at h
    · rename_i v hl
      rw [look_cons] at h
      by_cases hst : s = t
      · subst hst
        rw [if_pos rfl] at h
        obtain rfl := Option.some.inj h
        exact ⟨List.mem_cons_self, hl, v, rfl⟩
      · rw [if_neg hst] at h
        obtain ⟨h1, h2⟩ := keepE_look h
        exact ⟨List.mem_cons_of_mem _ h1, h2⟩
    · obtain ⟨h1, h2⟩ := keepE_look h
      exact ⟨List.mem_cons_of_mem _ h1, h2⟩
/-- the frame where ways meet -/
theorem meet_ok {n : Nat} {F : Fr} {tg : Nat} {c : Code} {h : Hint} {a a' : Act} {st' : St} {vs : List Value} (hs : Fits F tg a) (hk : okKeep c h.keep = true) (hsame : Same (writes c) a a')
    (ho : OkS n st' a') (hg : getSlots st'.F h.set = some vs) : OkS n ⟨zipE h.set vs (keepE F h.keep), 0⟩ a' := by
  have h1 := getSlots_ok ho.fits hg
  have h2 := getSlots_at ho.fits hg
  have look' : ∀ (sl : List (Nat × Kd)) (vs : List Value), (vs = sl.map fun x => a'.tmps.getD x.1 undef) → (∀ x ∈ sl, a'.tmps[x.1]? = some (a'.tmps.getD x.1 undef)) →
      ∀ t e, look (zipE sl vs (keepE F h.keep)) t = some e → ∃ v, e = .val v ∧ a'.tmps[t]? = some v := by
    intro sl
    induction sl with
    | nil =>
      intro vs hvs _ t e hl
      subst hvs
      obtain ⟨hm, hl, v, rfl⟩ := keepE_look hl
      have := hs t _ hl
      simp only [EOk] at this
      exact ⟨v, rfl, by rw [hsame t (okKeep_ok hk t hm)]; exact this⟩
    | cons x r ih =>
      intro vs hvs hat t e hl
      subst hvs
      simp only [List.map_cons, zipE] at hl
      rw [look_cons] at hl
      by_cases hxt : x.1 = t
      · rw [if_pos hxt] at hl
        obtain rfl := Option.some.inj hl
        subst hxt
        exact ⟨_, rfl, hat x List.mem_cons_self⟩
      · rw [if_neg hxt] at hl
        exact ih _ rfl (fun y hy => hat y (List.mem_cons_of_mem _ hy)) t e hl
  have L := look' h.set vs h1.2 h2
  refine ⟨ho.size, ho.defers, fun t e hl => ?_, fun t c' v hl => ?_⟩
  · obtain ⟨v, rfl, hv⟩ := L t e hl
    exact hv
  · obtain ⟨v', he, _⟩ := L t _ hl
    cases he
theorem QC_mono {n : Nat} {Kn Kn' : St → World → Prop} {Kx Kx' : Nat → St → World → Prop} {Kr : St → World → Prop} {wr wr' : Nat → Bool} {a0 a1 : Act} {e : Exit} {a : Act} {w : World}
    (h : QC n Kn Kx Kr wr a1 e a w) (hs : ∀ a', Same wr a1 a' → Same wr' a0 a') (hn : ∀ st a w, OkS n st a → Same wr' a0 a → Kn st w → ∃ st', OkS n st' a ∧ Kn' st' w)
    (hx : ∀ id st a w, OkS n st a → Same wr' a0 a → Kx id st w → ∃ st', OkS n st' a ∧ Kx' id st' w) : QC n Kn' Kx' Kr wr' a0 e a w := by
  cases e with
  | normal => obtain ⟨⟨st, h1, h2⟩, h3⟩ := h; exact ⟨hn st a w h1 (hs a h3) h2, hs a h3⟩
  | exit id => obtain ⟨⟨st, h1, h2⟩, h3⟩ := h; exact ⟨hx id st a w h1 (hs a h3) h2, hs a h3⟩
  | ret => exact h
  | goto l => exact h
  | panic c => exact h
  | outgrown => exact h
theorem Same.refl (wr : Nat → Bool) (a : Act) : Same wr a a := fun _ _ => rfl
/-- behind a place where ways meet it goes on as it would have without one -/
theorem withJoin_ok {n : Nat} {h : Option Hint} {c : Code} {F : Fr} {tg : Nat} {Kn : St → World → Prop} {body : (St → World → Prop) → Prop} {a : Act} (hs : Fits F tg a)
    (H : withJoin h c F Kn body) : ∃ Kn', body Kn' ∧ ∀ st' a' w', OkS n st' a' → Same (writes c) a a' → Kn' st' w' → ∃ st, OkS n st a' ∧ Kn st w' := by
  unfold withJoin at H
  split at H
  · exact ⟨Kn, H, fun st' a' w' h1 _ h2 => ⟨st', h1, h2⟩⟩
  · rename_i h
    split at H
    · exact H.elim
    · rename_i hk
      refine ⟨_, H, fun st' a' w' h1 hsame h2 => ?_⟩
      split at h2
      · rename_i vs hg
        rw [app_cur (getSlots_ok h1.fits hg).1] at h2
        exact ⟨_, meet_ok hs hk hsame h1 hg, h2⟩
      · exact h2.elim
theorem vcC_ok {P : Program} {G : Gen} (hA : G.an.Ok P) (hm : P.follows .mixedOrders = true) {n : Nat} {H : Hints} : ∀ (c : Code) (st : St) (w : World) (Kn : St → World → Prop) (Kx : Nat → St → World → Prop) (Kr : St → World → Prop) (a : Act),
    vcC G n H c st w Kn Kx Kr → OkS n st a → c.wp P (QC n Kn Kx Kr (writes c) a) a w := by
  intro c
  induction c with
  | skip => intro st w Kn Kx Kr a h hs; exact wp_skip ⟨⟨st, hs, h⟩, Same.refl _ _⟩
  | label l => intro st w Kn Kx Kr a h hs; exact wp_label ⟨⟨st, hs, h⟩, Same.refl _ _⟩
  | exit id => intro st w Kn Kx Kr a h hs; exact wp_exit ⟨⟨st, hs, h⟩, Same.refl _ _⟩
  | ret => intro st w Kn Kx Kr a h hs; exact wp_ret ⟨st, hs, h⟩
  | goto l => intro st w Kn Kx Kr a h hs; exact h.elim
  | refuse y => intro st w Kn Kx Kr a h hs; exact h.elim
  | scope c _ => intro st w Kn Kx Kr a h hs; exact h.elim
  | rangeFunc f ps x y _ _ => intro st w Kn Kx Kr a h hs; exact h.elim
  | region id ops draw =>
    intro st w Kn Kx Kr a h hs
    refine Go.wp_mono (regOps_ok hA hm (id := id) h hs) fun e a' w' q => ?_
    cases e <;> first | exact q | exact q.elim
  | seq x y ihx ihy =>
    intro st w Kn Kx Kr a h hs
    refine wp_seq (Go.wp_mono (ihx st w _ Kx Kr a h hs) fun e a1 w1 q => ?_)
    have sx : ∀ a', Same (writes x) a a' → Same (writes (.seq x y)) a a' := fun a' hh d hd => hh d (by simp only [writes, Bool.or_eq_false_iff] at hd; exact hd.1)
    cases e with
    | normal =>
      obtain ⟨⟨st1, h1, h2⟩, h3⟩ := q
      refine Go.wp_mono (ihy st1 w1 Kn Kx Kr a1 h2 h1) fun e a2 w2 q2 => ?_
      refine QC_mono q2 (fun a' hh d hd => ?_) (fun st a w h _ hk => ⟨st, h, hk⟩) (fun id st a w h _ hk => ⟨st, h, hk⟩)
      simp only [writes, Bool.or_eq_false_iff] at hd
      rw [hh d hd.2, h3 d hd.1]
    | exit id => exact ⟨q.1, sx _ q.2⟩
    | ret => exact q
    | goto l => exact q.elim
    | panic c => exact q.elim
    | outgrown => exact q.elim
  | cond c x y ihx ihy =>
    intro st w Kn Kx Kr a h hs
    simp only [vcC] at h
    split at h
    · rename_i t hc
      have hev := opv_ok hs.fits (C := []) (fun x hx => (by cases hx)) hc
      obtain ⟨Kn', hb, hj⟩ := withJoin_ok (n := n) (a := a) (F := st.F) (tg := st.tg) hs.fits h
      refine wp_cond_split hev (fun ht => ?_) (fun ht => ?_)
      · refine Go.wp_mono (ihx st w Kn' Kx Kr a (hb.1 ht) hs) fun e a' w' q => ?_
        exact QC_mono q (fun a' hh d hd => hh d (by simp only [writes, Bool.or_eq_false_iff] at hd; exact hd.1)) (fun st' a' w' h1 h2 h3 => hj st' a' w' h1 h2 h3) (fun id st a w h _ hk => ⟨st, h, hk⟩)
      · refine Go.wp_mono (ihy st w Kn' Kx Kr a (hb.2 ht) hs) fun e a' w' q => ?_
        exact QC_mono q (fun a' hh d hd => hh d (by simp only [writes, Bool.or_eq_false_iff] at hd; exact hd.2)) (fun st' a' w' h1 h2 h3 => hj st' a' w' h1 h2 h3) (fun id st a w h _ hk => ⟨st, h, hk⟩)
    · exact h.elim
  | block id c ih =>
    intro st w Kn Kx Kr a h hs
    simp only [vcC] at h
    obtain ⟨Kn', hb, hj⟩ := withJoin_ok (n := n) (a := a) (F := st.F) (tg := st.tg) hs.fits h
    refine wp_block (Go.wp_mono (ih st w Kn' _ Kr a hb hs) fun e a' w' q => ?_)
    cases e with
    | normal => obtain ⟨⟨st1, h1, h2⟩, h3⟩ := q; exact ⟨hj st1 a' w' h1 h3 h2, h3⟩
    | exit id' =>
      obtain ⟨⟨st1, h1, h2⟩, h3⟩ := q
      simp only [Exit.inBlock]
      split at h2
      · rename_i he
        rw [if_pos (Nat.eq_of_beq_eq_true he)]
        exact ⟨hj st1 a' w' h1 h3 h2, h3⟩
      · rename_i he
        rw [if_neg (fun e => by subst e; rw [Nat.beq_refl] at he; cases he)]
        exact ⟨⟨st1, h1, h2⟩, h3⟩
    | ret => exact q
    | goto l => exact q.elim
    | panic c => exact q.elim
    | outgrown => exact q.elim
  | loop c ih =>
    intro st w Kn Kx Kr a h hs
    simp only [vcC] at h
    split at h
    · exact h.elim
    rename_i hh _
    split at h
    · exact h.elim
    rename_i hk
    split at h
    · exact h.elim
    rename_i vs0 hg0
    obtain ⟨I, μ, hI, hr⟩ := h
    refine wp_loop (fun a' w' => Same (writes c) a a' ∧ (∃ st', OkS n st' a' ∧ getSlots st'.F hh.set = some (hh.set.map fun x => a'.tmps.getD x.1 undef)) ∧ app (kinds hh.set) I (hh.set.map fun x => a'.tmps.getD x.1 undef) w')
      (fun a' w' => app (kinds hh.set) μ (hh.set.map fun x => a'.tmps.getD x.1 undef) w') ?_ ?_
    · refine ⟨Same.refl _ _, ⟨st, hs, ?_⟩, ?_⟩
      · rw [hg0, ← (getSlots_ok hs.fits hg0).2]
      · rw [← (getSlots_ok hs.fits hg0).2]; exact hI
    · intro a1 w1 ⟨hs1, ⟨st1, h1, hg1⟩, hI1⟩
      have hf := (getSlots_ok h1.fits hg1).1
      have hbody := allK_fit hr hf w1 hI1
      have hok := meet_ok (h := hh) hs.fits hk hs1 h1 hg1
      refine Go.wp_mono (ih _ w1 _ Kx Kr a1 hbody hok) fun e a2 w2 q => ?_
      cases e with
      | normal =>
        obtain ⟨⟨st2, h2, h3⟩, h4⟩ := q
        split at h3
        · rename_i vs' hg2
          have e2 := (getSlots_ok h2.fits hg2).2
          rw [e2] at h3
          exact ⟨⟨fun d hd => by rw [h4 d hd, hs1 d hd], ⟨st2, h2, by rw [hg2, e2]⟩, h3.1⟩, h3.2⟩
        · exact h3.elim
      | exit id => exact ⟨q.1, fun d hd => by rw [q.2 d hd, hs1 d hd]⟩
      | ret => exact q
      | goto l => exact q.elim
      | panic c => exact q.elim
      | outgrown => exact q.elim
/-- a function's results as one value -/
def pack : List Value → Value
  | [] => .tuple #[]
  | [v] => v
  | v :: u :: r => .tuple (v :: u :: r).toArray
/-- what a function's end comes to -/
def endR (P : Program) : List ResultVar → List Kd → St → World → (List Value → Prop) → Prop
  | [], [], _, _, k => k []
  | .tmp t :: r, q :: ks, st, w, k => match look st.F t with
    | some (.val v) => match q.fit v with
      | true => endR P r ks st w (fun vs => k (v :: vs))
      | false => False
    | _ => False
  | .cell s t :: r, q :: ks, st, w, k => match look st.F s with
    | some (.val (.pointer (some a))) => ∃ x : q.T, (loadVar t a).run P w = .ok (q.mk x) w ∧ endR P r ks st w (fun vs => k (q.mk x :: vs))
    | _ => False
  | _, _, _, _, _ => False
def endF (P : Program) (rv : List ResultVar) (ks : List Kd) (R : Fn' ks (World → Prop)) (st : St) (w : World) : Prop :=
  endR P rv ks st w fun vs => app ks R vs w
def argsF : List Value → Nat → Fr
  | [], _ => []
  | v :: r, i => (i, .val v) :: argsF r (i + 1)
def vcF (P : Program) (G : Gen) (fn : Func) (H : Hints) (ks : List Kd) (args : List Value) (w : World) (R : Fn' ks (World → Prop)) : Prop :=
  match fn.body with
  | none => False
  | some c => match Nat.ble args.length fn.ntmps with
    | false => False
    | true => vcC G fn.ntmps H c ⟨argsF args 0, 0⟩ w (endF P fn.results.toList ks R) (fun _ _ _ => False) (endF P fn.results.toList ks R)
/-- what a call of results of these kinds comes to -/
def CallK (P : Program) (f : FuncId) (args : Array Value) (w : World) (ks : List Kd) (R : Fn' ks (World → Prop)) : Prop :=
  Calls P f args w fun e w' => exK ks fun vs => e = .returned (pack vs) ∧ app ks R vs w'
theorem exK_of : ∀ {ks : List Kd} {f : List Value → Prop} {vs : List Value}, FitL ks vs → f vs → exK ks f
  | [], f, [], _, h => h
  | k :: ks, f, v :: vs, hf, h => ⟨k.un v, exK_of hf.2 (by rw [Kd.mk_un hf.1]; exact h)⟩
  | [], _, _ :: _, hf, _ => hf.elim
  | _ :: _, _, [], hf, _ => hf.elim
theorem getD_val {F : Fr} {tg : Nat} {a : Act} (h : Fits F tg a) {t : Nat} {v : Value} (hl : look F t = some (.val v)) : a.tmps.getD t undef = v := by
  have := h _ _ hl
  simp only [EOk] at this
  simp [Array.getD_eq_getD_getElem?, this]
theorem endR_ok {P : Program} {n : Nat} {st : St} {a : Act} {w : World} (ho : OkS n st a) (g : ResultVar → Sem Value) (hg : ∀ t, g (.tmp t) = pure (a.tmps.getD t undef))
    (hc : ∀ s t, g (.cell s t) = (do loadVar t (← asAddr (a.tmps.getD s undef)))) : ∀ {rv : List ResultVar} {ks : List Kd} {k : List Value → Prop}, endR P rv ks st w k →
    ∃ vs, (rv.mapM g).run P w = .ok vs w ∧ FitL ks vs ∧ k vs
  | [], [], k, h => ⟨[], rfl, trivial, h⟩
  | .tmp t :: r, q :: ks, k, h => by
    simp only [endR] at h
    split at h
    · rename_i v hl
      split at h
      · rename_i hf
        obtain ⟨vs, h1, h2, h3⟩ := endR_ok ho g hg hc h
        refine ⟨v :: vs, ?_, ⟨hf, h2⟩, h3⟩
        rw [List.mapM_cons, hg, getD_val ho.fits hl]
        simp [h1]
      · exact h.elim
    · exact h.elim
  | .cell s t :: r, q :: ks, k, h => by
    simp only [endR] at h
    split at h
    · rename_i ad hl
      obtain ⟨x, hx, h⟩ := h
      obtain ⟨vs, h1, h2, h3⟩ := endR_ok ho g hg hc h
      refine ⟨q.mk x :: vs, ?_, ⟨fit_mk q x, h2⟩, h3⟩
      rw [List.mapM_cons, hc, getD_val ho.fits hl]
      simp [asAddr, hx, h1]
    · exact h.elim
  | [], _ :: _, _, h => h.elim
  | .tmp _ :: _, [], _, h => h.elim
  | .cell _ _ :: _, [], _, h => h.elim
theorem results_run {P : Program} {fn : Func} {n : Nat} {st : St} {a : Act} {w : World} {ks : List Kd} {k : List Value → Prop} (ho : OkS n st a) (h : endR P fn.results.toList ks st w k) :
    ∃ vs, (results fn a.tmps).run P w = .ok (pack vs) w ∧ FitL ks vs ∧ k vs := by
  have key : ∀ g : ResultVar → Sem Value, (∀ t, g (.tmp t) = pure (a.tmps.getD t undef)) → (∀ s t, g (.cell s t) = (do loadVar t (← asAddr (a.tmps.getD s undef)))) →
      ∃ vs, (do let vs ← fn.results.mapM g; pure (if h : vs.size = 1 then vs[0] else .tuple vs) : Sem Value).run P w = .ok (pack vs) w ∧ FitL ks vs ∧ k vs := by
    intro g hg hc
    obtain ⟨vs, h1, h2, h3⟩ := endR_ok (P := P) ho g hg hc h
    refine ⟨vs, ?_, h2, h3⟩
    rw [Sem.run_bind, Array.mapM_eq_mapM_toList, Sem.run_map, h1]
    simp only [Result.andThen_ok, Sem.run_pure]
    congr 1
    match vs with
    | [] => rfl
    | [x] => rfl
    | x :: y :: r =>
      rw [dif_neg (by simp)]
      rfl
  exact key _ (fun _ => rfl) (fun _ _ => rfl)
theorem argsF_look : ∀ {l : List Value} {i t : Nat} {e : E}, look (argsF l i) t = some e → ∃ j v, t = i + j ∧ l[j]? = some v ∧ e = .val v
  | [], i, t, e, h => by cases h
  | v :: r, i, t, e, h => by
    simp only [argsF] at h
    rw [look_cons] at h
    by_cases hit : i = t
    · rw [if_pos hit] at h
      obtain rfl := Option.some.inj h
      exact ⟨0, v, by omega, rfl, rfl⟩
    · rw [if_neg hit] at h
      obtain ⟨j, u, h1, h2, h3⟩ := argsF_look h
      exact ⟨j + 1, u, by omega, by simpa using h2, h3⟩
theorem calls_of_vc {P : Program} {G : Gen} (hA : G.an.Ok P) (hm : P.follows .mixedOrders = true) {f : FuncId} {fn : Func} (hf : P.funcs[f]? = some fn) (H : Hints) (ks : List Kd) (args : List Value) (w : World) (R : Fn' ks (World → Prop))
    (h : vcF P G fn H ks args w R) : CallK P f args.toArray w ks R := by
  unfold vcF at h
  split at h
  · exact h.elim
  rename_i c hb
  split at h
  · exact h.elim
  rename_i hle
  have hle' : args.length ≤ fn.ntmps := Nat.le_of_ble_eq_true hle
  refine calls_of_wp hf hb ?_
  have hs : OkS fn.ntmps ⟨argsF args 0, 0⟩ { tmps := args.toArray ++ Array.replicate (fn.ntmps - args.toArray.size) undef, defers := [] } := by
    refine ⟨by simp; omega, rfl, fun t e hl => ?_, fun t c' v hl => ?_⟩
    · obtain ⟨j, v, rfl, h2, rfl⟩ := argsF_look hl
      have hj : j < args.length := (List.getElem?_eq_some_iff.1 h2).1
      show (args.toArray ++ Array.replicate (fn.ntmps - args.toArray.size) undef)[0 + j]? = some v
      rw [Array.getElem?_append_left (by simpa using hj)]
      simpa using h2
    · obtain ⟨_, _, _, _, he⟩ := argsF_look hl
      cases he
  have fin : ∀ st a w', OkS fn.ntmps st a → endF P fn.results.toList ks R st w' →
      a.defers = [] ∧ ∃ v, (results fn a.tmps).run P w' = .ok v w' ∧ exK ks fun vs => Ending.returned v = .returned (pack vs) ∧ app ks R vs w' := by
    intro st a w' ho he
    obtain ⟨vs, h1, h2, h3⟩ := results_run ho he
    exact ⟨ho.defers, _, h1, exK_of h2 ⟨rfl, h3⟩⟩
  refine Go.wp_mono (vcC_ok hA hm c _ w _ _ _ _ h hs) fun e a w' q => ?_
  cases e with
  | normal => obtain ⟨⟨st, h1, h2⟩, _⟩ := q; exact fin st a w' h1 h2
  | ret => obtain ⟨st, h1, h2⟩ := q; exact fin st a w' h1 h2
  | exit id => obtain ⟨⟨st, h1, h2⟩, _⟩ := q; exact h2.elim
  | goto l => exact q.elim
  | panic c => exact q.elim
  | outgrown => exact q.elim
end Go.Proofs.Ytaneeadpjelomaa.CF
