/- The condition generator, part 4: what a region that draws comes to. -/
import Derived.Test.YtaneeadpjelomaaCf3
namespace Go.Proofs.Ytaneeadpjelomaa.CF
open Go

def idxs (p : Oper → Bool) : List Oper → Nat → List Nat
  | [], _ => []
  | o :: r, i => match p o with | true => i :: idxs p r (i + 1) | false => idxs p r (i + 1)
def findT (ops : Array Oper) (listed : Array Bool) (ac : List Nat) : List Nat → Option Nat
  | [] => none
  | i :: r => match !memN i ac && Region.free .any ops listed i with | true => some i | false => findT ops listed ac r
def andS (b : Bool) (A B : Prop) : Prop := match b with | true => A ∧ B | false => B
def conjL : List Prop → Prop
  | [] => True
  | [p] => p
  | p :: q :: r => p ∧ conjL (q :: r)
theorem conjL_all {α : Type} {f : α → Prop} : ∀ {l : List α}, conjL (l.map f) → ∀ x ∈ l, f x
  | [], _, x, h => by cases h
  | [y], h, x, hx => by rw [List.mem_singleton.1 hx]; exact h
  | y :: z :: r, h, x, hx => by
    rcases List.mem_cons.1 hx with rfl | hx
    · exact h.1
    · exact conjL_all (l := z :: r) h.2 x hx
def takeOp (an : Ana) (n : Nat) (ops : Array Oper) (S : World → Prop) (rs : List Nat) (F : Fr) (tg : Nat) (M : List Nat) (w : World) (i : Nat)
    (next : Fr → List Nat → World → Prop) : Prop :=
  match ops[i]? with
  | none => False
  | some o => match guardC ops F tg o with
    | none => False
    | some C => match gB F tg C with
      | none => False
      | some g => match okDst n (slotsG C M) o.dst with
        | false => False
        | true => match an F tg C o with
          | .pv v => next (putE F o.dst (ent tg C v)) (slotsG C M) w
          | .po ob v => gI C g ob ∧ next (putE F o.dst (ent tg C v)) (slotsG C M) w
          | .rd k rel => match memN i rs with
            | true => ∃ x : k.T, gI C g (∀ w', S w' → rel w' (k.mk x)) ∧ next (putE F o.dst (ent tg C (k.mk x))) (slotsG C M) w
            | false => False
          | _ => False
def actOp (an : Ana) (n : Nat) (ops : Array Oper) (S : World → Prop) (rs ac : List Nat) (F : Fr) (tg : Nat) (M : List Nat) (w : World) (i : Nat)
    (next : Fr → List Nat → World → Prop) : Prop :=
  match memN i ac with
  | false => False
  | true => match ops[i]? with
    | none => False
    | some o => match guardC ops F tg o with
      | none => False
      | some C => match gB F tg C with
        | none => False
        | some g => match okDst n (slotsG C M) o.dst with
          | false => False
          | true => match an F tg C o with
            | .at k f => match C with
              | [] => f w (fun x w' => andS (needS ops i rs) (S w') (next (putE F o.dst (.val (k.mk x))) (slotsG [] M) w'))
              | y :: r => letJ (fun (x : k.T) w' => andS (needS ops i rs) (S w') (next (putE F o.dst (.cnd tg (y :: r) (k.mk x))) (slotsG (y :: r) M) w'))
                  (fun J => (g = true → f w J) ∧ (g = false → J (dflt k) w))
            | .ac f => match C with
              | [] => f w (fun v w' => andS (needS ops i rs) (S w') (next (putE F o.dst (.val v)) (slotsG [] M) w'))
              | _ :: _ => False
            | _ => False
/-- a read of what an act of the same region has brought: what is known is told anew -/
def renew (ops : Array Oper) (rs ac : List Nat) (j : Nat) : Bool := memN j rs && ac.any fun a => anc ops ops.size j a
def drawOps (an : Ana) (n : Nat) (ops : Array Oper) (rs ac : List Nat) (Kn : St → World → Prop) : Nat → (World → Prop) → Array Bool → Fr → Nat → List Nat → World → Prop
  | 0, _, listed, F, tg, _, w => match Region.ready .any ops listed with | [] => Kn ⟨F, tg + 1⟩ w | _ :: _ => False
  | f + 1, S, listed, F, tg, M, w => match Region.ready .any ops listed with
    | [] => Kn ⟨F, tg + 1⟩ w
    | i :: r => match findT ops listed ac (i :: r) with
      | some j => match renew ops rs ac j with
        | false => takeOp an n ops S rs F tg M w j (fun F' M' w' => drawOps an n ops rs ac Kn f S (listed.setIfInBounds j true) F' tg M' w')
        | true => ∃ S2 : World → Prop, S2 w ∧ (∀ u, S2 u → S u) ∧ takeOp an n ops S2 rs F tg M w j (fun F' M' w' => drawOps an n ops rs ac Kn f S2 (listed.setIfInBounds j true) F' tg M' w')
      | none => conjL ((i :: r).map fun j => actOp an n ops S rs ac F tg M w j (fun F' M' w' => drawOps an n ops rs ac Kn f S (listed.setIfInBounds j true) F' tg M' w'))

theorem findT_ok {ops : Array Oper} {listed : Array Bool} {ac : List Nat} : ∀ {l : List Nat} {j : Nat}, findT ops listed ac l = some j → j ∈ l ∧ memN j ac = false ∧ Region.free .any ops listed j = true
  | i :: r, j, h => by
    simp only [findT] at h
    split at h
    · rename_i hb
      obtain rfl := Option.some.inj h
      simp only [Bool.and_eq_true, Bool.not_eq_true'] at hb
      exact ⟨List.mem_cons_self, hb.1, hb.2⟩
    · obtain ⟨h1, h2⟩ := findT_ok h
      exact ⟨List.mem_cons_of_mem _ h1, h2⟩
theorem takeOp_ok {P : Program} {an : Ana} (hA : an.Ok P) {n : Nat} {ops : Array Oper} {S : World → Prop} {rs : List Nat} {F : Fr} {tg : Nat} {M : List Nat} {w : World} {i : Nat}
    {next : Fr → List Nat → World → Prop} {a : Act} (h : takeOp an n ops S rs F tg M w i next) (hg : Good n F tg M a) :
    ∃ oi u T, ops[i]? = some oi ∧ YieldsIf P ops T oi u a ∧ ((∀ w, T w) ∨ (T = S ∧ memN i rs = true)) ∧ ∃ F' M', Good n F' tg M' (a.put oi.dst u) ∧ next F' M' w := by
  unfold takeOp at h
  split at h
  · exact h.elim
  rename_i o ho
  split at h
  · exact h.elim
  rename_i C hC
  split at h
  · exact h.elim
  rename_i g hgB
  split at h
  · exact h.elim
  rename_i hd
  have hw := guardC_ok hg.fits hC
  have hgb := gB_ok hg.fits hgB
  have hg' := hg.more C
  have hI : ∀ X, gI C g X → Holds a C → X := by
    intro X hX hH
    cases C with
    | nil => exact hX
    | cons y r => exact hX (hgb.1 hH)
  by_cases hH : Holds a C
  · have hOk := hA F tg C o a hg.fits hH
    have fin : ∀ v, Good n (putE F o.dst (ent tg C v)) tg (slotsG C M) (a.put o.dst v) := fun v => hg'.put hd (fun _ => rfl) (fun q => absurd hH q)
    split at h
    · rename_i v hv
      rw [hv] at hOk
      exact ⟨o, v, fun _ => True, ho, .inl ⟨hw.2 hH, fun w' _ => hOk w'⟩, .inl fun _ => trivial, _, _, fin v, h⟩
    · rename_i ob v hv
      rw [hv] at hOk
      exact ⟨o, v, fun _ => True, ho, .inl ⟨hw.2 hH, fun w' _ => hOk (hI _ h.1 hH) w'⟩, .inl fun _ => trivial, _, _, fin v, h.2⟩
    · rename_i k rel hv
      rw [hv] at hOk
      split at h
      · rename_i hm
        obtain ⟨x, h1, h2⟩ := h
        exact ⟨o, _, S, ho, .inl ⟨hw.2 hH, fun w' hs => hOk w' x (hI _ h1 hH w' hs)⟩, .inr ⟨rfl, hm⟩, _, _, fin _, h2⟩
      · exact h.elim
    · exact h.elim
  · have hwf : Region.wanted o (yielded ops a.tmps) = false := by
      cases hx : Region.wanted o (yielded ops a.tmps) with
      | false => rfl
      | true => exact absurd (hw.1 hx) hH
    have fin : ∀ v, Good n (putE F o.dst (ent tg C v)) tg (slotsG C M) (a.put o.dst undef) := fun v => hg'.put hd (fun q => absurd q hH) (fun _ => rfl)
    have hy : YieldsIf P ops (fun _ => True) o undef a := .inr ⟨hwf, rfl⟩
    split at h
    · exact ⟨o, undef, _, ho, hy, .inl fun _ => trivial, _, _, fin _, h⟩
    · exact ⟨o, undef, _, ho, hy, .inl fun _ => trivial, _, _, fin _, h.2⟩
    · split at h
      · obtain ⟨x, h1, h2⟩ := h
        exact ⟨o, undef, _, ho, hy, .inl fun _ => trivial, _, _, fin _, h2⟩
      · exact h.elim
    · exact h.elim
theorem andS_ok {b : Bool} {A B : Prop} (h : andS b A B) : (b = true → A) ∧ B := by
  cases b with
  | true => exact ⟨fun _ => h.1, h.2⟩
  | false => exact ⟨fun q => (by cases q), h⟩
theorem actOp_ok {P : Program} {an : Ana} (hA : an.Ok P) {n : Nat} {ops : Array Oper} {S : World → Prop} {rs ac : List Nat} {F : Fr} {tg : Nat} {M : List Nat} {w : World} {i : Nat}
    {next : Fr → List Nat → World → Prop} {a : Act} {Q : Exit → Act → World → Prop} {K : Act → World → Prop} (h : actOp an n ops S rs ac F tg M w i next) (hg : Good n F tg M a)
    (hK : ∀ o F' M' w' u, ops[i]? = some o → Good n F' tg M' (a.put o.dst u) → next F' M' w' → memN i ac = true → (needS ops i rs = true → S w') → K (a.put o.dst u) w') :
    wpOp P ops Q i K a w := by
  unfold actOp at h
  split at h
  · exact h.elim
  rename_i hac
  split at h
  · exact h.elim
  rename_i o ho
  split at h
  · exact h.elim
  rename_i C hC
  split at h
  · exact h.elim
  rename_i g hgB
  split at h
  · exact h.elim
  rename_i hd
  have hw := guardC_ok hg.fits hC
  have hgb := gB_ok hg.fits hgB
  have hg' := hg.more C
  unfold wpOp
  simp only [ho]
  by_cases hH : Holds a C
  · rw [if_pos (hw.2 hH)]
    left
    have hOk := hA F tg C o a hg.fits hH
    have fin : ∀ v, Good n (putE F o.dst (ent tg C v)) tg (slotsG C M) (a.put o.dst v) := fun v => hg'.put hd (fun _ => rfl) (fun q => absurd hH q)
    split at h
    · rename_i k f hv
      rw [hv] at hOk
      split at h
      · refine Oper.wp_mono (fun a' w' ⟨x, e, hk⟩ => ?_) (hOk w _ Q h)
        subst e
        exact hK _ _ _ _ _ ho (fin _) (andS_ok hk).2 hac (andS_ok hk).1
      · rename_i y r
        have h1 := h.1 (hgb.1 hH)
        refine Oper.wp_mono (fun a' w' ⟨x, e, hk⟩ => ?_) (hOk w _ Q h1)
        subst e
        exact hK _ _ _ _ _ ho (fin _) (andS_ok hk).2 hac (andS_ok hk).1
    · rename_i f hv
      rw [hv] at hOk
      split at h
      · refine Oper.wp_mono (fun a' w' ⟨v, e, hk⟩ => ?_) (hOk w _ Q h)
        subst e
        exact hK _ _ _ _ _ ho (fin _) (andS_ok hk).2 hac (andS_ok hk).1
      · exact h.elim
    · exact h.elim
  · rw [if_neg (fun q => hH (hw.1 q))]
    have hgf : g = false := by
      cases g with
      | false => rfl
      | true => exact absurd (hgb.2 rfl) hH
    have fin : ∀ v, Good n (putE F o.dst (ent tg C v)) tg (slotsG C M) (a.put o.dst undef) := fun v => hg'.put hd (fun q => absurd q hH) (fun _ => rfl)
    split at h
    · split at h
      · exact absurd (fun x hx => by cases hx) hH
      · have hk := h.2 hgf
        exact hK _ _ _ _ _ ho (fin _) (andS_ok hk).2 hac (andS_ok hk).1
    · split at h
      · exact absurd (fun x hx => by cases hx) hH
      · exact h.elim
    · exact h.elim
theorem put_same_mem {a : Act} {o : Oper} {u : Value} {l : List Oper} {i d : Nat} (hi : l[i]? = some o) (h : writesO l d = false) : (a.put o.dst u).tmps[d]? = a.tmps[d]? := by
  induction l generalizing i with
  | nil => simp at hi
  | cons y r ih =>
    cases i with
    | zero =>
      have hyo : y = o := by simpa using hi
      subst hyo
      exact put_same h
    | succ i =>
      simp only [writesO, Bool.or_eq_false_iff] at h
      exact ih (by simpa using hi) h.2
theorem wpAnyN_weak {P : Program} {ops : Array Oper} {Q : Exit → Act → World → Prop} {S S' : World → Prop} {rs ac : List Nat} (hS : ∀ w, S' w → S w) : ∀ (f : Nat) (listed : Array Bool) (a : Act) (w : World),
    wpAnyN P ops Q S' rs ac f listed a w → wpAnyN P ops Q S rs ac f listed a w
  | 0, _, _, _, h => h
  | f + 1, _, _, _, h => ⟨h.1, fun i hi => wpOp_mono (fun a' w' h' => ⟨h'.1, fun q q' => hS _ (h'.2.1 q q'), wpAnyN_weak hS f _ a' w' h'.2.2⟩) (h.2 i hi)⟩
theorem drawOps_ok {P : Program} {an : Ana} (hA : an.Ok P) {n : Nat} {ops : Array Oper} {rs ac : List Nat} {Kn : St → World → Prop} (hsel : Region.noSelect ops = true) (a0 : Act) :
    ∀ (f : Nat) (S : World → Prop) (listed : Array Bool) (F : Fr) (tg : Nat) (M : List Nat) (w : World) (a : Act),
    drawOps an n ops rs ac Kn f S listed F tg M w → Good n F tg M a → Closed ops listed → (∀ i, memN i rs = true → listed.getD i true = false → S w) → Same (writesO ops.toList) a0 a →
    wpAnyN P ops (QN n Kn (writesO ops.toList) a0) S rs ac f listed a w
  | 0, S, listed, F, tg, M, w, a, h, hg, hc, hS, hs => by
    simp only [drawOps] at h
    split at h
    · rename_i hr
      exact ⟨hr, ⟨_, hg.next, h⟩, hs⟩
    · exact h.elim
  | f + 1, S, listed, F, tg, M, w, a, h, hg, hc, hS, hs => by
    simp only [drawOps] at h
    split at h
    · rename_i hr
      refine ⟨fun _ => ⟨⟨_, hg.next, h⟩, hs⟩, fun i hi => ?_⟩
      rw [hr] at hi; cases hi
    · rename_i i r hr
      split at h
      · rename_i j hj
        obtain ⟨hmem, hac, hfree⟩ := findT_ok hj
        rw [← hr] at hmem
        have hun := (mem_ready.1 hmem).1
        have key : ∀ S2 : World → Prop, (∀ i, memN i rs = true → listed.getD i true = false → S2 w) →
            takeOp an n ops S2 rs F tg M w j (fun F' M' w' => drawOps an n ops rs ac Kn f S2 (listed.setIfInBounds j true) F' tg M' w') →
            wpAnyN P ops (QN n Kn (writesO ops.toList) a0) S2 rs ac (f + 1) listed a w := by
          intro S2 hS2 h
          obtain ⟨oi, u, T, hoi, hy, hT, F', M', hg', hn⟩ := takeOp_ok hA h hg
          have hTw : T w := by
            rcases hT with hT | ⟨rfl, hm⟩
            · exact hT w
            · exact hS2 j hm hun
          refine wpAnyN_first hoi (Region.noSelect_spec hsel) (fun c a w q => q.elim) hT hac f listed a w (Region.free_spec hoi hfree) hc hmem hy hTw ?_
          refine drawOps_ok hA hsel a0 f S2 _ F' tg M' w _ hn hg' (hc.set hmem) (fun k hk hl => hS2 k hk ?_) (fun d hd => ?_)
          · by_cases hjk : j = k
            · subst hjk; exact hun
            · rw [getD_set_ne true hjk] at hl; exact hl
          · rw [put_same_mem (l := ops.toList) (i := j) (by simpa using hoi) hd]; exact hs d hd
        split at h
        · exact key S hS h
        · obtain ⟨S2, h1, h2, h3⟩ := h
          exact wpAnyN_weak h2 _ _ _ _ (key S2 (fun _ _ _ => h1) h3)
      · refine ⟨fun h0 => (by rw [h0] at hr; cases hr), fun j hj => ?_⟩
        have h1 := conjL_all h j (by rw [← hr]; exact hj)
        refine actOp_ok hA h1 hg (fun o F' M' w' u ho hg' hn hac hS' => ⟨fun q => (by rw [hac] at q; cases q), fun _ => hS', ?_⟩)
        refine drawOps_ok hA hsel a0 f S _ F' tg M' w' _ hn hg' (hc.set hj) (fun k hk hl => hS' ?_) (fun d hd => ?_)
        · have hjk : j ≠ k := by
            intro e
            subst e
            obtain ⟨hun, _⟩ := mem_ready.1 hj
            rcases Nat.lt_or_ge j listed.size with h' | h'
            · simp [h'] at hl
            · simp [Array.getElem?_eq_none h'] at hun
          rw [getD_set_ne true hjk] at hl
          exact needS_of hc hj hjk hl hk
        · rw [put_same_mem (l := ops.toList) (i := j) (by simpa using ho) hd]; exact hs d hd
/-- a region -/
def regOps (an : Ana) (isR isA : Oper → Bool) (n : Nat) (ops : Array Oper) (draw : Bool) (Kn : St → World → Prop) (F : Fr) (tg : Nat) (w : World) : Prop :=
  match draw with
  | false => seqOps an n ops Kn ops.toList F tg [] w
  | true => match Region.noSelect ops with
    | false => False
    | true => match idxs isR ops.toList 0 with
      | [] => ∀ w1, w1 = { w with drawn := w.drawn + 1 } → drawOps an n ops [] (idxs isA ops.toList 0) Kn ops.size (fun _ => True) (Array.replicate ops.size false) F tg [] w1
      | r :: rs => ∀ w1, w1 = { w with drawn := w.drawn + 1 } → ∃ S : World → Prop, S w1 ∧ drawOps an n ops (r :: rs) (idxs isA ops.toList 0) Kn ops.size S (Array.replicate ops.size false) F tg [] w1
theorem regOps_ok {P : Program} {an : Ana} (hA : an.Ok P) (hm : P.follows .mixedOrders = true) {isR isA : Oper → Bool} {n id : Nat} {ops : Array Oper} {draw : Bool} {Kn : St → World → Prop} {st : St} {w : World} {a : Act}
    (h : regOps an isR isA n ops draw Kn st.F st.tg w) (hs : OkS n st a) : (Code.region id ops draw).wp P (QN n Kn (writesO ops.toList) a) a w := by
  unfold regOps at h
  split at h
  · exact wp_region_list (seqOps_ok hA _ _ _ _ _ _ h hs.good)
  · split at h
    · exact h.elim
    · rename_i hsel
      have c0 : Closed ops (Array.replicate ops.size false) := by
        intro j oj _ hl
        rcases Nat.lt_or_ge j ops.size with h' | h'
        · simp [h'] at hl
        · simp [h'] at hl
      split at h
      · exact wp_region_any hm (wpAny_of_N _ _ _ _ (drawOps_ok hA hsel a _ _ _ _ _ _ _ _ (h _ rfl) hs.good c0 (fun _ _ _ => trivial) (fun _ _ => rfl)))
      · obtain ⟨S, hS, h⟩ := h _ rfl
        exact wp_region_any hm (wpAny_of_N _ _ _ _ (drawOps_ok hA hsel a _ _ _ _ _ _ _ _ h hs.good c0 (fun _ _ _ => hS) (fun _ _ => rfl)))
end Go.Proofs.Ytaneeadpjelomaa.CF
