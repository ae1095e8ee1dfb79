import Derived.Test.YtaneeadpjelomaaCf7
/- The condition generator, part 8: the rest of the operations, and all of them together. -/
namespace Go.Proofs.Ytaneeadpjelomaa.CF
open Go

section
variable {P : Program} {o : Oper} {a : Act}
theorem aIndexAddr_ok {t : TypeId} {x y : Operand} (ho : o.op = .indexAddr t x y) : An.Ok P o a (aIndexAddr P t (a.eval x) (a.eval y)) := by
  have h : execOp a.eval o = (do let z ← Instr.indexAt t (a.eval x) (a.eval y); pure (.value z)) := by unfold execOp; rw [ho]
  generalize a.eval x = u at h
  generalize a.eval y = v at h
  unfold aIndexAddr
  split
  · rename_i k n
    split
    · rename_i e p len c hu
      split
      · rename_i q hq
        refine ok_po h fun ⟨h0, h1, hp⟩ w => ?_
        cases p with
        | none => cases hp
        | some ad =>
          have hs : (sizeOf e).run P w = .ok q.size w := by simp [sizeOf, typeInfo, hq]
          unfold Instr.indexAt
          simp only [Sem.run_bind, asIntOf, Sem.run_pure, Result.andThen_ok, run_underlying hu]
          rw [if_pos ⟨h0, h1⟩]
          simp [hs, gA]
      · trivial
    · rename_i len e ad hu
      split
      · rename_i q hq
        refine ok_po h fun ⟨h0, h1⟩ w => ?_
        have hs : (sizeOf e).run P w = .ok q.size w := by simp [sizeOf, typeInfo, hq]
        unfold Instr.indexAt
        simp only [Sem.run_bind, asIntOf, Sem.run_pure, Result.andThen_ok, run_underlying hu, Instr.sureAddr]
        rw [if_pos ⟨h0, h1⟩]
        simp [hs]
      · trivial
    · trivial
  · trivial
theorem aIndex_ok {t : TypeId} {x y : Operand} (ho : o.op = .index t x y) : An.Ok P o a (aIndex P t (a.eval x) (a.eval y)) := by
  have h : execOp a.eval o = (do let z ← Instr.index t (a.eval x) (a.eval y); pure (.value z)) := by unfold execOp; rw [ho]
  generalize a.eval x = u at h
  generalize a.eval y = v at h
  unfold aIndex
  split
  · rename_i k n
    split
    · rename_i s hu
      refine ok_po h fun ⟨h0, h1⟩ w => ?_
      have hlt : n.toNat < s.size := by omega
      have hb : s[n.toNat]? = some s[n.toNat] := by simp [hlt]
      unfold Instr.index
      simp only [Sem.run_bind, asIntOf, Sem.run_pure, Result.andThen_ok, run_underlying hu, if_pos h0, hb, bt]
    · rename_i len e cs hu
      split
      · rename_i d hd
        obtain ⟨i, hi⟩ := info_of hd
        have hp : ∀ w, (0 ≤ n ∧ n < (len : Int)) → (Instr.index t (.agg cs) (.int k n)).run P w = (part e cs (n.toNat * sizeT P e)).run P w := fun w hr => by
          unfold Instr.index
          simp only [Sem.run_bind, asIntOf, Sem.run_pure, Result.andThen_ok, run_underlying hu, if_pos hr, size_run hi]
        split
        · rename_i hk
          refine ok_po h fun hr w => ?_
          rw [hp w hr, part_run hd, hk]
        · rename_i k' hk
          refine ok_rd h fun w v hr => ?_
          rw [hp w hr.1, part_run hd]
          cases hk2 : kdOf d <;> first | (exact absurd hk2 hk) | simp only [hr.2]
      · trivial
    · trivial
  · trivial
theorem bnd_ok {F : Fr} {tg : Nat} {C : Gd} (hF : Fits F tg a) (hC : Holds a C) {d l : Int} : ∀ {x : Option Operand}, bnd F tg C d x = some l →
    (x = none ∧ l = d) ∨ ∃ k, x.map a.eval = some (.int k l)
  | none, h => .inl ⟨rfl, (Option.some.inj h).symm⟩
  | some x, h => by
    simp only [bnd] at h
    split at h
    · rename_i k n hv
      obtain rfl := Option.some.inj h
      exact .inr ⟨k, by rw [Option.map_some, opv_ok hF hC hv]⟩
    · cases h
theorem bounds_run {isS : Bool} {len cap : Nat} {F : Fr} {tg : Nat} {C : Gd} (hF : Fits F tg a) (hC : Holds a C) {lo hi : Option Operand} {l h : Int}
    (hl : bnd F tg C 0 lo = some l) (hh : bnd F tg C len hi = some h) (h0 : 0 ≤ l) (h1 : l ≤ h) (h2 : h ≤ (cap : Int)) (h3 : len ≤ cap) (w : World) :
    (Instr.sliceBounds isS len cap (lo.map a.eval) (hi.map a.eval) none).run P w = .ok (l.toNat, h.toNat, cap) w := by
  have sb : ∀ (k : IntKind) (i : Int) (y : Nat) (c : BoundsCode), 0 ≤ i → i ≤ (y : Int) → (Instr.sliceBound (.int k i) y c).run P w = .ok i.toNat w := by
    intro k i y c q1 q2
    unfold Instr.sliceBound
    simp only [asIntOf, Sem.run_bind, Sem.run_pure, Result.andThen_ok]
    rw [if_pos ⟨q1, q2⟩]; rfl
  have eh : (h.toNat : Int) = h := by omega
  rcases bnd_ok hF hC hl with ⟨rfl, rfl⟩ | ⟨kl, hl'⟩ <;> rcases bnd_ok hF hC hh with ⟨rfl, rfl⟩ | ⟨kh, hh'⟩
  · simp [Instr.sliceBounds]
  · unfold Instr.sliceBounds
    rw [hh']
    simp [sb kh h cap _ (by omega) h2]
  · unfold Instr.sliceBounds
    rw [hl']
    simp [sb kl l len _ h0 (by omega)]
  · unfold Instr.sliceBounds
    rw [hl', hh']
    simp only [Option.isSome_none, Sem.run_bind, Sem.run_pure, Result.andThen_ok]
    rw [sb kh h cap _ (by omega) h2]
    simp only [Result.andThen_ok]
    rw [sb kl l h.toNat _ h0 (by omega)]
    rfl
theorem aSlice_ok {F : Fr} {tg : Nat} {C : Gd} (hF : Fits F tg a) (hC : Holds a C) {t : TypeId} {x : Operand} {lo hi : Option Operand} (ho : o.op = .slice t x lo hi none) :
    An.Ok P o a (aSlice P F tg C t (a.eval x) lo hi) := by
  have h : execOp a.eval o = (do let z ← Instr.sliceAt t (a.eval x) (lo.map a.eval) (hi.map a.eval) none; pure (.value z)) := by unfold execOp; rw [ho]; rfl
  generalize a.eval x = u at h
  unfold aSlice
  split
  · rename_i s hu
    split
    · rename_i l hh hl hh'
      refine ok_po h fun ⟨h0, h1, h2⟩ w => ?_
      simp only [Instr.sliceAt, Instr.slice, Sem.run_bind, run_underlying hu, Result.andThen_ok]
      simp [bounds_run (P := P) hF hC hl hh' h0 h1 h2 (Nat.le_refl _)]
    · trivial
  · rename_i e p n c hu
    split
    · rename_i l hh q hl hh' hq
      refine ok_po h fun ⟨h0, h1, h2, h3⟩ w => ?_
      have hs : (sizeOf e).run P w = .ok q.size w := by simp [sizeOf, typeInfo, hq]
      simp only [Instr.sliceAt, Instr.slice, Sem.run_bind, run_underlying hu, Result.andThen_ok]
      rw [bounds_run (P := P) hF hC hl hh' h0 h1 h2 h3]
      simp [hs, cutA]
    · trivial
  · rename_i n e ad hu
    split
    · rename_i l hh q hl hh' hq
      refine ok_po h fun ⟨h0, h1, h2⟩ w => ?_
      have hs : (sizeOf e).run P w = .ok q.size w := by simp [sizeOf, typeInfo, hq]
      simp only [Instr.sliceAt, Sem.run_bind, run_underlying hu, Result.andThen_ok, Instr.sureAddr, Sem.run_pure]
      rw [bounds_run (P := P) hF hC hl hh' h0 h1 h2 (Nat.le_refl _)]
      simp [hs]
    · trivial
  · trivial
theorem evs_ok {F : Fr} {tg : Nat} {C : Gd} (hF : Fits F tg a) (hC : Holds a C) : ∀ {l : List Operand} {vs : List Value}, evs F tg C l = some vs → l.map a.eval = vs
  | [], vs, h => Option.some.inj h
  | x :: r, vs, h => by
    simp only [evs] at h
    split at h
    · rename_i v vs' h1 h2
      obtain rfl := Option.some.inj h
      rw [List.map_cons, opv_ok hF hC h1, evs_ok hF hC h2]
    · cases h
theorem zip2_map {ρ : Operand → Value} : ∀ (l : List (Nat × Operand)), zip2 (l.map (·.1)) ((l.map (·.2)).map ρ) = l.map fun x => (x.1, ρ x.2)
  | [] => rfl
  | x :: r => by simp only [List.map_cons, zip2, zip2_map r]
/-- the functions that may be called -/
def Callable (P : Program) (cs : List Nat) : Prop := ∀ f, memN f cs = true → ∃ fn, P.funcs[f]? = some fn ∧ (fn.name == "runtime.NumGoroutine") = false ∧ fn.body.isNone = false
theorem callFunc_run {cs : List Nat} (hc : Callable P cs) {f : Nat} (hf : memN f cs = true) (args : Array Value) (w : World) : (callFunc f args).run P w = .ok (.enter f args) w := by
  obtain ⟨fn, h1, h2, h3⟩ := hc f hf
  unfold callFunc
  simp only [Sem.run_bind, run_program, Result.andThen_ok, h1, h2, h3, Bool.false_eq_true, if_false]
  rfl
theorem callK_wp {f : Nat} {args : Array Value} {w : World} {ks : List Kd} {R : Fn' ks (World → Prop)} {K : Act → World → Prop} {Q : Exit → Act → World → Prop}
    (hr : (execOp a.eval o).run P w = .ok (.enter f args) w) (h : CallK P f args w ks R) (hK : ∀ vs w', FitL ks vs → app ks R vs w' → K (a.put o.dst (pack vs)) w') : o.wp P a w K Q := by
  unfold Oper.wp
  rw [hr]
  refine Calls.mono h fun e w' he => ?_
  have ex : ∀ {ks : List Kd} {f : List Value → Prop}, exK ks f → ∃ vs, FitL ks vs ∧ f vs := by
    intro ks
    induction ks with
    | nil => intro f h; exact ⟨[], trivial, h⟩
    | cons k ks ih =>
      intro f ⟨x, hx⟩
      obtain ⟨vs, h1, h2⟩ := ih hx
      exact ⟨k.mk x :: vs, ⟨fit_mk k x, h1⟩, h2⟩
  obtain ⟨vs, h1, rfl, h2⟩ := ex he
  exact hK vs w' h1 h2
theorem aCallK_ok {f : Nat} {args : Array Value} {ks : List Kd} (hr : ∀ w, (execOp a.eval o).run P w = .ok (.enter f args) w) : An.Ok P o a (aCallK P f args ks) := by
  unfold aCallK
  split
  · rename_i k
    intro w K Q h
    refine callK_wp (hr w) h fun vs w' hf hk => ?_
    match vs, hf with
    | [v], hf => exact ⟨k.un v, by rw [Kd.mk_un hf.1]; rfl, hk⟩
  · intro w K Q h
    refine callK_wp (hr w) h fun vs w' hf hk => ?_
    rw [app_cur hf] at hk
    exact ⟨_, rfl, hk⟩
theorem aCallV_ok {cs : List Nat} (hc : Callable P cs) {f : Value} {args : Array Value} {ks : List Kd}
    (hr : ∀ w fn first cap, f = .func (.func fn) first cap → (execOp a.eval o).run P w = (callFunc fn (first ++ args ++ cap)).run P w) : An.Ok P o a (aCallV P cs f args ks) := by
  unfold aCallV
  split
  · rename_i k
    intro w K Q h
    unfold CallV at h
    split at h
    · rename_i n first cap
      refine callK_wp (by rw [hr w _ _ _ rfl, callFunc_run hc h.1]) h.2 fun vs w' hf hk => ?_
      match vs, hf with
      | [v], hf => exact ⟨k.un v, by rw [Kd.mk_un hf.1]; rfl, hk⟩
    · exact h.elim
  · intro w K Q h
    unfold CallV at h
    split at h
    · rename_i n first cap
      refine callK_wp (by rw [hr w _ _ _ rfl, callFunc_run hc h.1]) h.2 fun vs w' hf hk => ?_
      rw [app_cur hf] at hk
      exact ⟨_, rfl, hk⟩
    · exact h.elim
theorem aBuiltin_ok {b : Builtin} {ts : Array TypeId} {ty : TypeId} {vs : List Value} {cs : Array Bool} (h : execOp a.eval o = builtin b ts ty cs vs.toArray) : An.Ok P o a (aBuiltin P b ts ty vs) := by
  unfold aBuiltin
  split
  · have h' : execOp a.eval o = (do let z ← Builtin.len_ ts ty vs.toArray; pure (.value z)) := h
    split
    · rename_i s t hts
      have hts' : ts = #[t] := by rw [← Array.toList_inj]; exact hts
      subst hts'
      split
      · rename_i hu
        refine ok_val h' fun w => ?_
        simp [Builtin.len_, run_underlying hu, goInt]
      · trivial
    · rename_i p n c t hts
      have hts' : ts = #[t] := by rw [← Array.toList_inj]; exact hts
      subst hts'
      split
      · rename_i e hu
        refine ok_val h' fun w => ?_
        simp [Builtin.len_, run_underlying hu, goInt]
      · trivial
    · split
      · exact ok_rd h' fun w v hr => hr
      · trivial
    · trivial
  · have h' : execOp a.eval o = (do let z ← Builtin.min_ ts ty vs.toArray; pure (.value z)) := h
    split
    · rename_i k x k' y
      split
      · rename_i hk
        obtain rfl := eqK_eq hk
        refine ok_val h' fun w => ?_
        simp [Builtin.min_, Builtin.min2, mn]
      · trivial
    · trivial
  · have h' : execOp a.eval o = (do let z ← Builtin.max_ ts ty vs.toArray; pure (.value z)) := h
    split
    · rename_i k x k' y
      split
      · rename_i hk
        obtain rfl := eqK_eq hk
        refine ok_val h' fun w => ?_
        simp [Builtin.max_, Builtin.max2, mx]
      · trivial
    · trivial
  · exact ok_runK h
  · exact ok_runK h
  · exact ok_runV h
  · exact ok_runV h
  · trivial
theorem aBuild_ok {t : TypeId} {parts : Array (Nat × Operand)} {vs : List Value} (ho : o.op = .build t parts) (hv : (parts.toList.map (·.2)).map a.eval = vs) :
    An.Ok P o a (aBuild P t (parts.toList.map (·.1)) vs) := by
  have h : execOp a.eval o = (do let z ← Instr.build t (zip2 (parts.toList.map (·.1)) vs).toArray; pure (.value z)) := by
    unfold execOp; rw [ho, ← hv, zip2_map]
    simp only []
    congr 2
    rw [← Array.toList_inj]; simp
  unfold aBuild
  split
  · split
    · rename_i cells hc
      exact ok_val h fun w => run_build w t _ cells (by simpa using hc)
    · trivial
  · exact ok_rd h fun w v hr => hr
theorem anOp_ok {cs : List Nat} (hc : Callable P cs) : (anOp P cs).Ok P := by
  intro F tg C o a hF hC
  have ev : ∀ {x : Operand} {v : Value}, opv F tg C x = some v → a.eval x = v := fun h => opv_ok hF hC h
  unfold anOp
  split
  · rename_i x ho
    split
    · rename_i v hv; intro w; unfold execOp; rw [ho]; simp [ev hv]
    · trivial
  · rename_i x ho
    split
    · rename_i v hv; intro w; unfold execOp; rw [ho]; simp [ev hv]
    · trivial
  · rename_i c x y ho
    split
    · rename_i s
      split
      · rename_i b p q h1 h2 h3
        have e1 := ev h1
        have ht : b = true → a.eval x = .bool p := fun hb => opv_ok hF (C := (s, true) :: C) (fun z hz => by
          rcases List.mem_cons.1 hz with rfl | hz
          · rw [← hb]; exact e1
          · exact hC z hz) h2
        have hf : b = false → a.eval y = .bool q := fun hb => opv_ok hF (C := (s, false) :: C) (fun z hz => by
          rcases List.mem_cons.1 hz with rfl | hz
          · rw [← hb]; exact e1
          · exact hC z hz) h3
        have run : ∀ w, (execOp a.eval o).run P w = .ok (.value (if b then a.eval x else a.eval y)) w := by
          intro w; unfold execOp; rw [ho]; simp [e1, asBool]
        split
        · split
          · intro w; rw [run w]
            cases b with
            | true => rw [if_pos rfl, ht rfl]; rfl
            | false => rw [if_neg (by simp), hf rfl]; rfl
          · trivial
        · split
          · intro w; rw [run w]
            cases b with
            | true => rw [if_pos rfl, ht rfl]; rfl
            | false => rw [if_neg (by simp), hf rfl]; rfl
          · trivial
        · trivial
      · trivial
    · trivial
  · rename_i e ho
    split
    · rename_i i hi
      split
      · rename_i z hz
        refine ok_new (s := Instr.alloc e true (.tuple #[])) (by unfold execOp; rw [ho]) fun w => ?_
        simp [Instr.alloc, zeroValue, typeInfo, hi, hz, newVar, newRow]
      · trivial
    · trivial
  · rename_i e x ho
    split
    · rename_i v hv
      refine ok_new (s := Instr.box e v) (by unfold execOp; rw [ho]; simp only [ev hv]) fun w => ?_
      simp [Instr.box, newVar, newRow]
    · trivial
  · rename_i t parts ho
    split
    · rename_i vs hv
      exact aBuild_ok ho (evs_ok hF hC hv)
    · trivial
  · rename_i t n parts ho
    split
    · rename_i vs hv
      refine ok_runK ?_
      unfold execOp; rw [ho, ← evs_ok hF hC hv, zip2_map]
      simp only []
      congr 2
      rw [← Array.toList_inj]; simp
    · trivial
  · rename_i t x ho
    split
    · rename_i v hv; rw [← ev hv]; exact aLoad_ok ho
    · trivial
  · rename_i t x y ho
    split
    · rename_i p v hp hv; rw [← ev hp, ← ev hv]; exact aStore_ok ho
    · trivial
  · rename_i x ho
    split
    · rename_i p hp
      intro hob w
      cases p with
      | none => cases hob
      | some ad => unfold execOp; rw [ho]; simp [ev hp, gA]
    · trivial
  · rename_i op t x y ty ho
    split
    · rename_i u v hu hv; rw [← ev hu, ← ev hv]; exact aBin_ok ho
    · trivial
  · rename_i op ty x ho
    split
    · rename_i b hb
      intro w; unfold execOp; rw [ho]; simp [ev hb, Op.unary]
    · rename_i k n hb
      intro w; unfold execOp; rw [ho]; simp [ev hb, Op.unary, Op.intArith]
    · rename_i k n hb
      intro w; unfold execOp; rw [ho]; simp [ev hb, Op.unary, Op.intBits, bNot, bXor]
    · trivial
  · rename_i s d x ho
    split
    · rename_i v hv; rw [← ev hv]; exact aConv_ok ho
    · trivial
  · rename_i fn x y ho
    split
    · rename_i p q hp hq
      intro w; unfold execOp; rw [ho]
      have e1 : x.map a.eval = p.toArray := by rw [← Array.toList_inj, Array.toList_map, evs_ok hF hC hp]
      have e2 : y.map a.eval = q.toArray := by rw [← Array.toList_inj, Array.toList_map, evs_ok hF hC hq]
      simp [e1, e2, Instr.makeFunc]
    · trivial
  · rename_i t r ho
    split
    · intro w K Q hf
      unfold Oper.wp
      have hr : (execOp a.eval o).run P w = .ok (.value (.map (some w.heap.size))) (w.alloc (.map #[] 0)) := by
        unfold execOp; rw [ho]; simp [Instr.makeMap]
      rw [hr]
      exact ⟨some w.heap.size, rfl, hf _ _ rfl rfl⟩
    · trivial
  · rename_i t x y ho
    split
    · rename_i u v hu hv
      refine ok_runK ?_
      unfold execOp; rw [ho]; simp only [ev hu, ev hv]
    · trivial
  · rename_i t x ho
    split
    · rename_i v hv
      refine ok_rd (s := Instr.makeInterface t v) ?_ fun w y hr => hr
      unfold execOp; rw [ho]; simp only [ev hv]
    · trivial
  · rename_i t x lo hi m ho
    split
    · rename_i v hv
      rw [← ev hv]
      exact aSlice_ok hF hC ho
    · trivial
  · rename_i t x i ho
    split
    · rename_i v hv; rw [← ev hv]; exact aFieldAddr_ok ho
    · trivial
  · rename_i t x i ho
    split
    · rename_i v hv; rw [← ev hv]; exact aField_ok ho
    · trivial
  · rename_i t x y ho
    split
    · rename_i u v hu hv; rw [← ev hu, ← ev hv]; exact aIndexAddr_ok ho
    · trivial
  · rename_i t x y ho
    split
    · rename_i u v hu hv; rw [← ev hu, ← ev hv]; exact aIndex_ok ho
    · trivial
  · rename_i t x y ok ho
    split
    · rename_i u v k e hu hv he
      have h : execOp a.eval o = (do let z ← Instr.lookup t u v ok; pure (.value z)) := by unfold execOp; rw [ho]; simp only [ev hu, ev hv]
      cases ok with
      | true => exact ok_rd h fun w z hr => hr
      | false => exact ok_rd h fun w z hr => hr
    · trivial
  · rename_i t x y z ho
    split
    · rename_i m u v hm hu hv
      refine ok_runU ?_
      unfold execOp; rw [ho]; simp only [ev hm, ev hu, ev hv]
    · trivial
  · rename_i t x y z ho
    split
    · rename_i m u v hm hu hv
      refine ok_runU ?_
      unfold execOp; rw [ho]; simp only [ev hm, ev hu, ev hv]
    · trivial
  · rename_i x i ho
    split
    · rename_i vs hv
      split
      · rename_i v hi
        intro w; unfold execOp; rw [ho]
        have hi' : vs[i]? = some v := by simpa using hi
        simp [ev hv, Instr.extract, hi']
      · trivial
    · trivial
  · rename_i c ho
    obtain ⟨callee, args, argTypes⟩ := c
    split
    · rename_i f hcal
      simp only at hcal
      subst hcal
      split
      · rename_i vs hv
        split
        · rename_i hm
          refine aCallK_ok fun w => ?_
          have e1 : args.map a.eval = vs.toArray := by rw [← Array.toList_inj, Array.toList_map, evs_ok hF hC hv]
          unfold execOp; rw [ho]
          have hcf := callFunc_run hc hm
          simp [resolve, Act.eval, Deferred.ofValue, e1, invoke, hcf]
        · trivial
      · trivial
    · rename_i x hx hcal
      simp only at hcal
      subst hcal
      split
      · rename_i v vs hv hvs
        refine aCallV_ok hc fun w fn first cap he => ?_
        have e1 : args.map a.eval = vs.toArray := by rw [← Array.toList_inj, Array.toList_map, evs_ok hF hC hvs]
        unfold execOp; rw [ho]
        simp [resolve, ev hv, he, Deferred.ofValue, e1, invoke]
      · trivial
    · rename_i b hcal
      simp only at hcal
      subst hcal
      split
      · rename_i vs hv
        have e1 : args.map a.eval = vs.toArray := by rw [← Array.toList_inj, Array.toList_map, evs_ok hF hC hv]
        refine aBuiltin_ok (cs := args.map fun | .const _ => true | _ => false) ?_
        unfold execOp; rw [ho]
        simp only [resolve, e1]
        rfl
      · trivial
    · trivial
  · trivial
end
end Go.Proofs.Ytaneeadpjelomaa.CF
