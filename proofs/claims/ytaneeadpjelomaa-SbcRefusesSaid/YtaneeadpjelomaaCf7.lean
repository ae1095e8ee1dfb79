import Derived.Test.YtaneeadpjelomaaCf6
/- The condition generator, part 7: what part 6 says of each operation holds. -/
namespace Go.Proofs.Ytaneeadpjelomaa.CF
open Go

section
variable {P : Program} {o : Oper} {a : Act}
theorem ok_val {s : Sem Value} (h : execOp a.eval o = (do let x ← s; pure (.value x))) {v : Value} (hs : ∀ w, s.run P w = .ok v w) : An.Ok P o a (.pv v) := by
  intro w; rw [h]; simp [hs w]
theorem ok_po {s : Sem Value} (h : execOp a.eval o = (do let x ← s; pure (.value x))) {v : Value} {ob : Prop} (hs : ob → ∀ w, s.run P w = .ok v w) : An.Ok P o a (.po ob v) := by
  intro hob w; rw [h]; simp [hs hob w]
theorem ok_rd {s : Sem Value} (h : execOp a.eval o = (do let x ← s; pure (.value x))) {k : Kd} {rel : World → Value → Prop} (hs : ∀ w v, rel w v → s.run P w = .ok v w) : An.Ok P o a (.rd k rel) := by
  intro w x hr; rw [h]; simp [hs w _ hr]
theorem ok_runK {s : Sem Value} (h : execOp a.eval o = (do let x ← s; pure (.value x))) {k : Kd} : An.Ok P o a (.at k fun w K => RunK P k s w K) := by
  intro w K Q hf
  obtain ⟨x, w1, hr, hK⟩ := hf
  unfold Oper.wp; rw [h]; simp only [Sem.run_bind, hr, Result.andThen_ok, Sem.run_pure, Oper.upon]
  exact ⟨x, rfl, hK⟩
theorem ok_runV {s : Sem Value} (h : execOp a.eval o = (do let x ← s; pure (.value x))) : An.Ok P o a (.ac fun w K => RunK P .v s w K) := by
  intro w K Q hf
  obtain ⟨x, w1, hr, hK⟩ := hf
  unfold Oper.wp; rw [h]; simp only [Sem.run_bind, hr, Result.andThen_ok, Sem.run_pure, Oper.upon]
  exact ⟨_, rfl, hK⟩
theorem ok_runU {s : Sem Unit} (h : execOp a.eval o = (do s; pure .skip)) : An.Ok P o a (.ac fun w K => RunU P s w (K (.tuple #[]))) := by
  intro w K Q hf
  obtain ⟨w1, hr, hK⟩ := hf
  unfold Oper.wp; rw [h]; simp only [Sem.run_bind, hr, Result.andThen_ok, Sem.run_pure, Oper.upon]
  exact ⟨_, rfl, hK⟩
theorem ok_new {s : Sem Value} (h : execOp a.eval o = (do let x ← s; pure (.value x))) {ob : Obj} (hs : ∀ w, s.run P w = .ok (.pointer (some ⟨w.heap.size, 0, none⟩)) (w.alloc ob)) : An.Ok P o a (.at .a fun w K => New ob w K) := by
  intro w K Q hf
  unfold Oper.wp; rw [h]; simp only [Sem.run_bind, hs w, Result.andThen_ok, Sem.run_pure, Oper.upon]
  exact ⟨_, rfl, hf _ _ rfl rfl⟩
theorem run_eqGuard_int (op : BinOp) (t : TypeId) (x y : Operand) (u v : Value) (h : (match u with | .nilIface => False | .agg _ => False | _ => True)) (w : World) :
    (eqGuard op t x y u v).run P w = .ok () w := by
  have : eqGuard op t x y u v = pure () := by
    cases op <;> first | rfl | (cases u <;> first | rfl | exact h.elim)
  rw [this]; rfl
theorem binOp_int {op : BinOp} {t : TypeId} {k : IntKind} {x y : Int} (h1 : op ≠ .shl) (h2 : op ≠ .shr) : binOp op t (.int k x) (.int k y) = (match op with
    | .add | .sub | .mul => Op.intArith op k x y
    | .quo | .rem => Op.intDiv op k x y
    | .and | .or | .xor | .andNot => Op.intBits op k x y
    | _ => Op.intCmp op x y) := by
  cases op <;> first | (exact absurd rfl h1) | (exact absurd rfl h2) | simp [binOp]
theorem aInt_ok {op : BinOp} {t : TypeId} {k : IntKind} {x y : Int} {s : Sem Value} (h1 : op ≠ .shl) (h2 : op ≠ .shr) (h : execOp a.eval o = (do let x ← s; pure (.value x)))
    (hs : ∀ w, s.run P w = (binOp op t (.int k x) (.int k y)).run P w) : An.Ok P o a (aInt op k x y) := by
  have hb := binOp_int (t := t) (k := k) (x := x) (y := y) h1 h2
  cases op <;> simp only [aInt] <;> first
    | (exact absurd rfl h1) | (exact absurd rfl h2)
    | (refine ok_val h fun w => ?_; rw [hs w, hb]; rfl)
    | (refine ok_po h fun hob w => ?_; rw [hs w, hb]; simp [Op.intDiv, hob])
    | trivial
theorem aBin_ok {op : BinOp} {t : TypeId} {x y : Operand} {ty : TypeId} (ho : o.op = .binOp op t x y ty) : An.Ok P o a (aBin P op t x y (a.eval x) (a.eval y)) := by
  have h : execOp a.eval o = (do let z ← (do eqGuard op t x y (a.eval x) (a.eval y); binOp op t (a.eval x) (a.eval y) : Sem Value); pure (.value z)) := by
    unfold execOp; rw [ho]
  generalize hx : a.eval x = u at h
  generalize hy : a.eval y = v at h
  have nilP : isNilP y = true → v = .pointer none := by
    intro hn
    unfold isNilP at hn
    split at hn
    · rw [← hy]; rfl
    · cases hn
  have nilS : isNilS y = true → v = .slice none 0 0 := by
    intro hn
    unfold isNilS at hn
    split at hn
    · rw [← hy]; rfl
    · cases hn
  cases u with
  | int k p =>
    cases v with
    | int k' q =>
      simp only [aBin]
      have hs : ∀ w, (do eqGuard op t x y (.int k p) (.int k' q); binOp op t (.int k p) (.int k' q) : Sem Value).run P w = (binOp op t (.int k p) (.int k' q)).run P w := by
        intro w; rw [Sem.run_bind, run_eqGuard_int _ _ _ _ _ _ trivial]; rfl
      split
      · split
        · rename_i yk m
          have hq : q = (m : Int) := by
            have : a.eval (.const (.int yk (.ofNat m))) = .int k' q := hy
            injection this with _ this; exact this.symm
          refine ok_val h fun w => ?_
          rw [hs w, hq]
          simp [binOp, Op.shift, bShl, Int.not_lt.2 (Int.natCast_nonneg m)]
        · refine ok_po h fun hob w => ?_
          rw [hs w]
          simp [binOp, Op.shift, bShl, Int.not_lt.2 hob]
      · split
        · rename_i yk m
          have hq : q = (m : Int) := by
            have : a.eval (.const (.int yk (.ofNat m))) = .int k' q := hy
            injection this with _ this; exact this.symm
          refine ok_val h fun w => ?_
          rw [hs w, hq]
          simp [binOp, Op.shift, bShr, Int.not_lt.2 (Int.natCast_nonneg m)]
        · refine ok_po h fun hob w => ?_
          rw [hs w]
          simp [binOp, Op.shift, bShr, Int.not_lt.2 hob]
      · rename_i h1 h2
        split
        · rename_i hk
          obtain rfl := eqK_eq hk
          exact aInt_ok (t := t) (fun e => h1 e) (fun e => h2 e) h hs
        · trivial
    | _ => trivial
  | string p =>
    cases v with
    | string q =>
      simp only [aBin]
      have hs : ∀ w, (do eqGuard op t x y (.string p) (.string q); binOp op t (.string p) (.string q) : Sem Value).run P w = (binOp op t (.string p) (.string q)).run P w := by
        intro w; rw [Sem.run_bind, run_eqGuard_int _ _ _ _ _ _ trivial]; rfl
      split
      · refine ok_val h fun w => ?_; rw [hs w]; simp [binOp, Op.stringOp, sEq]
      · refine ok_val h fun w => ?_; rw [hs w]; simp [binOp, Op.stringOp, sEq]
      · refine ok_po h fun hob w => ?_
        rw [hs w]
        simp only [binOp, Op.stringOp]
        rw [if_neg (by simp [IntKind.max, IntKind.signed, IntKind.bits]; omega)]
        rfl
      · trivial
    | _ => trivial
  | bool p =>
    cases v with
    | bool q =>
      simp only [aBin]
      have hs : ∀ w, (do eqGuard op t x y (.bool p) (.bool q); binOp op t (.bool p) (.bool q) : Sem Value).run P w = (binOp op t (.bool p) (.bool q)).run P w := by
        intro w; rw [Sem.run_bind, run_eqGuard_int _ _ _ _ _ _ trivial]; rfl
      split
      · rename_i hu
        refine ok_val h fun w => ?_; rw [hs w]; simp [binOp, run_equal_bool w t p q hu]
      · rename_i hu
        refine ok_val h fun w => ?_; rw [hs w]; simp [binOp, run_equal_bool w t p q hu]
      · trivial
    | _ => trivial
  | pointer p =>
    simp only [aBin]
    split
    · rename_i hn
      obtain rfl := nilP hn
      have hs : ∀ w, (do eqGuard op t x y (.pointer p) (.pointer none); binOp op t (.pointer p) (.pointer none) : Sem Value).run P w = (binOp op t (.pointer p) (.pointer none)).run P w := by
        intro w; rw [Sem.run_bind, run_eqGuard_int _ _ _ _ _ _ trivial]; rfl
      split
      · rename_i e hu
        have hu' : P.underlying t = some (.pointer (P.pointee t)) := by simp [Program.pointee, hu]
        refine ok_val h fun w => ?_; rw [hs w, run_eql_pointer_nil w t p hu']
      · rename_i e hu
        have hu' : P.underlying t = some (.pointer (P.pointee t)) := by simp [Program.pointee, hu]
        refine ok_val h fun w => ?_; rw [hs w, run_neq_pointer_nil w t p hu']
      · trivial
    · exact ok_rd h fun w v hr => hr
  | slice p n c =>
    simp only [aBin]
    split
    · rename_i hn
      obtain rfl := nilS hn
      have hs : ∀ w, (do eqGuard op t x y (.slice p n c) (.slice none 0 0); binOp op t (.slice p n c) (.slice none 0 0) : Sem Value).run P w = (binOp op t (.slice p n c) (.slice none 0 0)).run P w := by
        intro w; rw [Sem.run_bind, run_eqGuard_int _ _ _ _ _ _ trivial]; rfl
      have he : ∀ e, P.underlying t = some (.slice e) → ∀ w, (Op.equal t (.slice p n c) (.slice none 0 0)).run P w = .ok p.isNone w := by
        intro e hu w
        have key : ∀ d, (Op.equalIn (d + 1) t (.slice p n c) (.slice none 0 0)).run P w = .ok p.isNone w := by
          intro d; cases p <;> simp [Op.equalIn, run_underlying hu]
        exact key 9999
      split
      · rename_i e hu
        refine ok_val h fun w => ?_; rw [hs w]; simp only [binOp]; simp [he e hu w]
      · rename_i e hu
        refine ok_val h fun w => ?_; rw [hs w]; simp only [binOp]; simp [he e hu w]
      · trivial
    · trivial
  | map m =>
    simp only [aBin]
    split
    · rename_i hn
      have hv : v = .map none := by
        unfold isNilM at hn
        split at hn
        · rw [← hy]; rfl
        · cases hn
      subst hv
      have hs : ∀ w, (do eqGuard op t x y (.map m) (.map none); binOp op t (.map m) (.map none) : Sem Value).run P w = (binOp op t (.map m) (.map none)).run P w := by
        intro w; rw [Sem.run_bind, run_eqGuard_int _ _ _ _ _ _ trivial]; rfl
      have he : ∀ k e, P.underlying t = some (.map k e) → ∀ w, (Op.equal t (.map m) (.map none)).run P w = .ok m.isNone w := by
        intro k e hu w
        have key : ∀ d, (Op.equalIn (d + 1) t (.map m) (.map none)).run P w = .ok m.isNone w := by
          intro d; cases m <;> simp [Op.equalIn, run_underlying hu]
        exact key 9999
      split
      · rename_i k e hu
        refine ok_val h fun w => ?_; rw [hs w]; simp only [binOp]; simp [he k e hu w]
      · rename_i k e hu
        refine ok_val h fun w => ?_; rw [hs w]; simp only [binOp]; simp [he k e hu w]
      · trivial
    · trivial
  | agg cs => exact ok_rd h fun w v hr => hr
  | _ => trivial
theorem aLoad_ok {t : TypeId} {x : Operand} (ho : o.op = .load t x) : An.Ok P o a (aLoad P t (a.eval x)) := by
  have h : execOp a.eval o = (do let z ← Instr.loadAt t (a.eval x); pure (.value z)) := by unfold execOp; rw [ho]
  generalize a.eval x = u at h
  unfold aLoad
  split
  · rename_i ad
    split
    · rename_i d hd
      have hl : ∀ w, (Instr.loadAt t (.pointer (some ad))).run P w = (loadVar t ad).run P w := fun w => by simp [Instr.loadAt, Instr.sureAddr]
      split
      · exact ok_rd h fun w v hr => by rw [hl w]; exact hr
      · rename_i k hk
        have hagg : ∀ w, (isAgg t).run P w = .ok false w := by
          intro w
          unfold isAgg
          rw [Sem.run_bind, run_underlying hd]
          cases d <;> first | rfl | (exact absurd rfl hk)
        refine ok_rd h fun w v hr => ?_
        rw [hl w]
        unfold loadVar
        rw [Sem.run_bind, hagg w]
        simp [hr]
    · trivial
  · trivial
theorem aStore_ok {t : TypeId} {x y : Operand} (ho : o.op = .store t x y) : An.Ok P o a (aStore P t (a.eval x) (a.eval y)) := by
  have h : execOp a.eval o = (do Instr.storeAt t (a.eval x) (a.eval y); pure .skip) := by unfold execOp; rw [ho]
  generalize a.eval x = u at h
  generalize a.eval y = v at h
  unfold aStore
  split
  · rename_i ad
    have hl : ∀ w, (Instr.storeAt t (.pointer (some ad)) v).run P w = (storeVar t ad v).run P w := fun w => by simp [Instr.storeAt, Instr.sureAddr]
    split
    · rename_i d hd
      split
      · intro w K Q ⟨w1, hr, hK⟩
        unfold Oper.wp
        rw [h]
        simp only [Sem.run_bind, hl w, hr, Result.andThen_ok, Sem.run_pure, Oper.upon]
        exact ⟨_, rfl, hK⟩
      · split
        · rename_i hsz
          intro w K Q ⟨⟨old, hc⟩, hf, h1, hK⟩
          have hsz' : ∀ w, (sizeOf t).run P w = .ok 1 w := by
            intro w
            unfold sizeT at hsz
            cases hi : P.info? t with
            | none => rw [hi] at hsz; cases hsz
            | some i =>
              rw [hi] at hsz
              have : i.size = 1 := Nat.eq_of_beq_eq_true hsz
              simp [sizeOf, typeInfo, hi, this]
          have hcs : v.cells = #[v] := by cases v <;> first | rfl | cases h1
          have hst : (storeVar t ad v).run P w = .ok () (w.setCell ad v) := by
            unfold storeVar
            rw [Sem.run_bind, hsz' w]
            simp only [Result.andThen_ok, hcs]
            rw [if_neg (by simp)]
            simp only [storeCells, Sem.run_bind, Sem.run_pure, Addr.add, if_true]
            rw [run_store P w ad v .plain h1, hc]
            simp [hf]
          unfold Oper.wp
          rw [h]
          simp only [Sem.run_bind, hl w, hst, Result.andThen_ok, Sem.run_pure, Oper.upon]
          exact ⟨_, rfl, hK _ rfl⟩
        · trivial
    · trivial
  · trivial
theorem size_run {t : TypeId} {i : TypeInfo} (hi : P.info? t = some i) (w : World) : (sizeOf t).run P w = .ok (sizeT P t) w := by
  simp [sizeOf, typeInfo, hi, sizeT]
theorem info_of {t : TypeId} {d : TypeDesc} (h : P.underlying t = some d) : ∃ i, P.info? t = some i := by
  unfold Program.underlying at h
  cases hi : P.info? t with
  | none => rw [hi] at h; cases h
  | some i => exact ⟨i, rfl⟩
theorem isAgg_run {t : TypeId} {d : TypeDesc} (h : P.underlying t = some d) (w : World) : (isAgg t).run P w = .ok (match kdOf d with | .ag => true | _ => false) w := by
  unfold isAgg
  rw [Sem.run_bind, run_underlying h]
  cases d <;> rfl
theorem aConv_ok {s d : TypeId} {x : Operand} (ho : o.op = .convert s d x) : An.Ok P o a (aConv P s d (a.eval x)) := by
  have h : execOp a.eval o = (do let z ← convert s d (a.eval x); pure (.value z)) := by unfold execOp; rw [ho]
  generalize a.eval x = u at h
  unfold aConv
  split
  · rename_i k0 k hs hd
    split
    · rename_i k1 n
      refine ok_val h fun w => ?_
      unfold convert
      simp [run_underlying hs, run_underlying hd, Conv.intToInt]
    · trivial
  · rename_i hs hd
    split
    · refine ok_val h fun w => ?_
      unfold convert
      simp [run_underlying hs, run_underlying hd]
    · trivial
  · exact ok_rd h fun w v hr => hr
  · exact ok_runK h
  · exact ok_runK h
  · trivial
theorem aFieldAddr_ok {t : TypeId} {x : Operand} {i : Nat} (ho : o.op = .fieldAddr t x i) : An.Ok P o a (aFieldAddr P t (a.eval x) i) := by
  have h : execOp a.eval o = (do let z ← Instr.fieldAt t (a.eval x) i; pure (.value z)) := by unfold execOp; rw [ho]
  generalize a.eval x = u at h
  unfold aFieldAddr
  split
  · rename_i ad
    split
    · rename_i fs hu
      split
      · rename_i f hf
        split
        · rename_i hz
          refine ok_val h fun w => ?_
          have hsz : ∃ i, P.info? f.type = some i ∧ i.size ≠ 0 ∨ P.info? f.type = none := by
            cases hi : P.info? f.type with
            | none => exact ⟨default, .inr rfl⟩
            | some i => exact ⟨i, .inl ⟨rfl, fun e => by simp [sizeT, hi, e] at hz⟩⟩
          rcases hsz with ⟨i, ⟨hi, hne⟩ | hi⟩
          · simp [Instr.fieldAt, run_underlying hu, hf, Instr.sureAddr, fieldPlace, sizeOf, typeInfo, hi, hne]
          · simp [sizeT, hi] at hz
        · trivial
      · trivial
    · trivial
  · trivial
theorem part_run {t : TypeId} {d : TypeDesc} (hd : P.underlying t = some d) (cs : Array Value) (off : Nat) (w : World) :
    (part t cs off).run P w = (match kdOf d with | .ag => .ok (.agg (cs.extract off (off + sizeT P t))) w | _ => match cs[off]? with | some v => .ok v w | none => .halt (.stuck "part: no such cell") w) := by
  unfold part
  obtain ⟨i, hi⟩ := info_of hd
  rw [Sem.run_bind, isAgg_run hd]
  simp only [Result.andThen_ok]
  cases hk : kdOf d <;> simp only [Bool.false_eq_true, if_false, if_true] <;> first
    | (simp [size_run hi]; done)
    | (cases cs[off]? <;> simp)
theorem aField_ok {t : TypeId} {x : Operand} {i : Nat} (ho : o.op = .field t x i) : An.Ok P o a (aField P t (a.eval x) i) := by
  have h : execOp a.eval o = (do let z ← Instr.field t (a.eval x) i; pure (.value z)) := by unfold execOp; rw [ho]
  generalize a.eval x = u at h
  unfold aField
  split
  · rename_i cs
    split
    · rename_i fs hu
      split
      · rename_i f hf
        split
        · rename_i d hd
          have hp : ∀ w, (Instr.field t (.agg cs) i).run P w = (part f.type cs f.offset).run P w := fun w => by
            simp [Instr.field, run_underlying hu, hf, asAgg]
          split
          · rename_i hk
            refine ok_val h fun w => ?_
            rw [hp w, part_run hd, hk]
          · rename_i k hk
            refine ok_rd h fun w v hr => ?_
            rw [hp w, part_run hd]
            cases hk2 : kdOf d <;> first | (exact absurd hk2 hk) | simp only [hr]
        · trivial
      · trivial
    · trivial
  · trivial
end
end Go.Proofs.Ytaneeadpjelomaa.CF
