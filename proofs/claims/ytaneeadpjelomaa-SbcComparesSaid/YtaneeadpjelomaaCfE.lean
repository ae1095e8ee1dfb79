/- == between structs and arrays of plain cells. -/
import Derived.Test.YtaneeadpjelomaaCfM
namespace Go.Proofs.Ytaneeadpjelomaa.CF
open Go

def plainK : Kd → Bool
  | .i _ | .b | .s => true
  | _ => false
/-- the cells of a type, if they are all plain -/
def flatFs (rec : TypeId → Option (List Kd)) (P : Program) : List Field → Nat → Option (List Kd)
  | [], _ => some []
  | f :: r, off => match f.name == "_", Nat.beq f.offset off, rec f.type with
    | false, true, some ks => match Nat.beq (sizeT P f.type) ks.length, flatFs rec P r (off + ks.length) with
      | true, some l => some (ks ++ l)
      | _, _ => none
    | _, _, _ => none
def repK : Nat → List Kd → List Kd
  | 0, _ => []
  | n + 1, ks => ks ++ repK n ks
def flatK (P : Program) : Nat → TypeId → Option (List Kd)
  | 0, _ => none
  | d + 1, t => match P.underlying t with
    | some .bool => some [.b]
    | some (.int k) => some [.i k]
    | some .string => some [.s]
    | some (.struct fs) => match P.stoodInHeld t with
      | false => flatFs (flatK P d) P fs.toList 0
      | true => none
    | some (.array n e) => match flatK P d e with
      | some ks => match Nat.beq (sizeT P e) ks.length with
        | true => some (repK n ks)
        | false => none
      | none => none
    | _ => none
def valOf (P : Program) (t : TypeId) (xs : List Value) : Value := match kd P t with | .ag => .agg xs.toArray | _ => xs.headD (.tuple #[])
theorem FitL.length : ∀ {ks : List Kd} {vs : List Value}, FitL ks vs → ks.length = vs.length
  | [], [], _ => rfl
  | _ :: _, _ :: _, h => by simp [FitL.length h.2]
  | [], _ :: _, h => h.elim
  | _ :: _, [], h => h.elim
theorem FitL.append : ∀ {ks ls : List Kd} {vs : List Value}, FitL (ks ++ ls) vs → FitL ks (vs.take ks.length) ∧ FitL ls (vs.drop ks.length)
  | [], _, _, h => ⟨trivial, h⟩
  | _ :: ks, ls, v :: vs, h => by
    have := FitL.append (ks := ks) h.2
    exact ⟨⟨h.1, this.1⟩, this.2⟩
  | _ :: _, _, [], h => h.elim
attribute [local instance] Classical.propDecidable
section
variable {P : Program}
theorem eqFields_run (w : World) (D : Nat) (rec : TypeId → Option (List Kd)) (X Y : List Value)
    (hrec : ∀ t ks, rec t = some ks → ∀ a b, FitL ks a → FitL ks b → (Op.equalIn D t (valOf P t a) (valOf P t b)).run P w = .ok (decide (a = b)) w)
    (hpart : ∀ t ks, rec t = some ks → sizeT P t = ks.length → ∀ (Z : List Value) off, FitL ks ((Z.drop off).take ks.length) → (part t Z.toArray off).run P w = .ok (valOf P t ((Z.drop off).take ks.length)) w) :
    ∀ (fs : List Field) (off : Nat) (l : List Kd), flatFs rec P fs off = some l → FitL l (X.drop off) → FitL l (Y.drop off) →
      (Op.eqFields D X.toArray Y.toArray fs).run P w = .ok (decide (X.drop off = Y.drop off)) w
  | [], off, l, h, hx, hy => by
    obtain rfl := Option.some.inj h
    have e1 : X.drop off = [] := by cases hX : X.drop off with | nil => rfl | cons a b => rw [hX] at hx; exact hx.elim
    have e2 : Y.drop off = [] := by cases hY : Y.drop off with | nil => rfl | cons a b => rw [hY] at hy; exact hy.elim
    rw [e1, e2]; rfl
  | f :: r, off, l, h, hx, hy => by
    simp only [flatFs] at h
    split at h
    · rename_i ks hn ho hr
      split at h
      · rename_i l' hsz hl'
        obtain rfl := Option.some.inj h
        have ho' : f.offset = off := Nat.eq_of_beq_eq_true ho
        have hsz' : sizeT P f.type = ks.length := Nat.eq_of_beq_eq_true hsz
        have hx2 := FitL.append hx
        have hy2 := FitL.append hy
        have hne : f.name ≠ "_" := by simpa using hn
        simp only [Op.eqFields]
        rw [if_pos hne]
        simp only [Sem.run_bind]
        rw [ho', hpart _ _ hr hsz' X off hx2.1]
        simp only [Result.andThen_ok]
        rw [hpart _ _ hr hsz' Y off hy2.1]
        simp only [Result.andThen_ok]
        rw [hrec _ _ hr _ _ hx2.1 hy2.1]
        simp only [Result.andThen_ok]
        have ex : X.drop off = (X.drop off).take ks.length ++ X.drop (off + ks.length) := by rw [← List.drop_drop, List.take_append_drop]
        have ey : Y.drop off = (Y.drop off).take ks.length ++ Y.drop (off + ks.length) := by rw [← List.drop_drop, List.take_append_drop]
        have lx : ((X.drop off).take ks.length).length = ks.length := (FitL.length hx2.1).symm
        have ly : ((Y.drop off).take ks.length).length = ks.length := (FitL.length hy2.1).symm
        by_cases hd : (X.drop off).take ks.length = (Y.drop off).take ks.length
        · rw [decide_eq_true hd]
          simp only [Bool.not_true, Bool.false_eq_true, if_false]
          rw [eqFields_run w D rec X Y hrec hpart r _ _ hl' (by rw [← List.drop_drop]; exact hx2.2) (by rw [← List.drop_drop]; exact hy2.2)]
          congr 1
          rw [decide_eq_decide]
          constructor
          · intro q; rw [ex, ey, hd, q]
          · intro q; rw [← List.drop_drop, ← List.drop_drop, q]
        · rw [decide_eq_false hd]
          simp only [Bool.not_false, if_true, Sem.run_pure]
          congr 1
          symm
          rw [decide_eq_false_iff_not]
          intro q; exact hd (by rw [q])
      · cases h
    · cases h
theorem FitL.rep : ∀ {n : Nat} {ks : List Kd} {vs : List Value}, FitL (repK n ks) vs → ∀ i, i < n → FitL ks ((vs.drop (i * ks.length)).take ks.length)
  | n + 1, ks, vs, h, 0, _ => by simpa using (FitL.append h).1
  | n + 1, ks, vs, h, i + 1, hi => by
    have := FitL.rep (FitL.append h).2 i (by omega)
    rw [List.drop_drop] at this
    rw [show (i + 1) * ks.length = ks.length + i * ks.length by rw [Nat.succ_mul, Nat.add_comm]]
    exact this
theorem repK_length : ∀ (n : Nat) (ks : List Kd), (repK n ks).length = n * ks.length
  | 0, ks => by simp [repK]
  | n + 1, ks => by simp only [repK, List.length_append, repK_length n ks, Nat.succ_mul]; omega
theorem kd_struct {t : TypeId} {fs : Array Field} (h : P.underlying t = some (.struct fs)) : kd P t = .ag := by simp [kd, h, kdOf]
theorem kd_array {t e : TypeId} {n : Nat} (h : P.underlying t = some (.array n e)) : kd P t = .ag := by simp [kd, h, kdOf]
theorem part_val {d : Nat} {t : TypeId} {ks : List Kd} (h : flatK P d t = some ks) (hsz : sizeT P t = ks.length) (Z : List Value) (off : Nat) (w : World) (hf : FitL ks ((Z.drop off).take ks.length)) :
    (part t Z.toArray off).run P w = .ok (valOf P t ((Z.drop off).take ks.length)) w := by
  have hlen := FitL.length hf
  cases d with
  | zero => cases h
  | succ d =>
    simp only [flatK] at h
    have scal : ∀ (de : TypeDesc) (k : Kd), P.underlying t = some de → kdOf de = k → k ≠ .ag → ks = [k] → (part t Z.toArray off).run P w = .ok (valOf P t ((Z.drop off).take ks.length)) w := by
      intro de k hu hk hne hks
      subst hks
      rw [part_run hu, hk]
      have hkd : kd P t = k := by simp [kd, hu, hk]
      have hlt : off < Z.length := by
        rw [List.length_take, List.length_drop] at hlen
        simp at hlen; omega
      have e : (Z.drop off).take 1 = [Z[off]] := by
        rw [List.drop_eq_getElem_cons hlt]; rfl
      simp only [List.length_singleton, e, valOf, hkd]
      cases k <;> first | (exact absurd rfl hne) | simp [hlt]
    split at h
    · rename_i hu; exact scal _ _ hu rfl (by simp [kdOf]) (Option.some.inj h).symm
    · rename_i k hu; exact scal _ _ hu rfl (by simp [kdOf]) (Option.some.inj h).symm
    · rename_i hu; exact scal _ _ hu rfl (by simp [kdOf]) (Option.some.inj h).symm
    · rename_i fs hu
      rw [part_run hu]
      simp only [kdOf, valOf, kd_struct hu, hsz]
      congr 2
      rw [← Array.toList_inj]
      simp [List.extract_eq_take_drop]
    · rename_i n e hu
      rw [part_run hu]
      simp only [kdOf, valOf, kd_array hu, hsz]
      congr 2
      rw [← Array.toList_inj]
      simp [List.extract_eq_take_drop]
    · cases h
theorem eqIn_run (w : World) : ∀ (d : Nat) (t : TypeId) (ks : List Kd), flatK P d t = some ks → ∀ (D : Nat), d ≤ D → ∀ a b, FitL ks a → FitL ks b →
    (Op.equalIn D t (valOf P t a) (valOf P t b)).run P w = .ok (decide (a = b)) w
  | d + 1, t, ks, h, D, hD, a, b, ha, hb => by
    obtain ⟨D, rfl⟩ : ∃ m, D = m + 1 := ⟨D - 1, by omega⟩
    simp only [flatK] at h
    split at h
    · rename_i hu
      obtain rfl := Option.some.inj h
      match a, b, ha, hb with
      | [x], [y], ha, hb =>
        cases x <;> first | (cases ha.1; done) | skip
        cases y <;> first | (cases hb.1; done) | skip
        rename_i p q
        have hk : kd P t = .b := by simp [kd, hu, kdOf]
        simp only [valOf, hk, List.headD_cons]
        rw [run_equalIn_bool' w D t p q hu]
        congr 1
        cases p <;> cases q <;> simp <;> (first | rfl | (intro q; cases q))
    · rename_i k hu
      obtain rfl := Option.some.inj h
      match a, b, ha, hb with
      | [x], [y], ha, hb =>
        cases x <;> first | (cases ha.1; done) | skip
        cases y <;> first | (cases hb.1; done) | skip
        rename_i k1 p k2 q
        have e1 := eqK_eq ha.1
        have e2 := eqK_eq hb.1
        subst e1; subst e2
        have hk : kd P t = .i k := by simp [kd, hu, kdOf]
        simp only [valOf, hk, List.headD_cons]
        rw [run_equalIn_int w D t k k p q hu]
        congr 1
        by_cases h : p = q <;> simp [h]
    · rename_i hu
      obtain rfl := Option.some.inj h
      match a, b, ha, hb with
      | [x], [y], ha, hb =>
        cases x <;> first | (cases ha.1; done) | skip
        cases y <;> first | (cases hb.1; done) | skip
        rename_i p q
        have hk : kd P t = .s := by simp [kd, hu, kdOf]
        simp only [valOf, hk, List.headD_cons]
        rw [run_equalIn_string w D t p q hu]
        congr 1
        have := sEq_dec (s := p) (t := q)
        unfold sEq at this
        rw [this]
        by_cases h : p = q <;> simp [h]
    · rename_i fs hu
      split at h
      · rename_i hst
        have hfo : P.fieldsOf t = fs := by simp [Program.fieldsOf, hu]
        simp only [valOf, kd_struct hu]
        rw [run_equalIn_struct w D t _ _ (by rw [hfo]; exact hu) hst, hfo]
        have := eqFields_run (P := P) w D (flatK P d) a b (fun t ks hr a b h1 h2 => eqIn_run w d t ks hr D (by omega) a b h1 h2)
          (fun t ks hr hsz Z off hf => part_val hr hsz Z off w hf) fs.toList 0 ks h (by simpa using ha) (by simpa using hb)
        simpa using this
      · cases h
    · rename_i n e hu
      split at h
      · rename_i ks' hr
        split at h
        · rename_i hsz
          obtain rfl := Option.some.inj h
          have hsz' : sizeT P e = ks'.length := Nat.eq_of_beq_eq_true hsz
          simp only [valOf, kd_array hu]
          have hla : a.length = n * ks'.length := by rw [← FitL.length ha, repK_length]
          have hlb : b.length = n * ks'.length := by rw [← FitL.length hb, repK_length]
          have hs : ∀ w, (sizeOf e).run P w = .ok ks'.length w := by
            intro w
            cases hi : P.info? e with
            | some i => rw [size_run hi, hsz']
            | none =>
              exfalso
              cases d with
              | zero => cases hr
              | succ d =>
                have : P.underlying e = none := by simp [Program.underlying, hi]
                simp only [flatK, this] at hr
                cases hr
          simp only [Op.equalIn, Sem.run_bind, run_underlying hu, Result.andThen_ok]
          rw [hs]
          simp only [Result.andThen_ok]
          rw [Std.Legacy.Range.forIn_eq_forIn_range']
          have hrec := fun x y h1 h2 => eqIn_run w d e ks' hr D (by omega) x y h1 h2
          have loop : ∀ m k, k + m = n → ((forIn (List.range' k m 1) ((none, ()) : Option Bool × Unit) fun i __s => do
              let __do_lift ← part e a.toArray (i * ks'.length)
              let __do_lift_1 ← part e b.toArray (i * ks'.length)
              let __do_lift ← Op.equalIn D e __do_lift __do_lift_1
              if (!__do_lift) = true then pure (ForInStep.done (some false, ())) else pure (ForInStep.yield (none, ())) : Sem (Option Bool × Unit)).run P w) =
              .ok (if a.drop (k * ks'.length) = b.drop (k * ks'.length) then (none, ()) else (some false, ())) w := by
            intro m
            induction m with
            | zero =>
              intro k hk
              have e1 : a.drop (k * ks'.length) = [] := List.drop_of_length_le (by rw [hla]; exact Nat.mul_le_mul_right _ (by omega))
              have e2 : b.drop (k * ks'.length) = [] := List.drop_of_length_le (by rw [hlb]; exact Nat.mul_le_mul_right _ (by omega))
              rw [e1, e2, if_pos rfl]
              rfl
            | succ m ih =>
              intro k hk
              have fa := FitL.rep ha k (by omega)
              have fb := FitL.rep hb k (by omega)
              simp only [List.range'_succ, List.forIn_cons, Sem.run_bind]
              rw [part_val hr hsz' a _ w fa]
              simp only [Result.andThen_ok]
              rw [part_val hr hsz' b _ w fb]
              simp only [Result.andThen_ok]
              rw [hrec _ _ fa fb]
              simp only [Result.andThen_ok]
              have sp : ∀ z : List Value, z.drop (k * ks'.length) = (z.drop (k * ks'.length)).take ks'.length ++ z.drop ((k + 1) * ks'.length) := fun z => by
                rw [Nat.succ_mul, ← List.drop_drop, List.take_append_drop]
              by_cases hd : (a.drop (k * ks'.length)).take ks'.length = (b.drop (k * ks'.length)).take ks'.length
              · rw [decide_eq_true hd]
                simp only [Bool.not_true, Bool.false_eq_true, if_false, Sem.run_pure, Result.andThen_ok]
                rw [ih (k + 1) (by omega)]
                congr 1
                by_cases h2 : a.drop ((k + 1) * ks'.length) = b.drop ((k + 1) * ks'.length)
                · rw [if_pos h2, if_pos (by rw [sp a, sp b, hd, h2])]
                · rw [if_neg h2, if_neg (fun q => h2 (by rw [Nat.succ_mul, ← List.drop_drop, ← List.drop_drop, q]))]
              · rw [decide_eq_false hd]
                simp only [Bool.not_false, if_true, Sem.run_pure, Result.andThen_ok]
                rw [if_neg (fun q => hd (by rw [q]))]
          have l0 := loop n 0 (by omega)
          have hsize : [:n].size = n := by simp [Std.Legacy.Range.size]
          rw [hsize]
          show ((Sem.run P (forIn (List.range' 0 n 1) _ _) w).andThen _) = _
          rw [l0]
          simp only [Nat.zero_mul, List.drop_zero, Result.andThen_ok]
          by_cases hab : a = b
          · rw [if_pos hab, decide_eq_true hab]; rfl
          · rw [if_neg hab, decide_eq_false hab]; rfl
        · cases h
      · cases h
    · cases h
/-- == and != between two of them -/
theorem eq_agg {t : TypeId} {ks : List Kd} {op : BinOp} {x y : Operand} {w : World} {a b : List Value} (h : flatK P 8 t = some ks) (hk : kd P t = .ag) (hm : P.eqGuardType P.depth t = false) (ha : FitL ks a) (hb : FitL ks b) :
    (op = .eql → (do eqGuard op t x y (.agg a.toArray) (.agg b.toArray); binOp op t (.agg a.toArray) (.agg b.toArray) : Sem Value).run P w = .ok (.bool (decide (a = b))) w) ∧
    (op = .neq → (do eqGuard op t x y (.agg a.toArray) (.agg b.toArray); binOp op t (.agg a.toArray) (.agg b.toArray) : Sem Value).run P w = .ok (.bool (!decide (a = b))) w) := by
  have e := eqIn_run (P := P) w 8 t ks h 10000 (by omega) a b ha hb
  simp only [valOf, hk] at e
  constructor
  · rintro rfl
    rw [Sem.run_bind, run_eqGuard_agg w _ _ _ _ _ _ hm]
    simp only [Result.andThen_ok]
    rw [run_eql_struct, e]; rfl
  · rintro rfl
    rw [Sem.run_bind, run_eqGuard_agg w _ _ _ _ _ _ hm]
    simp only [Result.andThen_ok]
    rw [run_neq_struct, e]; rfl
end
theorem eql_rule {P : Program} {t : TypeId} {ks : List Kd} {x y : Operand} {a b : List Value} (h : flatK P 8 t = some ks) (hk : kd P t = .ag) (hm : P.eqGuardType P.depth t = false) (ha : FitL ks a) (hb : FitL ks b) :
    ∃ r : Bool, (r = true ↔ a = b) ∧ ∀ w, (do eqGuard .eql t x y (.agg a.toArray) (.agg b.toArray); binOp .eql t (.agg a.toArray) (.agg b.toArray) : Sem Value).run P w = .ok (.bool r) w :=
  ⟨decide (a = b), by simp, fun _ => (eq_agg (op := .eql) h hk hm ha hb).1 rfl⟩
theorem neq_rule {P : Program} {t : TypeId} {ks : List Kd} {x y : Operand} {a b : List Value} (h : flatK P 8 t = some ks) (hk : kd P t = .ag) (hm : P.eqGuardType P.depth t = false) (ha : FitL ks a) (hb : FitL ks b) :
    ∃ r : Bool, (r = true ↔ a ≠ b) ∧ ∀ w, (do eqGuard .neq t x y (.agg a.toArray) (.agg b.toArray); binOp .neq t (.agg a.toArray) (.agg b.toArray) : Sem Value).run P w = .ok (.bool r) w :=
  ⟨!decide (a = b), by simp, fun _ => (eq_agg (op := .neq) h hk hm ha hb).2 rfl⟩
end Go.Proofs.Ytaneeadpjelomaa.CF
