import Derived.LaidEqlPtr
import Derived.Test.YtpmebahhjgkflaaGreatDoorB10
/- Layer 8: what bytes are as a command. -/
namespace Go.Proofs.YtpmebahhjgkflaaGreatDoor
open Go CF
set_option maxRecDepth 100000
def lenB (k n : Nat) : Bool := (!(k == 2 || k == 3) || n == 6) && (!(k == 4 || k == 5) || (n == 6 || n == 10)) && (!(k == 6) || (n == 10 || n == 16)) && (!(Nat.ble 7 k && Nat.ble k 12) || (n == 6 || n == 10 || n == 16)) && (!(k == 13 || k == 15 || k == 16) || n == 10) && (!(k == 14 || k == 18) || n == 16) && (!(k == 17) || n == 12)
theorem LenOk.of {k n : Nat} (h : lenB k n = true) : LenOk k n := by
  unfold lenB at h
  simp only [Bool.and_eq_true, Bool.or_eq_true, Bool.not_eq_true', Bool.or_eq_false_iff, beq_eq_false_iff_ne, beq_iff_eq, Nat.ble_eq, Bool.and_eq_false_iff, ne_eq] at h
  obtain ⟨⟨⟨⟨⟨⟨a, b⟩, c⟩, d⟩, e⟩, f⟩, g⟩ := h
  have bl : ∀ x y : Nat, Nat.ble x y = false → ¬ x ≤ y := fun x y q r => by rw [Nat.ble_eq_true_of_le r] at q; cases q
  have d : (¬ 7 ≤ k ∨ ¬ k ≤ 12) ∨ n = 6 ∨ n = 10 ∨ n = 16 := by
    rcases d with (d | d) | d
    · exact .inl (.inl (bl _ _ d))
    · exact .inl (.inr (bl _ _ d))
    · omega
  exact ⟨by omega, by omega, by omega, by omega, by omega, by omega, by omega⟩
theorem mask_len {op sv : Nat} {m : L8} {b : Bool} (h : maskX op sv = some (m, b)) : lenB (kindX op) m.length = true :=
  mask_cases (P := fun op m => lenB (kindX op) m.length = true) h rfl rfl rfl rfl rfl rfl rfl rfl rfl rfl rfl rfl rfl rfl rfl rfl rfl rfl rfl rfl rfl rfl rfl rfl rfl rfl rfl
theorem mask_size {op sv : Nat} {m : L8} {b : Bool} (h : maskX op sv = some (m, b)) : 6 ≤ m.length ∧ m.length ≤ 16 :=
  mask_cases (P := fun _ m => 6 ≤ m.length ∧ m.length ≤ 16) h ⟨(by decide), (by decide)⟩ ⟨(by decide), (by decide)⟩ ⟨(by decide), (by decide)⟩ ⟨(by decide), (by decide)⟩ ⟨(by decide), (by decide)⟩ ⟨(by decide), (by decide)⟩ ⟨(by decide), (by decide)⟩ ⟨(by decide), (by decide)⟩ ⟨(by decide), (by decide)⟩ ⟨(by decide), (by decide)⟩ ⟨(by decide), (by decide)⟩ ⟨(by decide), (by decide)⟩ ⟨(by decide), (by decide)⟩ ⟨(by decide), (by decide)⟩ ⟨(by decide), (by decide)⟩ ⟨(by decide), (by decide)⟩ ⟨(by decide), (by decide)⟩ ⟨(by decide), (by decide)⟩ ⟨(by decide), (by decide)⟩ ⟨(by decide), (by decide)⟩ ⟨(by decide), (by decide)⟩ ⟨(by decide), (by decide)⟩ ⟨(by decide), (by decide)⟩ ⟨(by decide), (by decide)⟩ ⟨(by decide), (by decide)⟩ ⟨(by decide), (by decide)⟩ ⟨(by decide), (by decide)⟩
theorem iteLe {p : Prop} [Decidable p] {a b n : Nat} (ha : a < n) (hb : b < n) : (if p then a else b) < n := by split <;> assumption
theorem kindX_lt (op : Nat) : kindX op < 256 := by
  unfold kindX
  repeat' (first | exact iteLe (by decide) (by decide) | refine iteLe (by decide) ?_)
def c0C : Cm := ⟨0, false, 0, 0, 0, false, 0, false, false, 0, 0, false, 0, 0, false⟩
def fltS (f b : Int) : Sn := ⟨5, 9216, 0, false, f, b, true, true⟩
def opS : Sn := ⟨5, 8192, 0, false, 0, 7, true, true⟩
def svd (op : Nat) : Bool := op == 94 || op == 95 || op == 131 || op == 158
def svOf (p : L8) : Nat := if svd (bN p 0) then bN p 1 &&& 31 else 0
def madeX (op : Nat) (q : L8) (sv : Nat) : Cm × Sn × Bool := match (fillX { c0C with kind := kindX op } q sv).2 with
  | some (f, b) => (c0C, fltS f b, false)
  | none => ((fillX { c0C with kind := kindX op } q sv).1, sn0, true)
def parseX (p : L8) : Cm × Sn × Bool :=
  if p = [] then (c0C, fltS 0 (-1), false)
  else if svd (bN p 0) = true ∧ p.length < 2 then (c0C, fltS 1 (-1), false)
  else match maskX (bN p 0) (svOf p) with
    | none => (c0C, opS, false)
    | some (m, ok) =>
      if p.length < m.length then (c0C, fltS p.length (-1), false)
      else match oddX (p.take m.length) m 0 with
        | some (i, b) => (c0C, fltS i b, false)
        | none => if ok = false then (c0C, fltS 1 4, false) else madeX (bN p 0) (p.take m.length) (svOf p)
section
variable {w : World} {p : Sl} {l : L8}
theorem fault_spec {f b : Int} {R : Array Value → World → Prop} (h : ∀ w', Grow w w' → R (snv (fltS f b)).toArray w') : Ccdb_Fault f b w R := by
  refine Fcdb_Fault.calls _ _ _ _ (new_rule fun ab w1 hab hb1 hg1 hsz1 => ?_)
  refine storeVar_rule (cells := (snv (fltS f b)).toArray) hb1 i_api_Sense rfl rfl (by simp [snv, Value.oneCell']) fun w2 hb2 hk2 hs2 => ⟨_, loadVar_rule g_api_Sense i_api_Sense rfl (blk_cells hb2), h w2 (hg1.keep hk2 fun i hi q => by omega)⟩
/-- what is handed back -/
theorem pend {R : Array Value → Array Value → Bool → World → Prop} {u : World} {ab sb : Nat} {x y : Array Value} {c : Cm} {s : Sn} {b : Bool} (hg : Grow w u) (ha : Blk u ab x t_api_Cmd) (hs : Blk u sb y t_api_Sense) (xs : x.size = 15) (ys : y.size = 8) (la : w.heap.size ≤ ab) (ls : w.heap.size ≤ sb)
    (hR : ∀ w', Grow w w' → R (cmv c).toArray (snv s).toArray b w') : RunU Tryz.prog (storeVar t_api_Cmd ⟨ab, 0, none⟩ (.agg (cmv c).toArray)) u fun w1 => RunU Tryz.prog (storeVar t_api_Sense ⟨sb, 0, none⟩ (.agg (snv s).toArray)) w1 fun w2 =>
      ∃ res : Array Value, (loadVar t_api_Cmd ⟨ab, 0, none⟩).run Tryz.prog w2 = .ok (.agg res) w2 ∧ ∃ res1 : Array Value, (loadVar t_api_Sense ⟨sb, 0, none⟩).run Tryz.prog w2 = .ok (.agg res1) w2 ∧ R res res1 b w2 := by
  have ne : ab ≠ sb := fun q => by subst q; exact absurd (blk_type ha hs) (by decide)
  refine storeVar_rule (cells := (cmv c).toArray) ha i_api_Cmd rfl xs (by simp [cmv, Value.oneCell']) fun w1 h1 k1 s1 => ?_
  have hs1 := k1.heap hs (fun q => ne q.symm)
  refine storeVar_rule (cells := (snv s).toArray) hs1 i_api_Sense rfl ys (by simp [snv, Value.oneCell']) fun w2 h2 k2 s2 => ?_
  have h12 := k2.heap h1 (fun q => ne q)
  exact ⟨_, loadVar_rule g_api_Cmd i_api_Cmd rfl (blk_cells h12), _, loadVar_rule g_api_Sense i_api_Sense rfl (blk_cells h2), hR w2 ((hg.keep k1 fun i hi q => by omega).keep k2 fun i hi q => by omega)⟩
set_option maxHeartbeats 1000000 in
theorem parse_cmd {R : Array Value → Array Value → Bool → World → Prop} (hp : Rd w 1 p (bv l)) (hR : ∀ w', Grow w w' → R (cmv (parseX l).1).toArray (snv (parseX l).2.1).toArray (parseX l).2.2 w') : Ccdb_Parse p w R := by
  refine Fcdb_Parse.calls _ _ _ ?_
  have hpn := rd_n' hp
  have hcap := hp.cap
  have hnb := hp.nb
  refine new_rule fun ab w1 hab ha1 hg1 hsz1 => new_rule fun sb w2 hsb hs2 hg2 hsz2 => ?_
  have ha2 := hg2.heap ha1 (fun q => q)
  have hg12 := hg1.trans hg2
  generalize hX : parseX l = X at hR
  obtain ⟨xc, xs, xb⟩ := X
  unfold parseX at hX
  have ext : ∀ {c : Cm} {s : Sn} {b : Bool} {u : World}, (c, s, b) = (xc, xs, xb) → Grow w2 u → RunU Tryz.prog (storeVar t_api_Cmd ⟨ab, 0, none⟩ (.agg (cmv c).toArray)) u fun w1 => RunU Tryz.prog (storeVar t_api_Sense ⟨sb, 0, none⟩ (.agg (snv s).toArray)) w1 fun w2 =>
      ∃ res : Array Value, (loadVar t_api_Cmd ⟨ab, 0, none⟩).run Tryz.prog w2 = .ok (.agg res) w2 ∧ ∃ res1 : Array Value, (loadVar t_api_Sense ⟨sb, 0, none⟩).run Tryz.prog w2 = .ok (.agg res1) w2 ∧ R res res1 b w2 := fun {c s b u} e g => by
    injection e with e1 e; injection e with e2 e3
    subst e1; subst e2; subst e3
    exact pend (hg12.trans g) (g.heap ha2 (fun q => q)) (g.heap hs2 (fun q => q)) rfl rfl (by omega) (by have := hg1.size; omega) hR
  have e0 : ((p.n : Int) == 0) = decide (l = []) := by rw [Bool.eq_iff_iff, beq_iff_eq, decide_eq_true_eq, ← List.length_eq_zero_iff]; omega
  rw [e0]
  refine br_dec (fun q => ?_) (fun q => ?_)
  · rw [if_pos q] at hX
    exact fault_spec fun u g => ext (c := c0C) hX g
  rw [if_neg q] at hX
  have hl1 : 1 ≤ l.length := by have := List.length_pos_iff.2 q; omega
  have hp2 := hp.grow hg12
  obtain ⟨ha, hc0⟩ := byteC hp2 (i := 0) (by omega)
  refine ⟨⟨by decide, by omega, ha⟩, _, hc0, ?_⟩
  have hop := bN_lt l 0
  have esv : ((((((bN l 0 : Nat) : Int) == 94) || (((bN l 0 : Nat) : Int) == 95)) || (((bN l 0 : Nat) : Int) == 131)) || (((bN l 0 : Nat) : Int) == 158)) = svd (bN l 0) := by
    unfold svd
    have e : ∀ k : Nat, (((bN l 0 : Nat) : Int) == (k : Int)) = (bN l 0 == k) := fun k => by rw [Bool.eq_iff_iff, beq_iff_eq, beq_iff_eq]; omega
    rw [← e 94, ← e 95, ← e 131, ← e 158]
    rfl
  rw [esv]
  refine letX1 (fun sv u => u = w2 ∧ sv = (svOf l : Int) ∧ ¬ (svd (bN l 0) = true ∧ l.length < 2)) ?_ (fun J => ?_)
  · rintro sv u ⟨rfl, rfl, hns⟩
    rw [if_neg hns] at hX
    refine usage_spec fun ms ok v hgv hm => ?_
    cases hmx : maskX (bN l 0) (svOf l) with
    | none =>
      rw [hmx] at hX hm
      obtain ⟨rfl, rfl⟩ := hm
      exact br_t rfl (ext (c := c0C) (s := opS) hX hgv)
    | some mo =>
      obtain ⟨m, okm⟩ := mo
      rw [hmx] at hX hm
      obtain ⟨hmr, hmA, rfl⟩ := hm
      dsimp only at hX
      have hmn := rd_n' hmr
      have hms := mask_size hmx
      refine br_f (by cases hA : ms.A with | none => rw [hA] at hmA; cases hmA | some a => rfl) ?_
      have elt : (decide ((p.n : Int) < (ms.n : Int))) = decide (l.length < m.length) := by rw [decide_eq_decide]; omega
      rw [elt]
      refine br_dec (fun q => ?_) (fun q => ?_)
      · rw [if_pos q] at hX
        rw [← hpn]
        exact fault_spec fun u g => ext (c := c0C) hX (hgv.trans g)
      rw [if_neg q] at hX
      have hpv := hp2.grow hgv
      have hcut : Rd v 1 ⟨cutA p.A p.c 0 1, ((ms.n : Int).toNat - 0), p.c - 0⟩ (bv (l.take m.length)) := by
        have := hpv.cutB (l := 0) (k := m.length) (Nat.zero_le _) (by omega)
        rw [List.drop_zero, Nat.sub_zero] at this
        have e : ((ms.n : Int).toNat - 0) = m.length := by omega
        rw [e]; exact this
      refine ⟨⟨by omega, by omega, by omega, hcap⟩, odd_spec hcut hmr ?_⟩
      cases hox : oddX (l.take m.length) m 0 with
      | some ib =>
        obtain ⟨i, b⟩ := ib
        rw [hox] at hX
        dsimp only at hX ⊢
        refine br_t (by rw [decide_eq_true_eq]; omega) ?_
        exact fault_spec fun u g => ext (c := c0C) hX (hgv.trans g)
      | none =>
        rw [hox] at hX
        dsimp only at hX ⊢
        refine br_f rfl ?_
        cases ok with
        | false =>
          rw [if_pos rfl] at hX
          exact br_t rfl (fault_spec fun u g => ext (c := c0C) hX (hgv.trans g))
        | true =>
          rw [if_neg (by decide)] at hX
          refine br_f rfl (kindOp_spec (new_rule fun cb w3 hcb hc3 hg3 hsz3 => ?_))
          refine storeVar_rule (cells := (cmv { c0C with kind := kindX (bN l 0) }).toArray) hc3 i_api_Cmd rfl rfl (by simp [cmv, Value.oneCell']) fun w4 hc4 hk4 hs4 => ?_
          have hg4 : Grow v w4 := hg3.keep hk4 fun i hi q => by omega
          have hcutb : ∀ a, cutA p.A p.c 0 1 = some a → a.block ≠ cb := fun a hac q => by
            have hne : bv (l.take m.length) ≠ [] := fun e => by
              have := congrArg List.length e
              rw [bv_length, List.length_take, List.length_nil] at this; omega
            obtain ⟨a', ha', hcl⟩ := hcut.at_ hne
            have : cutA p.A p.c 0 1 = some a' := ha'
            rw [this] at hac; injection hac with hac
            subst hac
            have := cell_lt (hcl 0 _ (List.getElem?_eq_getElem (by rw [bv_length, List.length_take]; omega)))
            rw [add_block] at this
            omega
          have hlen : (l.take m.length).length = m.length := by rw [List.length_take]; omega
          refine fill_spec (c := { c0C with kind := kindX (bN l 0) }) hc4 (hcut.grow hg4) hcutb (LenOk.of (by rw [hlen]; exact mask_len hmx)) (kindX_lt _) fun w5 hc5 hk5 => ?_
          have hg5 : Grow v w5 := hg4.keep hk5 fun i hi q => by omega
          have hX : madeX (bN l 0) (l.take m.length) (svOf l) = (xc, xs, xb) := hX
          unfold madeX at hX
          cases hf : (fillX { c0C with kind := kindX (bN l 0) } (l.take m.length) (svOf l)).2 with
          | some fb =>
            obtain ⟨f, b⟩ := fb
            rw [hf] at hX
            refine br_t (by rw [decide_eq_true_eq]; omega) ?_
            exact fault_spec fun u g => ext (c := c0C) hX ((hgv.trans hg5).trans g)
          | none =>
            rw [hf] at hX
            dsimp only at hX
            generalize (fillX { c0C with kind := kindX (bN l 0) } (l.take m.length) (svOf l)).1 = d at hc5 hX
            refine br_f rfl ⟨_, cLoad (c := d) (blk_cells hc5), ?_⟩
            exact ext (c := d) (s := sn0) hX (hgv.trans hg5)
  · cases hsv : svd (bN l 0) with
    | true =>
      refine br_t rfl ?_
      have e2 : (decide ((p.n : Int) < 2)) = decide (l.length < 2) := by rw [decide_eq_decide]; omega
      rw [e2]
      refine br_dec (fun q => ?_) (fun q => ?_)
      · rw [if_pos ⟨hsv, q⟩] at hX
        exact fault_spec fun u g => ext (c := c0C) hX g
      · obtain ⟨_, hc1⟩ := byteC hp2 (i := 1) (by omega)
        refine ⟨⟨by decide, by omega, ha⟩, _, hc1, J _ _ ⟨rfl, ?_, fun r => q r.2⟩⟩
        unfold svOf
        rw [hsv, if_pos rfl]
        exact andN8 (bN_lt l 1) (m := 31) (by decide)
    | false =>
      refine br_f rfl (J _ _ ⟨rfl, ?_, fun r => by rw [hsv] at r; exact absurd r.1 (by decide)⟩)
      unfold svOf
      rw [hsv]; rfl
end
end Go.Proofs.YtpmebahhjgkflaaGreatDoor

/- Layer 16: a command of a nexus, up to what does it. -/
namespace Go.Proofs.YtpmebahhjgkflaaGreatDoor
open Go CF
set_option maxRecDepth 100000
inductive HeadX where
  | bad (s : Sn)
  | told (c : Nat)
  | conflict
  | prot
  | run (c : Cm)
def freeK (k : Nat) : Bool := k == 3 || k == 17 || k == 2
def headX (s : USt) (n : Nat) (l : L8) : HeadX :=
  if (parseX l).2.2 = false then .bad (parseX l).2.1
  else match peekX (s.q n), freeK (parseX l).1.kind with
    | some c, false => .told c
    | _, _ => if conflictT s.tab n (classX (parseX l).1.kind) = true then .conflict else if (altersX (parseX l).1.kind && s.now.swp) = true then .prot else .run (parseX l).1
def bumpU (s : USt) : USt := { s with count := s.count + 1 }
def toldU (s : USt) (n : Nat) : USt := { s with q := fun t => if t = n then nextX (s.q n) else s.q t }
/-- a result is handed back -/
def FinR (ab : Nat) (R : Array Value → World → Prop) (g : Array Value) (v : World) : Prop := RunU Tryz.prog (storeVar t_api_Result ⟨ab, 0, none⟩ (.agg g)) v fun w' => ∃ res : Array Value, (loadVar t_api_Result ⟨ab, 0, none⟩).run Tryz.prog w' = .ok (.agg res) w' ∧ R res w'
section
variable {w u v : World} {N N' S : Nat → Prop} {pw i n : Nat} {a : UA} {s s1 : USt} {st st1 : Wst} {F : Int → Bool} {ℓ ℓ' : Nat → Option Nat} {us : List (UA × USt)} {p out : Sl} {l : L8}
theorem rowT_not {t : TypeId} (h1 : t ≠ t_uint16) (h2 : t ≠ t_api_Reg) (h3 : t ≠ t_p_unit_Unit) : ¬ rowT t := fun q => by
  rcases q with q | q | q
  · exact h1 q
  · exact h2 q
  · exact h3 q
theorem Sys.fresh (H : Sys w ℓ pw st F us) {b : Nat} (hb : w.heap.size ≤ b) : ℓ b = none := by
  cases hq : ℓ b with
  | none => rfl
  | some x => have := H.lt b (by rw [hq]; exact Option.some_ne_none _); omega
/-- a local block is written over -/
theorem Sys.local1 (H : Sys u ℓ pw st F us) {b : Nat} {cs : Array Value} {t : TypeId} (hb : Blk u b cs t) (hn : ℓ b = none) (k : Keep (fun k => k = b) u v) (ht : ¬ rowT t) (ht2 : t ≠ t_uint8) : Sys v ℓ pw st F us := H.loc k (Local.one hb hn ht ht2)
theorem FinR.of {ab x : Nat} {sn : Sn} {d : Sl} {cs : Array Value} {R : Array Value → World → Prop} (hb : Blk v ab cs t_api_Result) (hs : cs.size = 10) (h : ∀ v', Keep (fun k => k = ab) v v' → R (rsv x sn d).toArray v') : FinR ab R (rsv x sn d).toArray v := ret_rule hb hs h
/-- a result is handed back, and all else stays -/
theorem FinR.sys {ab x : Nat} {sn : Sn} {d : Sl} {cs : Array Value} {R : Array Value → World → Prop} (H : Sys v ℓ pw st F us) (hm : Mv w v ℓ' ℓ) (hw : w.heap.size ≤ ab) (hn : ℓ ab = none) (hb : Blk v ab cs t_api_Result) (hs : cs.size = 10)
    (h : ∀ v', Keep (fun k => k = ab) v v' → Mv w v' ℓ' ℓ → Sys v' ℓ pw st F us → R (rsv x sn d).toArray v') : FinR ab R (rsv x sn d).toArray v :=
  FinR.of hb hs fun v' k => h v' k (hm.loc k fun b hb q => by omega) (H.local1 hb hn k (rowT_not (by decide) (by decide) (by decide)) (by decide))
theorem do_gen {R : Array Value → World → Prop} (H : Sys w ℓ pw st F us) (hi : i < us.length) (he : us[i] = (a, s)) (hn : n < 8) (hct : s.count < 1000000000000) (hp : RdX w ℓ 1 p (bv l))
    (hstart : ∀ u, Mv w u ℓ ℓ → Sys u ℓ pw st F (us.set i (a, bumpU s)) → ∀ K : Int → World → Prop, (∀ u' ℓ', Mv u u' ℓ ℓ' → Sys u' ℓ' pw st1 F (us.set i (a, s1)) → K 0 u') → Cunit_Unit_Start (some ⟨a.ub, 0, none⟩) u K)
    (hR : ∀ ℓ1, match headX s1 n l with
      | .bad sn => ∀ u, Mv w u ℓ ℓ1 → Sys u ℓ1 pw st1 F (us.set i (a, s1)) → R (rsv 2 sn nilS).toArray u
      | .told c => ∀ u, Mv w u ℓ ℓ1 → Sys u ℓ1 pw st1 F (us.set i (a, toldU s1 n)) → R (rsv 2 ⟨6, c, 0, false, 0, 0, false, false⟩ nilS).toArray u
      | .conflict => ∀ u, Mv w u ℓ ℓ1 → Sys u ℓ1 pw st1 F (us.set i (a, s1)) → R (rsv 24 sn0 nilS).toArray u
      | .prot => ∀ u, Mv w u ℓ ℓ1 → Sys u ℓ1 pw st1 F (us.set i (a, s1)) → R (rsv 2 ⟨7, 9984, 0, false, 0, 0, false, false⟩ nilS).toArray u
      | .run c => ∀ u ab, Mv w u ℓ ℓ1 → Sys u ℓ1 pw st1 F (us.set i (a, s1)) → Blk u ab z10 t_api_Result → w.heap.size ≤ ab → ℓ1 ab = none → Cunit_Unit_run (some ⟨a.ub, 0, none⟩) (n : Int) (cmv c).toArray out u (FinR ab R)) : Cunit_Unit_Do (some ⟨a.ub, 0, none⟩) (n : Int) p out w R := by
  refine Funit_Unit_Do.calls _ _ _ _ _ _ (new_rule fun ab w0 hab hb0 hg0 hs0 => ?_)
  have hb0 : Blk w0 ab z10 t_api_Result := hb0
  have hab' : w.heap.size ≤ ab := by omega
  have hfab : ℓ ab = none := H.fresh hab'
  have H0 := H.grow hg0
  obtain ⟨hU, hown⟩ := H0.at hi he
  obtain ⟨z1, z2, z3, z4, z5, z6, z7⟩ := set7 a
  refine ⟨fun _ => rfl, some ⟨a.dv, 0, none⟩, fun _ => hU.cellU fun P => rfl, br_f (by simp; omega) ⟨rfl, ?_⟩⟩
  rw [show (gA (some (⟨a.ub, 0, none⟩ : Addr))).add 15 = ⟨a.ub, 15, none⟩ by rw [gA, add0]]
  obtain ⟨P, hP1, hP2⟩ := hU.unit
  refine add64_spec (o := 15) (n := (s.count : Int)) (s := ((s.count + 1 : Nat) : Int)) hP1 rfl (by rw [w64 (by omega) (by omega)]; omega) fun w1 hb1 hk1 hs1 => ?_
  have sf : Safe w0 (fun k => ℓ k ≠ none) fun b => b = a.ub := Safe.sub fun b _ q => by rw [q, hown _ z1]; exact Option.some_ne_none _
  have hU1 : IsU w1 (fun k => ℓ k ≠ none) pw a (bumpU s) := hU.unitC (on := s.on) (lk := s.lock) (fl := s.fault) (ct := s.count + 1) (ps := s.peers) hk1 sf (fun b _ hne q => hne q) (fun _ q => .inl q) ⟨P, hb1, hP2.step (.inr (.inr rfl)) hk1 sf fun _ q => .inl q⟩
  obtain ⟨m1, H1⟩ := H0.putA hi he hk1 (fun b _ q => by rw [q]; exact z1) hU1
  have hi1 : i < (us.set i (a, bumpU s)).length := by rw [List.length_set]; exact hi
  have m01 : Mv w w1 ℓ ℓ := (Mv.grow hg0).trans m1
  refine hstart w1 m01 H1 _ fun w2 ℓ2 m12 H2 => br_f rfl ?_
  have hR := hR ℓ2
  have m02 := m01.trans m12
  have hab2 : Blk w2 ab z10 t_api_Result := (m1.trans m12).heap hb0 hfab
  have hfab : ℓ2 ab = none := (m12.lab ab (lt_of_heap (m1.heap hb0 hfab))).trans hfab
  have hi1 : i < (us.set i (a, s1)).length := by rw [List.length_set]; exact hi
  refine parse_cmd (m02.rdX hp).rd fun w3 hg3 => ?_
  have m03 := m02.go hg3
  have H3 := H2.grow hg3
  have hab3 : Blk w3 ab z10 t_api_Result := hg3.heap hab2 (fun q => q)
  generalize hX : parseX l = X
  obtain ⟨c, sn, ok⟩ := X
  unfold headX at hR
  rw [hX] at hR
  dsimp only
  refine new_rule fun cb w4 hcb hb4 hg4 hs4 => new_rule fun sb w5 hsb hb5 hg5 hs5 => ?_
  have hcn : ab ≠ cb ∧ ab ≠ sb := by
    have := lt_of_heap hab3
    have := hg4.size
    omega
  refine storeVar_rule (cells := (cmv c).toArray) (hg5.heap hb4 (fun q => q)) i_api_Cmd rfl rfl (by simp [cmv, Value.oneCell']) fun w6 hb6 hk6 hs6 => ?_
  have hb56 := hk6.heap hb5 (fun q => by omega)
  refine storeVar_rule (cells := (snv sn).toArray) hb56 i_api_Sense rfl rfl (by simp [snv, Value.oneCell']) fun w7 hb7 hk7 hs7 => ?_
  have hg37 : Grow w3 w7 := (((hg4.trans hg5).keep hk6 fun i hi q => by omega).keep hk7 fun i hi q => by have := hg4.size; omega)
  have hb67 : Blk w7 cb (cmv c).toArray t_api_Cmd := hk7.heap hb6 (fun q => by omega)
  have m07 := m03.go hg37
  have H7 := H3.grow hg37
  have hab7 : Blk w7 ab z10 t_api_Result := hg37.heap hab3 (fun q => q)
  have c0 : ∀ {v : World}, Blk v cb (cmv c).toArray t_api_Cmd → v.cell? ((⟨cb, 0, none⟩ : Addr).add 0) = some (.int .u8 (c.kind : Int)) := fun q => by rw [add0, q.cell]; rfl
  cases ok with
  | false =>
    refine br_t rfl ⟨(snv sn).toArray, loadVar_rule (cs := snv sn) g_api_Sense i_api_Sense rfl (blk_cells hb7), checkU_spec fun w8 hg8 => ?_⟩
    rw [if_pos rfl] at hR
    exact FinR.sys (H7.grow hg8) (m07.go hg8) hab' hfab (hg8.heap hab7 (fun q => q)) rfl fun v k hm hs => hR v hm hs
  | true =>
    rw [if_neg (fun q => Bool.noConfusion q)] at hR
    dsimp only at hR
    refine br_f rfl ⟨(c.kind : Int), c0 hb67, (c.kind : Int), fun _ => c0 hb67, (c.kind : Int), fun _ => c0 hb67, rfl, ?_⟩
    obtain ⟨hU7, hown7⟩ := H7.at hi1 (List.getElem_set_self _)
    refine ⟨some ⟨a.qb, 0, none⟩, hU7.cellU fun P => rfl, ?_⟩
    have efree : (!((((c.kind : Int) == 3) || ((c.kind : Int) == 17)) || ((c.kind : Int) == 2))) = !freeK c.kind := by
      unfold freeK
      congr 1
      rw [Bool.eq_iff_iff]
      simp only [Bool.or_eq_true, beq_iff_eq]
      omega
    refine peek_spec hU7.q hn fun w8 hg8 => ?_
    have H8 := H7.grow hg8
    have m08 := m07.go hg8
    have hab8 : Blk w8 ab z10 t_api_Result := hg8.heap hab7 (fun q => q)
    have hb8 : Blk w8 cb (cmv c).toArray t_api_Cmd := hg8.heap hb67 (fun q => q)
    -- what comes behind the attentions
    have rest : ∀ {n5 : Int} {b1 : Bool}, (b1 && !freeK c.kind) = false →
        (match (if conflictT s1.tab n (classX c.kind) = true then HeadX.conflict else if (altersX c.kind && s1.now.swp) = true then .prot else .run c) with
          | .bad sn => ∀ u, Mv w u ℓ ℓ2 → Sys u ℓ2 pw st1 F (us.set i (a, s1)) → R (rsv 2 sn nilS).toArray u
          | .told c => ∀ u, Mv w u ℓ ℓ2 → Sys u ℓ2 pw st1 F (us.set i (a, toldU s1 n)) → R (rsv 2 ⟨6, c, 0, false, 0, 0, false, false⟩ nilS).toArray u
          | .conflict => ∀ u, Mv w u ℓ ℓ2 → Sys u ℓ2 pw st1 F (us.set i (a, s1)) → R (rsv 24 sn0 nilS).toArray u
          | .prot => ∀ u, Mv w u ℓ ℓ2 → Sys u ℓ2 pw st1 F (us.set i (a, s1)) → R (rsv 2 ⟨7, 9984, 0, false, 0, 0, false, false⟩ nilS).toArray u
          | .run c => ∀ u ab, Mv w u ℓ ℓ2 → Sys u ℓ2 pw st1 F (us.set i (a, s1)) → Blk u ab z10 t_api_Result → w.heap.size ≤ ab → ℓ2 ab = none → Cunit_Unit_run (some ⟨a.ub, 0, none⟩) (n : Int) (cmv c).toArray out u (FinR ab R)) →
        ∀ w018, w018 = w8.drew → ∃ S : World → Prop, S w018 ∧ (some (⟨a.ub, 0, none⟩ : Addr)).isSome = true ∧ ∃ p3 : Option Addr, (∀ u1, S u1 → u1.cell? ((gA (some (⟨a.ub, 0, none⟩ : Addr))).add 8) = some (.pointer p3)) ∧ ∃ n7 : Int, (∀ u2, S u2 → u2.cell? ((⟨cb, 0, none⟩ : Addr).add 0) = some (.int .u8 n7)) ∧ Cunit_Class n7 w018 fun n8 w019 => S w019 ∧ Cpr_Table_Conflict p3 (n : Int) n8 w019 fun b3 w020 =>
          Br b3 (RunU Tryz.prog (storeVar t_api_Result ⟨ab, 0, none⟩ (.agg #[.int .u8 24, .int .u8 0, .int .u16 0, .int .u64 0, .bool false, .int .i64 0, .int .i64 0, .bool false, .bool false, .slice none 0 0])) w020 fun w021 => ∃ res4 : Array Value, (loadVar t_api_Result ⟨ab, 0, none⟩).run Tryz.prog w021 = .ok (.agg res4) w021 ∧ R res4 w021)
          (∃ n9 : Int, w020.cell? ((⟨cb, 0, none⟩ : Addr).add 0) = some (.int .u8 n9) ∧ Cunit_Alters n9 w020 fun b4 w022 => (b4 = true → (some (⟨a.ub, 0, none⟩ : Addr)).isSome = true) ∧ ∃ p4 : Option Addr, (b4 = true → w022.cell? ((gA (some (⟨a.ub, 0, none⟩ : Addr))).add 7) = some (.pointer p4)) ∧ letJ (fun (g7 : Array Value) (w023 : World) => ∃ b5 : Bool, (b4 = true → g7[2]? = some (.bool b5)) ∧ Br (b4 && b5)
            (Cunit_check #[.int .u8 7, .int .u16 9984, .int .u64 0, .bool false, .int .i64 0, .int .i64 0, .bool false, .bool false] w023 fun g8 w024 => RunU Tryz.prog (storeVar t_api_Result ⟨ab, 0, none⟩ (.agg g8)) w024 fun w025 => ∃ res5 : Array Value, (loadVar t_api_Result ⟨ab, 0, none⟩).run Tryz.prog w025 = .ok (.agg res5) w025 ∧ R res5 w025)
            (∃ g9 : Array Value, (loadVar t_api_Cmd ⟨cb, 0, none⟩).run Tryz.prog w023 = .ok (.agg g9) w023 ∧ Cunit_Unit_run (some ⟨a.ub, 0, none⟩) (n : Int) g9 out w023 fun g10 w026 => RunU Tryz.prog (storeVar t_api_Result ⟨ab, 0, none⟩ (.agg g10)) w026 fun w027 => ∃ res6 : Array Value, (loadVar t_api_Result ⟨ab, 0, none⟩).run Tryz.prog w027 = .ok (.agg res6) w027 ∧ R res6 w027)) fun J_ => (b4 = true → Cmode_Pages_Now p4 w022 J_) ∧ (b4 = false → J_ (Kd.dflt .ag) w022)) := by
      intro n5 b1 _ hR w9 e9
      subst e9
      have hg9 := keep_drew w8
      have H9 := H8.grow hg9
      have m09 := m08.go hg9
      have hab9 : Blk w8.drew ab z10 t_api_Result := hg9.heap hab8 (fun q => q)
      have hb9 : Blk w8.drew cb (cmv c).toArray t_api_Cmd := hg9.heap hb8 (fun q => q)
      generalize w8.drew = w9 at *
      obtain ⟨hU9, hown9⟩ := H9.at hi1 (List.getElem_set_self _)
      refine ⟨fun o => o = w9, rfl, rfl, some ⟨a.tb, 0, none⟩, fun o e => by rw [e]; exact hU9.cellU fun P => rfl, (c.kind : Int), fun o e => by rw [e]; exact c0 hb9, class_spec ⟨rfl, conflict_spec hU9.tab fun w10 hg10 => ?_⟩⟩
      have H10 := H9.grow hg10
      have m10 := m09.go hg10
      have hab10 : Blk w10 ab z10 t_api_Result := hg10.heap hab9 (fun q => q)
      have hb10 : Blk w10 cb (cmv c).toArray t_api_Cmd := hg10.heap hb9 (fun q => q)
      have hU10 := hU9.grow hg10
      cases hc : conflictT s1.tab n (classX c.kind) with
      | true =>
        rw [hc, if_pos rfl] at hR
        exact br_t rfl (FinR.sys (sn := sn0) (d := nilS) H10 m10 hab' hfab hab10 rfl fun v k hm hs => hR v hm hs)
      | false =>
        rw [hc, if_neg (by decide)] at hR
        refine br_f rfl ⟨(c.kind : Int), c0 hb10, alters_spec ⟨fun _ => rfl, some ⟨a.pg, 0, none⟩, fun _ => hU10.cellU fun P => rfl, ?_⟩⟩
        refine letJ1 (fun (g7 : Array Value) v => Grow w10 v ∧ (altersX c.kind = true → g7 = (vlv s1.now).toArray)) ?_ (fun J => ⟨fun _ => now_spec hU10.pages fun v hg => J _ _ ⟨hg, fun _ => rfl⟩, fun q => J _ _ ⟨Keep.refl _ _, fun r => by rw [q] at r; cases r⟩⟩)
        rintro g7 v ⟨hgv, hg7⟩
        have Hv := H10.grow hgv
        have mv := m10.go hgv
        have habv : Blk v ab z10 t_api_Result := hgv.heap hab10 (fun q => q)
        have hbv : Blk v cb (cmv c).toArray t_api_Cmd := hgv.heap hb10 (fun q => q)
        refine ⟨s1.now.swp, fun q => by rw [hg7 q]; rfl, ?_⟩
        cases hal : altersX c.kind && s1.now.swp with
        | true =>
          rw [hal, if_pos rfl] at hR
          exact br_t rfl (checkU_spec (s := ⟨7, 9984, 0, false, 0, 0, false, false⟩) fun v' hg' => FinR.sys (Hv.grow hg') (mv.go hg') hab' hfab (hg'.heap habv (fun q => q)) rfl fun v k hm hs => hR v hm hs)
        | false =>
          rw [hal, if_neg (by decide)] at hR
          exact br_f rfl ⟨_, cLoad (c := c) (blk_cells hbv), hR v ab mv Hv habv hab' hfab⟩
    cases hpk : peekX (s1.q n) with
    | none =>
      rw [hpk] at hR
      exact br_f rfl (rest (n5 := 0) (b1 := false) rfl hR)
    | some code =>
      rw [hpk] at hR
      dsimp only
      rw [efree]
      cases hfk : freeK c.kind with
      | true =>
        rw [hfk] at hR
        exact br_f rfl (rest (n5 := (code : Int)) (b1 := true) (by rw [hfk]; rfl) hR)
      | false =>
        rw [hfk] at hR
        dsimp only at hR
        refine br_t rfl ⟨rfl, ?_⟩
        obtain ⟨hU8, hown8⟩ := H8.at hi1 (List.getElem_set_self _)
        refine ⟨some ⟨a.qb, 0, none⟩, hU8.cellU fun P => rfl, ?_⟩
        refine next_spec hU8.q hn (by rw [hown8 _ z7]; exact Option.some_ne_none _) H8.lt fun w9 hk9 hq9 => ?_
        rw [hpk]
        dsimp only
        have sfq : Safe w8 (fun k => ℓ2 k ≠ none) fun b => b = a.qb := Safe.sub fun b _ q => by rw [q, hown8 _ z7]; exact Option.some_ne_none _
        have hU9 : IsU w9 (fun k => ℓ2 k ≠ none) pw a (toldU s1 n) := hU8.que hk9 sfq (fun b _ hne q => hne q) (fun _ q => .inl q) hq9
        obtain ⟨m9, H9⟩ := H8.putA hi1 (List.getElem_set_self _) hk9 (fun b _ q => by rw [q]; exact z7) hU9
        rw [List.set_set] at H9
        refine checkU_spec (s := ⟨6, code, 0, false, 0, 0, false, false⟩) fun w10 hg10 => ?_
        have hab10 : Blk w10 ab z10 t_api_Result := (m9.go hg10).heap hab8 hfab
        exact FinR.sys (H9.grow hg10) ((m08.trans m9).go hg10) hab' hfab hab10 rfl fun v k hm hs => hR v hm hs
/-- a unit that runs -/
theorem do_started {R : Array Value → World → Prop} (H : Sys w ℓ pw st F us) (hi : i < us.length) (he : us[i] = (a, s)) (hon : s.on = 1) (hfl : s.fault = 0) (hn : n < 8) (hct : s.count < 1000000000000) (hp : RdX w ℓ 1 p (bv l))
    (hR : ∀ ℓ1, match headX (bumpU s) n l with
      | .bad sn => ∀ u, Mv w u ℓ ℓ1 → Sys u ℓ1 pw st F (us.set i (a, bumpU s)) → R (rsv 2 sn nilS).toArray u
      | .told c => ∀ u, Mv w u ℓ ℓ1 → Sys u ℓ1 pw st F (us.set i (a, toldU (bumpU s) n)) → R (rsv 2 ⟨6, c, 0, false, 0, 0, false, false⟩ nilS).toArray u
      | .conflict => ∀ u, Mv w u ℓ ℓ1 → Sys u ℓ1 pw st F (us.set i (a, bumpU s)) → R (rsv 24 sn0 nilS).toArray u
      | .prot => ∀ u, Mv w u ℓ ℓ1 → Sys u ℓ1 pw st F (us.set i (a, bumpU s)) → R (rsv 2 ⟨7, 9984, 0, false, 0, 0, false, false⟩ nilS).toArray u
      | .run c => ∀ u ab, Mv w u ℓ ℓ1 → Sys u ℓ1 pw st F (us.set i (a, bumpU s)) → Blk u ab z10 t_api_Result → w.heap.size ≤ ab → ℓ1 ab = none → Cunit_Unit_run (some ⟨a.ub, 0, none⟩) (n : Int) (cmv c).toArray out u (FinR ab R)) : Cunit_Unit_Do (some ⟨a.ub, 0, none⟩) (n : Int) p out w R :=
  do_gen H hi he hn hct hp (fun u m Hu K hK => start_again Hu (by rw [List.length_set]; exact hi) (List.getElem_set_self _) hon fun u' g => by
    rw [show ((bumpU s).fault : Int) = 0 by show ((s.fault : Nat) : Int) = 0; omega]
    exact hK u' ℓ (Mv.grow g) (Hu.grow g)) hR
/-- one that starts, and was never kept -/
theorem do_fresh {R : Array Value → World → Prop} (H : Sys w ℓ pw st quiet us) (hi : i < us.length) (he : us[i] = (a, s)) (hon : s.on = 0) (hlk : s.lock = 0) (hk : 1 ≤ s.keepf.size ∧ s.keepf.size ≤ 30) (ho : st.ops < 10000000000) (hl : ldN st.seen s.keepf 2 = (-1, 0, [])) (hn : n < 8) (hct : s.count < 1000000000000) (hp : RdX w ℓ 1 p (bv l))
    (hR : ∀ ℓ1, match headX (startedU (bumpU s)) n l with
      | .bad sn => ∀ u, Mv w u ℓ ℓ1 → Sys u ℓ1 pw { st with ops := st.ops + 2 } quiet (us.set i (a, startedU (bumpU s))) → R (rsv 2 sn nilS).toArray u
      | .told c => ∀ u, Mv w u ℓ ℓ1 → Sys u ℓ1 pw { st with ops := st.ops + 2 } quiet (us.set i (a, toldU (startedU (bumpU s)) n)) → R (rsv 2 ⟨6, c, 0, false, 0, 0, false, false⟩ nilS).toArray u
      | .conflict => ∀ u, Mv w u ℓ ℓ1 → Sys u ℓ1 pw { st with ops := st.ops + 2 } quiet (us.set i (a, startedU (bumpU s))) → R (rsv 24 sn0 nilS).toArray u
      | .prot => ∀ u, Mv w u ℓ ℓ1 → Sys u ℓ1 pw { st with ops := st.ops + 2 } quiet (us.set i (a, startedU (bumpU s))) → R (rsv 2 ⟨7, 9984, 0, false, 0, 0, false, false⟩ nilS).toArray u
      | .run c => ∀ u ab, Mv w u ℓ ℓ1 → Sys u ℓ1 pw { st with ops := st.ops + 2 } quiet (us.set i (a, startedU (bumpU s))) → Blk u ab z10 t_api_Result → w.heap.size ≤ ab → ℓ1 ab = none → Cunit_Unit_run (some ⟨a.ub, 0, none⟩) (n : Int) (cmv c).toArray out u (FinR ab R)) : Cunit_Unit_Do (some ⟨a.ub, 0, none⟩) (n : Int) p out w R :=
  do_gen H hi he hn hct hp (fun u m Hu K hK => start_fresh (s := bumpU s) Hu (by rw [List.length_set]; exact hi) (List.getElem_set_self _) hon hlk hk ho hl fun u' ℓ' m' H' => hK u' ℓ' m' (by rw [List.set_set] at H'; exact H')) hR
end
end Go.Proofs.YtpmebahhjgkflaaGreatDoor

/- Layers 11 and 16: which units there can be; a unit is made. -/
namespace Go.Proofs.YtpmebahhjgkflaaGreatDoor
open Go CF
set_option maxRecDepth 100000
def printX (s : ByteArray) (k : Nat) : Bool := (List.range k).all fun j => decide (32 ≤ (bt s (j : Int)).toNat) && decide ((bt s (j : Int)).toNat ≤ 126)
def textX (s : ByteArray) (lo hi : Nat) : Bool := printX s s.size && decide (lo ≤ s.size) && decide (s.size ≤ hi)
def formX (i : InfS) : Bool := textX i.v 0 8 && textX i.p 0 16 && textX i.r 0 4 && textX i.s 1 20 && decide (i.prot ≤ 3)
theorem printX_succ (s : ByteArray) (k : Nat) : printX s (k + 1) = (printX s k && (decide (32 ≤ (bt s (k : Int)).toNat) && decide ((bt s (k : Int)).toNat ≤ 126))) := by
  unfold printX
  rw [List.range_succ, List.all_append, List.all_cons, List.all_nil, Bool.and_true]
theorem printX_mono {s : ByteArray} {j : Nat} (h : printX s j = false) : ∀ k, j ≤ k → printX s k = false
  | 0, hk => by have : j = 0 := by omega
                subst this; exact h
  | k + 1, hk => by
    by_cases q : j = k + 1
    · subst q; exact h
    · rw [printX_succ, printX_mono h k (by omega)]; rfl
theorem bt_nn (s : ByteArray) (x : Int) : 0 ≤ bt s x := by unfold bt; split <;> omega
section
variable {w u v : World} {N N' S : Nat → Prop} {pw i n : Nat} {a : UA} {s : USt} {st : Wst} {F : Int → Bool} {ℓ ℓ' : Nat → Option Nat} {us : List (UA × USt)}
theorem text_loop {s : ByteArray} {lo hi : Nat} {R : Bool → World → Prop} (hsz : s.size ≤ 9223372036854775806) (h : R (textX s lo hi) w) :
    ∃ (I : Int → World → Prop) (μ : Int → World → Nat), I 0 w ∧ ∀ (x : Int) (w0 : World), I x w0 → Br (decide (x < (s.size : Int))) ((0 ≤ x ∧ x < (s.size : Int)) ∧ ((!(decide ((bt s x) < 32))) = true → (0 ≤ x ∧ x < (s.size : Int))) ∧ Br ((decide ((bt s x) < 32)) || (decide ((bt s x) > 126))) (R false w0) (I (IntKind.wrap .i64 (x + 1)) w0 ∧ μ (IntKind.wrap .i64 (x + 1)) w0 < μ x w0)) (R ((decide ((s.size : Int) ≥ (lo : Int))) && (decide ((s.size : Int) ≤ (hi : Int)))) w0) := by
  refine ⟨fun x v => ∃ j : Nat, x = j ∧ j ≤ s.size ∧ v = w ∧ printX s j = true, fun x _ => s.size - x.toNat, ⟨0, rfl, Nat.zero_le _, rfl, rfl⟩, ?_⟩
  rintro x v ⟨j, rfl, hj, rfl, hp⟩
  unfold textX at h
  refine br_nat (fun hlt => ?_) (fun hge => ?_)
  · have hnn := bt_nn s (j : Int)
    refine ⟨⟨by omega, by omega⟩, fun _ => ⟨by omega, by omega⟩, ?_⟩
    have hs := printX_succ s j
    rw [hp, Bool.true_and] at hs
    cases hq : decide (32 ≤ (bt s (j : Int)).toNat) && decide ((bt s (j : Int)).toNat ≤ 126) with
    | true =>
      rw [hq] at hs
      simp only [Bool.and_eq_true, decide_eq_true_eq] at hq
      refine br_f (by rw [Bool.or_eq_false_iff, decide_eq_false_iff_not, decide_eq_false_iff_not]; omega) ?_
      rw [w64 (by omega) (by omega)]
      exact ⟨⟨j + 1, by omega, by omega, rfl, hs⟩, by dsimp only; omega⟩
    | false =>
      rw [hq] at hs
      rw [printX_mono hs s.size hlt] at h
      rw [Bool.and_eq_false_iff, decide_eq_false_iff_not, decide_eq_false_iff_not] at hq
      exact br_t (by rw [Bool.or_eq_true, decide_eq_true_eq, decide_eq_true_eq]; omega) h
  · have : j = s.size := by omega
    subst this
    rw [hp, Bool.true_and] at h
    have e : ((decide ((s.size : Int) ≥ (lo : Int))) && (decide ((s.size : Int) ≤ (hi : Int)))) = (decide (lo ≤ s.size) && decide (s.size ≤ hi)) := by
      congr 1
      · rw [decide_eq_decide]; omega
      · rw [decide_eq_decide]; omega
    rw [e]; exact h
theorem text_spec11 {s : ByteArray} {lo hi : Nat} {R : Bool → World → Prop} (hsz : s.size ≤ 9223372036854775806) (h : R (textX s lo hi) w) : Cinq_text s (lo : Int) (hi : Int) w R := Finq_text.calls _ _ _ _ _ (text_loop hsz h)
theorem fits_spec11 {s : ByteArray} {lo hi : Nat} {R : Bool → World → Prop} (hsz : s.size ≤ 9223372036854775806) (h : R (textX s lo hi) w) : Cpalletref11_fits s (lo : Int) (hi : Int) w R := Fpalletref11_fits.calls _ _ _ _ _ (text_loop hsz h)
structure InfOk (i : InfS) : Prop where
  v : i.v.size ≤ 9223372036854775806
  p : i.p.size ≤ 9223372036854775806
  r : i.r.size ≤ 9223372036854775806
  s : i.s.size ≤ 9223372036854775806
theorem form_spec11 {i : InfS} {R : Bool → World → Prop} (hi : InfOk i) (h : ∀ w', Grow w w' → R (formX i) w') : Cinq_Form (infv i).toArray w R := by
  refine Finq_Form.calls _ _ _ (new_rule fun ib w1 hib hb1 hg1 hs1 => ?_)
  have c : ∀ {o : Nat} {x : Value}, (infv i)[o]? = some x → w1.cell? ((⟨ib, 0, none⟩ : Addr).add o) = some x := fun e => by rw [add0, Blk.cell hb1, Nat.zero_add, List.getElem?_toArray]; exact e
  have h := h w1 hg1
  unfold formX at h
  refine ⟨i.v, c rfl, text_spec11 (lo := 0) (hi := 8) hi.v ⟨i.p, fun _ => c rfl, ?_⟩⟩
  generalize textX i.v 0 8 = b at *
  refine letJ1 (fun b1 o => o = w1 ∧ (b && b1) = (b && textX i.p 0 16)) ?_ (fun J => ⟨fun _ => text_spec11 (lo := 0) (hi := 16) hi.p (J _ _ ⟨rfl, rfl⟩), fun q => J _ _ ⟨rfl, by rw [q]; rfl⟩⟩)
  rintro b1 o ⟨rfl, e1⟩
  rw [← e1] at h
  refine ⟨i.r, fun _ => c rfl, ?_⟩
  generalize (b && b1) = bb at *
  refine letJ1 (fun b2 o' => o' = o ∧ (bb && b2) = (bb && textX i.r 0 4)) ?_ (fun J => ⟨fun _ => text_spec11 (lo := 0) (hi := 4) hi.r (J _ _ ⟨rfl, rfl⟩), fun q => J _ _ ⟨rfl, by rw [q]; rfl⟩⟩)
  rintro b2 o' ⟨rfl, e2⟩
  rw [← e2] at h
  refine ⟨i.s, fun _ => c rfl, ?_⟩
  generalize (bb && b2) = bc at *
  refine letJ1 (fun b3 o2 => o2 = o' ∧ (bc && b3) = (bc && textX i.s 1 20)) ?_ (fun J => ⟨fun _ => text_spec11 (lo := 1) (hi := 20) hi.s (J _ _ ⟨rfl, rfl⟩), fun q => J _ _ ⟨rfl, by rw [q]; rfl⟩⟩)
  rintro b3 o2 ⟨rfl, e3⟩
  rw [← e3] at h
  refine ⟨(i.prot : Int), fun _ => c rfl, ?_⟩
  have e : (decide ((i.prot : Int) ≤ 3)) = decide (i.prot ≤ 3) := by rw [decide_eq_decide]; omega
  rw [e]; exact h
def rinfv (i : InfS) : List Value := [.string i.v, .string i.p, .string i.r, .string i.s, .int .i64 (i.prot : Int)]
theorem rform_spec11 {i : InfS} {R : Bool → World → Prop} (hi : InfOk i) (h : ∀ w', Grow w w' → R (formX i) w') : Cpalletref11_Form (rinfv i).toArray w R := by
  refine Fpalletref11_Form.calls _ _ _ (new_rule fun ib w1 hib hb1 hg1 hs1 => ?_)
  have c : ∀ {o : Nat} {x : Value}, (rinfv i)[o]? = some x → w1.cell? ((⟨ib, 0, none⟩ : Addr).add o) = some x := fun e => by rw [add0, Blk.cell hb1, Nat.zero_add, List.getElem?_toArray]; exact e
  have h := h w1 hg1
  unfold formX at h
  refine ⟨i.v, c rfl, fits_spec11 (lo := 0) (hi := 8) hi.v ⟨i.p, fun _ => c rfl, ?_⟩⟩
  generalize textX i.v 0 8 = b at *
  refine letJ1 (fun b1 o => o = w1 ∧ (b && b1) = (b && textX i.p 0 16)) ?_ (fun J => ⟨fun _ => fits_spec11 (lo := 0) (hi := 16) hi.p (J _ _ ⟨rfl, rfl⟩), fun q => J _ _ ⟨rfl, by rw [q]; rfl⟩⟩)
  rintro b1 o ⟨rfl, e1⟩
  rw [← e1] at h
  refine ⟨i.r, fun _ => c rfl, ?_⟩
  generalize (b && b1) = bb at *
  refine letJ1 (fun b2 o' => o' = o ∧ (bb && b2) = (bb && textX i.r 0 4)) ?_ (fun J => ⟨fun _ => fits_spec11 (lo := 0) (hi := 4) hi.r (J _ _ ⟨rfl, rfl⟩), fun q => J _ _ ⟨rfl, by rw [q]; rfl⟩⟩)
  rintro b2 o' ⟨rfl, e2⟩
  rw [← e2] at h
  refine ⟨i.s, fun _ => c rfl, ?_⟩
  generalize (bb && b2) = bc at *
  refine letJ1 (fun b3 o2 => o2 = o' ∧ (bc && b3) = (bc && textX i.s 1 20)) ?_ (fun J => ⟨fun _ => fits_spec11 (lo := 1) (hi := 20) hi.s (J _ _ ⟨rfl, rfl⟩), fun q => J _ _ ⟨rfl, by rw [q]; rfl⟩⟩)
  rintro b3 o2 ⟨rfl, e3⟩
  rw [← e3] at h
  refine ⟨(i.prot : Int), fun _ => c rfl, ?_⟩
  have e : (decide ((i.prot : Int) ≤ 3)) = decide (i.prot ≤ 3) := by rw [decide_eq_decide]; omega
  rw [e]; exact h
open Classical in
/-- a unit more -/
theorem Sys.add {a' : UA} {s' : USt} (h : Sys w ℓ pw st F us) (g : Grow w u) (ha : ∀ b, a'.set b → w.heap.size ≤ b) (hU : ∀ N : Nat → Prop, IsU u N pw a' s') : ∃ ℓ', Mv w u ℓ ℓ' ∧ Sys u ℓ' pw st F (us ++ [(a', s')]) := by
  have hsz := g.size
  have h' := h.grow g
  let L : Nat → Option Nat := fun b => if a'.set b then some (us.length + 1) else ℓ b
  have hold : ∀ b, b < w.heap.size → L b = ℓ b := fun b hb => if_neg fun q => by have := ha b q; omega
  obtain ⟨D, h1, h2⟩ := h'.W
  obtain ⟨D0, g1, g2⟩ := h.W
  refine ⟨L, ⟨g.mono fun _ _ q => q.elim, hold⟩, ⟨D0, g1.grow g, fun b hb => ?_⟩, fun j hj => ?_, fun b hb => ?_⟩
  · rw [hold b (g1.lt hb)]; exact g2 b hb
  · by_cases e : j < us.length
    · rw [List.getElem_append_left e]
      refine ⟨(h.U j e).1.step (S := fun _ => False) g (Safe.none _ _) (fun _ _ q => q) (fun b hb => ?_), fun b hb => ?_⟩
      · by_cases q : b < w.heap.size
        · exact .inl (by rw [← hold b q]; exact hb)
        · exact .inr (by omega)
      · rw [hold b ((h.U j e).1.lt hb)]; exact (h.U j e).2 b hb
    · have : j = us.length := by rw [List.length_append, List.length_singleton] at hj; omega
      subst this
      have ee : (us ++ [(a', s')])[us.length]'hj = (a', s') := by rw [List.getElem_append_right (Nat.le_refl _)]; simp
      rw [ee]
      exact ⟨hU _, fun b hb => if_pos hb⟩
  · by_cases q : a'.set b
    · exact (hU fun _ => False).lt q
    · have : L b = ℓ b := if_neg q
      rw [this] at hb
      have := h.lt b hb; omega
end
end Go.Proofs.YtpmebahhjgkflaaGreatDoor

/- Layer 16: a unit is made; its peers. -/
namespace Go.Proofs.YtpmebahhjgkflaaGreatDoor
open Go CF
set_option maxRecDepth 100000
section
variable {w u v : World} {N N' S : Nat → Prop} {pw i n : Nat} {a : UA} {s : USt} {st : Wst} {F : Int → Bool} {ℓ ℓ' : Nat → Option Nat} {us : List (UA × USt)}
theorem attn_new_any {R : Option Addr → World → Prop} (h : ∀ qb w', w.heap.size ≤ qb → Grow w w' → (∀ N, IsQ w' N qb (fun _ => [])) → R (some ⟨qb, 0, none⟩) w') : Cattn_New w R := by
  refine Fattn_New.calls _ _ (new_rule fun b w1 hb hb1 hg1 hsz1 => ?_)
  refine h b w1 (by omega) hg1 fun N => ⟨⟨List.replicate 8 nilS, rfl, hb1, fun i hi => ?_⟩, fun _ _ => ⟨by decide, fun c hc => by cases hc⟩⟩
  rw [List.getElem_replicate]
  exact RdN.nil _ _ _ _
theorem pr_new_any {R : Option Addr → World → Prop} (h : ∀ tb w', w.heap.size ≤ tb → Grow w w' → (∀ N, IsT w' N tb t0) → R (some ⟨tb, 0, none⟩) w') : Cpr_New w R := by
  refine Fpr_New.calls _ _ (new_rule fun b w1 hb hb1 hg1 hsz1 => ?_)
  exact h b w1 (by omega) hg1 fun N => ⟨⟨nilS, hb1, RdN.nil _ _ _ _⟩, tabOk0⟩
def cfgv (i : InfS) (b : Int) : List Value := infv i ++ [Value.int .i64 b]
def newU (i : InfS) (name : ByteArray) (n : Nat) : USt := ⟨i, name ++ s_x2ed, name ++ s_x2ep, n, true, false, -1, 0, v0, v0, t0, fun _ => [], [], 0, 0, 0, 0⟩
theorem unit_build (u : World) (v p r s : ByteArray) (prot : Int) (dv sl pg tb qb : Nat) : (Instr.build t_unit_Unit #[(0, .agg #[.string v, .string p, .string r, .string s, .int .u8 prot]), (1, .pointer (some ⟨dv, 0, none⟩)), (2, .pointer (some ⟨sl, 0, none⟩)), (3, .pointer (some ⟨pg, 0, none⟩)), (4, .pointer (some ⟨tb, 0, none⟩)), (5, .pointer (some ⟨qb, 0, none⟩))]).run Tryz.prog u =
    .ok (.agg #[.string v, .string p, .string r, .string s, .int .u8 prot, .pointer (some ⟨dv, 0, none⟩), .pointer (some ⟨sl, 0, none⟩), .pointer (some ⟨pg, 0, none⟩), .pointer (some ⟨tb, 0, none⟩), .pointer (some ⟨qb, 0, none⟩), .slice none 0 0, .int .u32 0, .int .i32 0, .int .u32 0, .int .i64 0, .int .i64 0]) u := by kernel_rfl
theorem size_app (a b : ByteArray) : (a ++ b).size = a.size + b.size := ByteArray.size_append
def argBad (name : ByteArray) (blocks : Int) : Bool := decide (name.size < 1) || decide (28 < name.size) || decide (blocks < 1) || decide (4096 < blocks)
theorem new_unit {inf : InfS} {name : ByteArray} {blocks : Int} {R : Option Addr → Int → World → Prop} (hi : InfOk inf)
    (hbad : argBad name blocks = true → ∀ w', Grow w w' → R none 1 w') (hform : argBad name blocks = false → formX inf = false → ∀ w', Grow w w' → R none 3 w')
    (hok : argBad name blocks = false → formX inf = true → ∀ a u, Grow w u → (∀ b, a.set b → w.heap.size ≤ b) → (∀ N : Nat → Prop, IsU u N pw a (newU inf name blocks.toNat)) → R (some ⟨a.ub, 0, none⟩) 0 u) :
    Cunit_New (some ⟨pw, 0, none⟩) name (cfgv inf blocks).toArray w R := by
  refine Funit_New.calls _ _ _ _ _ (new_rule fun cb w1 hcb hb1 hg1 hs1 => ?_)
  have c5 : ∀ {v : World}, Blk v cb (cfgv inf blocks).toArray t_unit_Config → v.cell? ((⟨cb, 0, none⟩ : Addr).add 5) = some (.int .i64 blocks) := fun q => by rw [add0, Blk.cell q]; rfl
  have c4 : ∀ {v : World}, Blk v cb (cfgv inf blocks).toArray t_unit_Config → v.cell? (((⟨cb, 0, none⟩ : Addr).add 0).add 4) = some (.int .u8 (inf.prot : Int)) := fun q => by rw [add0, add0, Blk.cell q]; rfl
  have cl : ∀ {v : World}, Blk v cb (cfgv inf blocks).toArray t_unit_Config → (loadVar t_inq_Info ((⟨cb, 0, none⟩ : Addr).add 0)).run Tryz.prog v = .ok (.agg (infv inf).toArray) v := fun q => loadVar_rule (cs := infv inf) g_inq_Info i_inq_Info rfl (fun j x hj => by
    rw [add0, add0, Blk.cell q, Nat.zero_add, List.getElem?_toArray]
    show (infv inf ++ [Value.int .i64 blocks])[j]? = some x
    exact (List.getElem?_append_left (List.getElem?_eq_some_iff.1 hj).1).trans hj)
  have hb1 : Blk w1 cb (cfgv inf blocks).toArray t_unit_Config := hb1
  refine ⟨blocks, fun _ => c5 hb1, blocks, fun _ => c5 hb1, ?_⟩
  have eb : ((((decide ((name.size : Int) < 1)) || (decide ((name.size : Int) > 28))) || (decide (blocks < 1))) || (decide (blocks > 4096))) = argBad name blocks := by
    unfold argBad
    congr 1
    congr 1
    congr 1
    · rw [decide_eq_decide]; omega
    · rw [decide_eq_decide]; omega
  rw [eb]
  cases hA : argBad name blocks with
  | true => exact br_t rfl (hbad hA w1 hg1)
  | false =>
    refine br_f rfl ⟨_, cl hb1, form_spec11 hi fun w2 hg2 => ?_⟩
    have hg02 := hg1.trans hg2
    cases hF : formX inf with
    | false => exact br_t rfl (hform hA hF w2 hg02)
    | true =>
      have hA' := hA
      unfold argBad at hA'
      rw [Bool.or_eq_false_iff, Bool.or_eq_false_iff, Bool.or_eq_false_iff, decide_eq_false_iff_not, decide_eq_false_iff_not, decide_eq_false_iff_not, decide_eq_false_iff_not] at hA'
      obtain ⟨⟨⟨hA1, hA2⟩, hA3⟩, hA4⟩ := hA'
      refine br_f rfl (br_f rfl ?_)
      rintro w3 rfl
      have hg3 := hg02.trans (keep_drew w2)
      have hb3 : Blk w2.drew cb (cfgv inf blocks).toArray t_unit_Config := ((hg2.trans (keep_drew w2))).heap hb1 (fun q => q)
      generalize w2.drew = w3 at *
      have zd : s_x2ed.size = 2 := by decide
      have zp : s_x2ep.size = 2 := by decide
      refine ⟨fun o => Blk o cb (cfgv inf blocks).toArray t_unit_Config, hb3, by omega, blocks, fun o q => c5 q, default_spec fun w4 hg4 => ?_⟩
      have hb4 : Blk w4 cb (cfgv inf blocks).toArray t_unit_Config := hg4.heap hb3 (fun q => q)
      refine ⟨hb4, fun o => Blk o cb (cfgv inf blocks).toArray t_unit_Config, hb4, fun _ q => q, true, fun _ _ => rfl, ?_⟩
      have ebk : blocks = ((blocks.toNat : Nat) : Int) := by omega
      rw [ebk]
      rw [ebk] at hb4
      have c4 : ∀ {v : World}, Blk v cb (cfgv inf ((blocks.toNat : Nat) : Int)).toArray t_unit_Config → v.cell? (((⟨cb, 0, none⟩ : Addr).add 0).add 4) = some (.int .u8 (inf.prot : Int)) := fun q => by rw [← ebk] at q; exact c4 q
      have cl : ∀ {v : World}, Blk v cb (cfgv inf ((blocks.toNat : Nat) : Int)).toArray t_unit_Config → (loadVar t_inq_Info ((⟨cb, 0, none⟩ : Addr).add 0)).run Tryz.prog v = .ok (.agg (infv inf).toArray) v := fun q => by rw [← ebk] at q; exact cl q
      have hn : 1 ≤ blocks.toNat ∧ blocks.toNat ≤ 4096 := by omega
      generalize blocks.toNat = bn at *
      refine open_spec (by rw [size_app]; omega) hn fun ps w5 hps hg5 hS5 => ⟨by omega, slots_open_spec (by rw [size_app]; omega) fun sl w6 hsl hg6 hS6 => ?_⟩
      rintro w7 rfl
      have hg47 : Grow w4 w6.drew := (hg5.trans hg6).trans (keep_drew w6)
      have g6d := keep_drew w6
      have hb7 : Blk w6.drew cb _ t_unit_Config := hg47.heap hb4 (fun q => q)
      have hS7 : IsS w6.drew ps pw (name ++ s_x2ed) bn true := (hg6.trans g6d).heap hS5 (fun q => q)
      have hL7 : IsSl w6.drew sl pw (name ++ s_x2ep) false (-1) 0 := g6d.heap hS6 (fun q => q)
      have hg7 := (hg3.trans hg4).trans hg47
      have sz3 := hg3.size
      have sz4 := hg4.size
      have sz5 := hg5.size
      have sz7 := hg7.size
      generalize w6.drew = w7 at *
      -- all is there
      have fin : ∀ {z : World} {dv pg tb qb : Nat}, Grow w7 z → Blk z dv (dvcells ps inf.prot) t_sbc_Dev → IsP z pg v0 v0 → (∀ N, IsT z N tb t0) → (∀ N, IsQ z N qb fun _ => []) → w.heap.size ≤ dv → w.heap.size ≤ pg → w.heap.size ≤ tb → w.heap.size ≤ qb →
          (∃ S3 : World → Prop, S3 z ∧ (∀ u5, S3 u5 → Blk u5 cb (cfgv inf (bn : Int)).toArray t_unit_Config) ∧ ∃ g4 : Array Value, (∀ u6, S3 u6 → (Instr.build t_unit_Unit #[(0, .agg (infv inf).toArray), (1, .pointer (some ⟨dv, 0, none⟩)), (2, .pointer (some ⟨sl, 0, none⟩)), (3, .pointer (some ⟨pg, 0, none⟩)), (4, .pointer (some ⟨tb, 0, none⟩)), (5, .pointer (some ⟨qb, 0, none⟩))]).run Tryz.prog u6 = .ok (.agg g4) u6) ∧
            New (.cells g4 t_unit_Unit) z fun a1 w012 => R (some a1) 0 w012) := fun {z dv pg tb qb} g hd hp ht hq l1 l2 l3 l4 => by
        refine ⟨fun o => Blk o cb (cfgv inf (bn : Int)).toArray t_unit_Config, g.heap hb7 (fun q => q), fun _ q => q, _, fun o _ => unit_build o inf.v inf.p inf.r inf.s (inf.prot : Int) dv sl pg tb qb, new_rule fun ub w8 hub hb8 hg8 hs8 => ?_⟩
        have gz := g.size
        refine hok hA hF ⟨ub, dv, ps, sl, pg, tb, qb⟩ w8 ((hg7.trans g).trans hg8) (fun b hb => ?_) fun N => ⟨⟨nilS, hb8, RdN.nil _ _ _ _⟩, hg8.heap hd (fun q => q), (g.trans hg8).heap hS7 (fun q => q), (g.trans hg8).heap hL7 (fun q => q), hg8.heap hp (fun q => q), (ht N).grow hg8, (hq N).grow hg8⟩
        rcases hb with q | q | q | q | q | q | q
        · rw [q]; show w.heap.size ≤ ub; omega
        · rw [q]; exact l1
        · rw [q]; show w.heap.size ≤ ps; omega
        · rw [q]; show w.heap.size ≤ sl; omega
        · rw [q]; exact l2
        · rw [q]; exact l3
        · rw [q]; exact l4
      refine ⟨fun o => Blk o cb (cfgv inf (bn : Int)).toArray t_unit_Config, hb7, (infv inf).toArray, fun o q => cl q, (inf.prot : Int), fun o q => c4 q, ?_, ?_⟩
      · refine new_rule fun dv z1 hdv hd1 h1 s1 => ⟨h1.heap hb7 (fun q => q), default_spec fun z2 h2 => ⟨(h1.trans h2).heap hb7 (fun q => q), mode_new_spec fun pg z3 h3 lp hp => ⟨((h1.trans h2).trans h3).heap hb7 (fun q => q), pr_new_any fun tb z4 lt h4 ht => ⟨(((h1.trans h2).trans h3).trans h4).heap hb7 (fun q => q), attn_new_any fun qb z5 lq h5 hq => ?_⟩⟩⟩⟩
        have e1 := h1.size
        have e2 := h2.size
        have e3 := h3.size
        have e4 := h4.size
        exact ⟨((((h1.trans h2).trans h3).trans h4).trans h5).heap hb7 (fun q => q), fin ((((h1.trans h2).trans h3).trans h4).trans h5) ((((h2.trans h3).trans h4).trans h5).heap hd1 (fun q => q)) ((h4.trans h5).heap hp (fun q => q)) (fun N => (ht N).grow h5) hq (by omega) (by omega) (by omega) (by omega)⟩
      · refine default_spec fun z1 h1 => ⟨h1.heap hb7 (fun q => q), ?_, mode_new_spec fun pg z2 h2 lp hp => ⟨(h1.trans h2).heap hb7 (fun q => q), ?_, pr_new_any fun tb z3 lt h3 ht => ⟨((h1.trans h2).trans h3).heap hb7 (fun q => q), ?_, attn_new_any fun qb z4 lq h4 hq => ⟨(((h1.trans h2).trans h3).trans h4).heap hb7 (fun q => q), ?_⟩⟩⟩⟩
        · refine new_rule fun dv z2 hdv hd1 h2 s1 => ⟨(h1.trans h2).heap hb7 (fun q => q), mode_new_spec fun pg z3 h3 lp hp => ⟨((h1.trans h2).trans h3).heap hb7 (fun q => q), pr_new_any fun tb z4 lt h4 ht => ⟨(((h1.trans h2).trans h3).trans h4).heap hb7 (fun q => q), attn_new_any fun qb z5 lq h5 hq => ?_⟩⟩⟩
          have e1 := h1.size
          have e2 := h2.size
          have e3 := h3.size
          have e4 := h4.size
          exact ⟨((((h1.trans h2).trans h3).trans h4).trans h5).heap hb7 (fun q => q), fin ((((h1.trans h2).trans h3).trans h4).trans h5) (((h3.trans h4).trans h5).heap hd1 (fun q => q)) ((h4.trans h5).heap hp (fun q => q)) (fun N => (ht N).grow h5) hq (by omega) (by omega) (by omega) (by omega)⟩
        · refine new_rule fun dv z3 hdv hd1 h3 s1 => ⟨((h1.trans h2).trans h3).heap hb7 (fun q => q), pr_new_any fun tb z4 lt h4 ht => ⟨(((h1.trans h2).trans h3).trans h4).heap hb7 (fun q => q), attn_new_any fun qb z5 lq h5 hq => ?_⟩⟩
          have e1 := h1.size
          have e2 := h2.size
          have e3 := h3.size
          have e4 := h4.size
          exact ⟨((((h1.trans h2).trans h3).trans h4).trans h5).heap hb7 (fun q => q), fin ((((h1.trans h2).trans h3).trans h4).trans h5) ((h4.trans h5).heap hd1 (fun q => q)) (((h3.trans h4).trans h5).heap hp (fun q => q)) (fun N => (ht N).grow h5) hq (by omega) (by omega) (by omega) (by omega)⟩
        · refine new_rule fun dv z4 hdv hd1 h4 s1 => ⟨(((h1.trans h2).trans h3).trans h4).heap hb7 (fun q => q), attn_new_any fun qb z5 lq h5 hq => ?_⟩
          have e1 := h1.size
          have e2 := h2.size
          have e3 := h3.size
          have e4 := h4.size
          exact ⟨((((h1.trans h2).trans h3).trans h4).trans h5).heap hb7 (fun q => q), fin ((((h1.trans h2).trans h3).trans h4).trans h5) (h5.heap hd1 (fun q => q)) (((h3.trans h4).trans h5).heap hp (fun q => q)) (fun N => ((ht N).grow h4).grow h5) hq (by omega) (by omega) (by omega) (by omega)⟩
        · refine new_rule fun dv z5 hdv hd1 h5 s1 => ?_
          have e1 := h1.size
          have e2 := h2.size
          have e3 := h3.size
          have e4 := h4.size
          exact ⟨((((h1.trans h2).trans h3).trans h4).trans h5).heap hb7 (fun q => q), fin ((((h1.trans h2).trans h3).trans h4).trans h5) hd1 (((h3.trans h4).trans h5).heap hp (fun q => q)) (fun N => ((ht N).grow h4).grow h5) (fun N => (hq N).grow h5) (by omega) (by omega) (by omega) (by omega)⟩
end
end Go.Proofs.YtpmebahhjgkflaaGreatDoor

/- Layer 16: the peers of a unit. -/
namespace Go.Proofs.YtpmebahhjgkflaaGreatDoor
open Go CF
set_option maxRecDepth 100000
section
variable {w u v : World} {N N' S : Nat → Prop} {pw i n : Nat} {a : UA} {s : USt} {st : Wst} {F : Int → Bool} {ℓ ℓ' : Nat → Option Nat} {us : List (UA × USt)}
theorem ptr_neq_same {P : Program} {tp te : TypeId} {j : TypeInfo} {x y : Operand} (w : World) (a : Addr) (hp : P.underlying tp = some (.pointer te)) (hte : P.info? te = some j) :
    (do eqGuard .neq tp x y (.pointer (some a)) (.pointer (some a)); binOp .neq tp (.pointer (some a)) (.pointer (some a)) : Sem Value).run P w = .ok (.bool false) w := by
  have h : ∀ d : Nat, (Op.equalIn (d + 1) tp (.pointer (some a)) (.pointer (some a))).run P w = .ok true w := fun d => by
    simp [Op.equalIn, run_underlying hp, sizeOf, typeInfo, hte, run_sameAddr_same]
  simp only [binOp, eqGuard]
  simp [Op.equal, Op.maxDepth, h 9999]
theorem ptr_neq_other {P : Program} {tp te : TypeId} {j : TypeInfo} {x y : Operand} {a b : Addr} {ca cb : Array Value} {ta tb : TypeId} (w : World) (hp : P.underlying tp = some (.pointer te)) (hte : P.info? te = some j) (hsz : j.size ≠ 0)
    (hne : a ≠ b) (ha : w.heap[a.block]? = some (.cells ca ta (0, 0))) (hb : w.heap[b.block]? = some (.cells cb tb (0, 0))) :
    (do eqGuard .neq tp x y (.pointer (some a)) (.pointer (some b)); binOp .neq tp (.pointer (some a)) (.pointer (some b)) : Sem Value).run P w = .ok (.bool true) w := by
  have h : ∀ d : Nat, (Op.equalIn (d + 1) tp (.pointer (some a)) (.pointer (some b))).run P w = .ok false w := fun d => by
    simp [Op.equalIn, run_underlying hp, sizeOf, typeInfo, hte, hsz, run_sameAddr_other w hne ha hb]
  simp only [binOp, eqGuard]
  simp [Op.equal, Op.maxDepth, h 9999]
theorem u_p_unit_Unit : Tryz.prog.underlying t_p_unit_Unit = some (.pointer t_unit_Unit) := by kernel_rfl
theorem info_unit : ∃ j, Tryz.prog.info? t_unit_Unit = some j ∧ j.size ≠ 0 := by
  obtain ⟨j, hj, e⟩ := Option.map_eq_some_iff.1 i_unit_Unit
  refine ⟨j, hj, ?_⟩
  simp only [Prod.mk.injEq] at e
  rw [e.2.1]; decide
def optPtr (x : Option Nat) : Value := .pointer (x.map fun b => ⟨b, 0, none⟩)
/-- those of a list that are other units -/
def peersOf (b : Nat) (xs : List (Option Nat)) : List Nat := xs.filterMap fun x => match x with | some c => if c = b then none else some c | none => none
theorem peersOf_snoc (b : Nat) (l : List (Option Nat)) (x : Option Nat) : peersOf b (l ++ [x]) = peersOf b l ++ (match x with | some c => if c = b then [] else [c] | none => []) := by
  unfold peersOf
  rw [List.filterMap_append]
  congr 1
  cases x with
  | none => rfl
  | some c =>
    by_cases q : c = b
    · simp [q]
    · simp [q]
theorem peersOf_len (b : Nat) (l : List (Option Nat)) : (peersOf b l).length ≤ l.length := List.length_filterMap_le _ _
theorem lit_pu (w : World) (b : Nat) : (Instr.buildSlice t_sl_p_unit_Unit 1 #[(0, .pointer (some ⟨b, 0, none⟩))]).run Tryz.prog w = .ok (.slice (some ⟨w.heap.size, 0, none⟩) 1 1) (w.alloc (.cells #[.pointer (some ⟨b, 0, none⟩)] t_p_unit_Unit)) := by kernel_rfl
theorem peers_spec {p : Sl} {xs : List (Option Nat)} {R : World → Prop} (H : Sys w ℓ pw st F us) (hi : i < us.length) (he : us[i] = (a, s)) (hp : RdX w ℓ 1 p (xs.map optPtr)) (hx : ∀ c, some c ∈ xs → ∃ (j : Nat) (hj : j < us.length), us[j].1.ub = c) (hxs : xs.length ≤ 1000)
    (hR : ∀ u, Mv w u ℓ ℓ → Sys u ℓ pw st F (us.set i (a, { s with peers := peersOf a.ub xs })) → R u) : Cunit_Unit_Peers (some ⟨a.ub, 0, none⟩) p w R := by
  refine Funit_Unit_Peers.calls _ _ _ _ (br_f rfl ⟨rfl, ?_⟩)
  obtain ⟨hU, hown⟩ := H.at hi he
  obtain ⟨z1, z2, z3, z4, z5, z6, z7⟩ := set7 a
  have hpn : xs.length = p.n := by have := hp.rd.len; rw [List.length_map] at this; omega
  have sf : ∀ {x : World}, Safe x (fun k => ℓ k ≠ none) fun b => b = a.ub := Safe.sub fun b _ q => by rw [q, hown _ z1]; exact Option.some_ne_none _
  obtain ⟨P, hP1, hP2⟩ := hU.unit
  have mk : ∀ {v : World} {P : Sl} {l : List Nat}, l.length ≤ 1000 → Keep (fun b => b = a.ub) w v → Blk v a.ub (ucells a P { s with peers := l }) t_unit_Unit → CF.Own v w.heap.size t_p_unit_Unit 1 P (l.map ptr) → Mv w v ℓ ℓ ∧ Sys v ℓ pw st F (us.set i (a, { s with peers := l })) := fun {v P l} hl k hb ho => by
    have hn : P.n = l.length := by have := ho.len; rw [List.length_map] at this; omega
    have hUv : IsU v (fun k => ℓ k ≠ none) pw a { s with peers := l } := hU.unitC (on := s.on) (lk := s.lock) (fl := s.fault) (ct := s.count) (ps := l) k sf (fun b _ hne q => hne q) (fun _ q => .inl q) ⟨P, hb, ho.rdN (by omega) H.lt⟩
    exact H.putA hi he k (fun b _ q => by rw [q]; exact z1) hUv
  rw [show (gA (some (⟨a.ub, 0, none⟩ : Addr))).add 10 = ⟨a.ub, 10, none⟩ by rw [gA, add0]]
  refine put_rule hP1 (by show 10 < 16; decide) rfl fun w1 hb1 hk1 hs1 => ?_
  refine ⟨fun x v => ∃ (j : Nat) (P : Sl), x = j ∧ j ≤ xs.length ∧ Keep (fun b => b = a.ub) w v ∧ Blk v a.ub (ucells a P { s with peers := peersOf a.ub (xs.take j) }) t_unit_Unit ∧ CF.Own v w.heap.size t_p_unit_Unit 1 P ((peersOf a.ub (xs.take j)).map ptr), fun x _ => p.n - x.toNat, ⟨0, nilS, rfl, Nat.zero_le _, hk1, hb1, own_nil _ _ _ _⟩, ?_⟩
  rintro x v ⟨j, P1, rfl, hj, hkv, hbv, hov⟩
  have hlen := peersOf_len a.ub (xs.take j)
  have htl : (xs.take j).length ≤ j := by rw [List.length_take]; omega
  have hP1n : (peersOf a.ub (xs.take j)).length = P1.n := by have := hov.len; rw [List.length_map] at this; omega
  obtain ⟨hm, Hv⟩ := mk (by omega) hkv hbv hov
  refine br_nat (fun hltj => ?_) (fun hge => ?_)
  · have hjl : j < xs.length := by omega
    have htk : xs.take (j + 1) = xs.take j ++ [xs[j]] := List.take_succ_eq_append_getElem hjl
    refine letX0 (fun v' => ∃ P : Sl, Keep (fun b => b = a.ub) w v' ∧ Blk v' a.ub (ucells a P { s with peers := peersOf a.ub (xs.take (j + 1)) }) t_unit_Unit ∧ CF.Own v' w.heap.size t_p_unit_Unit 1 P ((peersOf a.ub (xs.take (j + 1))).map ptr)) (fun v' hv => ?_) (fun J => ?_)
    · obtain ⟨P, h1, h2, h3⟩ := hv
      rw [w64 (by omega) (by omega)]
      exact ⟨⟨j + 1, P, by omega, by omega, h1, h2, h3⟩, by dsimp only; omega⟩
    rw [htk, peersOf_snoc] at J
    obtain ⟨ha, hc⟩ := rd_val (hm.rdX hp).rd (i := j) (by rw [List.length_map]; exact hjl)
    rw [List.getElem_map] at hc
    refine ⟨⟨by omega, by omega, ha⟩, _, by rw [Int.toNat_natCast]; exact hc, ?_⟩
    have hmem : xs[j] ∈ xs := List.getElem_mem hjl
    generalize xs[j] = xj at *
    cases xj with
    | none => exact ⟨fun q => by simp at q, none, fun q => by simp at q, false, fun q => by simp at q, br_f rfl (J v ⟨P1, hkv, by rw [List.append_nil]; exact hbv, by rw [List.append_nil]; exact hov⟩)⟩
    | some c =>
      obtain ⟨jj, hjj, hub⟩ := hx c hmem
      have hjj' : jj < (us.set i (a, { s with peers := peersOf a.ub (xs.take j) })).length := by rw [List.length_set]; exact hjj
      have hUj := (Hv.U jj hjj').1
      have hubj : ((us.set i (a, { s with peers := peersOf a.ub (xs.take j) }))[jj]'hjj').1.ub = c := by
        by_cases e : jj = i
        · subst e
          rw [List.getElem_set_self]
          rw [he] at hub; exact hub
        · rw [List.getElem_set_ne (fun q => e q.symm)]; exact hub
      generalize (us.set i (a, { s with peers := peersOf a.ub (xs.take j) }))[jj]'hjj' = uj at hUj hubj
      obtain ⟨aj, sj⟩ := uj
      dsimp only at hUj hubj
      subst hubj
      obtain ⟨P2, hP21, _⟩ := hUj.unit
      obtain ⟨ji, hji, hjs⟩ := info_unit
      refine ⟨fun _ => rfl, some ⟨aj.dv, 0, none⟩, fun _ => hUj.cellU fun P => rfl, ?_⟩
      by_cases e : aj.ub = a.ub
      · refine ⟨false, fun _ => by rw [e]; exact ptr_neq_same v _ u_p_unit_Unit hji, br_f rfl (J v ⟨P1, hkv, ?_, ?_⟩)⟩
        · dsimp only; rw [if_pos e, List.append_nil]; exact hbv
        · dsimp only; rw [if_pos e, List.append_nil]; exact hov
      · refine ⟨true, fun _ => ptr_neq_other v u_p_unit_Unit hji hjs (fun q => e (congrArg Addr.block q)) hP21 hbv, br_t rfl ⟨rfl, P1, ?_, ?_⟩⟩
        · rw [hbv.cell]; rfl
        dsimp only at J
        rw [if_neg e] at J
        refine lit_rule (cells := #[.pointer (some ⟨aj.ub, 0, none⟩)]) (e := t_p_unit_Unit) (z := 1) (base := 0) (lit_pu _ _) rfl (by decide) (Nat.zero_le _) fun v1 ho1 hg1 _ => ?_
        have sz0 := hkv.size
        have sz1 := hg1.size
        refine append_rule u_sl_p_unit_Unit i_p_unit_Unit rfl (by decide) (by decide) (hov.grow hg1) (ho1.rd (by show 1 ≤ _; decide)) (by simp [Value.oneCell']) (by show (P1.n + 1) * 8 ≤ _; omega) (by omega) fun P3 v2 hn3 ho3 hk3 hat3 => ?_
        have hb1v : Blk v1 a.ub (ucells a P1 { s with peers := peersOf a.ub (xs.take j) }) t_unit_Unit := hg1.heap hbv (fun q => q)
        have hne3 : ∀ b, some b = P1.blk → b ≠ a.ub ∧ w.heap.size ≤ b := fun b hb => by
          obtain ⟨cur, hc⟩ := own_heap (hov.grow hg1) hb.symm
          refine ⟨fun q => ?_, (hov.ge b hb.symm).1⟩
          subst q
          exact absurd (blk_type hb1v hc) (by decide)
        have hb2 : Blk v2 a.ub (ucells a P1 { s with peers := peersOf a.ub (xs.take j) }) t_unit_Unit := hk3.heap hb1v fun q => (hne3 _ q).1 rfl
        refine ⟨rfl, ?_⟩
        refine put_rule hb2 (by show 10 < 16; decide) rfl fun v3 hb3 hk33 hs3 => J v3 ⟨P3, ?_, hb3, ?_⟩
        · exact ((hkv.grow hg1).trans hk3 fun b hb q => by have := (hne3 b q).2; omega).trans hk33 fun _ _ q => q
        · have ho3' : CF.Own v2 w.heap.size t_p_unit_Unit 1 P3 ((peersOf a.ub (xs.take j) ++ [aj.ub]).map ptr) := by rw [List.map_append]; exact ho3
          refine ho3'.keep hk33 fun b hb q => ?_
          obtain ⟨cur, hc⟩ := own_heap ho3' hb
          subst q
          exact absurd (blk_type hb2 hc) (by decide)
  · have : j = xs.length := by omega
    subst this
    rw [List.take_length] at Hv
    exact hR v hm Hv
end
end Go.Proofs.YtpmebahhjgkflaaGreatDoor

/- Layer 16: two units that are peers. -/
namespace Go.Proofs.YtpmebahhjgkflaaGreatDoor
open Go CF
set_option maxRecDepth 100000
section
variable {w u v : World} {N N' S D : Nat → Prop} {pw i n : Nat} {a : UA} {s : USt} {st : Wst} {F : Int → Bool} {ℓ ℓ' : Nat → Option Nat} {us : List (UA × USt)}
open Classical in
/-- a world without units -/
theorem Sys.world0 (h : IsWq w pw D st F) : ∃ ℓ : Nat → Option Nat, Sys w ℓ pw st F [] ∧ ∀ b, ¬ D b → ℓ b = none :=
  ⟨fun b => if D b then some 0 else none, ⟨⟨D, h, fun k hk => if_pos hk⟩, fun i hi => absurd hi (Nat.not_lt_zero i), fun k hk => by
    by_cases q : D k
    · exact h.lt q
    · exact absurd (if_neg q) hk⟩, fun b hb => if_neg hb⟩
def infL (i prot : Nat) : InfS := ⟨s_V, s_P, s_1, if i = 0 then s_S0 else s_S1, prot⟩
def nmL (i : Nat) : ByteArray := if i = 0 then s_a else s_b
theorem infL_ok (i prot : Nat) : InfOk (infL i prot) := by
  refine ⟨by show s_V.size ≤ _; decide, by show s_P.size ≤ _; decide, by show s_1.size ≤ _; decide, ?_⟩
  show (if i = 0 then s_S0 else s_S1).size ≤ _
  split <;> decide
theorem infL_form {i prot : Nat} (hi : i < 2) (h : prot ≤ 3) : formX (infL i prot) = true := by
  have : ∀ (i : Fin 2) (p : Fin 4), formX (infL i.val p.val) = true := by decide +kernel
  exact this ⟨i, hi⟩ ⟨prot, by omega⟩
theorem nmL_bad {i : Nat} (hi : i < 2) : argBad (nmL i) 24 = false := by
  have : ∀ i : Fin 2, argBad (nmL i.val) 24 = false := by decide +kernel
  exact this ⟨i, hi⟩
theorem two_strs (w : World) (x y : ByteArray) : (Instr.buildSlice t_sl_string 2 #[(0, .string x), (1, .string y)]).run Tryz.prog w = .ok (.slice (some ⟨w.heap.size, 0, none⟩) 2 2) (w.alloc (.cells #[.string x, .string y] t_string)) := by kernel_rfl
theorem two_at {x y : ByteArray} (hb : Blk w n #[.string x, .string y] t_string) (hi : i < 2) : w.cell? ((gA (some (⟨n, 0, none⟩ : Addr))).add ((i : Int).toNat * 1)) = some (.string (if i = 0 then x else y)) := by
  rw [gA, add0, hb.cell, Int.toNat_natCast]
  match i, hi with
  | 0, _ => rfl
  | 1, _ => rfl
theorem lit2_rule {x y : ByteArray} {K : Sl → World → Prop} (h : ∀ b w', Grow w w' → Blk w' b #[.string x, .string y] t_string → K ⟨some ⟨b, 0, none⟩, 2, 2⟩ w') : RunK Tryz.prog .sl (Instr.buildSlice t_sl_string 2 #[(0, .string x), (1, .string y)]) w K := by
  refine ⟨⟨some ⟨w.heap.size, 0, none⟩, 2, 2⟩, _, two_strs w x y, h _ _ (keep_alloc w _) ?_⟩
  exact heap_alloc_new w _
theorem info_spec16 {prot : Nat} {R : Array Value → World → Prop} (hi : i < 2) (h : ∀ w', Grow w w' → R (infv (infL i prot)).toArray w') : Cpalletlaw16_info (i : Int) (prot : Int) w R := by
  refine Fpalletlaw16_info.calls _ _ _ _ (new_rule fun ab w1 hab hb1 hg1 hs1 => lit2_rule fun b w2 hg2 hb2 => ?_)
  refine ⟨⟨by omega, by show (i : Int) < 2; omega, rfl⟩, _, two_at hb2 hi, ?_⟩
  refine storeVar_rule (cells := (infv (infL i prot)).toArray) (hg2.heap hb1 (fun q => q)) i_inq_Info rfl rfl (by simp [infv, Value.oneCell']) fun w3 hb3 hk3 hs3 => ⟨_, loadVar_rule (cs := infv (infL i prot)) g_inq_Info i_inq_Info rfl (blk_cells hb3), h w3 ((hg1.trans hg2).keep hk3 fun i hi q => by omega)⟩
theorem cfg_build (u : World) (v p r s : ByteArray) (prot n : Int) : (Instr.build t_unit_Config #[(0, .agg #[.string v, .string p, .string r, .string s, .int .u8 prot]), (1, .int .i64 n)]).run Tryz.prog u = .ok (.agg #[.string v, .string p, .string r, .string s, .int .u8 prot, .int .i64 n]) u := by kernel_rfl
def unitL (i prot : Nat) (ps : List Nat) : USt := { newU (infL i prot) (nmL i) 24 with peers := ps }
theorem Sys.ub_ne (H : Sys w ℓ pw st F us) {i j : Nat} (hi : i < us.length) (hj : j < us.length) (h : i ≠ j) : us[i].1.ub ≠ us[j].1.ub := fun q => by
  have h1 := (H.U i hi).2 _ (set7 _).1
  have h2 := (H.U j hj).2 _ (set7 _).1
  rw [q, h2] at h1
  injection h1 with h1
  omega
theorem lit_pu3 (w : World) (x y : Option Addr) : (Instr.buildSlice t_sl_p_unit_Unit 3 #[(0, .pointer x), (1, .pointer none), (2, .pointer y)]).run Tryz.prog w = .ok (.slice (some ⟨w.heap.size, 0, none⟩) 3 3) (w.alloc (.cells #[.pointer x, .pointer none, .pointer y] t_p_unit_Unit)) := by kernel_rfl
theorem units_spec {prot : Nat} {R : Array Value → World → Prop} (H : Sys w ℓ pw st F []) (hpr : prot ≤ 3)
    (hR : ∀ u ℓ' a0 a1, Mv w u ℓ ℓ' → Sys u ℓ' pw st F [(a0, unitL 0 prot [a1.ub]), (a1, unitL 1 prot [a0.ub])] → R #[.pointer (some ⟨a0.ub, 0, none⟩), .pointer (some ⟨a1.ub, 0, none⟩)] u) : Cpalletlaw16_units (some ⟨pw, 0, none⟩) (prot : Int) w R := by
  refine Fpalletlaw16_units.calls _ _ _ _ (new_rule fun rb w1 hrb hr1 hg1 hs1 => new_rule fun qb w2 hqb hq2 hg2 hs2 => ?_)
  have hg02 := hg1.trans hg2
  have H2 := H.grow hg02
  have hrn : ℓ rb = none := H.fresh (by omega)
  have hqn : ℓ qb = none := H.fresh (by omega)
  have hr2 : Blk w2 rb #[.pointer none, .pointer none] t_2_p_unit_Unit := hg2.heap hr1 (fun q => q)
  have lq : w.heap.size ≤ qb := by omega
  have neq : rb ≠ qb := by omega
  -- what stays while units are made
  let St : World → (Nat → Option Nat) → List (UA × USt) → Array Value → Prop := fun v ℓ' us cs => Mv w v ℓ ℓ' ∧ Sys v ℓ' pw st F us ∧ ℓ' qb = none ∧ ℓ' rb = none ∧ Blk v rb #[.pointer none, .pointer none] t_2_p_unit_Unit ∧ Blk v qb cs t_2_p_unit_Unit
  have St_go : ∀ {v v' : World} {ℓ' ℓ'' : Nat → Option Nat} {us us' : List (UA × USt)} {cs : Array Value}, St v ℓ' us cs → Mv v v' ℓ' ℓ'' → Sys v' ℓ'' pw st F us' → St v' ℓ'' us' cs := fun {v v' ℓ' ℓ'' us us' cs} h m H' => by
    obtain ⟨m0, H0, n1, n2, b1, b2⟩ := h
    exact ⟨m0.trans m, H', (m.lab _ (lt_of_heap b2)).trans n1, (m.lab _ (lt_of_heap b1)).trans n2, m.heap b1 n2, m.heap b2 n1⟩
  have S2 : St w2 ℓ [] #[.pointer none, .pointer none] := ⟨Mv.grow hg02, H2, hqn, hrn, hr2, hq2⟩
  -- one unit more
  have body : ∀ {v v4 : World} {k : Nat} {ℓ' : Nat → Option Nat} {us : List (UA × USt)} {cs : Array Value} {C : World → Prop}, k < 2 → cs.size = 2 → St v ℓ' us cs → Grow v v4 →
      (∀ a' ℓ5 u', St u' ℓ5 (us ++ [(a', unitL k prot [])]) (cs.setIfInBounds k (.pointer (some ⟨a'.ub, 0, none⟩))) → C u') →
      Cunit_New (some ⟨pw, 0, none⟩) (nmL k) (cfgv (infL k prot) 24).toArray v4 fun p1 n1 w010 => (0 ≤ (k : Int) ∧ (k : Int) < (2 : Int)) ∧ Put ((⟨qb, 0, none⟩ : Addr).add ((k : Int).toNat * 1)) (.pointer p1) w010 C := by
    intro v v4 k ℓ' us cs C hk2 hcs hS hg4 hC
    refine new_unit (infL_ok k prot) (fun q => by rw [nmL_bad hk2] at q; cases q) (fun _ q => by rw [infL_form hk2 hpr] at q; cases q) fun _ _ a' u' hgu ha hU => ⟨⟨by omega, by omega⟩, ?_⟩
    obtain ⟨ℓ5, m5, H5⟩ := (hS.2.1.grow hg4).add hgu ha hU
    obtain ⟨m0, _, n1, n2, b1, b2⟩ := St_go hS ((Mv.grow hg4).trans m5) H5
    rw [add0, Int.toNat_natCast, Nat.mul_one, Nat.zero_add]
    refine put_rule b2 (by omega) rfl fun u3 hb3 hk3 hs3 => hC a' ℓ5 u3 ⟨m0.loc hk3 fun b hb q => by omega, H5.local1 b2 n1 hk3 (rowT_not (by decide) (by decide) (by decide)) (by decide), n1, n2, hk3.heap b1 neq, hb3⟩
  -- a round: either the names are laid first, or who it is
  have round : ∀ {v : World} {k : Nat} {ℓ' : Nat → Option Nat} {us : List (UA × USt)} {cs : Array Value} {C : World → Prop}, k < 2 → cs.size = 2 → St v ℓ' us cs →
      (∀ a' ℓ5 u', St u' ℓ5 (us ++ [(a', unitL k prot [])]) (cs.setIfInBounds k (.pointer (some ⟨a'.ub, 0, none⟩))) → C u') →
      ∀ w03, w03 = v.drew → ∃ S : World → Prop, S w03 ∧ (RunK Tryz.prog .sl (Instr.buildSlice t_sl_string 2 #[(0, .string s_a), (1, .string s_b)]) w03 fun xs w04 => S w04 ∧ (0 ≤ (k : Int) ∧ (k : Int) < (xs.n : Int) ∧ xs.A.isSome = true) ∧ ∃ S1 : World → Prop, S1 w04 ∧ (∀ u1, S1 u1 → S u1) ∧ ∃ s : ByteArray, (∀ u2, S1 u2 → u2.cell? ((gA xs.A).add ((k : Int).toNat * 1)) = some (.string s)) ∧ Cpalletlaw16_info (k : Int) (prot : Int) w04 fun g w05 => S1 w05 ∧ ∃ S2 : World → Prop, S2 w05 ∧ (∀ u3, S2 u3 → S1 u3) ∧ ∃ g1 : Array Value, (∀ u4, S2 u4 → (Instr.build t_unit_Config #[(0, .agg g), (1, .int .i64 24)]).run Tryz.prog u4 = .ok (.agg g1) u4) ∧ Cunit_New (some ⟨pw, 0, none⟩) s g1 w05 fun p n w06 => (0 ≤ (k : Int) ∧ (k : Int) < (2 : Int)) ∧ Put ((⟨qb, 0, none⟩ : Addr).add ((k : Int).toNat * 1)) (.pointer p) w06 C) ∧
        Cpalletlaw16_info (k : Int) (prot : Int) w03 fun g2 w08 => S w08 ∧ ∃ S3 : World → Prop, S3 w08 ∧ (∀ u5, S3 u5 → S u5) ∧ ∃ g3 : Array Value, (∀ u6, S3 u6 → (Instr.build t_unit_Config #[(0, .agg g2), (1, .int .i64 24)]).run Tryz.prog u6 = .ok (.agg g3) u6) ∧ RunK Tryz.prog .sl (Instr.buildSlice t_sl_string 2 #[(0, .string s_a), (1, .string s_b)]) w08 fun xs1 w09 => S3 w09 ∧ (0 ≤ (k : Int) ∧ (k : Int) < (xs1.n : Int) ∧ xs1.A.isSome = true) ∧ ∃ S4 : World → Prop, S4 w09 ∧ (∀ u7, S4 u7 → S3 u7) ∧ ∃ s1 : ByteArray, (∀ u8, S4 u8 → u8.cell? ((gA xs1.A).add ((k : Int).toNat * 1)) = some (.string s1)) ∧ Cunit_New (some ⟨pw, 0, none⟩) s1 g3 w09 fun p1 n1 w010 => (0 ≤ (k : Int) ∧ (k : Int) < (2 : Int)) ∧ Put ((⟨qb, 0, none⟩ : Addr).add ((k : Int).toNat * 1)) (.pointer p1) w010 C := by
    intro v k ℓ' us cs C hk2 hcs hS hC w03 e3
    subst e3
    have hgd := keep_drew v
    have hbld : ∀ u : World, (Instr.build t_unit_Config #[(0, .agg (infv (infL k prot)).toArray), (1, .int .i64 24)]).run Tryz.prog u = .ok (.agg (cfgv (infL k prot) 24).toArray) u := fun u => cfg_build u _ _ _ _ _ _
    refine ⟨fun _ => True, trivial, ?_, ?_⟩
    · refine lit2_rule fun b v4 hg4 hb4 => ⟨trivial, ⟨by omega, by show (k : Int) < 2; omega, rfl⟩, fun o => Blk o b #[.string s_a, .string s_b] t_string, hb4, fun _ _ => trivial, _, fun o q => two_at q hk2, info_spec16 hk2 fun v5 hg5 => ?_⟩
      have hb5 : Blk v5 b #[.string s_a, .string s_b] t_string := hg5.heap hb4 (fun q => q)
      exact ⟨hb5, fun o => Blk o b #[.string s_a, .string s_b] t_string, hb5, fun _ q => q, _, fun o _ => hbld o, body hk2 hcs hS ((hgd.trans hg4).trans hg5) hC⟩
    · refine info_spec16 hk2 fun v4 hg4 => ⟨trivial, fun _ => True, trivial, fun _ _ => trivial, _, fun o _ => hbld o, lit2_rule fun b v5 hg5 hb5 => ?_⟩
      exact ⟨trivial, ⟨by omega, by show (k : Int) < 2; omega, rfl⟩, fun o => Blk o b #[.string s_a, .string s_b] t_string, hb5, fun _ _ => trivial, _, fun o q => two_at q hk2, body hk2 hcs hS ((hgd.trans hg4).trans hg5) hC⟩
  refine ⟨fun x v => (x = 0 ∧ St v ℓ [] #[.pointer none, .pointer none] ) ∨ (x = 1 ∧ ∃ ℓ' a0, St v ℓ' [(a0, unitL 0 prot [])] #[.pointer (some ⟨a0.ub, 0, none⟩), .pointer none]) ∨ (x = 2 ∧ ∃ ℓ' a0 a1, St v ℓ' [(a0, unitL 0 prot []), (a1, unitL 1 prot [])] #[.pointer (some ⟨a0.ub, 0, none⟩), .pointer (some ⟨a1.ub, 0, none⟩)]),
    fun x _ => 2 - x.toNat, .inl ⟨rfl, S2⟩, ?_⟩
  rintro x v (⟨rfl, hS⟩ | ⟨rfl, ℓ', a0, hS⟩ | ⟨rfl, ℓ', a0, a1, hS⟩)
  · exact br_t rfl (round (k := 0) (by decide) rfl hS fun a' ℓ5 u' h => ⟨.inr (.inl ⟨rfl, ℓ5, a', h⟩), by show (2 - (IntKind.wrap .i64 (0 + 1)).toNat < 2 - (0 : Int).toNat); decide⟩)
  · exact br_t rfl (round (k := 1) (by decide) rfl hS fun a' ℓ5 u' h => ⟨.inr (.inr ⟨rfl, ℓ5, a0, a', h⟩), by show (2 - (IntKind.wrap .i64 (1 + 1)).toNat < 2 - (1 : Int).toNat); decide⟩)
  refine br_f rfl ?_
  obtain ⟨m0, Hv, n1, n2, b1, b2⟩ := hS
  have c0 : ∀ {v : World}, Blk v qb #[.pointer (some ⟨a0.ub, 0, none⟩), .pointer (some ⟨a1.ub, 0, none⟩)] t_2_p_unit_Unit → v.cell? ((⟨qb, 0, none⟩ : Addr).add ((0 : Int).toNat * 1)) = some (.pointer (some ⟨a0.ub, 0, none⟩)) := fun q => by rw [add0, Blk.cell q]; rfl
  have c1 : ∀ {v : World}, Blk v qb #[.pointer (some ⟨a0.ub, 0, none⟩), .pointer (some ⟨a1.ub, 0, none⟩)] t_2_p_unit_Unit → v.cell? ((⟨qb, 0, none⟩ : Addr).add ((1 : Int).toNat * 1)) = some (.pointer (some ⟨a1.ub, 0, none⟩)) := fun q => by rw [add0, Blk.cell q]; rfl
  have hne : a0.ub ≠ a1.ub := Hv.ub_ne (i := 0) (j := 1) (by show 0 < 2; decide) (by show 1 < 2; decide) (by decide)
  refine ⟨⟨by decide, by decide⟩, _, c0 b2, ⟨by decide, by decide⟩, _, c0 b2, ⟨by decide, by decide⟩, _, c1 b2, ?_⟩
  have S3 : St v ℓ' [(a0, unitL 0 prot []), (a1, unitL 1 prot [])] #[.pointer (some ⟨a0.ub, 0, none⟩), .pointer (some ⟨a1.ub, 0, none⟩)] := ⟨m0, Hv, n1, n2, b1, b2⟩
  refine lit_rule (cells := #[.pointer (some ⟨a0.ub, 0, none⟩), .pointer none, .pointer (some ⟨a1.ub, 0, none⟩)]) (e := t_p_unit_Unit) (z := 1) (base := v.heap.size) (lit_pu3 _ _ _) rfl (by decide) (Nat.le_refl _) fun v1 ho1 hg1 _ => ?_
  have S4 := St_go S3 (Mv.grow hg1) (Hv.grow hg1)
  have hx1 : RdX v1 ℓ' 1 ⟨some ⟨v.heap.size, 0, none⟩, 3, 3⟩ ([some a0.ub, none, some a1.ub].map optPtr) := ⟨ho1.rd (by show 3 ≤ _; decide), fun a ha => by
    injection ha with ha; subst ha
    exact ⟨(ho1.ge v.heap.size (by simp [Sl.blk])).2, Hv.fresh (Nat.le_refl _)⟩⟩
  refine peers_spec (i := 0) (xs := [some a0.ub, none, some a1.ub]) S4.2.1 (by show 0 < 2; decide) rfl hx1 (fun c hc => ?_) (by show 3 ≤ 1000; decide) fun v2 m2 H2' => ?_
  · simp only [List.mem_cons, Option.some.injEq, List.not_mem_nil, or_false, reduceCtorEq, false_or] at hc
    rcases hc with rfl | rfl
    · exact ⟨0, by show 0 < 2; decide, rfl⟩
    · exact ⟨1, by show 1 < 2; decide, rfl⟩
  have e0 : peersOf a0.ub [some a0.ub, none, some a1.ub] = [a1.ub] := by simp [peersOf, hne.symm]
  rw [e0] at H2'
  have S5 := St_go S4 m2 H2'
  refine ⟨⟨by decide, by decide⟩, _, c1 S5.2.2.2.2.2, ⟨by decide, by decide⟩, _, c0 S5.2.2.2.2.2, ?_⟩
  refine lit_rule (cells := #[.pointer (some ⟨a0.ub, 0, none⟩)]) (e := t_p_unit_Unit) (z := 1) (base := v2.heap.size) (lit_pu _ _) rfl (by decide) (Nat.le_refl _) fun v3 ho3 hg3 _ => ?_
  have S6 := St_go S5 (Mv.grow hg3) (H2'.grow hg3)
  have hx3 : RdX v3 ℓ' 1 ⟨some ⟨v2.heap.size, 0, none⟩, 1, 1⟩ ([some a0.ub].map optPtr) := ⟨ho3.rd (by show 1 ≤ _; decide), fun a ha => by
    injection ha with ha; subst ha
    exact ⟨(ho3.ge v2.heap.size (by simp [Sl.blk])).2, H2'.fresh (Nat.le_refl _)⟩⟩
  refine peers_spec (i := 1) (xs := [some a0.ub]) S6.2.1 (by show 1 < 2; decide) rfl hx3 (fun c hc => ⟨0, by show 0 < 2; decide, by simp at hc; exact hc.symm⟩) (by show 1 ≤ 1000; decide) fun v4 m4 H4' => ?_
  have e1 : peersOf a1.ub [some a0.ub] = [a0.ub] := by simp [peersOf, hne]
  rw [e1] at H4'
  have S7 := St_go S6 m4 H4'
  obtain ⟨m7, H7, _, n7, b71, b72⟩ := S7
  refine ⟨_, loadVar_rule (cs := [.pointer (some ⟨a0.ub, 0, none⟩), .pointer (some ⟨a1.ub, 0, none⟩)]) g_2_p_unit_Unit i_2_p_unit_Unit rfl (blk_cells b72), ?_⟩
  refine storeVar_rule (cells := #[.pointer (some ⟨a0.ub, 0, none⟩), .pointer (some ⟨a1.ub, 0, none⟩)]) b71 i_2_p_unit_Unit rfl rfl (by simp [Value.oneCell']) fun v5 hb5 hk5 hs5 => ?_
  refine ⟨_, loadVar_rule (cs := [.pointer (some ⟨a0.ub, 0, none⟩), .pointer (some ⟨a1.ub, 0, none⟩)]) g_2_p_unit_Unit i_2_p_unit_Unit rfl (blk_cells hb5), ?_⟩
  exact hR v5 ℓ' a0 a1 (m7.loc hk5 fun b hb q => by omega) (H7.local1 b71 n7 hk5 (rowT_not (by decide) (by decide) (by decide)) (by decide))
end
end Go.Proofs.YtpmebahhjgkflaaGreatDoor

/- Layer 14: where a law stands: a device, results that are held, rows that are held. -/
namespace Go.Proofs.YtpmebahhjgkflaaGreatDoor
open Go CF
set_option maxRecDepth 100000

/-! ### blocks and their bytes -/
/-! ### blocks that stand every look -/
/-! ### where a law stands -/
section
variable {w u v : World} {dv ps pw : Nat} {file : ByteArray} {kind n : Nat} {cache : Bool} {D D' : Nat → Prop} {st st' : Wst} {bs bs' : List Bk} {m m' : Nat} {ls : List (Nat × List Value × TypeId)} {rows : List (Sl × L8)}
end
end Go.Proofs.YtpmebahhjgkflaaGreatDoor

/- Layer 14: devices made; results compared; the device is awake. -/
namespace Go.Proofs.YtpmebahhjgkflaaGreatDoor
open Go CF
set_option maxRecDepth 100000

theorem rd_nilB (w : World) : Rd w 1 nilS (bv []) := rd_nil w 1
theorem ends14_spec {key code : Nat} {w : World} {R : Array Value → World → Prop} (h : ∀ w', Grow w w' → R (rsv 2 ⟨key, code, 0, false, 0, 0, false, false⟩ nilS).toArray w') : Cpalletref14_Ends (key : Int) (code : Int) w R := by
  refine Fpalletref14_Ends.calls _ _ _ _ ?_
  refine new_rule fun ab w1 hab hb1 hg1 hsz1 => ⟨(rsv 2 ⟨key, code, 0, false, 0, 0, false, false⟩ nilS).toArray, by kernel_rfl, ?_⟩
  exact ret_rule hb1 rfl fun w2 hk2 => h w2 (grow_new hg1 (by omega) hk2)
def kSn : List Kd := [.i .u8, .i .u16, .i .u64, .b, .i .i64, .i .i64, .b, .b]
theorem flat_api_Sense : flatK Tryz.prog 8 t_api_Sense = some kSn := by kernel_rfl
theorem kd_api_Sense : kd Tryz.prog t_api_Sense = .ag := by kernel_rfl
theorem gt_api_Sense : Tryz.prog.eqGuardType Tryz.prog.depth t_api_Sense = false := by kernel_rfl
theorem fit_snv (s : Sn) : FitL kSn (snv s) := ⟨rfl, rfl, rfl, rfl, rfl, rfl, rfl, rfl, trivial⟩
theorem rsv_sense {w : World} {b : Nat} {s : Nat} {sn : Sn} {d : Sl} (h : Blk w b (rsv s sn d).toArray t_api_Result) : Cells w ((⟨b, 0, none⟩ : Addr).add 1) (snv sn) := fun j v hj => by
  rw [addr_add]
  refine blk_cells h (1 + j) v ?_
  have : j < 8 := (List.getElem?_eq_some_iff.1 hj).1
  unfold rsv
  rw [List.append_assoc, List.getElem?_append_right (by simp), show 1 + j - [Value.int .u8 (s : Int)].length = j by simp, List.getElem?_append_left (by exact this)]
  exact hj
theorem same14_spec {s : Nat} {sn : Sn} {d1 d2 : Sl} {l : L8} {w : World} {R : Bool → World → Prop} (h1 : Rd w 1 d1 (bv l)) (h2 : Rd w 1 d2 (bv l)) (h : ∀ w', Grow w w' → R true w') : Cpalletref14_Same (rsv s sn d1).toArray (rsv s sn d2).toArray w R := by
  refine Fpalletref14_Same.calls _ _ _ _ ?_
  refine new_rule fun ab w1 hab hb1 hg1 hsz1 => ?_
  refine new_rule fun bb w2 hbb hb2 hg2 hsz2 => ?_
  have hb1 : Blk w2 ab (rsv s sn d1).toArray t_api_Result := hg2.heap hb1 (fun q => q)
  have hb2 : Blk w2 bb (rsv s sn d2).toArray t_api_Result := hb2
  obtain ⟨r, hr, hrun⟩ := eql_rule (x := .tmp 12) (y := .tmp 14) flat_api_Sense kd_api_Sense gt_api_Sense (fit_snv sn) (fit_snv sn)
  have hr1 : r = true := hr.2 rfl
  subst hr1
  have g := hg1.trans hg2
  refine ⟨(s : Int), by rw [add0, hb1.cell]; rfl, (s : Int), by rw [add0, hb2.cell]; rfl, (snv sn).toArray, fun _ => sLoad (rsv_sense hb1), (snv sn).toArray, fun _ => sLoad (rsv_sense hb2), true, fun _ => hrun w2, d1, fun _ => by rw [add0, hb1.cell]; rfl, str l,
    fun _ => convStr_rule u_sl_uint8 u_uint8 u_string (h1.grow g), d2, fun _ => by rw [add0, hb2.cell]; rfl, str l, fun _ => convStr_rule u_sl_uint8 u_uint8 u_string (h2.grow g), ?_⟩
  have := h w2 g
  simpa [sEq_str] using this
/-! ### awake -/
end Go.Proofs.YtpmebahhjgkflaaGreatDoor

/- Layer 16: all is well when the power comes on. -/
namespace Go.Proofs.YtpmebahhjgkflaaGreatDoor
open Go CF
set_option maxRecDepth 100000
section
variable {w u v : World} {N N' S D : Nat → Prop} {pw i n : Nat} {a : UA} {s : USt} {st st' : Wst} {F : Int → Bool} {ℓ ℓ' : Nat → Option Nat} {us us' : List (UA × USt)}
def z6 : L8 := List.replicate 6 0
theorem ready_spec {R : Sl → World → Prop} (h : ∀ xs w', Grow w w' → Own w' w.heap.size t_uint8 1 xs (bv z6) → R xs w') : Cpalletlaw16_ready w R := by
  refine Fpalletlaw16_ready.calls _ _ ?_
  exact make_rule (n := 6) u_sl_uint8 i_uint8 rfl (by decide) (by decide) (base := w.heap.size) (Nat.le_refl _) fun w' hown hg hs => h _ w' hg hown
/-- TEST UNIT READY -/
theorem run_ready {c : Cm} {out : Sl} {up : Option Addr} {ab : Nat} {R : Array Value → World → Prop} (hk : c.kind = 1) (hR : ∀ v, Grow w v → FinR ab R (rsv 0 sn0 nilS).toArray v) : Cunit_Unit_run up (n : Int) (cmv c).toArray out w (FinR ab R) := by
  refine Funit_Unit_run.calls _ _ _ _ _ _ (new_rule fun cb w1 hcb hb1 hg1 hs1 => new_rule fun rb w2 hrb hb2 hg2 hs2 => ?_)
  have hb1' : Blk w2 cb (cmv c).toArray t_api_Cmd := hg2.heap hb1 (fun q => q)
  refine ⟨(c.kind : Int), by rw [add0, hb1'.cell]; rfl, br_t (by rw [hk]; rfl) ?_⟩
  refine ret_rule (st := 0) (s := sn0) (d := nilS) hb2 rfl fun w3 hk3 => hR w3 ((hg1.trans hg2).keep hk3 fun i hi q => by have := hg1.size; omega)
theorem parse_z6 : parseX z6 = ({ c0C with kind := 1 }, sn0, true) := by kernel_rfl
theorem peek_on : peekX (addA [] 10496) = some 10496 := by kernel_rfl
theorem next_on : nextX (addA [] 10496) = [] := by kernel_rfl
theorem newU_ld {st : Wst} {i prot : Nat} {ps : List Nat} (hs : st.seen = fun _ => none) : ldN st.seen (unitL i prot ps).keepf 2 = (-1, 0, []) := by
  rw [hs]
  exact ldN_noneS (noneS_nil _)
theorem nmL_size {i : Nat} (hi : i < 2) : (nmL i).size = 1 := by
  have : ∀ i : Fin 2, (nmL i.val).size = 1 := by decide +kernel
  exact this ⟨i, hi⟩
theorem keepf_size {i prot : Nat} {ps : List Nat} (hi : i < 2) : 1 ≤ (unitL i prot ps).keepf.size ∧ (unitL i prot ps).keepf.size ≤ 30 := by
  show 1 ≤ (nmL i ++ s_x2ep).size ∧ (nmL i ++ s_x2ep).size ≤ 30
  rw [size_app, nmL_size hi]
  have : s_x2ep.size = 2 := by decide
  omega
abbrev poS : Sn := ⟨6, 10496, 0, false, 0, 0, false, false⟩
/-- what a unit is behind its first command -/
def wokeU (s : USt) (n : Nat) : USt := toldU (startedU (bumpU s)) n
theorem do_wake {p out : Sl} {ps : List Nat} {k prot : Nat} {R : Array Value → World → Prop} (H : Sys w ℓ pw st quiet us) (hi : i < us.length) (hk : k < 2) (he : us[i] = (a, unitL k prot ps)) (hs : st.seen = fun _ => none) (ho : st.ops < 1000000) (hn : n < 8) (hp : RdX w ℓ 1 p (bv z6))
    (hR : ∀ u ℓ', Mv w u ℓ ℓ' → Sys u ℓ' pw { st with ops := st.ops + 2 } quiet (us.set i (a, wokeU (unitL k prot ps) n)) → R (rsv 2 poS nilS).toArray u) : Cunit_Unit_Do (some ⟨a.ub, 0, none⟩) (n : Int) p out w R := by
  refine do_fresh H hi he rfl rfl (keepf_size hk) (by omega) (newU_ld hs) hn (by show 0 < 1000000000000; decide) hp fun ℓ1 => ?_
  have hq : (startedU (bumpU (unitL k prot ps))).q n = addA [] 10496 := by
    show (if n < 8 then addA [] 10496 else []) = _
    rw [if_pos hn]
  have : headX (startedU (bumpU (unitL k prot ps))) n z6 = .told 10496 := by
    unfold headX
    rw [parse_z6, hq, peek_on]
    rfl
  rw [this]
  exact fun u m Hu => hR u ℓ1 m Hu
theorem do_ready {p out : Sl} {R : Array Value → World → Prop} (H : Sys w ℓ pw st F us) (hi : i < us.length) (he : us[i] = (a, s)) (hon : s.on = 1) (hfl : s.fault = 0) (hn : n < 8) (hct : s.count < 1000000000000) (hq : s.q n = []) (ht : s.tab.kind = 0) (hp : RdX w ℓ 1 p (bv z6))
    (hR : ∀ u ℓ', Mv w u ℓ ℓ' → Sys u ℓ' pw st F (us.set i (a, bumpU s)) → R (rsv 0 sn0 nilS).toArray u) : Cunit_Unit_Do (some ⟨a.ub, 0, none⟩) (n : Int) p out w R := by
  refine do_started H hi he hon hfl hn hct hp fun ℓ1 => ?_
  have : headX (bumpU s) n z6 = .run { c0C with kind := 1 } := by
    unfold headX
    rw [parse_z6, show (bumpU s).q n = [] from hq]
    have hc : conflictT (bumpU s).tab n (classX ({ c0C with kind := 1 } : Cm).kind) = false := if_pos (.inl ht)
    show (if conflictT (bumpU s).tab n (classX ({ c0C with kind := 1 } : Cm).kind) = true then HeadX.conflict else if (altersX 1 && (bumpU s).now.swp) = true then .prot else .run _) = _
    rw [hc]
    rfl
  rw [this]
  refine fun u ab m Hu hb hw hn1 => run_ready rfl fun v g => ?_
  exact FinR.sys (Hu.grow g) (m.go g) hw hn1 (g.heap hb (fun q => q)) rfl fun v' k hm hs => hR v' ℓ1 hm hs
end
end Go.Proofs.YtpmebahhjgkflaaGreatDoor

/- Layer 16: the power came on, and then all is well. -/
namespace Go.Proofs.YtpmebahhjgkflaaGreatDoor
open Go CF
set_option maxRecDepth 100000
section
variable {w u v : World} {N N' S D : Nat → Prop} {pw i n : Nat} {a : UA} {s : USt} {st st' : Wst} {F : Int → Bool} {ℓ ℓ' : Nat → Option Nat} {us us' : List (UA × USt)}
theorem ask_ready {S : World → Prop} {p : Option Addr} {K : Addr → World → Prop} {x : Nat} {sn : Sn} (H : Sys w ℓ pw st F us) (hS : ∀ v ℓ', Mv w v ℓ ℓ' → S v)
    (hD : ∀ v xs, Grow w v → RdX v ℓ 1 xs (bv z6) → ∀ R : Array Value → World → Prop, (∀ u ℓ', Mv v u ℓ ℓ' → Sys u ℓ' pw st' F us' → R (rsv x sn nilS).toArray u) → Cunit_Unit_Do p 0 xs ⟨none, 0, 0⟩ v R)
    (hK : ∀ ab u ℓ', Mv w u ℓ ℓ' → Sys u ℓ' pw st' F us' → Blk u ab (rsv x sn nilS).toArray t_api_Result → ℓ' ab = none → w.heap.size ≤ ab → K ⟨ab, 0, none⟩ u) :
    (Cpalletlaw16_ready w fun xs w05 => S w05 ∧ (Cunit_Unit_Do p 0 xs ⟨none, 0, 0⟩ w05 fun g1 w06 => New (.cells z10 t_api_Result) w06 fun ab w07 => S w07 ∧ RunU Tryz.prog (storeVar t_api_Result ab (.agg g1)) w07 fun w08 => K ab w08) ∧
      New (.cells z10 t_api_Result) w05 fun ab w07 => S w07 ∧ Cunit_Unit_Do p 0 xs ⟨none, 0, 0⟩ w07 fun g w08 => RunU Tryz.prog (storeVar t_api_Result ab (.agg g)) w08 fun w09 => K ab w09) ∧
    New (.cells z10 t_api_Result) w fun ab w05 => S w05 ∧ Cpalletlaw16_ready w05 fun xs w06 => S w06 ∧ Cunit_Unit_Do p 0 xs ⟨none, 0, 0⟩ w06 fun g w07 => RunU Tryz.prog (storeVar t_api_Result ab (.agg g)) w07 fun w08 => K ab w08 := by
  have rx : ∀ {v0 v : World} {xs : Sl}, Grow w v0 → Own v v0.heap.size t_uint8 1 xs (bv z6) → RdX v ℓ 1 xs (bv z6) := fun {v0 v xs} g ho => ⟨ho.rd (by have := ho.len; rw [bv_length] at this; have e : z6.length = 6 := rfl; omega), fun b hb => by
    have := ho.ge b.block (by simp [Sl.blk, hb])
    have := g.size
    exact ⟨by omega, H.fresh (by omega)⟩⟩
  -- the result is laid into its place
  have lay : ∀ {u : World} {ℓ' : Nat → Option Nat} {ab : Nat} {cs : Array Value}, Mv w u ℓ ℓ' → Sys u ℓ' pw st' F us' → Blk u ab cs t_api_Result → cs.size = 10 → ℓ' ab = none → w.heap.size ≤ ab → RunU Tryz.prog (storeVar t_api_Result ⟨ab, 0, none⟩ (.agg (rsv x sn nilS).toArray)) u fun w08 => K ⟨ab, 0, none⟩ w08 := fun {u ℓ' ab cs} m Hu hb hc hn hw =>
    lay_rule hb hc fun u' hb' hk' hs' => hK ab u' ℓ' (m.loc hk' fun b hb q => by omega) (Hu.local1 hb hn hk' (rowT_not (by decide) (by decide) (by decide)) (by decide)) hb' hn hw
  refine ⟨ready_spec fun xs w1 hg1 ho1 => ⟨hS _ _ (Mv.grow hg1), ?_, ?_⟩, ?_⟩
  · refine hD w1 xs hg1 (rx (Keep.refl _ _) ho1) _ fun u ℓ' m Hu => new_rule fun ab u2 hab hb2 hg2 hs2 => ?_
    have m1 := ((Mv.grow hg1).trans m)
    exact ⟨hS _ _ (m1.go hg2), lay (m1.go hg2) (Hu.grow hg2) hb2 rfl (Hu.fresh (by omega)) (by have := m1.keep.size; omega)⟩
  · refine new_rule fun ab w2 hab hb2 hg2 hs2 => ⟨hS _ _ (Mv.grow (hg1.trans hg2)), ?_⟩
    refine hD w2 xs (hg1.trans hg2) ⟨(rx (Keep.refl _ _) ho1).rd.grow hg2, fun b hb => ⟨by have := ((rx (Keep.refl _ _) ho1).out b hb).1; have := hg2.size; omega, ((rx (Keep.refl _ _) ho1).out b hb).2⟩⟩ _ fun u ℓ' m Hu => ?_
    have hfn : ℓ ab = none := H.fresh (by have := hg1.size; omega)
    exact lay ((Mv.grow (hg1.trans hg2)).trans m) Hu (m.heap hb2 hfn) rfl ((m.lab _ (lt_of_heap hb2)).trans hfn) (by have := hg1.size; omega)
  · refine new_rule fun ab w1 hab hb1 hg1 hs1 => ⟨hS _ _ (Mv.grow hg1), ready_spec fun xs w2 hg2 ho2 => ⟨hS _ _ (Mv.grow (hg1.trans hg2)), ?_⟩⟩
    refine hD w2 xs (hg1.trans hg2) (rx hg1 ho2) _ fun u ℓ' m Hu => ?_
    have hfn : ℓ ab = none := H.fresh (by omega)
    exact lay ((Mv.grow (hg1.trans hg2)).trans m) Hu (m.heap (hg2.heap hb1 (fun q => q)) hfn) rfl ((m.lab _ (by have := lt_of_heap hb1; have := hg2.size; omega)).trans hfn) (by omega)
set_option maxHeartbeats 1000000 in
theorem awake16_spec {R : Bool → World → Prop} (h : ∀ w', Grow w w' → R true w') : Cpalletlaw16_awake w R := by
  refine Fpalletlaw16_awake.calls _ _ (world_new_spec fun pw D w1 hg1 hW hD => ?_)
  obtain ⟨ℓ, H1, hℓ⟩ := Sys.world0 hW
  have old : ∀ b, b < w.heap.size → ℓ b = none := fun b hb => hℓ b fun q => by have := hD b q; omega
  refine units_spec (prot := 0) H1 (by decide) fun w2 ℓ2 a0 a1 m2 H2 => new_rule fun ub w3 hub hb3 hg3 hs3 => ?_
  refine storeVar_rule (cells := #[.pointer (some ⟨a0.ub, 0, none⟩), .pointer (some ⟨a1.ub, 0, none⟩)]) hb3 i_2_p_unit_Unit rfl rfl (by simp [Value.oneCell']) fun w4 hb4 hk4 hs4 => ?_
  have hg24 : Grow w2 w4 := hg3.keep hk4 fun i hi q => by omega
  have H4 := H2.grow hg24
  have hun : ℓ2 ub = none := H2.fresh (by omega)
  have cu : ∀ {v : World}, Blk v ub #[.pointer (some ⟨a0.ub, 0, none⟩), .pointer (some ⟨a1.ub, 0, none⟩)] t_2_p_unit_Unit → v.cell? ((⟨ub, 0, none⟩ : Addr).add ((0 : Int).toNat * 1)) = some (.pointer (some ⟨a0.ub, 0, none⟩)) := fun q => by rw [add0, Blk.cell q]; rfl
  refine ⟨⟨by decide, by decide⟩, _, cu hb4, br_f rfl ?_⟩
  rintro w5 rfl
  have hg5 := keep_drew w4
  have H5 := H4.grow hg5
  have hb5 : Blk w4.drew ub _ t_2_p_unit_Unit := hg5.heap hb4 (fun q => q)
  have hgu : ∀ {u : World} {ℓ' : Nat → Option Nat}, Mv w4.drew u ℓ2 ℓ' → Grow w u := fun m => hg1.keep ((m2.go (hg24.trans hg5)).trans m).keep fun b hb q => q (old b hb)
  have cS : ∀ {v : World} {ℓ' : Nat → Option Nat}, Mv w4.drew v ℓ2 ℓ' → v.cell? ((⟨ub, 0, none⟩ : Addr).add ((0 : Int).toNat * 1)) = some (.pointer (some ⟨a0.ub, 0, none⟩)) := fun m => cu (m.heap hb5 hun)
  generalize w4.drew = w5 at *
  refine ⟨fun o => o.cell? ((⟨ub, 0, none⟩ : Addr).add ((0 : Int).toNat * 1)) = some (.pointer (some ⟨a0.ub, 0, none⟩)), cu hb5, ⟨by decide, by decide⟩, _, fun o q => q, ?_⟩
  refine ask_ready (x := 2) (sn := poS) H5 (fun v ℓ' m => cS m) (fun v xs g hx R hR => do_wake (i := 0) (k := 0) (n := 0) (prot := 0) (H5.grow g) (by show 0 < 2; decide) (by decide) rfl rfl (by show 0 < 1000000; decide) (by decide) hx hR) fun ab u ℓ3 m3 H3 hab hna lab => ?_
  rintro w6 rfl
  have hg6 := keep_drew u
  have m6 := m3.go hg6
  have H6 := H3.grow hg6
  have hab6 : Blk u.drew ab _ t_api_Result := hg6.heap hab (fun q => q)
  generalize u.drew = w6 at *
  refine ⟨fun o => o.cell? ((⟨ub, 0, none⟩ : Addr).add ((0 : Int).toNat * 1)) = some (.pointer (some ⟨a0.ub, 0, none⟩)), cS m6, ⟨by decide, by decide⟩, _, fun o q => q, ?_⟩
  refine ask_ready (x := 0) (sn := sn0) H6 (fun v ℓ' m => cS (m6.trans m)) (fun v xs g hx R hR => do_ready (i := 0) (n := 0) (H6.grow g) (by show 0 < 2; decide) rfl rfl rfl (by decide) (by show 1 < 1000000000000; decide) next_on rfl hx hR) fun bb u2 ℓ4 m4 H4' hbb hnb lbb => ?_
  rintro w7 rfl
  have hg7 := keep_drew u2
  have hab7 : Blk u2.drew ab (rsv 2 poS nilS).toArray t_api_Result := (m4.go hg7).heap hab6 hna
  have hbb7 : Blk u2.drew bb (rsv 0 sn0 nilS).toArray t_api_Result := hg7.heap hbb (fun q => q)
  have gw7 := hgu ((m6.trans m4).go hg7)
  generalize u2.drew = w7 at *
  refine ⟨fun o => Blk o ab (rsv 2 poS nilS).toArray t_api_Result ∧ Blk o bb (rsv 0 sn0 nilS).toArray t_api_Result, ⟨hab7, hbb7⟩, (rsv 2 poS nilS).toArray, fun o q => rLoad (blk_cells q.1), ?_⟩
  refine ends14_spec (key := 6) (code := 10496) fun w8 hg8 => ?_
  have st8 : ∀ {o : World}, Grow w7 o → Blk o ab (rsv 2 poS nilS).toArray t_api_Result ∧ Blk o bb (rsv 0 sn0 nilS).toArray t_api_Result := fun g => ⟨g.heap hab7 (fun q => q), g.heap hbb7 (fun q => q)⟩
  refine ⟨st8 hg8, same14_spec (rd_nilB _) (rd_nilB _) fun w9 hg9 => ?_⟩
  have hs9 := st8 (hg8.trans hg9)
  refine ⟨hs9, fun o => Blk o ab (rsv 2 poS nilS).toArray t_api_Result ∧ Blk o bb (rsv 0 sn0 nilS).toArray t_api_Result, hs9, fun _ q => q, (rsv 0 sn0 nilS).toArray, fun _ o q => rLoad (blk_cells q.2), fun o => Blk o ab (rsv 2 poS nilS).toArray t_api_Result ∧ Blk o bb (rsv 0 sn0 nilS).toArray t_api_Result, hs9, fun _ q => q, ?_⟩
  refine letJ1 (fun (b2 : Bool) o => b2 = true ∧ Grow w9 o) ?_ (fun J => ⟨fun _ => same14_spec (sn := sn0) (d2 := nilS) (rd_nilB _) (rd_nilB _) fun w10 hg10 => J _ _ ⟨rfl, hg10⟩, fun q => by cases q⟩)
  rintro b2 o ⟨rfl, hgo⟩
  exact h o (((gw7.trans hg8).trans hg9).trans hgo)
end
end Go.Proofs.YtpmebahhjgkflaaGreatDoor

/- Layer 16: the law UnitNews. -/
namespace Go.Proofs.YtpmebahhjgkflaaGreatDoor
open Go CF
set_option maxRecDepth 100000
section
variable {w u v : World}
theorem rclass_spec {k : Nat} {R : Int → World → Prop} (h : R (classX k : Int) w) : Cpalletref16_Class (k : Int) w R := Fpalletref16_Class.calls _ _ _ (class_core h)
theorem ralters_spec {k : Nat} {R : Bool → World → Prop} (h : R (altersX k) w) : Cpalletref16_Alters (k : Int) w R := by
  refine Fpalletref16_Alters.calls _ _ _ ?_
  unfold Fpalletref16_Alters
  have e : (((((k : Int) == 8) || ((k : Int) == 9)) || ((decide ((k : Int) ≥ 12)) && (decide ((k : Int) ≤ 14))))) = altersX k := by
    unfold altersX
    rw [Bool.eq_iff_iff]
    simp only [Bool.or_eq_true, Bool.and_eq_true, beq_iff_eq, decide_eq_true_eq]
    omega
  rw [e]; exact h
theorem none_reset {R : World → Prop} (h : R w) : Cunit_Unit_Reset none w R := Funit_Unit_Reset.calls _ _ _ ⟨fun q => (by cases q), none, fun q => (by cases q), br_f rfl h⟩
theorem none_peers {x : Sl} {R : World → Prop} (h : R w) : Cunit_Unit_Peers none x w R := Funit_Unit_Peers.calls _ _ _ _ (br_t rfl h)
theorem none_table {R : Sl → Int → Int → World → Prop} (h : R nilS 0 (-1) w) : Cunit_Unit_Table none w R := Funit_Unit_Table.calls _ _ _ ⟨fun q => (by cases q), none, fun q => (by cases q), br_t rfl h⟩
theorem none_start {R : Int → World → Prop} (h : ∀ w', Grow w w' → R 8 w') : Cunit_Unit_Start none w R := by
  refine Funit_Unit_Start.calls _ _ _ (new_rule fun fb w1 hfb hb1 hg1 hs1 => ?_)
  have c : w1.cell? ⟨fb, 0, none⟩ = some (.pointer none) := by rw [Blk.cell hb1]; rfl
  exact ⟨none, c, none, fun q => (by cases q), fun q => (by cases q), none, fun q => (by cases q), br_t rfl (h w1 hg1)⟩
theorem none_do {n : Int} {p out : Sl} {R : Array Value → World → Prop} (h : ∀ w', Grow w w' → R (rsv 2 ⟨5, 9472, 0, false, 0, 0, false, false⟩ nilS).toArray w') : Cunit_Unit_Do none n p out w R := by
  refine Funit_Unit_Do.calls _ _ _ _ _ _ (new_rule fun ab w1 hab hb1 hg1 hs1 => ⟨fun q => (by cases q), none, fun q => (by cases q), br_t rfl ?_⟩)
  refine checkU_spec (s := ⟨5, 9472, 0, false, 0, 0, false, false⟩) fun w2 hg2 => ?_
  exact ret_rule (hg2.heap hb1 (fun q => q)) rfl fun w3 hk3 => h w3 (grow_new (hg1.trans hg2) (by omega) hk3)
theorem none_count {R : Int → World → Prop} (h : R 0 w) : Cunit_Unit_Count none w R := Funit_Unit_Count.calls _ _ _ (br_t rfl h)
theorem none_described {R : Bool → World → Prop} (h : R false w) : Cunit_Unit_Described none w R := by
  refine Funit_Unit_Described.calls _ _ _ ⟨fun q => (by cases q), none, fun q => (by cases q), ?_⟩
  refine letJ1 (fun (g : Array Value) o => o = w) ?_ (fun J => ⟨fun q => (by cases q), fun _ => J _ _ rfl⟩)
  rintro g o rfl
  exact ⟨false, fun q => (by cases q), h⟩
set_option maxHeartbeats 1000000 in
theorem unitNews_spec {name : ByteArray} {inf : InfS} {blocks nexus : Int} {kind : Nat} {cdb : Sl} {R : Bool → World → Prop} (hi : InfOk inf) (hpr : inf.prot < 256) (hk : kind < 256) (h : ∀ w', Grow w w' → R true w') : Cpalletlaw16_UnitNews name (infv inf).toArray blocks (kind : Int) nexus cdb w R := by
  refine Fpalletlaw16_UnitNews.calls _ _ _ _ _ _ _ _ (new_rule fun ib w1 hib hb1 hg1 hs1 => awake16_spec fun w2 hg2 => br_f rfl ?_)
  rintro w3 rfl
  have hg3 := (hg1.trans hg2).trans (keep_drew w2)
  have hb3 : Blk w2.drew ib (infv inf).toArray t_inq_Info := (hg2.trans (keep_drew w2)).heap hb1 (fun q => q)
  generalize w2.drew = w3 at *
  refine ⟨fun o => Blk o ib (infv inf).toArray t_inq_Info, hb3, (infv inf).toArray, fun o q => loadVar_rule (cs := infv inf) g_inq_Info i_inq_Info rfl (blk_cells q), (cfgv inf blocks).toArray, fun o _ => cfg_build o _ _ _ _ _ _, world_new_spec fun pw D w4 hg4 _ _ => ⟨hg4.heap hb3 (fun q => q), ?_⟩⟩
  -- behind the making
  have rest : ∀ {p1 : Option Addr} {n : Nat} {w5 : World}, Grow w4 w5 → n = (if argBad name blocks = true then 1 else if formX inf = true then 0 else 3) → (p1.isNone = decide (n ≠ 0)) →
      ∃ s : ByteArray, w5.cell? ((⟨ib, 0, none⟩ : Addr).add 0) = some (.string s) ∧ ∃ s1 : ByteArray, w5.cell? ((⟨ib, 0, none⟩ : Addr).add 1) = some (.string s1) ∧ ∃ s2 : ByteArray, w5.cell? ((⟨ib, 0, none⟩ : Addr).add 2) = some (.string s2) ∧ ∃ s3 : ByteArray, w5.cell? ((⟨ib, 0, none⟩ : Addr).add 3) = some (.string s3) ∧ ∃ n1 : Int, w5.cell? ((⟨ib, 0, none⟩ : Addr).add 4) = some (.int .u8 n1) ∧
        New (.cells #[.string ⟨#[]⟩, .string ⟨#[]⟩, .string ⟨#[]⟩, .string ⟨#[]⟩, .int .i64 0] t_palletref11_Info) w5 fun f w05 => RunU Tryz.prog (storeVar t_palletref11_Info f (.agg #[.string s, .string s1, .string s2, .string s3, .int .i64 (IntKind.wrap .i64 n1)])) w05 fun w06 => ∃ g2 : Array Value, (loadVar t_palletref11_Info f).run Tryz.prog w06 = .ok (.agg g2) w06 ∧ Cpalletref11_Form g2 w06 fun b1 w07 =>
        letX (fun (want : Int) (w08 : World) => letX (fun (want1 : Int) (w09 : World) => Br (((n : Int) != want1) || (!((p1.isNone) == ((n : Int) != 0)))) (R false w09) (Cunit_Unit_Reset none w09 fun w010 => Cunit_Unit_Peers none ⟨none, 0, 0⟩ w010 fun w011 => Cunit_Unit_Table none w011 fun xs n2 n3 w012 => Cunit_Unit_Start none w012 fun n4 w013 =>
          letJ (fun (g3 : Array Value) (w014 : World) => letJ (fun (g4 : Array Value) (w015 : World) => letJ (fun (b2 : Bool) (w016 : World) => letJ (fun (n5 : Int) (w017 : World) => letJ (fun (b3 : Bool) (w018 : World) => Br (((((((n4 != 8) || (!b2)) || (n5 != 0)) || b3) || ((xs.n : Int) != 0)) || (n2 != 0)) || (n3 != (-1))) (R false w018)
            (Cunit_Class (kind : Int) w018 fun n6 w019 => Cpalletref16_Class (IntKind.wrap .i64 (kind : Int)) w019 fun n7 w020 => letJ (fun (b4 : Bool) (w021 : World) => letJ (fun (b5 : Bool) (w022 : World) => R (((IntKind.wrap .i64 n6) == n7) && (b4 == b5)) w022) fun J_ => (((IntKind.wrap .i64 n6) == n7) = true → Cpalletref16_Alters (IntKind.wrap .i64 (kind : Int)) w021 J_) ∧ (((IntKind.wrap .i64 n6) == n7) = false → J_ (Kd.dflt .b) w021)) fun J_1 => (((IntKind.wrap .i64 n6) == n7) = true → Cunit_Alters (kind : Int) w020 J_1) ∧ (((IntKind.wrap .i64 n6) == n7) = false → J_1 (Kd.dflt .b) w020)))
            fun J_2 => ((!(((n4 != 8) || (!b2)) || (n5 != 0))) = true → Cunit_Unit_Described none w017 J_2) ∧ ((!(((n4 != 8) || (!b2)) || (n5 != 0))) = false → J_2 (Kd.dflt .b) w017)) fun J_3 => ((!((n4 != 8) || (!b2))) = true → Cunit_Unit_Count none w016 J_3) ∧ ((!((n4 != 8) || (!b2))) = false → J_3 (Kd.dflt (.i .i64)) w016)) fun J_4 => ((!(n4 != 8)) = true → Cpalletref14_Same g3 g4 w015 J_4) ∧ ((!(n4 != 8)) = false → J_4 (Kd.dflt .b) w015)) fun J_5 => ((!(n4 != 8)) = true → Cpalletref14_Ends 5 9472 w014 J_5) ∧ ((!(n4 != 8)) = false → J_5 (Kd.dflt .ag) w014)) fun J_6 => ((!(n4 != 8)) = true → Cunit_Unit_Do none nexus cdb ⟨none, 0, 0⟩ w013 J_6) ∧ ((!(n4 != 8)) = false → J_6 (Kd.dflt .ag) w013)))
          fun J_7 => Br ((((decide ((name.size : Int) < 1)) || (decide ((name.size : Int) > 28))) || (decide (blocks < 1))) || (decide (blocks > 4096))) (J_7 1 w08) (J_7 want w08)) fun J_8 => Br (!b1) (J_8 3 w07) (J_8 0 w07) := by
    intro p1 n w5 hg5 hn hp
    have hg := hg4.trans hg5
    have hb5 : Blk w5 ib (infv inf).toArray t_inq_Info := hg.heap hb3 (fun q => q)
    have c : ∀ {o : Nat} {x : Value}, (infv inf)[o]? = some x → w5.cell? ((⟨ib, 0, none⟩ : Addr).add o) = some x := fun e => by rw [add0, hb5.cell, Nat.zero_add, List.getElem?_toArray]; exact e
    refine ⟨inf.v, c rfl, inf.p, c rfl, inf.r, c rfl, inf.s, c rfl, (inf.prot : Int), c rfl, ?_⟩
    rw [w64 (n := (inf.prot : Int)) (by omega) (by omega)]
    refine new_rule fun fb w6 hfb hb6 hg6 hs6 => storeVar_rule (cells := (rinfv inf).toArray) hb6 i_palletref11_Info rfl rfl (by simp [rinfv, Value.oneCell']) fun w7 hb7 hk7 hs7 => ⟨_, loadVar_rule (cs := rinfv inf) g_palletref11_Info i_palletref11_Info rfl (blk_cells hb7), rform_spec11 hi fun w8 hg8 => ?_⟩
    have gw8 : Grow w w8 := ((hg3.trans hg).trans (hg6.keep hk7 fun i hi q => by omega)).trans hg8
    refine letX1 (fun (want : Int) o => o = w8 ∧ want = if formX inf = true then 0 else 3) ?_ (fun J => ?_)
    · rintro want o ⟨rfl, hw⟩
      refine letX1 (fun (want1 : Int) o' => o' = o ∧ want1 = (n : Int)) ?_ (fun J => ?_)
      · rintro want1 o' ⟨rfl, rfl⟩
        have e0 : (((n : Int) != (n : Int)) || (!((p1.isNone) == ((n : Int) != 0)))) = false := by
          have e : ((n : Int) != 0) = decide (n ≠ 0) := neI
          rw [hp, e]; simp
        refine br_f e0 (none_reset (none_peers (none_table (none_start fun w9 hg9 => ?_))))
        refine letJ1 (fun g3 o => g3 = (rsv 2 ⟨5, 9472, 0, false, 0, 0, false, false⟩ nilS).toArray ∧ Grow w9 o) ?_ (fun J => ⟨fun _ => none_do fun v g => J _ _ ⟨rfl, g⟩, fun q => by cases q⟩)
        rintro g3 o1 ⟨rfl, h1⟩
        refine letJ1 (fun g4 o => g4 = (rsv 2 ⟨5, 9472, 0, false, 0, 0, false, false⟩ nilS).toArray ∧ Grow w9 o) ?_ (fun J => ⟨fun _ => ends14_spec (key := 5) (code := 9472) fun v g => J _ _ ⟨rfl, h1.trans g⟩, fun q => by cases q⟩)
        rintro g4 o2 ⟨rfl, h2⟩
        refine letJ1 (fun (b2 : Bool) o => b2 = true ∧ Grow w9 o) ?_ (fun J => ⟨fun _ => same14_spec (rd_nilB _) (rd_nilB _) fun v g => J _ _ ⟨rfl, h2.trans g⟩, fun q => by cases q⟩)
        rintro b2 o3 ⟨rfl, h3⟩
        refine letJ1 (fun (n5 : Int) o => n5 = 0 ∧ Grow w9 o) ?_ (fun J => ⟨fun _ => none_count (J _ _ ⟨rfl, h3⟩), fun q => by cases q⟩)
        rintro n5 o4 ⟨rfl, h4⟩
        refine letJ1 (fun (b3 : Bool) o => b3 = false ∧ Grow w9 o) ?_ (fun J => ⟨fun _ => none_described (J _ _ ⟨rfl, h4⟩), fun q => by cases q⟩)
        rintro b3 o5 ⟨rfl, h5⟩
        refine br_f rfl (class_spec ?_)
        rw [w64 (n := (kind : Int)) (by omega) (by omega)]
        refine rclass_spec ?_
        have hc : classX kind < 3 := by
          unfold classX
          exact iteLe (by decide) (iteLe (by decide) (by decide))
        rw [w64 (n := (classX kind : Int)) (by omega) (by omega)]
        have e1 : (((classX kind : Nat) : Int) == ((classX kind : Nat) : Int)) = true := by simp
        rw [e1]
        refine letJ1 (fun (b4 : Bool) o => b4 = altersX kind ∧ Grow w9 o) ?_ (fun J => ⟨fun _ => alters_spec (J _ _ ⟨rfl, h5⟩), fun q => by cases q⟩)
        rintro b4 o6 ⟨rfl, h6⟩
        refine letJ1 (fun (b5 : Bool) o => b5 = altersX kind ∧ Grow w9 o) ?_ (fun J => ⟨fun _ => ralters_spec (J _ _ ⟨rfl, h6⟩), fun q => by cases q⟩)
        rintro b5 o7 ⟨rfl, h7⟩
        have e2 : (true && (altersX kind == altersX kind)) = true := by simp
        rw [e2]
        exact h o7 ((gw8.trans hg9).trans h7)
      · have eb : ((((decide ((name.size : Int) < 1)) || (decide ((name.size : Int) > 28))) || (decide (blocks < 1))) || (decide (blocks > 4096))) = argBad name blocks := by
          unfold argBad
          congr 1
          congr 1
          congr 1
          · rw [decide_eq_decide]; omega
          · rw [decide_eq_decide]; omega
        rw [eb]
        cases hA : argBad name blocks with
        | true => rw [if_pos hA] at hn; exact br_t rfl (J _ _ ⟨rfl, by omega⟩)
        | false =>
          rw [hA, if_neg (by decide)] at hn
          refine br_f rfl (J _ _ ⟨rfl, ?_⟩)
          rw [hw, hn]
          split <;> rfl
    · cases hF : formX inf with
      | true => exact br_f rfl (J _ _ ⟨rfl, by rw [hF]; rfl⟩)
      | false => exact br_t rfl (J _ _ ⟨rfl, by rw [hF]; rfl⟩)
  refine new_unit hi (fun hA u g => ?_) (fun hA hF u g => ?_) (fun hA hF a u g _ _ => ?_)
  · exact rest (n := 1) g (by rw [if_pos hA]) rfl
  · exact rest (n := 3) g (by rw [hA, if_neg (by decide), hF, if_neg (by decide)]) rfl
  · exact rest (n := 0) g (by rw [hA, if_neg (by decide), hF, if_pos rfl]) rfl
end
end Go.Proofs.YtpmebahhjgkflaaGreatDoor

/- The row of UnitNews. -/
namespace Go.Proofs.YtpmebahhjgkflaaGreatDoor
open Go CF
set_option maxRecDepth 100000
section
variable {H : Type} {enc : TypeId × Value → H} {w : World} {base : Nat} {spare : Nat → Bool} {held : Bool}
theorem fit_i16 {k : IntKind} {v : Value} (h : (Kd.i k).fit v = true) : ∃ n, v = .int k n := ⟨_, (mk_un h).symm⟩
theorem fit_s16 {v : Value} (h : Kd.s.fit v = true) : ∃ b, v = .string b := ⟨_, (mk_un h).symm⟩
theorem int_u8n {x : Int} (h : (Lit.int .u8 x).wf = true) : ∃ n : Nat, x = (n : Int) ∧ n < 256 := by
  simp [Lit.wf, IntKind.min, IntKind.max, IntKind.signed, IntKind.bits] at h
  exact ⟨x.toNat, by omega, by omega⟩
theorem opens_inf_of {cs : List Value} (h : FitL [.s, .s, .s, .s, .i .u8] cs) (hk : ∀ v ∈ cs, okV v) : ∃ c : InfS, cs = infv c ∧ InfOk c ∧ c.prot < 256 := by
  match cs, h with
  | [v0, v1, v2, v3, v4], h =>
    obtain ⟨h0, h1, h2, h3, h4, _⟩ := h
    obtain ⟨x0, rfl⟩ := fit_s16 h0
    obtain ⟨x1, rfl⟩ := fit_s16 h1
    obtain ⟨x2, rfl⟩ := fit_s16 h2
    obtain ⟨x3, rfl⟩ := fit_s16 h3
    obtain ⟨x4, rfl⟩ := fit_i16 h4
    obtain ⟨y4, rfl, z4⟩ := int_u8n (hk _ (by simp) : okV (.int .u8 x4))
    have k0 : x0.size ≤ 140737488351232 := (hk (.string x0) (by simp) : okV (.string x0))
    have k1 : x1.size ≤ 140737488351232 := (hk (.string x1) (by simp) : okV (.string x1))
    have k2 : x2.size ≤ 140737488351232 := (hk (.string x2) (by simp) : okV (.string x2))
    have k3 : x3.size ≤ 140737488351232 := (hk (.string x3) (by simp) : okV (.string x3))
    exact ⟨⟨x0, x1, x2, x3, y4⟩, rfl, ⟨by show x0.size ≤ _; omega, by show x1.size ≤ _; omega, by show x2.size ≤ _; omega, by show x3.size ≤ _; omega⟩, z4⟩
theorem opens_inf : Opens enc Tryz.prog w base spare held t_inq_Info fun cs => ∃ c : InfS, cs = infv c ∧ InfOk c ∧ c.prot < 256 :=
  (opens_flat 8 t_inq_Info _ (by kernel_rfl) (by kernel_rfl)).mono fun _ ⟨h, hk⟩ => opens_inf_of h hk
end
theorem unitNews_row {name : ByteArray} {inf : InfS} {blocks kind nexus : Int} {cdb : Sl} {w : World} {R : Bool → World → Prop} (hi : InfOk inf) (hpr : inf.prot < 256) (hk : (Lit.int .u8 kind).wf = true) (h : ∀ w', Grow w w' → R true w') : Cpalletlaw16_UnitNews name (infv inf).toArray blocks kind nexus cdb w R := by
  obtain ⟨k, rfl, hk'⟩ := int_u8n hk
  exact unitNews_spec hi hpr hk' h
end Go.Proofs.YtpmebahhjgkflaaGreatDoor
