import Derived.LaidEqlPtr
import Derived.Lib.AppendStr
import Derived.Test.YtpmebahhjgkflaaGreatDoorB11
/- Layer 16: a command of a nexus, up to what does it. -/
namespace Go.Proofs.YtpmebahhjgkflaaGreatDoor
open Go CF
set_option maxRecDepth 100000
inductive HeadX where
  | bad (s : Sn)
  | told (c : Nat)
  | conflict
  | prot
  | run (c : Cm)
def freeK (k : Nat) : Bool := k == 3 || k == 17 || k == 2
def headX (s : USt) (n : Nat) (l : L8) : HeadX :=
  if (parseX l).2.2 = false then .bad (parseX l).2.1
  else match peekX (s.q n), freeK (parseX l).1.kind with
    | some c, false => .told c
    | _, _ => if conflictT s.tab n (classX (parseX l).1.kind) = true then .conflict else if (altersX (parseX l).1.kind && s.now.swp) = true then .prot else .run (parseX l).1
def bumpU (s : USt) : USt := { s with count := s.count + 1 }
def toldU (s : USt) (n : Nat) : USt := { s with q := fun t => if t = n then nextX (s.q n) else s.q t }
/-- a result is handed back -/
def FinR (ab : Nat) (R : Array Value → World → Prop) (g : Array Value) (v : World) : Prop := RunU Tryz.prog (storeVar t_api_Result ⟨ab, 0, none⟩ (.agg g)) v fun w' => ∃ res : Array Value, (loadVar t_api_Result ⟨ab, 0, none⟩).run Tryz.prog w' = .ok (.agg res) w' ∧ R res w'
section
variable {w u v : World} {N N' S : Nat → Prop} {pw i n : Nat} {a : UA} {s s1 : USt} {st st1 : Wst} {F : Int → Bool} {ℓ ℓ' : Nat → Option Nat} {us : List (UA × USt)} {p out : Sl} {l : L8}
theorem rowT_not {t : TypeId} (h1 : t ≠ t_uint16) (h2 : t ≠ t_api_Reg) (h3 : t ≠ t_p_unit_Unit) : ¬ rowT t := fun q => by
  rcases q with q | q | q
  · exact h1 q
  · exact h2 q
  · exact h3 q
theorem Sys.fresh (H : Sys w ℓ pw st F us) {b : Nat} (hb : w.heap.size ≤ b) : ℓ b = none := by
  cases hq : ℓ b with
  | none => rfl
  | some x => have := H.lt b (by rw [hq]; exact Option.some_ne_none _); omega
/-- a local block is written over -/
theorem Sys.local1 (H : Sys u ℓ pw st F us) {b : Nat} {cs : Array Value} {t : TypeId} (hb : Blk u b cs t) (hn : ℓ b = none) (k : Keep (fun k => k = b) u v) (ht : ¬ rowT t) (ht2 : t ≠ t_uint8) : Sys v ℓ pw st F us := H.loc k (Local.one hb hn ht ht2)
theorem FinR.of {ab x : Nat} {sn : Sn} {d : Sl} {cs : Array Value} {R : Array Value → World → Prop} (hb : Blk v ab cs t_api_Result) (hs : cs.size = 10) (h : ∀ v', Keep (fun k => k = ab) v v' → R (rsv x sn d).toArray v') : FinR ab R (rsv x sn d).toArray v := ret_rule hb hs h
/-- a result is handed back, and all else stays -/
theorem FinR.sys {ab x : Nat} {sn : Sn} {d : Sl} {cs : Array Value} {R : Array Value → World → Prop} (H : Sys v ℓ pw st F us) (hm : Mv w v ℓ' ℓ) (hw : w.heap.size ≤ ab) (hn : ℓ ab = none) (hb : Blk v ab cs t_api_Result) (hs : cs.size = 10)
    (h : ∀ v', Keep (fun k => k = ab) v v' → Mv w v' ℓ' ℓ → Sys v' ℓ pw st F us → R (rsv x sn d).toArray v') : FinR ab R (rsv x sn d).toArray v :=
  FinR.of hb hs fun v' k => h v' k (hm.loc k fun b hb q => by omega) (H.local1 hb hn k (rowT_not (by decide) (by decide) (by decide)) (by decide))
theorem do_gen {R : Array Value → World → Prop} (H : Sys w ℓ pw st F us) (hi : i < us.length) (he : us[i] = (a, s)) (hn : n < 8) (hct : s.count < 1000000000000) (hp : RdX w ℓ 1 p (bv l))
    (hstart : ∀ u, Mv w u ℓ ℓ → Sys u ℓ pw st F (us.set i (a, bumpU s)) → ∀ K : Int → World → Prop, (∀ u' ℓ', Mv u u' ℓ ℓ' → Sys u' ℓ' pw st1 F (us.set i (a, s1)) → K 0 u') → Cunit_Unit_Start (some ⟨a.ub, 0, none⟩) u K)
    (hR : ∀ ℓ1, match headX s1 n l with
      | .bad sn => ∀ u, Mv w u ℓ ℓ1 → Sys u ℓ1 pw st1 F (us.set i (a, s1)) → R (rsv 2 sn nilS).toArray u
      | .told c => ∀ u, Mv w u ℓ ℓ1 → Sys u ℓ1 pw st1 F (us.set i (a, toldU s1 n)) → R (rsv 2 ⟨6, c, 0, false, 0, 0, false, false⟩ nilS).toArray u
      | .conflict => ∀ u, Mv w u ℓ ℓ1 → Sys u ℓ1 pw st1 F (us.set i (a, s1)) → R (rsv 24 sn0 nilS).toArray u
      | .prot => ∀ u, Mv w u ℓ ℓ1 → Sys u ℓ1 pw st1 F (us.set i (a, s1)) → R (rsv 2 ⟨7, 9984, 0, false, 0, 0, false, false⟩ nilS).toArray u
      | .run c => ∀ u ab, Mv w u ℓ ℓ1 → Sys u ℓ1 pw st1 F (us.set i (a, s1)) → Blk u ab z10 t_api_Result → w.heap.size ≤ ab → ℓ1 ab = none → Cunit_Unit_run (some ⟨a.ub, 0, none⟩) (n : Int) (cmv c).toArray out u (FinR ab R)) : Cunit_Unit_Do (some ⟨a.ub, 0, none⟩) (n : Int) p out w R := by
  refine Funit_Unit_Do.calls _ _ _ _ _ _ (new_rule fun ab w0 hab hb0 hg0 hs0 => ?_)
  have hb0 : Blk w0 ab z10 t_api_Result := hb0
  have hab' : w.heap.size ≤ ab := by omega
  have hfab : ℓ ab = none := H.fresh hab'
  have H0 := H.grow hg0
  obtain ⟨hU, hown⟩ := H0.at hi he
  obtain ⟨z1, z2, z3, z4, z5, z6, z7⟩ := set7 a
  refine ⟨fun _ => rfl, some ⟨a.dv, 0, none⟩, fun _ => hU.cellU fun P => rfl, br_f (by simp; omega) ⟨rfl, ?_⟩⟩
  rw [show (gA (some (⟨a.ub, 0, none⟩ : Addr))).add 15 = ⟨a.ub, 15, none⟩ by rw [gA, add0]]
  obtain ⟨P, hP1, hP2⟩ := hU.unit
  refine add64_spec (o := 15) (n := (s.count : Int)) (s := ((s.count + 1 : Nat) : Int)) hP1 rfl (by rw [w64 (by omega) (by omega)]; omega) fun w1 hb1 hk1 hs1 => ?_
  have sf : Safe w0 (fun k => ℓ k ≠ none) fun b => b = a.ub := Safe.sub fun b _ q => by rw [q, hown _ z1]; exact Option.some_ne_none _
  have hU1 : IsU w1 (fun k => ℓ k ≠ none) pw a (bumpU s) := hU.unitC (on := s.on) (lk := s.lock) (fl := s.fault) (ct := s.count + 1) (ps := s.peers) hk1 sf (fun b _ hne q => hne q) (fun _ q => .inl q) ⟨P, hb1, hP2.step (.inr (.inr rfl)) hk1 sf fun _ q => .inl q⟩
  obtain ⟨m1, H1⟩ := H0.putA hi he hk1 (fun b _ q => by rw [q]; exact z1) hU1
  have hi1 : i < (us.set i (a, bumpU s)).length := by rw [List.length_set]; exact hi
  have m01 : Mv w w1 ℓ ℓ := (Mv.grow hg0).trans m1
  refine hstart w1 m01 H1 _ fun w2 ℓ2 m12 H2 => br_f rfl ?_
  have hR := hR ℓ2
  have m02 := m01.trans m12
  have hab2 : Blk w2 ab z10 t_api_Result := (m1.trans m12).heap hb0 hfab
  have hfab : ℓ2 ab = none := (m12.lab ab (lt_of_heap (m1.heap hb0 hfab))).trans hfab
  have hi1 : i < (us.set i (a, s1)).length := by rw [List.length_set]; exact hi
  refine parse_cmd (m02.rdX hp).rd fun w3 hg3 => ?_
  have m03 := m02.go hg3
  have H3 := H2.grow hg3
  have hab3 : Blk w3 ab z10 t_api_Result := hg3.heap hab2 (fun q => q)
  generalize hX : parseX l = X
  obtain ⟨c, sn, ok⟩ := X
  unfold headX at hR
  rw [hX] at hR
  dsimp only
  refine new_rule fun cb w4 hcb hb4 hg4 hs4 => new_rule fun sb w5 hsb hb5 hg5 hs5 => ?_
  have hcn : ab ≠ cb ∧ ab ≠ sb := by
    have := lt_of_heap hab3
    have := hg4.size
    omega
  refine storeVar_rule (cells := (cmv c).toArray) (hg5.heap hb4 (fun q => q)) i_api_Cmd rfl rfl (by simp [cmv, Value.oneCell']) fun w6 hb6 hk6 hs6 => ?_
  have hb56 := hk6.heap hb5 (fun q => by omega)
  refine storeVar_rule (cells := (snv sn).toArray) hb56 i_api_Sense rfl rfl (by simp [snv, Value.oneCell']) fun w7 hb7 hk7 hs7 => ?_
  have hg37 : Grow w3 w7 := (((hg4.trans hg5).keep hk6 fun i hi q => by omega).keep hk7 fun i hi q => by have := hg4.size; omega)
  have hb67 : Blk w7 cb (cmv c).toArray t_api_Cmd := hk7.heap hb6 (fun q => by omega)
  have m07 := m03.go hg37
  have H7 := H3.grow hg37
  have hab7 : Blk w7 ab z10 t_api_Result := hg37.heap hab3 (fun q => q)
  have c0 : ∀ {v : World}, Blk v cb (cmv c).toArray t_api_Cmd → v.cell? ((⟨cb, 0, none⟩ : Addr).add 0) = some (.int .u8 (c.kind : Int)) := fun q => by rw [add0, q.cell]; rfl
  cases ok with
  | false =>
    refine br_t rfl ⟨(snv sn).toArray, loadVar_rule (cs := snv sn) g_api_Sense i_api_Sense rfl (blk_cells hb7), checkU_spec fun w8 hg8 => ?_⟩
    rw [if_pos rfl] at hR
    exact FinR.sys (H7.grow hg8) (m07.go hg8) hab' hfab (hg8.heap hab7 (fun q => q)) rfl fun v k hm hs => hR v hm hs
  | true =>
    rw [if_neg (fun q => Bool.noConfusion q)] at hR
    dsimp only at hR
    refine br_f rfl ⟨(c.kind : Int), c0 hb67, (c.kind : Int), fun _ => c0 hb67, (c.kind : Int), fun _ => c0 hb67, rfl, ?_⟩
    obtain ⟨hU7, hown7⟩ := H7.at hi1 (List.getElem_set_self _)
    refine ⟨some ⟨a.qb, 0, none⟩, hU7.cellU fun P => rfl, ?_⟩
    have efree : (!((((c.kind : Int) == 3) || ((c.kind : Int) == 17)) || ((c.kind : Int) == 2))) = !freeK c.kind := by
      unfold freeK
      congr 1
      rw [Bool.eq_iff_iff]
      simp only [Bool.or_eq_true, beq_iff_eq]
      omega
    refine peek_spec hU7.q hn fun w8 hg8 => ?_
    have H8 := H7.grow hg8
    have m08 := m07.go hg8
    have hab8 : Blk w8 ab z10 t_api_Result := hg8.heap hab7 (fun q => q)
    have hb8 : Blk w8 cb (cmv c).toArray t_api_Cmd := hg8.heap hb67 (fun q => q)
    -- what comes behind the attentions
    have rest : ∀ {n5 : Int} {b1 : Bool}, (b1 && !freeK c.kind) = false →
        (match (if conflictT s1.tab n (classX c.kind) = true then HeadX.conflict else if (altersX c.kind && s1.now.swp) = true then .prot else .run c) with
          | .bad sn => ∀ u, Mv w u ℓ ℓ2 → Sys u ℓ2 pw st1 F (us.set i (a, s1)) → R (rsv 2 sn nilS).toArray u
          | .told c => ∀ u, Mv w u ℓ ℓ2 → Sys u ℓ2 pw st1 F (us.set i (a, toldU s1 n)) → R (rsv 2 ⟨6, c, 0, false, 0, 0, false, false⟩ nilS).toArray u
          | .conflict => ∀ u, Mv w u ℓ ℓ2 → Sys u ℓ2 pw st1 F (us.set i (a, s1)) → R (rsv 24 sn0 nilS).toArray u
          | .prot => ∀ u, Mv w u ℓ ℓ2 → Sys u ℓ2 pw st1 F (us.set i (a, s1)) → R (rsv 2 ⟨7, 9984, 0, false, 0, 0, false, false⟩ nilS).toArray u
          | .run c => ∀ u ab, Mv w u ℓ ℓ2 → Sys u ℓ2 pw st1 F (us.set i (a, s1)) → Blk u ab z10 t_api_Result → w.heap.size ≤ ab → ℓ2 ab = none → Cunit_Unit_run (some ⟨a.ub, 0, none⟩) (n : Int) (cmv c).toArray out u (FinR ab R)) →
        ∀ w018, w018 = w8.drew → ∃ S : World → Prop, S w018 ∧ (some (⟨a.ub, 0, none⟩ : Addr)).isSome = true ∧ ∃ p3 : Option Addr, (∀ u1, S u1 → u1.cell? ((gA (some (⟨a.ub, 0, none⟩ : Addr))).add 8) = some (.pointer p3)) ∧ ∃ n7 : Int, (∀ u2, S u2 → u2.cell? ((⟨cb, 0, none⟩ : Addr).add 0) = some (.int .u8 n7)) ∧ Cunit_Class n7 w018 fun n8 w019 => S w019 ∧ Cpr_Table_Conflict p3 (n : Int) n8 w019 fun b3 w020 =>
          Br b3 (RunU Tryz.prog (storeVar t_api_Result ⟨ab, 0, none⟩ (.agg #[.int .u8 24, .int .u8 0, .int .u16 0, .int .u64 0, .bool false, .int .i64 0, .int .i64 0, .bool false, .bool false, .slice none 0 0])) w020 fun w021 => ∃ res4 : Array Value, (loadVar t_api_Result ⟨ab, 0, none⟩).run Tryz.prog w021 = .ok (.agg res4) w021 ∧ R res4 w021)
          (∃ n9 : Int, w020.cell? ((⟨cb, 0, none⟩ : Addr).add 0) = some (.int .u8 n9) ∧ Cunit_Alters n9 w020 fun b4 w022 => (b4 = true → (some (⟨a.ub, 0, none⟩ : Addr)).isSome = true) ∧ ∃ p4 : Option Addr, (b4 = true → w022.cell? ((gA (some (⟨a.ub, 0, none⟩ : Addr))).add 7) = some (.pointer p4)) ∧ letJ (fun (g7 : Array Value) (w023 : World) => ∃ b5 : Bool, (b4 = true → g7[2]? = some (.bool b5)) ∧ Br (b4 && b5)
            (Cunit_check #[.int .u8 7, .int .u16 9984, .int .u64 0, .bool false, .int .i64 0, .int .i64 0, .bool false, .bool false] w023 fun g8 w024 => RunU Tryz.prog (storeVar t_api_Result ⟨ab, 0, none⟩ (.agg g8)) w024 fun w025 => ∃ res5 : Array Value, (loadVar t_api_Result ⟨ab, 0, none⟩).run Tryz.prog w025 = .ok (.agg res5) w025 ∧ R res5 w025)
            (∃ g9 : Array Value, (loadVar t_api_Cmd ⟨cb, 0, none⟩).run Tryz.prog w023 = .ok (.agg g9) w023 ∧ Cunit_Unit_run (some ⟨a.ub, 0, none⟩) (n : Int) g9 out w023 fun g10 w026 => RunU Tryz.prog (storeVar t_api_Result ⟨ab, 0, none⟩ (.agg g10)) w026 fun w027 => ∃ res6 : Array Value, (loadVar t_api_Result ⟨ab, 0, none⟩).run Tryz.prog w027 = .ok (.agg res6) w027 ∧ R res6 w027)) fun J_ => (b4 = true → Cmode_Pages_Now p4 w022 J_) ∧ (b4 = false → J_ (Kd.dflt .ag) w022)) := by
      intro n5 b1 _ hR w9 e9
      subst e9
      have hg9 := keep_drew w8
      have H9 := H8.grow hg9
      have m09 := m08.go hg9
      have hab9 : Blk w8.drew ab z10 t_api_Result := hg9.heap hab8 (fun q => q)
      have hb9 : Blk w8.drew cb (cmv c).toArray t_api_Cmd := hg9.heap hb8 (fun q => q)
      generalize w8.drew = w9 at *
      obtain ⟨hU9, hown9⟩ := H9.at hi1 (List.getElem_set_self _)
      refine ⟨fun o => o = w9, rfl, rfl, some ⟨a.tb, 0, none⟩, fun o e => by rw [e]; exact hU9.cellU fun P => rfl, (c.kind : Int), fun o e => by rw [e]; exact c0 hb9, class_spec ⟨rfl, conflict_spec hU9.tab fun w10 hg10 => ?_⟩⟩
      have H10 := H9.grow hg10
      have m10 := m09.go hg10
      have hab10 : Blk w10 ab z10 t_api_Result := hg10.heap hab9 (fun q => q)
      have hb10 : Blk w10 cb (cmv c).toArray t_api_Cmd := hg10.heap hb9 (fun q => q)
      have hU10 := hU9.grow hg10
      cases hc : conflictT s1.tab n (classX c.kind) with
      | true =>
        rw [hc, if_pos rfl] at hR
        exact br_t rfl (FinR.sys (sn := sn0) (d := nilS) H10 m10 hab' hfab hab10 rfl fun v k hm hs => hR v hm hs)
      | false =>
        rw [hc, if_neg (by decide)] at hR
        refine br_f rfl ⟨(c.kind : Int), c0 hb10, alters_spec ⟨fun _ => rfl, some ⟨a.pg, 0, none⟩, fun _ => hU10.cellU fun P => rfl, ?_⟩⟩
        refine letJ1 (fun (g7 : Array Value) v => Grow w10 v ∧ (altersX c.kind = true → g7 = (vlv s1.now).toArray)) ?_ (fun J => ⟨fun _ => now_spec hU10.pages fun v hg => J _ _ ⟨hg, fun _ => rfl⟩, fun q => J _ _ ⟨Keep.refl _ _, fun r => by rw [q] at r; cases r⟩⟩)
        rintro g7 v ⟨hgv, hg7⟩
        have Hv := H10.grow hgv
        have mv := m10.go hgv
        have habv : Blk v ab z10 t_api_Result := hgv.heap hab10 (fun q => q)
        have hbv : Blk v cb (cmv c).toArray t_api_Cmd := hgv.heap hb10 (fun q => q)
        refine ⟨s1.now.swp, fun q => by rw [hg7 q]; rfl, ?_⟩
        cases hal : altersX c.kind && s1.now.swp with
        | true =>
          rw [hal, if_pos rfl] at hR
          exact br_t rfl (checkU_spec (s := ⟨7, 9984, 0, false, 0, 0, false, false⟩) fun v' hg' => FinR.sys (Hv.grow hg') (mv.go hg') hab' hfab (hg'.heap habv (fun q => q)) rfl fun v k hm hs => hR v hm hs)
        | false =>
          rw [hal, if_neg (by decide)] at hR
          exact br_f rfl ⟨_, cLoad (c := c) (blk_cells hbv), hR v ab mv Hv habv hab' hfab⟩
    cases hpk : peekX (s1.q n) with
    | none =>
      rw [hpk] at hR
      exact br_f rfl (rest (n5 := 0) (b1 := false) rfl hR)
    | some code =>
      rw [hpk] at hR
      dsimp only
      rw [efree]
      cases hfk : freeK c.kind with
      | true =>
        rw [hfk] at hR
        exact br_f rfl (rest (n5 := (code : Int)) (b1 := true) (by rw [hfk]; rfl) hR)
      | false =>
        rw [hfk] at hR
        dsimp only at hR
        refine br_t rfl ⟨rfl, ?_⟩
        obtain ⟨hU8, hown8⟩ := H8.at hi1 (List.getElem_set_self _)
        refine ⟨some ⟨a.qb, 0, none⟩, hU8.cellU fun P => rfl, ?_⟩
        refine next_spec hU8.q hn (by rw [hown8 _ z7]; exact Option.some_ne_none _) H8.lt fun w9 hk9 hq9 => ?_
        rw [hpk]
        dsimp only
        have sfq : Safe w8 (fun k => ℓ2 k ≠ none) fun b => b = a.qb := Safe.sub fun b _ q => by rw [q, hown8 _ z7]; exact Option.some_ne_none _
        have hU9 : IsU w9 (fun k => ℓ2 k ≠ none) pw a (toldU s1 n) := hU8.que hk9 sfq (fun b _ hne q => hne q) (fun _ q => .inl q) hq9
        obtain ⟨m9, H9⟩ := H8.putA hi1 (List.getElem_set_self _) hk9 (fun b _ q => by rw [q]; exact z7) hU9
        rw [List.set_set] at H9
        refine checkU_spec (s := ⟨6, code, 0, false, 0, 0, false, false⟩) fun w10 hg10 => ?_
        have hab10 : Blk w10 ab z10 t_api_Result := (m9.go hg10).heap hab8 hfab
        exact FinR.sys (H9.grow hg10) ((m08.trans m9).go hg10) hab' hfab hab10 rfl fun v k hm hs => hR v hm hs
/-- a unit that runs -/
theorem do_started {R : Array Value → World → Prop} (H : Sys w ℓ pw st F us) (hi : i < us.length) (he : us[i] = (a, s)) (hon : s.on = 1) (hfl : s.fault = 0) (hn : n < 8) (hct : s.count < 1000000000000) (hp : RdX w ℓ 1 p (bv l))
    (hR : ∀ ℓ1, match headX (bumpU s) n l with
      | .bad sn => ∀ u, Mv w u ℓ ℓ1 → Sys u ℓ1 pw st F (us.set i (a, bumpU s)) → R (rsv 2 sn nilS).toArray u
      | .told c => ∀ u, Mv w u ℓ ℓ1 → Sys u ℓ1 pw st F (us.set i (a, toldU (bumpU s) n)) → R (rsv 2 ⟨6, c, 0, false, 0, 0, false, false⟩ nilS).toArray u
      | .conflict => ∀ u, Mv w u ℓ ℓ1 → Sys u ℓ1 pw st F (us.set i (a, bumpU s)) → R (rsv 24 sn0 nilS).toArray u
      | .prot => ∀ u, Mv w u ℓ ℓ1 → Sys u ℓ1 pw st F (us.set i (a, bumpU s)) → R (rsv 2 ⟨7, 9984, 0, false, 0, 0, false, false⟩ nilS).toArray u
      | .run c => ∀ u ab, Mv w u ℓ ℓ1 → Sys u ℓ1 pw st F (us.set i (a, bumpU s)) → Blk u ab z10 t_api_Result → w.heap.size ≤ ab → ℓ1 ab = none → Cunit_Unit_run (some ⟨a.ub, 0, none⟩) (n : Int) (cmv c).toArray out u (FinR ab R)) : Cunit_Unit_Do (some ⟨a.ub, 0, none⟩) (n : Int) p out w R :=
  do_gen H hi he hn hct hp (fun u m Hu K hK => start_again Hu (by rw [List.length_set]; exact hi) (List.getElem_set_self _) hon fun u' g => by
    rw [show ((bumpU s).fault : Int) = 0 by show ((s.fault : Nat) : Int) = 0; omega]
    exact hK u' ℓ (Mv.grow g) (Hu.grow g)) hR
/-- one that starts, and was never kept -/
theorem do_fresh {R : Array Value → World → Prop} (H : Sys w ℓ pw st quiet us) (hi : i < us.length) (he : us[i] = (a, s)) (hon : s.on = 0) (hlk : s.lock = 0) (hk : 1 ≤ s.keepf.size ∧ s.keepf.size ≤ 30) (ho : st.ops < 10000000000) (hl : ldN st.seen s.keepf 2 = (-1, 0, [])) (hn : n < 8) (hct : s.count < 1000000000000) (hp : RdX w ℓ 1 p (bv l))
    (hR : ∀ ℓ1, match headX (startedU (bumpU s)) n l with
      | .bad sn => ∀ u, Mv w u ℓ ℓ1 → Sys u ℓ1 pw { st with ops := st.ops + 2 } quiet (us.set i (a, startedU (bumpU s))) → R (rsv 2 sn nilS).toArray u
      | .told c => ∀ u, Mv w u ℓ ℓ1 → Sys u ℓ1 pw { st with ops := st.ops + 2 } quiet (us.set i (a, toldU (startedU (bumpU s)) n)) → R (rsv 2 ⟨6, c, 0, false, 0, 0, false, false⟩ nilS).toArray u
      | .conflict => ∀ u, Mv w u ℓ ℓ1 → Sys u ℓ1 pw { st with ops := st.ops + 2 } quiet (us.set i (a, startedU (bumpU s))) → R (rsv 24 sn0 nilS).toArray u
      | .prot => ∀ u, Mv w u ℓ ℓ1 → Sys u ℓ1 pw { st with ops := st.ops + 2 } quiet (us.set i (a, startedU (bumpU s))) → R (rsv 2 ⟨7, 9984, 0, false, 0, 0, false, false⟩ nilS).toArray u
      | .run c => ∀ u ab, Mv w u ℓ ℓ1 → Sys u ℓ1 pw { st with ops := st.ops + 2 } quiet (us.set i (a, startedU (bumpU s))) → Blk u ab z10 t_api_Result → w.heap.size ≤ ab → ℓ1 ab = none → Cunit_Unit_run (some ⟨a.ub, 0, none⟩) (n : Int) (cmv c).toArray out u (FinR ab R)) : Cunit_Unit_Do (some ⟨a.ub, 0, none⟩) (n : Int) p out w R :=
  do_gen H hi he hn hct hp (fun u m Hu K hK => start_fresh (s := bumpU s) Hu (by rw [List.length_set]; exact hi) (List.getElem_set_self _) hon hlk hk ho hl fun u' ℓ' m' H' => hK u' ℓ' m' (by rw [List.set_set] at H'; exact H')) hR
end
end Go.Proofs.YtpmebahhjgkflaaGreatDoor

/- Layers 11 and 16: which units there can be; a unit is made. -/
namespace Go.Proofs.YtpmebahhjgkflaaGreatDoor
open Go CF
set_option maxRecDepth 100000
def printX (s : ByteArray) (k : Nat) : Bool := (List.range k).all fun j => decide (32 ≤ (bt s (j : Int)).toNat) && decide ((bt s (j : Int)).toNat ≤ 126)
def textX (s : ByteArray) (lo hi : Nat) : Bool := printX s s.size && decide (lo ≤ s.size) && decide (s.size ≤ hi)
def formX (i : InfS) : Bool := textX i.v 0 8 && textX i.p 0 16 && textX i.r 0 4 && textX i.s 1 20 && decide (i.prot ≤ 3)
theorem printX_succ (s : ByteArray) (k : Nat) : printX s (k + 1) = (printX s k && (decide (32 ≤ (bt s (k : Int)).toNat) && decide ((bt s (k : Int)).toNat ≤ 126))) := by
  unfold printX
  rw [List.range_succ, List.all_append, List.all_cons, List.all_nil, Bool.and_true]
theorem printX_mono {s : ByteArray} {j : Nat} (h : printX s j = false) : ∀ k, j ≤ k → printX s k = false
  | 0, hk => by have : j = 0 := by omega
                subst this; exact h
  | k + 1, hk => by
    by_cases q : j = k + 1
    · subst q; exact h
    · rw [printX_succ, printX_mono h k (by omega)]; rfl
theorem bt_nn (s : ByteArray) (x : Int) : 0 ≤ bt s x := by unfold bt; split <;> omega
section
variable {w u v : World} {N N' S : Nat → Prop} {pw i n : Nat} {a : UA} {s : USt} {st : Wst} {F : Int → Bool} {ℓ ℓ' : Nat → Option Nat} {us : List (UA × USt)}
theorem text_loop {s : ByteArray} {lo hi : Nat} {R : Bool → World → Prop} (hsz : s.size ≤ 9223372036854775806) (h : R (textX s lo hi) w) :
    ∃ (I : Int → World → Prop) (μ : Int → World → Nat), I 0 w ∧ ∀ (x : Int) (w0 : World), I x w0 → Br (decide (x < (s.size : Int))) ((0 ≤ x ∧ x < (s.size : Int)) ∧ ((!(decide ((bt s x) < 32))) = true → (0 ≤ x ∧ x < (s.size : Int))) ∧ Br ((decide ((bt s x) < 32)) || (decide ((bt s x) > 126))) (R false w0) (I (IntKind.wrap .i64 (x + 1)) w0 ∧ μ (IntKind.wrap .i64 (x + 1)) w0 < μ x w0)) (R ((decide ((s.size : Int) ≥ (lo : Int))) && (decide ((s.size : Int) ≤ (hi : Int)))) w0) := by
  refine ⟨fun x v => ∃ j : Nat, x = j ∧ j ≤ s.size ∧ v = w ∧ printX s j = true, fun x _ => s.size - x.toNat, ⟨0, rfl, Nat.zero_le _, rfl, rfl⟩, ?_⟩
  rintro x v ⟨j, rfl, hj, rfl, hp⟩
  unfold textX at h
  refine br_nat (fun hlt => ?_) (fun hge => ?_)
  · have hnn := bt_nn s (j : Int)
    refine ⟨⟨by omega, by omega⟩, fun _ => ⟨by omega, by omega⟩, ?_⟩
    have hs := printX_succ s j
    rw [hp, Bool.true_and] at hs
    cases hq : decide (32 ≤ (bt s (j : Int)).toNat) && decide ((bt s (j : Int)).toNat ≤ 126) with
    | true =>
      rw [hq] at hs
      simp only [Bool.and_eq_true, decide_eq_true_eq] at hq
      refine br_f (by rw [Bool.or_eq_false_iff, decide_eq_false_iff_not, decide_eq_false_iff_not]; omega) ?_
      rw [w64 (by omega) (by omega)]
      exact ⟨⟨j + 1, by omega, by omega, rfl, hs⟩, by dsimp only; omega⟩
    | false =>
      rw [hq] at hs
      rw [printX_mono hs s.size hlt] at h
      rw [Bool.and_eq_false_iff, decide_eq_false_iff_not, decide_eq_false_iff_not] at hq
      exact br_t (by rw [Bool.or_eq_true, decide_eq_true_eq, decide_eq_true_eq]; omega) h
  · have : j = s.size := by omega
    subst this
    rw [hp, Bool.true_and] at h
    have e : ((decide ((s.size : Int) ≥ (lo : Int))) && (decide ((s.size : Int) ≤ (hi : Int)))) = (decide (lo ≤ s.size) && decide (s.size ≤ hi)) := by
      congr 1
      · rw [decide_eq_decide]; omega
      · rw [decide_eq_decide]; omega
    rw [e]; exact h
theorem text_spec11 {s : ByteArray} {lo hi : Nat} {R : Bool → World → Prop} (hsz : s.size ≤ 9223372036854775806) (h : R (textX s lo hi) w) : Cinq_text s (lo : Int) (hi : Int) w R := Finq_text.calls _ _ _ _ _ (text_loop hsz h)
structure InfOk (i : InfS) : Prop where
  v : i.v.size ≤ 9223372036854775806
  p : i.p.size ≤ 9223372036854775806
  r : i.r.size ≤ 9223372036854775806
  s : i.s.size ≤ 9223372036854775806
theorem form_spec11 {i : InfS} {R : Bool → World → Prop} (hi : InfOk i) (h : ∀ w', Grow w w' → R (formX i) w') : Cinq_Form (infv i).toArray w R := by
  refine Finq_Form.calls _ _ _ (new_rule fun ib w1 hib hb1 hg1 hs1 => ?_)
  have c : ∀ {o : Nat} {x : Value}, (infv i)[o]? = some x → w1.cell? ((⟨ib, 0, none⟩ : Addr).add o) = some x := fun e => by rw [add0, Blk.cell hb1, Nat.zero_add, List.getElem?_toArray]; exact e
  have h := h w1 hg1
  unfold formX at h
  refine ⟨i.v, c rfl, text_spec11 (lo := 0) (hi := 8) hi.v ⟨i.p, fun _ => c rfl, ?_⟩⟩
  generalize textX i.v 0 8 = b at *
  refine letJ1 (fun b1 o => o = w1 ∧ (b && b1) = (b && textX i.p 0 16)) ?_ (fun J => ⟨fun _ => text_spec11 (lo := 0) (hi := 16) hi.p (J _ _ ⟨rfl, rfl⟩), fun q => J _ _ ⟨rfl, by rw [q]; rfl⟩⟩)
  rintro b1 o ⟨rfl, e1⟩
  rw [← e1] at h
  refine ⟨i.r, fun _ => c rfl, ?_⟩
  generalize (b && b1) = bb at *
  refine letJ1 (fun b2 o' => o' = o ∧ (bb && b2) = (bb && textX i.r 0 4)) ?_ (fun J => ⟨fun _ => text_spec11 (lo := 0) (hi := 4) hi.r (J _ _ ⟨rfl, rfl⟩), fun q => J _ _ ⟨rfl, by rw [q]; rfl⟩⟩)
  rintro b2 o' ⟨rfl, e2⟩
  rw [← e2] at h
  refine ⟨i.s, fun _ => c rfl, ?_⟩
  generalize (bb && b2) = bc at *
  refine letJ1 (fun b3 o2 => o2 = o' ∧ (bc && b3) = (bc && textX i.s 1 20)) ?_ (fun J => ⟨fun _ => text_spec11 (lo := 1) (hi := 20) hi.s (J _ _ ⟨rfl, rfl⟩), fun q => J _ _ ⟨rfl, by rw [q]; rfl⟩⟩)
  rintro b3 o2 ⟨rfl, e3⟩
  rw [← e3] at h
  refine ⟨(i.prot : Int), fun _ => c rfl, ?_⟩
  have e : (decide ((i.prot : Int) ≤ 3)) = decide (i.prot ≤ 3) := by rw [decide_eq_decide]; omega
  rw [e]; exact h
open Classical in
/-- a unit more -/
theorem Sys.add {a' : UA} {s' : USt} (h : Sys w ℓ pw st F us) (g : Grow w u) (ha : ∀ b, a'.set b → w.heap.size ≤ b) (hU : ∀ N : Nat → Prop, IsU u N pw a' s') : ∃ ℓ', Mv w u ℓ ℓ' ∧ Sys u ℓ' pw st F (us ++ [(a', s')]) := by
  have hsz := g.size
  have h' := h.grow g
  let L : Nat → Option Nat := fun b => if a'.set b then some (us.length + 1) else ℓ b
  have hold : ∀ b, b < w.heap.size → L b = ℓ b := fun b hb => if_neg fun q => by have := ha b q; omega
  obtain ⟨D, h1, h2⟩ := h'.W
  obtain ⟨D0, g1, g2⟩ := h.W
  refine ⟨L, ⟨g.mono fun _ _ q => q.elim, hold⟩, ⟨D0, g1.grow g, fun b hb => ?_⟩, fun j hj => ?_, fun b hb => ?_⟩
  · rw [hold b (g1.lt hb)]; exact g2 b hb
  · by_cases e : j < us.length
    · rw [List.getElem_append_left e]
      refine ⟨(h.U j e).1.step (S := fun _ => False) g (Safe.none _ _) (fun _ _ q => q) (fun b hb => ?_), fun b hb => ?_⟩
      · by_cases q : b < w.heap.size
        · exact .inl (by rw [← hold b q]; exact hb)
        · exact .inr (by omega)
      · rw [hold b ((h.U j e).1.lt hb)]; exact (h.U j e).2 b hb
    · have : j = us.length := by rw [List.length_append, List.length_singleton] at hj; omega
      subst this
      have ee : (us ++ [(a', s')])[us.length]'hj = (a', s') := by rw [List.getElem_append_right (Nat.le_refl _)]; simp
      rw [ee]
      exact ⟨hU _, fun b hb => if_pos hb⟩
  · by_cases q : a'.set b
    · exact (hU fun _ => False).lt q
    · have : L b = ℓ b := if_neg q
      rw [this] at hb
      have := h.lt b hb; omega
end
end Go.Proofs.YtpmebahhjgkflaaGreatDoor

/- Layer 16: a unit is made; its peers. -/
namespace Go.Proofs.YtpmebahhjgkflaaGreatDoor
open Go CF
set_option maxRecDepth 100000
section
variable {w u v : World} {N N' S : Nat → Prop} {pw i n : Nat} {a : UA} {s : USt} {st : Wst} {F : Int → Bool} {ℓ ℓ' : Nat → Option Nat} {us : List (UA × USt)}
theorem attn_new_any {R : Option Addr → World → Prop} (h : ∀ qb w', w.heap.size ≤ qb → Grow w w' → (∀ N, IsQ w' N qb (fun _ => [])) → R (some ⟨qb, 0, none⟩) w') : Cattn_New w R := by
  refine Fattn_New.calls _ _ (new_rule fun b w1 hb hb1 hg1 hsz1 => ?_)
  refine h b w1 (by omega) hg1 fun N => ⟨⟨List.replicate 8 nilS, rfl, hb1, fun i hi => ?_⟩, fun _ _ => ⟨by decide, fun c hc => by cases hc⟩⟩
  rw [List.getElem_replicate]
  exact RdN.nil _ _ _ _
theorem pr_new_any {R : Option Addr → World → Prop} (h : ∀ tb w', w.heap.size ≤ tb → Grow w w' → (∀ N, IsT w' N tb t0) → R (some ⟨tb, 0, none⟩) w') : Cpr_New w R := by
  refine Fpr_New.calls _ _ (new_rule fun b w1 hb hb1 hg1 hsz1 => ?_)
  exact h b w1 (by omega) hg1 fun N => ⟨⟨nilS, hb1, RdN.nil _ _ _ _⟩, tabOk0⟩
def cfgv (i : InfS) (b : Int) : List Value := infv i ++ [Value.int .i64 b]
def newU (i : InfS) (name : ByteArray) (n : Nat) : USt := ⟨i, name ++ s_x2ed, name ++ s_x2ep, n, true, false, -1, 0, v0, v0, t0, fun _ => [], [], 0, 0, 0, 0⟩
theorem unit_build (u : World) (v p r s : ByteArray) (prot : Int) (dv sl pg tb qb : Nat) : (Instr.build t_unit_Unit #[(0, .agg #[.string v, .string p, .string r, .string s, .int .u8 prot]), (1, .pointer (some ⟨dv, 0, none⟩)), (2, .pointer (some ⟨sl, 0, none⟩)), (3, .pointer (some ⟨pg, 0, none⟩)), (4, .pointer (some ⟨tb, 0, none⟩)), (5, .pointer (some ⟨qb, 0, none⟩))]).run Tryz.prog u =
    .ok (.agg #[.string v, .string p, .string r, .string s, .int .u8 prot, .pointer (some ⟨dv, 0, none⟩), .pointer (some ⟨sl, 0, none⟩), .pointer (some ⟨pg, 0, none⟩), .pointer (some ⟨tb, 0, none⟩), .pointer (some ⟨qb, 0, none⟩), .slice none 0 0, .int .u32 0, .int .i32 0, .int .u32 0, .int .i64 0, .int .i64 0]) u := by kernel_rfl
theorem size_app (a b : ByteArray) : (a ++ b).size = a.size + b.size := ByteArray.size_append
def argBad (name : ByteArray) (blocks : Int) : Bool := decide (name.size < 1) || decide (28 < name.size) || decide (blocks < 1) || decide (4096 < blocks)
theorem new_unit {inf : InfS} {name : ByteArray} {blocks : Int} {R : Option Addr → Int → World → Prop} (hi : InfOk inf)
    (hbad : argBad name blocks = true → ∀ w', Grow w w' → R none 1 w') (hform : argBad name blocks = false → formX inf = false → ∀ w', Grow w w' → R none 3 w')
    (hok : argBad name blocks = false → formX inf = true → ∀ a u, Grow w u → (∀ b, a.set b → w.heap.size ≤ b) → (∀ N : Nat → Prop, IsU u N pw a (newU inf name blocks.toNat)) → R (some ⟨a.ub, 0, none⟩) 0 u) :
    Cunit_New (some ⟨pw, 0, none⟩) name (cfgv inf blocks).toArray w R := by
  refine Funit_New.calls _ _ _ _ _ (new_rule fun cb w1 hcb hb1 hg1 hs1 => ?_)
  have c5 : ∀ {v : World}, Blk v cb (cfgv inf blocks).toArray t_unit_Config → v.cell? ((⟨cb, 0, none⟩ : Addr).add 5) = some (.int .i64 blocks) := fun q => by rw [add0, Blk.cell q]; rfl
  have c4 : ∀ {v : World}, Blk v cb (cfgv inf blocks).toArray t_unit_Config → v.cell? (((⟨cb, 0, none⟩ : Addr).add 0).add 4) = some (.int .u8 (inf.prot : Int)) := fun q => by rw [add0, add0, Blk.cell q]; rfl
  have cl : ∀ {v : World}, Blk v cb (cfgv inf blocks).toArray t_unit_Config → (loadVar t_inq_Info ((⟨cb, 0, none⟩ : Addr).add 0)).run Tryz.prog v = .ok (.agg (infv inf).toArray) v := fun q => loadVar_rule (cs := infv inf) g_inq_Info i_inq_Info rfl (fun j x hj => by
    rw [add0, add0, Blk.cell q, Nat.zero_add, List.getElem?_toArray]
    show (infv inf ++ [Value.int .i64 blocks])[j]? = some x
    exact (List.getElem?_append_left (List.getElem?_eq_some_iff.1 hj).1).trans hj)
  have hb1 : Blk w1 cb (cfgv inf blocks).toArray t_unit_Config := hb1
  refine ⟨blocks, fun _ => c5 hb1, blocks, fun _ => c5 hb1, ?_⟩
  have eb : ((((decide ((name.size : Int) < 1)) || (decide ((name.size : Int) > 28))) || (decide (blocks < 1))) || (decide (blocks > 4096))) = argBad name blocks := by
    unfold argBad
    congr 1
    congr 1
    congr 1
    · rw [decide_eq_decide]; omega
    · rw [decide_eq_decide]; omega
  rw [eb]
  cases hA : argBad name blocks with
  | true => exact br_t rfl (hbad hA w1 hg1)
  | false =>
    refine br_f rfl ⟨_, cl hb1, form_spec11 hi fun w2 hg2 => ?_⟩
    have hg02 := hg1.trans hg2
    cases hF : formX inf with
    | false => exact br_t rfl (hform hA hF w2 hg02)
    | true =>
      have hA' := hA
      unfold argBad at hA'
      rw [Bool.or_eq_false_iff, Bool.or_eq_false_iff, Bool.or_eq_false_iff, decide_eq_false_iff_not, decide_eq_false_iff_not, decide_eq_false_iff_not, decide_eq_false_iff_not] at hA'
      obtain ⟨⟨⟨hA1, hA2⟩, hA3⟩, hA4⟩ := hA'
      refine br_f rfl (br_f rfl ?_)
      rintro w3 rfl
      have hg3 := hg02.trans (keep_drew w2)
      have hb3 : Blk w2.drew cb (cfgv inf blocks).toArray t_unit_Config := ((hg2.trans (keep_drew w2))).heap hb1 (fun q => q)
      generalize w2.drew = w3 at *
      have zd : s_x2ed.size = 2 := by decide
      have zp : s_x2ep.size = 2 := by decide
      refine ⟨fun o => Blk o cb (cfgv inf blocks).toArray t_unit_Config, hb3, by omega, blocks, fun o q => c5 q, default_spec fun w4 hg4 => ?_⟩
      have hb4 : Blk w4 cb (cfgv inf blocks).toArray t_unit_Config := hg4.heap hb3 (fun q => q)
      refine ⟨hb4, fun o => Blk o cb (cfgv inf blocks).toArray t_unit_Config, hb4, fun _ q => q, true, fun _ _ => rfl, ?_⟩
      have ebk : blocks = ((blocks.toNat : Nat) : Int) := by omega
      rw [ebk]
      rw [ebk] at hb4
      have c4 : ∀ {v : World}, Blk v cb (cfgv inf ((blocks.toNat : Nat) : Int)).toArray t_unit_Config → v.cell? (((⟨cb, 0, none⟩ : Addr).add 0).add 4) = some (.int .u8 (inf.prot : Int)) := fun q => by rw [← ebk] at q; exact c4 q
      have cl : ∀ {v : World}, Blk v cb (cfgv inf ((blocks.toNat : Nat) : Int)).toArray t_unit_Config → (loadVar t_inq_Info ((⟨cb, 0, none⟩ : Addr).add 0)).run Tryz.prog v = .ok (.agg (infv inf).toArray) v := fun q => by rw [← ebk] at q; exact cl q
      have hn : 1 ≤ blocks.toNat ∧ blocks.toNat ≤ 4096 := by omega
      generalize blocks.toNat = bn at *
      refine open_spec (by rw [size_app]; omega) hn fun ps w5 hps hg5 hS5 => ⟨by omega, slots_open_spec (by rw [size_app]; omega) fun sl w6 hsl hg6 hS6 => ?_⟩
      rintro w7 rfl
      have hg47 : Grow w4 w6.drew := (hg5.trans hg6).trans (keep_drew w6)
      have g6d := keep_drew w6
      have hb7 : Blk w6.drew cb _ t_unit_Config := hg47.heap hb4 (fun q => q)
      have hS7 : IsS w6.drew ps pw (name ++ s_x2ed) bn true := (hg6.trans g6d).heap hS5 (fun q => q)
      have hL7 : IsSl w6.drew sl pw (name ++ s_x2ep) false (-1) 0 := g6d.heap hS6 (fun q => q)
      have hg7 := (hg3.trans hg4).trans hg47
      have sz3 := hg3.size
      have sz4 := hg4.size
      have sz5 := hg5.size
      have sz7 := hg7.size
      generalize w6.drew = w7 at *
      -- all is there
      have fin : ∀ {z : World} {dv pg tb qb : Nat}, Grow w7 z → Blk z dv (dvcells ps inf.prot) t_sbc_Dev → IsP z pg v0 v0 → (∀ N, IsT z N tb t0) → (∀ N, IsQ z N qb fun _ => []) → w.heap.size ≤ dv → w.heap.size ≤ pg → w.heap.size ≤ tb → w.heap.size ≤ qb →
          (∃ S3 : World → Prop, S3 z ∧ (∀ u5, S3 u5 → Blk u5 cb (cfgv inf (bn : Int)).toArray t_unit_Config) ∧ ∃ g4 : Array Value, (∀ u6, S3 u6 → (Instr.build t_unit_Unit #[(0, .agg (infv inf).toArray), (1, .pointer (some ⟨dv, 0, none⟩)), (2, .pointer (some ⟨sl, 0, none⟩)), (3, .pointer (some ⟨pg, 0, none⟩)), (4, .pointer (some ⟨tb, 0, none⟩)), (5, .pointer (some ⟨qb, 0, none⟩))]).run Tryz.prog u6 = .ok (.agg g4) u6) ∧
            New (.cells g4 t_unit_Unit) z fun a1 w012 => R (some a1) 0 w012) := fun {z dv pg tb qb} g hd hp ht hq l1 l2 l3 l4 => by
        refine ⟨fun o => Blk o cb (cfgv inf (bn : Int)).toArray t_unit_Config, g.heap hb7 (fun q => q), fun _ q => q, _, fun o _ => unit_build o inf.v inf.p inf.r inf.s (inf.prot : Int) dv sl pg tb qb, new_rule fun ub w8 hub hb8 hg8 hs8 => ?_⟩
        have gz := g.size
        refine hok hA hF ⟨ub, dv, ps, sl, pg, tb, qb⟩ w8 ((hg7.trans g).trans hg8) (fun b hb => ?_) fun N => ⟨⟨nilS, hb8, RdN.nil _ _ _ _⟩, hg8.heap hd (fun q => q), (g.trans hg8).heap hS7 (fun q => q), (g.trans hg8).heap hL7 (fun q => q), hg8.heap hp (fun q => q), (ht N).grow hg8, (hq N).grow hg8⟩
        rcases hb with q | q | q | q | q | q | q
        · rw [q]; show w.heap.size ≤ ub; omega
        · rw [q]; exact l1
        · rw [q]; show w.heap.size ≤ ps; omega
        · rw [q]; show w.heap.size ≤ sl; omega
        · rw [q]; exact l2
        · rw [q]; exact l3
        · rw [q]; exact l4
      refine ⟨fun o => Blk o cb (cfgv inf (bn : Int)).toArray t_unit_Config, hb7, (infv inf).toArray, fun o q => cl q, (inf.prot : Int), fun o q => c4 q, ?_, ?_⟩
      · refine new_rule fun dv z1 hdv hd1 h1 s1 => ⟨h1.heap hb7 (fun q => q), default_spec fun z2 h2 => ⟨(h1.trans h2).heap hb7 (fun q => q), mode_new_spec fun pg z3 h3 lp hp => ⟨((h1.trans h2).trans h3).heap hb7 (fun q => q), pr_new_any fun tb z4 lt h4 ht => ⟨(((h1.trans h2).trans h3).trans h4).heap hb7 (fun q => q), attn_new_any fun qb z5 lq h5 hq => ?_⟩⟩⟩⟩
        have e1 := h1.size
        have e2 := h2.size
        have e3 := h3.size
        have e4 := h4.size
        exact ⟨((((h1.trans h2).trans h3).trans h4).trans h5).heap hb7 (fun q => q), fin ((((h1.trans h2).trans h3).trans h4).trans h5) ((((h2.trans h3).trans h4).trans h5).heap hd1 (fun q => q)) ((h4.trans h5).heap hp (fun q => q)) (fun N => (ht N).grow h5) hq (by omega) (by omega) (by omega) (by omega)⟩
      · refine default_spec fun z1 h1 => ⟨h1.heap hb7 (fun q => q), ?_, mode_new_spec fun pg z2 h2 lp hp => ⟨(h1.trans h2).heap hb7 (fun q => q), ?_, pr_new_any fun tb z3 lt h3 ht => ⟨((h1.trans h2).trans h3).heap hb7 (fun q => q), ?_, attn_new_any fun qb z4 lq h4 hq => ⟨(((h1.trans h2).trans h3).trans h4).heap hb7 (fun q => q), ?_⟩⟩⟩⟩
        · refine new_rule fun dv z2 hdv hd1 h2 s1 => ⟨(h1.trans h2).heap hb7 (fun q => q), mode_new_spec fun pg z3 h3 lp hp => ⟨((h1.trans h2).trans h3).heap hb7 (fun q => q), pr_new_any fun tb z4 lt h4 ht => ⟨(((h1.trans h2).trans h3).trans h4).heap hb7 (fun q => q), attn_new_any fun qb z5 lq h5 hq => ?_⟩⟩⟩
          have e1 := h1.size
          have e2 := h2.size
          have e3 := h3.size
          have e4 := h4.size
          exact ⟨((((h1.trans h2).trans h3).trans h4).trans h5).heap hb7 (fun q => q), fin ((((h1.trans h2).trans h3).trans h4).trans h5) (((h3.trans h4).trans h5).heap hd1 (fun q => q)) ((h4.trans h5).heap hp (fun q => q)) (fun N => (ht N).grow h5) hq (by omega) (by omega) (by omega) (by omega)⟩
        · refine new_rule fun dv z3 hdv hd1 h3 s1 => ⟨((h1.trans h2).trans h3).heap hb7 (fun q => q), pr_new_any fun tb z4 lt h4 ht => ⟨(((h1.trans h2).trans h3).trans h4).heap hb7 (fun q => q), attn_new_any fun qb z5 lq h5 hq => ?_⟩⟩
          have e1 := h1.size
          have e2 := h2.size
          have e3 := h3.size
          have e4 := h4.size
          exact ⟨((((h1.trans h2).trans h3).trans h4).trans h5).heap hb7 (fun q => q), fin ((((h1.trans h2).trans h3).trans h4).trans h5) ((h4.trans h5).heap hd1 (fun q => q)) (((h3.trans h4).trans h5).heap hp (fun q => q)) (fun N => (ht N).grow h5) hq (by omega) (by omega) (by omega) (by omega)⟩
        · refine new_rule fun dv z4 hdv hd1 h4 s1 => ⟨(((h1.trans h2).trans h3).trans h4).heap hb7 (fun q => q), attn_new_any fun qb z5 lq h5 hq => ?_⟩
          have e1 := h1.size
          have e2 := h2.size
          have e3 := h3.size
          have e4 := h4.size
          exact ⟨((((h1.trans h2).trans h3).trans h4).trans h5).heap hb7 (fun q => q), fin ((((h1.trans h2).trans h3).trans h4).trans h5) (h5.heap hd1 (fun q => q)) (((h3.trans h4).trans h5).heap hp (fun q => q)) (fun N => ((ht N).grow h4).grow h5) hq (by omega) (by omega) (by omega) (by omega)⟩
        · refine new_rule fun dv z5 hdv hd1 h5 s1 => ?_
          have e1 := h1.size
          have e2 := h2.size
          have e3 := h3.size
          have e4 := h4.size
          exact ⟨((((h1.trans h2).trans h3).trans h4).trans h5).heap hb7 (fun q => q), fin ((((h1.trans h2).trans h3).trans h4).trans h5) hd1 (((h3.trans h4).trans h5).heap hp (fun q => q)) (fun N => ((ht N).grow h4).grow h5) (fun N => (hq N).grow h5) (by omega) (by omega) (by omega) (by omega)⟩
end
end Go.Proofs.YtpmebahhjgkflaaGreatDoor

/- Layer 16: the peers of a unit. -/
namespace Go.Proofs.YtpmebahhjgkflaaGreatDoor
open Go CF
set_option maxRecDepth 100000
section
variable {w u v : World} {N N' S : Nat → Prop} {pw i n : Nat} {a : UA} {s : USt} {st : Wst} {F : Int → Bool} {ℓ ℓ' : Nat → Option Nat} {us : List (UA × USt)}
theorem ptr_neq_same {P : Program} {tp te : TypeId} {j : TypeInfo} {x y : Operand} (w : World) (a : Addr) (hp : P.underlying tp = some (.pointer te)) (hte : P.info? te = some j) :
    (do eqGuard .neq tp x y (.pointer (some a)) (.pointer (some a)); binOp .neq tp (.pointer (some a)) (.pointer (some a)) : Sem Value).run P w = .ok (.bool false) w := by
  have h : ∀ d : Nat, (Op.equalIn (d + 1) tp (.pointer (some a)) (.pointer (some a))).run P w = .ok true w := fun d => by
    simp [Op.equalIn, run_underlying hp, sizeOf, typeInfo, hte, run_sameAddr_same]
  simp only [binOp, eqGuard]
  simp [Op.equal, Op.maxDepth, h 9999]
theorem ptr_neq_other {P : Program} {tp te : TypeId} {j : TypeInfo} {x y : Operand} {a b : Addr} {ca cb : Array Value} {ta tb : TypeId} (w : World) (hp : P.underlying tp = some (.pointer te)) (hte : P.info? te = some j) (hsz : j.size ≠ 0)
    (hne : a ≠ b) (ha : w.heap[a.block]? = some (.cells ca ta (0, 0))) (hb : w.heap[b.block]? = some (.cells cb tb (0, 0))) :
    (do eqGuard .neq tp x y (.pointer (some a)) (.pointer (some b)); binOp .neq tp (.pointer (some a)) (.pointer (some b)) : Sem Value).run P w = .ok (.bool true) w := by
  have h : ∀ d : Nat, (Op.equalIn (d + 1) tp (.pointer (some a)) (.pointer (some b))).run P w = .ok false w := fun d => by
    simp [Op.equalIn, run_underlying hp, sizeOf, typeInfo, hte, hsz, run_sameAddr_other w hne ha hb]
  simp only [binOp, eqGuard]
  simp [Op.equal, Op.maxDepth, h 9999]
theorem u_p_unit_Unit : Tryz.prog.underlying t_p_unit_Unit = some (.pointer t_unit_Unit) := by kernel_rfl
theorem info_unit : ∃ j, Tryz.prog.info? t_unit_Unit = some j ∧ j.size ≠ 0 := by
  obtain ⟨j, hj, e⟩ := Option.map_eq_some_iff.1 i_unit_Unit
  refine ⟨j, hj, ?_⟩
  simp only [Prod.mk.injEq] at e
  rw [e.2.1]; decide
def optPtr (x : Option Nat) : Value := .pointer (x.map fun b => ⟨b, 0, none⟩)
/-- those of a list that are other units -/
def peersOf (b : Nat) (xs : List (Option Nat)) : List Nat := xs.filterMap fun x => match x with | some c => if c = b then none else some c | none => none
theorem peersOf_snoc (b : Nat) (l : List (Option Nat)) (x : Option Nat) : peersOf b (l ++ [x]) = peersOf b l ++ (match x with | some c => if c = b then [] else [c] | none => []) := by
  unfold peersOf
  rw [List.filterMap_append]
  congr 1
  cases x with
  | none => rfl
  | some c =>
    by_cases q : c = b
    · simp [q]
    · simp [q]
theorem peersOf_len (b : Nat) (l : List (Option Nat)) : (peersOf b l).length ≤ l.length := List.length_filterMap_le _ _
theorem lit_pu (w : World) (b : Nat) : (Instr.buildSlice t_sl_p_unit_Unit 1 #[(0, .pointer (some ⟨b, 0, none⟩))]).run Tryz.prog w = .ok (.slice (some ⟨w.heap.size, 0, none⟩) 1 1) (w.alloc (.cells #[.pointer (some ⟨b, 0, none⟩)] t_p_unit_Unit)) := by kernel_rfl
theorem peers_spec {p : Sl} {xs : List (Option Nat)} {R : World → Prop} (H : Sys w ℓ pw st F us) (hi : i < us.length) (he : us[i] = (a, s)) (hp : RdX w ℓ 1 p (xs.map optPtr)) (hx : ∀ c, some c ∈ xs → ∃ (j : Nat) (hj : j < us.length), us[j].1.ub = c) (hxs : xs.length ≤ 1000)
    (hR : ∀ u, Mv w u ℓ ℓ → Sys u ℓ pw st F (us.set i (a, { s with peers := peersOf a.ub xs })) → R u) : Cunit_Unit_Peers (some ⟨a.ub, 0, none⟩) p w R := by
  refine Funit_Unit_Peers.calls _ _ _ _ (br_f rfl ⟨rfl, ?_⟩)
  obtain ⟨hU, hown⟩ := H.at hi he
  obtain ⟨z1, z2, z3, z4, z5, z6, z7⟩ := set7 a
  have hpn : xs.length = p.n := by have := hp.rd.len; rw [List.length_map] at this; omega
  have sf : ∀ {x : World}, Safe x (fun k => ℓ k ≠ none) fun b => b = a.ub := Safe.sub fun b _ q => by rw [q, hown _ z1]; exact Option.some_ne_none _
  obtain ⟨P, hP1, hP2⟩ := hU.unit
  have mk : ∀ {v : World} {P : Sl} {l : List Nat}, l.length ≤ 1000 → Keep (fun b => b = a.ub) w v → Blk v a.ub (ucells a P { s with peers := l }) t_unit_Unit → CF.Own v w.heap.size t_p_unit_Unit 1 P (l.map ptr) → Mv w v ℓ ℓ ∧ Sys v ℓ pw st F (us.set i (a, { s with peers := l })) := fun {v P l} hl k hb ho => by
    have hn : P.n = l.length := by have := ho.len; rw [List.length_map] at this; omega
    have hUv : IsU v (fun k => ℓ k ≠ none) pw a { s with peers := l } := hU.unitC (on := s.on) (lk := s.lock) (fl := s.fault) (ct := s.count) (ps := l) k sf (fun b _ hne q => hne q) (fun _ q => .inl q) ⟨P, hb, ho.rdN (by omega) H.lt⟩
    exact H.putA hi he k (fun b _ q => by rw [q]; exact z1) hUv
  rw [show (gA (some (⟨a.ub, 0, none⟩ : Addr))).add 10 = ⟨a.ub, 10, none⟩ by rw [gA, add0]]
  refine put_rule hP1 (by show 10 < 16; decide) rfl fun w1 hb1 hk1 hs1 => ?_
  refine ⟨fun x v => ∃ (j : Nat) (P : Sl), x = j ∧ j ≤ xs.length ∧ Keep (fun b => b = a.ub) w v ∧ Blk v a.ub (ucells a P { s with peers := peersOf a.ub (xs.take j) }) t_unit_Unit ∧ CF.Own v w.heap.size t_p_unit_Unit 1 P ((peersOf a.ub (xs.take j)).map ptr), fun x _ => p.n - x.toNat, ⟨0, nilS, rfl, Nat.zero_le _, hk1, hb1, own_nil _ _ _ _⟩, ?_⟩
  rintro x v ⟨j, P1, rfl, hj, hkv, hbv, hov⟩
  have hlen := peersOf_len a.ub (xs.take j)
  have htl : (xs.take j).length ≤ j := by rw [List.length_take]; omega
  have hP1n : (peersOf a.ub (xs.take j)).length = P1.n := by have := hov.len; rw [List.length_map] at this; omega
  obtain ⟨hm, Hv⟩ := mk (by omega) hkv hbv hov
  refine br_nat (fun hltj => ?_) (fun hge => ?_)
  · have hjl : j < xs.length := by omega
    have htk : xs.take (j + 1) = xs.take j ++ [xs[j]] := List.take_succ_eq_append_getElem hjl
    refine letX0 (fun v' => ∃ P : Sl, Keep (fun b => b = a.ub) w v' ∧ Blk v' a.ub (ucells a P { s with peers := peersOf a.ub (xs.take (j + 1)) }) t_unit_Unit ∧ CF.Own v' w.heap.size t_p_unit_Unit 1 P ((peersOf a.ub (xs.take (j + 1))).map ptr)) (fun v' hv => ?_) (fun J => ?_)
    · obtain ⟨P, h1, h2, h3⟩ := hv
      rw [w64 (by omega) (by omega)]
      exact ⟨⟨j + 1, P, by omega, by omega, h1, h2, h3⟩, by dsimp only; omega⟩
    rw [htk, peersOf_snoc] at J
    obtain ⟨ha, hc⟩ := rd_val (hm.rdX hp).rd (i := j) (by rw [List.length_map]; exact hjl)
    rw [List.getElem_map] at hc
    refine ⟨⟨by omega, by omega, ha⟩, _, by rw [Int.toNat_natCast]; exact hc, ?_⟩
    have hmem : xs[j] ∈ xs := List.getElem_mem hjl
    generalize xs[j] = xj at *
    cases xj with
    | none => exact ⟨fun q => by simp at q, none, fun q => by simp at q, false, fun q => by simp at q, br_f rfl (J v ⟨P1, hkv, by rw [List.append_nil]; exact hbv, by rw [List.append_nil]; exact hov⟩)⟩
    | some c =>
      obtain ⟨jj, hjj, hub⟩ := hx c hmem
      have hjj' : jj < (us.set i (a, { s with peers := peersOf a.ub (xs.take j) })).length := by rw [List.length_set]; exact hjj
      have hUj := (Hv.U jj hjj').1
      have hubj : ((us.set i (a, { s with peers := peersOf a.ub (xs.take j) }))[jj]'hjj').1.ub = c := by
        by_cases e : jj = i
        · subst e
          rw [List.getElem_set_self]
          rw [he] at hub; exact hub
        · rw [List.getElem_set_ne (fun q => e q.symm)]; exact hub
      generalize (us.set i (a, { s with peers := peersOf a.ub (xs.take j) }))[jj]'hjj' = uj at hUj hubj
      obtain ⟨aj, sj⟩ := uj
      dsimp only at hUj hubj
      subst hubj
      obtain ⟨P2, hP21, _⟩ := hUj.unit
      obtain ⟨ji, hji, hjs⟩ := info_unit
      refine ⟨fun _ => rfl, some ⟨aj.dv, 0, none⟩, fun _ => hUj.cellU fun P => rfl, ?_⟩
      by_cases e : aj.ub = a.ub
      · refine ⟨false, fun _ => by rw [e]; exact ptr_neq_same v _ u_p_unit_Unit hji, br_f rfl (J v ⟨P1, hkv, ?_, ?_⟩)⟩
        · dsimp only; rw [if_pos e, List.append_nil]; exact hbv
        · dsimp only; rw [if_pos e, List.append_nil]; exact hov
      · refine ⟨true, fun _ => ptr_neq_other v u_p_unit_Unit hji hjs (fun q => e (congrArg Addr.block q)) hP21 hbv, br_t rfl ⟨rfl, P1, ?_, ?_⟩⟩
        · rw [hbv.cell]; rfl
        dsimp only at J
        rw [if_neg e] at J
        refine lit_rule (cells := #[.pointer (some ⟨aj.ub, 0, none⟩)]) (e := t_p_unit_Unit) (z := 1) (base := 0) (lit_pu _ _) rfl (by decide) (Nat.zero_le _) fun v1 ho1 hg1 _ => ?_
        have sz0 := hkv.size
        have sz1 := hg1.size
        refine append_rule u_sl_p_unit_Unit i_p_unit_Unit rfl (by decide) (by decide) (hov.grow hg1) (ho1.rd (by show 1 ≤ _; decide)) (by simp [Value.oneCell']) (by show (P1.n + 1) * 8 ≤ _; omega) (by omega) fun P3 v2 hn3 ho3 hk3 hat3 => ?_
        have hb1v : Blk v1 a.ub (ucells a P1 { s with peers := peersOf a.ub (xs.take j) }) t_unit_Unit := hg1.heap hbv (fun q => q)
        have hne3 : ∀ b, some b = P1.blk → b ≠ a.ub ∧ w.heap.size ≤ b := fun b hb => by
          obtain ⟨cur, hc⟩ := own_heap (hov.grow hg1) hb.symm
          refine ⟨fun q => ?_, (hov.ge b hb.symm).1⟩
          subst q
          exact absurd (blk_type hb1v hc) (by decide)
        have hb2 : Blk v2 a.ub (ucells a P1 { s with peers := peersOf a.ub (xs.take j) }) t_unit_Unit := hk3.heap hb1v fun q => (hne3 _ q).1 rfl
        refine ⟨rfl, ?_⟩
        refine put_rule hb2 (by show 10 < 16; decide) rfl fun v3 hb3 hk33 hs3 => J v3 ⟨P3, ?_, hb3, ?_⟩
        · exact ((hkv.grow hg1).trans hk3 fun b hb q => by have := (hne3 b q).2; omega).trans hk33 fun _ _ q => q
        · have ho3' : CF.Own v2 w.heap.size t_p_unit_Unit 1 P3 ((peersOf a.ub (xs.take j) ++ [aj.ub]).map ptr) := by rw [List.map_append]; exact ho3
          refine ho3'.keep hk33 fun b hb q => ?_
          obtain ⟨cur, hc⟩ := own_heap ho3' hb
          subst q
          exact absurd (blk_type hb2 hc) (by decide)
  · have : j = xs.length := by omega
    subst this
    rw [List.take_length] at Hv
    exact hR v hm Hv
end
end Go.Proofs.YtpmebahhjgkflaaGreatDoor

/- Layer 16: two units that are peers. -/
namespace Go.Proofs.YtpmebahhjgkflaaGreatDoor
open Go CF
set_option maxRecDepth 100000
section
variable {w u v : World} {N N' S D : Nat → Prop} {pw i n : Nat} {a : UA} {s : USt} {st : Wst} {F : Int → Bool} {ℓ ℓ' : Nat → Option Nat} {us : List (UA × USt)}
open Classical in
/-- a world without units -/
theorem Sys.world0 (h : IsWq w pw D st F) : ∃ ℓ : Nat → Option Nat, Sys w ℓ pw st F [] ∧ ∀ b, ¬ D b → ℓ b = none :=
  ⟨fun b => if D b then some 0 else none, ⟨⟨D, h, fun k hk => if_pos hk⟩, fun i hi => absurd hi (Nat.not_lt_zero i), fun k hk => by
    by_cases q : D k
    · exact h.lt q
    · exact absurd (if_neg q) hk⟩, fun b hb => if_neg hb⟩
def infL (i prot : Nat) : InfS := ⟨s_V, s_P, s_1, if i = 0 then s_S0 else s_S1, prot⟩
def nmL (i : Nat) : ByteArray := if i = 0 then s_a else s_b
theorem infL_ok (i prot : Nat) : InfOk (infL i prot) := by
  refine ⟨by show s_V.size ≤ _; decide, by show s_P.size ≤ _; decide, by show s_1.size ≤ _; decide, ?_⟩
  show (if i = 0 then s_S0 else s_S1).size ≤ _
  split <;> decide
theorem infL_form {i prot : Nat} (hi : i < 2) (h : prot ≤ 3) : formX (infL i prot) = true := by
  have : ∀ (i : Fin 2) (p : Fin 4), formX (infL i.val p.val) = true := by decide +kernel
  exact this ⟨i, hi⟩ ⟨prot, by omega⟩
theorem nmL_bad {i : Nat} (hi : i < 2) : argBad (nmL i) 24 = false := by
  have : ∀ i : Fin 2, argBad (nmL i.val) 24 = false := by decide +kernel
  exact this ⟨i, hi⟩
theorem two_strs (w : World) (x y : ByteArray) : (Instr.buildSlice t_sl_string 2 #[(0, .string x), (1, .string y)]).run Tryz.prog w = .ok (.slice (some ⟨w.heap.size, 0, none⟩) 2 2) (w.alloc (.cells #[.string x, .string y] t_string)) := by kernel_rfl
theorem two_at {x y : ByteArray} (hb : Blk w n #[.string x, .string y] t_string) (hi : i < 2) : w.cell? ((gA (some (⟨n, 0, none⟩ : Addr))).add ((i : Int).toNat * 1)) = some (.string (if i = 0 then x else y)) := by
  rw [gA, add0, hb.cell, Int.toNat_natCast]
  match i, hi with
  | 0, _ => rfl
  | 1, _ => rfl
theorem lit2_rule {x y : ByteArray} {K : Sl → World → Prop} (h : ∀ b w', Grow w w' → Blk w' b #[.string x, .string y] t_string → K ⟨some ⟨b, 0, none⟩, 2, 2⟩ w') : RunK Tryz.prog .sl (Instr.buildSlice t_sl_string 2 #[(0, .string x), (1, .string y)]) w K := by
  refine ⟨⟨some ⟨w.heap.size, 0, none⟩, 2, 2⟩, _, two_strs w x y, h _ _ (keep_alloc w _) ?_⟩
  exact heap_alloc_new w _
theorem info_spec16 {prot : Nat} {R : Array Value → World → Prop} (hi : i < 2) (h : ∀ w', Grow w w' → R (infv (infL i prot)).toArray w') : Cpalletlaw16_info (i : Int) (prot : Int) w R := by
  refine Fpalletlaw16_info.calls _ _ _ _ (new_rule fun ab w1 hab hb1 hg1 hs1 => lit2_rule fun b w2 hg2 hb2 => ?_)
  refine ⟨⟨by omega, by show (i : Int) < 2; omega, rfl⟩, _, two_at hb2 hi, ?_⟩
  refine storeVar_rule (cells := (infv (infL i prot)).toArray) (hg2.heap hb1 (fun q => q)) i_inq_Info rfl rfl (by simp [infv, Value.oneCell']) fun w3 hb3 hk3 hs3 => ⟨_, loadVar_rule (cs := infv (infL i prot)) g_inq_Info i_inq_Info rfl (blk_cells hb3), h w3 ((hg1.trans hg2).keep hk3 fun i hi q => by omega)⟩
theorem cfg_build (u : World) (v p r s : ByteArray) (prot n : Int) : (Instr.build t_unit_Config #[(0, .agg #[.string v, .string p, .string r, .string s, .int .u8 prot]), (1, .int .i64 n)]).run Tryz.prog u = .ok (.agg #[.string v, .string p, .string r, .string s, .int .u8 prot, .int .i64 n]) u := by kernel_rfl
def unitL (i prot : Nat) (ps : List Nat) : USt := { newU (infL i prot) (nmL i) 24 with peers := ps }
theorem Sys.ub_ne (H : Sys w ℓ pw st F us) {i j : Nat} (hi : i < us.length) (hj : j < us.length) (h : i ≠ j) : us[i].1.ub ≠ us[j].1.ub := fun q => by
  have h1 := (H.U i hi).2 _ (set7 _).1
  have h2 := (H.U j hj).2 _ (set7 _).1
  rw [q, h2] at h1
  injection h1 with h1
  omega
theorem lit_pu3 (w : World) (x y : Option Addr) : (Instr.buildSlice t_sl_p_unit_Unit 3 #[(0, .pointer x), (1, .pointer none), (2, .pointer y)]).run Tryz.prog w = .ok (.slice (some ⟨w.heap.size, 0, none⟩) 3 3) (w.alloc (.cells #[.pointer x, .pointer none, .pointer y] t_p_unit_Unit)) := by kernel_rfl
theorem units_spec {prot : Nat} {R : Array Value → World → Prop} (H : Sys w ℓ pw st F []) (hpr : prot ≤ 3)
    (hR : ∀ u ℓ' a0 a1, Mv w u ℓ ℓ' → Sys u ℓ' pw st F [(a0, unitL 0 prot [a1.ub]), (a1, unitL 1 prot [a0.ub])] → R #[.pointer (some ⟨a0.ub, 0, none⟩), .pointer (some ⟨a1.ub, 0, none⟩)] u) : Cpalletlaw16_units (some ⟨pw, 0, none⟩) (prot : Int) w R := by
  refine Fpalletlaw16_units.calls _ _ _ _ (new_rule fun rb w1 hrb hr1 hg1 hs1 => new_rule fun qb w2 hqb hq2 hg2 hs2 => ?_)
  have hg02 := hg1.trans hg2
  have H2 := H.grow hg02
  have hrn : ℓ rb = none := H.fresh (by omega)
  have hqn : ℓ qb = none := H.fresh (by omega)
  have hr2 : Blk w2 rb #[.pointer none, .pointer none] t_2_p_unit_Unit := hg2.heap hr1 (fun q => q)
  have lq : w.heap.size ≤ qb := by omega
  have neq : rb ≠ qb := by omega
  -- what stays while units are made
  let St : World → (Nat → Option Nat) → List (UA × USt) → Array Value → Prop := fun v ℓ' us cs => Mv w v ℓ ℓ' ∧ Sys v ℓ' pw st F us ∧ ℓ' qb = none ∧ ℓ' rb = none ∧ Blk v rb #[.pointer none, .pointer none] t_2_p_unit_Unit ∧ Blk v qb cs t_2_p_unit_Unit
  have St_go : ∀ {v v' : World} {ℓ' ℓ'' : Nat → Option Nat} {us us' : List (UA × USt)} {cs : Array Value}, St v ℓ' us cs → Mv v v' ℓ' ℓ'' → Sys v' ℓ'' pw st F us' → St v' ℓ'' us' cs := fun {v v' ℓ' ℓ'' us us' cs} h m H' => by
    obtain ⟨m0, H0, n1, n2, b1, b2⟩ := h
    exact ⟨m0.trans m, H', (m.lab _ (lt_of_heap b2)).trans n1, (m.lab _ (lt_of_heap b1)).trans n2, m.heap b1 n2, m.heap b2 n1⟩
  have S2 : St w2 ℓ [] #[.pointer none, .pointer none] := ⟨Mv.grow hg02, H2, hqn, hrn, hr2, hq2⟩
  -- one unit more
  have body : ∀ {v v4 : World} {k : Nat} {ℓ' : Nat → Option Nat} {us : List (UA × USt)} {cs : Array Value} {C : World → Prop}, k < 2 → cs.size = 2 → St v ℓ' us cs → Grow v v4 →
      (∀ a' ℓ5 u', St u' ℓ5 (us ++ [(a', unitL k prot [])]) (cs.setIfInBounds k (.pointer (some ⟨a'.ub, 0, none⟩))) → C u') →
      Cunit_New (some ⟨pw, 0, none⟩) (nmL k) (cfgv (infL k prot) 24).toArray v4 fun p1 n1 w010 => (0 ≤ (k : Int) ∧ (k : Int) < (2 : Int)) ∧ Put ((⟨qb, 0, none⟩ : Addr).add ((k : Int).toNat * 1)) (.pointer p1) w010 C := by
    intro v v4 k ℓ' us cs C hk2 hcs hS hg4 hC
    refine new_unit (infL_ok k prot) (fun q => by rw [nmL_bad hk2] at q; cases q) (fun _ q => by rw [infL_form hk2 hpr] at q; cases q) fun _ _ a' u' hgu ha hU => ⟨⟨by omega, by omega⟩, ?_⟩
    obtain ⟨ℓ5, m5, H5⟩ := (hS.2.1.grow hg4).add hgu ha hU
    obtain ⟨m0, _, n1, n2, b1, b2⟩ := St_go hS ((Mv.grow hg4).trans m5) H5
    rw [add0, Int.toNat_natCast, Nat.mul_one, Nat.zero_add]
    refine put_rule b2 (by omega) rfl fun u3 hb3 hk3 hs3 => hC a' ℓ5 u3 ⟨m0.loc hk3 fun b hb q => by omega, H5.local1 b2 n1 hk3 (rowT_not (by decide) (by decide) (by decide)) (by decide), n1, n2, hk3.heap b1 neq, hb3⟩
  -- a round: either the names are laid first, or who it is
  have round : ∀ {v : World} {k : Nat} {ℓ' : Nat → Option Nat} {us : List (UA × USt)} {cs : Array Value} {C : World → Prop}, k < 2 → cs.size = 2 → St v ℓ' us cs →
      (∀ a' ℓ5 u', St u' ℓ5 (us ++ [(a', unitL k prot [])]) (cs.setIfInBounds k (.pointer (some ⟨a'.ub, 0, none⟩))) → C u') →
      ∀ w03, w03 = v.drew → ∃ S : World → Prop, S w03 ∧ (RunK Tryz.prog .sl (Instr.buildSlice t_sl_string 2 #[(0, .string s_a), (1, .string s_b)]) w03 fun xs w04 => S w04 ∧ (0 ≤ (k : Int) ∧ (k : Int) < (xs.n : Int) ∧ xs.A.isSome = true) ∧ ∃ S1 : World → Prop, S1 w04 ∧ (∀ u1, S1 u1 → S u1) ∧ ∃ s : ByteArray, (∀ u2, S1 u2 → u2.cell? ((gA xs.A).add ((k : Int).toNat * 1)) = some (.string s)) ∧ Cpalletlaw16_info (k : Int) (prot : Int) w04 fun g w05 => S1 w05 ∧ ∃ S2 : World → Prop, S2 w05 ∧ (∀ u3, S2 u3 → S1 u3) ∧ ∃ g1 : Array Value, (∀ u4, S2 u4 → (Instr.build t_unit_Config #[(0, .agg g), (1, .int .i64 24)]).run Tryz.prog u4 = .ok (.agg g1) u4) ∧ Cunit_New (some ⟨pw, 0, none⟩) s g1 w05 fun p n w06 => (0 ≤ (k : Int) ∧ (k : Int) < (2 : Int)) ∧ Put ((⟨qb, 0, none⟩ : Addr).add ((k : Int).toNat * 1)) (.pointer p) w06 C) ∧
        Cpalletlaw16_info (k : Int) (prot : Int) w03 fun g2 w08 => S w08 ∧ ∃ S3 : World → Prop, S3 w08 ∧ (∀ u5, S3 u5 → S u5) ∧ ∃ g3 : Array Value, (∀ u6, S3 u6 → (Instr.build t_unit_Config #[(0, .agg g2), (1, .int .i64 24)]).run Tryz.prog u6 = .ok (.agg g3) u6) ∧ RunK Tryz.prog .sl (Instr.buildSlice t_sl_string 2 #[(0, .string s_a), (1, .string s_b)]) w08 fun xs1 w09 => S3 w09 ∧ (0 ≤ (k : Int) ∧ (k : Int) < (xs1.n : Int) ∧ xs1.A.isSome = true) ∧ ∃ S4 : World → Prop, S4 w09 ∧ (∀ u7, S4 u7 → S3 u7) ∧ ∃ s1 : ByteArray, (∀ u8, S4 u8 → u8.cell? ((gA xs1.A).add ((k : Int).toNat * 1)) = some (.string s1)) ∧ Cunit_New (some ⟨pw, 0, none⟩) s1 g3 w09 fun p1 n1 w010 => (0 ≤ (k : Int) ∧ (k : Int) < (2 : Int)) ∧ Put ((⟨qb, 0, none⟩ : Addr).add ((k : Int).toNat * 1)) (.pointer p1) w010 C := by
    intro v k ℓ' us cs C hk2 hcs hS hC w03 e3
    subst e3
    have hgd := keep_drew v
    have hbld : ∀ u : World, (Instr.build t_unit_Config #[(0, .agg (infv (infL k prot)).toArray), (1, .int .i64 24)]).run Tryz.prog u = .ok (.agg (cfgv (infL k prot) 24).toArray) u := fun u => cfg_build u _ _ _ _ _ _
    refine ⟨fun _ => True, trivial, ?_, ?_⟩
    · refine lit2_rule fun b v4 hg4 hb4 => ⟨trivial, ⟨by omega, by show (k : Int) < 2; omega, rfl⟩, fun o => Blk o b #[.string s_a, .string s_b] t_string, hb4, fun _ _ => trivial, _, fun o q => two_at q hk2, info_spec16 hk2 fun v5 hg5 => ?_⟩
      have hb5 : Blk v5 b #[.string s_a, .string s_b] t_string := hg5.heap hb4 (fun q => q)
      exact ⟨hb5, fun o => Blk o b #[.string s_a, .string s_b] t_string, hb5, fun _ q => q, _, fun o _ => hbld o, body hk2 hcs hS ((hgd.trans hg4).trans hg5) hC⟩
    · refine info_spec16 hk2 fun v4 hg4 => ⟨trivial, fun _ => True, trivial, fun _ _ => trivial, _, fun o _ => hbld o, lit2_rule fun b v5 hg5 hb5 => ?_⟩
      exact ⟨trivial, ⟨by omega, by show (k : Int) < 2; omega, rfl⟩, fun o => Blk o b #[.string s_a, .string s_b] t_string, hb5, fun _ _ => trivial, _, fun o q => two_at q hk2, body hk2 hcs hS ((hgd.trans hg4).trans hg5) hC⟩
  refine ⟨fun x v => (x = 0 ∧ St v ℓ [] #[.pointer none, .pointer none] ) ∨ (x = 1 ∧ ∃ ℓ' a0, St v ℓ' [(a0, unitL 0 prot [])] #[.pointer (some ⟨a0.ub, 0, none⟩), .pointer none]) ∨ (x = 2 ∧ ∃ ℓ' a0 a1, St v ℓ' [(a0, unitL 0 prot []), (a1, unitL 1 prot [])] #[.pointer (some ⟨a0.ub, 0, none⟩), .pointer (some ⟨a1.ub, 0, none⟩)]),
    fun x _ => 2 - x.toNat, .inl ⟨rfl, S2⟩, ?_⟩
  rintro x v (⟨rfl, hS⟩ | ⟨rfl, ℓ', a0, hS⟩ | ⟨rfl, ℓ', a0, a1, hS⟩)
  · exact br_t rfl (round (k := 0) (by decide) rfl hS fun a' ℓ5 u' h => ⟨.inr (.inl ⟨rfl, ℓ5, a', h⟩), by show (2 - (IntKind.wrap .i64 (0 + 1)).toNat < 2 - (0 : Int).toNat); decide⟩)
  · exact br_t rfl (round (k := 1) (by decide) rfl hS fun a' ℓ5 u' h => ⟨.inr (.inr ⟨rfl, ℓ5, a0, a', h⟩), by show (2 - (IntKind.wrap .i64 (1 + 1)).toNat < 2 - (1 : Int).toNat); decide⟩)
  refine br_f rfl ?_
  obtain ⟨m0, Hv, n1, n2, b1, b2⟩ := hS
  have c0 : ∀ {v : World}, Blk v qb #[.pointer (some ⟨a0.ub, 0, none⟩), .pointer (some ⟨a1.ub, 0, none⟩)] t_2_p_unit_Unit → v.cell? ((⟨qb, 0, none⟩ : Addr).add ((0 : Int).toNat * 1)) = some (.pointer (some ⟨a0.ub, 0, none⟩)) := fun q => by rw [add0, Blk.cell q]; rfl
  have c1 : ∀ {v : World}, Blk v qb #[.pointer (some ⟨a0.ub, 0, none⟩), .pointer (some ⟨a1.ub, 0, none⟩)] t_2_p_unit_Unit → v.cell? ((⟨qb, 0, none⟩ : Addr).add ((1 : Int).toNat * 1)) = some (.pointer (some ⟨a1.ub, 0, none⟩)) := fun q => by rw [add0, Blk.cell q]; rfl
  have hne : a0.ub ≠ a1.ub := Hv.ub_ne (i := 0) (j := 1) (by show 0 < 2; decide) (by show 1 < 2; decide) (by decide)
  refine ⟨⟨by decide, by decide⟩, _, c0 b2, ⟨by decide, by decide⟩, _, c0 b2, ⟨by decide, by decide⟩, _, c1 b2, ?_⟩
  have S3 : St v ℓ' [(a0, unitL 0 prot []), (a1, unitL 1 prot [])] #[.pointer (some ⟨a0.ub, 0, none⟩), .pointer (some ⟨a1.ub, 0, none⟩)] := ⟨m0, Hv, n1, n2, b1, b2⟩
  refine lit_rule (cells := #[.pointer (some ⟨a0.ub, 0, none⟩), .pointer none, .pointer (some ⟨a1.ub, 0, none⟩)]) (e := t_p_unit_Unit) (z := 1) (base := v.heap.size) (lit_pu3 _ _ _) rfl (by decide) (Nat.le_refl _) fun v1 ho1 hg1 _ => ?_
  have S4 := St_go S3 (Mv.grow hg1) (Hv.grow hg1)
  have hx1 : RdX v1 ℓ' 1 ⟨some ⟨v.heap.size, 0, none⟩, 3, 3⟩ ([some a0.ub, none, some a1.ub].map optPtr) := ⟨ho1.rd (by show 3 ≤ _; decide), fun _ a ha => by
    injection ha with ha; subst ha
    exact ⟨(ho1.ge v.heap.size (by simp [Sl.blk])).2, Hv.fresh (Nat.le_refl _)⟩⟩
  refine peers_spec (i := 0) (xs := [some a0.ub, none, some a1.ub]) S4.2.1 (by show 0 < 2; decide) rfl hx1 (fun c hc => ?_) (by show 3 ≤ 1000; decide) fun v2 m2 H2' => ?_
  · simp only [List.mem_cons, Option.some.injEq, List.not_mem_nil, or_false, reduceCtorEq, false_or] at hc
    rcases hc with rfl | rfl
    · exact ⟨0, by show 0 < 2; decide, rfl⟩
    · exact ⟨1, by show 1 < 2; decide, rfl⟩
  have e0 : peersOf a0.ub [some a0.ub, none, some a1.ub] = [a1.ub] := by simp [peersOf, hne.symm]
  rw [e0] at H2'
  have S5 := St_go S4 m2 H2'
  refine ⟨⟨by decide, by decide⟩, _, c1 S5.2.2.2.2.2, ⟨by decide, by decide⟩, _, c0 S5.2.2.2.2.2, ?_⟩
  refine lit_rule (cells := #[.pointer (some ⟨a0.ub, 0, none⟩)]) (e := t_p_unit_Unit) (z := 1) (base := v2.heap.size) (lit_pu _ _) rfl (by decide) (Nat.le_refl _) fun v3 ho3 hg3 _ => ?_
  have S6 := St_go S5 (Mv.grow hg3) (H2'.grow hg3)
  have hx3 : RdX v3 ℓ' 1 ⟨some ⟨v2.heap.size, 0, none⟩, 1, 1⟩ ([some a0.ub].map optPtr) := ⟨ho3.rd (by show 1 ≤ _; decide), fun _ a ha => by
    injection ha with ha; subst ha
    exact ⟨(ho3.ge v2.heap.size (by simp [Sl.blk])).2, H2'.fresh (Nat.le_refl _)⟩⟩
  refine peers_spec (i := 1) (xs := [some a0.ub]) S6.2.1 (by show 1 < 2; decide) rfl hx3 (fun c hc => ⟨0, by show 0 < 2; decide, by simp at hc; exact hc.symm⟩) (by show 1 ≤ 1000; decide) fun v4 m4 H4' => ?_
  have e1 : peersOf a1.ub [some a0.ub] = [a0.ub] := by simp [peersOf, hne]
  rw [e1] at H4'
  have S7 := St_go S6 m4 H4'
  obtain ⟨m7, H7, _, n7, b71, b72⟩ := S7
  refine ⟨_, loadVar_rule (cs := [.pointer (some ⟨a0.ub, 0, none⟩), .pointer (some ⟨a1.ub, 0, none⟩)]) g_2_p_unit_Unit i_2_p_unit_Unit rfl (blk_cells b72), ?_⟩
  refine storeVar_rule (cells := #[.pointer (some ⟨a0.ub, 0, none⟩), .pointer (some ⟨a1.ub, 0, none⟩)]) b71 i_2_p_unit_Unit rfl rfl (by simp [Value.oneCell']) fun v5 hb5 hk5 hs5 => ?_
  refine ⟨_, loadVar_rule (cs := [.pointer (some ⟨a0.ub, 0, none⟩), .pointer (some ⟨a1.ub, 0, none⟩)]) g_2_p_unit_Unit i_2_p_unit_Unit rfl (blk_cells hb5), ?_⟩
  exact hR v5 ℓ' a0 a1 (m7.loc hk5 fun b hb q => by omega) (H7.local1 b71 n7 hk5 (rowT_not (by decide) (by decide) (by decide)) (by decide))
end
end Go.Proofs.YtpmebahhjgkflaaGreatDoor

/- A row of bytes that grows, and rows that lie beside it. -/
namespace Go.Proofs.YtpmebahhjgkflaaGreatDoor
open Go CF
set_option maxRecDepth 100000
structure Bag (w0 u : World) (p : Sl) (os : L8) (xs : List (Sl × L8)) : Prop where
  row : Row w0 u p os
  lit : ∀ x ∈ xs, Rd u 1 x.1 (bv x.2) ∧ ∀ b, x.1.blk = some b → b < u.heap.size ∧ p.blk ≠ some b
section
variable {w0 u u' : World} {p s : Sl} {os l : L8} {xs : List (Sl × L8)}
theorem Bag.start (h : Row w0 u p os) : Bag w0 u p os [] := ⟨h, fun _ q => by cases q⟩
theorem Bag.go (h : Bag w0 u p os xs) (g : Grow u u') : Bag w0 u' p os xs := ⟨h.row.go g, fun x hx => ⟨(h.lit x hx).1.grow g, fun b hb => ⟨by have := ((h.lit x hx).2 b hb).1; have := g.size; omega, ((h.lit x hx).2 b hb).2⟩⟩⟩
theorem Bag.put (h : Bag w0 u p os xs) (g : Grow u u') (hx : Own u' u.heap.size t_uint8 1 s (bv l)) (hl : l.length ≤ 140737488355328) : Bag w0 u' p os ((s, l) :: xs) := by
  refine ⟨h.row.go g, fun x q => ?_⟩
  rcases List.mem_cons.1 q with rfl | q
  · refine ⟨hx.rd (by have := hx.len; rw [bv_length] at this; show s.n ≤ _; omega), fun b hb => ⟨(hx.ge b hb).2, fun e => ?_⟩⟩
    have := (hx.ge b hb).1
    have := (h.row.own.ge b e).2
    omega
  · exact (h.go g).lit x q
theorem Bag.lay (h : Bag w0 u p os xs) {n : Nat} {parts : Array (Nat × Value)} {t : TypeId} (hr : (Instr.buildSlice t n parts).run Tryz.prog u = .ok (.slice (some ⟨u.heap.size, 0, none⟩) n n) (u.alloc (.cells (bv l).toArray t_uint8))) (hn : n = l.length) (hl : l.length ≤ 140737488355328)
    {K : Sl → World → Prop} (hK : ∀ s u', Grow u u' → Bag w0 u' p os ((s, l) :: xs) → K s u') : RunK Tryz.prog .sl (Instr.buildSlice t n parts) u K :=
  lit_rule (cells := (bv l).toArray) (e := t_uint8) (z := 1) (base := u.heap.size) hr (by rw [List.size_toArray, bv_length]; omega) (by omega) (Nat.le_refl _) fun w1 ho hg _ => hK _ w1 hg (h.put hg (by simpa using ho) hl)
theorem Bag.app (h : Bag w0 u p os xs) (hm : (s, l) ∈ xs) (hb : os.length + l.length ≤ 140737488355328) {ty : TypeId} {K : Sl → World → Prop} (hK : ∀ p' u', Keep (fun k => some k = p.blk) u u' → Bag w0 u' p' (os ++ l) xs → K p' u') :
    RunK Tryz.prog .sl (Builtin.append_ #[t_sl_uint8, t_sl_uint8] ty #[.slice p.A p.n p.c, .slice s.A s.n s.c]) u K := by
  have hr : Rd u 1 s (bv l) := (h.lit _ hm).1
  have hn := h.row.n
  have hsn : s.n = l.length := by have := hr.len; rw [bv_length] at this; omega
  refine append_rule u_sl_uint8 i_uint8 rfl (by decide) (by decide) h.row.own hr (by intro x hx; simp only [bv, List.mem_map] at hx; obtain ⟨_, _, rfl⟩ := hx; rfl) (by show (p.n + s.n) * 1 ≤ _; omega) h.row.grow.size fun p' u' hn' ho hk hblk => ?_
  rw [← bv_append] at ho
  refine hK p' u' hk ⟨h.row.step ho hk, fun x q => ?_⟩
  obtain ⟨h1, h2⟩ := h.lit x q
  have hsz := hk.size
  refine ⟨h1.keep hk fun a ha _ e => ?_, fun b hb => ⟨by have := (h2 b hb).1; omega, fun e => ?_⟩⟩
  · exact (h2 a.block (by unfold Sl.blk; rw [ha]; rfl)).2 e.symm
  · rcases hblk with r | r
    · rw [r] at e; exact (h2 b hb).2 e
    · rw [r] at e
      injection e with e
      have := (h2 b hb).1
      omega
theorem Bag.keep (h : Bag w0 u p os xs) {b : Nat} {cs : Array Value} {t : TypeId} (hb : Blk u b cs t) (ht : t ≠ t_uint8) (k : Keep (fun k => some k = p.blk) u u') : Blk u' b cs t := h.row.blk k hb ht
end
end Go.Proofs.YtpmebahhjgkflaaGreatDoor

/- The bytes of a string, taken as a row, and bytes that are laid behind them. -/
namespace Go.Proofs.YtpmebahhjgkflaaGreatDoor
open Go CF
set_option maxRecDepth 100000
/-- a row of bytes of one's own, perhaps a string's -/
def OwnC (w : World) (base : Nat) (s : Sl) (l : L8) : Prop :=
  l.length = s.n ∧ ∃ g cur fz, s.A = some ⟨g, 0, none⟩ ∧ base ≤ g ∧ w.heap[g]? = some (.cells cur t_uint8 fz) ∧ s.n ≤ s.c ∧ s.c ≤ maxLen ∧ cur.size = s.c ∧ cur.toList.take s.n = bv l ∧ (fz.2 = 0 ∨ s.c ≤ fz.1)
section
variable {w u : World} {base : Nat} {s : Sl} {l : L8}
theorem OwnC.rd (h : OwnC w base s l) (hn : s.n ≤ 140737489403904) : Rd w 1 s (bv l) := by
  obtain ⟨hl, g, cur, fz, hA, hb, hg, hnc, hcm, hcs, ht, _⟩ := h
  refine ⟨by rw [bv_length]; omega, hnc, hn, fun _ => ⟨_, hA, fun j v hj => ?_⟩⟩
  rw [← ht, List.getElem?_take] at hj
  split at hj
  · rw [add0, Nat.zero_add]
    simp only [World.cell?, hg]
    simpa using hj
  · cases hj
theorem OwnC.grow (h : OwnC w base s l) (k : Grow w u) : OwnC u base s l := by
  obtain ⟨hl, g, cur, fz, hA, hb, hg, rest⟩ := h
  exact ⟨hl, g, cur, fz, hA, hb, k.heap hg (fun q => q), rest⟩
theorem convC_rule {src : TypeId} (hs : Tryz.prog.underlying src = some .string) (hl : l.length ≤ 140737488355328) {K : Sl → World → Prop} (h : ∀ s w', Grow w w' → OwnC w' w.heap.size s l → K s w') : RunK Tryz.prog .sl (convert src t_sl_uint8 (.string (CF.str l))) w K := by
  have hsz : (CF.str l).size = l.length := size_str l
  refine ⟨⟨some ⟨w.heap.size, 0, none⟩, (CF.str l).size, grownCap w (CF.str l).size 0 t_uint8⟩, _, Go.Lib.run_convert_string_bytes w src t_sl_uint8 t_uint8 (CF.str l) hs u_sl_uint8 u_uint8, ?_⟩
  have hge := grownCap_ge w (CF.str l).size 0 t_uint8
  have hcs : (Go.Lib.bytesCells w t_uint8 (CF.str l)).size = grownCap w (CF.str l).size 0 t_uint8 := by
    unfold Go.Lib.bytesCells
    rw [Array.size_append, Array.size_map, Array.size_replicate]
    have : (CF.str l).data.size = (CF.str l).size := rfl
    omega
  refine h _ _ ⟨rfl, rfl, rfl, by rw [Go.Lib.bytesWorld_size]; omega, fun k hk _ => Go.Lib.bytesWorld_at_old w t_uint8 (CF.str l) k hk⟩ ⟨hsz.symm, w.heap.size, _, _, rfl, Nat.le_refl _, Go.Lib.bytesWorld_at_new w t_uint8 (CF.str l), hge, grownCap_le_maxLen w _ 0 t_uint8 (by unfold maxLen; omega), hcs, ?_, .inr (by rw [hcs]; exact Nat.le_refl _)⟩
  show (Go.Lib.bytesCells w t_uint8 (CF.str l)).toList.take (CF.str l).size = bv l
  unfold Go.Lib.bytesCells
  rw [Array.toList_append, hsz]
  have e1 : ((CF.str l).data.map fun b => Value.int .u8 (b.toNat : Int)).toList = bv l := by rw [Array.toList_map]; rfl
  rw [e1]
  exact List.take_left' (bv_length l)
/-- one byte behind it -/
theorem OwnC.app1 (h : OwnC w base s l) {b : UInt8} {x : Sl} {ty : TypeId} (hx : Rd w 1 x (bv [b])) (hxo : ∀ g, x.blk = some g → g < w.heap.size ∧ s.blk ≠ some g) (hl : l.length ≤ 140737488355320) (hbase : base ≤ w.heap.size) {K : Sl → World → Prop}
    (hK : ∀ s' w', OwnC w' base s' (l ++ [b]) → Keep (fun k => some k = s.blk) w w' → K s' w') :
    RunK Tryz.prog .sl (Builtin.append_ #[t_sl_uint8, t_sl_uint8] ty #[.slice s.A s.n s.c, .slice x.A x.n x.c]) w K := by
  obtain ⟨hl0, g, cur, fz, hA, hb, hg, hnc, hcm, hcs, ht, hfz⟩ := h
  have hx1 : x.n = 1 := by have := hx.len; rw [bv_length] at this; simp at this; omega
  obtain ⟨a, ha, hac⟩ := hx.at_ (by simp [bv])
  obtain ⟨i, hi, hzz⟩ := Option.map_eq_some_iff.1 i_uint8
  simp only [Prod.mk.injEq] at hzz
  obtain ⟨hz, hsz, hby⟩ := hzz
  have h1 : ∀ v ∈ bv [b], v.oneCell' = true := by intro v hv; simp [bv] at hv; subst hv; rfl
  rw [hA, ha, hx1]
  by_cases hroom : s.n + 1 ≤ s.c
  · have hf := run_firstCells_some (P := Tryz.prog) (w := w) i.size 1 a 1 x.c (bv [b]) (by rw [hsz]; rfl) hac
    have hcell : w.cell? ⟨g, s.n, none⟩ = some cur[s.n] := by simp only [World.cell?, hg]; exact Array.getElem?_eq_getElem (by omega)
    have hfro : w.frozen? ⟨g, s.n, none⟩ = false := by
      obtain ⟨lo, hi'⟩ := fz
      simp only [World.frozen?, hg, Bool.and_eq_false_iff, decide_eq_false_iff_not]
      rcases hfz with q | q
      · right; simp only at q; omega
      · left; simp only at q; omega
    have hst : (storeCells ⟨g, s.n, none⟩ (bv [b]) 0).run Tryz.prog w = .ok () (w.setRow g (cur.setIfInBounds s.n (.int .u8 (b.toNat : Int)))) := by
      have e0 : (⟨g, s.n, none⟩ : Addr).add 0 = ⟨g, s.n, none⟩ := addr_zero _
      have hs1 : (store ((⟨g, s.n, none⟩ : Addr).add 0) (.int .u8 (b.toNat : Int))).run Tryz.prog w = .ok () (w.setRow g (cur.setIfInBounds s.n (.int .u8 (b.toNat : Int)))) := by
        rw [e0, run_store Tryz.prog w _ (.int .u8 (b.toNat : Int)) _ rfl, hcell]
        simp [hfro, setCell_eq_setRow w g s.n cur t_uint8 fz _ hg]
      show (storeCells ⟨g, s.n, none⟩ [.int .u8 (b.toNat : Int)] 0).run Tryz.prog w = _
      simp only [storeCells, Sem.run_bind, hs1, Result.andThen_ok]
      rfl
    have hu := run_underlying u_sl_uint8
    refine ⟨⟨some ⟨g, 0, none⟩, s.n + 1, s.c⟩, w.setRow g (cur.setIfInBounds s.n (.int .u8 (b.toNat : Int))), ?_, hK _ _ ⟨by rw [List.length_append]; show l.length + 1 = s.n + 1; omega, g, _, fz, rfl, hb, setRow_heap w g cur _ t_uint8 fz hg, hroom, hcm, by rw [Array.size_setIfInBounds]; exact hcs, ?_, hfz⟩ ?_⟩
    · show _ = Result.ok (Value.slice (some ⟨g, 0, none⟩) (s.n + 1) s.c) _
      rw [hsz] at hf
      simp [Builtin.append_, hu, sizeOf, typeInfo, hi, hsz, Builtin.lenOf, hroom, hf, Addr.add_lit, hst]
    · show ((cur.setIfInBounds s.n (.int .u8 (b.toNat : Int))).toList.take (s.n + 1)) = bv (l ++ [b])
      have hlt : s.n < cur.toList.length := by rw [Array.length_toList]; omega
      rw [bv_append, ← ht, Array.toList_setIfInBounds, List.take_add_one, List.take_set_of_le (Nat.le_refl _), List.getElem?_set_self hlt]
      rfl
    · refine ⟨rfl, rfl, rfl, by simp [World.setRow], fun k hk hn => ?_⟩
      have hne : k ≠ g := fun e => hn (by rw [Sl.blk, hA, e]; rfl)
      have hne' : ¬ g = k := fun e => hne e.symm
      simp only [World.setRow, Array.getElem?_modify]
      rw [if_neg hne']
  · have hr := run_append_grow (P := Tryz.prog) (w := w) t_sl_uint8 ty t_uint8 i (.int .u8 0) u_sl_uint8 hi hz ⟨g, 0, none⟩ s.n s.c (bv l) (by rw [bv_length, hsz]; omega) (fun j v hj => by
      rw [← ht, List.getElem?_take] at hj
      split at hj
      · rw [add0, Nat.zero_add]
        simp only [World.cell?, hg]
        simpa using hj
      · cases hj) a 1 x.c (bv [b]) (by rw [hsz]; rfl) hac (by omega) (by omega) (by rw [hby]; exact growslice_fits (by omega) (by omega))
    have hge := grownCap_ge w (s.n + 1) s.c t_uint8
    refine ⟨⟨some ⟨w.heap.size, 0, none⟩, s.n + 1, grownCap w (s.n + 1) s.c t_uint8⟩, _, hr, hK _ _ ⟨by rw [List.length_append]; show l.length + 1 = s.n + 1; omega, w.heap.size, _, (0, 0), rfl, hbase, heap_alloc_new w.drew _, hge, grownCap_le_maxLen w _ _ _ (by unfold maxLen; omega), ?_, ?_, .inl rfl⟩ ?_⟩
    · simp only [Array.size_append, List.size_toArray, size_zeroCells, bv_length]
      show l.length + 1 + (grownCap w (s.n + 1) s.c t_uint8 - (s.n + 1)) * 1 = grownCap w (s.n + 1) s.c t_uint8
      omega
    · simp only [Array.toList_append, List.append_assoc]
      rw [← List.append_assoc, ← bv_append]
      exact List.take_left' (by rw [bv_length, List.length_append]; show l.length + 1 = s.n + 1; omega)
    · exact ⟨rfl, rfl, rfl, by simp, fun k hk _ => heap_alloc_lt w.drew _ k hk⟩
end
end Go.Proofs.YtpmebahhjgkflaaGreatDoor

/- Behind the bytes of a string: rows and strings. -/
namespace Go.Proofs.YtpmebahhjgkflaaGreatDoor
open Go CF
set_option maxRecDepth 100000
theorem storeCells_free {P : Program} {g o cap : Nat} {t : TypeId} {fz : Nat × Nat} (hfz : fz.2 = 0 ∨ cap ≤ fz.1) : ∀ (vs : List Value) (i : Nat) (cur : Array Value) (w : World), w.heap[g]? = some (.cells cur t fz) → cur.size = cap → o + i + vs.length ≤ cap → (∀ v ∈ vs, v.oneCell' = true) →
    (storeCells ⟨g, o, none⟩ vs i).run P w = .ok () (w.setRow g (cur.toList.take (o + i) ++ vs ++ cur.toList.drop (o + i + vs.length)).toArray)
  | [], i, cur, w, hg, _, _, _ => by
    simp only [storeCells, List.append_nil, List.length_nil, Nat.add_zero, List.take_append_drop, Array.toArray_toList]
    rw [setRow_self w g cur t fz hg]
    rfl
  | v :: r, i, cur, w, hg, hc, hl, h1 => by
    have hlt : o + i < cur.size := by simp at hl; omega
    have hadd : (⟨g, o, none⟩ : Addr).add i = ⟨g, o + i, none⟩ := add0 _ _ _
    have hcell : w.cell? ⟨g, o + i, none⟩ = some cur[o + i] := by simp only [World.cell?, hg]; exact Array.getElem?_eq_getElem hlt
    have hfro : w.frozen? ⟨g, o + i, none⟩ = false := by
      obtain ⟨lo, hi'⟩ := fz
      simp only [World.frozen?, hg, Bool.and_eq_false_iff, decide_eq_false_iff_not]
      rcases hfz with q | q
      · right; simp only at q; omega
      · left; simp only at q; omega
    have hst : (store ((⟨g, o, none⟩ : Addr).add i) v).run P w = .ok () (w.setRow g (cur.setIfInBounds (o + i) v)) := by
      rw [hadd, run_store P w _ v _ (h1 v (by simp)), hcell]
      simp [hfro, setCell_eq_setRow w g (o + i) cur t fz v hg]
    have ih := storeCells_free (P := P) (o := o) hfz r (i + 1) (cur.setIfInBounds (o + i) v) (w.setRow g (cur.setIfInBounds (o + i) v)) (setRow_heap w g cur _ t _ hg) (by rw [Array.size_setIfInBounds]; exact hc) (by simp at hl ⊢; omega) (fun x hx => h1 x (by simp [hx]))
    simp only [storeCells, Sem.run_bind, hst, Result.andThen_ok, ih, setRow_setRow]
    congr 3
    have e := list_seg_step cur.toList (o + i) v r (by simp at hl ⊢; omega)
    simpa [Array.toList_setIfInBounds, Nat.add_assoc] using e
section
variable {w u : World} {base : Nat} {s : Sl} {l : L8}
theorem OwnC.ge (h : OwnC w base s l) : ∀ b, s.blk = some b → base ≤ b ∧ b < w.heap.size := fun b hb => by
  obtain ⟨_, g, cur, fz, hA, hbs, hg, _⟩ := h
  unfold Sl.blk at hb
  rw [hA] at hb
  injection hb with hb
  rw [← hb]
  exact ⟨hbs, lt_of_heap hg⟩
theorem OwnC.mono {b' : Nat} (h : OwnC w base s l) (hb : b' ≤ base) : OwnC w b' s l := by
  obtain ⟨h0, g, cur, fz, hA, hbs, rest⟩ := h
  exact ⟨h0, g, cur, fz, hA, by omega, rest⟩
theorem OwnC.n (h : OwnC w base s l) : s.n = l.length := h.1.symm
theorem setRow_keep (w : World) (g : Nat) (cs : Array Value) : Keep (fun k => k = g) w (w.setRow g cs) := ⟨rfl, rfl, rfl, by simp [World.setRow], fun k hk hn => by
  have hne' : ¬ g = k := fun e => hn e.symm
  simp only [World.setRow, Array.getElem?_modify]
  rw [if_neg hne']⟩
/-- a string behind it -/
theorem OwnC.appS (h : OwnC w base s l) {l2 : L8} {tu ty : TypeId} (hu : Tryz.prog.underlying tu = some .string) (hl : l.length + l2.length ≤ 140737488355320) (hbase : base ≤ w.heap.size) {K : Sl → World → Prop}
    (hK : ∀ s' w', OwnC w' base s' (l ++ l2) → Keep (fun k => some k = s.blk) w w' → K s' w') :
    RunK Tryz.prog .sl (Builtin.append_ #[t_sl_uint8, tu] ty #[.slice s.A s.n s.c, .string (CF.str l2)]) w K := by
  obtain ⟨hl0, g, cur, fz, hA, hb, hg, hnc, hcm, hcs, ht, hfz⟩ := h
  have hsz2 : (CF.str l2).size = l2.length := size_str l2
  obtain ⟨i, hi, hzz⟩ := Option.map_eq_some_iff.1 i_uint8
  simp only [Prod.mk.injEq] at hzz
  obtain ⟨hz, hsz, hby⟩ := hzz
  have h1 : ∀ v ∈ bv l2, v.oneCell' = true := bv_one' l2
  have hcur : ∀ j v, (bv l)[j]? = some v → w.cell? ((⟨g, 0, none⟩ : Addr).add j) = some v := fun j v hj => by
    rw [← ht, List.getElem?_take] at hj
    split at hj
    · rw [add0, Nat.zero_add]
      simp only [World.cell?, hg]
      simpa using hj
    · cases hj
  rw [hA]
  have hus := run_underlying u_sl_uint8
  have hut := run_underlying hu
  have hf := Go.Lib.run_firstCells_string (P := Tryz.prog) w 1 (CF.str l2)
  rw [strCells_bv] at hf
  by_cases hroom : s.n + (CF.str l2).size ≤ s.c
  · have hst := storeCells_free (P := Tryz.prog) (g := g) (o := s.n) (t := t_uint8) hfz (bv l2) 0 cur w hg hcs (by rw [bv_length]; omega) h1
    refine ⟨⟨some ⟨g, 0, none⟩, s.n + (CF.str l2).size, s.c⟩, w.setRow g (cur.toList.take s.n ++ bv l2 ++ cur.toList.drop (s.n + (bv l2).length)).toArray, ?_, hK _ _ ⟨by rw [List.length_append]; show l.length + l2.length = s.n + (CF.str l2).size; omega, g, _, fz, rfl, hb, setRow_heap w g cur _ t_uint8 fz hg, hroom, hcm, ?_, ?_, hfz⟩ ((setRow_keep w g _).mono fun k _ q => by rw [Sl.blk, hA, q]; rfl)⟩
    · show _ = Result.ok (Value.slice (some ⟨g, 0, none⟩) (s.n + (CF.str l2).size) s.c) _
      simp only [Nat.add_zero] at hst
      simp [Builtin.append_, hus, hut, sizeOf, typeInfo, hi, hsz, Builtin.lenOf, hroom, hf, Addr.add_lit, hst]
    · simp only [List.size_toArray, List.length_append, List.length_take, List.length_drop, Array.length_toList, bv_length]; omega
    · show (cur.toList.take s.n ++ bv l2 ++ cur.toList.drop (s.n + (bv l2).length)).take (s.n + (CF.str l2).size) = bv (l ++ l2)
      rw [ht, bv_append]
      exact List.take_left' (by rw [List.length_append, bv_length, bv_length]; omega)
  · obtain ⟨o', w', hr, hn', ho, hk, hblk⟩ : ∃ (o' : Sl) (w' : World), (Builtin.append_ #[t_sl_uint8, tu] ty #[.slice (some ⟨g, 0, none⟩) s.n s.c, .string (CF.str l2)]).run Tryz.prog w = .ok (.slice o'.A o'.n o'.c) w' ∧ o'.n = s.n + (CF.str l2).size ∧ OwnC w' base o' (l ++ l2) ∧ Grow w w' ∧ True := by
      have hge := grownCap_ge w (s.n + (CF.str l2).size) s.c t_uint8
      have hfirst := run_firstCells_some (P := Tryz.prog) (w := w) 1 s.n ⟨g, 0, none⟩ s.n s.c (bv l) (by rw [bv_length]; omega) hcur
      refine ⟨⟨some ⟨w.heap.size, 0, none⟩, s.n + (CF.str l2).size, grownCap w (s.n + (CF.str l2).size) s.c t_uint8⟩, w.drew.alloc (.cells ((bv l).toArray ++ (bv l2).toArray ++ Builtin.zeroCells #[.int .u8 0] (grownCap w (s.n + (CF.str l2).size) s.c t_uint8 - (s.n + (CF.str l2).size))) t_uint8), ?_, rfl, ⟨by rw [List.length_append]; show l.length + l2.length = s.n + (CF.str l2).size; omega, w.heap.size, _, (0, 0), rfl, hbase, heap_alloc_new w.drew _, hge, grownCap_le_maxLen w _ _ _ (by unfold maxLen; omega), ?_, ?_, .inl rfl⟩, ⟨rfl, rfl, rfl, by simp, fun k hk _ => heap_alloc_lt w.drew _ k hk⟩, trivial⟩
      · have hr := Go.Lib.run_append_grow_string (P := Tryz.prog) (w := w) t_sl_uint8 tu ty t_uint8 i (.int .u8 0) u_sl_uint8 hu hi hz ⟨g, 0, none⟩ s.n s.c (bv l) (by rw [bv_length, hsz]; omega) hcur (CF.str l2) (by omega) (by omega) (by rw [hby]; exact growslice_fits (by omega) (by omega))
        rw [strCells_bv] at hr
        exact hr
      · simp only [Array.size_append, List.size_toArray, size_zeroCells, bv_length]
        show l.length + l2.length + (grownCap w (s.n + (CF.str l2).size) s.c t_uint8 - (s.n + (CF.str l2).size)) * 1 = grownCap w (s.n + (CF.str l2).size) s.c t_uint8
        omega
      · simp only [Array.toList_append, List.append_assoc]
        rw [← List.append_assoc, ← bv_append]
        exact List.take_left' (by rw [bv_length, List.length_append]; show l.length + l2.length = s.n + (CF.str l2).size; omega)
    exact ⟨o', w', hr, hK _ _ ho (hk.mono fun _ _ q => q.elim)⟩
end
end Go.Proofs.YtpmebahhjgkflaaGreatDoor

/- Layer 11: what INQUIRY tells, as functions. -/
namespace Go.Proofs.YtpmebahhjgkflaaGreatDoor
open Go CF
set_option maxRecDepth 100000
def wideL (l : L8) (n : Nat) : L8 := l ++ List.replicate (n - l.length) 32
def stdX (i : InfS) : L8 := if formX i = false then [] else [0, 0, 6, 2, 31, if 0 < i.prot then 1 else 0, 0, 2] ++ wideL (ls i.v) 8 ++ wideL (ls i.p) 16 ++ wideL (ls i.r) 4
def idL (i : InfS) : L8 := wideL (ls i.v) 8 ++ ls i.s
def bodyX (i : InfS) (page : Nat) : Option L8 :=
  if page = 0 then some [0, 128, 131, 176, 178] else if page = 128 then some (ls i.s) else if page = 131 then some ([2, 1, 0, UInt8.ofNat (idL i).length] ++ idL i)
  else if page = 176 then some (lay (lay (lay ([0, 255] ++ List.replicate 58 0) 4 4 256) 16 4 256) 20 4 8) else if page = 178 then some [0, 224, 2, 0] else none
def pageX (i : InfS) (page : Nat) : Option L8 := if formX i = false then none else (bodyX i page).map fun b => [0, UInt8.ofNat page, 0, UInt8.ofNat b.length] ++ b
def cutX (l : L8) (alloc : Int) : L8 := l.take (min (max alloc 0) l.length).toNat
def lunsX (l : List Nat) : L8 := lay (List.replicate 8 0) 0 4 (8 * l.length) ++ l.flatMap fun n => [0, UInt8.ofNat n, 0, 0, 0, 0, 0, 0]
section
variable {w u : World}
theorem wideL_len (l : L8) (n : Nat) : (wideL l n).length = max l.length n := by unfold wideL; rw [List.length_append, List.length_replicate]; omega
theorem wide_spec {s : ByteArray} {n : Nat} {R : Sl → World → Prop} (hs : s.size ≤ 1000000) (hn : n ≤ 1000) (h : ∀ xs w', Grow w w' → OwnC w' w.heap.size xs (wideL (ls s) n) → R xs w') : Cinq_wide s (n : Int) w R := by
  obtain ⟨l, rfl⟩ : ∃ l, s = CF.str l := ⟨ls s, (str_ls s).symm⟩
  refine Finq_wide.calls _ _ _ _ ?_
  have hsl := length_ls (CF.str l)
  rw [ls_str] at hsl h
  refine convC_rule u_string (by omega) fun xs w1 hg1 ho1 => ?_
  refine ⟨fun p v => ∃ k, k ≤ n - l.length ∧ Grow w v ∧ OwnC v w.heap.size p (l ++ List.replicate k 32), fun p _ => n - p.n, ⟨0, Nat.zero_le _, hg1, by simpa using ho1⟩, ?_⟩
  rintro p v ⟨k, hk, hgv, ho⟩
  have hpn := ho.n
  rw [List.length_append, List.length_replicate] at hpn
  by_cases q : p.n < n
  · refine br_t (by rw [decide_eq_true_eq]; omega) ?_
    refine lit_rule (cells := #[.int .u8 32]) (e := t_uint8) (z := 1) (base := v.heap.size) (by kernel_rfl) rfl (by decide) (Nat.le_refl _) fun v2 ho2 hg2 _ => ?_
    have hx : Rd v2 1 ⟨some ⟨v.heap.size, 0, none⟩, 1, 1⟩ (bv [32]) := ho2.rd (by dsimp only; decide)
    refine (ho.grow hg2).app1 (b := 32) hx (fun g e => ⟨(ho2.ge g e).2, fun e2 => by have := (ho2.ge g e).1; have := (ho.ge g e2).2; omega⟩) (by rw [List.length_append, List.length_replicate]; omega) (hgv.trans hg2).size fun p' v3 ho3 hk3 => ?_
    have hn3 := ho3.n
    rw [List.length_append, List.length_append, List.length_replicate] at hn3
    have e1 : ([32] : L8).length = 1 := rfl
    refine ⟨⟨k + 1, by omega, (hgv.trans hg2).keep hk3 fun i hi e => by have := (ho.ge i e.symm).1; omega, ?_⟩, by dsimp only; omega⟩
    rw [List.replicate_succ', ← List.append_assoc]
    exact ho3
  · refine br_f (by rw [decide_eq_false_iff_not]; omega) (h p v hgv ?_)
    unfold wideL
    have : k = n - l.length := by omega
    rw [← this]; exact ho
theorem inf_cell {b o : Nat} {i : InfS} {v : Value} (h : Blk w b (infv i).toArray t_inq_Info) (e : (infv i)[o]? = some v) : w.cell? ((⟨b, 0, none⟩ : Addr).add o) = some v := by
  rw [add0, h.cell, Nat.zero_add, List.getElem?_toArray]; exact e
theorem iLoad {b : Nat} {i : InfS} (h : Blk w b (infv i).toArray t_inq_Info) : (loadVar t_inq_Info ⟨b, 0, none⟩).run Tryz.prog w = .ok (.agg (infv i).toArray) w := loadVar_rule (cs := infv i) g_inq_Info i_inq_Info rfl (blk_cells h)
theorem form_sizes {i : InfS} (h : formX i = true) : i.v.size ≤ 8 ∧ i.p.size ≤ 16 ∧ i.r.size ≤ 4 ∧ 1 ≤ i.s.size ∧ i.s.size ≤ 20 ∧ i.prot ≤ 3 := by
  unfold formX textX at h
  simp only [Bool.and_eq_true, decide_eq_true_eq] at h
  omega
theorem infOk_form {i : InfS} (h : formX i = true) : InfOk i := by
  obtain ⟨h1, h2, h3, _, h4, _⟩ := form_sizes h
  exact ⟨by omega, by omega, by omega, by omega⟩
theorem std_spec {i : InfS} {R : Sl → World → Prop} (hf : formX i = true) (h : ∀ xs w', Grow w w' → Own w' w.heap.size t_uint8 1 xs (bv (stdX i)) → R xs w') : Cinq_Standard (infv i).toArray w R := by
  obtain ⟨z1, z2, z3, z4, z5, z6⟩ := form_sizes hf
  refine Finq_Standard.calls _ _ _ (new_rule fun ib w1 hib hb1 hg1 hs1 => ?_)
  have hb1 : Blk w1 ib (infv i).toArray t_inq_Info := hb1
  refine ⟨_, iLoad hb1, form_spec11 (infOk_form hf) fun w2 hg2 => ?_⟩
  rw [hf]
  have hb2 : Blk w2 ib (infv i).toArray t_inq_Info := hg2.heap hb1 (fun q => q)
  refine br_f rfl ?_
  refine Row.start (l := [0, 0, 6, 2, 31, 0, 0, 2]) (by kernel_rfl) rfl (by decide) fun p3 w3 r3 => ?_
  have hb3 : Blk w3 ib (infv i).toArray t_inq_Info := r3.grow.heap hb2 (fun q => q)
  refine ⟨(i.prot : Int), inf_cell hb3 rfl, ?_⟩
  have hgw2 := hg1.trans hg2
  refine letX0 (fun o => Row w2 o p3 [0, 0, 6, 2, 31, if 0 < i.prot then 1 else 0, 0, 2] ∧ Blk o ib (infv i).toArray t_inq_Info) ?_ (fun J => ?_)
  · rintro o ⟨ro, bo⟩
    have l1 := length_ls i.v
    have l2 := length_ls i.p
    have l3 := length_ls i.r
    have m1 := wideL_len (ls i.v) 8
    have m2 := wideL_len (ls i.p) 16
    have m3 := wideL_len (ls i.r) 4
    generalize hH : ([0, 0, 6, 2, 31, if 0 < i.prot then 1 else 0, 0, 2] : L8) = H at *
    have hHl : H.length = 8 := by rw [← hH]; rfl
    refine ⟨i.v, inf_cell bo rfl, wide_spec (n := 8) (by omega) (by decide) fun x1 o1 g1 c1 => ?_⟩
    have c1n := c1.n
    refine (ro.go g1).app (c1.rd (by omega)) (by omega) fun p4 o2 r4 k4 => ?_
    have b4 := (ro.go g1).blk k4 (g1.heap bo (fun q => q)) (by decide)
    refine ⟨i.p, inf_cell b4 rfl, wide_spec (n := 16) (by omega) (by decide) fun x2 o3 g3 c3 => ?_⟩
    have c3n := c3.n
    refine (r4.go g3).app (c3.rd (by omega)) (by rw [List.length_append]; omega) fun p5 o4 r5 k5 => ?_
    have b5 := (r4.go g3).blk k5 (g3.heap b4 (fun q => q)) (by decide)
    refine ⟨i.r, inf_cell b5 rfl, wide_spec (n := 4) (by omega) (by decide) fun x3 o5 g5 c5 => ?_⟩
    have c5n := c5.n
    refine (r5.go g5).app (c5.rd (by omega)) (by rw [List.length_append, List.length_append]; omega) fun p6 o6 r6 k6 => ?_
    refine h p6 o6 (hgw2.trans r6.grow) ?_
    unfold stdX
    rw [hf, if_neg Bool.noConfusion, hH]
    exact r6.own.mono hgw2.size
  · by_cases q : 0 < i.prot
    · refine br_t (by rw [decide_eq_true_eq]; omega) ?_
      have hn := r3.n
      have e8 : ([0, 0, 6, 2, 31, 0, 0, 2] : L8).length = 8 := rfl
      obtain ⟨hA, _⟩ := rd_at (r3.rd (by decide)) (i := 0) (by decide)
      refine ⟨⟨by decide, by omega, hA⟩, own_put (i := 5) r3.own (by omega) rfl fun o ho hk _ => J o ⟨?_, r3.blk hk hb3 (by decide)⟩⟩
      rw [if_pos q]
      exact r3.step (os' := [0, 0, 6, 2, 31, 1, 0, 2]) ho hk
    · refine br_f (by rw [decide_eq_false_iff_not]; omega) (J w3 ⟨?_, hb3⟩)
      rw [if_neg q]; exact r3
theorem cut_spec {p : Sl} {l : L8} {alloc : Int} {R : Sl → World → Prop} (hp : Rd w 1 p (bv l)) (hn : p.n ≤ 1000000) (h : ∀ xs w', Grow w w' → Own w' w.heap.size t_uint8 1 xs (bv (cutX l alloc)) → R xs w') : Cinq_Cut p alloc w R := by
  refine Finq_Cut.calls _ _ _ _ ?_
  have hl := rd_n' hp
  have hcap := hp.cap
  have e : (mn (mx alloc 0) (p.n : Int)).toNat = (min (max alloc 0) l.length).toNat := by unfold mn mx; split <;> split <;> omega
  have e2 : (min (max alloc 0) l.length).toNat ≤ p.n := by omega
  refine ⟨⟨by decide, by unfold mn mx; split <;> split <;> omega, by unfold mn mx; split <;> split <;> omega, hcap⟩, ?_⟩
  rw [e]
  have hc := hp.cutB (l := 0) (k := (min (max alloc 0) l.length).toNat) (Nat.zero_le _) e2
  rw [List.drop_zero, Nat.sub_zero] at hc
  refine append_rule u_sl_uint8 i_uint8 rfl (by decide) (by decide) (own_nil w w.heap.size _ _) hc (bv_one' _) (by show (0 + ((min (max alloc 0) l.length).toNat - 0)) * 1 ≤ _; omega) (Nat.le_refl _) fun s' w' hn' ho hk _ => h s' w' (hk.mono fun _ _ q => by cases q) ho
end
end Go.Proofs.YtpmebahhjgkflaaGreatDoor

/- Layer 11: a page of vital data, and the list of units. -/
namespace Go.Proofs.YtpmebahhjgkflaaGreatDoor
open Go CF
set_option maxRecDepth 100000
section
variable {w u : World}
theorem idL_len {i : InfS} (hf : formX i = true) : (idL i).length ≤ 28 := by
  obtain ⟨z1, z2, z3, z4, z5, z6⟩ := form_sizes hf
  have l1 := length_ls i.v
  have l2 := length_ls i.s
  unfold idL
  rw [List.length_append, wideL_len]; omega
theorem body_len {i : InfS} {page : Nat} {b : L8} (hf : formX i = true) (h : bodyX i page = some b) : b.length ≤ 60 := by
  obtain ⟨z1, z2, z3, z4, z5, z6⟩ := form_sizes hf
  have l2 := length_ls i.s
  have l3 := idL_len hf
  unfold bodyX at h
  split at h
  · injection h with h; rw [← h]; decide
  split at h
  · injection h with h; rw [← h]; omega
  split at h
  · injection h with h
    rw [← h, List.length_append]
    have e : ([2, 1, 0, UInt8.ofNat (idL i).length] : L8).length = 4 := rfl
    omega
  split at h
  · injection h with h; rw [← h]; decide +kernel
  split at h
  · injection h with h; rw [← h]; decide
  · cases h
set_option maxHeartbeats 1000000 in
theorem page_spec {i : InfS} {page : Nat} {R : Sl → Bool → World → Prop} (hf : formX i = true) (hp : page < 256) (h : ∀ xs w', Grow w w' → Own w' w.heap.size t_uint8 1 xs (bv ((pageX i page).getD [])) → R xs (pageX i page).isSome w') : Cinq_Page (infv i).toArray (page : Int) w R := by
  obtain ⟨z1, z2, z3, z4, z5, z6⟩ := form_sizes hf
  have l1 := length_ls i.v
  have l2 := length_ls i.s
  have l3 := idL_len hf
  refine Finq_Page.calls _ _ _ _ (new_rule fun ib w1 hib hb1 hg1 hs1 => ?_)
  have hb1 : Blk w1 ib (infv i).toArray t_inq_Info := hb1
  refine ⟨_, iLoad hb1, form_spec11 (infOk_form hf) fun w2 hg2 => ?_⟩
  rw [hf]
  have hb2 : Blk w2 ib (infv i).toArray t_inq_Info := hg2.heap hb1 (fun q => q)
  have hgw2 := hg1.trans hg2
  have ep : (page : Int) = (((UInt8.ofNat page).toNat : Nat) : Int) := by rw [← wrap_u8, wu8 (by omega) (by omega)]
  have hpx : pageX i page = (bodyX i page).map fun b => [0, UInt8.ofNat page, 0, UInt8.ofNat b.length] ++ b := by unfold pageX; rw [hf, if_neg Bool.noConfusion]
  rw [hpx] at h
  refine br_f rfl (letX1 (fun (x : Sl) o => ∃ b, bodyX i page = some b ∧ Grow w2 o ∧ Rd o 1 x (bv b)) ?_ (fun J => ?_))
  · rintro x o ⟨b, hb, go, rx⟩
    have bl := body_len hf hb
    have xl := rd_n' rx
    rw [hb] at h
    have exl : IntKind.wrap .u8 (x.n : Int) = (((UInt8.ofNat b.length).toNat : Nat) : Int) := by rw [← xl, wrap_u8]
    rw [exl, ep]
    have hl : (Instr.buildSlice t_sl_uint8 4 #[(0, .int .u8 0), (1, .int .u8 (((UInt8.ofNat page).toNat : Nat) : Int)), (2, .int .u8 0), (3, .int .u8 (((UInt8.ofNat b.length).toNat : Nat) : Int))]).run Tryz.prog o = .ok (.slice (some ⟨o.heap.size, 0, none⟩) 4 4) (o.alloc (.cells (bv [0, UInt8.ofNat page, 0, UInt8.ofNat b.length]).toArray t_uint8)) := by kernel_rfl
    refine Row.start hl rfl (by show 4 ≤ _; decide) fun p3 w3 r3 => ?_
    refine r3.app (rx.grow r3.grow) (by show 4 + b.length ≤ _; omega) fun p4 w4 r4 k4 => ?_
    exact h p4 w4 ((hgw2.trans go).trans r4.grow) (r4.own.mono (hgw2.trans go).size)
  · have nb : bodyX i page = none → R ⟨none, 0, 0⟩ false w2 := fun e => by
      rw [e] at h
      exact h nilS w2 hgw2 (own_nil _ _ _ _)
    unfold bodyX at J nb
    have lit : ∀ {n : Nat} {parts : Array (Nat × Value)} {l : L8} {v : World} {K : Sl → World → Prop}, Grow w2 v → (Instr.buildSlice t_sl_uint8 n parts).run Tryz.prog v = .ok (.slice (some ⟨v.heap.size, 0, none⟩) n n) (v.alloc (.cells (bv l).toArray t_uint8)) → n = l.length → l.length ≤ 100 → (∀ x o, Grow w2 o → Rd o 1 x (bv l) → K x o) → RunK Tryz.prog .sl (Instr.buildSlice t_sl_uint8 n parts) v K := fun {n parts l v K} g hr hn hl hK =>
      Row.start hr hn (by omega) fun x o ro => hK x o (g.trans ro.grow) (ro.rd (by omega))
    refine br_eq (fun e => ?_) (fun n0 => br_eq (fun e => ?_) (fun n1 => br_eq (fun e => ?_) (fun n2 => br_eq (fun e => ?_) (fun n3 => br_eq (fun e => ?_) (fun n4 => ?_)))))
    · refine lit (l := [0, 128, 131, 176, 178]) (Keep.refl _ _) (by kernel_rfl) rfl (by decide) fun x o g r => J x o ⟨_, if_pos (by omega), g, r⟩
    · refine ⟨i.s, inf_cell hb2 rfl, ?_⟩
      have es : i.s = CF.str (ls i.s) := (str_ls _).symm
      rw [es]
      refine convC_rule u_string (by omega) fun x o g c => J x o ⟨_, by rw [if_neg (by omega), if_pos (by omega)], g, c.rd (by have := c.n; omega)⟩
    · rintro w3 rfl
      have hg3 : Grow w2 w2.drew := keep_drew w2
      refine ⟨fun o => Blk o ib (infv i).toArray t_inq_Info, hg3.heap hb2 (fun q => q), i.v, fun o q => inf_cell q rfl, i.s, fun o q => inf_cell q rfl, ?_⟩
      refine wide_spec (n := 8) (by omega) (by decide) fun x1 o1 g1 c1 => ⟨(hg3.trans g1).heap hb2 (fun q => q), ?_⟩
      have es : i.s = CF.str (ls i.s) := (str_ls _).symm
      rw [es]
      refine c1.appS (l2 := ls i.s) u_string (by rw [wideL_len]; omega) g1.size fun x2 o2 c2 k2 => ?_
      have g2 : Grow w2 o2 := (hg3.trans g1).keep k2 fun j hj q => by have := (c1.ge j q.symm).1; have := hg3.size; omega
      have c2n := c2.n
      have c2 : OwnC o2 w2.drew.heap.size x2 (idL i) := c2
      have c2n : x2.n = (idL i).length := c2.n
      rw [show IntKind.wrap .u8 (x2.n : Int) = (((UInt8.ofNat (idL i).length).toNat : Nat) : Int) by rw [c2n, wrap_u8]]
      have hl : (Instr.buildSlice t_sl_uint8 4 #[(0, .int .u8 2), (1, .int .u8 1), (2, .int .u8 0), (3, .int .u8 (((UInt8.ofNat (idL i).length).toNat : Nat) : Int))]).run Tryz.prog o2 = .ok (.slice (some ⟨o2.heap.size, 0, none⟩) 4 4) (o2.alloc (.cells (bv [2, 1, 0, UInt8.ofNat (idL i).length]).toArray t_uint8)) := by kernel_rfl
      refine Row.start hl rfl (by show 4 ≤ _; decide) fun p3 w3 r3 => ?_
      refine r3.app ((c2.grow r3.grow).rd (by omega)) (by show 4 + (idL i).length ≤ _; omega) fun p4 w4 r4 k4 => ?_
      exact J p4 w4 ⟨_, by rw [if_neg (by omega), if_neg (by omega), if_pos (by omega)], g2.trans r4.grow, r4.rd (by rw [List.length_append]; show 4 + (idL i).length ≤ _; omega)⟩
    · refine make_rule (n := 60) u_sl_uint8 i_uint8 rfl (by decide) (by decide) (base := w2.heap.size) (Nat.le_refl _) fun w3 ho3 hg3 hs3 => ?_
      refine ⟨⟨by decide, by dsimp only; decide, rfl⟩, own_put (i := 1) ho3 (by dsimp only; decide) rfl fun w4 ho4 hk4 _ => ?_⟩
      have g4 : Grow w2 w4 := hg3.keep hk4 fun j hj q => by have q : j = w2.heap.size := by injection q
                                                            omega
      have ho4 : Own w4 w2.heap.size t_uint8 1 ⟨some ⟨w2.heap.size, 0, none⟩, 60, 60⟩ (bv ([0, 255] ++ List.replicate 58 0)) := ho4
      refine put_spec (at_ := 4) (n := 4) (v := 256) (ho4.rd (by dsimp only; decide)) (by dsimp only; decide) (by decide) (by decide) (by decide) (by decide) fun s5 w5 ho5 g5 => ?_
      have n5 := own_n' ho5
      rw [show (lay ([0, 255] ++ List.replicate 58 0) 4 4 256).length = 60 by decide +kernel] at n5
      refine put_spec (at_ := 16) (n := 4) (v := 256) (ho5.rd (by omega)) (by omega) (by decide) (by decide) (by decide +kernel) (by decide) fun s6 w6 ho6 g6 => ?_
      have n6 := own_n' ho6
      rw [show (lay (lay ([0, 255] ++ List.replicate 58 0) 4 4 256) 16 4 256).length = 60 by decide +kernel] at n6
      refine put_spec (at_ := 20) (n := 4) (v := 8) (ho6.rd (by omega)) (by omega) (by decide) (by decide) (by decide +kernel) (by decide) fun s7 w7 ho7 g7 => ?_
      have n7 := own_n' ho7
      rw [show (lay (lay (lay ([0, 255] ++ List.replicate 58 0) 4 4 256) 16 4 256) 20 4 8).length = 60 by decide +kernel] at n7
      exact J s7 w7 ⟨_, by rw [if_neg (by omega), if_neg (by omega), if_neg (by omega), if_pos (by omega)], ((g4.trans g5).trans g6).trans g7, ho7.rd (by omega)⟩
    · refine lit (l := [0, 224, 2, 0]) (Keep.refl _ _) (by kernel_rfl) rfl (by decide) fun x o g r => J x o ⟨_, by rw [if_neg (by omega), if_neg (by omega), if_neg (by omega), if_neg (by omega), if_pos (by omega)], g, r⟩
    · exact nb (by rw [if_neg (by omega), if_neg (by omega), if_neg (by omega), if_neg (by omega), if_neg (by omega)])
def natv (l : List Nat) : List Value := l.map fun n : Nat => .int .i64 (n : Int)
end
end Go.Proofs.YtpmebahhjgkflaaGreatDoor

/- Layer 6: sense data in both forms, as functions. -/
namespace Go.Proofs.YtpmebahhjgkflaaGreatDoor
open Go CF
set_option maxRecDepth 100000
/-- a sense whose numbers fit -/
structure SnB (s : Sn) : Prop where
  key : s.key < 256
  code : s.code < 65536
  info : s.info < 18446744073709551616
def formS (s : Sn) : Bool :=
  decide (s.key ≤ 15) && (s.hi || decide (s.info = 0)) &&
  (if s.hf = true then decide (0 ≤ s.field) && decide (s.field ≤ 65535) && decide (-1 ≤ s.bit) && decide (s.bit ≤ 7) else decide (s.field = 0) && decide (s.bit = 0) && !s.ic)
def keyN (s : Sn) : Nat := (if s.ic then 192 else 128) + (if 0 ≤ s.bit then 8 + s.bit.toNat else 0)
def keyL (s : Sn) : L8 := [UInt8.ofNat (keyN s), UInt8.ofNat (s.field.toNat / 256), UInt8.ofNat s.field.toNat]
def fixed0 (s : Sn) : L8 := [if s.hi then 240 else 112, 0, UInt8.ofNat s.key] ++ (if s.hi then beN 4 s.info else [0, 0, 0, 0]) ++ [10, 0, 0, 0, 0, UInt8.ofNat (s.code / 256), UInt8.ofNat s.code, 0] ++ (if s.hf then keyL s else [0, 0, 0])
/-- in the fixed form: the bytes, and the error's number -/
def fixedX (s : Sn) : L8 × Nat := if formS s = false then ([], 3) else if s.hi = true ∧ 4294967295 < s.info then ([], 4) else (fixed0 s, 0)
def descB (s : Sn) : L8 := (if s.hi then [0, 10, 128, 0] ++ beN 8 s.info else []) ++ (if s.hf then [2, 6, 0, 0] ++ keyL s ++ [0] else [])
def desc0 (s : Sn) : L8 := [114, UInt8.ofNat s.key, UInt8.ofNat (s.code / 256), UInt8.ofNat s.code, 0, 0, 0, UInt8.ofNat (descB s).length] ++ descB s
def descX (s : Sn) : L8 × Nat := if formS s = false then ([], 3) else (desc0 s, 0)
section
variable {w u : World} {s : Sn}
theorem sn_cell {b o : Nat} {v : Value} (h : Blk w b (snv s).toArray t_api_Sense) (e : (snv s)[o]? = some v) : w.cell? ((⟨b, 0, none⟩ : Addr).add o) = some v := by
  rw [add0, h.cell, Nat.zero_add, List.getElem?_toArray]; exact e
theorem bit8 {b : Int} {c : Nat} (h0 : 0 ≤ b) (h7 : b ≤ 7) (hc : c = 192 ∨ c = 128) : bOr .u8 (c : Int) (bOr .u8 8 (IntKind.wrap .u8 (bAnd .i64 b 7))) = (((UInt8.ofNat (c + (8 + b.toNat))).toNat : Nat) : Int) := by
  obtain ⟨n, rfl⟩ : ∃ n : Nat, b = (n : Int) := ⟨b.toNat, by omega⟩
  have hn : n < 8 := by omega
  have key : ∀ n : Fin 8, ∀ c : Fin 2, bOr .u8 (((if c.val = 0 then 192 else 128 : Nat) : Nat) : Int) (bOr .u8 8 (IntKind.wrap .u8 (bAnd .i64 ((n.val : Nat) : Int) 7))) = (((UInt8.ofNat ((if c.val = 0 then 192 else 128 : Nat) + (8 + n.val))).toNat : Nat) : Int) := by decide +kernel
  rcases hc with rfl | rfl
  · exact key ⟨n, hn⟩ 0
  · exact key ⟨n, hn⟩ 1
theorem key_spec6 {R : Sl → World → Prop} (hf : 0 ≤ s.field ∧ s.field ≤ 65535) (hb : -1 ≤ s.bit ∧ s.bit ≤ 7) (h : ∀ xs w', Grow w w' → Own w' w.heap.size t_uint8 1 xs (bv (keyL s)) → xs.n = 3 → R xs w') : Csense_key (snv s).toArray w R := by
  refine Fsense_key.calls _ _ _ (new_rule fun sb w1 hsb hb1 hg1 hs1 => ?_)
  have hb1 : Blk w1 sb (snv s).toArray t_api_Sense := hb1
  refine ⟨s.ic, sn_cell hb1 rfl, ?_⟩
  refine letX1 (fun (x : Int) o => o = w1 ∧ x = ((if s.ic then 192 else 128 : Nat) : Int)) ?_ (fun J => ?_)
  · rintro x o ⟨rfl, rfl⟩
    refine ⟨s.bit, sn_cell hb1 rfl, ?_⟩
    refine letX1 (fun (x : Int) v => v = o ∧ x = (((UInt8.ofNat (keyN s)).toNat : Nat) : Int)) ?_ (fun J => ?_)
    · rintro x v ⟨rfl, rfl⟩
      refine ⟨s.field, sn_cell hb1 rfl, s.field, sn_cell hb1 rfl, ?_⟩
      obtain ⟨f, hfe⟩ : ∃ f : Nat, s.field = (f : Int) := ⟨s.field.toNat, by omega⟩
      have e1 : bShr .i64 s.field 8 = ((f / 256 : Nat) : Int) := by rw [hfe]; exact shr .i64 f 8 (by decide)
      rw [e1, hfe, wrap_u8, wrap_u8]
      refine lit_rule (cells := #[.int .u8 (((UInt8.ofNat (keyN s)).toNat : Nat) : Int), .int .u8 (((UInt8.ofNat (f / 256)).toNat : Nat) : Int), .int .u8 (((UInt8.ofNat f).toNat : Nat) : Int)]) (e := t_uint8) (z := 1) (base := w.heap.size) (by kernel_rfl) rfl (by decide) hg1.size fun w2 ho hg2 _ => ?_
      refine h _ w2 (hg1.trans hg2) ?_ rfl
      have : keyL s = [UInt8.ofNat (keyN s), UInt8.ofNat (f / 256), UInt8.ofNat f] := by unfold keyL; rw [hfe]; rfl
      rw [this]; exact ho
    · by_cases q : 0 ≤ s.bit
      · refine br_t (by rw [decide_eq_true_eq]; omega) ⟨s.bit, sn_cell hb1 rfl, J _ _ ⟨rfl, ?_⟩⟩
        unfold keyN
        rw [if_pos q]
        exact bit8 q hb.2 (by cases s.ic <;> simp)
      · refine br_f (by rw [decide_eq_false_iff_not]; omega) (J _ _ ⟨rfl, ?_⟩)
        unfold keyN
        rw [if_neg q]
        cases s.ic <;> rfl
  · cases hi : s.ic with
    | true => exact br_t rfl (J _ _ ⟨rfl, by rw [hi]; decide⟩)
    | false => exact br_f rfl (J _ _ ⟨rfl, by rw [hi]; rfl⟩)
theorem formS_spec {R : Bool → World → Prop} (h : ∀ w', Grow w w' → R (formS s) w') : Csense_Form (snv s).toArray w R := by
  refine Fsense_Form.calls _ _ _ (new_rule fun sb w1 hsb hb1 hg1 hs1 => ?_)
  have hb1 : Blk w1 sb (snv s).toArray t_api_Sense := hb1
  have h := h w1 hg1
  unfold formS at h
  refine letX0 (fun o => o = w1 ∧ s.key ≤ 15 ∧ (s.hi = true ∨ s.info = 0) ∧ s.hf = true) ?_ (fun J => ?_)
  · rintro o ⟨rfl, hk, hi, hf⟩
    refine ⟨s.field, sn_cell hb1 rfl, s.field, fun _ => sn_cell hb1 rfl, s.bit, fun _ => sn_cell hb1 rfl, s.bit, fun _ => sn_cell hb1 rfl, ?_⟩
    have e : (decide (s.key ≤ 15) && (s.hi || decide (s.info = 0))) = true := by
      rw [Bool.and_eq_true, Bool.or_eq_true, decide_eq_true_eq, decide_eq_true_eq]; exact ⟨hk, hi⟩
    rw [e, if_pos hf, Bool.true_and] at h
    exact h
  · refine ⟨(s.key : Int), sn_cell hb1 rfl, ?_⟩
    refine letX1 (fun (x : Bool) o => o = w1 ∧ x = !(decide (s.key ≤ 15) && (s.hi || decide (s.info = 0)))) ?_ (fun J1 => ?_)
    · rintro x o ⟨rfl, rfl⟩
      cases hg : (decide (s.key ≤ 15) && (s.hi || decide (s.info = 0))) with
      | false => rw [hg, Bool.false_and] at h; exact br_t rfl h
      | true =>
        rw [hg, Bool.true_and] at h
        refine br_f rfl ⟨s.hf, sn_cell hb1 rfl, ?_⟩
        cases hf : s.hf with
        | true =>
          rw [Bool.and_eq_true, Bool.or_eq_true, decide_eq_true_eq, decide_eq_true_eq] at hg
          exact br_f rfl (J _ ⟨rfl, hg.1, hg.2, hf⟩)
        | false =>
          rw [hf, if_neg Bool.noConfusion] at h
          refine br_t rfl ⟨s.field, sn_cell hb1 rfl, s.bit, fun _ => sn_cell hb1 rfl, s.ic, fun _ => sn_cell hb1 rfl, ?_⟩
          have e1 : (s.field == 0) = decide (s.field = 0) := by rw [Bool.eq_iff_iff, beq_iff_eq, decide_eq_true_eq]
          have e2 : (s.bit == 0) = decide (s.bit = 0) := by rw [Bool.eq_iff_iff, beq_iff_eq, decide_eq_true_eq]
          rw [e1, e2]
          exact h
    · by_cases hk : s.key ≤ 15
      · refine br_f (by rw [decide_eq_false_iff_not]; omega) ⟨s.hi, sn_cell hb1 rfl, (s.info : Int), fun _ => sn_cell hb1 rfl, J1 _ _ ⟨rfl, ?_⟩⟩
        rw [decide_eq_true hk, Bool.true_and]
        have e1 : ((s.info : Int) != 0) = !decide (s.info = 0) := by
          rw [Bool.eq_iff_iff, bne_iff_ne, Bool.not_eq_true', decide_eq_false_iff_not]; omega
        rw [e1, Bool.not_or]
      · refine br_t (by rw [decide_eq_true_eq]; omega) (J1 _ _ ⟨rfl, ?_⟩)
        have e : decide ((s.key : Int) > 15) = true := by rw [decide_eq_true_eq]; omega
        rw [e, decide_eq_false hk]; rfl
end
end Go.Proofs.YtpmebahhjgkflaaGreatDoor

/- Layer 6: the two forms. -/
namespace Go.Proofs.YtpmebahhjgkflaaGreatDoor
open Go CF
set_option maxRecDepth 100000
section
variable {w u : World} {s : Sn}
theorem formS_key (h : formS s = true) : s.key ≤ 15 ∧ (s.hf = true → (0 ≤ s.field ∧ s.field ≤ 65535) ∧ -1 ≤ s.bit ∧ s.bit ≤ 7) := by
  unfold formS at h
  rw [Bool.and_eq_true, Bool.and_eq_true, decide_eq_true_eq] at h
  refine ⟨h.1.1, fun q => ?_⟩
  have h2 := h.2
  rw [if_pos q] at h2
  simp only [Bool.and_eq_true, decide_eq_true_eq] at h2
  omega
theorem sS {b : Nat} (h : Blk w b (snv s).toArray t_api_Sense) : (loadVar t_api_Sense ⟨b, 0, none⟩).run Tryz.prog w = .ok (.agg (snv s).toArray) w := sLoad (blk_cells h)
set_option maxHeartbeats 1000000 in
theorem fixed_spec {R : Sl → Int → World → Prop} (hb : SnB s) (h : ∀ xs w', Grow w w' → Own w' w.heap.size t_uint8 1 xs (bv (fixedX s).1) → R xs ((fixedX s).2 : Int) w') : Csense_Fixed (snv s).toArray w R := by
  refine Fsense_Fixed.calls _ _ _ (new_rule fun sb w1 hsb hb1 hg1 hs1 => ?_)
  have hb1 : Blk w1 sb (snv s).toArray t_api_Sense := hb1
  refine ⟨_, sS hb1, formS_spec fun w2 hg2 => ?_⟩
  have hgw2 := hg1.trans hg2
  have hb2 : Blk w2 sb (snv s).toArray t_api_Sense := hg2.heap hb1 (fun q => q)
  unfold fixedX at h
  cases hf : formS s with
  | false =>
    rw [hf, if_pos rfl] at h
    exact br_t rfl (h nilS w2 hgw2 (own_nil _ _ _ _))
  | true =>
  rw [hf, if_neg Bool.noConfusion] at h
  obtain ⟨hk15, hfb⟩ := formS_key hf
  refine br_f rfl ⟨s.hi, sn_cell hb2 rfl, (s.info : Int), fun _ => sn_cell hb2 rfl, ?_⟩
  by_cases hbig : s.hi = true ∧ 4294967295 < s.info
  · rw [if_pos hbig] at h
    refine br_t (by rw [hbig.1, Bool.true_and, decide_eq_true_eq]; omega) (h nilS w2 hgw2 (own_nil _ _ _ _))
  rw [if_neg hbig] at h
  refine br_f (by cases hh : s.hi with | false => rfl | true => rw [Bool.true_and, decide_eq_false_iff_not]; intro q; exact hbig ⟨hh, by omega⟩) ?_
  refine make_rule (n := 18) u_sl_uint8 i_uint8 rfl (by decide) (by decide) (base := w.heap.size) hgw2.size fun w3 ho3 hg3 hs3 => ?_
  rintro w4 rfl
  have hg4 : Grow w2 w3.drew := hg3.trans (keep_drew w3)
  have hb4 : Blk w3.drew sb (snv s).toArray t_api_Sense := hg4.heap hb2 (fun q => q)
  have ho4 := ho3.grow (keep_drew w3)
  have hgw4 := hgw2.trans hg4
  generalize w3.drew = w4 at *
  have nsb : ∀ {v : World} {k : Nat}, some k = (⟨some ⟨w2.heap.size, 0, none⟩, 18, 18⟩ : Sl).blk → k ≠ sb := fun {v k} e q => by
    have e : k = w2.heap.size := by injection e
    have := lt_of_heap hb2
    omega
  have e1 : IntKind.wrap .u8 (bShr .u16 (s.code : Int) 8) = (((UInt8.ofNat (s.code / 256)).toNat : Nat) : Int) := by rw [show bShr .u16 (s.code : Int) 8 = ((s.code / 256 : Nat) : Int) from shr .u16 s.code 8 (by decide), wrap_u8]
  have e2 : ((s.key : Int)) = (((UInt8.ofNat s.key).toNat : Nat) : Int) := by rw [← wrap_u8, wu8 (by omega) (by have := hb.key; omega)]
  refine ⟨fun o => Blk o sb (snv s).toArray t_api_Sense, hb4, (s.key : Int), fun o q => sn_cell q rfl, (s.code : Int), fun o q => sn_cell q rfl, (s.code : Int), fun o q => sn_cell q rfl, ⟨by decide, by dsimp only; decide, rfl⟩, ?_⟩
  rw [e1, wrap_u8, e2]
  have st : ∀ {v v' : World}, Blk v sb (snv s).toArray t_api_Sense → Keep (fun k => some k = (⟨some ⟨w2.heap.size, 0, none⟩, 18, 18⟩ : Sl).blk) v v' → Blk v' sb (snv s).toArray t_api_Sense := fun {v v'} q k => k.heap q fun e => nsb (v := v) e rfl
  refine own_put (i := 0) ho4 (by dsimp only; decide) rfl fun w5 ho5 hk5 _ => ⟨st hb4 hk5, ⟨by decide, by dsimp only; decide, rfl⟩, ?_⟩
  refine own_put (i := 2) ho5 (by dsimp only; decide) rfl fun w6 ho6 hk6 _ => ⟨st (st hb4 hk5) hk6, ⟨by decide, by dsimp only; decide, rfl⟩, ?_⟩
  refine own_put (i := 7) ho6 (by dsimp only; decide) rfl fun w7 ho7 hk7 _ => ⟨st (st (st hb4 hk5) hk6) hk7, ⟨by decide, by dsimp only; decide, rfl⟩, ?_⟩
  refine own_put (i := 12) ho7 (by dsimp only; decide) rfl fun w8 ho8 hk8 _ => ⟨st (st (st (st hb4 hk5) hk6) hk7) hk8, ⟨by decide, by dsimp only; decide, rfl⟩, ?_⟩
  refine own_put (i := 13) ho8 (by dsimp only; decide) rfl fun w9 ho9 hk9 _ => ?_
  have hb9 := st (st (st (st (st hb4 hk5) hk6) hk7) hk8) hk9
  have hgw9 : Grow w w9 := by
    have k := (((hk5.trans hk6 fun _ _ q => q).trans hk7 fun _ _ q => q).trans hk8 fun _ _ q => q).trans hk9 fun _ _ q => q
    exact hgw4.keep k fun i hi e => by
      have e : i = w2.heap.size := by injection e
      have := hgw2.size
      omega
  have ho9 : Own w9 w.heap.size t_uint8 1 ⟨some ⟨w2.heap.size, 0, none⟩, 18, 18⟩ (bv [112, 0, UInt8.ofNat s.key, 0, 0, 0, 0, 10, 0, 0, 0, 0, UInt8.ofNat (s.code / 256), UInt8.ofNat s.code, 0, 0, 0, 0]) := ho9
  refine ⟨s.hi, sn_cell hb9 rfl, ?_⟩
  refine letX1 (fun (p : Sl) o => Grow w o ∧ Blk o sb (snv s).toArray t_api_Sense ∧ p.n = 18 ∧ p.A.isSome = true ∧ Own o w.heap.size t_uint8 1 p (bv ([if s.hi then 240 else 112, 0, UInt8.ofNat s.key] ++ (if s.hi then beN 4 s.info else [0, 0, 0, 0]) ++ [10, 0, 0, 0, 0, UInt8.ofNat (s.code / 256), UInt8.ofNat s.code, 0, 0, 0, 0]))) ?_ (fun J => ?_)
  · rintro p o ⟨hgo, hbo, hpn, hpA, hoo⟩
    refine ⟨s.hf, sn_cell hbo rfl, ?_⟩
    cases hh : s.hf with
    | false =>
      refine br_f rfl ?_
      refine h p o hgo ?_
      unfold fixed0
      rw [hh, if_neg (show ¬ false = true from Bool.noConfusion), List.append_assoc]
      exact hoo
    | true =>
      refine br_t rfl ?_
      rintro o2 rfl
      have hbo2 : Blk o.drew sb (snv s).toArray t_api_Sense := (keep_drew o).heap hbo (fun q => q)
      have hoo2 := hoo.grow (keep_drew o)
      have hgo2 := hgo.trans (keep_drew o)
      generalize o.drew = o at *
      have hcap := (hoo2.rd (by omega)).cap
      refine ⟨fun o => Blk o sb (snv s).toArray t_api_Sense, hbo2, ⟨by decide, by omega, by omega, hcap⟩, _, fun u q => sS q, ?_⟩
      refine key_spec6 (hfb hh).1 (hfb hh).2 fun xs o3 hg3 hx3 hxn => ?_
      have hx3r := hx3.rd (by omega)
      have hoo3 := hoo2.grow hg3
      rw [Int.toNat_natCast]
      refine copy_rule (o := 15) u_sl_uint8 i_uint8 hoo3 hx3r (bv_one' _) (by omega) fun o4 ho4' hk4 _ => ?_
      refine h p o4 ?_ ?_
      · exact (hgo2.trans hg3).keep hk4 fun i hi e => by have := (hoo3.ge i e.symm).1; omega
      · have : (fixed0 s) = ([if s.hi then 240 else 112, 0, UInt8.ofNat s.key] ++ (if s.hi then beN 4 s.info else [0, 0, 0, 0]) ++ [10, 0, 0, 0, 0, UInt8.ofNat (s.code / 256), UInt8.ofNat s.code, 0, 0, 0, 0]).take 15 ++ keyL s ++ ([if s.hi then 240 else 112, 0, UInt8.ofNat s.key] ++ (if s.hi then beN 4 s.info else [0, 0, 0, 0]) ++ [10, 0, 0, 0, 0, UInt8.ofNat (s.code / 256), UInt8.ofNat s.code, 0, 0, 0, 0]).drop (15 + xs.n) := by
          rw [hxn]
          unfold fixed0
          rw [hh, if_pos rfl]
          cases s.hi <;> rfl
        rw [this, bv_append, bv_append, ← bv_take, ← bv_drop]
        exact ho4'
  · cases hh : s.hi with
    | false => exact br_f rfl (J _ _ ⟨hgw9, hb9, rfl, rfl, by rw [hh]; exact ho9⟩)
    | true =>
      have c0 : w9.cell? ((gA (some (⟨w2.heap.size, 0, none⟩ : Addr))).add ((0 : Int).toNat * 1)) = some (.int .u8 112) := (rd_at (ho9.rd (by dsimp only; decide)) (i := 0) (by show 0 < 18; decide)).2
      refine br_t rfl ⟨⟨by decide, by dsimp only; decide, rfl⟩, 112, c0, ⟨by decide, by dsimp only; decide, rfl⟩, ?_⟩
      refine own_put (i := 0) ho9 (by dsimp only; decide) rfl fun w10 ho10 hk10 _ => ?_
      have hb10 := st hb9 hk10
      have hgw10 : Grow w w10 := hgw9.keep hk10 fun i hi e => by
        have e : i = w2.heap.size := by injection e
        have := hgw2.size
        omega
      have ho10 : Own w10 w.heap.size t_uint8 1 ⟨some ⟨w2.heap.size, 0, none⟩, 18, 18⟩ (bv [240, 0, UInt8.ofNat s.key, 0, 0, 0, 0, 10, 0, 0, 0, 0, UInt8.ofNat (s.code / 256), UInt8.ofNat s.code, 0, 0, 0, 0]) := ho10
      have p4 : (256 : Nat) ^ 4 = 4294967296 := rfl
      refine ⟨(s.info : Int), sn_cell hb10 rfl, ?_⟩
      refine put_spec (at_ := 3) (n := 4) (v := s.info) (ho10.rd (by dsimp only; decide)) (by dsimp only; decide) (by decide) (by decide) (by show 7 ≤ 18; decide) (by rw [p4]; have : ¬ 4294967295 < s.info := fun q => hbig ⟨hh, q⟩; omega) fun s3 w11 ho11 hg11 => ?_
      have hl : (lay [240, 0, UInt8.ofNat s.key, 0, 0, 0, 0, 10, 0, 0, 0, 0, UInt8.ofNat (s.code / 256), UInt8.ofNat s.code, 0, 0, 0, 0] 3 4 s.info) = [240, 0, UInt8.ofNat s.key] ++ beN 4 s.info ++ [10, 0, 0, 0, 0, UInt8.ofNat (s.code / 256), UInt8.ofNat s.code, 0, 0, 0, 0] := rfl
      rw [hl] at ho11
      have hn : s3.n = 18 := by
        have := ho11.len
        rw [bv_length, List.length_append, List.length_append, beN_len] at this
        simp at this; omega
      refine J _ _ ⟨hgw10.trans hg11, hg11.heap hb10 (fun q => q), hn, ?_, by rw [hh]; exact ho11.mono hgw10.size⟩
      obtain ⟨hA, _⟩ := rd_at (ho11.rd (by omega)) (i := 0) (by rw [List.length_append, List.length_append, beN_len]; simp)
      exact hA
end
end Go.Proofs.YtpmebahhjgkflaaGreatDoor

/- Layer 6: the described form. -/
namespace Go.Proofs.YtpmebahhjgkflaaGreatDoor
open Go CF
set_option maxRecDepth 100000
section
variable {w u : World} {s : Sn}
theorem keyL_len (s : Sn) : (keyL s).length = 3 := rfl
theorem descB_len (s : Sn) : (descB s).length ≤ 20 := by
  unfold descB
  rw [List.length_append]
  have h1 : (if s.hi = true then ([0, 10, 128, 0] : L8) ++ beN 8 s.info else []).length ≤ 12 := by
    split
    · rw [List.length_append, beN_len]; decide
    · decide
  have h2 : (if s.hf = true then ([2, 6, 0, 0] : L8) ++ keyL s ++ [0] else []).length ≤ 8 := by
    split
    · rw [List.length_append, List.length_append, keyL_len]; decide
    · decide
  omega
set_option maxHeartbeats 1000000 in
theorem desc_spec {R : Sl → Int → World → Prop} (hb : SnB s) (h : ∀ xs w', Grow w w' → Own w' w.heap.size t_uint8 1 xs (bv (descX s).1) → R xs ((descX s).2 : Int) w') : Csense_Described (snv s).toArray w R := by
  refine Fsense_Described.calls _ _ _ (new_rule fun sb w1 hsb hb1 hg1 hs1 => ?_)
  have hb1 : Blk w1 sb (snv s).toArray t_api_Sense := hb1
  refine ⟨_, sS hb1, formS_spec fun w2 hg2 => ?_⟩
  have hgw2 := hg1.trans hg2
  have hb2 : Blk w2 sb (snv s).toArray t_api_Sense := hg2.heap hb1 (fun q => q)
  unfold descX at h
  cases hf : formS s with
  | false =>
    rw [hf, if_pos rfl] at h
    exact br_t rfl (h nilS w2 hgw2 (own_nil _ _ _ _))
  | true =>
  rw [hf, if_neg Bool.noConfusion] at h
  obtain ⟨hk15, hfb⟩ := formS_key hf
  have e1 : IntKind.wrap .u8 (bShr .u16 (s.code : Int) 8) = (((UInt8.ofNat (s.code / 256)).toNat : Nat) : Int) := by rw [show bShr .u16 (s.code : Int) 8 = ((s.code / 256 : Nat) : Int) from shr .u16 s.code 8 (by decide), wrap_u8]
  have e2 : ((s.key : Int)) = (((UInt8.ofNat s.key).toNat : Nat) : Int) := by rw [← wrap_u8, wu8 (by omega) (by have := hb.key; omega)]
  refine br_f rfl ⟨(s.key : Int), sn_cell hb2 rfl, (s.code : Int), sn_cell hb2 rfl, (s.code : Int), sn_cell hb2 rfl, ?_⟩
  rw [e1, wrap_u8, e2]
  refine Row.start (l := [114, UInt8.ofNat s.key, UInt8.ofNat (s.code / 256), UInt8.ofNat s.code, 0, 0, 0, 0]) (by kernel_rfl) rfl (by show 8 ≤ _; decide) fun p3 w3 hr3 => ?_
  have hb3 : Blk w3 sb (snv s).toArray t_api_Sense := hr3.grow.heap hb2 (fun q => q)
  refine ⟨s.hi, sn_cell hb3 rfl, ?_⟩
  generalize hH : ([114, UInt8.ofNat s.key, UInt8.ofNat (s.code / 256), UInt8.ofNat s.code, 0, 0, 0, 0] : L8) = H at *
  have hHl : H.length = 8 := by rw [← hH]; rfl
  have dl := descB_len s
  refine letX1 (fun (p : Sl) o => Bag w2 o p (H ++ if s.hi then [0, 10, 128, 0] ++ beN 8 s.info else []) [] ∧ Blk o sb (snv s).toArray t_api_Sense) ?_ (fun J => ?_)
  · rintro p o ⟨hB, hbo⟩
    refine ⟨s.hf, sn_cell hbo rfl, ?_⟩
    refine letX1 (fun (p : Sl) o => Row w2 o p (H ++ descB s) ∧ Blk o sb (snv s).toArray t_api_Sense) ?_ (fun J => ?_)
    · rintro p1 o1 ⟨hR, hbo1⟩
      have hn := hR.n
      rw [List.length_append] at hn
      obtain ⟨hA, _⟩ := rd_at (hR.rd (by rw [List.length_append]; omega)) (i := 0) (by rw [List.length_append]; omega)
      refine ⟨⟨by decide, by omega, hA⟩, ?_⟩
      rw [w64 (n := ((p1.n : Int) - 8)) (by omega) (by omega), show ((p1.n : Int) - 8) = ((descB s).length : Int) by omega, wrap_u8]
      refine own_put (i := 7) hR.own (by omega) rfl fun o2 ho2 hk2 _ => ?_
      refine h p1 o2 ((hgw2.trans hR.grow).keep hk2 fun i hi e => by have := (hR.own.ge i e.symm).1; have := hgw2.size; omega) ?_
      rw [bv_set] at ho2
      have : (H ++ descB s).set 7 (UInt8.ofNat (descB s).length) = desc0 s := by
        rw [← hH]; rfl
      rw [this] at ho2
      exact ho2.mono hgw2.size
    · have hl0 : (H ++ if s.hi = true then ([0, 10, 128, 0] : L8) ++ beN 8 s.info else []).length ≤ 20 := by
        rw [List.length_append]
        have h1 : (if s.hi = true then ([0, 10, 128, 0] : L8) ++ beN 8 s.info else []).length ≤ 12 := by
          split
          · rw [List.length_append, beN_len]; decide
          · decide
        omega
      cases hh : s.hf with
      | false =>
        refine br_f rfl (J p o ⟨?_, hbo⟩)
        have : H ++ descB s = (H ++ if s.hi = true then ([0, 10, 128, 0] : L8) ++ beN 8 s.info else []) := by unfold descB; rw [hh, if_neg (show ¬ false = true from Bool.noConfusion), List.append_nil]
        rw [this]; exact hB.row
      | true =>
        obtain ⟨kf, kb⟩ := hfb hh
        refine br_t rfl ?_
        rintro o1 rfl
        have hB1 := hB.go (keep_drew o)
        have hbo1 : Blk o.drew sb (snv s).toArray t_api_Sense := (keep_drew o).heap hbo (fun q => q)
        generalize o.drew = o1 at *
        have hF : H ++ descB s = (H ++ if s.hi = true then ([0, 10, 128, 0] : L8) ++ beN 8 s.info else []) ++ [2, 6, 0, 0] ++ keyL s ++ [0] := by
          unfold descB; rw [hh, if_pos rfl]; simp only [List.append_assoc]
        generalize (H ++ if s.hi = true then ([0, 10, 128, 0] : L8) ++ beN 8 s.info else []) = os at *
        have ks : ∀ {v v' : World} {p : Sl} {os : L8} {xs : List (Sl × L8)}, Bag w2 v p os xs → Blk v sb (snv s).toArray t_api_Sense → Keep (fun k => some k = p.blk) v v' → Blk v' sb (snv s).toArray t_api_Sense := fun hB hb k => hB.keep hb (by decide) k
        have gs : ∀ {v v' : World}, Blk v sb (snv s).toArray t_api_Sense → Grow v v' → Blk v' sb (snv s).toArray t_api_Sense := fun hb g => g.heap hb (fun q => q)
        -- the four bytes, the three, the one
        have a4 : ∀ {v : World} {p : Sl} {ps : L8} {xs : List (Sl × L8)} {K : Sl → World → Prop}, Bag w2 v p ps xs → Blk v sb (snv s).toArray t_api_Sense → (∀ x v', Bag w2 v' p ps ((x, [2, 6, 0, 0]) :: xs) → Blk v' sb (snv s).toArray t_api_Sense → K x v') → RunK Tryz.prog .sl (Instr.buildSlice t_sl_uint8 4 #[(0, .int .u8 2), (1, .int .u8 6), (2, .int .u8 0), (3, .int .u8 0)]) v K :=
          fun hB hb hK => hB.lay (by kernel_rfl) rfl (by show 4 ≤ _; decide) fun x v' g hB' => hK x v' hB' (gs hb g)
        have a1 : ∀ {v : World} {p : Sl} {ps : L8} {xs : List (Sl × L8)} {K : Sl → World → Prop}, Bag w2 v p ps xs → Blk v sb (snv s).toArray t_api_Sense → (∀ x v', Bag w2 v' p ps ((x, [0]) :: xs) → Blk v' sb (snv s).toArray t_api_Sense → K x v') → RunK Tryz.prog .sl (Instr.buildSlice t_sl_uint8 1 #[(0, .int .u8 0)]) v K :=
          fun hB hb hK => hB.lay (by kernel_rfl) rfl (by show 1 ≤ _; decide) fun x v' g hB' => hK x v' hB' (gs hb g)
        have ak : ∀ {v : World} {p : Sl} {ps : L8} {xs : List (Sl × L8)} {K : Sl → World → Prop}, Bag w2 v p ps xs → Blk v sb (snv s).toArray t_api_Sense → (∀ x v', Bag w2 v' p ps ((x, keyL s) :: xs) → Blk v' sb (snv s).toArray t_api_Sense → K x v') → Csense_key (snv s).toArray v K :=
          fun hB hb hK => key_spec6 kf kb fun x v' g ho _ => hK x v' (hB.put g ho (by rw [keyL_len]; decide)) (gs hb g)
        have ap : ∀ {v : World} {p x : Sl} {ps l : L8} {xs : List (Sl × L8)} {ty : TypeId} {K : Sl → World → Prop}, Bag w2 v p ps xs → Blk v sb (snv s).toArray t_api_Sense → (x, l) ∈ xs → ps.length + l.length ≤ 100 → (∀ p' v', Bag w2 v' p' (ps ++ l) xs → Blk v' sb (snv s).toArray t_api_Sense → K p' v') → RunK Tryz.prog .sl (Builtin.append_ #[t_sl_uint8, t_sl_uint8] ty #[.slice p.A p.n p.c, .slice x.A x.n x.c]) v K :=
          fun hB hb hm hl hK => hB.app hm (by omega) fun p' v' k hB' => hK p' v' hB' (ks hB hb k)
        have l4 : ∀ {l : L8}, l.length ≤ 20 → (l ++ [2, 6, 0, 0]).length ≤ 24 := fun q => by rw [List.length_append]; show _ + 4 ≤ 24; omega
        have l7 : ∀ {l : L8}, l.length ≤ 20 → (l ++ [2, 6, 0, 0] ++ keyL s).length ≤ 27 := fun q => by rw [List.length_append, keyL_len]; have := l4 q; omega
        have fin : ∀ {v : World} {p : Sl} {xs : List (Sl × L8)}, Bag w2 v p (os ++ [2, 6, 0, 0] ++ keyL s ++ [0]) xs → Blk v sb (snv s).toArray t_api_Sense → _ := fun {v p xs} hB hb => J p v ⟨by rw [hF]; exact hB.row, hb⟩
        have z4 : ([2, 6, 0, 0] : L8).length = 4 := rfl
        have z1 : ([0] : L8).length = 1 := rfl
        have z3 := keyL_len s
        refine ⟨fun o => Blk o sb (snv s).toArray t_api_Sense, hbo1, _, fun u q => sS q, ?_, ?_⟩
        · refine a4 hB1 hbo1 fun x1 v1 B1 b1 => ⟨b1, ?_, ?_⟩
          · refine ap B1 b1 (.head _) (by omega) fun p2 v2 B2 b2 => ⟨b2, ?_, ?_⟩
            · refine ak B2 b2 fun x3 v3 B3 b3 => ⟨?_, ?_⟩
              · refine ap B3 b3 (.head _) (by have := l4 hl0; omega) fun p4 v4 B4 b4 => a1 B4 b4 fun x5 v5 B5 b5 => ⟨b5, ap B5 b5 (.head _) (by have := l7 hl0; omega) fun p6 v6 B6 b6 => fin B6 b6⟩
              · refine a1 B3 b3 fun x4 v4 B4 b4 => ⟨b4, ap B4 b4 (.tail _ (.head _)) (by have := l4 hl0; omega) fun p5 v5 B5 b5 => ap B5 b5 (.head _) (by have := l7 hl0; omega) fun p6 v6 B6 b6 => fin B6 b6⟩
            · refine a1 B2 b2 fun x3 v3 B3 b3 => ⟨b3, ak B3 b3 fun x4 v4 B4 b4 => ap B4 b4 (.head _) (by have := l4 hl0; omega) fun p5 v5 B5 b5 => ap B5 b5 (.tail _ (.head _)) (by have := l7 hl0; omega) fun p6 v6 B6 b6 => fin B6 b6⟩
          · refine a1 B1 b1 fun x2 v2 B2 b2 => ⟨b2, ap B2 b2 (.tail _ (.head _)) (by omega) fun p3 v3 B3 b3 => ⟨b3, ak B3 b3 fun x4 v4 B4 b4 => ap B4 b4 (.head _) (by have := l4 hl0; omega) fun p5 v5 B5 b5 => ap B5 b5 (.tail _ (.head _)) (by have := l7 hl0; omega) fun p6 v6 B6 b6 => fin B6 b6⟩⟩
        · refine a1 hB1 hbo1 fun x1 v1 B1 b1 => ⟨b1, a4 B1 b1 fun x2 v2 B2 b2 => ⟨b2, ap B2 b2 (.head _) (by omega) fun p3 v3 B3 b3 => ⟨b3, ak B3 b3 fun x4 v4 B4 b4 => ap B4 b4 (.head _) (by have := l4 hl0; omega) fun p5 v5 B5 b5 => ap B5 b5 (.tail _ (.tail _ (.head _))) (by have := l7 hl0; omega) fun p6 v6 B6 b6 => fin B6 b6⟩⟩⟩
  · cases hh : s.hi with
    | false => exact br_f rfl (J _ _ ⟨by rw [hh]; show Bag w2 w3 p3 (H ++ []) []; rw [List.append_nil]; exact Bag.start hr3, hb3⟩)
    | true =>
      refine br_t rfl ?_
      refine (Bag.start hr3).lay (l := [0, 10, 128, 0, 0, 0, 0, 0, 0, 0, 0, 0]) (by kernel_rfl) rfl (by show 12 ≤ _; decide) fun x4 w4 g4 B4 => ?_
      have hb4 : Blk w4 sb (snv s).toArray t_api_Sense := g4.heap hb3 (fun q => q)
      have p8 : (256 : Nat) ^ 8 = 18446744073709551616 := rfl
      have hx4 := (B4.lit _ (.head _)).1
      have hxn : x4.n = 12 := by have := hx4.len; rw [bv_length] at this; simp at this; omega
      refine ⟨(s.info : Int), sn_cell hb4 rfl, put_spec (at_ := 4) (n := 8) (v := s.info) hx4 (by show x4.n ≤ _; omega) (by decide) (by decide) (by show 12 ≤ 12; decide) (by rw [p8]; exact hb.info) fun x5 w5 ho5 g5 => ?_⟩
      have hl : lay [0, 10, 128, 0, 0, 0, 0, 0, 0, 0, 0, 0] 4 8 s.info = [0, 10, 128, 0] ++ beN 8 s.info := rfl
      rw [hl] at ho5
      have B5 := B4.put g5 ho5 (by rw [List.length_append, beN_len]; decide)
      refine B5.app (.head _) (by rw [List.length_append, beN_len]; have e : ([0, 10, 128, 0] : L8).length = 4 := rfl; omega) fun p6 w6 k6 B6 => J _ _ ⟨?_, B5.keep (g5.heap hb4 (fun q => q)) (by decide) k6⟩
      rw [hh]
      exact Bag.start B6.row
end
end Go.Proofs.YtpmebahhjgkflaaGreatDoor

/- Layer 12: the pages, and what a MODE SENSE brings. -/
namespace Go.Proofs.YtpmebahhjgkflaaGreatDoor
open Go CF
set_option maxRecDepth 100000
def cachL (v : Vals) : L8 := [8, 18, if v.wce then 4 else 0] ++ List.replicate 17 0
def ctrlL (v : Vals) : L8 := [10, 10, if v.ds then 4 else 0, 0, if v.swp then 8 else 0] ++ List.replicate 7 0
def whichV (now saved : Vals) (k : Nat) : Vals := if k = 1 then ⟨true, true, true⟩ else if k = 2 then v0 else if k = 3 then saved else now
def mbodyX (now saved : Vals) (c : Cm) : L8 := (if c.page = 8 ∨ c.page = 63 then cachL (whichV now saved c.control) else []) ++ (if c.page = 10 ∨ c.page = 63 then ctrlL (whichV now saved c.control) else [])
def mheadX (now : Vals) (c : Cm) (n : Nat) : L8 := if c.long then [0, UInt8.ofNat (6 + n), 0, if now.swp then 144 else 16, 0, 0, 0, 0] else [UInt8.ofNat (3 + n), 0, if now.swp then 144 else 16, 0]
/-- what a MODE SENSE brings -/
def msenseX (now saved : Vals) (c : Cm) : Option L8 := if mbodyX now saved c = [] then none else some (mheadX now c (mbodyX now saved c).length ++ mbodyX now saved c)
def mbadS (field : Nat) (bit : Int) (cmd : Bool) : Sn := ⟨5, if cmd then 0x2400 else 0x2600, 0, false, (field : Int), bit, true, cmd⟩
section
variable {w u : World}
theorem vLoad {b o : Nat} {v : Vals} (h : Cells w ⟨b, o, none⟩ (vlv v)) : (loadVar t_mode_Values ⟨b, o, none⟩).run Tryz.prog w = .ok (.agg (vlv v).toArray) w := loadVar_rule (cs := vlv v) g_mode_Values i_mode_Values rfl h
theorem v_cell {b o : Nat} {v : Vals} {x : Value} (h : Blk w b (vlv v).toArray t_mode_Values) (e : (vlv v)[o]? = some x) : w.cell? ((⟨b, 0, none⟩ : Addr).add o) = some x := by
  rw [add0, h.cell, Nat.zero_add, List.getElem?_toArray]; exact e
theorem cach_spec {v : Vals} {R : Sl → World → Prop} (h : ∀ xs w', Grow w w' → Own w' w.heap.size t_uint8 1 xs (bv (cachL v)) → R xs w') : Cmode_caching (vlv v).toArray w R := by
  refine Fmode_caching.calls _ _ _ (new_rule fun vb w1 hvb hb1 hg1 hs1 => ?_)
  have hb1 : Blk w1 vb (vlv v).toArray t_mode_Values := hb1
  refine make_rule (n := 20) u_sl_uint8 i_uint8 rfl (by decide) (by decide) (base := w1.heap.size) (Nat.le_refl _) fun w2 ho2 hg2 hs2 => ?_
  refine ⟨⟨by decide, by dsimp only; decide, rfl⟩, own_put (i := 0) ho2 (by dsimp only; decide) rfl fun w3 ho3 hk3 _ => ⟨⟨by decide, by dsimp only; decide, rfl⟩, own_put (i := 1) ho3 (by dsimp only; decide) rfl fun w4 ho4 hk4 _ => ?_⟩⟩
  have gk : ∀ {x y : World}, Grow w1 x → Keep (fun k => some k = (⟨some ⟨w1.heap.size, 0, none⟩, 20, 20⟩ : Sl).blk) x y → Grow w1 y := fun g k => g.keep k fun i hi q => absurd hi (by have q : i = w1.heap.size := (by injection q); omega)
  have g4 := gk (gk hg2 hk3) hk4
  have hb4 : Blk w4 vb (vlv v).toArray t_mode_Values := g4.heap hb1 (fun q => q)
  refine ⟨v.wce, v_cell hb4 rfl, ?_⟩
  cases hv : v.wce with
  | false =>
    refine br_f rfl (h _ w4 (hg1.trans g4) ?_)
    have : cachL v = [8, 18, 0] ++ List.replicate 17 0 := by unfold cachL; rw [hv]; rfl
    rw [this]; exact ho4.mono hg1.size
  | true =>
    refine br_t rfl ⟨⟨by decide, by dsimp only; decide, rfl⟩, own_put (i := 2) ho4 (by dsimp only; decide) rfl fun w5 ho5 hk5 _ => h _ w5 (hg1.trans (gk g4 hk5)) ?_⟩
    have : cachL v = [8, 18, 4] ++ List.replicate 17 0 := by unfold cachL; rw [hv]; rfl
    rw [this]; exact ho5.mono hg1.size
theorem ctrl_spec {v : Vals} {R : Sl → World → Prop} (h : ∀ xs w', Grow w w' → Own w' w.heap.size t_uint8 1 xs (bv (ctrlL v)) → R xs w') : Cmode_control (vlv v).toArray w R := by
  refine Fmode_control.calls _ _ _ (new_rule fun vb w1 hvb hb1 hg1 hs1 => ?_)
  have hb1 : Blk w1 vb (vlv v).toArray t_mode_Values := hb1
  refine make_rule (n := 12) u_sl_uint8 i_uint8 rfl (by decide) (by decide) (base := w1.heap.size) (Nat.le_refl _) fun w2 ho2 hg2 hs2 => ?_
  refine ⟨⟨by decide, by dsimp only; decide, rfl⟩, own_put (i := 0) ho2 (by dsimp only; decide) rfl fun w3 ho3 hk3 _ => ⟨⟨by decide, by dsimp only; decide, rfl⟩, own_put (i := 1) ho3 (by dsimp only; decide) rfl fun w4 ho4 hk4 _ => ?_⟩⟩
  have gk : ∀ {x y : World}, Grow w1 x → Keep (fun k => some k = (⟨some ⟨w1.heap.size, 0, none⟩, 12, 12⟩ : Sl).blk) x y → Grow w1 y := fun g k => g.keep k fun i hi q => absurd hi (by have q : i = w1.heap.size := (by injection q); omega)
  have g4 := gk (gk hg2 hk3) hk4
  have hb4 : Blk w4 vb (vlv v).toArray t_mode_Values := g4.heap hb1 (fun q => q)
  refine ⟨v.ds, v_cell hb4 rfl, ?_⟩
  refine letX0 (fun o => Grow w1 o ∧ Own o w1.heap.size t_uint8 1 ⟨some ⟨w1.heap.size, 0, none⟩, 12, 12⟩ (bv ([10, 10, if v.ds then 4 else 0, 0, 0] ++ List.replicate 7 0))) ?_ (fun J => ?_)
  · rintro o ⟨go, oo⟩
    have bo := go.heap hb1 (fun q => q)
    refine ⟨v.swp, v_cell bo rfl, ?_⟩
    cases hv : v.swp with
    | false =>
      refine br_f rfl (h _ o (hg1.trans go) ?_)
      have : ctrlL v = [10, 10, if v.ds then 4 else 0, 0, 0] ++ List.replicate 7 0 := by unfold ctrlL; rw [hv]; rfl
      rw [this]; exact oo.mono hg1.size
    | true =>
      refine br_t rfl ⟨⟨by decide, by dsimp only; decide, rfl⟩, own_put (i := 4) oo (by dsimp only; decide) rfl fun w5 ho5 hk5 _ => h _ w5 (hg1.trans (gk go hk5)) ?_⟩
      have : ctrlL v = [10, 10, if v.ds then 4 else 0, 0, 8] ++ List.replicate 7 0 := by unfold ctrlL; rw [hv]; rfl
      rw [this]; exact ho5.mono hg1.size
  · cases hv : v.ds with
    | false => exact br_f rfl (J w4 ⟨g4, by rw [hv]; exact ho4⟩)
    | true => exact br_t rfl ⟨⟨by decide, by dsimp only; decide, rfl⟩, own_put (i := 2) ho4 (by dsimp only; decide) rfl fun w5 ho5 hk5 _ => J w5 ⟨gk g4 hk5, by rw [hv]; exact ho5⟩⟩
theorem mbad_spec {field : Nat} {bit : Int} {cmd : Bool} {R : Array Value → World → Prop} (h : ∀ w', Grow w w' → R (snv (mbadS field bit cmd)).toArray w') : Cmode_bad (field : Int) bit cmd w R := by
  refine Fmode_bad.calls _ _ _ _ _ (new_rule fun ab w1 hab hb1 hg1 hs1 => ?_)
  refine letX1 (fun (x : Int) o => o = w1 ∧ x = ((if cmd then 0x2400 else 0x2600 : Nat) : Int)) ?_ (fun J => ?_)
  · rintro x o ⟨rfl, rfl⟩
    refine storeVar_rule (cells := (snv (mbadS field bit cmd)).toArray) hb1 i_api_Sense rfl rfl (by simp [snv, Value.oneCell']) fun w2 hb2 hk2 _ => ⟨_, sLoad (blk_cells hb2), h w2 (hg1.keep hk2 fun i hi q => by omega)⟩
  · cases cmd with
    | true => exact br_t rfl (J _ _ ⟨rfl, rfl⟩)
    | false => exact br_f rfl (J _ _ ⟨rfl, rfl⟩)
theorem saved_spec {pb : Nat} {now saved : Vals} {R : Array Value → World → Prop} (h : IsP w pb now saved) (hR : ∀ w', Grow w w' → R (vlv saved).toArray w') : Cmode_Pages_Saved (some ⟨pb, 0, none⟩) w R := by
  refine Fmode_Pages_Saved.calls _ _ _ (new_rule fun ab w1 hab hb1 hg1 hs1 => br_f rfl ⟨rfl, (vlv saved).toArray, ?_, ?_⟩)
  · have h1 : IsP w1 pb now saved := hg1.heap h (fun q => q)
    rw [gA, add0]
    refine vLoad fun j v hj => ?_
    rw [add0, Blk.cell h1]
    have : ((vlv now ++ vlv saved).toArray)[0 + 3 + j]? = (vlv saved)[j]? := by
      rw [List.getElem?_toArray, List.getElem?_append_right (by simp [vlv])]
      congr 1
      simp [vlv]
    rw [this]; exact hj
  · refine storeVar_rule (cells := (vlv saved).toArray) hb1 i_mode_Values rfl rfl (by simp [vlv, Value.oneCell']) fun w2 hb2 hk2 _ => ⟨_, vLoad (blk_cells hb2), hR w2 (hg1.keep hk2 fun i hi q => by omega)⟩
end
end Go.Proofs.YtpmebahhjgkflaaGreatDoor

/- Layer 12: MODE SENSE. -/
namespace Go.Proofs.YtpmebahhjgkflaaGreatDoor
open Go CF
set_option maxRecDepth 100000
section
variable {w u : World}
theorem cachL_len (v : Vals) : (cachL v).length = 20 := rfl
theorem ctrlL_len (v : Vals) : (ctrlL v).length = 12 := rfl
theorem mbody_len (now saved : Vals) (c : Cm) : (mbodyX now saved c).length ≤ 32 := by
  unfold mbodyX
  rw [List.length_append]
  have h1 : (if c.page = 8 ∨ c.page = 63 then cachL (whichV now saved c.control) else []).length ≤ 20 := by split <;> simp [cachL_len]
  have h2 : (if c.page = 10 ∨ c.page = 63 then ctrlL (whichV now saved c.control) else []).length ≤ 12 := by split <;> simp [ctrlL_len]
  omega
theorem c_cell {b o : Nat} {c : Cm} {x : Value} (h : Blk w b (cmv c).toArray t_api_Cmd) (e : (cmv c)[o]? = some x) : w.cell? ((⟨b, 0, none⟩ : Addr).add o) = some x := by
  rw [add0, h.cell, Nat.zero_add, List.getElem?_toArray]; exact e
end
end Go.Proofs.YtpmebahhjgkflaaGreatDoor

/- Layer 12: a page of parameters. -/
namespace Go.Proofs.YtpmebahhjgkflaaGreatDoor
open Go CF
set_option maxRecDepth 100000
def vf : Vals := ⟨false, false, false⟩
def wantM (b : UInt8) : Option L8 := if b = 8 then some (cachL vf) else if b = 10 then some (ctrlL vf) else none
def canM (b : UInt8) (i : Nat) : UInt8 := if i = 2 then 4 else if i = 4 ∧ b = 10 then 8 else 0
def mbitX (r : L8) (j : Nat) : Option (Nat × Nat) := (oddB (r.getD (j + 2) 0 &&& ~~~(canM (r.getD 0 0) (j + 2))).toNat 8).map fun k => (j + 2, k)
def moddX (r : L8) (n : Nat) : Option (Nat × Nat) := (List.range (n - 2)).findSome? (mbitX r)
def mputX (v : Vals) (r : L8) : Vals := if r.getD 0 0 = 8 then { v with wce := r.getD 2 0 != 0 } else { v with ds := r.getD 2 0 != 0, swp := r.getD 4 0 != 0 }
/-- a page at a place: the values with it and how long it is, or the sense -/
def mpageX (l : L8) (at_ : Nat) (v : Vals) : Except Sn (Vals × Nat) :=
  match wantM ((l.drop at_).getD 0 0) with
  | none => .error (mbadS at_ (-1) false)
  | some W =>
    if (l.drop at_).length < 2 ∨ ((l.drop at_).length < W.length ∧ (l.drop at_).getD 1 0 = W.getD 1 0) then .error (badS 0x1a00)
    else if (l.drop at_).getD 1 0 ≠ W.getD 1 0 then .error (mbadS (at_ + 1) (-1) false)
    else match moddX (l.drop at_) W.length with
      | some (i, k) => .error (mbadS (at_ + i) (k : Int) false)
      | none => .ok (mputX v (l.drop at_), W.length)
theorem u8_eq {b : UInt8} {n : Nat} (hn : n < 256) : (((b.toNat : Nat) : Int) == (n : Int)) = decide (b = UInt8.ofNat n) := by
  rw [Bool.eq_iff_iff, beq_iff_eq, decide_eq_true_eq]
  constructor
  · intro h
    apply UInt8.toNat_inj.1
    rw [UInt8.toNat_ofNat', Nat.mod_eq_of_lt (by omega)]; omega
  · rintro rfl
    rw [UInt8.toNat_ofNat', Nat.mod_eq_of_lt (by omega)]
theorem u8_ne0 {b : UInt8} : (((b.toNat : Nat) : Int) != 0) = (b != 0) := by
  rw [Bool.eq_iff_iff, bne_iff_ne, bne_iff_ne]
  constructor
  · intro h e; subst e; exact h rfl
  · intro h e
    apply h
    apply UInt8.toNat_inj.1
    show b.toNat = 0
    omega
section
variable {w u : World}
set_option maxHeartbeats 4000000 in
theorem mpage_spec {p : Sl} {l : L8} {at_ : Nat} {V : Vals} {R : Array Value → Int → Array Value → Bool → World → Prop} (hp : Rd w 1 p (bv l)) (hpn : p.n ≤ 1000000) (hat : at_ < l.length)
    (hR : match mpageX l at_ V with
      | .error s => ∀ w', Grow w w' → R (vlv V).toArray 0 (snv s).toArray false w'
      | .ok (v', n) => ∀ w', Grow w w' → R (vlv v').toArray (n : Int) (snv sn0).toArray true w') : Cmode_page p (at_ : Int) (vlv V).toArray w R := by
  refine Fmode_page.calls _ _ _ _ _ (new_rule fun vb w0 hvb hb0 hg0 hs0 => new_rule fun ab w1 hab hb1 hg1 hs1 => new_rule fun sb w2 hsb hb2 hg2 hs2 => ?_)
  simp only [Int.toNat_natCast]
  have hpl := rd_n' hp
  have hgw2 := (hg0.trans hg1).trans hg2
  have hv2 : Blk w2 vb (vlv V).toArray t_mode_Values := (hg1.trans hg2).heap hb0 (fun q => q)
  have ha2 : Blk w2 ab _ t_mode_Values := hg2.heap hb1 (fun q => q)
  have hs2' : Blk w2 sb _ t_api_Sense := hb2
  have hc2 : Rd w2 1 ⟨cutA p.A p.c at_ 1, p.n - at_, p.c - at_⟩ (bv (l.drop at_)) := by
    have := (hp.grow hgw2).cutB (l := at_) (k := p.n) (by omega) (Nat.le_refl _)
    rwa [List.take_of_length_le (by rw [List.length_drop]; omega)] at this
  have rl : (l.drop at_).length = p.n - at_ := by rw [List.length_drop]; omega
  unfold mpageX at hR
  generalize hrest : l.drop at_ = r at *
  have cell : ∀ {v : World} {i : Nat}, Grow w2 v → i < r.length → (cutA p.A p.c at_ 1).isSome = true ∧ v.cell? ((gA (cutA p.A p.c at_ 1)).add (i * 1)) = some (.int .u8 ((r.getD i 0).toNat : Int)) := fun {v i} g hi => rd_at (hc2.grow g) hi
  have ret : ∀ {o : World} {V' : Vals} {s : Sn} {n : Int} {b : Bool} {A B : Array Value}, Grow w o → Blk o ab A t_mode_Values → A.size = 3 → Blk o sb B t_api_Sense → B.size = 8 → (∀ o', Grow w o' → R (vlv V').toArray n (snv s).toArray b o') →
      RunU Tryz.prog (storeVar t_mode_Values ⟨ab, 0, none⟩ (.agg (vlv V').toArray)) o fun o1 => RunU Tryz.prog (storeVar t_api_Sense ⟨sb, 0, none⟩ (.agg (snv s).toArray)) o1 fun o2 => ∃ res : Array Value, (loadVar t_mode_Values ⟨ab, 0, none⟩).run Tryz.prog o2 = .ok (.agg res) o2 ∧ ∃ res1 : Array Value, (loadVar t_api_Sense ⟨sb, 0, none⟩).run Tryz.prog o2 = .ok (.agg res1) o2 ∧ R res n res1 b o2 :=
    fun {o V' s n b A B} g hA hA3 hB hB8 hK => storeVar_rule (cells := (vlv V').toArray) hA i_mode_Values rfl hA3 (by simp [vlv, Value.oneCell']) fun o1 h1 k1 _ => storeVar_rule (cells := (snv s).toArray) (k1.heap hB (by omega)) i_api_Sense rfl hB8 (by simp [snv, Value.oneCell']) fun o2 h2 k2 _ =>
      ⟨_, vLoad (blk_cells (k2.heap h1 (by omega))), _, sLoad (blk_cells h2), hK o2 ((g.keep k1 fun i hi q => by have := hg0.size; omega).keep k2 fun i hi q => by have := hg0.size; have := hg1.size; omega)⟩
  have bad : ∀ {o : World} {field : Nat} {bit : Int}, Grow w2 o → (∀ o', Grow w o' → R (vlv V).toArray 0 (snv (mbadS field bit false)).toArray false o') → ∀ o1, o1 = o.drew → ∃ S : World → Prop, S o1 ∧ ∃ g1 : Array Value, (∀ u4, S u4 → (loadVar t_mode_Values ⟨vb, 0, none⟩).run Tryz.prog u4 = .ok (.agg g1) u4) ∧ Cmode_bad (field : Int) bit false o1 fun g2 w09 => S w09 ∧ RunU Tryz.prog (storeVar t_mode_Values ⟨ab, 0, none⟩ (.agg g1)) w09 fun w010 => RunU Tryz.prog (storeVar t_api_Sense ⟨sb, 0, none⟩ (.agg g2)) w010 fun w011 => ∃ res2 : Array Value, (loadVar t_mode_Values ⟨ab, 0, none⟩).run Tryz.prog w011 = .ok (.agg res2) w011 ∧ ∃ res3 : Array Value, (loadVar t_api_Sense ⟨sb, 0, none⟩).run Tryz.prog w011 = .ok (.agg res3) w011 ∧ R res2 0 res3 false w011 := by
    rintro o field bit g hK o1 rfl
    have g1 := g.trans (keep_drew o)
    refine ⟨fun o => Grow w2 o, g1, (vlv V).toArray, fun u q => vLoad (blk_cells (q.heap hv2 (fun q => q))), mbad_spec fun o2 g2 => ?_⟩
    have g3 := g1.trans g2
    exact ⟨g3, ret (hgw2.trans g3) (g3.heap ha2 (fun q => q)) rfl (g3.heap hs2' (fun q => q)) rfl hK⟩
  have r0 : 0 < r.length := by omega
  refine ⟨⟨by omega, by omega, by have := hp.cap; omega, hp.cap⟩, ⟨by decide, by omega, (cell (Keep.refl _ _) r0).1⟩, _, (cell (Keep.refl _ _) r0).2, ?_⟩
  have e8 : ((((r.getD 0 0).toNat : Nat) : Int) == 8) = decide (r.getD 0 0 = 8) := u8_eq (n := 8) (by decide)
  have e10 : ((((r.getD 0 0).toNat : Nat) : Int) == 10) = decide (r.getD 0 0 = 10) := u8_eq (n := 10) (by decide)
  rw [e8, e10]
  refine letX1 (fun (x : Sl) o => ∃ W, wantM (r.getD 0 0) = some W ∧ Grow w2 o ∧ Own o w2.heap.size t_uint8 1 x (bv W)) ?_ (fun J => ?_)
  case refine_2 =>
    by_cases q8 : r.getD 0 0 = 8
    · exact br_t (decide_eq_true q8) (cach_spec (v := vf) fun x o g ho => J x o ⟨_, by unfold wantM; rw [if_pos q8], g, ho⟩)
    refine br_f (decide_eq_false q8) ?_
    by_cases q10 : r.getD 0 0 = 10
    · exact br_t (decide_eq_true q10) (ctrl_spec (v := vf) fun x o g ho => J x o ⟨_, by unfold wantM; rw [if_neg q8, if_pos q10], g, ho⟩)
    refine br_f (decide_eq_false q10) (bad (Keep.refl _ _) ?_)
    have : wantM (r.getD 0 0) = none := by unfold wantM; rw [if_neg q8, if_neg q10]
    rw [this] at hR
    exact hR
  rintro x o ⟨W, hW, go, hx⟩
  rw [hW] at hR
  dsimp only at hR
  have hWl : (r.getD 0 0 = 8 ∧ W = cachL vf) ∨ (r.getD 0 0 = 10 ∧ W = ctrlL vf) := by
    unfold wantM at hW
    by_cases q8 : r.getD 0 0 = 8
    · rw [if_pos q8] at hW; injection hW with hW; exact .inl ⟨q8, hW.symm⟩
    · rw [if_neg q8] at hW
      by_cases q10 : r.getD 0 0 = 10
      · rw [if_pos q10] at hW; injection hW with hW; exact .inr ⟨q10, hW.symm⟩
      · rw [if_neg q10] at hW; cases hW
  have hWn : 12 ≤ W.length ∧ W.length ≤ 20 := by
    rcases hWl with ⟨_, rfl⟩ | ⟨_, rfl⟩
    · rw [cachL_len]; omega
    · rw [ctrlL_len]; omega
  have xn := own_n' hx
  have hxr := hx.rd (by omega)
  have cx1 := rd_at hxr (i := 1) (by omega)
  rintro o1 rfl
  have g1 := go.trans (keep_drew o)
  have cx : ∀ {v : World}, Grow o.drew v → v.cell? ((gA x.A).add (1 * 1)) = some (.int .u8 ((W.getD 1 0).toNat : Int)) := fun g => (rd_at ((hxr.grow (keep_drew o)).grow g) (i := 1) (by omega)).2
  generalize o.drew = o1 at *
  have eqb : ∀ {a b : UInt8}, ((((a.toNat : Nat) : Int) == ((b.toNat : Nat) : Int))) = decide (a = b) := fun {a b} => by
    rw [Bool.eq_iff_iff, beq_iff_eq, decide_eq_true_eq]
    exact ⟨fun h => UInt8.toNat_inj.1 (by omega), fun h => by rw [h]⟩
  refine ⟨fun v => Grow o1 v, Keep.refl _ _, ?_⟩
  by_cases h2 : r.length < 2
  · rw [if_pos (.inl h2)] at hR
    have hf : (decide (((p.n - at_ : Nat) : Int) < (x.n : Int)) && !decide (((p.n - at_ : Nat) : Int) < 2)) = true → False := fun q => by
      rw [Bool.and_eq_true, Bool.not_eq_true', decide_eq_false_iff_not] at q
      omega
    refine ⟨fun q => (hf q).elim, 0, fun q => (hf q).elim, fun q => (hf q).elim, 0, fun q => (hf q).elim, br_t (by rw [Bool.or_eq_true, decide_eq_true_eq]; left; omega) ⟨_, vLoad (blk_cells (g1.heap hv2 (fun q => q))), ?_⟩⟩
    exact ret (s := badS 0x1a00) (hgw2.trans g1) (g1.heap ha2 (fun q => q)) rfl (g1.heap hs2' (fun q => q)) rfl hR
  refine ⟨fun _ => ⟨by decide, by omega, (cell g1 (i := 1) (by omega)).1⟩, _, fun _ v q => (cell (g1.trans q) (i := 1) (by omega)).2, fun _ => ⟨by decide, by omega, cx1.1⟩, _, fun _ v q => cx q, ?_⟩
  rw [eqb]
  by_cases hshort : r.length < W.length ∧ r.getD 1 0 = W.getD 1 0
  · rw [if_pos (.inr hshort)] at hR
    refine br_t (by rw [Bool.or_eq_true, Bool.and_eq_true, decide_eq_true_eq, decide_eq_true_eq, decide_eq_true_eq]; right; exact ⟨by omega, hshort.2⟩) ⟨_, vLoad (blk_cells (g1.heap hv2 (fun q => q))), ?_⟩
    exact ret (s := badS 0x1a00) (hgw2.trans g1) (g1.heap ha2 (fun q => q)) rfl (g1.heap hs2' (fun q => q)) rfl hR
  rw [if_neg (fun q => q.elim h2 hshort)] at hR
  refine br_f ?_ ?_
  · rw [Bool.or_eq_false_iff, Bool.and_eq_false_iff, decide_eq_false_iff_not, decide_eq_false_iff_not, decide_eq_false_iff_not]
    refine ⟨by omega, ?_⟩
    by_cases q : r.getD 1 0 = W.getD 1 0
    · left; intro q2; exact hshort ⟨by omega, q⟩
    · right; exact q
  rintro o2 rfl
  have g2 : Grow o1 o1.drew := keep_drew o1
  have gw2 := g1.trans g2
  generalize o1.drew = o2 at *
  refine ⟨fun v => Grow o2 v, Keep.refl _ _, ⟨by decide, by omega, (cell g1 (i := 1) (by omega)).1⟩, _, fun v q => (cell (gw2.trans q) (i := 1) (by omega)).2, ⟨by decide, by omega, cx1.1⟩, _, fun v q => cx (g2.trans q), ?_⟩
  by_cases hne : r.getD 1 0 = W.getD 1 0
  case neg =>
    rw [if_pos hne] at hR
    refine br_t (by rw [bne, eqb, Bool.not_eq_true', decide_eq_false_iff_not]; exact hne) ?_
    rw [w64 (by omega) (by omega), show ((at_ : Int) + 1) = ((at_ + 1 : Nat) : Int) by omega]
    exact bad gw2 hR
  rw [if_neg (fun q => q hne)] at hR
  have hlen : W.length ≤ r.length := by
    rcases Nat.lt_or_ge r.length W.length with q | q
    · exact absurd ⟨q, hne⟩ hshort
    · exact q
  refine br_f (by rw [bne, eqb, Bool.not_eq_false', decide_eq_true_eq]; exact hne) ?_
  refine ⟨fun i v => ∃ j : Nat, i = ((j + 2 : Nat) : Int) ∧ j + 2 ≤ W.length ∧ Grow o2 v ∧ ∀ k, k < j → mbitX r k = none, fun i _ => W.length - i.toNat, ⟨0, rfl, by omega, Keep.refl _ _, fun _ q => absurd q (Nat.not_lt_zero _)⟩, ?_⟩
  rintro i v ⟨j, rfl, hj, gv, hnon⟩
  have g2v := gw2.trans gv
  by_cases hjl : j + 2 < W.length
  · refine br_t (by rw [decide_eq_true_eq]; omega) ?_
    refine letX0 (fun v' => Grow o2 v' ∧ mbitX r j = none) (fun v' hv => ?_) (fun J => ?_)
    · rw [w64 (by omega) (by omega)]
      exact ⟨⟨j + 1, by omega, by omega, hv.1, fun k hk => by
        by_cases e : k = j
        · rw [e]; exact hv.2
        · exact hnon k (by omega)⟩, by dsimp only; omega⟩
    · refine letX1 (fun (can : Int) v' => v' = v ∧ can = (((canM (r.getD 0 0) (j + 2)).toNat : Nat) : Int)) ?_ (fun J2 => ?_)
      · rintro can v' ⟨rfl, rfl⟩
        have hbit : mbitX r j = (oddB (r.getD (j + 2) 0 &&& ~~~(canM (r.getD 0 0) (j + 2))).toNat 8).map fun k => (j + 2, k) := rfl
        have hB := (r.getD (j + 2) 0 &&& ~~~(canM (r.getD 0 0) (j + 2))).toNat_lt
        have hclr := clrN8 (r.getD (j + 2) 0) (canM (r.getD 0 0) (j + 2))
        generalize (r.getD (j + 2) 0 &&& ~~~(canM (r.getD 0 0) (j + 2))).toNat = B at *
        refine ⟨fun bit u => ∃ t : Nat, bit = (t : Int) - 1 ∧ t ≤ 8 ∧ u = v' ∧ oddB B 8 = oddB B t, fun bit _ => (bit + 1).toNat, ⟨8, by decide, by decide, rfl, rfl⟩, ?_⟩
        rintro bit u ⟨t, rfl, ht, rfl, ho⟩
        cases t with
        | zero => exact br_f (by decide) (J u ⟨gv, by rw [hbit, ho]; rfl⟩)
        | succ t =>
          have hc := cell g2v (i := j + 2) (by omega)
          refine br_t (by rw [decide_eq_true_eq]; omega) ⟨⟨by omega, by omega, hc.1⟩, _, hc.2, by omega, ?_⟩
          have e1 : (((t + 1 : Nat) : Int) - 1).toNat = t := by omega
          have e2 : ((t + 1 : Nat) : Int) - 1 = (t : Int) := by omega
          rw [hclr, e1, shr .u8 B t (by show t ≤ 8; omega), and1 (Nat.lt_of_le_of_lt (Nat.div_le_self _ _) (by omega)), e2]
          by_cases q : B / 2 ^ t % 2 = 1
          · refine br_t (by rw [beq_iff_eq]; omega) ?_
            have hob : oddB B (t + 1) = some t := by unfold oddB; rw [if_pos q]
            have hfirst : moddX r W.length = some (j + 2, t) := findSome_range (i := j) (by omega) hnon (by rw [hbit, ho, hob]; rfl)
            rw [hfirst] at hR
            rw [w64 (by omega) (by omega), show ((at_ : Int) + ((j + 2 : Nat) : Int)) = ((at_ + (j + 2) : Nat) : Int) by omega]
            exact bad g2v hR
          · refine br_f (by rw [beq_eq_false_iff_ne]; omega) ?_
            rw [w64 (by omega) (by omega)]
            refine ⟨⟨t, rfl, by omega, rfl, ho.trans ?_⟩, by dsimp only; omega⟩
            show (if B / 2 ^ t % 2 = 1 then some t else oddB B t) = _
            rw [if_neg q]
      · by_cases hj0 : j = 0
        · refine br_t (by rw [beq_iff_eq]; omega) (J2 _ _ ⟨rfl, ?_⟩)
          unfold canM; rw [if_pos (by omega)]; rfl
        · refine br_f (by rw [beq_eq_false_iff_ne]; omega) ⟨fun _ => ⟨by decide, by omega, (cell g2v r0).1⟩, _, fun _ => (cell g2v r0).2, ?_⟩
          rw [e10]
          by_cases h4 : j + 2 = 4 ∧ r.getD 0 0 = 10
          · refine br_t (by rw [Bool.and_eq_true, beq_iff_eq, decide_eq_true_eq]; exact ⟨by omega, h4.2⟩) (J2 _ _ ⟨rfl, ?_⟩)
            unfold canM; rw [if_neg (by omega), if_pos h4]; rfl
          · refine br_f ?_ (J2 _ _ ⟨rfl, ?_⟩)
            · rw [Bool.and_eq_false_iff, beq_eq_false_iff_ne, decide_eq_false_iff_not]
              by_cases q : j + 2 = 4
              · right; exact fun e => h4 ⟨q, e⟩
              · left; omega
            · unfold canM; rw [if_neg (by omega), if_neg h4]; rfl
  · have hnone : moddX r W.length = none := findSome_range_none fun k hk => hnon k (by omega)
    rw [hnone] at hR
    have hvv : Blk v vb (vlv V).toArray t_mode_Values := g2v.heap hv2 (fun q => q)
    refine br_f (by rw [decide_eq_false_iff_not]; omega) ⟨⟨by decide, by omega, (cell g2v r0).1⟩, _, (cell g2v r0).2, ?_⟩
    rw [e8]
    refine letX0 (fun v' => Keep (fun k => k = vb) w2 v' ∧ Blk v' vb (vlv (mputX V r)).toArray t_mode_Values) ?_ (fun J => ?_)
    · rintro v' ⟨kv, bv'⟩
      have ga : Blk v' ab _ t_mode_Values := kv.heap ha2 (by omega)
      have gs : Blk v' sb _ t_api_Sense := kv.heap hs2' (by have := hg1.size; omega)
      refine ⟨_, vLoad (blk_cells bv'), ?_⟩
      rw [xn]
      exact ret (s := sn0) (hgw2.keep kv fun i hi q => by omega) ga rfl gs rfl hR
    · by_cases q8 : r.getD 0 0 = 8
      · have c2 := cell g2v (i := 2) (by omega)
        refine br_t (decide_eq_true q8) ⟨⟨by decide, by omega, c2.1⟩, _, c2.2, ?_⟩
        rw [u8_ne0, add0]
        refine put_rule hvv (by simp [vlv]) rfl fun v1 h1 k1 _ => J v1 ⟨(g2v.mono fun _ _ q => q.elim).trans k1 fun _ _ q => q, ?_⟩
        unfold mputX; rw [if_pos q8]; exact h1
      · refine br_f (decide_eq_false q8) ?_
        rintro v0 rfl
        have g3 := g2v.trans (keep_drew v)
        have h3 : Blk v.drew vb (vlv V).toArray t_mode_Values := (keep_drew v).heap hvv (fun q => q)
        generalize v.drew = v0 at *
        have lr : ∀ {v' : World}, Keep (fun k => k = vb) v0 v' → Rd v' 1 ⟨cutA p.A p.c at_ 1, p.n - at_, p.c - at_⟩ (bv r) := fun k => (hc2.grow g3).keep k fun a ha _ e => by
          have hcc := (hc2.at_ (by intro e; have := congrArg List.length e; rw [bv_length, List.length_nil] at this; omega))
          obtain ⟨a', ha', hca⟩ := hp.at_ (by intro e; have := congrArg List.length e; rw [bv_length, List.length_nil] at this; omega)
          have ha : cutA p.A p.c at_ 1 = some a := ha
          obtain ⟨a2, ha2', eb⟩ : ∃ a2, p.A = some a2 ∧ a.block = a2.block := by
            unfold cutA at ha
            split at ha
            · exact ⟨a, ha, rfl⟩
            · rw [ha'] at ha
              injection ha with ha
              exact ⟨a', ha', by rw [← ha, add_block]⟩
          rw [ha'] at ha2'
          injection ha2' with ha2'
          have := cell_lt (hca 0 _ (List.getElem?_eq_getElem (by rw [bv_length]; omega)))
          rw [add_block] at this
          have : a.block < w.heap.size := by rw [eb, ← ha2']; exact this
          omega
        have c2 := cell g3 (i := 2) (by omega)
        have c4 := cell g3 (i := 4) (by omega)
        refine ⟨fun v' => Keep (fun k => k = vb) v0 v', Keep.refl _ _, ⟨by decide, by omega, c2.1⟩, _, fun v' q => (rd_at (lr q) (i := 2) (by omega)).2, ⟨by decide, by omega, c4.1⟩, _, fun v' q => (rd_at (lr q) (i := 4) (by omega)).2, ?_⟩
        rw [u8_ne0, u8_ne0, add0]
        refine put_rule h3 (by simp [vlv]) rfl fun v1 h1 k1 _ => ⟨k1, ?_⟩
        rw [add0]
        refine put_rule h1 (by simp [vlv]) rfl fun v2 h2' k2 _ => J v2 ⟨((g3.mono fun _ _ q => q.elim).trans k1 fun _ _ q => q).trans k2 fun _ _ q => q, ?_⟩
        unfold mputX; rw [if_neg q8]; exact h2'
end
end Go.Proofs.YtpmebahhjgkflaaGreatDoor
