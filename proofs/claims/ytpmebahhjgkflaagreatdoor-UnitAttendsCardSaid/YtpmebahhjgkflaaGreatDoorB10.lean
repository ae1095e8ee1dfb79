import Derived.Lib.ConvBytes
import Derived.Test.YtpmebahhjgkflaaGreatDoorB9
/- Layer 14: verify, and the same block many times, as functions. -/
namespace Go.Proofs.YtpmebahhjgkflaaGreatDoor
open Go CF
set_option maxRecDepth 100000
section
variable {w u : World} {dv ps pw : Nat} {file : ByteArray} {kind n : Nat} {cache : Bool} {D D' : Nat → Prop} {st st' : Wst} {bs bs' : List Bk} {m m' : Nat} {F : Int → Bool}
theorem Dvq.put' (h : Dvq w dv ps pw file kind n cache D st bs m F) {ab : Nat} {cs : Array Value} (hb : Blk w ab cs t_api_Result) (hn : ¬ D ab) (hk : Keep (fun k => k = ab) w u) : Dvq u dv ps pw file kind n cache D st bs m F :=
  h.put hb tne_result (by decide) (by decide) hn hk
theorem below_or {D D2 : Nat → Prop} {w y : World} (hs : w.heap.size ≤ y.heap.size) (h : ∀ k, D2 k → D k ∨ y.heap.size ≤ k) : ∀ k, D2 k → D k ∨ w.heap.size ≤ k := fun k q => by
  rcases h k q with r | r
  · exact .inl r
  · exact .inr (by omega)
end
end Go.Proofs.YtpmebahhjgkflaaGreatDoor

/- Layer 14: ranges that are unmapped, as a function. -/
namespace Go.Proofs.YtpmebahhjgkflaaGreatDoor
open Go CF
set_option maxRecDepth 100000
section
variable {w u : World} {dv ps pw : Nat} {file : ByteArray} {kind n : Nat} {cache : Bool} {D D' : Nat → Prop} {st st' : Wst} {bs bs' : List Bk} {m m' : Nat} {F : Int → Bool}
end
end Go.Proofs.YtpmebahhjgkflaaGreatDoor

/- Layer 14: compare and write. -/
namespace Go.Proofs.YtpmebahhjgkflaaGreatDoor
open Go CF
set_option maxRecDepth 100000

section
variable {w u : World} {dv ps pw : Nat} {file : ByteArray} {kind n : Nat} {cache : Bool} {D D' : Nat → Prop} {st st' : Wst} {bs bs' : List Bk} {m m' : Nat}
end
end Go.Proofs.YtpmebahhjgkflaaGreatDoor

/- Layer 14: compare and write, and the capacity, as functions. -/
namespace Go.Proofs.YtpmebahhjgkflaaGreatDoor
open Go CF
set_option maxRecDepth 100000
section
variable {w u : World} {dv ps pw : Nat} {file : ByteArray} {kind n : Nat} {cache : Bool} {D D' : Nat → Prop} {st st' : Wst} {bs bs' : List Bk} {m m' : Nat} {F : Int → Bool}
end
end Go.Proofs.YtpmebahhjgkflaaGreatDoor

/- Layer 14: any command on blocks, as a function. -/
namespace Go.Proofs.YtpmebahhjgkflaaGreatDoor
open Go CF
set_option maxRecDepth 100000
section
variable {w u : World} {dv ps pw : Nat} {file : ByteArray} {kind n : Nat} {cache : Bool} {D D' : Nat → Prop} {st st' : Wst} {bs bs' : List Bk} {m m' : Nat} {F : Int → Bool}
/-- a result is handed on -/
def Hand (ab : Nat) (R : Array Value → World → Prop) (g : Array Value) (v : World) : Prop := RunU Tryz.prog (storeVar t_api_Result ⟨ab, 0, none⟩ (.agg g)) v fun w' => ∃ res : Array Value, (loadVar t_api_Result ⟨ab, 0, none⟩).run Tryz.prog w' = .ok (.agg res) w' ∧ R res w'
theorem DevOut.hand {X : RsX × Wst} {R : Array Value → World → Prop} {w3 : World} {ab : Nat} (hR : DevOut w dv ps pw file kind n cache D m F X R) (g : Grow w w3) (lD : ∀ k, D k → k < w.heap.size) (hab : w.heap.size ≤ ab) (hb : Blk w3 ab z10 t_api_Result) : DevOut w3 dv ps pw file kind n cache D m F X (Hand ab R) := by
  intro u D' bs' d k hv hD ho
  have nab : ¬ D ab := fun q => by have := lD _ q; omega
  have hbu := k.heap hb nab
  have lab := lt_of_heap hb
  have nab2 : ¬ D' ab := fun q => by
    rcases hD _ q with r | r
    · exact nab r
    · omega
  refine ret_rule hbu rfl fun v' hk => ?_
  exact hR v' D' bs' d (keepD_new ((g.mono fun _ _ q => q.elim).trans k fun _ _ q => q) hab hk) (hv.put' hbu nab2 hk) (below_or g.size hD) ((ho.mono g.size).keep hk fun b hbb q => own_ne ho hbu (by decide) (by rw [hbb, q]))
/-- a part of a device's command, as what it comes to -/
def PartP (b : Bool) (C : Option Addr → Array Value → Sl → World → (Array Value → World → Prop) → Prop) (X : (Int → Bool) → Nat → Nat → Bool → ByteArray → Wst → List Bk → Cm → L8 → RsX × Wst) : Prop :=
  ∀ {w : World} {dv ps pw : Nat} {file : ByteArray} {kind n : Nat} {cache : Bool} {D : Nat → Prop} {st : Wst} {bs : List Bk} {m : Nat} {F : Int → Bool} {c : Cm} {p : Sl} {l : L8} {K : Array Value → World → Prop}, Dvq w dv ps pw file kind n cache D st bs m F → m ≤ 400000000 → Rd w 1 p (bv l) → p.n ≤ 140737488351232 → (∀ v, Keep D w v → Rd v 1 p (bv l)) → (b = true → c.lba + c.blocks ≤ n) →
    DevOut w dv ps pw file kind n cache D m F (X F kind n cache file st bs c l) K → C (some ⟨dv, 0, none⟩) (cmv c).toArray p w K
/-- what a command of a kind needs of a device's parts -/
structure DevN (k : Nat) : Prop where
  read : k = 7 → ∀ {w : World} {dv ps pw : Nat} {file : ByteArray} {kind n : Nat} {cache : Bool} {D : Nat → Prop} {st : Wst} {bs : List Bk} {m : Nat} {F : Int → Bool} {c : Cm} {R : Sl → Array Value → Bool → World → Prop}, Dvq w dv ps pw file kind n cache D st bs m F → m ≤ 600000000 → c.lba + c.blocks ≤ n →
    (match readX F kind c.prot c.lba c.blocks st.ops ((bs.drop c.lba).take c.blocks) with
      | (.ok L, k) => L = (bs.drop c.lba).take c.blocks → k = c.blocks → ∀ xs u, Keep D w u → RdW w u pw D st k → Own u w.heap.size t_api_Block 19 xs (L.flatMap bc) → R xs (rsv 0 sn0 nilS).toArray true u
      | (.error s, k) => k ≤ c.blocks → ∀ u, Keep D w u → RdW w u pw D st k → R nilS (rsv 2 s nilS).toArray false u) → Csbc_Dev_read (some ⟨dv, 0, none⟩) (cmv c).toArray w R
  write : k = 8 ∨ k = 9 → ∀ {w : World} {dv ps pw : Nat} {file : ByteArray} {kind n : Nat} {cache : Bool} {D : Nat → Prop} {st : Wst} {bs : List Bk} {m : Nat} {F : Int → Bool} {lba : Nat} {ls : Sl} {L : List Bk} {fua : Bool} {R : Array Value → World → Prop}, Dvq w dv ps pw file kind n cache D st bs m F → m ≤ 600000000 → lba + L.length ≤ n → (∀ v, Keep D w v → Rd v 19 ls (L.flatMap bc)) →
    (∀ u D' bs', Keep D w u → Dvq u dv ps pw file kind n cache D' (writeX F file cache st lba L fua).2 bs' (m + 4097) F → (∀ k, D' k → D k ∨ w.heap.size ≤ k) → R (rsv (writeX F file cache st lba L fua).1.st (writeX F file cache st lba L fua).1.sn nilS).toArray u) → Csbc_Dev_write (some ⟨dv, 0, none⟩) (lba : Int) ls fua w R
  verify : k = 10 → PartP true Csbc_Dev_verify fun F kind _ _ _ st bs c l => verifyX F kind st bs c l
  same : k = 12 → PartP true Csbc_Dev_same fun F kind n cache file st _ c l => sameX F kind n cache file st c l
  unmap : k = 13 → PartP false (fun d _ p w K => Csbc_Dev_unmap d p w K) fun F _ n cache file st _ _ l => unmapX F n cache file st l
  compare : k = 14 → PartP true Csbc_Dev_compare fun F kind _ cache file st bs c l => compareX F kind cache file st bs c l
  cap : k = 6 → PartP false (fun d c _ w K => Csbc_Dev_capacity d c w K) fun _ kind n _ _ st _ c _ => (okX (capX kind n c), st)
set_option maxHeartbeats 2000000 in
/-- a command on blocks comes to what doX says -/
theorem do_fun_on {c : Cm} {p : Sl} {l : L8} {R : Array Value → World → Prop} (hN : DevN c.kind) (h : Dvq w dv ps pw file kind n cache D st bs m F) (hm : m ≤ 400000000) (hp : Rd w 1 p (bv l)) (hb : p.n ≤ 140737488351232) (hpk : ∀ v, Keep D w v → Rd v 1 p (bv l)) (hlb : c.lba < 18446744073709551616) (hbl : c.blocks < 18446744073709551616)
    (hR : DevOut w dv ps pw file kind n cache D m F (doX F kind n cache file st c l) R) : Csbc_Dev_Do (some ⟨dv, 0, none⟩) (cmv c).toArray p w R := by
  refine Fsbc_Dev_Do.calls _ _ _ _ _ ?_
  have hsz := h.size
  have hlen := h.len
  have hfew := h.few
  unfold doX at hR
  rw [tells_bs h] at hR
  refine new_rule fun cb w0 hcb hb0 hg0 hsz0 => ?_
  have hb0 : Blk w0 cb (cmv c).toArray t_api_Cmd := hb0
  refine new_rule fun ab w1 hab hb1 hg1 hsz1 => ?_
  have hb1 : Blk w1 ab z10 t_api_Result := hb1
  have hgw1 := hg0.trans hg1
  have hc1 : Blk w1 cb (cmv c).toArray t_api_Cmd := hg1.heap hb0 (fun q => q)
  have hD1 := h.grow hgw1
  have cAt : ∀ {v : World} {i : Nat} {x : Value}, Grow w1 v → (cmv c).toArray[i]? = some x → v.cell? ((⟨cb, 0, none⟩ : Addr).add i) = some x := fun g e => by rw [add0, Blk.cell (g.heap hc1 (fun q => q)), Nat.zero_add]; exact e
  have lD := fun k (q : D k) => h.isW.lt q
  have nab : ¬ D ab := fun q => by have := lD _ q; omega
  have ncb : ¬ D cb := fun q => by have := lD _ q; omega
  have sw := hg0.size
  have hab' : w.heap.size ≤ ab := by omega
  have fin : ∀ {X : RsX} {v : World}, X.d = [] → DevOut w dv ps pw file kind n cache D m F (X, st) R → Grow w1 v → Hand ab R (rsv X.st X.sn nilS).toArray v := fun {X v} e hR g => ret_rule (g.heap hb1 (fun q => q)) rfl fun v' hk => by
    have g2 := grow_new (hgw1.trans g) hab' hk
    exact hR.plain e (g2.mono fun _ _ q => q.elim) (h.grow g2) (by omega) fun _ q => .inl q
  refine ⟨fun _ => rfl, some ⟨ps, 0, none⟩, fun _ => dev0 hD1.dev, br_f rfl ?_⟩
  rintro w2 rfl
  have hg2 : Grow w1 w1.drew := keep_drew w1
  refine ⟨fun v => Grow w1 v, hg2, rfl, (kind : Int), fun v hv => dev1 (hD1.grow hv).dev, (c.prot : Int), fun v hv => cAt hv rfl, known_spec ?_⟩
  by_cases hkn : knownB kind c.prot = false
  · rw [if_pos hkn] at hR
    exact br_t (by rw [hkn]; rfl) (fails_spec (s := unkS) fun w3 hg3 => fin (X := snX unkS) rfl hR (hg2.trans hg3))
  rw [if_neg hkn] at hR
  refine br_f (by simp only [Bool.not_eq_false] at hkn; rw [hkn]; rfl) ?_
  rintro w3 rfl
  have hg3 : Grow w1 w1.drew.drew := hg2.trans (keep_drew _)
  refine ⟨fun v => Grow w1 v, hg3, (c.lba : Int), fun v hv => cAt hv rfl, (c.blocks : Int), fun v hv => cAt hv rfl, blocks_spec (hD1.grow hg3) ⟨hg3, ?_⟩⟩
  refine within_spec hlb hbl (by omega) ⟨hg3, fun v => Grow w1 v, hg3, fun _ q => q, (c.kind : Int), fun _ v hv => cAt hv rfl, fun v => Grow w1 v, hg3, fun _ q => q, (c.kind : Int), fun _ v hv => cAt hv rfl, ?_⟩
  by_cases hin : c.kind ≠ 13 ∧ c.kind ≠ 6 ∧ n < c.lba + c.blocks
  · rw [if_pos hin] at hR
    refine br_t (by rw [Bool.and_eq_true, Bool.and_eq_true, Bool.not_eq_true', decide_eq_false_iff_not, bne_iff_ne, bne_iff_ne]; omega) ⟨(c.lba : Int), cAt hg3 rfl, at_spec (key := 5) fun w4 hg4 => fin (X := snX (atS 5 0x2100 c.lba)) rfl hR (hg3.trans hg4)⟩
  rw [if_neg hin] at hR
  refine br_f (by rw [Bool.and_eq_false_iff, Bool.and_eq_false_iff, Bool.not_eq_false', decide_eq_true_eq, bne_eq_false_iff_eq, bne_eq_false_iff_eq]; omega) ⟨(c.kind : Int), cAt hg3 rfl, ?_⟩
  generalize w1.drew.drew = w3 at *
  have hb3 : Blk w3 ab z10 t_api_Result := hg3.heap hb1 (fun q => q)
  have hc3 : Blk w3 cb (cmv c).toArray t_api_Cmd := hg3.heap hc1 (fun q => q)
  have cl : (loadVar t_api_Cmd ⟨cb, 0, none⟩).run Tryz.prog w3 = .ok (.agg (cmv c).toArray) w3 := cLoad (blk_cells hc3)
  have hgw3 := hgw1.trans hg3
  have h3 := h.grow hgw3
  have p3 := hp.grow hgw3
  have s3 := hgw3.size
  have hand : ∀ {X : RsX × Wst}, DevOut w dv ps pw file kind n cache D m F X R → DevOut w3 dv ps pw file kind n cache D m F X (Hand ab R) := fun hR => hR.hand hgw3 lD hab' hb3
  -- a fault that is read again out of its place
  have after : ∀ {y : World} {X : RsX} {x2 : Wst} {D2 : Nat → Prop} {B2 : List Bk} {m2 : Nat}, X.d = [] → DevOut w3 dv ps pw file kind n cache D m F (X, x2) (Hand ab R) → Keep D w3 y → Dvq y dv ps pw file kind n cache D2 x2 B2 m2 F → m2 ≤ m + 9000 → (∀ k, D2 k → D k ∨ w3.heap.size ≤ k) → ∀ rb z, Blk z rb (rsv X.st X.sn nilS).toArray t_api_Result → Grow y z →
      ∃ g10 : Array Value, (loadVar t_api_Result ⟨rb, 0, none⟩).run Tryz.prog z = .ok (.agg g10) z ∧ Hand ab R g10 z := fun {y X x2 D2 B2 m2} e hR hky hdy hm2 hD2 rb z hbz hyz => ⟨_, rLoad (blk_cells hbz), hR.plain e (hky.grow hyz) (hdy.grow hyz) hm2 hD2⟩
  refine letX0 (fun v => v = w3 ∧ c.kind ≠ 7 ∧ c.kind ≠ 8 ∧ c.kind ≠ 9 ∧ c.kind ≠ 10 ∧ c.kind ≠ 11 ∧ c.kind ≠ 12 ∧ c.kind ≠ 13 ∧ c.kind ≠ 14 ∧ c.kind ≠ 6) ?_ (fun J => ?_)
  · rintro v ⟨rfl, a1, a2, a3, a4, a5, a6, a7, a8, a9⟩
    rw [if_neg a1, if_neg (by omega), if_neg a4, if_neg a5, if_neg a6, if_neg a7, if_neg a8, if_neg a9] at hR
    exact fails_spec (s := invS) fun w4 hg4 => fin (X := snX invS) rfl hR (hg3.trans hg4)
  refine br_eq (fun k7 => ⟨_, cl, ?_⟩) (fun k7 => ?_)
  · have k7 : c.kind = 7 := by omega
    have hlb7 : c.lba + c.blocks ≤ n := by omega
    rw [if_pos k7] at hR
    refine hN.read k7 h3 (by omega) hlb7 ?_
    generalize readX F kind c.prot c.lba c.blocks st.ops ((bs.drop c.lba).take c.blocks) = Y at hR ⊢
    obtain ⟨Y, k⟩ := Y
    cases Y with
    | ok L' =>
      rintro hL' rfl xs w4 hk4 hr4 hown4
      dsimp only at hR
      have hd4 := h3.reads hk4 hr4
      refine new_rule fun rb w5 hrb hb5 hg5 hsz5 => lay_rule hb5 rfl fun w6 hb6 hk6 hsz6 => br_f rfl ?_
      have hg46 : Grow w4 w6 := hg5.keep hk6 fun i hi q => by omega
      have hc6 : Blk w6 cb (cmv c).toArray t_api_Cmd := hg46.heap (hk4.heap hc3 ncb) (fun q => q)
      refine ⟨(c.prot : Int), by rw [add0, hc6.cell]; rfl, ?_⟩
      have ew : ((c.prot : Int) != 0) = decide (c.prot ≠ 0) := by rw [Bool.eq_iff_iff, bne_iff_ne, decide_eq_true_eq]; omega
      rw [ew]
      have hown6 := hown4.grow hg46
      have hLl : L'.length ≤ 4096 := by rw [hL', List.length_take, List.length_drop]; omega
      refine pack_spec (hown6.rd (by have := hown6.len; rw [flat_bc_len] at this; omega)) hLl fun d w7 hown7 hg7 => good_spec fun w8 hg8 => ?_
      have s4 := hk4.size
      have s46 := hg46.size
      exact hand hR w8 D bs d (((hk4.grow hg46).grow hg7).grow hg8) ((((hd4.grow hg46).grow hg7).grow hg8).mono (by omega)) (fun _ q => .inl q) ((hown7.mono (by omega)).grow hg8)
    | error s =>
      intro hkb w4 hk4 hr4
      dsimp only at hR
      have hd4 := h3.reads hk4 hr4
      refine new_rule fun rb w5 hrb hb5 hg5 hsz5 => lay_rule hb5 rfl fun w6 hb6 hk6 hsz6 => br_t rfl ?_
      exact after (X := snX s) rfl (hand hR) hk4 hd4 (by omega) (fun _ q => .inl q) rb w6 hb6 (hg5.keep hk6 fun i hi q => by omega)
  rw [if_neg (by omega)] at hR
  refine letX1 (fun (x : Bool) v => v = w3 ∧ (x = true ↔ (c.kind = 8 ∨ c.kind = 9))) ?_ (fun J1 => br_eq (fun k8 => J1 _ _ ⟨rfl, by rw [beq_iff_eq]; omega⟩) (fun k8 => J1 _ _ ⟨rfl, by rw [beq_iff_eq]; omega⟩))
  rintro x v ⟨rfl, hx⟩
  by_cases k89 : c.kind = 8 ∨ c.kind = 9
  · rw [if_pos k89] at hR
    refine br_t (hx.2 k89) ⟨_, cl, (c.blocks : Int), by rw [add0, hc3.cell]; rfl, ?_⟩
    have hlb8 : c.lba + c.blocks ≤ n := by omega
    refine dev_come_fun (N := c.blocks) h3.dev p3 hb (by omega) (by omega) ?_
    generalize comeX kind c l c.blocks = X at hR ⊢
    cases X with
    | error s =>
      intro y hy
      dsimp only at hR
      refine new_rule fun rb w5 hrb hb5 hg5 hsz5 => lay_rule hb5 rfl fun w6 hb6 hk6 hsz6 => br_t rfl ?_
      exact after (X := snX s) rfl (hand hR) (hy.mono fun _ _ q => q.elim) (h3.grow hy) (by omega) (fun _ q => .inl q) rb w6 hb6 (hg5.keep hk6 fun i hi q => by omega)
    | ok L =>
      intro hL xs y hy hown
      dsimp only at hR
      refine new_rule fun rb w5 hrb hb5 hg5 hsz5 => lay_rule hb5 rfl fun w6 hb6 hk6 hsz6 => br_f rfl ?_
      have hyz : Grow y w6 := hg5.keep hk6 fun i hi q => by omega
      have hvz := hy.trans hyz
      have hcz : Blk w6 cb (cmv c).toArray t_api_Cmd := hvz.heap hc3 (fun q => q)
      refine ⟨(c.lba : Int), by rw [add0, hcz.cell]; rfl, c.fua, by rw [add0, hcz.cell]; rfl, (c.kind : Int), fun _ => by rw [add0, hcz.cell]; rfl, ?_⟩
      have e9 : ((c.kind : Int) == 9) = decide (c.kind = 9) := by
        rw [Bool.eq_iff_iff, beq_iff_eq, decide_eq_true_eq]; omega
      rw [e9]
      have hz := h3.grow hvz
      have svz := hvz.size
      have eD : (writeX F file cache st c.lba L (c.fua || decide (c.kind = 9))).1.d = [] := by unfold writeX wroteX; split <;> rfl
      refine hN.write k89 (L := L) hz (by omega) (by omega) (fun z' hk' => ?_) fun z2 D2 B2 hk2 hd2 hD2 => ?_
      · have ho : Own z' v.heap.size t_api_Block 19 xs (L.flatMap bc) := (hown.grow hyz).keep hk' fun b hbb q => by
          have := ((hown.grow hyz).ge b hbb).1
          have := lD _ q
          omega
        exact ho.rd (by have := ho.len; rw [flat_bc_len] at this; omega)
      · exact (hand hR).plain eD ((hvz.mono fun _ _ q => q.elim).trans hk2 fun _ _ q => q) hd2 (by omega) (below_or svz hD2)
  rw [if_neg k89] at hR
  refine br_f (by cases hxx : x with | false => rfl | true => exact absurd (hx.1 hxx) k89) ?_
  have hpk3 : ∀ z, Keep D v z → Rd z 1 p (bv l) := fun z k => hpk z ((hgw3.mono fun _ _ q => q.elim).trans k fun _ _ q => q)
  refine br_eq (fun k => ⟨_, cl, ?_⟩) (fun k10 => br_eq (fun k => ?_) (fun k11 => br_eq (fun k => ⟨_, cl, ?_⟩) (fun k12 => br_eq (fun k => ?_) (fun k13 => br_eq (fun k => ⟨_, cl, ?_⟩) (fun k14 => br_eq (fun k => ⟨_, cl, ?_⟩) (fun k6 => J v ⟨rfl, by omega, by omega, by omega, by omega, by omega, by omega, by omega, by omega, by omega⟩))))))
  · rw [if_pos (by omega)] at hR
    exact hN.verify (by omega) h3 hm p3 hb hpk3 (fun _ => by omega) (hand hR)
  · rw [if_neg (by omega), if_pos (by omega)] at hR
    refine ⟨rfl, some ⟨ps, 0, none⟩, dev0 h3.dev, ?_⟩
    refine store_sync_any h3.isS h3.nps h3.isW h.ok (by omega) (by omega) (fun hfl y D2 hk2 hw2 hD2 hS2 => br_f rfl (good_spec fun z hz => ?_)) (fun hfl y hk2 hw2 hS2 => br_t rfl (fails_spec (s := wfS) fun z hz => ?_))
    · rw [if_neg (by rw [hfl]; exact Bool.noConfusion)] at hR
      have hdy : Dvq y dv ps pw file kind n cache D2 (synced st) bs (m + 1) F := h3.step hk2 hw2 hD2 (fun c q => by cases q) h.tells h.len ⟨by show st.ops + 1 ≤ _; omega, Nat.zero_le _⟩
      exact (hand hR).plain rfl (hk2.grow hz) (hdy.grow hz) (by omega) hD2
    · rw [if_pos hfl] at hR
      have hdy : Dvq y dv ps pw file kind n cache D (more st 1) bs (m + 1) F := h3.step hk2 hw2 (fun _ q => .inl q) h.ok h.tells h.len ⟨by show st.ops + 1 ≤ _; omega, by show st.waits.length ≤ _; omega⟩
      exact (hand hR).plain rfl (hk2.grow hz) (hdy.grow hz) (by omega) fun _ q => .inl q
  · rw [if_neg (by omega), if_neg (by omega), if_pos (by omega)] at hR
    exact hN.same (by omega) h3 hm p3 hb hpk3 (fun _ => by omega) (hand hR)
  · rw [if_neg (by omega), if_neg (by omega), if_neg (by omega), if_pos (by omega)] at hR
    exact hN.unmap (by omega) (c := c) h3 hm p3 hb hpk3 (fun q => by cases q) (hand hR)
  · rw [if_neg (by omega), if_neg (by omega), if_neg (by omega), if_neg (by omega), if_pos (by omega)] at hR
    exact hN.compare (by omega) h3 hm p3 hb hpk3 (fun _ => by omega) (hand hR)
  · rw [if_neg (by omega), if_neg (by omega), if_neg (by omega), if_neg (by omega), if_neg (by omega), if_pos (by omega)] at hR
    exact hN.cap (by omega) (p := p) (l := l) h3 hm p3 hb hpk3 (fun q => by cases q) (hand hR)
end
end Go.Proofs.YtpmebahhjgkflaaGreatDoor

/- Layer 5: a slot's bytes. -/
namespace Go.Proofs.YtpmebahhjgkflaaGreatDoor
open Go CF
set_option maxRecDepth 100000

def s4 : L8 := [83, 76, 79, 84]
def headS (g : Nat) (p : L8) : L8 := s4 ++ beN 8 g ++ beN 4 p.length ++ p
def recS (g : Nat) (p : L8) : L8 := headS g p ++ beN 4 (c32 (headS g p))
theorem headS_len (g : Nat) (p : L8) : (headS g p).length = 16 + p.length := by simp [headS, s4, beN_len]; omega
theorem recS_len (g : Nat) (p : L8) : (recS g p).length = 20 + p.length := by simp [recS, headS_len, beN_len]; omega
theorem be4_beN (c : Nat) : beN 4 c = [UInt8.ofNat (c / 2 ^ 24), UInt8.ofNat (c / 2 ^ 16), UInt8.ofNat (c / 2 ^ 8), UInt8.ofNat c] := by
  simp [beN]
theorem lay_a (g : Nat) : lay (s4 ++ List.replicate 12 0) 4 8 g = s4 ++ beN 8 g ++ List.replicate 4 0 := rfl
theorem lay_b (g n : Nat) : lay (s4 ++ beN 8 g ++ List.replicate 4 0) 12 4 n = s4 ++ beN 8 g ++ beN 4 n := by
  simp [lay, s4, beN]
theorem own_n {w : World} {base : Nat} {e : TypeId} {s : Sl} {l : L8} (h : Own w base e 1 s (bv l)) : s.n = l.length := by have := h.len; rw [bv_length] at this; omega
theorem rd_n {w : World} {s : Sl} {l : L8} (h : Rd w 1 s (bv l)) : l.length = s.n := by have := h.len; rw [bv_length] at this; omega
theorem own_grow {w u u' : World} {base : Nat} {e : TypeId} {z : Nat} {s : Sl} {vs : List Value} (hg : Grow w u) (ho : Own u base e z s vs) (hb : w.heap.size ≤ base) (hk : Keep (fun k => some k = s.blk) u u') : Grow w u' :=
  hg.keep hk fun i hi q => by have := (ho.ge i q.symm).1; omega
theorem slots_record_spec {p : Sl} {l : L8} {g : Nat} {w : World} {R : Sl → Int → World → Prop} (hp : Rd w 1 p (bv l)) (hg : g < 18446744073709551616)
    (h1 : 4096 < l.length → R ⟨none, 0, 0⟩ 2 w) (h2 : l.length ≤ 4096 → ∀ s w', Own w' w.heap.size t_uint8 1 s (bv (recS g l)) → Grow w w' → s.n = 20 + l.length → R s 0 w') : Cslots_Record (g : Int) p w R := by
  refine Fslots_Record.calls _ _ _ _ ?_
  have hln := rd_n hp
  refine br_dec (fun q => h1 (by omega)) (fun q => ?_)
  have hle : l.length ≤ 4096 := by omega
  refine ⟨⟨some ⟨w.heap.size, 0, none⟩, 4, 4⟩, w.alloc (.cells (bv s4).toArray t_uint8), by kernel_rfl, ⟨some ⟨w.heap.size, 0, none⟩, 4, 4⟩, _, Go.Lib.run_convert_bytes_const w t_sl_uint8 t_uint8 _ 4 4 u_sl_uint8 u_uint8, ?_⟩
  have hg0 : Grow w (w.alloc (.cells (bv s4).toArray t_uint8 ((bv s4).toArray.size, (bv s4).toArray.size + 1))) := keep_alloc w _
  have hrd0 : Rd (w.alloc (.cells (bv s4).toArray t_uint8 ((bv s4).toArray.size, (bv s4).toArray.size + 1))) 1 ⟨some ⟨w.heap.size, 0, none⟩, 4, 4⟩ (bv s4) := by
    refine ⟨rfl, Nat.le_refl _, by show 4 ≤ _; decide, fun _ => ⟨_, rfl, fun j v hj => ?_⟩⟩
    rw [add0, Nat.zero_add]
    unfold World.cell?
    simp only [World.alloc, Array.getElem?_push, if_true]
    simpa using hj
  generalize w.alloc (.cells (bv s4).toArray t_uint8 ((bv s4).toArray.size, (bv s4).toArray.size + 1)) = w0 at *
  refine append_zeros_rule (s := ⟨some ⟨w.heap.size, 0, none⟩, 4, 4⟩) (k := 12) (base := w.heap.size) u_sl_uint8 u_int i_uint8 rfl hrd0 (by show 4 < 4 + 12; decide) (by decide) (by show 4 + 12 ≤ _; decide) hg0.size fun s1 w1 hn1 hown1 hg1 _ => ?_
  have hrep : (List.replicate 12 (Value.int .u8 0)) = bv (List.replicate 12 0) := by simp [bv]
  rw [hrep, ← bv_append] at hown1
  have hn1 : s1.n = 16 := hn1
  refine put_spec (at_ := 4) (n := 8) (hown1.rd (by omega)) (by omega) (by decide) (by decide) (by decide) hg fun s2 w2 hown2 hg2 => ?_
  rw [lay_a] at hown2
  have hn2 : s2.n = 16 := own_n hown2
  have e1 : IntKind.wrap .u64 (p.n : Int) = ((l.length : Nat) : Int) := by rw [wu64 (by omega) (by omega), hln]
  rw [e1]
  refine put_spec (at_ := 12) (n := 4) (hown2.rd (by omega)) (by omega) (by decide) (by decide) (by simp [s4, beN_len]) (by omega) fun s3 w3 hown3 hg3 => ?_
  rw [lay_b] at hown3
  have hn3 : s3.n = 16 := own_n hown3
  have hgw3 : Grow w w3 := ((hg0.trans hg1).trans hg2).trans hg3
  have hgw2 : Grow w w2 := (hg0.trans hg1).trans hg2
  have hown3 := Own.mono (base' := w.heap.size) hown3 hgw2.size
  refine append_rule u_sl_uint8 i_uint8 rfl (by decide) (by decide) hown3 (hp.grow hgw3) (bv_one' _) (by rw [hn3]; omega) hgw3.size fun s5 w4 hn4 hown4 hk4 _ => ?_
  have hgw4 := own_grow hgw3 hown3 (Nat.le_refl _) hk4
  rw [← bv_append] at hown4
  have hown4 : Own w4 w.heap.size t_uint8 1 s5 (bv (headS g l)) := hown4
  have hn5 : s5.n = 16 + l.length := by rw [own_n hown4, headS_len]
  refine crc_c32_spec (hown4.rd (by omega)) ?_
  rw [shr .u32 _ 24 (by decide), shr .u32 _ 16 (by decide), shr .u32 _ 8 (by decide), wrap_u8, wrap_u8, wrap_u8, wrap_u8]
  refine lit_rule (cells := (bv (beN 4 (c32 (headS g l)))).toArray) (e := t_uint8) (z := 1) (base := w.heap.size) (by rw [be4_beN]; kernel_rfl) (by simp [bv_length, beN_len]) (by decide) hgw4.size fun w5 hlit5 hg5 _ => ?_
  refine append_rule u_sl_uint8 i_uint8 rfl (by decide) (by decide) (hown4.grow hg5) (hlit5.rd (by show 4 ≤ _; decide)) (by simpa using bv_one' (beN 4 (c32 (headS g l)))) (by rw [hn5]; show (16 + l.length + 4) * 1 ≤ _; omega) (hgw4.trans hg5).size fun s6 w6 hn6 hown6 hk6 _ => ?_
  have hgw6 := own_grow (hgw4.trans hg5) (hown4.grow hg5) (Nat.le_refl _) hk6
  have e2 : (bv (beN 4 (c32 (headS g l)))).toArray.toList = bv (beN 4 (c32 (headS g l))) := rfl
  rw [e2, ← bv_append] at hown6
  exact h2 hle s6 w6 hown6 hgw6 (by rw [hn6, hn5]; show 16 + l.length + 4 = _; omega)
/-- what the bytes of a slot say: number, payload, error -/
def decS (l : L8) : Nat × L8 × Nat :=
  if l.length < 20 ∨ l.take 4 ≠ s4 then (0, [], 3)
  else if 4096 < num ((l.drop 12).take 4) ∨ l.length < 20 + num ((l.drop 12).take 4) then (0, [], 3)
  else if num ((l.drop (16 + num ((l.drop 12).take 4))).take 4) ≠ c32 (l.take (16 + num ((l.drop 12).take 4))) then (0, [], 5)
  else (num ((l.drop 4).take 8), (l.drop 16).take (num ((l.drop 12).take 4)), 0)
theorem decS_eq {l : L8} (h20 : ¬ l.length < 20) (hs : l.take 4 = s4) : decS l =
    if 4096 < num ((l.drop 12).take 4) ∨ l.length < 20 + num ((l.drop 12).take 4) then (0, [], 3)
    else if num ((l.drop (16 + num ((l.drop 12).take 4))).take 4) ≠ c32 (l.take (16 + num ((l.drop 12).take 4))) then (0, [], 5)
    else (num ((l.drop 4).take 8), (l.drop 16).take (num ((l.drop 12).take 4)), 0) := by
  unfold decS
  rw [if_neg (fun q => q.elim (fun q => absurd q h20) (fun q => q hs))]
theorem s_slot_eq : s_SLOT = str s4 := by decide
theorem slots_decode_spec {p : Sl} {l : L8} {w : World} {R : Int → Sl → Int → World → Prop} (hp : Rd w 1 p (bv l))
    (h : ∀ s w', Own w' w.heap.size t_uint8 1 s (bv (decS l).2.1) → Grow w w' → R (((decS l).1 : Nat) : Int) s (((decS l).2.2 : Nat) : Int) w') : Cslots_Decode p w R := by
  refine Fslots_Decode.calls _ _ _ ?_
  have hln := rd_n hp
  have hnb := hp.nb
  have hcap := hp.cap
  by_cases h20 : l.length < 20
  · have hd : decide ((p.n : Int) < 20) = true := decide_eq_true (by omega)
    have e : decS l = (0, [], 3) := by unfold decS; rw [if_pos (.inl h20)]
    rw [e] at h
    exact ⟨fun q => (by rw [hd] at q; cases q), ⟨#[]⟩, fun q => (by rw [hd] at q; cases q), br_t (by rw [hd]; rfl) (h _ w (own_nil _ _ _ _) (Keep.refl _ _))⟩
  have hd : decide ((p.n : Int) < 20) = false := decide_eq_false (by omega)
  have hx : Rd w 1 ⟨cutA p.A p.c 0 1, 4 - 0, p.c - 0⟩ (bv (l.take 4)) := hp.cutB (l := 0) (k := 4) (by decide) (by omega)
  refine ⟨fun _ => ⟨by decide, by decide, by omega, hcap⟩, str (l.take 4), fun _ => convStr_rule (s := ⟨cutA p.A p.c 0 1, 4 - 0, p.c - 0⟩) u_sl_uint8 u_uint8 u_string hx, ?_⟩
  rw [s_slot_eq, sEq_str, hd, Bool.false_or]
  by_cases hs : l.take 4 = s4
  case neg =>
    have e : decS l = (0, [], 3) := by unfold decS; rw [if_pos (.inr hs)]
    rw [e] at h
    exact br_t (by rw [decide_eq_false hs]; rfl) (h _ w (own_nil _ _ _ _) (Keep.refl _ _))
  refine br_f (by rw [decide_eq_true hs]; rfl) ?_
  refine get_spec (at_ := 4) (n := 8) hp hnb (by decide) (by decide) (by omega) ?_
  refine get_spec (at_ := 12) (n := 4) hp hnb (by decide) (by decide) (by omega) ?_
  have hn4 : num ((l.drop 12).take 4) < 4294967296 := num4 _ (by simp; omega)
  have hN := decS_eq h20 hs
  generalize hn : num ((l.drop 12).take 4) = n at *
  have e1 : IntKind.wrap .i64 ((n : Nat) : Int) = (n : Int) := w64 (by omega) (by omega)
  have e2 : IntKind.wrap .i64 ((p.n : Int) - 20) = (p.n : Int) - 20 := w64 (by omega) (by omega)
  rw [e1, e2]
  by_cases hlong : 4096 < n ∨ l.length < 20 + n
  · rw [if_pos hlong] at hN
    rw [hN] at h
    exact br_t (by rw [Bool.or_eq_true, decide_eq_true_eq, decide_eq_true_eq]; omega) (h _ w (own_nil _ _ _ _) (Keep.refl _ _))
  rw [if_neg hlong] at hN
  refine br_f (by rw [Bool.or_eq_false_iff, decide_eq_false_iff_not, decide_eq_false_iff_not]; omega) ?_
  have e3 : IntKind.wrap .i64 (16 + (n : Int)) = ((16 + n : Nat) : Int) := by rw [w64 (by omega) (by omega)]; omega
  have e4 : IntKind.wrap .u64 (16 + (n : Int)) = ((16 + n : Nat) : Int) := by rw [wu64 (by omega) (by omega)]; omega
  rw [e3, e4]
  refine get_spec (at_ := 16 + n) (n := 4) hp hnb (by decide) (by decide) (by omega) ?_
  have hc4 : num ((l.drop (16 + n)).take 4) < 4294967296 := num4 _ (by simp; omega)
  simp only [Int.toNat_natCast, Nat.sub_zero]
  refine ⟨⟨by decide, by omega, by omega, hcap⟩, ?_⟩
  have hy := hp.cutB (l := 0) (k := 16 + n) (by omega) (by omega)
  simp only [List.drop_zero, Nat.sub_zero] at hy
  refine crc_c32_spec hy ?_
  rw [wu32 (n := ((num ((l.drop (16 + n)).take 4) : Nat) : Int)) (by omega) (by omega)]
  by_cases hc : num ((l.drop (16 + n)).take 4) = c32 (l.take (16 + n))
  case neg =>
    rw [if_pos hc] at hN
    rw [hN] at h
    exact br_ne (fun _ => h _ w (own_nil _ _ _ _) (Keep.refl _ _)) (fun q => absurd (by omega) hc)
  rw [if_neg (by simpa using hc)] at hN
  rw [hN] at h
  refine br_ne (fun q => absurd (by rw [hc]) q) (fun _ => ⟨⟨by decide, by omega, by omega, hcap⟩, ?_⟩)
  have hz := hp.cutB (l := 16) (k := 16 + n) (by omega) (by omega)
  rw [show 16 + n - 16 = n by omega] at hz ⊢
  refine append_rule (s := ⟨none, 0, 0⟩) (vs := []) (base := w.heap.size) u_sl_uint8 i_uint8 rfl (by decide) (by decide) (own_nil _ _ _ _) hz (bv_one' _) (by show (0 + n) * 1 ≤ _; omega) (Nat.le_refl _) fun s1 w1 hn1 hown1 hk1 _ => ?_
  rw [List.nil_append] at hown1
  exact h s1 w1 hown1 (hk1.mono fun i hi q => by cases q)
end Go.Proofs.YtpmebahhjgkflaaGreatDoor

/- Layer 5: slots: opened, loaded, saved. -/
namespace Go.Proofs.YtpmebahhjgkflaaGreatDoor
open Go CF
set_option maxRecDepth 100000

def slcells (pw : Nat) (file : ByteArray) (sure : Bool) (at_ : Int) (gen : Nat) : Array Value := #[.pointer (some ⟨pw, 0, none⟩), .string file, .bool sure, .int .i64 at_, .int .u64 (gen : Int)]
abbrev IsSl (w : World) (ss pw : Nat) (file : ByteArray) (sure : Bool) (at_ : Int) (gen : Nat) : Prop := Blk w ss (slcells pw file sure at_ gen) t_slots_Slots
theorem slots_open_spec {w : World} {pw : Nat} {file : ByteArray} {R : Option Addr → Int → World → Prop} (hs : 1 ≤ file.size ∧ file.size ≤ 30)
    (h : ∀ ss w', ss = w.heap.size → Grow w w' → IsSl w' ss pw file false (-1) 0 → R (some ⟨ss, 0, none⟩) 0 w') : Cslots_Open (some ⟨pw, 0, none⟩) file w R := by
  refine Fslots_Open.calls _ _ _ _ ?_
  refine br_f (by rw [Bool.or_eq_false_iff, decide_eq_false_iff_not, decide_eq_false_iff_not]; omega) (br_f rfl ?_)
  exact new_rule fun ss w1 hss hb1 hg1 _ => h ss w1 hss hg1 hb1
/-- the name of a slot's file -/
def nmS (file : ByteArray) (i : Nat) : ByteArray := (file ++ s_x2e) ++ str [UInt8.ofNat (48 + i)]
theorem nmS_size (file : ByteArray) (i : Nat) : (nmS file i).size = file.size + 2 := by
  unfold nmS
  rw [ByteArray.size_append, ByteArray.size_append, size_str]; rfl
theorem ls_append (a b : ByteArray) : ls (a ++ b) = ls a ++ ls b := by
  show (a ++ b).data.toList = _
  rw [ByteArray.data_append, Array.toList_append]; rfl
theorem slname_spec {w : World} {ss pw : Nat} {file : ByteArray} {sure : Bool} {at_ : Int} {gen : Nat} {i : Nat} {R : ByteArray → World → Prop} (hS : IsSl w ss pw file sure at_ gen) (hf : file.size ≤ 30) (hi : i < 10)
    (h : ∀ w', Grow w w' → R (nmS file i) w') : Cslots_Slots_name (some ⟨ss, 0, none⟩) (i : Int) w R := by
  refine Fslots_Slots_name.calls _ _ _ _ ?_
  rintro w0 rfl
  have hg0 : Grow w w.drew := keep_drew w
  have e0 : s_x2e.size = 1 := by decide
  refine ⟨fun u => IsSl u ss pw file sure at_ gen, hg0.heap hS (fun q => q), rfl, file, fun u hu => by rw [gA, add0, Blk.cell hu]; rfl, by omega, ?_⟩
  have e1 : IntKind.wrap .u8 (IntKind.wrap .i64 (48 + (i : Int))) = ((UInt8.ofNat (48 + i)).toNat : Int) := by
    rw [w64 (by omega) (by omega), show (48 : Int) + (i : Int) = ((48 + i : Nat) : Int) by omega, wrap_u8]
  rw [e1]
  refine lit_rule (cells := (bv [UInt8.ofNat (48 + i)]).toArray) (e := t_uint8) (z := 1) (base := 0) (by kernel_rfl) rfl (by decide) (Nat.zero_le _) fun w1 hlit1 hg1 _ => ⟨(hg0.trans hg1).heap hS (fun q => q), ?_⟩
  have hrd : Rd w1 1 ⟨some ⟨w.drew.heap.size, 0, none⟩, 1, 1⟩ (bv [UInt8.ofNat (48 + i)]) := hlit1.rd (by show 1 ≤ _; decide)
  refine ⟨fun u => Rd u 1 ⟨some ⟨w.drew.heap.size, 0, none⟩, 1, 1⟩ (bv [UInt8.ofNat (48 + i)]) ∧ IsSl u ss pw file sure at_ gen, ⟨hrd, (hg0.trans hg1).heap hS (fun q => q)⟩, fun u hu => hu.2, str [UInt8.ofNat (48 + i)],
    fun u hu => convStr_rule (s := ⟨some ⟨w.drew.heap.size, 0, none⟩, 1, 1⟩) u_sl_uint8 u_uint8 u_string hu.1, ?_, h w1 (hg0.trans hg1)⟩
  rw [ByteArray.size_append, size_str, e0]
  show file.size + 1 + 1 ≤ _
  omega
/-! ### what is loaded -/
def ldStep (x : Int × Nat × L8) (i : Nat) (l : L8) : Int × Nat × L8 := if (decS l).2.2 = 0 ∧ (x.1 < 0 ∨ x.2.1 < (decS l).1) then ((i : Int), (decS l).1, (decS l).2.1) else x
def slFile (F : Files) (file : ByteArray) (i : Nat) : L8 := ((F (nmS file i)).getD []).take 4116
def ldN (F : Files) (file : ByteArray) : Nat → Int × Nat × L8
  | 0 => (-1, 0, [])
  | k + 1 => ldStep (ldN F file k) k (slFile F file k)
theorem ldN_none {F : Files} {file : ByteArray} : ∀ {k : Nat}, (ldN F file k).1 < 0 → ldN F file k = (-1, 0, [])
  | 0, _ => rfl
  | k + 1, h => by
    simp only [ldN] at h ⊢
    unfold ldStep at h ⊢
    split
    · rename_i q
      rw [if_pos q] at h
      simp only at h
      omega
    · rename_i q
      rw [if_neg q] at h
      exact ldN_none h
theorem put_sl {w : World} {ss pw : Nat} {D : Nat → Prop} {st : Wst} {cs : Array Value} {o : Nat} {v : Value} (hS : Blk w ss cs t_slots_Slots) (hps : ¬ D ss) (hw : IsW w pw D st) (ho : o < cs.size) (hv : v.oneCell' = true) {K : World → Prop}
    (h : ∀ u, Blk u ss (cs.setIfInBounds o v) t_slots_Slots → IsW u pw D st → Keep (fun k => k = ss) w u → K u) : Put ⟨ss, o, none⟩ v w K :=
  put_rule hS ho hv fun u hb hk _ => h u hb (hw.keep hk (fun k hk' q => hps (q ▸ hk')) (fun g cur hg q => by subst q; exact absurd (blk_type hS hg) (by decide))) hk
theorem slots_load_spec {w : World} {ss pw : Nat} {D : Nat → Prop} {st : Wst} {file : ByteArray} {sure : Bool} {at_ : Int} {gen : Nat} {R : Sl → Int → Int → World → Prop} (hS : IsSl w ss pw file sure at_ gen) (hps : ¬ D ss) (hw : IsW w pw D st)
    (hf : 1 ≤ file.size ∧ file.size ≤ 30) (ho : st.ops < 100000000000)
    (h : ∀ best u, Keep (fun k => D k ∨ k = ss) w u → IsW u pw D { st with ops := st.ops + 2 } → IsSl u ss pw file true (ldN st.seen file 2).1 (ldN st.seen file 2).2.1 → Own u w.heap.size t_uint8 1 best (bv (ldN st.seen file 2).2.2) →
      R best (((ldN st.seen file 2).2.1 : Nat) : Int) (if (ldN st.seen file 2).1 < 0 then 8 else 0) u) : Cslots_Slots_Load (some ⟨ss, 0, none⟩) w R := by
  refine Fslots_Slots_Load.calls _ _ _ ?_
  refine br_f rfl ⟨rfl, ?_⟩
  rw [gA, add0]
  have lss := lt_of_heap hS
  refine put_sl hS hps hw (by show 2 < 5; decide) rfl fun w0 hS0 hw0 hk0 => ?_
  have hS0 : IsSl w0 ss pw file false at_ gen := hS0
  refine ⟨fun best a m x u => ∃ j : Nat, x = j ∧ j ≤ 2 ∧ a = (ldN st.seen file j).1 ∧ m = (((ldN st.seen file j).2.1 : Nat) : Int) ∧ Keep (fun k => D k ∨ k = ss) w u ∧ IsW u pw D { st with ops := st.ops + j } ∧ IsSl u ss pw file false at_ gen ∧
      Own u w.heap.size t_uint8 1 best (bv (ldN st.seen file j).2.2), fun _ _ _ x _ => 2 - x.toNat, ⟨0, rfl, by decide, rfl, rfl, hk0.mono fun _ _ q => .inr q, hw0, hS0, own_nil _ _ _ _⟩, ?_⟩
  rintro best a m x w1 ⟨j, rfl, hj, rfl, rfl, hk1, hw1, hS1, hown1⟩
  have s1 := hk1.size
  refine br_dec (fun hlt => ?_) (fun hge => ?_)
  · rintro w2 rfl
    have hg2 : Grow w1 w1.drew := keep_drew w1
    refine ⟨fun u => IsSl u ss pw file false at_ gen, hg2.heap hS1 (fun q => q), rfl, some ⟨pw, 0, none⟩, fun u hu => by rw [add0, Blk.cell hu]; rfl, ?_⟩
    refine slname_spec (hg2.heap hS1 (fun q => q)) hf.2 (by omega) fun w3 hg3 => ⟨(hg2.trans hg3).heap hS1 (fun q => q), ?_⟩
    have hg13 := hg2.trans hg3
    refine world_read_spec (off := 0) (n := 4116) (hw1.grow hg13) (by rw [nmS_size]; omega) (by decide) (by decide) (by show st.ops + j < _; omega) fun s w4 hk4 hw4 hown4 hsn => ?_
    have hown4 : Own w4 w3.heap.size t_uint8 1 s (bv (slFile st.seen file j)) := hown4
    refine br_f (by
      show (_ && _) = false
      cases (st.seen (nmS file j)).isSome <;> rfl) ?_
    have nDown : ∀ b, best.blk = some b → ¬ D b := fun b hb q => by
      have h1 := (hown1.ge b hb).1
      have h2 := hw.lt q
      omega
    have hown1' : Own w4 w.heap.size t_uint8 1 best (bv (ldN st.seen file j).2.2) := (hown1.grow hg13).keep hk4 nDown
    have hS4 : IsSl w4 ss pw file false at_ gen := hk4.heap (hg13.heap hS1 (fun q => q)) hps
    have hk14 : Keep (fun k => D k ∨ k = ss) w w4 := (hk1.grow hg13).trans hk4 fun _ _ q => .inl q
    refine slots_decode_spec (hown4.rd (by omega)) fun s5 w5 hown5 hg5 => ?_
    have fin : ∀ (b : Sl) (a : Int) (m : Int), a = (ldN st.seen file (j + 1)).1 → m = (((ldN st.seen file (j + 1)).2.1 : Nat) : Int) → Own w5 w.heap.size t_uint8 1 b (bv (ldN st.seen file (j + 1)).2.2) →
        (∃ j_1 : Nat, IntKind.wrap .i64 ((j : Int) + 1) = j_1 ∧ j_1 ≤ 2 ∧ a = (ldN st.seen file j_1).1 ∧ m = (((ldN st.seen file j_1).2.1 : Nat) : Int) ∧ Keep (fun k => D k ∨ k = ss) w w5 ∧ IsW w5 pw D { st with ops := st.ops + j_1 } ∧ IsSl w5 ss pw file false at_ gen ∧
          Own w5 w.heap.size t_uint8 1 b (bv (ldN st.seen file j_1).2.2)) ∧ 2 - (IntKind.wrap .i64 ((j : Int) + 1)).toNat < 2 - (j : Int).toNat := fun b a m ha hm hb => by
      rw [w64 (by omega) (by omega)]
      exact ⟨⟨j + 1, by omega, by omega, ha, hm, hk14.grow hg5, hw4.grow hg5, hg5.heap hS4 (fun q => q), hb⟩, by omega⟩
    have hE : ldN st.seen file (j + 1) = ldStep (ldN st.seen file j) j (slFile st.seen file j) := rfl
    generalize ldN st.seen file (j + 1) = L1 at *
    by_cases q : (decS (slFile st.seen file j)).2.2 = 0 ∧ ((ldN st.seen file j).1 < 0 ∨ (ldN st.seen file j).2.1 < (decS (slFile st.seen file j)).1)
    · rw [ldStep, if_pos q] at hE
      refine br_t ?_ (fin _ _ _ (by rw [hE]) (by rw [hE]) (by rw [hE]; exact hown5.mono (by have := hk14.size; omega)))
      rw [Bool.and_eq_true, Bool.or_eq_true, beq_iff_eq, decide_eq_true_eq, decide_eq_true_eq]
      omega
    · rw [ldStep, if_neg q] at hE
      refine br_f ?_ (fin _ _ _ (by rw [hE]) (by rw [hE]) (by rw [hE]; exact hown1'.grow hg5))
      rw [Bool.and_eq_false_iff, Bool.or_eq_false_iff, beq_eq_false_iff_ne, decide_eq_false_iff_not, decide_eq_false_iff_not]
      omega
  · have hj2 : j = 2 := by omega
    subst hj2
    refine ⟨rfl, ?_⟩
    rw [add0]
    refine put_sl hS1 hps hw1 (by show 3 < 5; decide) rfl fun w2 hS2 hw2 hk2 => ⟨rfl, ?_⟩
    rw [add0]
    refine put_sl hS2 hps hw2 (by show 4 < 5; decide) rfl fun w3 hS3 hw3 hk3 => ⟨rfl, ?_⟩
    refine put_sl hS3 hps hw3 (by show 2 < 5; decide) rfl fun w4 hS4 hw4 hk4 => ?_
    have hS4 : IsSl w4 ss pw file true (ldN st.seen file 2).1 (ldN st.seen file 2).2.1 := hS4
    have hkf : Keep (fun k => k = ss) w1 w4 := (hk2.trans hk3 fun _ _ q => q).trans hk4 fun _ _ q => q
    have hk14 : Keep (fun k => D k ∨ k = ss) w w4 := hk1.trans hkf fun _ _ q => .inr q
    have hown4 : Own w4 w.heap.size t_uint8 1 best (bv (ldN st.seen file 2).2.2) := hown1.keep hkf fun b hb q => by
      have := (hown1.ge b hb).1; omega
    have := h best w4 hk14 hw4 hS4 hown4
    refine br_dec (fun q => ?_) (fun q => ?_)
    · rw [if_pos q] at this
      have hn := ldN_none q
      have := h ⟨none, 0, 0⟩ w4 hk14 hw4 hS4 (by rw [hn]; exact own_nil _ _ _ _)
      rw [if_pos q, hn] at this
      exact this
    · rw [if_neg q] at this
      exact this
end Go.Proofs.YtpmebahhjgkflaaGreatDoor

/- Layer 5: a payload is saved. -/
namespace Go.Proofs.YtpmebahhjgkflaaGreatDoor
open Go CF
set_option maxRecDepth 100000

def toS (at_ : Int) : Nat := if at_ = 0 then 1 else 0
end Go.Proofs.YtpmebahhjgkflaaGreatDoor

/- Layer 5: what is loaded and saved, under any plan, as functions. -/
namespace Go.Proofs.YtpmebahhjgkflaaGreatDoor
open Go CF
set_option maxRecDepth 100000
structure SlX where
  sure : Bool
  at_ : Int
  gen : Nat
/-- Load: the error's number, the payload, its number, the slots, the files -/
def slLoadX (F : Int → Bool) (st : Wst) (file : ByteArray) (x : SlX) : Nat × L8 × Nat × SlX × Wst :=
  match ffail F st.ops 2 with
  | some k => (6, [], 0, ⟨false, x.at_, x.gen⟩, more st (k + 1))
  | none => (if (ldN st.seen file 2).1 < 0 then 8 else 0, (ldN st.seen file 2).2.2, (ldN st.seen file 2).2.1, ⟨true, (ldN st.seen file 2).1, (ldN st.seen file 2).2.1⟩, more st 2)
def gen1 (g : Nat) : Nat := (g + 1) % 18446744073709551616
/-- a payload is written -/
def slWriteX (F : Int → Bool) (st : Wst) (file : ByteArray) (x : SlX) (l : L8) : Nat × SlX × Wst :=
  if F (st.ops : Int) = true then (6, ⟨false, x.at_, x.gen⟩, more st 1)
  else if F ((st.ops + 1 : Nat) : Int) = true then (6, ⟨false, x.at_, x.gen⟩, more (stepW st (nmS file (toS x.at_)) 0 (recS (gen1 x.gen) l)) 1)
  else (0, ⟨true, (toS x.at_ : Int), gen1 x.gen⟩, synced (stepW st (nmS file (toS x.at_)) 0 (recS (gen1 x.gen) l)))
def slSaveX (F : Int → Bool) (st : Wst) (file : ByteArray) (x : SlX) (l : L8) : Nat × SlX × Wst :=
  if x.sure = true then slWriteX F st file x l
  else if (slLoadX F st file x).1 = 6 then (6, (slLoadX F st file x).2.2.2.1, (slLoadX F st file x).2.2.2.2) else slWriteX F (slLoadX F st file x).2.2.2.2 file (slLoadX F st file x).2.2.2.1 l
theorem put_slq {w : World} {ss pw : Nat} {D : Nat → Prop} {st : Wst} {F : Int → Bool} {cs : Array Value} {o : Nat} {v : Value} (hS : Blk w ss cs t_slots_Slots) (hps : ¬ D ss) (hw : IsWq w pw D st F) (ho : o < cs.size) (hv : v.oneCell' = true) {K : World → Prop}
    (h : ∀ u, Blk u ss (cs.setIfInBounds o v) t_slots_Slots → IsWq u pw D st F → Keep (fun k => k = ss) w u → K u) : Put ⟨ss, o, none⟩ v w K :=
  put_rule hS ho hv fun u hb hk _ => h u hb (hw.keep hk (fun k hk' q => hps (q ▸ hk')) (fun g cur hg q => by subst q; exact absurd (blk_type hS hg) (by decide))) hk
theorem slots_load_any {w : World} {ss pw : Nat} {D : Nat → Prop} {st : Wst} {F : Int → Bool} {file : ByteArray} {x : SlX} {R : Sl → Int → Int → World → Prop} (hS : IsSl w ss pw file x.sure x.at_ x.gen) (hps : ¬ D ss) (hw : IsWq w pw D st F)
    (hf : 1 ≤ file.size ∧ file.size ≤ 30) (ho : st.ops < 100000000000)
    (h : ∀ best u, Keep (fun k => D k ∨ k = ss) w u → IsWq u pw D (slLoadX F st file x).2.2.2.2 F → IsSl u ss pw file (slLoadX F st file x).2.2.2.1.sure (slLoadX F st file x).2.2.2.1.at_ (slLoadX F st file x).2.2.2.1.gen → Own u w.heap.size t_uint8 1 best (bv (slLoadX F st file x).2.1) →
      R best (((slLoadX F st file x).2.2.1 : Nat) : Int) (((slLoadX F st file x).1 : Nat) : Int) u) : Cslots_Slots_Load (some ⟨ss, 0, none⟩) w R := by
  refine Fslots_Slots_Load.calls _ _ _ ?_
  refine br_f rfl ⟨rfl, ?_⟩
  rw [gA, add0]
  have lss := lt_of_heap hS
  unfold slLoadX at h
  refine put_slq hS hps hw (by show 2 < 5; decide) rfl fun w0 hS0 hw0 hk0 => ?_
  have hS0 : IsSl w0 ss pw file false x.at_ x.gen := hS0
  refine ⟨fun best a m y u => ∃ j : Nat, y = j ∧ j ≤ 2 ∧ a = (ldN st.seen file j).1 ∧ m = (((ldN st.seen file j).2.1 : Nat) : Int) ∧ Keep (fun k => D k ∨ k = ss) w u ∧ IsWq u pw D { st with ops := st.ops + j } F ∧ IsSl u ss pw file false x.at_ x.gen ∧
      Own u w.heap.size t_uint8 1 best (bv (ldN st.seen file j).2.2) ∧ ∀ i : Nat, i < j → F ((st.ops + i : Nat) : Int) = false, fun _ _ _ y _ => 2 - y.toNat, ⟨0, rfl, by decide, rfl, rfl, hk0.mono fun _ _ q => .inr q, hw0, hS0, own_nil _ _ _ _, fun _ q => absurd q (Nat.not_lt_zero _)⟩, ?_⟩
  rintro best a m y w1 ⟨j, rfl, hj, rfl, rfl, hk1, hw1, hS1, hown1, hfl⟩
  have s1 := hk1.size
  refine br_dec (fun hlt => ?_) (fun hge => ?_)
  · rintro w2 rfl
    have hg2 : Grow w1 w1.drew := keep_drew w1
    refine ⟨fun u => IsSl u ss pw file false x.at_ x.gen, hg2.heap hS1 (fun q => q), rfl, some ⟨pw, 0, none⟩, fun u hu => by rw [add0, Blk.cell hu]; rfl, ?_⟩
    refine slname_spec (hg2.heap hS1 (fun q => q)) hf.2 (by omega) fun w3 hg3 => ⟨(hg2.trans hg3).heap hS1 (fun q => q), ?_⟩
    have hg13 := hg2.trans hg3
    refine world_readR_any (off := 0) (n := 4116) (hw1.grow hg13) (by rw [nmS_size]; omega) (by decide) (by decide) (by show st.ops + j < _; omega) (fun hok s w4 hk4 hr4 hown4 hsn => ?_) (fun hbad w4 hk4 hr4 => ?_)
    case refine_2 =>
      have hff : ffail F st.ops 2 = some j := ffail_some (by omega) hfl hbad
      rw [hff] at h
      have hk14 : Keep (fun k => D k ∨ k = ss) w w4 := (hk1.grow hg13).trans hk4 fun _ _ q => .inl q
      refine br_t rfl (h nilS w4 hk14 ?_ (hk4.heap (hg13.heap hS1 (fun q => q)) hps) (own_nil _ _ _ _))
      have := hr4.isWq (hw1.grow hg13)
      exact this
    have hw4 := hr4.isWq (hw1.grow hg13)
    have hown4 : Own w4 w3.heap.size t_uint8 1 s (bv (slFile st.seen file j)) := hown4
    refine br_f (by
      show (_ && _) = false
      cases (st.seen (nmS file j)).isSome <;> rfl) ?_
    have nDown : ∀ b, best.blk = some b → ¬ D b := fun b hb q => by
      have h1 := (hown1.ge b hb).1
      have h2 := hw.lt q
      omega
    have hown1' : Own w4 w.heap.size t_uint8 1 best (bv (ldN st.seen file j).2.2) := (hown1.grow hg13).keep hk4 nDown
    have hS4 : IsSl w4 ss pw file false x.at_ x.gen := hk4.heap (hg13.heap hS1 (fun q => q)) hps
    have hk14 : Keep (fun k => D k ∨ k = ss) w w4 := (hk1.grow hg13).trans hk4 fun _ _ q => .inl q
    refine slots_decode_spec (hown4.rd (by omega)) fun s5 w5 hown5 hg5 => ?_
    have fin : ∀ (b : Sl) (a : Int) (m : Int), a = (ldN st.seen file (j + 1)).1 → m = (((ldN st.seen file (j + 1)).2.1 : Nat) : Int) → Own w5 w.heap.size t_uint8 1 b (bv (ldN st.seen file (j + 1)).2.2) →
        (∃ j_1 : Nat, IntKind.wrap .i64 ((j : Int) + 1) = j_1 ∧ j_1 ≤ 2 ∧ a = (ldN st.seen file j_1).1 ∧ m = (((ldN st.seen file j_1).2.1 : Nat) : Int) ∧ Keep (fun k => D k ∨ k = ss) w w5 ∧ IsWq w5 pw D { st with ops := st.ops + j_1 } F ∧ IsSl w5 ss pw file false x.at_ x.gen ∧
          Own w5 w.heap.size t_uint8 1 b (bv (ldN st.seen file j_1).2.2) ∧ ∀ i : Nat, i < j_1 → F ((st.ops + i : Nat) : Int) = false) ∧ 2 - (IntKind.wrap .i64 ((j : Int) + 1)).toNat < 2 - (j : Int).toNat := fun b a m ha hm hb => by
      rw [w64 (by omega) (by omega)]
      exact ⟨⟨j + 1, by omega, by omega, ha, hm, hk14.grow hg5, hw4.grow hg5, hg5.heap hS4 (fun q => q), hb, fun i hi => by
        by_cases e : i = j
        · rw [e]; exact hok
        · exact hfl i (by omega)⟩, by omega⟩
    have hE : ldN st.seen file (j + 1) = ldStep (ldN st.seen file j) j (slFile st.seen file j) := rfl
    generalize ldN st.seen file (j + 1) = L1 at *
    by_cases q : (decS (slFile st.seen file j)).2.2 = 0 ∧ ((ldN st.seen file j).1 < 0 ∨ (ldN st.seen file j).2.1 < (decS (slFile st.seen file j)).1)
    · rw [ldStep, if_pos q] at hE
      refine br_t ?_ (fin _ _ _ (by rw [hE]) (by rw [hE]) (by rw [hE]; exact hown5.mono (by have := hk14.size; omega)))
      rw [Bool.and_eq_true, Bool.or_eq_true, beq_iff_eq, decide_eq_true_eq, decide_eq_true_eq]
      omega
    · rw [ldStep, if_neg q] at hE
      refine br_f ?_ (fin _ _ _ (by rw [hE]) (by rw [hE]) (by rw [hE]; exact hown1'.grow hg5))
      rw [Bool.and_eq_false_iff, Bool.or_eq_false_iff, beq_eq_false_iff_ne, decide_eq_false_iff_not, decide_eq_false_iff_not]
      omega
  · have hj2 : j = 2 := by omega
    subst hj2
    rw [ffail_none hfl] at h
    dsimp only at h
    refine ⟨rfl, ?_⟩
    rw [add0]
    refine put_slq hS1 hps hw1 (by show 3 < 5; decide) rfl fun w2 hS2 hw2 hk2 => ⟨rfl, ?_⟩
    rw [add0]
    refine put_slq hS2 hps hw2 (by show 4 < 5; decide) rfl fun w3 hS3 hw3 hk3 => ⟨rfl, ?_⟩
    refine put_slq hS3 hps hw3 (by show 2 < 5; decide) rfl fun w4 hS4 hw4 hk4 => ?_
    have hS4 : IsSl w4 ss pw file true (ldN st.seen file 2).1 (ldN st.seen file 2).2.1 := hS4
    have hkf : Keep (fun k => k = ss) w1 w4 := (hk2.trans hk3 fun _ _ q => q).trans hk4 fun _ _ q => q
    have hk14 : Keep (fun k => D k ∨ k = ss) w w4 := hk1.trans hkf fun _ _ q => .inr q
    have hown4 : Own w4 w.heap.size t_uint8 1 best (bv (ldN st.seen file 2).2.2) := hown1.keep hkf fun b hb q => by
      have := (hown1.ge b hb).1; omega
    have := h best w4 hk14 hw4 hS4 hown4
    refine br_dec (fun q => ?_) (fun q => ?_)
    · rw [if_pos q] at this
      have hn := ldN_none q
      have := h ⟨none, 0, 0⟩ w4 hk14 hw4 hS4 (by rw [hn]; exact own_nil _ _ _ _)
      rw [if_pos q, hn] at this
      exact this
    · rw [if_neg q] at this
      exact this
theorem gen1_wrap (g : Nat) : IntKind.wrap .u64 ((g : Int) + 1) = ((gen1 g : Nat) : Int) := by
  have e : IntKind.wrap .u64 ((g : Int) + 1) = ((g : Int) + 1) % 18446744073709551616 := by simp [IntKind.wrap, IntKind.signed, IntKind.bits]
  rw [e]; unfold gen1; omega
theorem slots_save_any {w : World} {ss pw : Nat} {D : Nat → Prop} {st : Wst} {F : Int → Bool} {file : ByteArray} {x : SlX} {p : Sl} {l : L8} {R : Int → Int → World → Prop} (hS : IsSl w ss pw file x.sure x.at_ x.gen) (hps : ¬ D ss) (hw : IsWq w pw D st F)
    (hok : Wok st) (hf : 1 ≤ file.size ∧ file.size ≤ 30) (ho : st.ops < 10000000000) (hn : st.waits.length < 800000000) (hl : l.length ≤ 4096) (hp : ∀ u, Keep (fun k => D k ∨ k = ss) w u → Rd u 1 p (bv l))
    (h : ∀ u D' g, Keep (fun k => D k ∨ k = ss) w u → IsWq u pw D' (slSaveX F st file x l).2.2 F → (∀ k, D' k → D k ∨ w.heap.size ≤ k) →
      IsSl u ss pw file (slSaveX F st file x l).2.1.sure (slSaveX F st file x l).2.1.at_ (slSaveX F st file x l).2.1.gen → R g (((slSaveX F st file x l).1 : Nat) : Int) u) : Cslots_Slots_Save (some ⟨ss, 0, none⟩) p w R := by
  refine Fslots_Slots_Save.calls _ _ _ _ ?_
  unfold Fslots_Slots_Save
  simp only [gA, add0, Nat.zero_add]
  have hp0 := hp w (Keep.refl _ _)
  have hln := rd_n hp0
  have lss := lt_of_heap hS
  refine br_dec (fun q => absurd q (by omega)) (fun _ => br_f rfl ⟨rfl, x.sure, by rw [Blk.cell hS]; rfl, ?_⟩)
  unfold slSaveX at h
  refine letX0 (fun u => ∃ (st1 : Wst) (x1 : SlX), Keep (fun k => D k ∨ k = ss) w u ∧ IsWq u pw D st1 F ∧ IsSl u ss pw file x1.sure x1.at_ x1.gen ∧ st1.seen = st.seen ∧ st1.dur = st.dur ∧ st1.waits = st.waits ∧ st1.ops ≤ st.ops + 2 ∧
    (∀ u D' g, Keep (fun k => D k ∨ k = ss) w u → IsWq u pw D' (slWriteX F st1 file x1 l).2.2 F → (∀ k, D' k → D k ∨ w.heap.size ≤ k) → IsSl u ss pw file (slWriteX F st1 file x1 l).2.1.sure (slWriteX F st1 file x1 l).2.1.at_ (slWriteX F st1 file x1 l).2.1.gen → R g (((slWriteX F st1 file x1 l).1 : Nat) : Int) u)) ?_ (fun J => ?_)
  · rintro w1 ⟨st1, x1, hk1, hw1, hS1, e1, e2, e3, ho1, hR⟩
    have wokA : ∀ to, Wok (stepW st1 (nmS file to) 0 (recS (gen1 x1.gen) l)) := fun to c hc => by
      rcases List.mem_append.1 hc with q | q
      · exact hok c (by rw [← e3]; exact q)
      · rw [List.mem_singleton.1 q]; exact ⟨rfl, by show 0 + (recS _ _).length ≤ _; rw [recS_len]; omega⟩
    unfold slWriteX at hR
    refine ⟨rfl, ?_⟩
    refine put_slq hS1 hps hw1 (by show 2 < 5; decide) rfl fun w2 hS2 hw2 hk2 => ⟨rfl, x1.at_, by rw [Blk.cell hS2]; rfl, ?_⟩
    have hS2 : IsSl w2 ss pw file false x1.at_ x1.gen := hS2
    refine letX1 (fun (to : Int) u => u = w2 ∧ to = (toS x1.at_ : Int)) ?_ (fun J2 => ?_)
    · rintro to u ⟨rfl, rfl⟩
      refine ⟨rfl, (x1.gen : Int), by rw [Blk.cell hS2]; rfl, ?_⟩
      rw [gen1_wrap]
      have hk12 : Keep (fun k => D k ∨ k = ss) w u := hk1.trans hk2 fun _ _ q => .inr q
      have s2 := hk12.size
      have hg1 : gen1 x1.gen < 18446744073709551616 := Nat.mod_lt _ (by decide)
      refine slots_record_spec (hp u hk12) hg1 (fun q => absurd q (by omega)) fun _ r w3 hown3 hg3 hn3 => ?_
      rintro w4 rfl
      have hg4 : Grow u w3.drew := hg3.trans (keep_drew w3)
      refine ⟨fun u => IsSl u ss pw file false x1.at_ x1.gen, hg4.heap hS2 (fun q => q), rfl, some ⟨pw, 0, none⟩, fun u hu => by rw [Blk.cell hu]; rfl, ?_⟩
      have hto : toS x1.at_ < 10 := by unfold toS; split <;> decide
      refine slname_spec (hg4.heap hS2 (fun q => q)) hf.2 hto fun w5 hg5 => ⟨(hg4.trans hg5).heap hS2 (fun q => q), ?_⟩
      have hg25 := hg4.trans hg5
      have hown5 : Own w5 u.heap.size t_uint8 1 r (bv (recS (gen1 x1.gen) l)) := (hown3.grow (keep_drew w3)).grow hg5
      have s5 := hg25.size
      -- where it ends: the error is looked at
      refine world_write_any (off := 0) (bs := recS (gen1 x1.gen) l) (hw2.grow hg25) (by rw [nmS_size]; omega) (hown5.rd (by omega)) (by rw [recS_len]; omega) (by omega) (by rw [e3]; omega) (fun hf1 w6 D6 hk6 hw6 hD6 => ?_) (fun hf1 w6 hk6 hw6 => ?_)
      · have hS6 : IsSl w6 ss pw file false x1.at_ x1.gen := hk6.heap (hg25.heap hS2 (fun q => q)) hps
        have hk06 : Keep (fun k => D k ∨ k = ss) w w6 := (hk12.grow hg25).trans hk6 fun _ _ q => .inl q
        have nD6 : ¬ D6 ss := fun q => by rcases hD6 _ q with r | r
                                          · exact hps r
                                          · omega
        have s6 := hk6.size
        have hw6 : IsWq w6 pw D6 (stepW st1 (nmS file (toS x1.at_)) 0 (recS (gen1 x1.gen) l)) F := hw6
        have hDD : ∀ k, D6 k → D k ∨ w.heap.size ≤ k := fun k q => by
          rcases hD6 k q with r | r
          · exact .inl r
          · exact .inr (by omega)
        rw [if_neg (by rw [hf1]; exact Bool.noConfusion)] at hR
        refine letX1 (fun (e : Int) u => (e = 0 ∧ F ((st1.ops + 1 : Nat) : Int) = false ∧ ∃ D', Keep (fun k => D k ∨ k = ss) w u ∧ IsWq u pw D' (synced (stepW st1 (nmS file (toS x1.at_)) 0 (recS (gen1 x1.gen) l))) F ∧ (∀ k, D' k → D k ∨ w.heap.size ≤ k) ∧ IsSl u ss pw file false x1.at_ x1.gen) ∨
          (e = 6 ∧ F ((st1.ops + 1 : Nat) : Int) = true ∧ Keep (fun k => D k ∨ k = ss) w u ∧ IsWq u pw D6 (more (stepW st1 (nmS file (toS x1.at_)) 0 (recS (gen1 x1.gen) l)) 1) F ∧ IsSl u ss pw file false x1.at_ x1.gen)) ?_ (fun J3 => ?_)
        · rintro e w7 (⟨rfl, hf2, D7, hk7, hw7, hD7, hS7⟩ | ⟨rfl, hf2, hk7, hw7, hS7⟩)
          · rw [if_neg (by rw [hf2]; exact Bool.noConfusion)] at hR
            have nD7 : ¬ D7 ss := fun q => by rcases hD7 _ q with r | r
                                              · exact hps r
                                              · omega
            refine br_f rfl ⟨rfl, (x1.gen : Int), by rw [Blk.cell hS7]; rfl, rfl, ?_⟩
            rw [gen1_wrap]
            refine put_slq hS7 nD7 hw7 (by show 3 < 5; decide) rfl fun w8 hS8 hw8 hk8 => ⟨rfl, ?_⟩
            refine put_slq hS8 nD7 hw8 (by show 4 < 5; decide) rfl fun w9 hS9 hw9 hk9 => ⟨rfl, ?_⟩
            refine put_slq hS9 nD7 hw9 (by show 2 < 5; decide) rfl fun w10 hS10 hw10 hk10 => ?_
            refine ⟨rfl, ((gen1 x1.gen : Nat) : Int), by rw [Blk.cell hS10]; rfl, ?_⟩
            have hkf : Keep (fun k => k = ss) w7 w10 := (hk8.trans hk9 fun _ _ q => q).trans hk10 fun _ _ q => q
            exact hR w10 D7 _ (hk7.trans hkf fun _ _ q => .inr q) hw10 hD7 hS10
          · rw [if_pos hf2] at hR
            exact br_t rfl (hR w7 D6 _ hk7 hw7 hDD hS7)
        · refine br_t rfl ⟨rfl, some ⟨pw, 0, none⟩, by rw [Blk.cell hS6]; rfl, ?_⟩
          refine sync_any hw6 (wokA _) (by show st1.ops + 1 < _; omega) (by show (st1.waits ++ [_]).length < _; rw [List.length_append, e3]; show st.waits.length + 1 < _; omega) (fun hf2 w7 D7 hk7 hw7 hD7 => ?_) (fun hf2 w7 hk7 hw7 => ?_)
          · refine J3 0 w7 (.inl ⟨rfl, hf2, D7, hk06.trans hk7 fun i hi q => ?_, hw7, fun k q => ?_, hk7.heap hS6 nD6⟩)
            · rcases hD6 i q with r | r
              · exact .inl r
              · omega
            · rcases hD7 k q with r | r
              · exact hDD k r
              · exact .inr (by omega)
          · refine J3 6 w7 (.inr ⟨rfl, hf2, hk06.trans hk7 fun i hi q => ?_, hw7, hk7.heap hS6 nD6⟩)
            rcases hD6 i q with r | r
            · exact .inl r
            · omega
      · rw [if_pos hf1] at hR
        have hS6 : IsSl w6 ss pw file false x1.at_ x1.gen := hk6.heap (hg25.heap hS2 (fun q => q)) hps
        have hk06 : Keep (fun k => D k ∨ k = ss) w w6 := (hk12.grow hg25).trans hk6 fun _ _ q => .inl q
        refine letX1 (fun (e : Int) u => e = 6 ∧ u = w6) (fun e u q => ?_) (fun J3 => br_f rfl (J3 6 w6 ⟨rfl, rfl⟩))
        obtain ⟨rfl, rfl⟩ := q
        exact br_t rfl (hR u D _ hk06 hw6 (fun _ q => .inl q) hS6)
    · refine br_eq (fun q => J2 1 w2 ⟨rfl, ?_⟩) (fun q => J2 0 w2 ⟨rfl, ?_⟩)
      · unfold toS; rw [if_pos q]; rfl
      · unfold toS; rw [if_neg q]; rfl
  · cases hsu : x.sure with
    | true =>
      rw [hsu, if_pos rfl] at h
      exact br_f rfl (J w ⟨st, x, Keep.refl _ _, hw, hS, rfl, rfl, rfl, by omega, h⟩)
    | false =>
      rw [hsu, if_neg Bool.noConfusion] at h
      refine br_t rfl (slots_load_any hS hps hw hf (by omega) fun best u hk hu hSu hb => ?_)
      by_cases q6 : (slLoadX F st file x).1 = 6
      · rw [if_pos q6] at h
        rw [q6]
        exact br_t rfl (by have := h u D 0 hk hu (fun _ q => .inl q) hSu; exact this)
      · rw [if_neg q6] at h
        have hst : (slLoadX F st file x).2.2.2.2.seen = st.seen ∧ (slLoadX F st file x).2.2.2.2.dur = st.dur ∧ (slLoadX F st file x).2.2.2.2.waits = st.waits ∧ (slLoadX F st file x).2.2.2.2.ops ≤ st.ops + 2 := by
          unfold slLoadX
          split
          · rename_i k hk'
            have := List.mem_range.1 (List.mem_of_find?_eq_some hk')
            exact ⟨rfl, rfl, rfl, by show st.ops + (k + 1) ≤ _; omega⟩
          · exact ⟨rfl, rfl, rfl, Nat.le_refl _⟩
        have h08 : (slLoadX F st file x).1 = 0 ∨ (slLoadX F st file x).1 = 8 := by
          revert q6
          unfold slLoadX
          split
          · exact fun q => absurd rfl q
          · intro _
            dsimp only
            split
            · exact .inr rfl
            · exact .inl rfl
        refine br_f ?_ (J u ⟨_, _, hk, hu, hSu, hst.1, hst.2.1, hst.2.2.1, hst.2.2.2, h⟩)
        rcases h08 with e | e <;> rw [e] <;> rfl
end Go.Proofs.YtpmebahhjgkflaaGreatDoor

/- Rows of bytes of one's own that grow; the bytes of a string. -/
namespace Go.Proofs.YtpmebahhjgkflaaGreatDoor
open Go CF
set_option maxRecDepth 100000

/-- a row of bytes that began behind w0 -/
structure Row (w0 u : World) (p : Sl) (l : L8) : Prop where
  own : Own u w0.heap.size t_uint8 1 p (bv l)
  grow : Grow w0 u
section
variable {w0 u u' : World} {p : Sl} {os : L8}
theorem Row.n (h : Row w0 u p os) : p.n = os.length := own_n' h.own
theorem Row.nil (h : Grow w0 u) : Row w0 u nilS [] := ⟨own_nil _ _ _ _, h⟩
theorem Row.step {p' : Sl} {os' : L8} (h : Row w0 u p os) (hown : Own u' w0.heap.size t_uint8 1 p' (bv os')) (hk : Keep (fun k => some k = p.blk) u u') : Row w0 u' p' os' := ⟨hown, own_grow' h.grow h.own (Nat.le_refl _) hk⟩
theorem Row.go (h : Row w0 u p os) (g : Grow u u') : Row w0 u' p os := ⟨h.own.grow g, h.grow.trans g⟩
theorem Row.keep {S : Nat → Prop} (h : Row w0 u p os) (k : Keep S u u') (hs : ∀ b, p.blk = some b → ¬ S b) (hg : ∀ i, i < w0.heap.size → ¬ S i) : Row w0 u' p os := ⟨h.own.keep k hs, h.grow.keep k hg⟩
/-- a block of another type is none of the row's -/
theorem Row.ne (h : Row w0 u p os) {b : Nat} {cs : Array Value} {t : TypeId} (hb : Blk u b cs t) (ht : t ≠ t_uint8) : some b ≠ p.blk := fun q => by
  obtain ⟨cur, hc⟩ := own_heap h.own q.symm
  exact ht (blk_type hb hc)
theorem Row.blk (h : Row w0 u p os) (hk : Keep (fun k => some k = p.blk) u u') {b : Nat} {cs : Array Value} {t : TypeId} (hb : Blk u b cs t) (ht : t ≠ t_uint8) : Blk u' b cs t := hk.heap hb (h.ne hb ht)
theorem Row.rd (h : Row w0 u p os) (hl : os.length ≤ 140737488355328) : Rd u 1 p (bv os) := h.own.rd (by have := h.n; omega)
theorem Row.app (h : Row w0 u p os) {x : Sl} {l : L8} (hx : Rd u 1 x (bv l)) (hb : os.length + l.length ≤ 140737488355328) {ty : TypeId} {K : Sl → World → Prop} (hK : ∀ p' u', Row w0 u' p' (os ++ l) → Keep (fun k => some k = p.blk) u u' → K p' u') :
    RunK Tryz.prog .sl (Builtin.append_ #[t_sl_uint8, t_sl_uint8] ty #[.slice p.A p.n p.c, .slice x.A x.n x.c]) u K := by
  have hxn := rd_n' hx
  have hpn := h.n
  refine append_rule u_sl_uint8 i_uint8 rfl (by decide) (by decide) h.own hx (bv_one' _) (by omega) h.grow.size fun s' w' hn hown hk _ => hK s' w' (h.step ?_ hk) hk
  rw [bv_append]; exact hown
theorem Row.str (h : Row w0 u p os) {l : L8} (hb : os.length + l.length ≤ 140737488355328) {ty : TypeId} {K : Sl → World → Prop} (hK : ∀ p' u', Row w0 u' p' (os ++ l) → Keep (fun k => some k = p.blk) u u' → K p' u') :
    RunK Tryz.prog .sl (Builtin.append_ #[t_sl_uint8, t_string] ty #[.slice p.A p.n p.c, .string (CF.str l)]) u K := by
  have hpn := h.n
  exact append_str_rule u_sl_uint8 u_string i_uint8 h.own (by omega) h.grow.size fun o' w' _ hown hk _ => hK o' w' (h.step hown hk) hk
theorem Row.lit (h : Row w0 u p os) {n : Nat} {parts : Array (Nat × Value)} {l : L8} {t ty : TypeId} (hr : (Instr.buildSlice t n parts).run Tryz.prog u = .ok (.slice (some ⟨u.heap.size, 0, none⟩) n n) (u.alloc (.cells (bv l).toArray t_uint8))) (hn : n = l.length)
    (hb : os.length + l.length ≤ 140737488355328) {K : Sl → World → Prop} (hK : ∀ p' u', Row w0 u' p' (os ++ l) → Keep (fun k => some k = p.blk) u u' → K p' u') :
    RunK Tryz.prog .sl (Instr.buildSlice t n parts) u fun xs u1 => RunK Tryz.prog .sl (Builtin.append_ #[t_sl_uint8, t_sl_uint8] ty #[.slice p.A p.n p.c, .slice xs.A xs.n xs.c]) u1 K := by
  refine lit_rule (cells := (bv l).toArray) (e := t_uint8) (z := 1) (base := 0) hr (by simp [bv, hn]) (by omega) (Nat.zero_le _) fun u1 hown1 hg1 _ => ?_
  have hx : Rd u1 1 ⟨some ⟨u.heap.size, 0, none⟩, n, n⟩ (bv l) := hown1.rd (by show n ≤ _; omega)
  refine (h.go hg1).app hx hb fun p' u' hr' hk => hK p' u' hr' ⟨hk.os.trans hg1.os, hk.tape.trans hg1.tape, hk.output.trans hg1.output, Nat.le_trans hg1.size hk.size, fun k hlt hne => (hk.block k (by have := hg1.size; omega) hne).trans (hg1.block k hlt (fun q => q))⟩
theorem Row.start {n : Nat} {parts : Array (Nat × Value)} {l : L8} {t : TypeId} (hr : (Instr.buildSlice t n parts).run Tryz.prog u = .ok (.slice (some ⟨u.heap.size, 0, none⟩) n n) (u.alloc (.cells (bv l).toArray t_uint8))) (hn : n = l.length) (hb : l.length ≤ 140737488355328)
    {K : Sl → World → Prop} (hK : ∀ p' u', Row u u' p' l → K p' u') : RunK Tryz.prog .sl (Instr.buildSlice t n parts) u K :=
  lit_rule (cells := (bv l).toArray) (e := t_uint8) (z := 1) (base := u.heap.size) hr (by simp [bv, hn]) (by omega) (Nat.le_refl _) fun u1 hown1 hg1 _ => hK _ u1 ⟨hown1, hg1⟩
theorem keep_grow_first {S : Nat → Prop} {a b c : World} (g : Grow a b) (k : Keep S b c) : Keep S a c := Keep.trans (g.mono fun _ _ q => q.elim) k fun _ _ q => q
/-- elements of slices of one cell each -/
theorem rd_val {w : World} {s : Sl} {vs : List Value} (h : Rd w 1 s vs) {i : Nat} (hi : i < vs.length) : s.A.isSome = true ∧ w.cell? ((gA s.A).add (i * 1)) = some vs[i] := by
  have hne : vs ≠ [] := fun q => by rw [q] at hi; simp at hi
  obtain ⟨a, ha, hc⟩ := h.at_ hne
  rw [ha]
  exact ⟨rfl, by rw [Nat.mul_one]; exact hc i _ (List.getElem?_eq_getElem hi)⟩
end
end Go.Proofs.YtpmebahhjgkflaaGreatDoor

/- Layer 7: what each nexus has still to be told. -/
namespace Go.Proofs.YtpmebahhjgkflaaGreatDoor
open Go CF
set_option maxRecDepth 100000

/-! ### as it is meant -/
def rankX (n : Nat) : Nat := if n / 256 = 41 then 0 else if n = 12032 then 1 else if n / 256 = 42 ∧ n ≠ 10753 then 2 else 3
def baseA (l : List Nat) (c : Nat) : List Nat := if c = 10496 then [] else l
def addA (l : List Nat) (c : Nat) : List Nat := if c ∈ baseA l c then l else if (baseA l c).length < 8 then baseA l c ++ [c] else l
def bestN (l : List Nat) : Nat → Option Nat
  | 0 => none
  | k + 1 => match bestN l k with
    | none => some k
    | some b => if rankX (l.getD k 0) < rankX (l.getD b 0) then some k else some b
def peekX (l : List Nat) : Option Nat := (bestN l l.length).map fun i => l.getD i 0
def nextX (l : List Nat) : List Nat := match bestN l l.length with
  | none => l
  | some i => l.take i ++ l.drop (i + 1)
theorem bestN_lt (l : List Nat) : ∀ k b, bestN l k = some b → b < k
  | 0, b, h => by cases h
  | k + 1, b, h => by
    unfold bestN at h
    split at h
    · injection h with h; omega
    · rename_i b' hb
      have := bestN_lt l k b' hb
      split at h <;> (injection h with h; omega)
theorem addA_ok {l : List Nat} {c : Nat} (hl : l.length ≤ 8) (hc : c < 65536) (h : ∀ x ∈ l, x < 65536) : (addA l c).length ≤ 8 ∧ ∀ x ∈ addA l c, x < 65536 := by
  unfold addA
  split
  · exact ⟨hl, h⟩
  split
  · rename_i hb
    refine ⟨by rw [List.length_append]; simp only [List.length_singleton]; omega, fun x hx => ?_⟩
    rcases List.mem_append.1 hx with q | q
    · unfold baseA at q
      split at q
      · cases q
      · exact h x q
    · rw [List.mem_singleton.1 q]; exact hc
  · exact ⟨hl, h⟩
theorem nextX_ok {l : List Nat} (hl : l.length ≤ 8) (h : ∀ x ∈ l, x < 65536) : (nextX l).length ≤ 8 ∧ ∀ x ∈ nextX l, x < 65536 := by
  unfold nextX
  split
  · exact ⟨hl, h⟩
  · refine ⟨by rw [List.length_append, List.length_take, List.length_drop]; omega, fun x hx => ?_⟩
    rcases List.mem_append.1 hx with q | q
    · exact h x (List.mem_of_mem_take q)
    · exact h x (List.mem_of_mem_drop q)
/-! ### in memory -/
def u16v (l : List Nat) : List Value := l.map fun n : Nat => .int .u16 (n : Int)
theorem u16v_len (l : List Nat) : (u16v l).length = l.length := List.length_map ..
theorem u16v_one (l : List Nat) : ∀ v ∈ u16v l, v.oneCell' = true := fun v hv => by
  obtain ⟨n, _, rfl⟩ := List.mem_map.1 hv; rfl
theorem u16v_append (a b : List Nat) : u16v (a ++ b) = u16v a ++ u16v b := List.map_append ..
def slv (s : Sl) : Value := .slice s.A s.n s.c
/-- the types whose rows units keep -/
def rowT (t : TypeId) : Prop := t = t_uint16 ∨ t = t_api_Reg ∨ t = t_p_unit_Unit
/-- what is written over is N's, or holds no row that a unit keeps -/
def Safe (w : World) (N S : Nat → Prop) : Prop := ∀ b, b < w.heap.size → S b → N b ∨ ∃ cs t, Blk w b cs t ∧ ¬ rowT t
theorem Safe.sub {w : World} {N S : Nat → Prop} (h : ∀ b, b < w.heap.size → S b → N b) : Safe w N S := fun b hb q => .inl (h b hb q)
theorem Safe.none (w : World) (N : Nat → Prop) : Safe w N fun _ => False := fun _ _ q => q.elim
/-- a row that a unit keeps, outside a set -/
structure RdN (w : World) (N : Nat → Prop) (e : TypeId) (z : Nat) (s : Sl) (vs : List Value) : Prop where
  own : CF.Own w 0 e z s vs
  small : s.n ≤ 140737488355328
  out : ∀ b, s.blk = some b → ¬ N b
theorem RdN.rd {w : World} {N : Nat → Prop} {e : TypeId} {z : Nat} {s : Sl} {vs : List Value} (h : RdN w N e z s vs) : Rd w z s vs := h.own.rd (by have := h.small; omega)
theorem RdN.nil (w : World) (N : Nat → Prop) (e : TypeId) (z : Nat) : RdN w N e z nilS [] := ⟨own_nil _ _ _ _, by decide, fun b h => by simp [Sl.blk] at h⟩
theorem RdN.step {S N N' : Nat → Prop} {w u : World} {e : TypeId} {z : Nat} {s : Sl} {vs : List Value} (h : RdN w N e z s vs) (he : rowT e) (k : Keep S w u) (hS : Safe w N S) (hN : ∀ b, N' b → N b ∨ w.heap.size ≤ b) : RdN u N' e z s vs := by
  have hlt : ∀ b, s.blk = some b → b < w.heap.size := fun b hb => by obtain ⟨cur, hc⟩ := own_heap h.own hb; exact lt_of_heap hc
  refine ⟨h.own.keep k fun b hb q => ?_, h.small, fun b hb q => ?_⟩
  · rcases hS b (hlt b hb) q with r | ⟨cs, t, hb2, ht⟩
    · exact h.out b hb r
    · obtain ⟨cur, hc⟩ := own_heap h.own hb
      exact ht (by rw [blk_type hb2 hc]; exact he)
  · rcases hN _ q with r | r
    · exact h.out b hb r
    · have := hlt b hb; omega
theorem RdN.grow {N : Nat → Prop} {w u : World} {e : TypeId} {z : Nat} {s : Sl} {vs : List Value} (h : RdN w N e z s vs) (k : Grow w u) : RdN u N e z s vs := ⟨h.own.grow k, h.small, h.out⟩
theorem CF.Own.rdN {w v : World} {N : Nat → Prop} {e : TypeId} {z : Nat} {s : Sl} {vs : List Value} (h : CF.Own v w.heap.size e z s vs) (hn : s.n ≤ 140737488355328) (hN : ∀ b, N b → b < w.heap.size) : RdN v N e z s vs :=
  ⟨h.mono (Nat.zero_le _), hn, fun b hb q => by
    have := h.ge b hb
    have := hN _ q; omega⟩
structure IsQ (w : World) (N : Nat → Prop) (qb : Nat) (q : Nat → List Nat) : Prop where
  rep : ∃ ss : List Sl, ss.length = 8 ∧ Blk w qb (ss.map slv).toArray t_attn_Queues ∧ ∀ i (h : i < ss.length), RdN w N t_uint16 1 ss[i] (u16v (q i))
  few : ∀ i, i < 8 → (q i).length ≤ 8 ∧ ∀ c ∈ q i, c < 65536
section
variable {w u : World} {N N' S : Nat → Prop} {qb i : Nat} {q : Nat → List Nat}
theorem IsQ.step (h : IsQ w N qb q) (k : Keep S w u) (hS : Safe w N S) (hq : ¬ S qb) (hN : ∀ b, N' b → N b ∨ w.heap.size ≤ b) : IsQ u N' qb q := by
  obtain ⟨⟨ss, h1, h2, h3⟩, h4⟩ := h
  exact ⟨⟨ss, h1, k.heap h2 hq, fun i hi => (h3 i hi).step (.inl rfl) k hS hN⟩, h4⟩
theorem IsQ.grow (h : IsQ w N qb q) (k : Grow w u) : IsQ u N qb q := h.step k (Safe.none _ _) (fun q => q) fun _ q => .inl q
theorem IsQ.lt (h : IsQ w N qb q) : qb < w.heap.size := by
  obtain ⟨⟨ss, h1, h2, h3⟩, h4⟩ := h
  exact lt_of_heap h2
theorem shr8 {n : Nat} : bShr .u16 (n : Int) 8 = ((n / 256 : Nat) : Int) := shr .u16 n 8 (by decide)
theorem rank_spec {n : Nat} {R : Int → World → Prop} (h : R (rankX n : Int) w) : Cattn_rank (n : Int) w R := by
  refine Fattn_rank.calls _ _ _ ?_
  unfold Fattn_rank
  rw [shr8]
  unfold rankX at h
  refine br_eq (fun e => ?_) (fun e => br_eq (fun e1 => ?_) (fun e1 => ?_))
  · rw [if_pos (by omega)] at h; exact h
  · rw [if_neg (by omega), if_pos (by omega)] at h; exact h
  · rw [if_neg (by omega), if_neg (by omega)] at h
    by_cases q : n / 256 = 42 ∧ n ≠ 10753
    · rw [if_pos q] at h
      refine br_t ?_ h
      simp only [Bool.and_eq_true, beq_iff_eq, bne_iff_ne, ne_eq]
      omega
    · rw [if_neg q] at h
      refine br_f ?_ h
      rw [Bool.eq_false_iff]
      simp only [ne_eq, Bool.and_eq_true, beq_iff_eq, bne_iff_ne]
      omega
theorem qin_spec {R : Bool → World → Prop} (hi : i < 8) (h : R true w) : Cattn_Queues_in (some ⟨qb, 0, none⟩) (i : Int) w R := by
  refine Fattn_Queues_in.calls _ _ _ _ ?_
  unfold Fattn_Queues_in
  have e : (((!(some (⟨qb, 0, none⟩ : Addr)).isNone) && (decide ((i : Int) ≥ 0))) && (decide ((i : Int) < 8))) = true := by simp; omega
  rw [e]; exact h
theorem q_cell (ss : List Sl) (hb : Blk w qb (ss.map slv).toArray t_attn_Queues) (hi : i < ss.length) : w.cell? (((gA (some (⟨qb, 0, none⟩ : Addr))).add 0).add ((i : Int).toNat * 1)) = some (.slice ss[i].A ss[i].n ss[i].c) := by
  rw [gA, add0, add0, hb.cell, Int.toNat_natCast]
  simp [hi, slv]
theorem best_first {R : Int → World → Prop} (h : IsQ w N qb q) (hi : i < 8) (hR : ∀ w', Grow w w' → R (match bestN (q i) (q i).length with | none => -1 | some b => (b : Int)) w') : Cattn_Queues_first (some ⟨qb, 0, none⟩) (i : Int) w R := by
  refine Fattn_Queues_first.calls _ _ _ _ (qin_spec hi (br_f rfl ?_))
  obtain ⟨⟨ss, h1, h2, h3⟩, h4⟩ := h
  have hi' : i < ss.length := by omega
  have hr := h3 i hi'
  have hlen : (q i).length = ss[i].n := by have := hr.rd.len; rw [u16v_len] at this; omega
  have hsm := (h4 i hi).1
  refine ⟨rfl, ⟨by omega, by omega⟩, ss[i], q_cell ss h2 hi', ?_⟩
  refine ⟨fun b x v => ∃ j : Nat, x = j ∧ j ≤ (q i).length ∧ Grow w v ∧ b = (match bestN (q i) j with | none => -1 | some b => (b : Int)), fun _ x _ => ss[i].n - x.toNat, ⟨0, rfl, Nat.zero_le _, Keep.refl _ _, rfl⟩, ?_⟩
  rintro b x v ⟨j, rfl, hj, hg, rfl⟩
  refine br_nat (fun hlt => ?_) (fun hge => ?_)
  · have hjl : j < (q i).length := by omega
    have hrv := hr.rd.grow hg
    obtain ⟨ha, hc⟩ := rd_val hrv (i := j) (by rw [u16v_len]; exact hjl)
    have hev : ∀ {t : Nat} (ht : t < (q i).length), (u16v (q i))[t]'(by rw [u16v_len]; exact ht) = .int .u16 (((q i).getD t 0 : Nat) : Int) := fun ht => by
      unfold u16v; rw [List.getElem_map, List.getD_eq_getElem?_getD, List.getElem?_eq_getElem ht]; rfl
    rw [hev hjl] at hc
    have step : ∀ {b1 : Int} {v' : World}, Grow v v' → b1 = (match bestN (q i) (j + 1) with | none => -1 | some b => (b : Int)) →
        (fun (b : Int) (x : Int) (v : World) => ∃ j : Nat, x = j ∧ j ≤ (q i).length ∧ Grow w v ∧ b = (match bestN (q i) j with | none => -1 | some b => (b : Int))) b1 (IntKind.wrap .i64 ((j : Int) + 1)) v' ∧ ss[i].n - (IntKind.wrap .i64 ((j : Int) + 1)).toNat < ss[i].n - (j : Int).toNat := fun g e => by
      rw [w64 (by omega) (by omega)]
      exact ⟨⟨j + 1, by omega, by omega, hg.trans g, e⟩, by omega⟩
    refine letX1 (fun b1 v' => Grow v v' ∧ b1 = (match bestN (q i) (j + 1) with | none => -1 | some b => (b : Int))) (fun b1 v' hb => step hb.1 hb.2) (fun J => ?_)
    refine ⟨⟨by omega, by omega, ha⟩, _, by rw [Int.toNat_natCast]; exact hc, ?_⟩
    rintro v1 rfl
    have hgd := keep_drew v
    have hg1 := hg.trans hgd
    have hb2 : Blk v.drew qb (ss.map slv).toArray t_attn_Queues := hg1.heap h2 (fun q => q)
    have hrd := hr.rd.grow hg1
    generalize v.drew = v1 at *
    cases hb : bestN (q i) j with
    | none =>
      dsimp only
      have e : bestN (q i) (j + 1) = some j := by unfold bestN; rw [hb]
      have nb : ∀ {P : Prop}, (!(decide ((-1 : Int) < 0))) = true → P := fun q => by simp at q
      refine ⟨fun o => o = v1, rfl, nb, nb, nilS, nb, nb, 0, nb, ?_⟩
      refine letJ1 (fun _ o => o = v1) ?_ (fun J2 => ⟨nb, fun _ => J2 _ _ rfl⟩)
      rintro _ o rfl
      refine ⟨rfl, ?_⟩
      refine letJ1 (fun _ o' => o' = o) ?_ (fun J2 => ⟨nb, fun _ => J2 _ _ rfl⟩)
      rintro _ o' rfl
      exact br_t rfl (J _ _ ⟨hgd, by rw [e]⟩)
    | some b =>
      dsimp only
      have hbj := bestN_lt _ _ _ hb
      obtain ⟨_, hcb⟩ := rd_val hrd (i := b) (by rw [u16v_len]; omega)
      rw [hev (by omega)] at hcb
      have nb : (!(decide (((b : Nat) : Int) < 0))) = true := by rw [Bool.not_eq_true', decide_eq_false_iff_not]; omega
      have nb' : ∀ {P : Prop}, (!(decide (((b : Nat) : Int) < 0))) = false → P := fun q => by rw [nb] at q; cases q
      refine ⟨fun o => o = v1, rfl, fun _ => rfl, fun _ => ⟨by omega, by omega⟩, ss[i], fun _ o e => by rw [e]; exact q_cell ss hb2 hi', fun _ => ⟨by omega, by omega, ha⟩, _, fun _ o e => by rw [e, Int.toNat_natCast]; exact hcb, ?_⟩
      refine letJ1 (fun n o => o = v1 ∧ n = (rankX ((q i).getD j 0) : Int)) ?_ (fun J2 => ⟨fun _ => rank_spec (J2 _ _ ⟨rfl, rfl⟩), nb'⟩)
      rintro n2 o ⟨rfl, rfl⟩
      refine ⟨rfl, ?_⟩
      refine letJ1 (fun n o' => o' = o ∧ n = (rankX ((q i).getD b 0) : Int)) ?_ (fun J2 => ⟨fun _ => rank_spec (J2 _ _ ⟨rfl, rfl⟩), nb'⟩)
      rintro n3 o' ⟨rfl, rfl⟩
      by_cases hlt2 : rankX ((q i).getD j 0) < rankX ((q i).getD b 0)
      · refine br_t (by rw [Bool.or_eq_true]; right; rw [decide_eq_true_eq]; omega) (J _ _ ⟨hgd, ?_⟩)
        have e : bestN (q i) (j + 1) = some j := by unfold bestN; rw [hb]; exact if_pos hlt2
        rw [e]
      · refine br_f (by rw [Bool.or_eq_false_iff]; exact ⟨by rw [decide_eq_false_iff_not]; omega, by rw [decide_eq_false_iff_not]; omega⟩) (J _ _ ⟨hgd, ?_⟩)
        have e : bestN (q i) (j + 1) = some b := by unfold bestN; rw [hb]; exact if_neg hlt2
        rw [e]
  · have : j = (q i).length := by omega
    subst this
    exact hR v hg
theorem q_at {l : List Nat} {s : Sl} (h : Rd w 1 s (u16v l)) {b : Nat} (hb : b < l.length) : s.A.isSome = true ∧ w.cell? ((gA s.A).add (b * 1)) = some (.int .u16 ((l.getD b 0 : Nat) : Int)) := by
  obtain ⟨h1, h2⟩ := rd_val h (i := b) (by rw [u16v_len]; exact hb)
  refine ⟨h1, h2.trans ?_⟩
  unfold u16v; rw [List.getElem_map, List.getD_eq_getElem?_getD, List.getElem?_eq_getElem hb]; rfl
theorem peek_spec {R : Int → Bool → World → Prop} (h : IsQ w N qb q) (hi : i < 8) (hR : ∀ w', Grow w w' → match peekX (q i) with | none => R 0 false w' | some c => R (c : Int) true w') : Cattn_Queues_Peek (some ⟨qb, 0, none⟩) (i : Int) w R := by
  refine Fattn_Queues_Peek.calls _ _ _ _ (best_first h hi fun w' g => ?_)
  have hR := hR w' g
  unfold peekX at hR
  have h := h.grow g
  cases hb : bestN (q i) (q i).length with
  | none => rw [hb] at hR; exact br_t rfl hR
  | some b =>
    rw [hb] at hR
    have hbl := bestN_lt _ _ _ hb
    refine br_f (by simp) ?_
    dsimp only
    obtain ⟨⟨ss, h1, h2, h3⟩, h4⟩ := h
    have hi' : i < ss.length := by omega
    have hr := h3 i hi'
    have hlen : (q i).length = ss[i].n := by have := hr.rd.len; rw [u16v_len] at this; omega
    obtain ⟨ha, hc⟩ := q_at hr.rd hbl
    exact ⟨rfl, ⟨by omega, by omega⟩, ss[i], q_cell ss h2 hi', ⟨by omega, by omega, ha⟩, _, by rw [Int.toNat_natCast]; exact hc, hR⟩
theorem IsQ.put (h : IsQ w N qb q) (hi : i < 8) (hN : N qb) {s : Sl} {l : List Nat} (hs : RdN w N t_uint16 1 s (u16v l)) (hl : l.length ≤ 8 ∧ ∀ c ∈ l, c < 65536) {K : World → Prop}
    (hK : ∀ w', Keep (fun k => k = qb) w w' → w'.heap.size = w.heap.size → IsQ w' N qb (fun j => if j = i then l else q j) → K w') : Put (((gA (some (⟨qb, 0, none⟩ : Addr))).add 0).add ((i : Int).toNat * 1)) (.slice s.A s.n s.c) w K := by
  obtain ⟨⟨ss, h1, h2, h3⟩, h4⟩ := h
  rw [gA, add0, add0, Int.toNat_natCast]
  refine put_rule h2 (by simp; omega) rfl fun w1 hb1 hk1 hs1 => hK w1 hk1 hs1 ⟨⟨ss.set i s, by rw [List.length_set]; exact h1, ?_, fun j hj => ?_⟩, fun j hj => ?_⟩
  · rw [List.map_set]
    have : (ss.map slv).toArray.setIfInBounds (0 + 0 + i * 1) (.slice s.A s.n s.c) = ((ss.map slv).set i (slv s)).toArray := by rw [List.setIfInBounds_toArray]; simp [slv]
    rw [← this]; exact hb1
  · have st : ∀ {s : Sl} {vs : List Value}, RdN w N t_uint16 1 s vs → RdN w1 N t_uint16 1 s vs := fun r => r.step (.inl rfl) hk1 (Safe.sub fun b _ q => by rw [q]; exact hN) fun _ q => .inl q
    by_cases e : j = i
    · subst e
      rw [List.getElem_set_self, if_pos rfl]
      exact st hs
    · rw [List.getElem_set_ne (fun q => e q.symm), if_neg e]
      exact st (h3 j _)
  · by_cases e : j = i
    · subst e; rw [if_pos rfl]; exact hl
    · rw [if_neg e]; exact h4 j hj
theorem lit_u16 (w : World) (n : Int) : (Instr.buildSlice t_sl_uint16 1 #[(0, .int .u16 n)]).run Tryz.prog w = .ok (.slice (some ⟨w.heap.size, 0, none⟩) 1 1) (w.alloc (.cells #[.int .u16 n] t_uint16)) := by kernel_rfl
theorem add_spec {c : Nat} {R : World → Prop} (h : IsQ w N qb q) (hi : i < 8) (hc : c < 65536) (hN : N qb) (hNl : ∀ b, N b → b < w.heap.size)
    (hR : ∀ w', Keep (fun k => k = qb) w w' → IsQ w' N qb (fun j => if j = i then addA (q i) c else q j) → R w') : Cattn_Queues_Add (some ⟨qb, 0, none⟩) (i : Int) (c : Int) w R := by
  refine Fattn_Queues_Add.calls _ _ _ _ _ (qin_spec hi (br_f rfl ?_))
  have hq := h
  have hok := addA_ok (l := q i) (c := c) (h.few i hi).1 hc (h.few i hi).2
  obtain ⟨⟨ss, h1, h2, h3⟩, h4⟩ := h
  have hi' : i < ss.length := by omega
  have hr := h3 i hi'
  have hlen : (q i).length = ss[i].n := by have := hr.rd.len; rw [u16v_len] at this; omega
  have hsm := (h4 i hi).1
  refine ⟨rfl, ⟨by omega, by omega⟩, ss[i], q_cell ss h2 hi', ?_⟩
  have same : addA (q i) c = q i → R w := fun e => hR w (Keep.refl _ _) (by
    have : (fun j => if j = i then addA (q i) c else q j) = q := by
      funext j
      by_cases e' : j = i
      · subst e'; rw [if_pos rfl, e]
      · rw [if_neg e']
    rw [this]; exact hq)
  refine letX1 (fun (l : Sl) v => v = w ∧ RdN w N t_uint16 1 l (u16v (baseA (q i) c))) ?_ (fun J => ?_)
  · rintro l v ⟨rfl, hl⟩
    generalize hB : baseA (q i) c = B at *
    have hBn : B.length = l.n := by have := hl.rd.len; rw [u16v_len] at this; omega
    have hB8 : B.length ≤ 8 := by rw [← hB]; unfold baseA; split; exact Nat.zero_le _; exact hsm
    have hA : addA (q i) c = if c ∈ B then q i else if B.length < 8 then B ++ [c] else q i := by unfold addA; rw [hB]
    refine ⟨fun x u => ∃ j : Nat, x = j ∧ j ≤ B.length ∧ u = v ∧ ∀ t, t < j → B.getD t 0 ≠ c, fun x _ => l.n - x.toNat, ⟨0, rfl, Nat.zero_le _, rfl, fun t ht => by omega⟩, ?_⟩
    rintro x u ⟨j, rfl, hj, rfl, hno⟩
    refine br_nat (fun hlt => ?_) (fun hge => ?_)
    · have hjl : j < B.length := by omega
      obtain ⟨ha, hcl⟩ := q_at hl.rd hjl
      refine ⟨⟨by omega, by omega, ha⟩, _, by rw [Int.toNat_natCast]; exact hcl, ?_⟩
      refine br_eq (fun e => ?_) (fun e => ?_)
      · refine same ?_
        rw [hA, if_pos]
        have : B.getD j 0 = c := by omega
        rw [← this, List.getD_eq_getElem?_getD, List.getElem?_eq_getElem hjl]
        exact List.getElem_mem hjl
      · rw [w64 (by omega) (by omega)]
        refine ⟨⟨j + 1, by omega, by omega, rfl, fun t ht => ?_⟩, by dsimp only; omega⟩
        by_cases q : t = j
        · subst q; omega
        · exact hno t (by omega)
    · have hnm : ¬ c ∈ B := fun hm => by
        obtain ⟨t, ht, e⟩ := List.getElem_of_mem hm
        refine hno t (by omega) ?_
        rw [List.getD_eq_getElem?_getD, List.getElem?_eq_getElem ht]; exact e
      rw [if_neg hnm] at hA
      have d8 : (decide ((l.n : Int) < 8)) = decide (B.length < 8) := by rw [hBn, decide_eq_decide]; omega
      rw [d8]
      refine br_dec (fun h8 => ?_) (fun h8 => same (by rw [hA, if_neg h8]))
      rw [if_pos h8] at hA
      rintro u1 rfl
      have hgd := keep_drew u
      have hNd : ∀ b, N b → b < u.drew.heap.size := fun b hb => by have := hNl b hb; have := hgd.size; omega
      have hqd := hq.grow hgd
      have hld : RdN u.drew N t_uint16 1 l (u16v B) := hl.grow hgd
      generalize u.drew = u1 at *
      rw [hA] at hR hok
      have fin : ∀ {u3 : World} {x3 : Sl}, Grow u1 u3 → CF.Own u3 u1.heap.size t_uint16 1 x3 (u16v (B ++ [c])) → (0 ≤ (i : Int) ∧ (i : Int) < (8 : Int)) ∧ Put (((gA (some (⟨qb, 0, none⟩ : Addr))).add 0).add ((i : Int).toNat * 1)) (.slice x3.A x3.n x3.c) u3 fun w08 => R w08 := fun {u3 x3} g o => by
        have hx : x3.n = (B ++ [c]).length := by have := o.len; rw [u16v_len] at this; omega
        refine ⟨⟨by omega, by omega⟩, (hqd.grow g).put hi hN (o.rdN (by rw [hx]; simp; omega) hNd) hok fun w' hk hs hq' => hR w' (keep_grow_first (hgd.trans g) hk) hq'⟩
      refine ⟨rfl, ?_, ?_⟩
      · refine append_rule (base := u1.heap.size) u_sl_uint16 i_uint16 rfl (by decide) (by decide) (own_nil _ _ _ _) hld.rd (u16v_one _) (by show (0 + l.n) * 2 ≤ _; omega) (Nat.le_refl _) fun x1 v1 hn1 ho1 hk1 _ => ?_
        have g1 : Grow u1 v1 := hk1.mono fun i hi q => by simp [Sl.blk] at q
        refine lit_rule (cells := #[.int .u16 (c : Int)]) (e := t_uint16) (z := 1) (base := v1.heap.size) (lit_u16 _ _) rfl (by decide) (Nat.le_refl _) fun v2 ho2 hg2 _ => ?_
        refine append_rule u_sl_uint16 i_uint16 rfl (by decide) (by decide) (ho1.grow hg2) (ho2.rd (by show 1 ≤ _; decide)) (by simp [Value.oneCell']) (by rw [hn1]; show (0 + l.n + 1) * 2 ≤ _; omega) (by have := g1.size; have := hg2.size; omega) fun x3 v3 hn3 ho3 hk3 _ => ?_
        exact fin (own_grow' (g1.trans hg2) (ho1.grow hg2) (Nat.le_refl _) hk3) (by rw [u16v_append]; exact ho3)
      · refine lit_rule (cells := #[.int .u16 (c : Int)]) (e := t_uint16) (z := 1) (base := u1.heap.size) (lit_u16 _ _) rfl (by decide) (Nat.le_refl _) fun v1 ho1 hg1 _ => ?_
        have hl1 : Rd v1 1 l (u16v B) := hld.rd.grow hg1
        refine append_rule (base := u1.heap.size) u_sl_uint16 i_uint16 rfl (by decide) (by decide) (own_nil _ _ _ _) hl1 (u16v_one _) (by show (0 + l.n) * 2 ≤ _; omega) hg1.size fun x2 v2 hn2 ho2 hk2 _ => ?_
        have g2 : Grow v1 v2 := hk2.mono fun i hi q => by simp [Sl.blk] at q
        refine append_rule u_sl_uint16 i_uint16 rfl (by decide) (by decide) ho2 ((ho1.grow g2).rd (by show 1 ≤ _; decide)) (by simp [Value.oneCell']) (by rw [hn2]; show (0 + l.n + 1) * 2 ≤ _; omega) (by have := g2.size; have := hg1.size; omega) fun x3 v3 hn3 ho3 hk3 _ => ?_
        exact fin (own_grow' (hg1.trans g2) ho2 (Nat.le_refl _) hk3) (by rw [u16v_append]; exact ho3)
  · have ec : ((c : Int) == 10496) = decide (c = 10496) := by rw [Bool.eq_iff_iff, beq_iff_eq, decide_eq_true_eq]; omega
    rw [ec]
    refine br_dec (fun e => J _ _ ⟨rfl, by unfold baseA; rw [if_pos e]; exact RdN.nil _ _ _ _⟩) (fun e => J _ _ ⟨rfl, by unfold baseA; rw [if_neg e]; exact hr⟩)
end
end Go.Proofs.YtpmebahhjgkflaaGreatDoor
