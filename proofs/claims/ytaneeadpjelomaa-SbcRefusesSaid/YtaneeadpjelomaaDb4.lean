import Derived.Test.YtaneeadpjelomaaDb3
import Derived.Test.YtaneeadpjelomaaSt8
/- Layer 14: a command is done. -/
namespace Go.Proofs.Ytaneeadpjelomaa
open Go CF

def z10 : Array Value := #[.int .u8 0, .int .u8 0, .int .u16 0, .int .u64 0, .bool false, .int .i64 0, .int .i64 0, .bool false, .bool false, .slice none 0 0]
def unkS : Sn := ⟨5, 0x2400, 0, false, 1, 7, true, true⟩
def invS : Sn := ⟨5, 0x2000, 0, false, 0, 7, true, true⟩
/-- the blocks that a write lays -/
def cameB (kind : Nat) (c : Cm) (l : L8) (N : Nat) : List Bk := if c.prot = 0 then mkAll kind c.lba (unpB false l) N else unpB true l
theorem cameB_len {kind : Nat} {c : Cm} {l : L8} {N : Nat} (h : l.length / szB (decide (c.prot ≠ 0)) = N) : (cameB kind c l N).length = N := by
  unfold cameB
  split
  · rename_i q
    rw [mkAll_len, unpB_len]
    rw [decide_eq_false (by simpa using q)] at h
    exact h
  · rename_i q
    rw [unpB_len]
    rw [decide_eq_true (by simpa using q)] at h
    exact h
section
variable {w u : World} {dv ps pw : Nat} {file : ByteArray} {kind n : Nat} {cache : Bool} {D D' : Nat → Prop} {st st' : Wst} {bs bs' : List Bk} {m m' : Nat}
theorem Dv.put (h : Dv w dv ps pw file kind n cache D st bs m) {ab : Nat} {cs : Array Value} {t : TypeId} (hb : Blk w ab cs t) (h1 : t ≠ t_uint8) (h2 : t ≠ t_sbc_Dev) (h3 : t ≠ t_store_Store) (hn : ¬ D ab) (hk : Keep (fun k => k = ab) w u) :
    Dv u dv ps pw file kind n cache D st bs m := by
  refine ⟨hk.heap h.dev fun q => ?_, hk.heap h.isS fun q => ?_, isW_new h.isW hb h1 hn hk, h.nps, h.ndv, h.ok, h.tells, h.len, h.size, h.nm, h.kd, h.few⟩
  · have hd := h.dev
    rw [q] at hd
    exact h2 (blk_type hb hd)
  · have hd := h.isS
    rw [q] at hd
    exact h3 (blk_type hb hd)
theorem callK1_mono {P : Program} {f : FuncId} {args : Array Value} {w : World} {k : Kd} {R R' : k.T → World → Prop} (h : CallK P f args w [k] R) (hR : ∀ x w', R x w' → R' x w') : CallK P f args w [k] R' :=
  h.mono fun _ w' ⟨x, h1, h2⟩ => ⟨x, h1, by
    have h2 : R (k.un (k.mk x)) w' := h2
    show R' (k.un (k.mk x)) w'
    exact hR _ _ h2⟩
/-- what a command's own part leaves, in front of its last step -/
def Ends (D : Nat → Prop) (u : World) (ab : Nat) (R : Array Value → World → Prop) (g : Array Value) (v : World) : Prop :=
  Keep D u v ∧ ∃ (s : Nat) (sn : Sn) (d : Sl), g = (rsv s sn d).toArray ∧ ∀ v', Keep (fun k => k = ab) v v' → R g v'
theorem Ends.ret {ab : Nat} {R : Array Value → World → Prop} {g : Array Value} {v : World} (hb : Blk u ab z10 t_api_Result) (hn : ¬ D ab) (h : Ends D u ab R g v) :
    RunU Try.prog (storeVar t_api_Result ⟨ab, 0, none⟩ (.agg g)) v fun w' => ∃ res : Array Value, (loadVar t_api_Result ⟨ab, 0, none⟩).run Try.prog w' = .ok (.agg res) w' ∧ R res w' := by
  obtain ⟨h1, s, sn, d, rfl, h2⟩ := h
  exact ret_rule (h1.heap hb hn) rfl fun w' hk => h2 w' hk
/-- what the kinds of their own come to -/
def Part (D : Nat → Prop) (dv : Nat) (c : Cm) (p : Sl) (u : World) (K : Array Value → World → Prop) : Prop :=
  (c.kind = 10 → Csbc_Dev_verify (some ⟨dv, 0, none⟩) (cmv c).toArray p u K) ∧ (c.kind = 12 → Csbc_Dev_same (some ⟨dv, 0, none⟩) (cmv c).toArray p u K) ∧ (c.kind = 13 → Csbc_Dev_unmap (some ⟨dv, 0, none⟩) p u K) ∧
  (c.kind = 14 → Csbc_Dev_compare (some ⟨dv, 0, none⟩) (cmv c).toArray p u K) ∧ (c.kind = 6 → Csbc_Dev_capacity (some ⟨dv, 0, none⟩) (cmv c).toArray u K)
theorem known_spec {kind prot : Nat} {w : World} {R : Bool → World → Prop} (h : R (knownB kind prot) w) : Cpi_Known (kind : Int) (prot : Int) w R := by
  refine Fpi_Known.calls _ _ _ _ ?_
  have e : (decide ((kind : Int) ≤ 3) && (((prot : Int) == 0) || (decide ((kind : Int) > 0) && decide ((prot : Int) ≤ 4)))) = knownB kind prot := by
    unfold knownB
    rw [Bool.eq_iff_iff]
    simp only [Bool.and_eq_true, Bool.or_eq_true, decide_eq_true_eq, beq_iff_eq]
    omega
  unfold Fpi_Known
  rw [e]
  exact h
theorem do_spec {c : Cm} {p : Sl} {l : L8} {R : Array Value → World → Prop} (h : Dv w dv ps pw file kind n cache D st bs m) (hm : m ≤ 1000000) (hp : Rd w 1 p (bv l)) (hb : p.n ≤ 140737488351232) (hlb : c.lba < 18446744073709551616) (hbl : c.blocks < 18446744073709551616)
    (hunk : knownB kind c.prot = false → ∀ u, Grow w u → R (rsv 2 unkS nilS).toArray u)
    (hout : knownB kind c.prot = true → c.kind ≠ 13 → c.kind ≠ 6 → n < c.lba + c.blocks → ∀ u, Grow w u → R (rsv 2 (atS 5 0x2100 c.lba) nilS).toArray u)
    (h7 : knownB kind c.prot = true → c.kind = 7 → c.lba + c.blocks ≤ n → (∀ i (hi : i < ((bs.drop c.lba).take c.blocks).length), chkB kind c.prot (c.lba + i) ((bs.drop c.lba).take c.blocks)[i] = 0) → ∀ d u, Keep D w u → RdW w u pw D st c.blocks →
      Own u w.heap.size t_uint8 1 d (bv (packB (decide (c.prot ≠ 0)) ((bs.drop c.lba).take c.blocks))) → R (rsv 0 sn0 d).toArray u)
    (h7b : knownB kind c.prot = true → c.kind = 7 → c.lba + c.blocks ≤ n → ∀ i (hi : i < ((bs.drop c.lba).take c.blocks).length), chkB kind c.prot (c.lba + i) ((bs.drop c.lba).take c.blocks)[i] ≠ 0 → ∀ u, Keep D w u → RdW w u pw D st c.blocks →
      R (rsv 2 (atS 11 (chkB kind c.prot (c.lba + i) ((bs.drop c.lba).take c.blocks)[i]) (c.lba + i)) nilS).toArray u)
    (h8l : knownB kind c.prot = true → (c.kind = 8 ∨ c.kind = 9) → c.lba + c.blocks ≤ n → (l.length % szB (decide (c.prot ≠ 0)) ≠ 0 ∨ l.length / szB (decide (c.prot ≠ 0)) ≠ c.blocks) → ∀ u, Grow w u → R (rsv 2 (badS 0x1a00) nilS).toArray u)
    (h8b : knownB kind c.prot = true → (c.kind = 8 ∨ c.kind = 9) → c.lba + c.blocks ≤ n → c.prot ≠ 0 → l.length % 24 = 0 → l.length / 24 = c.blocks → ∀ i (hi : i < (unpB true l).length), chkB kind c.prot (c.lba + i) (unpB true l)[i] ≠ 0 → (∀ j (hj : j < i), chkB kind c.prot (c.lba + j) ((unpB true l)[j]'(by omega)) = 0) → ∀ u, Grow w u →
      R (rsv 2 (atS 11 (chkB kind c.prot (c.lba + i) (unpB true l)[i]) (c.lba + i)) nilS).toArray u)
    (h8 : knownB kind c.prot = true → (c.kind = 8 ∨ c.kind = 9) → c.lba + c.blocks ≤ n → l.length % szB (decide (c.prot ≠ 0)) = 0 → l.length / szB (decide (c.prot ≠ 0)) = c.blocks → (c.prot ≠ 0 → ∀ i (hi : i < (unpB true l).length), chkB kind c.prot (c.lba + i) (unpB true l)[i] = 0) →
      ∀ u D', Keep D w u → Dv u dv ps pw file kind n cache D' (syncIf (syncs c.blocks (c.fua || decide (c.kind = 9)) cache) (layW st file c.lba (rsOf (cameB kind c l c.blocks)) c.blocks)) (setAll bs c.lba (cameB kind c l c.blocks) c.blocks) (m + c.blocks + 1) →
      (∀ k, D' k → D k ∨ w.heap.size ≤ k) → R (rsv 0 sn0 nilS).toArray u)
    (h11 : knownB kind c.prot = true → c.kind = 11 → c.lba + c.blocks ≤ n → ∀ u D', Keep D w u → Dv u dv ps pw file kind n cache D' (synced st) bs (m + 1) → (∀ k, D' k → D k ∨ w.heap.size ≤ k) → R (rsv 0 sn0 nilS).toArray u)
    (hpart : knownB kind c.prot = true → (c.kind = 13 ∨ c.kind = 6 ∨ c.lba + c.blocks ≤ n) → ∀ ab u, Grow w u → w.heap.size ≤ ab → Blk u ab z10 t_api_Result → Part D dv c p u (Ends D u ab R))
    (hinv : knownB kind c.prot = true → c.kind ≠ 7 → c.kind ≠ 8 → c.kind ≠ 9 → c.kind ≠ 10 → c.kind ≠ 11 → c.kind ≠ 12 → c.kind ≠ 13 → c.kind ≠ 14 → c.kind ≠ 6 → ∀ u, Grow w u → R (rsv 2 invS nilS).toArray u) :
    Csbc_Dev_Do (some ⟨dv, 0, none⟩) (cmv c).toArray p w R := by
  refine Fsbc_Dev_Do.calls _ _ _ _ _ ?_
  have hsz := h.size
  have hlen := h.len
  have hfew := h.few
  refine new_rule fun cb w0 hcb hb0 hg0 hsz0 => ?_
  have hb0 : Blk w0 cb (cmv c).toArray t_api_Cmd := hb0
  refine new_rule fun ab w1 hab hb1 hg1 hsz1 => ?_
  have hb1 : Blk w1 ab z10 t_api_Result := hb1
  have hgw1 := hg0.trans hg1
  have hc1 : Blk w1 cb (cmv c).toArray t_api_Cmd := hg1.heap hb0 (fun q => q)
  have hD1 := h.grow hgw1
  have cAt : ∀ {v : World} {i : Nat} {x : Value}, Grow w1 v → (cmv c).toArray[i]? = some x → v.cell? ((⟨cb, 0, none⟩ : Addr).add i) = some x := fun g e => by rw [add0, Blk.cell (g.heap hc1 (fun q => q)), Nat.zero_add]; exact e
  have nab : ¬ D ab := fun q => by have := h.isW.lt q; omega
  have ncb : ¬ D cb := fun q => by have := h.isW.lt q; omega
  have sw := hg0.size
  have ret : ∀ {v : World} {s : Nat} {sn : Sn} {d : Sl}, Grow w1 v → (∀ v', Keep (fun k => k = ab) v v' → R (rsv s sn d).toArray v') →
      RunU Try.prog (storeVar t_api_Result ⟨ab, 0, none⟩ (.agg (rsv s sn d).toArray)) v fun w' => ∃ res : Array Value, (loadVar t_api_Result ⟨ab, 0, none⟩).run Try.prog w' = .ok (.agg res) w' ∧ R res w' := fun g hR => ret_rule (g.heap hb1 (fun q => q)) rfl hR
  have gn : ∀ {v v' : World}, Grow w1 v → Keep (fun k => k = ab) v v' → Grow w v' := fun g k => grow_new (hgw1.trans g) (by omega) k
  refine ⟨fun _ => rfl, some ⟨ps, 0, none⟩, fun _ => dev0 hD1.dev, br_f rfl ?_⟩
  rintro w2 rfl
  have hg2 : Grow w1 w1.drew := keep_drew w1
  refine ⟨fun v => Grow w1 v, hg2, rfl, (kind : Int), fun v hv => dev1 (hD1.grow hv).dev, (c.prot : Int), fun v hv => cAt hv rfl, known_spec ?_⟩
  cases hkn : knownB kind c.prot with
  | false => exact br_t rfl (fails_spec (s := unkS) fun w3 hg3 => ret (hg2.trans hg3) fun v' hk => hunk hkn v' (gn (hg2.trans hg3) hk))
  | true =>
  refine br_f rfl ?_
  rintro w3 rfl
  have hg3 : Grow w1 w1.drew.drew := hg2.trans (keep_drew _)
  refine ⟨fun v => Grow w1 v, hg3, (c.lba : Int), fun v hv => cAt hv rfl, (c.blocks : Int), fun v hv => cAt hv rfl, blocks_spec (hD1.grow hg3) ⟨hg3, ?_⟩⟩
  refine within_spec hlb hbl (by omega) ⟨hg3, fun v => Grow w1 v, hg3, fun _ q => q, (c.kind : Int), fun _ v hv => cAt hv rfl, fun v => Grow w1 v, hg3, fun _ q => q, (c.kind : Int), fun _ v hv => cAt hv rfl, ?_⟩
  by_cases hin : c.kind = 13 ∨ c.kind = 6 ∨ c.lba + c.blocks ≤ n
  case neg =>
    refine br_t (by rw [Bool.and_eq_true, Bool.and_eq_true, Bool.not_eq_true', decide_eq_false_iff_not, bne_iff_ne, bne_iff_ne]; omega) ⟨(c.lba : Int), cAt hg3 rfl, at_spec (key := 5) fun w4 hg4 => ret (hg3.trans hg4) fun v' hk => hout hkn (by omega) (by omega) (by omega) v' (gn (hg3.trans hg4) hk)⟩
  refine br_f (by rw [Bool.and_eq_false_iff, Bool.and_eq_false_iff, Bool.not_eq_false', decide_eq_true_eq, bne_eq_false_iff_eq, bne_eq_false_iff_eq]; omega) ⟨(c.kind : Int), cAt hg3 rfl, ?_⟩
  generalize w1.drew.drew = w3 at *
  have hpt := hpart hkn hin ab w3 (hgw1.trans hg3) (by omega) (hg3.heap hb1 (fun q => q))
  have hb3 : Blk w3 ab z10 t_api_Result := hg3.heap hb1 (fun q => q)
  have hc3 : Blk w3 cb (cmv c).toArray t_api_Cmd := hg3.heap hc1 (fun q => q)
  have cl : (loadVar t_api_Cmd ⟨cb, 0, none⟩).run Try.prog w3 = .ok (.agg (cmv c).toArray) w3 := cLoad (blk_cells hc3)
  have hgw3 := hgw1.trans hg3
  have h3 := h.grow hgw3
  refine letX0 (fun v => v = w3 ∧ c.kind ≠ 7 ∧ c.kind ≠ 8 ∧ c.kind ≠ 9 ∧ c.kind ≠ 10 ∧ c.kind ≠ 11 ∧ c.kind ≠ 12 ∧ c.kind ≠ 13 ∧ c.kind ≠ 14 ∧ c.kind ≠ 6) ?_ (fun J => ?_)
  · rintro v ⟨rfl, a1, a2, a3, a4, a5, a6, a7, a8, a9⟩
    exact fails_spec (s := invS) fun w4 hg4 => ret (hg3.trans hg4) fun v' hk => hinv hkn a1 a2 a3 a4 a5 a6 a7 a8 a9 v' (gn (hg3.trans hg4) hk)
  refine br_eq (fun k7 => ⟨_, cl, ?_⟩) (fun k7 => ?_)
  · have k7 : c.kind = 7 := by omega
    have hlb7 : c.lba + c.blocks ≤ n := by omega
    refine dev_read_spec h3 hm hlb7 (fun hchk xs w4 hk4 hw4 hown4 => ?_) (fun i hi hz w4 hk4 hw4 => ?_)
    · refine new_rule fun rb w5 hrb hb5 hg5 hsz5 => ?_
      refine lay_rule hb5 rfl fun w6 hb6 hk6 hsz6 => br_f rfl ?_
      have hg46 : Grow w4 w6 := hg5.keep hk6 fun i hi q => by omega
      have hc6 : Blk w6 cb (cmv c).toArray t_api_Cmd := hg46.heap (hk4.heap hc3 ncb) (fun q => q)
      have hb6' : Blk w6 ab z10 t_api_Result := hg46.heap (hk4.heap hb3 nab) (fun q => q)
      refine ⟨(c.prot : Int), by rw [add0, hc6.cell]; rfl, ?_⟩
      have ew : ((c.prot : Int) != 0) = decide (c.prot ≠ 0) := by rw [Bool.eq_iff_iff, bne_iff_ne, decide_eq_true_eq]; omega
      rw [ew]
      have hown6 := hown4.grow hg46
      have hLl : ((bs.drop c.lba).take c.blocks).length ≤ 4096 := by rw [List.length_take, List.length_drop]; omega
      refine pack_spec (hown6.rd (by have := hown6.len; rw [flat_bc_len] at this; omega)) hLl fun d w7 hown7 hg7 => good_spec fun w8 hg8 => ?_
      have hb8 : Blk w8 ab z10 t_api_Result := (hg7.trans hg8).heap hb6' (fun q => q)
      refine ret_rule hb8 rfl fun w9 hk9 => ?_
      have hkD : Keep D w w8 := ((((hgw3.mono fun _ _ q => q.elim).trans hk4 fun _ _ q => q).grow hg46).grow hg7).grow hg8
      have s4 := hk4.size
      have s46 := hg46.size
      refine h7 hkn k7 hlb7 hchk d w9 (keepD_new hkD (by omega) hk9) (rdW_new ((((hw4.pre hgw3).grow hg46).grow hg7).grow hg8) hb8 tne_result nab hk9) ?_
      have ho8 : Own w8 w.heap.size t_uint8 1 d _ := (hown7.mono (by have := hgw3.size; omega)).grow hg8
      exact ho8.keep hk9 fun b hbb q => own_ne ho8 hb8 (by decide) (by rw [hbb, q])
    · refine new_rule fun rb w5 hrb hb5 hg5 hsz5 => ?_
      refine lay_rule hb5 rfl fun w6 hb6 hk6 hsz6 => br_t rfl ⟨_, rLoad (blk_cells hb6), ?_⟩
      have hg46 : Grow w4 w6 := hg5.keep hk6 fun i hi q => by omega
      have hb6' : Blk w6 ab z10 t_api_Result := hg46.heap (hk4.heap hb3 nab) (fun q => q)
      refine ret_rule hb6' rfl fun w7 hk7 => ?_
      exact h7b hkn k7 hlb7 i hi hz w7 (keepD_new (((hgw3.mono fun _ _ q => q.elim).trans hk4 fun _ _ q => q).grow hg46) (by omega) hk7) (rdW_new ((hw4.pre hgw3).grow hg46) hb6' tne_result nab hk7)
  refine letX1 (fun (x : Bool) v => v = w3 ∧ (x = true ↔ (c.kind = 8 ∨ c.kind = 9))) ?_ (fun J1 => br_eq (fun k8 => J1 _ _ ⟨rfl, by rw [beq_iff_eq]; omega⟩) (fun k8 => J1 _ _ ⟨rfl, by rw [beq_iff_eq]; omega⟩))
  rintro x v ⟨rfl, hx⟩
  by_cases k89 : c.kind = 8 ∨ c.kind = 9
  · refine br_t (hx.2 k89) ⟨_, cl, (c.blocks : Int), by rw [add0, hc3.cell]; rfl, ?_⟩
    have hlb8 : c.lba + c.blocks ≤ n := by omega
    have bad : ∀ {y : World} {sn : Sn}, Grow v y → (∀ z, Grow w z → R (rsv 2 sn nilS).toArray z) → _ := fun {y sn} hy hR => True.intro
    have after : ∀ {y : World} {sn : Sn}, Grow v y → (∀ z, Grow w z → R (rsv 2 sn nilS).toArray z) → ∀ rb z, rb = y.heap.size → Blk z rb (rsv 2 sn nilS).toArray t_api_Result → Grow y z →
        ∃ g10 : Array Value, (loadVar t_api_Result ⟨rb, 0, none⟩).run Try.prog z = .ok (.agg g10) z ∧ RunU Try.prog (storeVar t_api_Result ⟨ab, 0, none⟩ (.agg g10)) z fun w028 => ∃ res6 : Array Value, (loadVar t_api_Result ⟨ab, 0, none⟩).run Try.prog w028 = .ok (.agg res6) w028 ∧ R res6 w028 := by
      intro y sn hy hR rb z hrb hbz hyz
      refine ⟨_, rLoad (blk_cells hbz), ret_rule ((hy.trans hyz).heap hb3 (fun q => q)) rfl fun z' hk' => hR z' (grow_new ((hgw3.trans hy).trans hyz) (by omega) hk')⟩
    have okw : ∀ xs y, Grow v y → l.length % szB (decide (c.prot ≠ 0)) = 0 → l.length / szB (decide (c.prot ≠ 0)) = c.blocks → (c.prot ≠ 0 → ∀ i (hi : i < (unpB true l).length), chkB kind c.prot (c.lba + i) (unpB true l)[i] = 0) →
        Own y v.heap.size t_api_Block 19 xs ((cameB kind c l c.blocks).flatMap bc) → ∀ rb z, rb = y.heap.size → Blk z rb (rsv 0 sn0 nilS).toArray t_api_Result → Grow y z →
        ∃ n11 : Int, z.cell? ((⟨cb, 0, none⟩ : Addr).add 2) = some (.int .u64 n11) ∧ ∃ b4 : Bool, z.cell? ((⟨cb, 0, none⟩ : Addr).add 5) = some (.bool b4) ∧ ∃ n12 : Int, ((!b4) = true → z.cell? ((⟨cb, 0, none⟩ : Addr).add 0) = some (.int .u8 n12)) ∧
          Csbc_Dev_write (some ⟨dv, 0, none⟩) n11 xs (b4 || (n12 == 9)) z fun g11 w029 => RunU Try.prog (storeVar t_api_Result ⟨ab, 0, none⟩ (.agg g11)) w029 fun w030 => ∃ res7 : Array Value, (loadVar t_api_Result ⟨ab, 0, none⟩).run Try.prog w030 = .ok (.agg res7) w030 ∧ R res7 w030 := by
      intro xs y hy hm1 hm2 hck hown rb z hrb hbz hyz
      have hvz := hy.trans hyz
      have hcz : Blk z cb (cmv c).toArray t_api_Cmd := hvz.heap hc3 (fun q => q)
      refine ⟨(c.lba : Int), by rw [add0, hcz.cell]; rfl, c.fua, by rw [add0, hcz.cell]; rfl, (c.kind : Int), fun _ => by rw [add0, hcz.cell]; rfl, ?_⟩
      have e9 : ((c.kind : Int) == 9) = decide (c.kind = 9) := by
        rw [Bool.eq_iff_iff, beq_iff_eq, decide_eq_true_eq]; omega
      rw [e9]
      have hLl := cameB_len (kind := kind) hm2
      have hz := h3.grow hvz
      have lD := fun k (q : D k) => h.isW.lt q
      have svz := hvz.size
      refine dev_write_spec (L := cameB kind c l c.blocks) hz hm (by omega) (fun z' hk' => ?_) fun z2 D2 hk2 hd2 hD2 => ?_
      · have ho : Own z' v.heap.size t_api_Block 19 xs ((cameB kind c l c.blocks).flatMap bc) := (hown.grow hyz).keep hk' fun b hbb q => by
          have := ((hown.grow hyz).ge b hbb).1
          have := lD _ q
          have := hgw3.size
          omega
        exact ho.rd (by have := ho.len; rw [flat_bc_len] at this; omega)
      · rw [hLl] at hd2
        have hbz2 : Blk z2 ab z10 t_api_Result := hk2.heap (hvz.heap hb3 (fun q => q)) nab
        have nab2 : ¬ D2 ab := fun q => by
          rcases hD2 _ q with r | r
          · exact nab r
          · have := lt_of_heap hb3; omega
        refine ret_rule (st := 0) (s := sn0) (d := nilS) hbz2 rfl fun z3 hk3 => ?_
        have hkD : Keep D w z2 := ((hgw3.trans hvz).mono fun _ _ q => q.elim).trans hk2 fun _ _ q => q
        have s3 := hgw3.size
        refine h8 hkn k89 hlb8 hm1 hm2 hck z3 D2 (keepD_new hkD (by omega) hk3) ?_ (fun k q => ?_)
        · exact hd2.put hbz2 tne_result (by decide) (by decide) nab2 hk3
        · rcases hD2 k q with r | r
          · exact .inl r
          · exact .inr (by omega)
    refine dev_come_spec (N := c.blocks) h3.dev (hp.grow hgw3) hb (by omega) (by omega) (fun q y hy => ?_) (fun q1 q2 q3 xs y hy hown => ?_) (fun q1 q2 q3 q4 xs y hy hown => ?_) (fun q1 q2 q3 i hi hz hall y hy => ?_)
    · refine new_rule fun rb w5 hrb hb5 hg5 hsz5 => lay_rule hb5 rfl fun w6 hb6 hk6 hsz6 => br_t rfl ?_
      exact after hy (h8l hkn k89 hlb8 q) rb w6 hrb hb6 (hg5.keep hk6 fun i hi q => by omega)
    · refine new_rule fun rb w5 hrb hb5 hg5 hsz5 => lay_rule hb5 rfl fun w6 hb6 hk6 hsz6 => br_f rfl ?_
      have e0 : decide (c.prot ≠ 0) = false := by simpa using q3
      refine okw xs y hy (by rw [e0]; exact q1) (by rw [e0]; exact q2) (fun e => absurd q3 e) ?_ rb w6 hrb hb6 (hg5.keep hk6 fun i hi q => by omega)
      unfold cameB; rw [if_pos q3]; exact hown
    · refine new_rule fun rb w5 hrb hb5 hg5 hsz5 => lay_rule hb5 rfl fun w6 hb6 hk6 hsz6 => br_f rfl ?_
      have e0 : decide (c.prot ≠ 0) = true := by simpa using q3
      refine okw xs y hy (by rw [e0]; exact q1) (by rw [e0]; exact q2) (fun _ => q4) ?_ rb w6 hrb hb6 (hg5.keep hk6 fun i hi q => by omega)
      unfold cameB; rw [if_neg q3]; exact hown
    · refine new_rule fun rb w5 hrb hb5 hg5 hsz5 => lay_rule hb5 rfl fun w6 hb6 hk6 hsz6 => br_t rfl ?_
      exact after hy (h8b hkn k89 hlb8 q3 q1 q2 i hi hz hall) rb w6 hrb hb6 (hg5.keep hk6 fun i hi q => by omega)
  refine br_f (by cases hxx : x with | false => rfl | true => exact absurd (hx.1 hxx) k89) ?_
  refine br_eq (fun k => ⟨_, cl, ?_⟩) (fun k10 => br_eq (fun k => ?_) (fun k11 => br_eq (fun k => ⟨_, cl, ?_⟩) (fun k12 => br_eq (fun k => ?_) (fun k13 => br_eq (fun k => ⟨_, cl, ?_⟩) (fun k14 => br_eq (fun k => ⟨_, cl, ?_⟩) (fun k6 => J v ⟨rfl, by omega, by omega, by omega, by omega, by omega, by omega, by omega, by omega, by omega⟩))))))
  · exact callK1_mono (hpt.1 (by omega)) fun g y hy => hy.ret hb3 nab
  · have k11' : c.kind = 11 := by omega
    refine ⟨rfl, some ⟨ps, 0, none⟩, dev0 h3.dev, ?_⟩
    refine store_sync_spec h3.isS h3.nps h3.isW h.ok (by omega) (by omega) fun y D2 hk2 hw2 hD2 hS2 => br_f rfl (good_spec fun z hz => ?_)
    have nab2 : ¬ D2 ab := fun q => by
      rcases hD2 _ q with r | r
      · exact nab r
      · have := lt_of_heap hb3; omega
    have hbz : Blk z ab z10 t_api_Result := hz.heap (hk2.heap hb3 nab) (fun q => q)
    refine ret_rule (st := 0) (s := sn0) (d := nilS) hbz rfl fun z2 hk3 => ?_
    have hkD : Keep D w y := (hgw3.mono fun _ _ q => q.elim).trans hk2 fun _ _ q => q
    have s3 := hgw3.size
    have hDD : ∀ k, D2 k → D k ∨ w.heap.size ≤ k := fun k q => by
      rcases hD2 k q with r | r
      · exact .inl r
      · exact .inr (by omega)
    have hdy : Dv y dv ps pw file kind n cache D2 (synced st) bs (m + 1) := h.step hkD hw2 hDD (fun c hc => by cases hc) h.tells h.len (by
      show st.ops + 1 ≤ _ ∧ 0 ≤ _
      omega)
    exact h11 hkn k11' (by omega) z2 D2 (keepD_new (hkD.grow hz) (by omega) hk3) ((hdy.grow hz).put hbz tne_result (by decide) (by decide) nab2 hk3) hDD
  · exact callK1_mono (hpt.2.1 (by omega)) fun g y hy => hy.ret hb3 nab
  · exact callK1_mono (hpt.2.2.1 (by omega)) fun g y hy => hy.ret hb3 nab
  · exact callK1_mono (hpt.2.2.2.1 (by omega)) fun g y hy => hy.ret hb3 nab
  · exact callK1_mono (hpt.2.2.2.2 (by omega)) fun g y hy => hy.ret hb3 nab
end
end Go.Proofs.Ytaneeadpjelomaa
