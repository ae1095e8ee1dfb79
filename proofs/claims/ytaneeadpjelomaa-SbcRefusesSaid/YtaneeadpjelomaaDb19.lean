import Derived.Test.YtaneeadpjelomaaDb18
/- Layer 14: what any command may come to; the law of what is refused. -/
namespace Go.Proofs.Ytaneeadpjelomaa
open Go CF

theorem lay_len' {l : L8} {at_ n : Nat} (v : Nat) (h : at_ + n ≤ l.length) : (lay l at_ n v).length = l.length := by rw [← layN_all]; exact layN_len v h (Nat.le_refl _)
section
variable {w u : World} {dv ps pw : Nat} {file : ByteArray} {kind n : Nat} {cache : Bool} {D D' : Nat → Prop} {st : Wst} {bs : List Bk} {m : Nat}
theorem capacity_spec {c : Cm} {K : Array Value → World → Prop} (h : Dv w dv ps pw file kind n cache D st bs m) (hK : ∀ d u, Grow w u → K (rsv 0 sn0 d).toArray u) : Csbc_Dev_capacity (some ⟨dv, 0, none⟩) (cmv c).toArray w K := by
  refine Fsbc_Dev_capacity.calls _ _ _ _ ?_
  have hsz := h.size
  refine new_rule fun cb w0 hcb hb0 hg0 hsz0 => ?_
  have hb0 : Blk w0 cb (cmv c).toArray t_api_Cmd := hb0
  refine new_rule fun ab w1 hab hb1 hg1 hsz1 => ?_
  have hb1 : Blk w1 ab z10 t_api_Result := hb1
  have hc1 : Blk w1 cb (cmv c).toArray t_api_Cmd := hg1.heap hb0 (fun q => q)
  have hgw1 := hg0.trans hg1
  have s0 := hg0.size
  refine blocks_spec (h.grow hgw1) ⟨c.long, by rw [add0, hc1.cell]; rfl, ?_⟩
  have en : IntKind.wrap .u64 ((n : Int) - 1) = ((n - 1 : Nat) : Int) := by rw [wu64 (by omega) (by omega)]; omega
  rw [en]
  have fin : ∀ {v : World} {d : Sl}, Grow w1 v → Csbc_good d v fun g w06 => RunU Try.prog (storeVar t_api_Result ⟨ab, 0, none⟩ (.agg g)) w06 fun w07 => ∃ res : Array Value, (loadVar t_api_Result ⟨ab, 0, none⟩).run Try.prog w07 = .ok (.agg res) w07 ∧ K res w07 := fun {v d} hv =>
    good_spec fun v2 hv2 => ret_rule ((hv.trans hv2).heap hb1 (fun q => q)) rfl fun v3 hk3 => hK d v3 (grow_new (hgw1.trans (hv.trans hv2)) (by omega) hk3)
  have hrep : ∀ k, (List.replicate k (Value.int .u8 0)) = bv (List.replicate k 0) := fun k => by simp [bv]
  have p4 : (256 : Nat) ^ 4 = 4294967296 := rfl
  have p8 : (256 : Nat) ^ 8 = 18446744073709551616 := rfl
  cases hlong : c.long with
  | false =>
    refine br_t rfl ?_
    refine make_rule (n := 8) (base := w1.heap.size) u_sl_uint8 i_uint8 rfl (by decide) (by decide) (Nat.le_refl _) fun w2 hown2 hg2 _ => ?_
    rw [hrep] at hown2
    refine put_spec (at_ := 0) (n := 4) (v := n - 1) (hown2.rd (by show 8 ≤ _; omega)) (by show 8 ≤ _; omega) (by decide) (by decide) (by simp) (by omega) fun s3 w3 hown3 hg3 => ?_
    have hn3 := own_n' hown3
    rw [lay_len' _ (by simp), List.length_replicate] at hn3
    refine put_spec (at_ := 4) (n := 4) (v := 16) (hown3.rd (by omega)) (by omega) (by decide) (by decide) (by rw [lay_len' _ (by simp)]; simp) (by omega) fun s4 w4 hown4 hg4 => ?_
    exact fin ((hg2.trans hg3).trans hg4)
  | true =>
    refine br_f rfl ?_
    refine make_rule (n := 32) (base := w1.heap.size) u_sl_uint8 i_uint8 rfl (by decide) (by decide) (Nat.le_refl _) fun w2 hown2 hg2 _ => ?_
    rw [hrep] at hown2
    refine put_spec (at_ := 0) (n := 8) (v := n - 1) (hown2.rd (by show 32 ≤ _; omega)) (by show 32 ≤ _; omega) (by decide) (by decide) (by simp) (by omega) fun s3 w3 hown3 hg3 => ?_
    have hn3 := own_n' hown3
    rw [lay_len' _ (by simp), List.length_replicate] at hn3
    refine put_spec (at_ := 8) (n := 4) (v := 16) (hown3.rd (by omega)) (by omega) (by decide) (by decide) (by rw [lay_len' _ (by simp)]; simp) (by omega) fun s4 w4 hown4 hg4 => ?_
    have hn4 := own_n' hown4
    rw [lay_len' _ (by rw [lay_len' _ (by simp)]; simp), lay_len' _ (by simp), List.length_replicate] at hn4
    have hgw := (hg2.trans hg3).trans hg4
    have h4 := h.grow (hgw1.trans hgw)
    generalize lay (lay (List.replicate 32 0) 0 8 (n - 1)) 8 4 16 = l4 at *
    have hr4 := hown4.rd (by omega)
    obtain ⟨hA, _⟩ := rd_at hr4 (i := 0) (by rw [rd_n' hr4]; omega)
    refine ⟨rfl, (kind : Int), dev1 h4.dev, ?_⟩
    refine letX0 (fun y => ∃ vs : List Value, Grow w1 y ∧ Own y w3.heap.size t_uint8 1 s4 vs) ?_ (fun J => ?_)
    · rintro y ⟨vs, hgy, hoy⟩
      refine ⟨⟨by decide, by omega, hA⟩, own_put (i := 14) hoy (by omega) rfl fun y2 hoy2 hky2 _ => ?_⟩
      have hw3 : w1.heap.size ≤ w3.heap.size := (hg2.trans hg3).size
      have hgy2 : Grow w1 y2 := own_grow' hgy hoy hw3 hky2
      have hcap := (hoy2.rd (by omega)).cap
      refine ⟨c.alloc, by rw [add0, Blk.cell (hgy2.heap hc1 (fun q => q))]; rfl, ⟨by decide, ?_, ?_, hcap⟩, fin hgy2⟩
      · unfold mn mx; split <;> split <;> omega
      · unfold mn mx; split <;> split <;> omega
    · by_cases hk : kind > 0
      · refine br_t (by rw [decide_eq_true_eq]; omega) ⟨rfl, (kind : Int), dev1 h4.dev, ⟨by decide, by omega, hA⟩, own_put (i := 12) hown4 (by omega) rfl fun y hoy hky _ => J y ⟨_, own_grow' hgw hown4 (hg2.trans hg3).size hky, hoy⟩⟩
      · exact br_f (by rw [decide_eq_false_iff_not]; omega) (J w4 ⟨_, hgw, hown4⟩)
/-- whatever a command is -/
theorem do_any {c : Cm} {p : Sl} {l : L8} {R : Array Value → World → Prop} (h : Dv w dv ps pw file kind n cache D st bs m) (hm : m ≤ 800000) (hp : Rd w 1 p (bv l)) (hb : p.n ≤ 140737488351232) (hpk : ∀ v, Keep D w v → Rd v 1 p (bv l)) (hlb : c.lba < 18446744073709551616) (hbl : c.blocks < 18446744073709551616)
    (hR : ∀ s sn d u, Keep D w u → (s = 0 ∧ sn = sn0 ∨ s = 2 ∧ d = nilS) → (sn.key = 5 → Grow w u) → R (rsv s sn d).toArray u) : Csbc_Dev_Do (some ⟨dv, 0, none⟩) (cmv c).toArray p w R := by
  have kD : ∀ {v}, Grow w v → Keep D w v := fun g => g.mono fun _ _ q => q.elim
  have bad : ∀ {sn : Sn} {v : World}, Grow w v → R (rsv 2 sn nilS).toArray v := fun g => hR _ _ _ _ (kD g) (.inr ⟨rfl, rfl⟩) fun _ => g
  have ok : ∀ {d : Sl} {v : World}, Keep D w v → R (rsv 0 sn0 d).toArray v := fun k => hR _ _ _ _ k (.inl ⟨rfl, rfl⟩) fun q => by cases q
  have ill : ∀ {key code info : Nat} {v : World}, Keep D w v → key ≠ 5 → R (rsv 2 (atS key code info) nilS).toArray v := fun k q => hR _ _ _ _ k (.inr ⟨rfl, rfl⟩) fun e => absurd e q
  refine do_spec h (by omega) hp hb hlb hbl (fun _ u g => bad g) (fun _ _ _ _ u g => bad g) (fun _ _ _ _ d u k _ _ => ok k) (fun _ _ _ i hi _ u k _ => ill k (by decide)) (fun _ _ _ _ u g => bad g) (fun _ _ _ _ _ _ i hi _ _ u g => bad g) (fun _ _ _ _ _ _ u D' k _ _ => ok k) (fun _ _ _ u D' k _ _ => ok k)
    (fun hkn hin ab y hy hab hby => ?_) (fun _ _ _ _ _ _ _ _ _ _ u g => bad g)
  have hyD := h.grow hy
  have py := hp.grow hy
  have fin : ∀ {s : Nat} {sn : Sn} {d : Sl} {z : World}, Keep D y z → (s = 0 ∧ sn = sn0 ∨ s = 2 ∧ d = nilS) → sn.key ≠ 5 → Ends D y ab R (rsv s sn d).toArray z := fun k e q => ⟨k, _, _, _, rfl, fun v' hv' => hR _ _ _ _ (fin_keep hy hab k hv') e fun r => absurd r q⟩
  have finG : ∀ {sn : Sn} {z : World}, Grow y z → Ends D y ab R (rsv 2 sn nilS).toArray z := fun g => ⟨g.mono fun _ _ q => q.elim, _, _, _, rfl, fun v' hv' => bad (grow_new (hy.trans g) hab hv')⟩
  have fok : ∀ {d : Sl} {z : World}, Keep D y z → Ends D y ab R (rsv 0 sn0 d).toArray z := fun k => fin k (.inl ⟨rfl, rfl⟩) (by decide)
  have fill : ∀ {key code info : Nat} {z : World}, Keep D y z → key ≠ 5 → Ends D y ab R (rsv 2 (atS key code info) nilS).toArray z := fun k q => fin k (.inr ⟨rfl, rfl⟩) q
  refine ⟨fun k10 => ?_, fun k12 => ?_, fun k13 => ?_, fun k14 => ?_, fun k6 => ?_⟩
  · exact dev_verify_spec hyD (by omega) py hb (by omega) (fun _ _ u g => finG g) (fun i hi _ u k _ => fill k (by decide)) (fun _ _ i _ u k _ => fill k (by decide)) (fun _ _ u k _ => fok k)
  · exact dev_same_spec hyD (by omega) py hb (by omega) (fun _ u g => finG g) (fun _ code info u g => finG g) (fun b0 _ _ _ u D' st' k _ _ => fok k) (fun b0 _ _ u D' st' k _ _ => fok k)
  · exact dev_unmap_spec hyD (by omega) py hb (fun v k => hpk v ((kD hy).trans k fun _ _ q => q)) (fun _ u g => fok (g.mono fun _ _ q => q.elim)) (fun sn _ _ u g => finG g) (fun u D' st' _ k _ _ => fok k)
  · exact dev_compare_spec hyD (by omega) py hb (by omega) rfl (fun _ u g => finG g) (fun _ code info u j k _ _ => fill k (by decide)) (fun _ i _ u k _ => fill k (by decide)) (fun _ _ u D' k _ _ => fok k)
  · exact capacity_spec hyD fun d u g => fok (g.mono fun _ _ q => q.elim)
theorem do_none {c : Cm} {p : Sl} {R : Array Value → World → Prop} (hR : ∀ u, Grow w u → R (rsv 2 ⟨5, 9472, 0, false, 0, 0, false, false⟩ nilS).toArray u) : Csbc_Dev_Do none (cmv c).toArray p w R := by
  refine Fsbc_Dev_Do.calls _ _ _ _ _ ?_
  refine new_rule fun cb w0 hcb hb0 hg0 hsz0 => ?_
  refine new_rule fun ab w1 hab hb1 hg1 hsz1 => ?_
  have s0 := hg0.size
  refine ⟨fun q => (by cases q), none, fun q => (by cases q), br_t rfl (fails_spec (s := ⟨5, 9472, 0, false, 0, 0, false, false⟩) fun w3 hg3 => ret_rule (hg3.heap hb1 (fun q => q)) rfl fun v' hk => hR v' (grow_new ((hg0.trans hg1).trans hg3) (by omega) hk))⟩
end
theorem sbcRefuses_spec {c : Cm} {p : Sl} {lp : L8} {P : Nat} {w : World} {R : Bool → World → Prop} (hlb : c.lba < 18446744073709551616) (hbl : c.blocks < 18446744073709551616) (hp : Rd w 1 p (bv lp)) (hpb : p.n ≤ 140737488351232) (hP : P < 256) (h : ∀ w', Grow w w' → R true w') :
    Cpalletlaw14_SbcRefuses (cmv c).toArray p (P : Int) w R := by
  refine Fpalletlaw14_SbcRefuses.calls _ _ _ _ _ ?_
  refine new_rule fun cb wa hcb hba hga hsza => ?_
  have hba : Blk wa cb (cmv c).toArray t_api_Cmd := hba
  refine awake14_spec fun w0 hg0 => br_f rfl ⟨by decide, ?_⟩
  have eK : ((P : Int).tmod 4) = ((P % 4 : Nat) : Int) := rfl
  rw [eK]
  have hkd : P % 4 ≤ 3 := by omega
  generalize P % 4 = kd at *
  refine device_spec (n := 16) (kind := kd) (cache := true) (by decide) hkd fun dv ps pw D w1 L1 => br_f rfl ?_
  refine bytes14_spec (n := 32) (b := 119) (by decide) (by decide) fun xs w2 hown2 hg2 hn2 => ?_
  have L2 := L1.go hg2
  refine L2.write0 (by decide) (c := ⟨8, false, 0, 2, 0, false, 0, false, false, 0, 0, false, 0, 0, false⟩) (.inl rfl) rfl (by decide) (hown2.rd (by omega)) (by rw [List.length_replicate]; rfl) fun w3 D3 L3 => ?_
  refine L3.res fun rb w4 L4 => ⟨0, by rw [add0, Blk.cell L4.held]; rfl, br_f rfl ?_⟩
  refine waits_spec L4.dvs.isW ?_
  have hg4 := hg0.trans L4.grow
  have hc4 : Blk w4 cb (cmv c).toArray t_api_Cmd := hg4.heap hba (fun q => q)
  refine ⟨_, cLoad (blk_cells hc4), ?_⟩
  have hwa := hga.size
  have hw0 := hg0.size
  have hgw4 := hga.trans hg4
  have hpk : ∀ v, Keep D3 w4 v → Rd v 1 p (bv lp) := fun v hv => hp.keep (S := D3) ((hgw4.mono fun _ _ q => q.elim).trans hv fun _ _ q => q) fun a _ ha q => by have := L4.above _ q; omega
  have hn4 := L4.dvs.isW
  generalize (syncIf (syncs (Cm.blocks ⟨8, false, 0, 2, 0, false, 0, false, false, 0, 0, false, 0, 0, false⟩) ((Cm.fua ⟨8, false, 0, 2, 0, false, 0, false, false, 0, 0, false, 0, 0, false⟩) || decide ((Cm.kind ⟨8, false, 0, 2, 0, false, 0, false, false, 0, 0, false, 0, 0, false⟩) = 9)) true) _) = st4 at *
  refine do_any L4.dvs (by decide) (hp.grow hgw4) hpb hpk hlb hbl fun s sn d w5 hk5 hcase hgr => ?_
  have hg5 : Grow wa w5 := hg4.keep hk5 fun i hi q => by have := L4.above _ q; omega
  refine new_rule fun ab w6 hab hb6 hg6 hsz6 => lay_rule (st := s) (s := sn) (d := d) hb6 rfl fun w7 hb7 hk7 hsz7 => ?_
  have hg57 : Grow w5 w7 := hg6.keep hk7 fun i hi q => by omega
  have hg7 := hg5.trans hg57
  refine ⟨_, cLoad (blk_cells (hg7.heap hba (fun q => q))), do_none fun w8 hg8 => ?_⟩
  refine ends14_spec (key := 5) (code := 9472) fun w9 hg9 => ?_
  refine same14_spec (d1 := nilS) (d2 := nilS) (l := []) (rd_nilB _) (rd_nilB _) fun w10 hg10 => br_f rfl ?_
  have hg710 := (hg8.trans hg9).trans hg10
  have hb10 : Blk w10 ab (rsv s sn d).toArray t_api_Result := hg710.heap hb7 (fun q => q)
  have hend : Grow w w10 := hga.trans (hg7.trans hg710)
  obtain ⟨r, hr, hrun⟩ := neq_rule (x := .tmp 57) (y := .tmp 58) flat_api_Sense kd_api_Sense gt_api_Sense (fit_snv sn) (fit_snv sn0)
  refine ⟨(s : Int), by rw [add0, Blk.cell hb10]; rfl, (s : Int), fun _ => by rw [add0, Blk.cell hb10]; rfl, (s : Int), fun _ => by rw [add0, Blk.cell hb10]; rfl, (snv sn).toArray, fun _ => sLoad (rsv_sense hb10), r, fun _ => hrun w10, (s : Int), fun _ => by rw [add0, Blk.cell hb10]; rfl, d, fun _ => by rw [add0, Blk.cell hb10]; rfl, ?_⟩
  have hkey : w10.cell? (((⟨ab, 0, none⟩ : Addr).add 1).add 0) = some (.int .u8 (sn.key : Int)) := by rw [addr_add, add0, Blk.cell hb10]; rfl
  refine br_f ?_ ⟨(sn.key : Int), hkey, ?_⟩
  · rcases hcase with ⟨rfl, rfl⟩ | ⟨rfl, rfl⟩
    · have : r = false := by
        cases r with
        | false => rfl
        | true => exact absurd rfl (hr.1 rfl)
      rw [this]; rfl
    · cases r <;> rfl
  · refine letJ1 (fun n7 v => v = w10 ∧ (sn.key = 5 → n7 = (st4.waits.length : Int))) ?_ fun J => ⟨fun q => ?_, fun q => J _ _ ⟨rfl, fun e => ?_⟩⟩
    · rintro n7 v ⟨rfl, hn⟩
      by_cases e : sn.key = 5
      · rw [hn e]
        have := h v hend
        simpa using this
      · have e2 : ((sn.key : Int) != 5) = true := by rw [bne_iff_ne]; omega
        rw [e2]
        exact h v hend
    · have e : sn.key = 5 := by
        rw [Bool.not_eq_true', bne_eq_false_iff_eq] at q; omega
      exact waits_spec (((L4.go (hgr e)).go hg57).go hg710).dvs.isW (J _ _ ⟨rfl, fun _ => rfl⟩)
    · exfalso
      rw [e] at q; cases q
theorem int_u64 {x : Int} (h : (Lit.int .u64 x).wf = true) : ∃ n : Nat, x = (n : Int) ∧ n < 18446744073709551616 := by
  simp [Lit.wf, IntKind.min, IntKind.max, IntKind.signed, IntKind.bits] at h
  exact ⟨x.toNat, by omega, by omega⟩
theorem fit_i {k : IntKind} {v : Value} (h : (Kd.i k).fit v = true) : ∃ n, v = .int k n := ⟨_, (mk_un h).symm⟩
theorem fit_b {v : Value} (h : Kd.b.fit v = true) : ∃ b, v = .bool b := ⟨_, (mk_un h).symm⟩
theorem opens_cmd_of {cs : List Value} (h : FitL [.i .u8, .b, .i .u64, .i .u64, .i .i64, .b, .i .u8, .b, .b, .i .u8, .i .u8, .b, .i .u8, .i .u8, .b] cs) (hk : ∀ v ∈ cs, okV v) : ∃ c : Cm, cs = cmv c ∧ c.lba < 18446744073709551616 ∧ c.blocks < 18446744073709551616 := by
  match cs, h with
  | [v0, v1, v2, v3, v4, v5, v6, v7, v8, v9, v10, v11, v12, v13, v14], h =>
    obtain ⟨h0, h1, h2, h3, h4, h5, h6, h7, h8, h9, h10, h11, h12, h13, h14, _⟩ := h
    obtain ⟨x0, rfl⟩ := fit_i h0
    obtain ⟨x1, rfl⟩ := fit_b h1
    obtain ⟨x2, rfl⟩ := fit_i h2
    obtain ⟨x3, rfl⟩ := fit_i h3
    obtain ⟨x4, rfl⟩ := fit_i h4
    obtain ⟨x5, rfl⟩ := fit_b h5
    obtain ⟨x6, rfl⟩ := fit_i h6
    obtain ⟨x7, rfl⟩ := fit_b h7
    obtain ⟨x8, rfl⟩ := fit_b h8
    obtain ⟨x9, rfl⟩ := fit_i h9
    obtain ⟨x10, rfl⟩ := fit_i h10
    obtain ⟨x11, rfl⟩ := fit_b h11
    obtain ⟨x12, rfl⟩ := fit_i h12
    obtain ⟨x13, rfl⟩ := fit_i h13
    obtain ⟨x14, rfl⟩ := fit_b h14
    obtain ⟨y0, rfl, z0⟩ := int_u8 (hk _ (by simp) : okV (.int .u8 x0))
    obtain ⟨y2, rfl, z2⟩ := int_u64 (hk _ (by simp) : okV (.int .u64 x2))
    obtain ⟨y3, rfl, z3⟩ := int_u64 (hk _ (by simp) : okV (.int .u64 x3))
    obtain ⟨y6, rfl, z6⟩ := int_u8 (hk _ (by simp) : okV (.int .u8 x6))
    obtain ⟨y9, rfl, z9⟩ := int_u8 (hk _ (by simp) : okV (.int .u8 x9))
    obtain ⟨y10, rfl, z10⟩ := int_u8 (hk _ (by simp) : okV (.int .u8 x10))
    obtain ⟨y12, rfl, z12⟩ := int_u8 (hk _ (by simp) : okV (.int .u8 x12))
    obtain ⟨y13, rfl, z13⟩ := int_u8 (hk _ (by simp) : okV (.int .u8 x13))
    exact ⟨⟨y0, x1, y2, y3, x4, x5, y6, x7, x8, y9, y10, x11, y12, y13, x14⟩, rfl, z2, z3⟩
section
variable {H : Type} {enc : TypeId × Value → H} {w : World} {base : Nat} {spare : Nat → Bool} {held : Bool}
theorem opens_cmd : Opens enc Try.prog w base spare held t_api_Cmd fun cs => ∃ c : Cm, cs = cmv c ∧ c.lba < 18446744073709551616 ∧ c.blocks < 18446744073709551616 :=
  (opens_flat 8 t_api_Cmd _ (by kernel_rfl) (by kernel_rfl)).mono fun _ ⟨h, hk⟩ => opens_cmd_of h hk
end
theorem sbcRefuses_row {c : Cm} {p : Sl} {lp : L8} {x : Int} {w : World} {R : Bool → World → Prop} (hlb : c.lba < 18446744073709551616) (hbl : c.blocks < 18446744073709551616) (hp : Rd w 1 p (bv lp)) (hpb : p.n ≤ 140737488351232) (hx : (Lit.int .u8 x).wf = true) (h : ∀ w', Grow w w' → R true w') :
    Cpalletlaw14_SbcRefuses (cmv c).toArray p x w R := by
  obtain ⟨P, rfl, hP⟩ := int_u8 hx
  exact sbcRefuses_spec hlb hbl hp hpb hP h
end Go.Proofs.Ytaneeadpjelomaa
