import Derived.Test.YtaneeadpjelomaaDoorB6
/- Layer 14: what any command may come to; the law of what is refused. -/
namespace Go.Proofs.YtaneeadpjelomaaDoor
open Go CF

theorem lay_len' {l : L8} {at_ n : Nat} (v : Nat) (h : at_ + n ≤ l.length) : (lay l at_ n v).length = l.length := by rw [← layN_all]; exact layN_len v h (Nat.le_refl _)
section
variable {w u : World} {dv ps pw : Nat} {file : ByteArray} {kind n : Nat} {cache : Bool} {D D' : Nat → Prop} {st : Wst} {bs : List Bk} {m : Nat}
theorem capacity_spec {c : Cm} {K : Array Value → World → Prop} (h : Dv w dv ps pw file kind n cache D st bs m) (hK : ∀ d u, Grow w u → K (rsv 0 sn0 d).toArray u) : Csbc_Dev_capacity (some ⟨dv, 0, none⟩) (cmv c).toArray w K := by
  refine Fsbc_Dev_capacity.calls _ _ _ _ ?_
  have hsz := h.size
  refine new_rule fun cb w0 hcb hb0 hg0 hsz0 => ?_
  have hb0 : Blk w0 cb (cmv c).toArray t_api_Cmd := hb0
  refine new_rule fun ab w1 hab hb1 hg1 hsz1 => ?_
  have hb1 : Blk w1 ab z10 t_api_Result := hb1
  have hc1 : Blk w1 cb (cmv c).toArray t_api_Cmd := hg1.heap hb0 (fun q => q)
  have hgw1 := hg0.trans hg1
  have s0 := hg0.size
  refine blocks_spec (h.grow hgw1) ⟨c.long, by rw [add0, hc1.cell]; rfl, ?_⟩
  have en : IntKind.wrap .u64 ((n : Int) - 1) = ((n - 1 : Nat) : Int) := by rw [wu64 (by omega) (by omega)]; omega
  rw [en]
  have fin : ∀ {v : World} {d : Sl}, Grow w1 v → Csbc_good d v fun g w06 => RunU Tryd.prog (storeVar t_api_Result ⟨ab, 0, none⟩ (.agg g)) w06 fun w07 => ∃ res : Array Value, (loadVar t_api_Result ⟨ab, 0, none⟩).run Tryd.prog w07 = .ok (.agg res) w07 ∧ K res w07 := fun {v d} hv =>
    good_spec fun v2 hv2 => ret_rule ((hv.trans hv2).heap hb1 (fun q => q)) rfl fun v3 hk3 => hK d v3 (grow_new (hgw1.trans (hv.trans hv2)) (by omega) hk3)
  have hrep : ∀ k, (List.replicate k (Value.int .u8 0)) = bv (List.replicate k 0) := fun k => by simp [bv]
  have p4 : (256 : Nat) ^ 4 = 4294967296 := rfl
  have p8 : (256 : Nat) ^ 8 = 18446744073709551616 := rfl
  cases hlong : c.long with
  | false =>
    refine br_t rfl ?_
    refine make_rule (n := 8) (base := w1.heap.size) u_sl_uint8 i_uint8 rfl (by decide) (by decide) (Nat.le_refl _) fun w2 hown2 hg2 _ => ?_
    rw [hrep] at hown2
    refine put_spec (at_ := 0) (n := 4) (v := n - 1) (hown2.rd (by show 8 ≤ _; omega)) (by show 8 ≤ _; omega) (by decide) (by decide) (by simp) (by omega) fun s3 w3 hown3 hg3 => ?_
    have hn3 := own_n' hown3
    rw [lay_len' _ (by simp), List.length_replicate] at hn3
    refine put_spec (at_ := 4) (n := 4) (v := 16) (hown3.rd (by omega)) (by omega) (by decide) (by decide) (by rw [lay_len' _ (by simp)]; simp) (by omega) fun s4 w4 hown4 hg4 => ?_
    exact fin ((hg2.trans hg3).trans hg4)
  | true =>
    refine br_f rfl ?_
    refine make_rule (n := 32) (base := w1.heap.size) u_sl_uint8 i_uint8 rfl (by decide) (by decide) (Nat.le_refl _) fun w2 hown2 hg2 _ => ?_
    rw [hrep] at hown2
    refine put_spec (at_ := 0) (n := 8) (v := n - 1) (hown2.rd (by show 32 ≤ _; omega)) (by show 32 ≤ _; omega) (by decide) (by decide) (by simp) (by omega) fun s3 w3 hown3 hg3 => ?_
    have hn3 := own_n' hown3
    rw [lay_len' _ (by simp), List.length_replicate] at hn3
    refine put_spec (at_ := 8) (n := 4) (v := 16) (hown3.rd (by omega)) (by omega) (by decide) (by decide) (by rw [lay_len' _ (by simp)]; simp) (by omega) fun s4 w4 hown4 hg4 => ?_
    have hn4 := own_n' hown4
    rw [lay_len' _ (by rw [lay_len' _ (by simp)]; simp), lay_len' _ (by simp), List.length_replicate] at hn4
    have hgw := (hg2.trans hg3).trans hg4
    have h4 := h.grow (hgw1.trans hgw)
    generalize lay (lay (List.replicate 32 0) 0 8 (n - 1)) 8 4 16 = l4 at *
    have hr4 := hown4.rd (by omega)
    obtain ⟨hA, _⟩ := rd_at hr4 (i := 0) (by rw [rd_n' hr4]; omega)
    refine ⟨rfl, (kind : Int), dev1 h4.dev, ?_⟩
    refine letX0 (fun y => ∃ vs : List Value, Grow w1 y ∧ Own y w3.heap.size t_uint8 1 s4 vs) ?_ (fun J => ?_)
    · rintro y ⟨vs, hgy, hoy⟩
      refine ⟨⟨by decide, by omega, hA⟩, own_put (i := 14) hoy (by omega) rfl fun y2 hoy2 hky2 _ => ?_⟩
      have hw3 : w1.heap.size ≤ w3.heap.size := (hg2.trans hg3).size
      have hgy2 : Grow w1 y2 := own_grow' hgy hoy hw3 hky2
      have hcap := (hoy2.rd (by omega)).cap
      refine ⟨c.alloc, by rw [add0, Blk.cell (hgy2.heap hc1 (fun q => q))]; rfl, ⟨by decide, ?_, ?_, hcap⟩, fin hgy2⟩
      · unfold mn mx; split <;> split <;> omega
      · unfold mn mx; split <;> split <;> omega
    · by_cases hk : kind > 0
      · refine br_t (by rw [decide_eq_true_eq]; omega) ⟨rfl, (kind : Int), dev1 h4.dev, ⟨by decide, by omega, hA⟩, own_put (i := 12) hown4 (by omega) rfl fun y hoy hky _ => J y ⟨_, own_grow' hgw hown4 (hg2.trans hg3).size hky, hoy⟩⟩
      · exact br_f (by rw [decide_eq_false_iff_not]; omega) (J w4 ⟨_, hgw, hown4⟩)
/-- whatever a command is -/
theorem do_any {c : Cm} {p : Sl} {l : L8} {R : Array Value → World → Prop} (h : Dv w dv ps pw file kind n cache D st bs m) (hm : m ≤ 800000) (hp : Rd w 1 p (bv l)) (hb : p.n ≤ 140737488351232) (hpk : ∀ v, Keep D w v → Rd v 1 p (bv l)) (hlb : c.lba < 18446744073709551616) (hbl : c.blocks < 18446744073709551616)
    (hR : ∀ s sn d u, Keep D w u → (s = 0 ∧ sn = sn0 ∨ s = 2 ∧ d = nilS) → (sn.key = 5 → Grow w u) → R (rsv s sn d).toArray u) : Csbc_Dev_Do (some ⟨dv, 0, none⟩) (cmv c).toArray p w R := by
  have kD : ∀ {v}, Grow w v → Keep D w v := fun g => g.mono fun _ _ q => q.elim
  have bad : ∀ {sn : Sn} {v : World}, Grow w v → R (rsv 2 sn nilS).toArray v := fun g => hR _ _ _ _ (kD g) (.inr ⟨rfl, rfl⟩) fun _ => g
  have ok : ∀ {d : Sl} {v : World}, Keep D w v → R (rsv 0 sn0 d).toArray v := fun k => hR _ _ _ _ k (.inl ⟨rfl, rfl⟩) fun q => by cases q
  have ill : ∀ {key code info : Nat} {v : World}, Keep D w v → key ≠ 5 → R (rsv 2 (atS key code info) nilS).toArray v := fun k q => hR _ _ _ _ k (.inr ⟨rfl, rfl⟩) fun e => absurd e q
  refine do_spec h (by omega) hp hb hlb hbl (fun _ u g => bad g) (fun _ _ _ _ u g => bad g) (fun _ _ _ _ d u k _ _ => ok k) (fun _ _ _ i hi _ u k _ => ill k (by decide)) (fun _ _ _ _ u g => bad g) (fun _ _ _ _ _ _ i hi _ _ u g => bad g) (fun _ _ _ _ _ _ u D' k _ _ => ok k) (fun _ _ _ u D' k _ _ => ok k)
    (fun hkn hin ab y hy hab hby => ?_) (fun _ _ _ _ _ _ _ _ _ _ u g => bad g)
  have hyD := h.grow hy
  have py := hp.grow hy
  have fin : ∀ {s : Nat} {sn : Sn} {d : Sl} {z : World}, Keep D y z → (s = 0 ∧ sn = sn0 ∨ s = 2 ∧ d = nilS) → sn.key ≠ 5 → Ends D y ab R (rsv s sn d).toArray z := fun k e q => ⟨k, _, _, _, rfl, fun v' hv' => hR _ _ _ _ (fin_keep hy hab k hv') e fun r => absurd r q⟩
  have finG : ∀ {sn : Sn} {z : World}, Grow y z → Ends D y ab R (rsv 2 sn nilS).toArray z := fun g => ⟨g.mono fun _ _ q => q.elim, _, _, _, rfl, fun v' hv' => bad (grow_new (hy.trans g) hab hv')⟩
  have fok : ∀ {d : Sl} {z : World}, Keep D y z → Ends D y ab R (rsv 0 sn0 d).toArray z := fun k => fin k (.inl ⟨rfl, rfl⟩) (by decide)
  have fill : ∀ {key code info : Nat} {z : World}, Keep D y z → key ≠ 5 → Ends D y ab R (rsv 2 (atS key code info) nilS).toArray z := fun k q => fin k (.inr ⟨rfl, rfl⟩) q
  refine ⟨fun k10 => ?_, fun k12 => ?_, fun k13 => ?_, fun k14 => ?_, fun k6 => ?_⟩
  · exact dev_verify_spec hyD (by omega) py hb (by omega) (fun _ _ u g => finG g) (fun i hi _ u k _ => fill k (by decide)) (fun _ _ i _ u k _ => fill k (by decide)) (fun _ _ u k _ => fok k)
  · exact dev_same_spec hyD (by omega) py hb (by omega) (fun _ u g => finG g) (fun _ code info u g => finG g) (fun b0 _ _ _ u D' st' k _ _ => fok k) (fun b0 _ _ u D' st' k _ _ => fok k)
  · exact dev_unmap_spec hyD (by omega) py hb (fun v k => hpk v ((kD hy).trans k fun _ _ q => q)) (fun _ u g => fok (g.mono fun _ _ q => q.elim)) (fun sn _ _ u g => finG g) (fun u D' st' _ k _ _ => fok k)
  · exact dev_compare_spec hyD (by omega) py hb (by omega) rfl (fun _ u g => finG g) (fun _ code info u j k _ _ => fill k (by decide)) (fun _ i _ u k _ => fill k (by decide)) (fun _ _ u D' k _ _ => fok k)
  · exact capacity_spec hyD fun d u g => fok (g.mono fun _ _ q => q.elim)
theorem do_none {c : Cm} {p : Sl} {R : Array Value → World → Prop} (hR : ∀ u, Grow w u → R (rsv 2 ⟨5, 9472, 0, false, 0, 0, false, false⟩ nilS).toArray u) : Csbc_Dev_Do none (cmv c).toArray p w R := by
  refine Fsbc_Dev_Do.calls _ _ _ _ _ ?_
  refine new_rule fun cb w0 hcb hb0 hg0 hsz0 => ?_
  refine new_rule fun ab w1 hab hb1 hg1 hsz1 => ?_
  have s0 := hg0.size
  refine ⟨fun q => (by cases q), none, fun q => (by cases q), br_t rfl (fails_spec (s := ⟨5, 9472, 0, false, 0, 0, false, false⟩) fun w3 hg3 => ret_rule (hg3.heap hb1 (fun q => q)) rfl fun v' hk => hR v' (grow_new ((hg0.trans hg1).trans hg3) (by omega) hk))⟩
end
theorem int_u64 {x : Int} (h : (Lit.int .u64 x).wf = true) : ∃ n : Nat, x = (n : Int) ∧ n < 18446744073709551616 := by
  simp [Lit.wf, IntKind.min, IntKind.max, IntKind.signed, IntKind.bits] at h
  exact ⟨x.toNat, by omega, by omega⟩
theorem fit_i {k : IntKind} {v : Value} (h : (Kd.i k).fit v = true) : ∃ n, v = .int k n := ⟨_, (mk_un h).symm⟩
theorem fit_b {v : Value} (h : Kd.b.fit v = true) : ∃ b, v = .bool b := ⟨_, (mk_un h).symm⟩
theorem opens_cmd_of {cs : List Value} (h : FitL [.i .u8, .b, .i .u64, .i .u64, .i .i64, .b, .i .u8, .b, .b, .i .u8, .i .u8, .b, .i .u8, .i .u8, .b] cs) (hk : ∀ v ∈ cs, okV v) : ∃ c : Cm, cs = cmv c ∧ c.lba < 18446744073709551616 ∧ c.blocks < 18446744073709551616 := by
  match cs, h with
  | [v0, v1, v2, v3, v4, v5, v6, v7, v8, v9, v10, v11, v12, v13, v14], h =>
    obtain ⟨h0, h1, h2, h3, h4, h5, h6, h7, h8, h9, h10, h11, h12, h13, h14, _⟩ := h
    obtain ⟨x0, rfl⟩ := fit_i h0
    obtain ⟨x1, rfl⟩ := fit_b h1
    obtain ⟨x2, rfl⟩ := fit_i h2
    obtain ⟨x3, rfl⟩ := fit_i h3
    obtain ⟨x4, rfl⟩ := fit_i h4
    obtain ⟨x5, rfl⟩ := fit_b h5
    obtain ⟨x6, rfl⟩ := fit_i h6
    obtain ⟨x7, rfl⟩ := fit_b h7
    obtain ⟨x8, rfl⟩ := fit_b h8
    obtain ⟨x9, rfl⟩ := fit_i h9
    obtain ⟨x10, rfl⟩ := fit_i h10
    obtain ⟨x11, rfl⟩ := fit_b h11
    obtain ⟨x12, rfl⟩ := fit_i h12
    obtain ⟨x13, rfl⟩ := fit_i h13
    obtain ⟨x14, rfl⟩ := fit_b h14
    obtain ⟨y0, rfl, z0⟩ := int_u8 (hk _ (by simp) : okV (.int .u8 x0))
    obtain ⟨y2, rfl, z2⟩ := int_u64 (hk _ (by simp) : okV (.int .u64 x2))
    obtain ⟨y3, rfl, z3⟩ := int_u64 (hk _ (by simp) : okV (.int .u64 x3))
    obtain ⟨y6, rfl, z6⟩ := int_u8 (hk _ (by simp) : okV (.int .u8 x6))
    obtain ⟨y9, rfl, z9⟩ := int_u8 (hk _ (by simp) : okV (.int .u8 x9))
    obtain ⟨y10, rfl, z10⟩ := int_u8 (hk _ (by simp) : okV (.int .u8 x10))
    obtain ⟨y12, rfl, z12⟩ := int_u8 (hk _ (by simp) : okV (.int .u8 x12))
    obtain ⟨y13, rfl, z13⟩ := int_u8 (hk _ (by simp) : okV (.int .u8 x13))
    exact ⟨⟨y0, x1, y2, y3, x4, x5, y6, x7, x8, y9, y10, x11, y12, y13, x14⟩, rfl, z2, z3⟩
section
variable {H : Type} {enc : TypeId × Value → H} {w : World} {base : Nat} {spare : Nat → Bool} {held : Bool}
theorem opens_cmd : Opens enc Tryd.prog w base spare held t_api_Cmd fun cs => ∃ c : Cm, cs = cmv c ∧ c.lba < 18446744073709551616 ∧ c.blocks < 18446744073709551616 :=
  (opens_flat 8 t_api_Cmd _ (by kernel_rfl) (by kernel_rfl)).mono fun _ ⟨h, hk⟩ => opens_cmd_of h hk
end
end Go.Proofs.YtaneeadpjelomaaDoor

/- Layer 15: the laws of parameters; a list as an argument. -/
namespace Go.Proofs.YtaneeadpjelomaaDoor
open Go CF

theorem list2 : ∀ {cs : List Value}, cs.length = 2 → ∃ c0 c1, cs = [c0, c1]
  | [a, b], _ => ⟨a, b, rfl⟩
theorem parseX_few (p : L8) : (parseX p).us.length ≤ 8 ∧ (parseX p).ss.length ≤ 8 := by
  by_cases h : (parseX p).ok = true
  · by_cases hne : p = []
    · subst hne; exact ⟨by decide, by decide⟩
    · obtain ⟨h1, _, _, h2⟩ := parse_ok hne h
      have := h1.few
      rw [h2]
      simp only [unitsX_len, segsX_len]
      omega
  · have e : ∀ s : Sn, (noX s).us.length ≤ 8 ∧ (noX s).ss.length ≤ 8 := fun s => ⟨by show 0 ≤ 8; decide, by show 0 ≤ 8; decide⟩
    unfold parseX at h ⊢
    split
    · exact ⟨by decide, by decide⟩
    · rename_i h0
      rw [if_neg h0] at h
      split
      · exact e _
      · rename_i h1
        rw [h1] at h
        simp only at h
        split
        · exact e _
        · rename_i h2
          rw [h2] at h
          simp only at h
          split
          · exact e _
          · rename_i h3
            rw [h3] at h
            exact absurd rfl h
theorem xcopyReads_spec {p : Sl} {l : L8} {w : World} {R : Bool → World → Prop} (hp : Rd w 1 p (bv l)) (h : ∀ w', Grow w w' → R true w') : Cpalletlaw15_XcopyReads p w R := by
  refine Fpalletlaw15_XcopyReads.calls _ _ _ ?_
  refine awake15_spec fun w0 hg0 => br_f rfl ?_
  have hf := parseX_few l
  refine parse_held (hp.grow hg0) fun U S lb sb w1 hg1 hU1 hS1 _ _ hlb hsb => ?_
  refine rparse_held (hp.grow (hg0.trans hg1)) fun U' S' mb tb w2 hg2 hU2 hS2 _ _ hmb htb => ?_
  refine ⟨_, lLoad (hg2.heap hlb (fun q => q)), _, rlLoad hmb, ?_⟩
  have l1 := hU1.len
  have l2 := hS1.len
  have l3 := hU2.len
  have l4 := hS2.len
  rw [strsV_len] at l1 l3
  rw [flat_len5] at l2 l4
  refine same15_spec ((hU1.grow hg2).rd (by omega)) ((hS1.grow hg2).rd (by omega)) (hU2.rd (by omega)) (hS2.rd (by omega)) (by omega) fun b w3 hg3 hb => ?_
  have hbt : b = true := hb.2 ⟨rfl, rfl⟩
  subst hbt
  obtain ⟨r, hr, hrun⟩ := eql_rule (x := .tmp 31) (y := .tmp 32) flat_api_Sense kd_api_Sense gt_api_Sense (fit_snv (parseX l).sn) (fit_snv (parseX l).sn)
  have hrt : r = true := hr.2 rfl
  subst hrt
  refine ⟨_, fun _ => sLoad (blk_cells ((hg2.trans hg3).heap hsb (fun q => q))), _, fun _ => sLoad (blk_cells (hg3.heap htb (fun q => q))), true, fun _ => hrun w3, ?_⟩
  have := h w3 (((hg0.trans hg1).trans hg2).trans hg3)
  simpa using this
theorem bytesX_good {us : List L8} {ss : List SegX} (h : (bytesX us ss).2 = 0) : us.length ≤ 8 ∧ ss.length ≤ 8 ∧ (∀ s ∈ us, uOk s) ∧ (∀ x ∈ ss, sOk us.length x) ∧ (bytesX us ss).1 = allX us ss := by
  unfold bytesX at h ⊢
  split at h
  · cases h
  · rename_i h8
    split at h
    · rename_i ha
      rw [if_neg h8, if_pos ha]
      exact ⟨by omega, by omega, ha.1, ha.2, rfl⟩
    · cases h
theorem bytesX_len (us : List L8) (ss : List SegX) : (bytesX us ss).1.length ≤ 1000 ∧ (bytesX us ss).2 ≤ 3 := by
  by_cases h : (bytesX us ss).2 = 0
  · obtain ⟨a, b, c, _, e⟩ := bytesX_good h
    rw [e, allX_len c]; omega
  · unfold bytesX at h ⊢
    split
    · exact ⟨by decide, by decide⟩
    · rename_i h8
      rw [if_neg h8] at h
      split
      · rename_i ha
        rw [if_pos ha] at h
        exact absurd rfl h
      · exact ⟨by decide, by decide⟩
theorem xcopyBytes_spec {U S : Sl} {us : List L8} {ss : List SegX} {w : World} {R : Bool → World → Prop} (hU : Rd w 1 U (strsV us)) (hS : Rd w 5 S (ss.flatMap sgv)) (hb : ss.length * 40 ≤ 140737488351232) (hN : ∀ x ∈ ss, x.src < 18446744073709551616 ∧ x.dst < 18446744073709551616)
    (h : ∀ w', Grow w w' → R true w') : Cpalletlaw15_XcopyBytes (lsv U S) w R := by
  refine Fpalletlaw15_XcopyBytes.calls _ _ _ ?_
  refine new_rule fun lb w0 hlb hb0 hg0 hsz0 => ?_
  have hb0 : Blk w0 lb (lsv U S) t_xcopy_List := hb0
  refine awake15_spec fun w1 hg1 => br_f rfl ⟨_, lLoad (hg1.heap hb0 (fun q => q)), ?_⟩
  have g1 := hg0.trans hg1
  refine bytes_spec (hU.grow g1) (hS.grow g1) hN fun d w2 hg2 hd => ?_
  have g2 := g1.trans hg2
  refine ⟨_, lLoad ((hg1.trans hg2).heap hb0 (fun q => q)), ?_⟩
  refine of15_spec (U := U) (hS.grow g2) hb fun S' w3 hg3 hS3 => ?_
  have g3 := g2.trans hg3
  have n3 := hS3.len
  rw [flat_len5] at n3
  refine rbytes_spec (hU.grow g3) (hS3.rd (by omega)) hN fun e w4 hg4 he => ?_
  have g4 := g3.trans hg4
  have hl := bytesX_len us ss
  have dn := own_n' hd
  have en := own_n' he
  have hd4 := (hd.rd (by omega)).grow (hg3.trans hg4)
  have he4 := he.rd (by omega)
  refine ⟨str (bytesX us ss).1, fun _ => convStr_rule u_sl_uint8 u_uint8 u_string hd4, str (bytesX us ss).1, fun _ => convStr_rule u_sl_uint8 u_uint8 u_string he4, br_f (by rw [sEq_str]; simp) ?_⟩
  by_cases h0 : (bytesX us ss).2 = 0
  case neg => exact br_t (by rw [bne_iff_ne]; omega) (h w4 g4)
  obtain ⟨b1, b2, b3, b4, b5⟩ := bytesX_good h0
  have hpa : parseX (bytesX us ss).1 = ⟨us, ss, sn0, true⟩ := by rw [b5]; exact parse_all b1 b2 b3 b4 hN
  refine br_f (by rw [h0]; rfl) ?_
  refine parse_held hd4 fun U' T lb' sb' w5 hg5 hU5 hS5 _ _ hlb' hsb' => ?_
  rw [hpa] at hU5 hS5 ⊢
  rintro w6 rfl
  have l1 : us.length = U'.n * 1 := by have := hU5.len; rw [strsV_len] at this; exact this
  have l2 : 5 * ss.length = T.n * 5 := by have := hS5.len; rw [flat_len5] at this; exact this
  have hg56 := keep_drew w5
  refine ⟨fun u => Grow w5 u, hg56, _, fun _ u hu => lLoad (hu.heap hlb' (fun q => q)), _, fun _ u hu => lLoad ((((((hg1.trans hg2).trans hg3).trans hg4).trans hg5).trans hu).heap hb0 (fun q => q)), fun _ => ?_, fun q => by cases q⟩
  have g6 := (g4.trans hg5).trans hg56
  refine of15_spec (U := U) (hS.grow g6) hb fun S7 w7 hg7 hS7 => ?_
  have n7 := hS7.len
  rw [flat_len5] at n7
  refine ⟨hg56.trans hg7, fun _ => ?_, fun q => by cases q⟩
  refine same15_spec (us := us) (us' := us) (ss := ss) (ss' := ss) ((hU5.grow (hg56.trans hg7)).rd (by omega)) ((hS5.grow (hg56.trans hg7)).rd (by omega)) (hU.grow (g6.trans hg7)) (hS7.rd (by omega)) hb fun b w8 hg8 hb8 => ?_
  have hbt : b = true := hb8.2 ⟨rfl, rfl⟩
  subst hbt
  exact h w8 ((g6.trans hg7).trans hg8)
section
variable {H : Type} {enc : TypeId × Value → H} {w : World} {base : Nat} {spare : Nat → Bool} {held : Bool}
theorem opens_seg : Opens enc Tryd.prog w base spare held t_xcopy_Seg fun cs => ∃ x : SegX, cs = sgv x ∧ x.src < 18446744073709551616 ∧ x.dst < 18446744073709551616 := by
  refine (opens_flat 8 t_xcopy_Seg kSeg (by kernel_rfl) (by kernel_rfl)).mono ?_
  rintro cs ⟨h, hk⟩
  match cs, h with
  | [v0, v1, v2, v3, v4], h =>
    obtain ⟨h0, h1, h2, h3, h4, _⟩ := h
    obtain ⟨x0, rfl⟩ := fit_i h0
    obtain ⟨x1, rfl⟩ := fit_i h1
    obtain ⟨x2, rfl⟩ := fit_i h2
    obtain ⟨x3, rfl⟩ := fit_i h3
    obtain ⟨x4, rfl⟩ := fit_i h4
    obtain ⟨y3, rfl, z3⟩ := int_u64 (hk _ (by simp) : okV (.int .u64 x3))
    obtain ⟨y4, rfl, z4⟩ := int_u64 (hk _ (by simp) : okV (.int .u64 x4))
    exact ⟨⟨x0, x1, x2, y3, y4⟩, rfl, z3, z4⟩
theorem u_xcopy_List : Tryd.prog.underlying t_xcopy_List = some (.struct #[⟨"Units", t_sl_string, 0, false, "", "", 0⟩, ⟨"Segs", t_sl_xcopy_Seg, 1, false, "", "", 24⟩]) := by kernel_rfl
theorem flat_str (us : List L8) : us.flatMap (fun l => [Value.string (str l)]) = strsV us := by
  unfold strsV
  induction us with
  | nil => rfl
  | cons a r ih => simp only [List.flatMap_cons, ih, List.map_cons, List.singleton_append]
theorem opens_list : Opens enc Tryd.prog w base spare held t_xcopy_List fun cs => ∃ c : (Sl × Sl) × List L8 × List SegX, cs = (lsv c.1.1 c.1.2).toList ∧ Rd w 1 c.1.1 (strsV c.2.1) ∧ Rd w 5 c.1.2 (c.2.2.flatMap sgv) ∧ c.2.2.length * 40 ≤ 140737488351232 ∧ (∀ x ∈ c.2.2, x.src < 18446744073709551616 ∧ x.dst < 18446744073709551616) := by
  refine (opens_fields u_xcopy_List (Φ := [fun cs => ∃ s : Sl, cs = [.slice s.A s.n s.c] ∧ ∃ us : List L8, Rd w 1 s (us.flatMap (fun l => [Value.string (str l)])) ∧ us.length = s.n ∧ (∀ a ∈ us, a.length ≤ 140737488351232) ∧ s.n * 16 ≤ 140737488351232,
    fun cs => ∃ s : Sl, cs = [.slice s.A s.n s.c] ∧ ∃ ss : List SegX, Rd w 5 s (ss.flatMap sgv) ∧ ss.length = s.n ∧ (∀ a ∈ ss, a.src < 18446744073709551616 ∧ a.dst < 18446744073709551616) ∧ s.n * 40 ≤ 140737488351232]) rfl ?_).mono ?_
  · intro i f φ hf hφ
    match i with
    | 0 => injection hf with hf; injection hφ with hφ; subst hf; subst hφ; exact opens_slice (f := fun l : L8 => [Value.string (str l)]) (Q := fun l => l.length ≤ 140737488351232) (z := 1) (bytes := 16) u_sl_string (by kernel_rfl) (by kernel_rfl) (by decide) (fun _ => rfl) (opens_str u_string)
    | 1 => injection hf with hf; injection hφ with hφ; subst hf; subst hφ; exact opens_slice (f := sgv) (Q := fun x => x.src < 18446744073709551616 ∧ x.dst < 18446744073709551616) (z := 5) (bytes := 40) u_sl_xcopy_Seg (by kernel_rfl) (by kernel_rfl) (by decide) sgv_len opens_seg
    | i + 2 => simp at hφ
  · rintro cs ⟨hl, h⟩
    have hl : cs.length = 2 := hl.trans (by kernel_rfl)
    obtain ⟨U, hU, us, h1, _⟩ := h 0 _ _ rfl rfl
    obtain ⟨S, hS, ss, h2, h3, h4, h5⟩ := h 1 _ _ rfl rfl
    have e1 : Tryd.prog.cellsOf t_sl_string = 1 := by kernel_rfl
    have e2 : Tryd.prog.cellsOf t_sl_xcopy_Seg = 1 := by kernel_rfl
    change (cs.drop 0).take (Tryd.prog.cellsOf t_sl_string) = _ at hU
    change (cs.drop 1).take (Tryd.prog.cellsOf t_sl_xcopy_Seg) = _ at hS
    rw [e1] at hU
    rw [e2] at hS
    obtain ⟨c0, c1, rfl⟩ := list2 hl
    simp only [List.drop_zero, List.take_succ_cons, List.take_zero, List.drop_succ_cons, List.cons.injEq, and_true] at hU hS
    subst hU; subst hS
    rw [flat_str] at h1
    exact ⟨((U, S), us, ss), rfl, h1, h2, (by show ss.length * 40 ≤ _; omega), h4⟩
end
end Go.Proofs.YtaneeadpjelomaaDoor

/- Layer 15: the law of parameters that are spoiled. -/
namespace Go.Proofs.YtaneeadpjelomaaDoor
open Go CF

set_option maxHeartbeats 800000 in
theorem xcopySpoils_spec {U S : Sl} {us : List L8} {ss : List SegX} {AT BY : Nat} {w : World} {R : Bool → World → Prop} (hU : Rd w 1 U (strsV us)) (hS : Rd w 5 S (ss.flatMap sgv)) (hb : ss.length * 40 ≤ 140737488351232) (hN : ∀ x ∈ ss, x.src < 18446744073709551616 ∧ x.dst < 18446744073709551616)
    (hAT : AT < 65536) (hBY : BY < 256) (h : ∀ w', Grow w w' → R true w') : Cpalletlaw15_XcopySpoils (lsv U S) (AT : Int) (BY : Int) w R := by
  refine Fpalletlaw15_XcopySpoils.calls _ _ _ _ _ ?_
  unfold Fpalletlaw15_XcopySpoils
  have eA : IntKind.wrap .i64 (AT : Int) = (AT : Int) := w64 (by omega) (by omega)
  rw [eA]
  refine new_rule fun lb w0 hlb hb0 hg0 hsz0 => ?_
  have hb0 : Blk w0 lb (lsv U S) t_xcopy_List := hb0
  refine awake15_spec fun w1 hg1 => ?_
  have g1 := hg0.trans hg1
  by_cases hby : BY = 0
  · exact br_t (by rw [hby]; rfl) (awake15_spec fun w2 hg2 => h w2 (g1.trans hg2))
  refine br_f (by rw [Bool.or_eq_false_iff, beq_eq_false_iff_ne]; exact ⟨rfl, by omega⟩) ⟨_, lLoad (hg1.heap hb0 (fun q => q)), ?_⟩
  refine bytes_spec (hU.grow g1) (hS.grow g1) hN fun d w2 hg2 hd => ?_
  have g2 := g1.trans hg2
  have hlen := bytesX_len us ss
  by_cases h0 : (bytesX us ss).2 = 0
  case neg => exact br_t (by rw [bne_iff_ne]; omega) (h w2 g2)
  obtain ⟨b1, b2, b3, b4, b5⟩ := bytesX_good h0
  rw [b5] at hd
  have hal := allX_len (ss := ss) b3
  have dn := own_n' hd
  have sp := fun (i : Nat) (y : UInt8) (hi : i < (allX us ss).length) (hy : y ≠ (allX us ss)[i]) => spoils_x (y := y) b1 b2 b3 hi hy
  generalize hP : allX us ss = P at *
  refine br_f (by rw [h0]; rfl) ⟨by omega, ?_⟩
  have eM : ((AT : Int).tmod (d.n : Int)) = ((AT % P.length : Nat) : Int) := by rw [dn]; rfl
  rw [eM]
  have hI : AT % P.length < P.length := Nat.mod_lt _ (by omega)
  generalize AT % P.length = I at *
  refine append_rule (s := ⟨none, 0, 0⟩) (vs := []) (base := w2.heap.size) u_sl_uint8 i_uint8 rfl (by decide) (by decide) (own_nil _ _ _ _) (hd.rd (by omega)) (bv_one' _) (by show (0 + d.n) * 1 ≤ _; omega) (Nat.le_refl _) fun q w3 hn3 hown3 hk3 _ => ?_
  have hg3 : Grow w2 w3 := hk3.mono fun i hi q => by cases q
  rw [List.nil_append] at hown3
  have qn := own_n' hown3
  obtain ⟨a1, c1⟩ := rd_at (hown3.rd (by omega)) (i := I) hI
  obtain ⟨ex, hne⟩ := xor8' (a := (P.getD I 0).toNat) (b := BY) (P.getD I 0).toNat_lt hBY
  have hne := hne hby (P.getD I 0) rfl
  have eg : P.getD I 0 = P[I] := by rw [List.getD_eq_getElem?_getD, List.getElem?_eq_getElem hI]; rfl
  rw [Int.toNat_natCast]
  refine ⟨⟨by omega, by omega, a1⟩, _, c1, ⟨by omega, by omega, a1⟩, ?_⟩
  rw [ex]
  generalize UInt8.ofNat ((P.getD I 0).toNat ^^^ BY) = y at *
  rw [eg] at hne
  obtain ⟨s1, s2, s3⟩ := sp I y hI hne
  refine own_put hown3 (i := I) (by omega) rfl fun w4 hown4 hk4 _ => ?_
  rw [bv_set] at hown4
  have hg4 : Grow w2 w4 := own_grow' hg3 hown3 (Nat.le_refl _) hk4
  have g4 := g2.trans hg4
  have y1 := parseX_few (P.set I y)
  refine parse_held (hown4.rd (by omega)) fun U5 S5 lb5 sb5 w5 hg5 hU5 hS5 _ _ hlb5 hsb5 => ?_
  have hd5 := (hd.rd (by omega)).grow (hg4.trans hg5)
  have hcap := hd5.cap
  refine ⟨⟨by decide, by omega, by omega, hcap⟩, ?_⟩
  have hcut := hd5.cutB (l := 0) (k := I) (Nat.zero_le _) (by omega)
  rw [List.drop_zero, Nat.sub_zero] at hcut
  refine parse_held hcut fun U6 S6 lb6 sb6 w6 hg6 hU6 hS6 _ _ hlb6 hsb6 => ?_
  have hq6 := hown4.grow (hg5.trans hg6)
  refine Row.lit (w0 := w2) (l := [0]) ⟨hq6, hg4.trans (hg5.trans hg6)⟩ (by kernel_rfl) rfl (by rw [List.length_set]; show _ + 1 ≤ _; omega) fun q7 w7 hr7 hk7 => ?_
  have hb5' : ∀ {cs : Array Value} {b : Nat} {t : TypeId}, t ≠ t_uint8 → Blk w6 b cs t → Blk w7 b cs t := fun ht hb => hk7.heap hb fun e => ht (blk_type hb (own_heap hq6 e.symm).choose_spec)
  have hg27 := hr7.grow
  refine parse_held (hr7.rd (by rw [List.length_append, List.length_set]; show _ + 1 ≤ _; omega)) fun U8 S8 lb8 sb8 w8 hg8 hU8 hS8 _ _ hlb8 hsb8 => ?_
  have hg28 := hg27.trans hg8
  have g8 := g2.trans hg28
  rintro w9 rfl
  have hg9 := keep_drew w8
  have hm8 : Blk w8 lb5 (lsv U5 S5) t_xcopy_List := hg8.heap (hb5' (by decide) (hg6.heap hlb5 (fun q => q))) (fun q => q)
  have hl8 : Blk w8 lb (lsv U S) t_xcopy_List := ((hg1.trans hg2).trans hg28).heap hb0 (fun q => q)
  refine ⟨fun u => Grow w8 u, hg9, _, fun _ u hu => lLoad (hu.heap hm8 (fun q => q)), _, fun _ u hu => lLoad (hu.heap hl8 (fun q => q)), ?_⟩
  have fin : ∀ {b5 : Bool} {v : World}, Grow w8 v → ((parseX (P.set I y)).ok = true → b5 = true → False) → Br ((parseX (P.set I y)).ok && b5) (R false v) (R (((!(parseX (P.take I)).ok) || ((I : Int) == 0)) && (!(parseX (P.set I y ++ [0])).ok)) v) := fun {b5 v} hv hc => by
    refine br_f ?_ ?_
    · cases e1 : (parseX (P.set I y)).ok with
      | false => rfl
      | true => cases b5 with
        | false => rfl
        | true => exact (hc e1 rfl).elim
    · have e2 : (((!(parseX (P.take I)).ok) || ((I : Int) == 0)) && (!(parseX (P.set I y ++ [0])).ok)) = true := by
        rw [s3]
        cases e3 : (parseX (P.take I)).ok with
        | false => rfl
        | true => have := s2 e3; subst this; rfl
      rw [e2]
      exact h v (g8.trans hv)
  have gq : Grow w4 w6 := hg5.trans hg6
  have f67 : ∀ {e : TypeId} {z : Nat} {s : Sl} {vs : List Value} {B : Nat}, e ≠ t_uint8 → Own w6 B e z s vs → Own w7 B e z s vs := fun ht ho => ho.keep hk7 fun b hb e => ht (by
    obtain ⟨c1, h1⟩ := own_heap ho hb
    obtain ⟨c2, h2⟩ := own_heap hq6 e.symm
    rw [h1] at h2
    injection h2 with h2
    injection h2)
  cases e1 : (parseX (P.set I y)).ok with
  | false =>
    refine ⟨fun q => (by cases q), fun _ => ⟨hg9, fun q => (by cases q), fun _ => ?_⟩⟩
    have := fin (b5 := false) hg9 fun q => by rw [e1] at q; cases q
    rw [e1] at this
    exact this
  | true =>
    refine ⟨fun _ => ?_, fun q => by cases q⟩
    refine of15_spec (U := U) (hS.grow (g8.trans hg9)) hb fun T w10 hg10 hT => ?_
    have tn := hT.len
    rw [flat_len5] at tn
    refine ⟨hg9.trans hg10, fun _ => ?_, fun q => by cases q⟩
    have hU7 := ((f67 (by decide) (hU5.grow hg6)).grow hg8).grow (hg9.trans hg10)
    have hS7 := ((f67 (by decide) (hS5.grow hg6)).grow hg8).grow (hg9.trans hg10)
    have l1 := hU7.len
    have l2 := hS7.len
    rw [strsV_len] at l1
    rw [flat_len5] at l2
    refine same15_spec (hU7.rd (by omega)) (hS7.rd (by omega)) (hU.grow (g8.trans (hg9.trans hg10))) (hT.rd (by omega)) (by omega) fun b w11 hg11 hb11 => ?_
    have := fin (b5 := b) ((hg9.trans hg10).trans hg11) fun _ q => s1 ⟨e1, (hb11.1 q).1, (hb11.1 q).2⟩
    rw [e1] at this
    exact this
theorem xcopySpoils_row {U S : Sl} {us : List L8} {ss : List SegX} {x y : Int} {w : World} {R : Bool → World → Prop} (hU : Rd w 1 U (strsV us)) (hS : Rd w 5 S (ss.flatMap sgv)) (hb : ss.length * 40 ≤ 140737488351232) (hN : ∀ x ∈ ss, x.src < 18446744073709551616 ∧ x.dst < 18446744073709551616)
    (hx : (Lit.int .u16 x).wf = true) (hy : (Lit.int .u8 y).wf = true) (h : ∀ w', Grow w w' → R true w') : Cpalletlaw15_XcopySpoils (lsv U S) x y w R := by
  obtain ⟨A, rfl, hA⟩ := int_u16 hx
  obtain ⟨B, rfl, hB⟩ := int_u8 hy
  exact xcopySpoils_spec hU hS hb hN hA hB h
end Go.Proofs.YtaneeadpjelomaaDoor

/- Layer 15: what the rows of its laws import. -/
